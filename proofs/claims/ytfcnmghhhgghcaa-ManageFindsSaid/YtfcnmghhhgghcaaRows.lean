/-
  No cell of these rows narrows 'for every input' (looked for: loops, veiled, ifaces, maps, wideKeys, modest, calm, conditions, laid).
  DERIVED. THE GIVEN ROWS OF THIS SEAT. 3 by the template 'for every input the law returns true; each argument reads behind the call as it read before'; 0 by the template 'total and deterministic' (their statements: YtfcnmghhhgghcaaTotals.lean).
  GIVEN WITH THE SEED: the statements are not yours to turn. If you find one false, say at which input.
  Laid BY PROGRAM, IN A SANDBOX (cutbox-rows.mjs): the forced cells as the released guide's own fill.sh prints them over the translation a9a09390cb8ba372… (all of the seat's roots in one cut). By AI agents, Wed Nov 11 2026. No macro, syntax, notation, axiom, sorry.
-/
import Derived.Test.YtfcnmghhhgghcaaChecked
import GoSem.Claim
import GoSem.ClaimJoined
import GoSem.ClaimMapViews
import Derived.JoinedTies
import Derived.KernelRfl
namespace Go.Proofs.Ytfcnmghhhgghcaa
/- THE CELL 'sum', in the pinned program and in every row, IS THE sha256 OF THE DUMP (.gsa) THAT YtfcnmghhhgghcaaProg.lean LOADS. Nothing in Lean hashes anything: it is a label: what it is worth is what the hold of that sum in a sandbox is worth. -/
noncomputable def Try.pinned : Pinned := { name := "ytfcnmghhhgghcaa", sum := "a9a09390cb8ba372f198a700a04217583dd60d0843c38287e440bf2759ff0a5d", checked := Try.checked }
namespace Rows
def none {H : Type} : Left H := { results := [], args := [] }

/-- 'newellaw17.ManageTells': WHATEVER THE INPUT: true; the input reads as it did. -/
def manageTellsSpec : ChangeSpec := { name := "manageTells", fn := fun _ => fun
  | [d1, d2, d3] => { results := [.lit (.bool true)], args := [d1, d2, d3] }
  | _ => none }
def manageTellsRow : OpenClaim := { program := "ytfcnmghhhgghcaa", sum := "a9a09390cb8ba372f198a700a04217583dd60d0843c38287e440bf2759ff0a5d", func := "newel/newellaw17.ManageTells", spec := "manageTells", unfollowed := true, recurses := true, apart := false }
def ManageTellsSaid : Prop := manageTellsRow.holds Try.pinned (OpenSpec.ofChange manageTellsSpec)

/-- ITS FALSE NEIGHBOUR: 'it returns false'. Refute it at one input. -/
def manageTellsWrong : ChangeSpec := { name := "manageTells", fn := fun _ => fun
  | [d1, d2, d3] => { results := [.lit (.bool false)], args := [d1, d2, d3] }
  | _ => none }
def ManageTellsWrongFalsely : Prop := manageTellsRow.holds Try.pinned (OpenSpec.ofChange manageTellsWrong)

/-- 'newellaw17.ManageStays': WHATEVER THE INPUT: true; the input reads as it did. -/
def manageStaysSpec : ChangeSpec := { name := "manageStays", fn := fun _ => fun
  | [d1, d2] => { results := [.lit (.bool true)], args := [d1, d2] }
  | _ => none }
def manageStaysRow : OpenClaim := { program := "ytfcnmghhhgghcaa", sum := "a9a09390cb8ba372f198a700a04217583dd60d0843c38287e440bf2759ff0a5d", func := "newel/newellaw17.ManageStays", spec := "manageStays", unfollowed := true, recurses := true, apart := false }
def ManageStaysSaid : Prop := manageStaysRow.holds Try.pinned (OpenSpec.ofChange manageStaysSpec)

/-- ITS FALSE NEIGHBOUR: 'it returns false'. Refute it at one input. -/
def manageStaysWrong : ChangeSpec := { name := "manageStays", fn := fun _ => fun
  | [d1, d2] => { results := [.lit (.bool false)], args := [d1, d2] }
  | _ => none }
def ManageStaysWrongFalsely : Prop := manageStaysRow.holds Try.pinned (OpenSpec.ofChange manageStaysWrong)

/-- 'newellaw17.ManageFinds': WHATEVER THE INPUT: true; the input reads as it did. -/
def manageFindsSpec : ChangeSpec := { name := "manageFinds", fn := fun _ => fun
  | [d1, d2, d3] => { results := [.lit (.bool true)], args := [d1, d2, d3] }
  | _ => none }
def manageFindsRow : OpenClaim := { program := "ytfcnmghhhgghcaa", sum := "a9a09390cb8ba372f198a700a04217583dd60d0843c38287e440bf2759ff0a5d", func := "newel/newellaw17.ManageFinds", spec := "manageFinds", unfollowed := true, recurses := true, apart := false }
def ManageFindsSaid : Prop := manageFindsRow.holds Try.pinned (OpenSpec.ofChange manageFindsSpec)

/-- ITS FALSE NEIGHBOUR: 'it returns false'. Refute it at one input. -/
def manageFindsWrong : ChangeSpec := { name := "manageFinds", fn := fun _ => fun
  | [d1, d2, d3] => { results := [.lit (.bool false)], args := [d1, d2, d3] }
  | _ => none }
def ManageFindsWrongFalsely : Prop := manageFindsRow.holds Try.pinned (OpenSpec.ofChange manageFindsWrong)

/- THE SECOND FORM. 'bulk': how many values and letters a reading holds, each counted each time it is reached (what is shared counts as often as it is met; a slice's spare places count too). A statement '..UptoSaid' is the law's where the arguments, and the package variables that the reading takes, are together of bulk at most 1048576: NARROWER than '..Said'. Prove '..Said' where nothing that the law and all that it calls make is longer than what came in: it says more and counts as full. Else prove '..UptoSaid'. A law counts once. -/
mutual
def uptoBulk {H : Type} : DataW H → Nat
  | .lit (.string bytes) => bytes.length + 1
  | .lit _ => 1
  | .nil => 1
  | .ptr d => uptoBulk d + 1
  | .slice elems spare => uptoBulkAll elems + uptoBulkAll spare + 1
  | .agg parts => uptoBulkAll parts + 1
  | .iface _ d => uptoBulk d + 1
  | .map entries => uptoBulkEntries entries + 1
  | .held _ => 1
def uptoBulkAll {H : Type} : List (DataW H) → Nat
  | [] => 0
  | d :: r => uptoBulk d + uptoBulkAll r
def uptoBulkEntries {H : Type} : List (Lit × DataW H) → Nat
  | [] => 0
  | x :: r => uptoBulkEntry x + uptoBulkEntries r
def uptoBulkEntry {H : Type} : Lit × DataW H → Nat
  | (.string bytes, d) => bytes.length + uptoBulk d + 1
  | (_, d) => uptoBulk d + 1
 end
def uptoSmall : (H : Type) → List (DataW H) → Bool := fun _ ds => decide (uptoBulkAll ds ≤ 1048576)
def OpenSpec.upto (s : _root_.Go.ChangeSpec) : _root_.Go.OpenSpec := { _root_.Go.OpenSpec.ofChange s with cond := some uptoSmall }

/-- 'newellaw17.ManageTells', WHERE WHAT IT READS IS OF BULK AT MOST 1048576: true; the input reads as it did. -/
def manageTellsUptoRow : OpenClaim := { program := "ytfcnmghhhgghcaa", sum := "a9a09390cb8ba372f198a700a04217583dd60d0843c38287e440bf2759ff0a5d", func := "newel/newellaw17.ManageTells", spec := "manageTells", unfollowed := true, recurses := true, apart := false, narrowed := true }
def ManageTellsUptoSaid : Prop := manageTellsUptoRow.holds Try.pinned (OpenSpec.upto manageTellsSpec)

/-- 'newellaw17.ManageStays', WHERE WHAT IT READS IS OF BULK AT MOST 1048576: true; the input reads as it did. -/
def manageStaysUptoRow : OpenClaim := { program := "ytfcnmghhhgghcaa", sum := "a9a09390cb8ba372f198a700a04217583dd60d0843c38287e440bf2759ff0a5d", func := "newel/newellaw17.ManageStays", spec := "manageStays", unfollowed := true, recurses := true, apart := false, narrowed := true }
def ManageStaysUptoSaid : Prop := manageStaysUptoRow.holds Try.pinned (OpenSpec.upto manageStaysSpec)

/-- 'newellaw17.ManageFinds', WHERE WHAT IT READS IS OF BULK AT MOST 1048576: true; the input reads as it did. -/
def manageFindsUptoRow : OpenClaim := { program := "ytfcnmghhhgghcaa", sum := "a9a09390cb8ba372f198a700a04217583dd60d0843c38287e440bf2759ff0a5d", func := "newel/newellaw17.ManageFinds", spec := "manageFinds", unfollowed := true, recurses := true, apart := false, narrowed := true }
def ManageFindsUptoSaid : Prop := manageFindsUptoRow.holds Try.pinned (OpenSpec.upto manageFindsSpec)

end Rows
end Go.Proofs.Ytfcnmghhhgghcaa
