/-
  No cell of these rows narrows 'for every input' (looked for: loops, veiled, ifaces, maps, wideKeys, modest, calm, conditions, laid).
  DERIVED. THE GIVEN ROWS OF THIS SEAT. 3 by the template 'for every input the law returns true; each argument reads behind the call as it read before'; 0 by the template 'total and deterministic' (their statements: YtndleookkaoojaaTotals.lean).
  GIVEN WITH THE SEED: the statements are not yours to turn. If you find one false, say at which input.
  Laid BY PROGRAM, IN A SANDBOX (cutbox-rows.mjs): the forced cells as the released guide's own fill.sh prints them over the translation 211ba51fe8beacac… (all of the seat's roots in one cut). By AI agents, Wed Nov 11 2026. No macro, syntax, notation, axiom, sorry.
-/
import Derived.Test.YtndleookkaoojaaChecked
import GoSem.Claim
import GoSem.ClaimJoined
import GoSem.ClaimMapViews
import Derived.JoinedTies
import Derived.KernelRfl
namespace Go.Proofs.Ytndleookkaoojaa
/- THE CELL 'sum', in the pinned program and in every row, IS THE sha256 OF THE DUMP (.gsa) THAT YtndleookkaoojaaProg.lean LOADS. Nothing in Lean hashes anything: it is a label: what it is worth is what the hold of that sum in a sandbox is worth. -/
noncomputable def Try.pinned : Pinned := { name := "ytndleookkaoojaa", sum := "211ba51fe8beacac6b5f2e54d63f0623ab17b37294846bfe951024985240d373", checked := Try.checked }
namespace Rows
def none {H : Type} : Left H := { results := [], args := [] }

/-- 'newellaw21.ExcludeTells': WHATEVER THE INPUT: true; the input reads as it did. -/
def excludeTellsSpec : ChangeSpec := { name := "excludeTells", fn := fun _ => fun
  | [d1, d2, d3, d4] => { results := [.lit (.bool true)], args := [d1, d2, d3, d4] }
  | _ => none }
def excludeTellsRow : OpenClaim := { program := "ytndleookkaoojaa", sum := "211ba51fe8beacac6b5f2e54d63f0623ab17b37294846bfe951024985240d373", func := "newel/newellaw21.ExcludeTells", spec := "excludeTells", unfollowed := true, recurses := true, apart := false }
def ExcludeTellsSaid : Prop := excludeTellsRow.holds Try.pinned (OpenSpec.ofChange excludeTellsSpec)

/-- ITS FALSE NEIGHBOUR: 'it returns false'. Refute it at one input. -/
def excludeTellsWrong : ChangeSpec := { name := "excludeTells", fn := fun _ => fun
  | [d1, d2, d3, d4] => { results := [.lit (.bool false)], args := [d1, d2, d3, d4] }
  | _ => none }
def ExcludeTellsWrongFalsely : Prop := excludeTellsRow.holds Try.pinned (OpenSpec.ofChange excludeTellsWrong)

/-- 'newellaw21.ExcludeMore': WHATEVER THE INPUT: true; the input reads as it did. -/
def excludeMoreSpec : ChangeSpec := { name := "excludeMore", fn := fun _ => fun
  | [d1, d2, d3, d4] => { results := [.lit (.bool true)], args := [d1, d2, d3, d4] }
  | _ => none }
def excludeMoreRow : OpenClaim := { program := "ytndleookkaoojaa", sum := "211ba51fe8beacac6b5f2e54d63f0623ab17b37294846bfe951024985240d373", func := "newel/newellaw21.ExcludeMore", spec := "excludeMore", unfollowed := true, recurses := true, apart := false }
def ExcludeMoreSaid : Prop := excludeMoreRow.holds Try.pinned (OpenSpec.ofChange excludeMoreSpec)

/-- ITS FALSE NEIGHBOUR: 'it returns false'. Refute it at one input. -/
def excludeMoreWrong : ChangeSpec := { name := "excludeMore", fn := fun _ => fun
  | [d1, d2, d3, d4] => { results := [.lit (.bool false)], args := [d1, d2, d3, d4] }
  | _ => none }
def ExcludeMoreWrongFalsely : Prop := excludeMoreRow.holds Try.pinned (OpenSpec.ofChange excludeMoreWrong)

/-- 'newellaw21.ExcludeJust': WHATEVER THE INPUT: true; the input reads as it did. -/
def excludeJustSpec : ChangeSpec := { name := "excludeJust", fn := fun _ => fun
  | [d1, d2, d3, d4] => { results := [.lit (.bool true)], args := [d1, d2, d3, d4] }
  | _ => none }
def excludeJustRow : OpenClaim := { program := "ytndleookkaoojaa", sum := "211ba51fe8beacac6b5f2e54d63f0623ab17b37294846bfe951024985240d373", func := "newel/newellaw21.ExcludeJust", spec := "excludeJust", unfollowed := true, recurses := true, apart := false }
def ExcludeJustSaid : Prop := excludeJustRow.holds Try.pinned (OpenSpec.ofChange excludeJustSpec)

/-- ITS FALSE NEIGHBOUR: 'it returns false'. Refute it at one input. -/
def excludeJustWrong : ChangeSpec := { name := "excludeJust", fn := fun _ => fun
  | [d1, d2, d3, d4] => { results := [.lit (.bool false)], args := [d1, d2, d3, d4] }
  | _ => none }
def ExcludeJustWrongFalsely : Prop := excludeJustRow.holds Try.pinned (OpenSpec.ofChange excludeJustWrong)

/- THE SECOND FORM. 'bulk': how many values and letters a reading holds, each counted each time it is reached (what is shared counts as often as it is met; a slice's spare places count too). A statement '..UptoSaid' is the law's where the arguments, and the package variables that the reading takes, are together of bulk at most 1048576: NARROWER than '..Said'. Prove '..Said' where nothing that the law and all that it calls make is longer than what came in: it says more and counts as full. Else prove '..UptoSaid'. A law counts once. -/
mutual
def uptoBulk {H : Type} : DataW H → Nat
  | .lit (.string bytes) => bytes.length + 1
  | .lit _ => 1
  | .nil => 1
  | .ptr d => uptoBulk d + 1
  | .slice elems spare => uptoBulkAll elems + uptoBulkAll spare + 1
  | .agg parts => uptoBulkAll parts + 1
  | .iface _ d => uptoBulk d + 1
  | .map entries => uptoBulkEntries entries + 1
  | .held _ => 1
def uptoBulkAll {H : Type} : List (DataW H) → Nat
  | [] => 0
  | d :: r => uptoBulk d + uptoBulkAll r
def uptoBulkEntries {H : Type} : List (Lit × DataW H) → Nat
  | [] => 0
  | x :: r => uptoBulkEntry x + uptoBulkEntries r
def uptoBulkEntry {H : Type} : Lit × DataW H → Nat
  | (.string bytes, d) => bytes.length + uptoBulk d + 1
  | (_, d) => uptoBulk d + 1
 end
def uptoSmall : (H : Type) → List (DataW H) → Bool := fun _ ds => decide (uptoBulkAll ds ≤ 1048576)
def OpenSpec.upto (s : _root_.Go.ChangeSpec) : _root_.Go.OpenSpec := { _root_.Go.OpenSpec.ofChange s with cond := some uptoSmall }

/-- 'newellaw21.ExcludeTells', WHERE WHAT IT READS IS OF BULK AT MOST 1048576: true; the input reads as it did. -/
def excludeTellsUptoRow : OpenClaim := { program := "ytndleookkaoojaa", sum := "211ba51fe8beacac6b5f2e54d63f0623ab17b37294846bfe951024985240d373", func := "newel/newellaw21.ExcludeTells", spec := "excludeTells", unfollowed := true, recurses := true, apart := false, narrowed := true }
def ExcludeTellsUptoSaid : Prop := excludeTellsUptoRow.holds Try.pinned (OpenSpec.upto excludeTellsSpec)

/-- 'newellaw21.ExcludeMore', WHERE WHAT IT READS IS OF BULK AT MOST 1048576: true; the input reads as it did. -/
def excludeMoreUptoRow : OpenClaim := { program := "ytndleookkaoojaa", sum := "211ba51fe8beacac6b5f2e54d63f0623ab17b37294846bfe951024985240d373", func := "newel/newellaw21.ExcludeMore", spec := "excludeMore", unfollowed := true, recurses := true, apart := false, narrowed := true }
def ExcludeMoreUptoSaid : Prop := excludeMoreUptoRow.holds Try.pinned (OpenSpec.upto excludeMoreSpec)

/-- 'newellaw21.ExcludeJust', WHERE WHAT IT READS IS OF BULK AT MOST 1048576: true; the input reads as it did. -/
def excludeJustUptoRow : OpenClaim := { program := "ytndleookkaoojaa", sum := "211ba51fe8beacac6b5f2e54d63f0623ab17b37294846bfe951024985240d373", func := "newel/newellaw21.ExcludeJust", spec := "excludeJust", unfollowed := true, recurses := true, apart := false, narrowed := true }
def ExcludeJustUptoSaid : Prop := excludeJustUptoRow.holds Try.pinned (OpenSpec.upto excludeJustSpec)

end Rows
end Go.Proofs.Ytndleookkaoojaa
