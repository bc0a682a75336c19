/-
  No cell of these rows narrows 'for every input' (looked for: loops, veiled, ifaces, maps, wideKeys, modest, calm, conditions, laid).
  DERIVED. THE GIVEN ROWS OF THIS SEAT. 3 by the template 'for every input the law returns true; each argument reads behind the call as it read before'; 0 by the template 'total and deterministic' (their statements: YtpafhlhoibmocaaTotals.lean).
  GIVEN WITH THE SEED: the statements are not yours to turn. If you find one false, say at which input.
  Laid BY PROGRAM, IN A SANDBOX (cutbox-rows.mjs): the forced cells as the released guide's own fill.sh prints them over the translation ca797b1ed6b13ec7… (all of the seat's roots in one cut). By AI agents, Wed Nov 11 2026. No macro, syntax, notation, axiom, sorry.
-/
import Derived.Test.YtpafhlhoibmocaaChecked
import GoSem.Claim
import GoSem.ClaimJoined
import GoSem.ClaimMapViews
import Derived.JoinedTies
import Derived.KernelRfl
namespace Go.Proofs.Ytpafhlhoibmocaa
/- THE CELL 'sum', in the pinned program and in every row, IS THE sha256 OF THE DUMP (.gsa) THAT YtpafhlhoibmocaaProg.lean LOADS. Nothing in Lean hashes anything: it is a label: what it is worth is what the hold of that sum in a sandbox is worth. -/
noncomputable def Try.pinned : Pinned := { name := "ytpafhlhoibmocaa", sum := "ca797b1ed6b13ec7fe2aba4b6106da9315bbdf9df0b86e735294dd24e08f5966", checked := Try.checked }
namespace Rows
def none {H : Type} : Left H := { results := [], args := [] }

/-- 'newellaw20.ScopeTells': WHATEVER THE INPUT: true; the input reads as it did. -/
def scopeTellsSpec : ChangeSpec := { name := "scopeTells", fn := fun _ => fun
  | [d1, d2, d3, d4, d5] => { results := [.lit (.bool true)], args := [d1, d2, d3, d4, d5] }
  | _ => none }
def scopeTellsRow : OpenClaim := { program := "ytpafhlhoibmocaa", sum := "ca797b1ed6b13ec7fe2aba4b6106da9315bbdf9df0b86e735294dd24e08f5966", func := "newel/newellaw20.ScopeTells", spec := "scopeTells", apart := false }
def ScopeTellsSaid : Prop := scopeTellsRow.holds Try.pinned (OpenSpec.ofChange scopeTellsSpec)

/-- ITS FALSE NEIGHBOUR: 'it returns false'. Refute it at one input. -/
def scopeTellsWrong : ChangeSpec := { name := "scopeTells", fn := fun _ => fun
  | [d1, d2, d3, d4, d5] => { results := [.lit (.bool false)], args := [d1, d2, d3, d4, d5] }
  | _ => none }
def ScopeTellsWrongFalsely : Prop := scopeTellsRow.holds Try.pinned (OpenSpec.ofChange scopeTellsWrong)

/-- 'newellaw20.ScopeNarrows': WHATEVER THE INPUT: true; the input reads as it did. -/
def scopeNarrowsSpec : ChangeSpec := { name := "scopeNarrows", fn := fun _ => fun
  | [d1, d2, d3] => { results := [.lit (.bool true)], args := [d1, d2, d3] }
  | _ => none }
def scopeNarrowsRow : OpenClaim := { program := "ytpafhlhoibmocaa", sum := "ca797b1ed6b13ec7fe2aba4b6106da9315bbdf9df0b86e735294dd24e08f5966", func := "newel/newellaw20.ScopeNarrows", spec := "scopeNarrows", apart := false }
def ScopeNarrowsSaid : Prop := scopeNarrowsRow.holds Try.pinned (OpenSpec.ofChange scopeNarrowsSpec)

/-- ITS FALSE NEIGHBOUR: 'it returns false'. Refute it at one input. -/
def scopeNarrowsWrong : ChangeSpec := { name := "scopeNarrows", fn := fun _ => fun
  | [d1, d2, d3] => { results := [.lit (.bool false)], args := [d1, d2, d3] }
  | _ => none }
def ScopeNarrowsWrongFalsely : Prop := scopeNarrowsRow.holds Try.pinned (OpenSpec.ofChange scopeNarrowsWrong)

/-- 'newellaw20.ScopeKinds': WHATEVER THE INPUT: true; the input reads as it did. -/
def scopeKindsSpec : ChangeSpec := { name := "scopeKinds", fn := fun _ => fun
  | [d1, d2] => { results := [.lit (.bool true)], args := [d1, d2] }
  | _ => none }
def scopeKindsRow : OpenClaim := { program := "ytpafhlhoibmocaa", sum := "ca797b1ed6b13ec7fe2aba4b6106da9315bbdf9df0b86e735294dd24e08f5966", func := "newel/newellaw20.ScopeKinds", spec := "scopeKinds", apart := false }
def ScopeKindsSaid : Prop := scopeKindsRow.holds Try.pinned (OpenSpec.ofChange scopeKindsSpec)

/-- ITS FALSE NEIGHBOUR: 'it returns false'. Refute it at one input. -/
def scopeKindsWrong : ChangeSpec := { name := "scopeKinds", fn := fun _ => fun
  | [d1, d2] => { results := [.lit (.bool false)], args := [d1, d2] }
  | _ => none }
def ScopeKindsWrongFalsely : Prop := scopeKindsRow.holds Try.pinned (OpenSpec.ofChange scopeKindsWrong)

/- THE SECOND FORM. 'bulk': how many values and letters a reading holds, each counted each time it is reached (what is shared counts as often as it is met; a slice's spare places count too). A statement '..UptoSaid' is the law's where the arguments, and the package variables that the reading takes, are together of bulk at most 1048576: NARROWER than '..Said'. Prove '..Said' where nothing that the law and all that it calls make is longer than what came in: it says more and counts as full. Else prove '..UptoSaid'. A law counts once. -/
mutual
def uptoBulk {H : Type} : DataW H → Nat
  | .lit (.string bytes) => bytes.length + 1
  | .lit _ => 1
  | .nil => 1
  | .ptr d => uptoBulk d + 1
  | .slice elems spare => uptoBulkAll elems + uptoBulkAll spare + 1
  | .agg parts => uptoBulkAll parts + 1
  | .iface _ d => uptoBulk d + 1
  | .map entries => uptoBulkEntries entries + 1
  | .held _ => 1
def uptoBulkAll {H : Type} : List (DataW H) → Nat
  | [] => 0
  | d :: r => uptoBulk d + uptoBulkAll r
def uptoBulkEntries {H : Type} : List (Lit × DataW H) → Nat
  | [] => 0
  | x :: r => uptoBulkEntry x + uptoBulkEntries r
def uptoBulkEntry {H : Type} : Lit × DataW H → Nat
  | (.string bytes, d) => bytes.length + uptoBulk d + 1
  | (_, d) => uptoBulk d + 1
 end
def uptoSmall : (H : Type) → List (DataW H) → Bool := fun _ ds => decide (uptoBulkAll ds ≤ 1048576)
def OpenSpec.upto (s : _root_.Go.ChangeSpec) : _root_.Go.OpenSpec := { _root_.Go.OpenSpec.ofChange s with cond := some uptoSmall }

/-- 'newellaw20.ScopeTells', WHERE WHAT IT READS IS OF BULK AT MOST 1048576: true; the input reads as it did. -/
def scopeTellsUptoRow : OpenClaim := { program := "ytpafhlhoibmocaa", sum := "ca797b1ed6b13ec7fe2aba4b6106da9315bbdf9df0b86e735294dd24e08f5966", func := "newel/newellaw20.ScopeTells", spec := "scopeTells", apart := false, narrowed := true }
def ScopeTellsUptoSaid : Prop := scopeTellsUptoRow.holds Try.pinned (OpenSpec.upto scopeTellsSpec)

/-- 'newellaw20.ScopeNarrows', WHERE WHAT IT READS IS OF BULK AT MOST 1048576: true; the input reads as it did. -/
def scopeNarrowsUptoRow : OpenClaim := { program := "ytpafhlhoibmocaa", sum := "ca797b1ed6b13ec7fe2aba4b6106da9315bbdf9df0b86e735294dd24e08f5966", func := "newel/newellaw20.ScopeNarrows", spec := "scopeNarrows", apart := false, narrowed := true }
def ScopeNarrowsUptoSaid : Prop := scopeNarrowsUptoRow.holds Try.pinned (OpenSpec.upto scopeNarrowsSpec)

/-- 'newellaw20.ScopeKinds', WHERE WHAT IT READS IS OF BULK AT MOST 1048576: true; the input reads as it did. -/
def scopeKindsUptoRow : OpenClaim := { program := "ytpafhlhoibmocaa", sum := "ca797b1ed6b13ec7fe2aba4b6106da9315bbdf9df0b86e735294dd24e08f5966", func := "newel/newellaw20.ScopeKinds", spec := "scopeKinds", apart := false, narrowed := true }
def ScopeKindsUptoSaid : Prop := scopeKindsUptoRow.holds Try.pinned (OpenSpec.upto scopeKindsSpec)

end Rows
end Go.Proofs.Ytpafhlhoibmocaa
