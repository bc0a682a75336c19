/-
  No cell of these rows narrows 'for every input' (looked for: loops, veiled, ifaces, maps, wideKeys, modest, calm, conditions, laid).
  DERIVED. THE GIVEN ROWS OF THIS SEAT. 5 by the template 'for every input the law returns true; each argument reads behind the call as it read before'; 0 by the template 'total and deterministic' (their statements: YtglffonjhodmdaaTotals.lean).
  GIVEN WITH THE SEED: the statements are not yours to turn. If you find one false, say at which input.
  Laid BY PROGRAM, IN A SANDBOX (cutbox-rows.mjs): the forced cells as the released guide's own fill.sh prints them over the translation a48459d3198a8923… (all of the seat's roots in one cut). By AI agents, Wed Nov 11 2026. No macro, syntax, notation, axiom, sorry.
-/
import Derived.Test.YtglffonjhodmdaaChecked
import GoSem.Claim
import GoSem.ClaimJoined
import GoSem.ClaimMapViews
import Derived.JoinedTies
import Derived.KernelRfl
namespace Go.Proofs.Ytglffonjhodmdaa
/- THE CELL 'sum', in the pinned program and in every row, IS THE sha256 OF THE DUMP (.gsa) THAT YtglffonjhodmdaaProg.lean LOADS. Nothing in Lean hashes anything: it is a label: what it is worth is what the hold of that sum in a sandbox is worth. -/
noncomputable def Try.pinned : Pinned := { name := "ytglffonjhodmdaa", sum := "a48459d3198a8923022027c9fc807d9f8ca1959512c49cca1ca5b5e496010108", checked := Try.checked }
namespace Rows
def none {H : Type} : Left H := { results := [], args := [] }

/-- 'newellaw01.CharsTrim': WHATEVER THE INPUT: true; the input reads as it did. -/
def charsTrimSpec : ChangeSpec := { name := "charsTrim", fn := fun _ => fun
  | [d1, d2, d3] => { results := [.lit (.bool true)], args := [d1, d2, d3] }
  | _ => none }
def charsTrimRow : OpenClaim := { program := "ytglffonjhodmdaa", sum := "a48459d3198a8923022027c9fc807d9f8ca1959512c49cca1ca5b5e496010108", func := "newel/newellaw01.CharsTrim", spec := "charsTrim", apart := false }
def CharsTrimSaid : Prop := charsTrimRow.holds Try.pinned (OpenSpec.ofChange charsTrimSpec)

/-- ITS FALSE NEIGHBOUR: 'it returns false'. Refute it at one input. -/
def charsTrimWrong : ChangeSpec := { name := "charsTrim", fn := fun _ => fun
  | [d1, d2, d3] => { results := [.lit (.bool false)], args := [d1, d2, d3] }
  | _ => none }
def CharsTrimWrongFalsely : Prop := charsTrimRow.holds Try.pinned (OpenSpec.ofChange charsTrimWrong)

/-- 'newellaw01.CharsNames': WHATEVER THE INPUT: true; the input reads as it did. -/
def charsNamesSpec : ChangeSpec := { name := "charsNames", fn := fun _ => fun
  | [d1, d2] => { results := [.lit (.bool true)], args := [d1, d2] }
  | _ => none }
def charsNamesRow : OpenClaim := { program := "ytglffonjhodmdaa", sum := "a48459d3198a8923022027c9fc807d9f8ca1959512c49cca1ca5b5e496010108", func := "newel/newellaw01.CharsNames", spec := "charsNames", apart := false }
def CharsNamesSaid : Prop := charsNamesRow.holds Try.pinned (OpenSpec.ofChange charsNamesSpec)

/-- ITS FALSE NEIGHBOUR: 'it returns false'. Refute it at one input. -/
def charsNamesWrong : ChangeSpec := { name := "charsNames", fn := fun _ => fun
  | [d1, d2] => { results := [.lit (.bool false)], args := [d1, d2] }
  | _ => none }
def CharsNamesWrongFalsely : Prop := charsNamesRow.holds Try.pinned (OpenSpec.ofChange charsNamesWrong)

/-- 'newellaw01.CharsMiddle': WHATEVER THE INPUT: true; the input reads as it did. -/
def charsMiddleSpec : ChangeSpec := { name := "charsMiddle", fn := fun _ => fun
  | [d1, d2] => { results := [.lit (.bool true)], args := [d1, d2] }
  | _ => none }
def charsMiddleRow : OpenClaim := { program := "ytglffonjhodmdaa", sum := "a48459d3198a8923022027c9fc807d9f8ca1959512c49cca1ca5b5e496010108", func := "newel/newellaw01.CharsMiddle", spec := "charsMiddle", apart := false }
def CharsMiddleSaid : Prop := charsMiddleRow.holds Try.pinned (OpenSpec.ofChange charsMiddleSpec)

/-- ITS FALSE NEIGHBOUR: 'it returns false'. Refute it at one input. -/
def charsMiddleWrong : ChangeSpec := { name := "charsMiddle", fn := fun _ => fun
  | [d1, d2] => { results := [.lit (.bool false)], args := [d1, d2] }
  | _ => none }
def CharsMiddleWrongFalsely : Prop := charsMiddleRow.holds Try.pinned (OpenSpec.ofChange charsMiddleWrong)

/-- 'newellaw01.CharsTell': WHATEVER THE INPUT: true; the input reads as it did. -/
def charsTellSpec : ChangeSpec := { name := "charsTell", fn := fun _ => fun
  | [d1, d2] => { results := [.lit (.bool true)], args := [d1, d2] }
  | _ => none }
def charsTellRow : OpenClaim := { program := "ytglffonjhodmdaa", sum := "a48459d3198a8923022027c9fc807d9f8ca1959512c49cca1ca5b5e496010108", func := "newel/newellaw01.CharsTell", spec := "charsTell", apart := false }
def CharsTellSaid : Prop := charsTellRow.holds Try.pinned (OpenSpec.ofChange charsTellSpec)

/-- ITS FALSE NEIGHBOUR: 'it returns false'. Refute it at one input. -/
def charsTellWrong : ChangeSpec := { name := "charsTell", fn := fun _ => fun
  | [d1, d2] => { results := [.lit (.bool false)], args := [d1, d2] }
  | _ => none }
def CharsTellWrongFalsely : Prop := charsTellRow.holds Try.pinned (OpenSpec.ofChange charsTellWrong)

/-- 'newellaw01.CharsKinds': WHATEVER THE INPUT: true; the input reads as it did. -/
def charsKindsSpec : ChangeSpec := { name := "charsKinds", fn := fun _ => fun
  | [d] => { results := [.lit (.bool true)], args := [d] }
  | _ => none }
def charsKindsRow : OpenClaim := { program := "ytglffonjhodmdaa", sum := "a48459d3198a8923022027c9fc807d9f8ca1959512c49cca1ca5b5e496010108", func := "newel/newellaw01.CharsKinds", spec := "charsKinds", apart := false }
def CharsKindsSaid : Prop := charsKindsRow.holds Try.pinned (OpenSpec.ofChange charsKindsSpec)

/-- ITS FALSE NEIGHBOUR: 'it returns false'. Refute it at one input. -/
def charsKindsWrong : ChangeSpec := { name := "charsKinds", fn := fun _ => fun
  | [d] => { results := [.lit (.bool false)], args := [d] }
  | _ => none }
def CharsKindsWrongFalsely : Prop := charsKindsRow.holds Try.pinned (OpenSpec.ofChange charsKindsWrong)

/- THE SECOND FORM. 'bulk': how many values and letters a reading holds, each counted each time it is reached (what is shared counts as often as it is met; a slice's spare places count too). A statement '..UptoSaid' is the law's where the arguments, and the package variables that the reading takes, are together of bulk at most 1048576: NARROWER than '..Said'. Prove '..Said' where nothing that the law and all that it calls make is longer than what came in: it says more and counts as full. Else prove '..UptoSaid'. A law counts once. -/
mutual
def uptoBulk {H : Type} : DataW H → Nat
  | .lit (.string bytes) => bytes.length + 1
  | .lit _ => 1
  | .nil => 1
  | .ptr d => uptoBulk d + 1
  | .slice elems spare => uptoBulkAll elems + uptoBulkAll spare + 1
  | .agg parts => uptoBulkAll parts + 1
  | .iface _ d => uptoBulk d + 1
  | .map entries => uptoBulkEntries entries + 1
  | .held _ => 1
def uptoBulkAll {H : Type} : List (DataW H) → Nat
  | [] => 0
  | d :: r => uptoBulk d + uptoBulkAll r
def uptoBulkEntries {H : Type} : List (Lit × DataW H) → Nat
  | [] => 0
  | x :: r => uptoBulkEntry x + uptoBulkEntries r
def uptoBulkEntry {H : Type} : Lit × DataW H → Nat
  | (.string bytes, d) => bytes.length + uptoBulk d + 1
  | (_, d) => uptoBulk d + 1
 end
def uptoSmall : (H : Type) → List (DataW H) → Bool := fun _ ds => decide (uptoBulkAll ds ≤ 1048576)
def OpenSpec.upto (s : _root_.Go.ChangeSpec) : _root_.Go.OpenSpec := { _root_.Go.OpenSpec.ofChange s with cond := some uptoSmall }

/-- 'newellaw01.CharsTrim', WHERE WHAT IT READS IS OF BULK AT MOST 1048576: true; the input reads as it did. -/
def charsTrimUptoRow : OpenClaim := { program := "ytglffonjhodmdaa", sum := "a48459d3198a8923022027c9fc807d9f8ca1959512c49cca1ca5b5e496010108", func := "newel/newellaw01.CharsTrim", spec := "charsTrim", apart := false, narrowed := true }
def CharsTrimUptoSaid : Prop := charsTrimUptoRow.holds Try.pinned (OpenSpec.upto charsTrimSpec)

/-- 'newellaw01.CharsNames', WHERE WHAT IT READS IS OF BULK AT MOST 1048576: true; the input reads as it did. -/
def charsNamesUptoRow : OpenClaim := { program := "ytglffonjhodmdaa", sum := "a48459d3198a8923022027c9fc807d9f8ca1959512c49cca1ca5b5e496010108", func := "newel/newellaw01.CharsNames", spec := "charsNames", apart := false, narrowed := true }
def CharsNamesUptoSaid : Prop := charsNamesUptoRow.holds Try.pinned (OpenSpec.upto charsNamesSpec)

/-- 'newellaw01.CharsMiddle', WHERE WHAT IT READS IS OF BULK AT MOST 1048576: true; the input reads as it did. -/
def charsMiddleUptoRow : OpenClaim := { program := "ytglffonjhodmdaa", sum := "a48459d3198a8923022027c9fc807d9f8ca1959512c49cca1ca5b5e496010108", func := "newel/newellaw01.CharsMiddle", spec := "charsMiddle", apart := false, narrowed := true }
def CharsMiddleUptoSaid : Prop := charsMiddleUptoRow.holds Try.pinned (OpenSpec.upto charsMiddleSpec)

/-- 'newellaw01.CharsTell', WHERE WHAT IT READS IS OF BULK AT MOST 1048576: true; the input reads as it did. -/
def charsTellUptoRow : OpenClaim := { program := "ytglffonjhodmdaa", sum := "a48459d3198a8923022027c9fc807d9f8ca1959512c49cca1ca5b5e496010108", func := "newel/newellaw01.CharsTell", spec := "charsTell", apart := false, narrowed := true }
def CharsTellUptoSaid : Prop := charsTellUptoRow.holds Try.pinned (OpenSpec.upto charsTellSpec)

/-- 'newellaw01.CharsKinds', WHERE WHAT IT READS IS OF BULK AT MOST 1048576: true; the input reads as it did. -/
def charsKindsUptoRow : OpenClaim := { program := "ytglffonjhodmdaa", sum := "a48459d3198a8923022027c9fc807d9f8ca1959512c49cca1ca5b5e496010108", func := "newel/newellaw01.CharsKinds", spec := "charsKinds", apart := false, narrowed := true }
def CharsKindsUptoSaid : Prop := charsKindsUptoRow.holds Try.pinned (OpenSpec.upto charsKindsSpec)

end Rows
end Go.Proofs.Ytglffonjhodmdaa
