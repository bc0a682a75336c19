/- The statement 'Rows.ManageStaysUptoSaid': where what it reads is of bulk at most 1048576, the law newellaw17.ManageStays returns true and its arguments read as before. -/
import Derived.Test.YtfcnmghhhgghcaaU
import Derived.Test.YtfcnmghhhgghcaaP
import Derived.JoinedCond
namespace Go.Proofs.Ytfcnmghhhgghcaa
open Go.RowKit
theorem find_len2 {l : List Dp} {key : ByteArray} (hok : ∀ x ∈ l, DpOk x ∧ x.e.length ≤ 1048576) : (findD l key).e.length ≤ 1048576 := by
  unfold findD
  cases h : l.find? (hasKey key) with
  | none => exact Nat.zero_le _
  | some x => exact (hok x (List.mem_of_find?_eq_some h)).2
theorem stays_row (W : World) (x : Dp) (A : Option Addr) (k : Nat) (B : Option Addr) (c : Nat) (l : List Dp) (hx : DpOk x) (he : x.e.length ≤ 1048576) (hr : ReadsEx W A x.e)
    (hn : l.length ≤ c) (hok : ∀ x ∈ l, DpOk x ∧ x.e.length ≤ 1048576) (hl : ReadsDp W B l) :
    Calls Try.prog 4 #[DV x A k, .slice B l.length c] W fun e w' => e = .returned (.bool true) ∧ Below W.heap.size W w' :=
  stays_walk x A k B c l W hx hr hn hl (fun y hy => (hok y hy).1) (by have := find_len2 (key := keyS x) hok; omega)
end Go.Proofs.Ytfcnmghhhgghcaa
namespace Go.Proofs.Ytfcnmghhhgghcaa.manageStays
open Go.ChangeShapes Go.WideShapes Go.ChangeAt Go.RowKit
open Go.ChangeMaps (open_string shut_string)
set_option linter.unusedVariables false

theorem own : ownKnob Try.prog.godebug = none := by kernel_rfl
theorem rd24 : Try.prog.readableRec 24 = true ∧ 24 < Try.prog.types.size := ⟨by kernel_rfl, of_decide_eq_true (by kernel_rfl)⟩
theorem rd25 : Try.prog.readableRec 25 = true ∧ 25 < Try.prog.types.size := ⟨by kernel_rfl, of_decide_eq_true (by kernel_rfl)⟩
theorem rds : ∀ t ∈ Try.f4.params.toList, Try.prog.readableRec t = true ∧ t < Try.prog.types.size := by
  rw [Try.params4]
  intro t ht
  simp only [List.mem_cons, List.mem_nil_iff, or_false] at ht
  rcases ht with rfl | rfl
  · exact rd24
  · exact rd25

set_option maxRecDepth 100000 in
theorem lifted (os : Os) (started : os.Started) (H : Type) (enc : TypeId × Value → H) (F : Stop.Interp) :
    ReturnsInHanded {} Try.checked os 4 .any ((Rows.OpenSpec.upto Rows.manageStaysSpec).pre6 enc Try.prog Try.f4 Rows.manageStaysUptoRow.domain false) (((Rows.OpenSpec.upto Rows.manageStaysSpec).at F).post enc Try.prog Try.f4 false true false false) := by
  refine returnsInHanded_of_cond (C := Try.checked) (s := Rows.OpenSpec.upto Rows.manageStaysSpec) (k := Rows.uptoSmall) rfl own started (by kernel_rfl) Try.func4
    (OpenSpec.witness (enc := enc) (C := Try.checked) (s := Rows.OpenSpec.upto Rows.manageStaysSpec) (k := Rows.uptoSmall) rfl false ⟨#[], #[.agg #[.string ByteArray.empty, .string ByteArray.empty, .string ByteArray.empty, .string ByteArray.empty, .string ByteArray.empty, .string ByteArray.empty, .bool false, .slice none 0 0], .slice none 0 0], []⟩ 8 (by kernel_rfl) (by kernel_rfl) (by kernel_rfl)
      (x := ([.agg [.lit (.string []), .lit (.string []), .lit (.string []), .lit (.string []), .lit (.string []), .lit (.string []), .lit (.bool false), .nil], .nil], [], [])) (by kernel_rfl) rfl (by kernel_rfl)) ?_
  intro W base args ds gs before hval0 hW0 hcnd hk _
  have hW : DataW.Whole enc Try.prog Try.f4.params.toList Rows.manageStaysSpec.vars false W args.toList ds gs before := hW0
  have hval : ∀ (j : Nat) t v, Try.f4.params[j]? = some t → args[j]? = some v → Value.okWide Try.prog W .any base t v := hval0
  have hW' := hW
  obtain ⟨p, q, hA0, hV, rfl, hfz, hnd⟩ := hW
  obtain ⟨rfl, rfl⟩ := trodVars_none hV
  simp only [List.append_nil] at hW' hk
  have hAk : DataW.TrodAll enc Try.prog W 0 (fun _ => true) true Try.f4.params.toList args.toList ds p := hA0
  have hlt : ∀ x ∈ p, x.block < W.heap.size := fun x hx => by simpa using hW'.lt x hx
  have hA : DataW.TrodAll enc Try.prog W 0 (fun _ => true) true Try.f4.params.toList args.toList ds p := hA0
  have hbk : Rows.uptoBulkAll ds ≤ 1048576 := of_decide_eq_true hk
  rw [Try.params4] at hA hval
  obtain ⟨v0, vs0, d0, ds0, p0, q0, hargs, rfl, rfl, h0, r0⟩ := trodAll_cons hA
  obtain ⟨v1, vs1, d1, ds1, p1, q1, rfl, rfl, rfl, h1, r1⟩ := trodAll_cons r0
  obtain ⟨rfl, rfl, rfl⟩ := trodAll_nil r1
  obtain rfl : args = #[v0, v1] := by cases args; simp_all
  simp only [Rows.uptoBulkAll] at hbk
  obtain ⟨x0, A0, c0, rfl, ok0, le0, re0⟩ := open_dep (hval 0 24 v0 rfl rfl) h0 (by omega)
  obtain ⟨A1, c1, l1, rfl, le1, ok1, re1⟩ := open_deps (hval 1 25 v1 rfl rfl) h1 (by omega)
  clear hA0 hval0 hW0
  refine (stays_row W x0 A0 c0 A1 c1 l1 ok0 le0 re0 le1 ok1 re1).mono fun e W' ⟨he, hg⟩ => ?_
  subst he
  exact ⟨_, rfl, post_of_below (pv := []) hW' (fun _ _ _ => (trodAll_cons_mk (shut_bool Try.underlying4 _) trodAll_mk0)) (fun sp hsp => trodAll_keep laid_out hg rds hAk hlt hsp) (fun _ _ => rfl) (List.append_nil _).symm
    hg (ok_one (by kernel_rfl) rfl (okWide_bool_mk Try.underlying4 _))⟩

theorem proved : Rows.ManageStaysUptoSaid :=
  OpenClaim.holds_of_cond 4 Try.f4 rfl rfl rfl rfl rfl rfl rfl ⟨rfl, rfl, rfl, rfl, rfl⟩ rfl rfl rfl rfl rfl (by kernel_rfl) Try.func4 (by kernel_rfl)
    (of_decide_eq_true (by kernel_rfl)) (by unfold Func.isWrapper; first | (rw [if_pos (by decide +kernel)]; kernel_rfl) | (rw [if_neg (by decide +kernel)]; exact ⟨rfl, rfl⟩))
    (fun os started H enc _ F => lifted os started H enc F)
end Go.Proofs.Ytfcnmghhhgghcaa.manageStays
