/- The statement 'Rows.RouteTellsSaid': for all arguments, the law newellaw22.RouteTells returns true and its arguments read as before. -/
import Derived.Test.YtodninjcmfbfdaaX
import Derived.Test.YtodninjcmfbfdaaP
namespace Go.Proofs.Ytodninjcmfbfdaa
open Go.RowKit
theorem tells_row (W : World) (A : Option Addr) (ca : Nat) (a : List Int) (B : Option Addr) (cb : Nat) (b : List Int) (D : Option Addr) (c : Nat) (l : List (List Int))
    (_ : a.length ≤ ca) (_ : ca ≤ maxLen) (ha : ReadsI W A a) (_ : b.length ≤ cb) (_ : cb ≤ maxLen) (hb : ReadsI W B b) (h1 : l.length ≤ c) (h2 : c ≤ maxLen) (hl : ReadsW W D l) :
    Calls Try.prog 3 #[.slice A a.length ca, .slice B b.length cb, .slice D l.length c] W fun e w' => e = .returned (.bool true) ∧ Below W.heap.size W w' :=
  tells_walk A B D ca cb c a b l W (by unfold maxLen at h2; omega) ha hb hl
end Go.Proofs.Ytodninjcmfbfdaa
namespace Go.Proofs.Ytodninjcmfbfdaa.routeTells
open Go.ChangeShapes Go.WideShapes Go.ChangeAt Go.RowKit
open Go.ChangeMaps (open_string shut_string)
set_option linter.unusedVariables false

theorem own : ownKnob Try.prog.godebug = none := by kernel_rfl
theorem rd22 : Try.prog.readableRec 22 = true ∧ 22 < Try.prog.types.size := ⟨by kernel_rfl, of_decide_eq_true (by kernel_rfl)⟩
theorem rd23 : Try.prog.readableRec 23 = true ∧ 23 < Try.prog.types.size := ⟨by kernel_rfl, of_decide_eq_true (by kernel_rfl)⟩
theorem rds : ∀ t ∈ Try.f3.params.toList, Try.prog.readableRec t = true ∧ t < Try.prog.types.size := by
  rw [Try.params3]
  intro t ht
  simp only [List.mem_cons, List.mem_nil_iff, or_false] at ht
  rcases ht with rfl | rfl | rfl
  · exact rd22
  · exact rd22
  · exact rd23

set_option maxRecDepth 100000 in
theorem lifted (os : Os) (started : os.Started) (H : Type) (enc : TypeId × Value → H) :
    ReturnsInHanded {} Try.checked os 3 .any (Rows.routeTellsSpec.pre6 enc Try.prog Try.f3 Rows.routeTellsRow.domain false) (Rows.routeTellsSpec.post enc Try.prog Try.f3 false true false false) := by
  refine returnsInHanded_of_change (C := Try.checked) own started (by kernel_rfl) Try.func3
    (ChangeSpec.witness6 (enc := enc) (C := Try.checked) false ⟨#[], #[.slice none 0 0, .slice none 0 0, .slice none 0 0], []⟩ 8 (by kernel_rfl) (by kernel_rfl) (by kernel_rfl) (by kernel_rfl)) ?_
  intro W base args ds gs before hval0 hW hcnd _
  have hval : ∀ (j : Nat) t v, Try.f3.params[j]? = some t → args[j]? = some v → Value.okWide Try.prog W .any base t v := hval0
  have hW' := hW
  obtain ⟨p, q, hA0, hV, rfl, hfz, hnd⟩ := hW
  obtain ⟨rfl, rfl⟩ := trodVars_none hV
  simp only [List.append_nil] at hW'
  have hAk : DataW.TrodAll enc Try.prog W 0 (fun _ => true) true Try.f3.params.toList args.toList ds p := hA0
  have hlt : ∀ x ∈ p, x.block < W.heap.size := fun x hx => by simpa using hW'.lt x hx
  have hA : DataW.TrodAll enc Try.prog W 0 (fun _ => true) true Try.f3.params.toList args.toList ds p := hA0
  rw [Try.params3] at hA hval
  obtain ⟨v0, vs0, d0, ds0, p0, q0, hargs, rfl, rfl, h0, r0⟩ := trodAll_cons hA
  obtain ⟨v1, vs1, d1, ds1, p1, q1, rfl, rfl, rfl, h1, r1⟩ := trodAll_cons r0
  obtain ⟨v2, vs2, d2, ds2, p2, q2, rfl, rfl, rfl, h2, r2⟩ := trodAll_cons r1
  obtain ⟨rfl, rfl, rfl⟩ := trodAll_nil r2
  obtain rfl : args = #[v0, v1, v2] := by cases args; simp_all
  obtain ⟨A0, c0, l0, rfl, le0, ca0, re0⟩ := open_is (hval 0 22 v0 rfl rfl) h0
  obtain ⟨A1, c1, l1, rfl, le1, ca1, re1⟩ := open_is (hval 1 22 v1 rfl rfl) h1
  obtain ⟨A2, c2, l2, rfl, le2, ca2, re2⟩ := open_ways (hval 2 23 v2 rfl rfl) h2
  clear hA0 hval0
  refine (tells_row W A0 c0 l0 A1 c1 l1 A2 c2 l2 le0 ca0 re0 le1 ca1 re1 le2 ca2 re2).mono fun e W' ⟨he, hg⟩ => ?_
  subst he
  exact ⟨_, rfl, post_of_below (pv := []) hW' (fun _ _ _ => (trodAll_cons_mk (shut_bool Try.underlying4 _) trodAll_mk0)) (fun sp hsp => trodAll_keep laid_out hg rds hAk hlt hsp) (fun _ _ => rfl) (List.append_nil _).symm
    hg (ok_one (by kernel_rfl) rfl (okWide_bool_mk Try.underlying4 _))⟩

theorem over : Rows.routeTellsRow.holds Try.pinned (OpenSpec.ofChange Rows.routeTellsSpec) :=
  OpenClaim.holds_of_wide 3 Try.f3 rfl rfl rfl rfl rfl rfl rfl ⟨rfl, rfl, rfl, rfl, rfl⟩ rfl rfl rfl rfl rfl (by kernel_rfl) Try.func3 (by kernel_rfl)
    (of_decide_eq_true (by kernel_rfl)) (by unfold Func.isWrapper; first | (rw [if_pos (by decide +kernel)]; kernel_rfl) | (rw [if_neg (by decide +kernel)]; exact ⟨rfl, rfl⟩))
    (fun os started H enc _ => lifted os started H enc)

theorem proved : Rows.RouteTellsSaid :=
  over
end Go.Proofs.Ytodninjcmfbfdaa.routeTells
