/- The statement 'Rows.RouteFirstSaid': for all arguments, the law newellaw22.RouteFirst returns true and its arguments read as before. -/
import Derived.Test.YtodninjcmfbfdaaT
import Derived.Test.YtodninjcmfbfdaaP
namespace Go.Proofs.Ytodninjcmfbfdaa
open Go.RowKit
theorem first_row (W : World) (A : Option Addr) (c : Nat) (l : List (List Int)) (B : Option Addr) (cm : Nat) (more : List Int) (h1 : l.length ≤ c) (h2 : c ≤ maxLen) (hl : ReadsW W A l) (_ : more.length ≤ cm) (_ : cm ≤ maxLen) (hm : ReadsI W B more) :
    Calls Try.prog 6 #[.slice A l.length c, .slice B more.length cm] W fun e w' => e = .returned (.bool true) ∧ Below W.heap.size W w' :=
  first_walk A c l B cm more W (by unfold maxLen at h2; omega) hl hm
end Go.Proofs.Ytodninjcmfbfdaa
namespace Go.Proofs.Ytodninjcmfbfdaa.routeFirst
open Go.ChangeShapes Go.WideShapes Go.ChangeAt Go.RowKit
open Go.ChangeMaps (open_string shut_string)
set_option linter.unusedVariables false

theorem own : ownKnob Try.prog.godebug = none := by kernel_rfl
theorem rd22 : Try.prog.readableRec 22 = true ∧ 22 < Try.prog.types.size := ⟨by kernel_rfl, of_decide_eq_true (by kernel_rfl)⟩
theorem rd23 : Try.prog.readableRec 23 = true ∧ 23 < Try.prog.types.size := ⟨by kernel_rfl, of_decide_eq_true (by kernel_rfl)⟩
theorem rds : ∀ t ∈ Try.f6.params.toList, Try.prog.readableRec t = true ∧ t < Try.prog.types.size := by
  rw [Try.params6]
  intro t ht
  simp only [List.mem_cons, List.mem_nil_iff, or_false] at ht
  rcases ht with rfl | rfl
  · exact rd23
  · exact rd22

set_option maxRecDepth 100000 in
theorem lifted (os : Os) (started : os.Started) (H : Type) (enc : TypeId × Value → H) :
    ReturnsInHanded {} Try.checked os 6 .any (Rows.routeFirstSpec.pre6 enc Try.prog Try.f6 Rows.routeFirstRow.domain false) (Rows.routeFirstSpec.post enc Try.prog Try.f6 false true false false) := by
  refine returnsInHanded_of_change (C := Try.checked) own started (by kernel_rfl) Try.func6
    (ChangeSpec.witness6 (enc := enc) (C := Try.checked) false ⟨#[], #[.slice none 0 0, .slice none 0 0], []⟩ 8 (by kernel_rfl) (by kernel_rfl) (by kernel_rfl) (by kernel_rfl)) ?_
  intro W base args ds gs before hval0 hW hcnd _
  have hval : ∀ (j : Nat) t v, Try.f6.params[j]? = some t → args[j]? = some v → Value.okWide Try.prog W .any base t v := hval0
  have hW' := hW
  obtain ⟨p, q, hA0, hV, rfl, hfz, hnd⟩ := hW
  obtain ⟨rfl, rfl⟩ := trodVars_none hV
  simp only [List.append_nil] at hW'
  have hAk : DataW.TrodAll enc Try.prog W 0 (fun _ => true) true Try.f6.params.toList args.toList ds p := hA0
  have hlt : ∀ x ∈ p, x.block < W.heap.size := fun x hx => by simpa using hW'.lt x hx
  have hA : DataW.TrodAll enc Try.prog W 0 (fun _ => true) true Try.f6.params.toList args.toList ds p := hA0
  rw [Try.params6] at hA hval
  obtain ⟨v0, vs0, d0, ds0, p0, q0, hargs, rfl, rfl, h0, r0⟩ := trodAll_cons hA
  obtain ⟨v1, vs1, d1, ds1, p1, q1, rfl, rfl, rfl, h1, r1⟩ := trodAll_cons r0
  obtain ⟨rfl, rfl, rfl⟩ := trodAll_nil r1
  obtain rfl : args = #[v0, v1] := by cases args; simp_all
  obtain ⟨A0, c0, l0, rfl, le0, ca0, re0⟩ := open_ways (hval 0 23 v0 rfl rfl) h0
  obtain ⟨A1, c1, l1, rfl, le1, ca1, re1⟩ := open_is (hval 1 22 v1 rfl rfl) h1
  clear hA0 hval0
  refine (first_row W A0 c0 l0 A1 c1 l1 le0 ca0 re0 le1 ca1 re1).mono fun e W' ⟨he, hg⟩ => ?_
  subst he
  exact ⟨_, rfl, post_of_below (pv := []) hW' (fun _ _ _ => (trodAll_cons_mk (shut_bool Try.underlying4 _) trodAll_mk0)) (fun sp hsp => trodAll_keep laid_out hg rds hAk hlt hsp) (fun _ _ => rfl) (List.append_nil _).symm
    hg (ok_one (by kernel_rfl) rfl (okWide_bool_mk Try.underlying4 _))⟩

theorem over : Rows.routeFirstRow.holds Try.pinned (OpenSpec.ofChange Rows.routeFirstSpec) :=
  OpenClaim.holds_of_wide 6 Try.f6 rfl rfl rfl rfl rfl rfl rfl ⟨rfl, rfl, rfl, rfl, rfl⟩ rfl rfl rfl rfl rfl (by kernel_rfl) Try.func6 (by kernel_rfl)
    (of_decide_eq_true (by kernel_rfl)) (by unfold Func.isWrapper; first | (rw [if_pos (by decide +kernel)]; kernel_rfl) | (rw [if_neg (by decide +kernel)]; exact ⟨rfl, rfl⟩))
    (fun os started H enc _ => lifted os started H enc)

theorem proved : Rows.RouteFirstSaid :=
  over
end Go.Proofs.Ytodninjcmfbfdaa.routeFirst
