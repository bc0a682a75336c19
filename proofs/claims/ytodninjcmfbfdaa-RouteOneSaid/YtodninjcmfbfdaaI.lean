/- The walk of RouteOne. -/
import Derived.Test.YtodninjcmfbfdaaH
namespace Go.Proofs.Ytodninjcmfbfdaa
open Go.RowKit

theorem bef_more : ∀ (a : List Int) (m : Int), befB a (a ++ [m]) = true := fun a m => by
  rw [befB_eq, if_pos (by simp)]
theorem one_or (a b : List Int) : (befB a b || befB b a) = !sameB a b := by
  rw [sameB_eq]
  by_cases h : a = b
  · subst h; simp [befB_irr]
  · cases h1 : befB a b <;> cases h2 : befB b a <;> simp [h]
    exact h (befB_total a b h1 h2)

set_option maxHeartbeats 4000000 in
theorem one_walk (A B C : Option Addr) (ca cb cc : Nat) (a b c : List Int) (m : Int) (w : World) (hra : ReadsI w A a) (hrb : ReadsI w B b) (hrc : ReadsI w C c) :
    Calls Try.prog 4 #[.slice A a.length ca, .slice B b.length cb, .slice C c.length cc, .int .i64 m] w fun e w' => e = .returned (.bool true) ∧ Below w.heap.size w w' := by
  have HA := Lib.hid hra
  have HB := Lib.hid hrb
  have HC := Lib.hid hrc
  clear hra hrb hrc
  by_cases h30 : (30 : Int) < a.length
  · go_enter Try.func4, Try.ntmps4
    go_wp2_with (go_at_call 8; refine (awake_any _).mono ?_; rintro e w1 ⟨rfl, hb1⟩)
    go_ret
    exact ⟨rfl, hb1⟩
  by_cases h31 : (30 : Int) < b.length
  · go_enter Try.func4, Try.ntmps4
    go_wp2_with (go_at_call 8; refine (awake_any _).mono ?_; rintro e w1 ⟨rfl, hb1⟩)
    go_ret
    exact ⟨rfl, hb1⟩
  by_cases h32 : (30 : Int) < c.length
  · go_enter Try.func4, Try.ntmps4
    go_wp2_with (go_at_call 8; refine (awake_any _).mono ?_; rintro e w1 ⟨rfl, hb1⟩)
    go_ret
    exact ⟨rfl, hb1⟩
  have Hab := Lib.hid (fun w' hb => before_any A B ca cb a b w' (by omega) (by omega) (HA.out.below hb) (HB.out.below hb))
  have Hbc := Lib.hid (fun w' hb => before_any B C cb cc b c w' (by omega) (by omega) (HB.out.below hb) (HC.out.below hb))
  have Hac := Lib.hid (fun w' hb => before_any A C ca cc a c w' (by omega) (by omega) (HA.out.below hb) (HC.out.below hb))
  have Hba := Lib.hid (fun w' hb => before_any B A cb ca b a w' (by omega) (by omega) (HB.out.below hb) (HA.out.below hb))
  have Haa := Lib.hid (fun w' hb => before_any A A ca ca a a w' (by omega) (by omega) (HA.out.below hb) (HA.out.below hb))
  have Hpl := Lib.hid (fun w' hb => plain_any A B ca cb a b w' (by omega) (HA.out.below hb) (HB.out.below hb))
  have Hal := Lib.hid (fun w' (hb : Below w.heap.size w w') (A' : Option Addr) (k' : Nat) (hr : ReadsI w' A' (a ++ [m])) => before_any A A' ca k' a (a ++ [m]) w' (by omega) (by simp; omega) (HA.out.below hb) hr)
  rw [befB_irr] at Haa
  rw [bef_more] at Hal
  have f1 := one_or a b
  have f2 := befB_asym a b
  have f3 := befB_tr a b c
  generalize befB a b = x at *
  generalize befB b a = x' at *
  generalize befB b c = y at *
  generalize befB a c = z at *
  generalize sameB a b = s at *
  generalize hlong : a ++ [m] = long at *
  have HLL : Hid (long.length = a.length + 1) := by show _ = _; rw [← hlong]; simp
  have key : (x = false ∧ x' = true ∧ s = false) ∨ (x = false ∧ x' = false ∧ s = true) ∨ (x = true ∧ x' = false ∧ s = false ∧ y = false) ∨ (x = true ∧ x' = false ∧ s = false ∧ y = true ∧ z = true) := by
    cases x <;> cases x' <;> cases y <;> cases z <;> cases s <;> simp at f1 f2 f3 ⊢
  clear f1 f2 f3
  go_enter Try.func4, Try.ntmps4
  go_upto_region 4 with (first
    | (go_at_call 12; with_reducible refine (Hab.out _ (by first | exact Below.refl _ _ | assumption)).mono ?_; rintro e w1 ⟨rfl, hb1⟩)
    | (go_at_call 12; with_reducible refine (Hbc.out _ hb1).mono ?_; rintro e w2 ⟨rfl, hb2'⟩; have hb2 := bthen hb1 hb2')
    | (go_at_call 12; with_reducible refine (Hac.out _ hb2).mono ?_; rintro e w3 ⟨rfl, hb3'⟩; have hb3 := bthen hb2 hb3'))
  have HRA := Lib.hid (HA.out.below hb3)
  have hb0 := hb3
  clear hb1 hb2 hb2' hb3 hb3'
  go_upto_region 5 with (first
    | (at_builtin; refine app_i rfl (.const (.slice none 0 0)) (.tmp 36) rfl w3.heap.size (w0 := w3) _ [] a A ca rfl rfl (OwnsI.nil _ _) HRA.out (Below.refl _ _) (Nat.le_refl _) (by simp; omega) ?_; intro v4 w4 ho4 hb4 hB4 hg4)
    | (at_builtin; refine app_i rfl (.tmp 37) (.tmp 39) rfl w3.heap.size (w0 := w3) _ a [m] (some ⟨w4.heap.size, 0, none⟩) 1 rfl rfl (OwnsI.below ho4 (balloc (Below.refl _ _) _)) (box_i w4 m) (hb4.alloc hB4 _) (by simp; omega) (by simp; omega) ?_; intro v5 w5 ho5 hb5 hB5 hg5))
  obtain ⟨A5, k5, hv5, hr5⟩ := ho5.slice
  rw [hlong] at hv5 hr5
  subst hv5
  have HR5 := Lib.hid hr5
  have hb6 := bthen hb0 hb5
  clear ho4 hb4 hB4 hg4 ho5 hb5 hB5 hg5 hr5 hb0 HRA hlong
  rcases key with ⟨rfl, rfl, rfl⟩ | ⟨rfl, rfl, rfl⟩ | ⟨rfl, rfl, rfl, rfl⟩ | ⟨rfl, rfl, rfl, rfl, rfl⟩
  all_goals
    go_wp2_with fail
    refine (awake_any _).mono ?_
    rintro e w7 ⟨rfl, hb7'⟩
    have hb7 := bthen hb6 hb7'
    have hb57 := hb7'
    clear hb7'
    go_wp2_with fail
    refine (Hba.out _ hb7).mono ?_
    rintro e w8 ⟨rfl, hb8'⟩
    have hb8 := bthen hb7 hb8'
    have hb58 := bthen hb57 hb8'
    clear hb8' hb7 hb57
    go_wp2_with fail
    refine (Hpl.out _ hb8).mono ?_
    rintro e w9 ⟨rfl, hb9'⟩
    have hb9 := bthen hb8 hb9'
    have hb59 := bthen hb58 hb9'
    clear hb9' hb8 hb58
    go_wp2_with fail
    refine (Hal.out _ hb9 A5 k5 (HR5.out.below hb59)).mono ?_
    rintro e w10 ⟨rfl, hb10'⟩
    have hb10 := bthen hb9 hb10'
    clear hb10' hb9 hb59
    go_wp2_with fail
    refine (Haa.out _ hb10).mono ?_
    rintro e w11 ⟨rfl, hb11'⟩
    go_wp2_with fail
    go_ret
    exact ⟨rfl, bthen hb10 hb11'⟩
end Go.Proofs.Ytodninjcmfbfdaa
