/- The contracts of Place, of slices.Compare, cmp.Or, compare and Before. -/
import Derived.Test.YtodninjcmfbfdaaA
namespace Go.Proofs.Ytodninjcmfbfdaa
open Go.RowKit

def lastC (l : List Int) : Int := if l.length = 0 then 0 else min (max (l.getD (l.length - 1) 0) (-1000000)) 1000000
def placeV (l : List Int) : Value := .complex .f64 (fl l.length) (floatOfInt .f64 (lastC l))
theorem place_any (A : Option Addr) (c : Nat) (l : List Int) (w : World) (hn : l.length ≤ 40) (hl : ReadsI w A l) :
    Calls Try.prog 10 #[.slice A l.length c] w fun e w' => e = .returned (placeV l) ∧ w' = w := by
  have HL := Lib.hid hl
  clear hl
  by_cases h0 : l.length = 0
  · have e : placeV l = .complex .f64 0 0 := by
      rw [placeV, lastC, if_pos h0, h0, fl_zero, show floatOfInt .f64 0 = 0 from fl_zero]
    rw [e, h0]
    clear e h0
    go_enter Try.func10, Try.ntmps10
    go_wp2
    go_ret
    exact ⟨rfl, rfl⟩
  · obtain ⟨ad, rfl, hc⟩ := HL.out (by omega)
    have hc1 := hc (l.length - 1) (by omega)
    have HE : Hid (placeV l = .complex .f64 (fl l.length) (floatOfInt .f64 (min (max (l.getD (l.length - 1) 0) (-1000000)) 1000000))) := by show _ = _; rw [placeV, lastC, if_neg h0]
    rw [HE.out]
    clear HE hc HL
    obtain ⟨m, hm⟩ : ∃ m, l.length = m + 1 := ⟨l.length - 1, by omega⟩
    rw [hm] at hc1 ⊢
    rw [show m + 1 - 1 = m from rfl] at hc1 ⊢
    have hfl : fl (m + 1) = floatOfInt .f64 ((m : Int) + 1) := rfl
    rw [hfl]
    have hm6 : (m : Int) ≤ 40 := by omega
    have hw64 : wrap64 (m : Int) = (m : Int) := by unfold wrap64; omega
    clear hfl h0 hm hn
    generalize l.getD m 0 = x at *
    have hx0 : (0 : Int) ≤ (m : Int) := by omega
    have hx1 : (m : Int) < (m : Int) + 1 := by omega
    generalize hy : min (max x (-1000000)) 1000000 = y
    have hf0 : (x < -1000000) ∨ (-1000000 ≤ x ∧ x ≤ 1000000) ∨ (1000000 < x) := by omega
    go_enter Try.func10, Try.ntmps10
    go_wp2_with fail
    all_goals
      go_ret
      refine ⟨?_, rfl⟩
      clear hw64
      rename_i q1 q2
      have hyy : y = if (if x < -1000000 then -1000000 else x) ≤ 1000000 then (if x < -1000000 then -1000000 else x) else 1000000 := by
        rw [← hy]; split <;> split <;> omega
      rw [hyy]
      congr 3
      split <;> split <;> rename_i p1 p2 <;> first | rfl | omega | (rw [if_pos p2] at q1; omega) | (rw [if_neg p2] at q1; omega)

/-- slices.Compare. -/
def lexC : List Int → List Int → Int
  | [], [] => 0
  | [], _ :: _ => -1
  | _ :: _, [] => 1
  | x :: a, y :: b => if cI x y = 0 then lexC a b else cI x y
theorem drop_i (l : List Int) (k : Nat) (h : k < l.length) : l.drop k = l.getD k 0 :: l.drop (k + 1) := by
  rw [List.drop_eq_getElem_cons h]; simp [List.getD_eq_getElem?_getD, h]
set_option maxHeartbeats 1000000 in
theorem lex_any (A B : Option Addr) (c d : Nat) (l m : List Int) (w : World) (hn : l.length ≤ 40) (hm : m.length ≤ 40) (hl : ReadsI w A l) (hr : ReadsI w B m) :
    Calls Try.prog 25 #[.slice A l.length c, .slice B m.length d] w fun e w' => e = .returned (.int .i64 (lexC l m)) ∧ w' = w := by
  have HL := Lib.hid hl
  have HM := Lib.hid hr
  clear hl hr
  go_enter Try.func25, Try.ntmps25
  go_wp2_with fail
  go_loopw [11] (fun v wr => ∃ k : Nat, v = .int .i64 k ∧ k ≤ l.length ∧ k ≤ m.length ∧ wr = w ∧ Hid (lexC l m = lexC (l.drop k) (m.drop k))) (fun v _ => l.length - (intOf v).toNat)
  case atStart => exact ⟨0, rfl, by omega, by omega, rfl, rfl⟩
  case round =>
    obtain ⟨k, rfl, hk, hk2, rfl, HS⟩ := hrel
    by_cases hlt : k < l.length
    · obtain ⟨ad, rfl, hc⟩ := HL.out (by omega)
      have hx := hc k hlt
      have HD := Lib.hid (drop_i l k hlt)
      clear hc
      generalize l.getD k 0 = x at hx HD
      by_cases hlt2 : k < m.length
      · obtain ⟨bd, rfl, hc⟩ := HM.out (by omega)
        have hy := hc k hlt2
        have HE := Lib.hid (drop_i m k hlt2)
        clear hc
        generalize m.getD k 0 = y at hy HE
        by_cases hc0 : cI x y = 0
        · have HS2 : Hid (lexC l m = lexC (l.drop (k + 1)) (m.drop (k + 1))) := by show _ = _; rw [HS.out, HD.out, HE.out, lexC, if_pos hc0]
          go_wp2_with (go_at_call 28; refine (cmp_i x y _).mono ?_; rintro e w' ⟨rfl, rfl⟩; rw [hc0])
          go_roundw
          case rel => exact ⟨k + 1, by go_num, by omega, by omega, trivial, HS2⟩
          case measure => simp [intOf]; omega
        · have HS2 : Hid (lexC l m = cI x y) := by show _ = _; rw [HS.out, HD.out, HE.out, lexC, if_neg hc0]
          generalize hz : cI x y = z at *
          go_wp2_with (go_at_call 28; refine (cmp_i x y _).mono ?_; rintro e w' ⟨rfl, rfl⟩; rw [hz])
          go_ret
          exact ⟨by rw [HS2.out]; rfl, rfl⟩
      · have HS2 : Hid (lexC l m = 1) := by show _ = _; rw [HS.out, HD.out, List.drop_eq_nil_of_le (by omega : m.length ≤ k)]; rfl
        have hkm : (m.length : Int) ≤ (k : Int) := by omega
        go_wp2_with fail
        go_ret
        exact ⟨by rw [HS2.out]; rfl, rfl⟩
    · by_cases hlt2 : k < m.length
      · have HS2 : Hid (lexC l m = -1) := by show _ = _; rw [HS.out, List.drop_eq_nil_of_le (by omega : l.length ≤ k), drop_i m k hlt2]; rfl
        have hkl : (l.length : Int) ≤ (k : Int) := by omega
        have hll : (l.length : Int) < (m.length : Int) := by omega
        go_wp2_with fail
        go_ret
        exact ⟨by rw [HS2.out]; rfl, rfl⟩
      · have HS2 : Hid (lexC l m = 0) := by show _ = _; rw [HS.out, List.drop_eq_nil_of_le (by omega : l.length ≤ k), List.drop_eq_nil_of_le (by omega : m.length ≤ k)]; rfl
        have hkl : (l.length : Int) ≤ (k : Int) := by omega
        have hll : (m.length : Int) ≤ (l.length : Int) := by omega
        go_wp2_with fail
        go_ret
        exact ⟨by rw [HS2.out]; rfl, rfl⟩

/-- cmp.Or of two. -/
def or2 (x y : Int) : Int := if x = 0 then y else x
set_option maxHeartbeats 1000000 in
theorem or_any (x y : Int) (b : Nat) (w : World) (h0 : w.cell? ⟨b, 0, none⟩ = some (.int .i64 x)) (h1 : w.cell? ⟨b, 1, none⟩ = some (.int .i64 y)) :
    Calls Try.prog 23 #[.slice (some ⟨b, 0, none⟩) 2 2] w fun e w' => e = .returned (.int .i64 (or2 x y)) ∧ w' = w := by
  by_cases hx : x = 0
  · subst hx
    rw [show or2 0 y = y from if_pos rfl]
    by_cases hy : y = 0
    · subst hy
      go_enter Try.func23, Try.ntmps23
      go_wp2
      refine wp_loop_rounds 3 ?_
      rw [rounds_succ]
      go_wp2
      rw [rounds_succ]
      go_wp2
      rw [rounds_succ]
      go_wp2
      go_ret
      exact ⟨rfl, rfl⟩
    · go_enter Try.func23, Try.ntmps23
      go_wp2
      refine wp_loop_rounds 2 ?_
      rw [rounds_succ]
      go_wp2
      rw [rounds_succ]
      go_wp2
      go_ret
      exact ⟨rfl, rfl⟩
  · rw [show or2 x y = x from if_neg hx]
    go_enter Try.func23, Try.ntmps23
    go_wp2
    refine wp_loop_rounds 1 ?_
    rw [rounds_succ]
    go_wp2
    go_ret
    exact ⟨rfl, rfl⟩

def cmpW (a b : List Int) : Int := or2 (cL a.length b.length) (lexC a b)
set_option maxHeartbeats 1000000 in
theorem compare_any (A B : Option Addr) (c d : Nat) (a b : List Int) (w : World) (hn : a.length ≤ 39) (hm : b.length ≤ 39) (hl : ReadsI w A a) (hr : ReadsI w B b) :
    Calls Try.prog 18 #[.slice A a.length c, .slice B b.length d] w fun e w' => e = .returned (.int .i64 (cmpW a b)) ∧ Below w.heap.size w w' := by
  have HP1 := Lib.hid (place_any A c a w (by omega) hl)
  have HP2 := Lib.hid (place_any B d b w (by omega) hr)
  have HC := Lib.hid (cmp_f a.length b.length (by omega) (by omega) w)
  have HX := Lib.hid (lex_any A B c d a b w (by omega) (by omega) hl hr)
  have hv1 : ∃ u, placeV a = .complex .f64 (fl a.length) u := ⟨_, rfl⟩
  have hv2 : ∃ u, placeV b = .complex .f64 (fl b.length) u := ⟨_, rfl⟩
  obtain ⟨p1, hp1⟩ := hv1
  obtain ⟨p2, hp2⟩ := hv2
  rw [hp1] at HP1
  rw [hp2] at HP2
  unfold cmpW
  clear hl hr hp1 hp2
  generalize cL a.length b.length = x at *
  generalize lexC a b = y at *
  generalize fl a.length = f1 at *
  generalize fl b.length = f2 at *
  go_enter Try.func18, Try.ntmps18
  go_wp2_with (first
    | (go_at_call 10; with_reducible refine HP1.out.mono ?_; rintro e w' ⟨rfl, rfl⟩)
    | (go_at_call 10; with_reducible refine HP2.out.mono ?_; rintro e w' ⟨rfl, rfl⟩)
    | (go_at_call 24; with_reducible refine HC.out.mono ?_; rintro e w' ⟨rfl, rfl⟩)
    | (go_at_call 25; with_reducible refine HX.out.mono ?_; rintro e w' ⟨rfl, rfl⟩)
    | (go_at_call 23; refine (or_any x y _ _ (by simp) (by simp)).mono ?_; rintro e w' ⟨rfl, rfl⟩))
  go_ret
  exact ⟨rfl, balloc (Below.refl _ _) _⟩
def befB (a b : List Int) : Bool := decide (cmpW a b < 0)
theorem before_any (A B : Option Addr) (c d : Nat) (a b : List Int) (w : World) (hn : a.length ≤ 39) (hm : b.length ≤ 39) (hl : ReadsI w A a) (hr : ReadsI w B b) :
    Calls Try.prog 12 #[.slice A a.length c, .slice B b.length d] w fun e w' => e = .returned (.bool (befB a b)) ∧ Below w.heap.size w w' := by
  have HC := Lib.hid (compare_any A B c d a b w hn hm hl hr)
  unfold befB
  clear hl hr
  generalize cmpW a b = z at *
  go_enter Try.func12, Try.ntmps12
  go_wp2_with (go_at_call 18; refine HC.out.mono ?_; rintro e w' ⟨rfl, hb⟩)
  go_ret
  exact ⟨rfl, hb⟩
end Go.Proofs.Ytodninjcmfbfdaa
