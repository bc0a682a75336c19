/- The contracts of newelhelp.Same and Plain over ints, and of the reference's Place and Before. -/
import Derived.Test.YtodninjcmfbfdaaB
namespace Go.Proofs.Ytodninjcmfbfdaa
open Go.RowKit

def sameB : List Int → List Int → Bool
  | [], [] => true
  | x :: l, y :: m => decide (x = y) && sameB l m
  | _, _ => false
theorem sameB_eq (l m : List Int) : sameB l m = decide (l = m) := by
  induction l generalizing m with
  | nil => cases m <;> simp [sameB]
  | cons x l ih => cases m with
    | nil => simp [sameB]
    | cons y m => simp only [sameB, ih]; by_cases h1 : x = y <;> by_cases h2 : l = m <;> simp [h1, h2]
theorem sameB_len {l m : List Int} (h : l.length ≠ m.length) : sameB l m = false := by
  rw [sameB_eq]; exact decide_eq_false (fun e => h (by rw [e]))
theorem eq1_any (x y : Int) (w : World) : Calls Try.prog 20 #[.int .i64 x, .int .i64 y] w fun e w' => e = .returned (.bool (decide (x = y))) ∧ w' = w := by
  by_cases h : x = y
  · subst h
    rw [decide_eq_true rfl]
    go_enter Try.func20, Try.ntmps20
    go_wp2
    go_ret
    exact ⟨rfl, rfl⟩
  · rw [decide_eq_false h]
    have h2 : (x == y) = false := by simp [h]
    go_enter Try.func20, Try.ntmps20
    go_wp2
    go_ret
    exact ⟨rfl, rfl⟩
set_option maxHeartbeats 400000 in
theorem same_any (A B : Option Addr) (c d : Nat) (l m : List Int) (w : World) (hn : l.length ≤ 100000) (hl : ReadsI w A l) (hm : ReadsI w B m) :
    Calls Try.prog 19 #[.slice A l.length c, .slice B m.length d, .func (.func 20) #[] #[]] w fun e w' => e = .returned (.bool (sameB l m)) ∧ Below w.heap.size w w' := by
  have HL := Lib.hid hl
  have HM := Lib.hid hm
  clear hl hm
  by_cases hlen : l.length = m.length
  · have HN := Lib.hid hlen
    have hne : ((l.length : Int) != (m.length : Int)) = false := by simp [hlen]
    clear hlen
    go_enter Try.func19, Try.ntmps19
    go_wp2_with fail
    go_loopw [7] (fun v wr => ∃ k : Nat, v = .int .i64 k ∧ k ≤ l.length ∧ Below w.heap.size w wr ∧ Hid (sameB l m = sameB (l.drop k) (m.drop k))) (fun v _ => l.length - (intOf v).toNat)
    case atStart => exact ⟨0, rfl, by omega, Below.refl _ _, rfl⟩
    case round =>
      obtain ⟨k, rfl, hk, hb, HK⟩ := hrel
      by_cases hlt : k < l.length
      · obtain ⟨ad, rfl, hc⟩ := (HL.out.below hb) (by omega)
        have hc1 := hc k hlt
        obtain ⟨bd, rfl, hc'⟩ := (HM.out.below hb) (by have := HN.out; omega)
        have hltm : k < m.length := by have := HN.out; omega
        have hc3 := hc' k hltm
        have HD := Lib.hid (drop_i l k hlt)
        have HD2 := Lib.hid (drop_i m k hltm)
        clear hc hc'
        generalize l.getD k 0 = x at hc1 HD
        generalize m.getD k 0 = y at hc3 HD2
        have HE : Hid (sameB (l.drop k) (m.drop k) = (decide (x = y) && sameB (l.drop (k + 1)) (m.drop (k + 1)))) := by show _ = _; rw [HD.out, HD2.out]; rfl
        have H1 := Lib.hid (eq1_any x y)
        generalize decide (x = y) = z at *
        rcases Bool.eq_false_or_eq_true z with rfl | rfl
        · go_wp2_with fail
          go_still_tail 9, (by kernel_rfl)
          change wpList _ _ _ _ _ wr.drew
          go_wp2_with (go_at_call 20; refine (H1.out _).mono ?_; rintro e w' ⟨rfl, rfl⟩)
          go_roundw
          case rel => exact ⟨k + 1, by go_num, by omega, bdrewN hb 1, by show _ = _; rw [HK.out, HE.out]; rfl⟩
          case measure => simp [intOf]; omega
        · go_wp2_with fail
          go_still_tail 9, (by kernel_rfl)
          change wpList _ _ _ _ _ wr.drew
          go_wp2_with (go_at_call 20; refine (H1.out _).mono ?_; rintro e w' ⟨rfl, rfl⟩)
          go_ret
          exact ⟨by rw [HK.out, HE.out]; rfl, bdrewN hb 1⟩
      · go_wp2_with fail
        go_ret
        exact ⟨by rw [HK.out, List.drop_eq_nil_of_le (by omega), List.drop_eq_nil_of_le (by have := HN.out; omega)]; rfl, hb⟩
  · have hne : ((l.length : Int) != (m.length : Int)) = true := by simp; omega
    have H := Lib.hid (sameB_len hlen)
    clear hlen
    go_enter Try.func19, Try.ntmps19
    go_wp2_with fail
    go_ret
    exact ⟨by rw [H.out]; rfl, Below.refl _ _⟩
theorem plain_any (A B : Option Addr) (c d : Nat) (l m : List Int) (w : World) (hn : l.length ≤ 100000) (hl : ReadsI w A l) (hm : ReadsI w B m) :
    Calls Try.prog 14 #[.slice A l.length c, .slice B m.length d] w fun e w' => e = .returned (.bool (sameB l m)) ∧ Below w.heap.size w w' := by
  have H := Lib.hid (same_any A B c d l m w hn hl hm)
  clear hl hm
  go_enter Try.func14, Try.ntmps14
  go_wp2_with (go_at_call 19; refine H.out.mono ?_; rintro e w' ⟨rfl, hb⟩)
  go_ret
  exact ⟨rfl, hb⟩
theorem rplace_any (A : Option Addr) (c : Nat) (l : List Int) (w : World) (hn : l.length ≤ 40) (hl : ReadsI w A l) :
    Calls Try.prog 11 #[.slice A l.length c] w fun e w' => e = .returned (placeV l) ∧ w' = w := by
  have HL := Lib.hid hl
  clear hl
  by_cases h0 : l.length = 0
  · have e : placeV l = .complex .f64 (floatOfInt .f64 0) (floatOfInt .f64 0) := by
      rw [placeV, lastC, if_pos h0, h0]; rfl
    rw [e, h0]
    clear e h0
    go_enter Try.func11, Try.ntmps11
    go_wp2
    go_ret
    exact ⟨rfl, rfl⟩
  · obtain ⟨ad, rfl, hc⟩ := HL.out (by omega)
    have hc1 := hc (l.length - 1) (by omega)
    have HE : Hid (placeV l = .complex .f64 (fl l.length) (floatOfInt .f64 (min (max (l.getD (l.length - 1) 0) (-1000000)) 1000000))) := by show _ = _; rw [placeV, lastC, if_neg h0]
    rw [HE.out]
    clear HE hc HL
    obtain ⟨m, hm⟩ : ∃ m, l.length = m + 1 := ⟨l.length - 1, by omega⟩
    rw [hm] at hc1 ⊢
    rw [show m + 1 - 1 = m from rfl] at hc1 ⊢
    have hfl : fl (m + 1) = floatOfInt .f64 ((m : Int) + 1) := rfl
    rw [hfl]
    have hm6 : (m : Int) ≤ 40 := by omega
    have hw64 : wrap64 (m : Int) = (m : Int) := by unfold wrap64; omega
    clear hfl h0 hm hn
    generalize l.getD m 0 = x at *
    have hx0 : (0 : Int) ≤ (m : Int) := by omega
    have hx1 : (m : Int) < (m : Int) + 1 := by omega
    generalize hy : min (max x (-1000000)) 1000000 = y
    go_enter Try.func11, Try.ntmps11
    go_wp2_with fail
    all_goals
      go_ret
      refine ⟨?_, rfl⟩
      clear hw64
      rename_i q1
      first
      | (rw [show y = 1000000 by omega]; rfl)
      | (rw [if_neg (by omega)] at q1; rw [show y = x by omega]; rfl)
      | (rw [if_neg (by omega)] at q1; rw [show y = -1000000 by omega]; rfl)

theorem cI_ne {x y : Int} (h : ¬x = y) : ¬cI x y = 0 := by
  unfold cI
  by_cases h1 : x < y
  · rw [if_pos h1]; decide
  · rw [if_neg h1, if_pos (by omega)]; decide
theorem cI_lt (x y : Int) : decide (cI x y < 0) = decide (x < y) := by
  unfold cI
  by_cases h1 : x < y
  · rw [if_pos h1]; simp [h1]
  · rw [if_neg h1]; by_cases h2 : y < x <;> simp [h1, h2]
/-- The reference's Before. -/
def rbefB (a b : List Int) : Bool := if a.length ≠ b.length then decide (a.length < b.length) else decide (lexC a b < 0)
theorem rbefore_any (A B : Option Addr) (c d : Nat) (l m : List Int) (w : World) (hn : l.length ≤ 40) (hm : m.length ≤ 40) (hl : ReadsI w A l) (hr : ReadsI w B m) :
    Calls Try.prog 13 #[.slice A l.length c, .slice B m.length d] w fun e w' => e = .returned (.bool (rbefB l m)) ∧ Below w.heap.size w w' := by
  have HL := Lib.hid hl
  have HM := Lib.hid hr
  clear hl hr
  by_cases hlen : l.length = m.length
  · have HN := Lib.hid hlen
    have HR : Hid (rbefB l m = decide (lexC l m < 0)) := by show _ = _; rw [rbefB, if_neg (by simpa using hlen)]
    have hne : ((l.length : Int) != (m.length : Int)) = false := by simp [hlen]
    clear hlen
    go_enter Try.func13, Try.ntmps13
    go_wp2_with fail
    go_loopw [5] (fun v wr => ∃ k : Nat, v = .int .i64 k ∧ k ≤ l.length ∧ Below w.heap.size w wr ∧ Hid (lexC l m = lexC (l.drop k) (m.drop k))) (fun v _ => l.length - (intOf v).toNat)
    case atStart => exact ⟨0, rfl, by omega, Below.refl _ _, rfl⟩
    case round =>
      obtain ⟨k, rfl, hk, hb, HK⟩ := hrel
      by_cases hlt : k < l.length
      · obtain ⟨ad, rfl, hc⟩ := (HL.out.below hb) (by omega)
        have hc1 := hc k hlt
        obtain ⟨bd, rfl, hc'⟩ := (HM.out.below hb) (by have := HN.out; omega)
        have hltm : k < m.length := by have := HN.out; omega
        have hc3 := hc' k hltm
        have HD := Lib.hid (drop_i l k hlt)
        have HD2 := Lib.hid (drop_i m k hltm)
        have hi0 : (0 : Int) ≤ (k : Int) := by omega
        have hi1 : (k : Int) < (l.length : Int) := by omega
        have hi2 : (k : Int) < (m.length : Int) := by omega
        clear hc hc'
        generalize l.getD k 0 = x at hc1 HD
        generalize m.getD k 0 = y at hc3 HD2
        by_cases hxy : x = y
        · subst hxy
          have HE : Hid (lexC (l.drop k) (m.drop k) = lexC (l.drop (k + 1)) (m.drop (k + 1))) := by
            show _ = _; rw [HD.out, HD2.out, lexC, if_pos (by simp [cI])]
          go_wp2_with fail
          go_quiet (fail)
          go_wp2_with fail
          go_roundw
          case rel => exact ⟨k + 1, by go_num, by omega, by (repeat (first | (with_reducible assumption) | (refine bdrewN ?_ _) | (refine bdrew ?_))), by show _ = _; rw [HK.out, HE.out]⟩
          case measure => simp [intOf]; omega
        · have hne2 : (x != y) = true := by simp [hxy]
          have HE : Hid (rbefB l m = decide (x < y)) := by
            show _ = _
            rw [HR.out, HK.out, HD.out, HD2.out, lexC]
            rw [if_neg (cI_ne hxy), cI_lt]
          go_wp2_with fail
          go_quiet (fail)
          go_wp2_with fail
          go_quiet (fail)
          go_wp2_with fail
          go_ret
          exact ⟨by rw [HE.out]; rfl, by (repeat (first | (with_reducible assumption) | (refine bdrewN ?_ _) | (refine bdrew ?_)))⟩
      · go_wp2_with fail
        go_ret
        exact ⟨by rw [HR.out, HK.out, List.drop_eq_nil_of_le (by omega), List.drop_eq_nil_of_le (by have := HN.out; omega)]; rfl, hb⟩
  · have hne : ((l.length : Int) != (m.length : Int)) = true := by simp; omega
    have H : Hid (rbefB l m = decide (l.length < m.length)) := by show _ = _; rw [rbefB, if_pos hlen]
    clear hlen
    go_enter Try.func13, Try.ntmps13
    go_wp2_with fail
    go_ret
    exact ⟨by rw [H.out]; simp, Below.refl _ _⟩
end Go.Proofs.Ytodninjcmfbfdaa
