/- The contracts of chars.Trim, Head and Name, and of the reference's Trim and Name; for every string that a reading gives. -/
import Derived.Test.YtglffonjhodmdaaA
import Derived.Lib.IndexBytes
namespace Go.Proofs.Ytglffonjhodmdaa
open Go.RowKit

theorem wp_again {P : Program} {a : Act} {w : World} {Q : Exit → Act → World → Prop} {body : Code} (l : Nat) (J : Act → World → Prop) (μ : Act → World → Nat)
    (h0 : J a w) (pass : ∀ a w, J a w → body.wp P (Exit.jump l (fun a' w' => J a' w' ∧ μ a' w' < μ a w) Q) a w) : (Code.scope ((Code.label l).seq body)).wp P Q a w := by
  refine wp_scope_jumps l J μ (by simp [findLabel]; rfl) ?_ ?_
  · refine wp_seq (wp_label ?_)
    refine wp_mono (pass a w h0) ?_
    intro e a' w' h
    cases e <;> simp only [Exit.jump] at h ⊢ <;> first | exact h | exact ⟨h.1, h.2.1⟩
  · intro a w h
    exact wp_seq (wp_skip (pass a w h))

def LL (s : ByteArray) : List UInt8 := s.data.toList
theorem LL_len (s : ByteArray) : (LL s).length = s.size := by simp [LL]
theorem LL_ext {s t : ByteArray} (h : LL s = LL t) : s = t := by
  cases s; cases t; simp only [LL] at h; congr 1; exact Array.toList_inj.1 h
def ofL (l : List UInt8) : ByteArray := ⟨l.toArray⟩
theorem LL_ofL (l : List UInt8) : LL (ofL l) = l := by simp [LL, ofL]
theorem ofL_LL (s : ByteArray) : ofL (LL s) = s := LL_ext (LL_ofL _)
def spU (c : UInt8) : Bool := spI (c.toNat : Int)
def ltrim (l : List UInt8) : List UInt8 := l.dropWhile spU
def rtrim (l : List UInt8) : List UInt8 := (l.reverse.dropWhile spU).reverse
def trimL (l : List UInt8) : List UInt8 := rtrim (ltrim l)

theorem ltrim_cons {c : UInt8} {t : List UInt8} (h : spI (c.toNat : Int) = true) : ltrim (c :: t) = ltrim t := by simp [ltrim, spU, h]
theorem ltrim_stop {c : UInt8} {t : List UInt8} (h : spI (c.toNat : Int) = false) : ltrim (c :: t) = c :: t := by simp [ltrim, spU, h]
theorem rtrim_snoc {c : UInt8} {t : List UInt8} (h : spI (c.toNat : Int) = true) : rtrim (t ++ [c]) = rtrim t := by simp [rtrim, spU, h]
theorem rtrim_stop {c : UInt8} {t : List UInt8} (h : spI (c.toNat : Int) = false) : rtrim (t ++ [c]) = t ++ [c] := by simp [rtrim, spU, h]

theorem LL_head {x : ByteArray} (h : 0 < x.size) : LL x = x[0] :: LL (x.extract 1 x.size) := by
  have e : LL (x.extract 1 x.size) = (LL x).drop 1 := Lib.extract_to_end x 1
  rw [e]
  have := List.drop_eq_getElem_cons (l := LL x) (i := 0) (by rw [LL_len]; exact h)
  simp only [List.drop_zero] at this
  exact this
theorem LL_last {x : ByteArray} (h : 0 < x.size) : LL x = LL (x.extract 0 (x.size - 1)) ++ [x[x.size - 1]] := by
  have e : LL (x.extract 0 (x.size - 1)) = (LL x).take (x.size - 1) := by
    have := Lib.extract_data x 0 (x.size - 1); simpa [LL] using this
  rw [e]
  have h2 := List.take_succ_eq_append_getElem (l := LL x) (i := x.size - 1) (by rw [LL_len]; omega)
  have e3 : x.size - 1 + 1 = x.size := by omega
  rw [e3, List.take_of_length_le (by rw [LL_len]; exact Nat.le_refl _)] at h2
  exact h2

theorem nil_not {x : ByteArray} (h : 0 < x.size) : (¬ x.toList = [] ∧ 0 < (x.size : Int)) ∧ (!x.toList.isEmpty) = true := by
  have hn1 : ¬ x.toList = [] := by rw [ByteArray.toList_eq]; intro h; have := LL_len x; simp [LL, h] at this; omega
  exact ⟨⟨hn1, by omega⟩, by simpa using hn1⟩
theorem nil_yes {x : ByteArray} (h : ¬ 0 < x.size) : x.toList = [] ∧ (!x.toList.isEmpty) = false ∧ ¬ 0 < (x.size : Int) := by
  have : LL x = [] := List.eq_nil_of_length_eq_zero (by rw [LL_len]; omega)
  have h2 : x.toList = [] := by rw [ByteArray.toList_eq]; exact this
  exact ⟨h2, by simp [h2], by omega⟩
theorem cases_first (x : ByteArray) : (∃ h : 0 < x.size, (¬ x.toList = [] ∧ 0 < (x.size : Int)) ∧ (!x.toList.isEmpty) = true ∧ spI (x[0].toNat : Int) = true) ∨
    (ltrim (LL x) = LL x ∧ ((x.toList = [] ∧ (!x.toList.isEmpty) = false ∧ ¬ 0 < (x.size : Int)) ∨ ((¬ x.toList = [] ∧ (!x.toList.isEmpty) = true ∧ 0 < (x.size : Int)) ∧ ∃ h : 0 < x.size, spI (x[0].toNat : Int) = false))) := by
  by_cases h0 : 0 < x.size
  · have hn := nil_not h0
    rcases Bool.eq_false_or_eq_true (spI (x[0].toNat : Int)) with h1 | h1
    · exact .inl ⟨h0, hn.1, hn.2, h1⟩
    · exact .inr ⟨by rw [LL_head h0]; exact ltrim_stop h1, .inr ⟨⟨hn.1.1, hn.2, hn.1.2⟩, h0, h1⟩⟩
  · have : LL x = [] := List.eq_nil_of_length_eq_zero (by rw [LL_len]; omega)
    exact .inr ⟨by rw [this]; rfl, .inl (nil_yes h0)⟩
theorem cases_last (x : ByteArray) : (∃ h : 0 < x.size, (¬ x.toList = [] ∧ 0 < (x.size : Int)) ∧ (!x.toList.isEmpty) = true ∧ spI (x[x.size - 1].toNat : Int) = true) ∨
    (rtrim (LL x) = LL x ∧ ((x.toList = [] ∧ (!x.toList.isEmpty) = false ∧ ¬ 0 < (x.size : Int)) ∨ ((¬ x.toList = [] ∧ (!x.toList.isEmpty) = true ∧ 0 < (x.size : Int)) ∧ ∃ h : 0 < x.size, spI (x[x.size - 1].toNat : Int) = false))) := by
  by_cases h0 : 0 < x.size
  · have hn := nil_not h0
    rcases Bool.eq_false_or_eq_true (spI (x[x.size - 1].toNat : Int)) with h1 | h1
    · exact .inl ⟨h0, hn.1, hn.2, h1⟩
    · exact .inr ⟨by rw [LL_last h0]; exact rtrim_stop h1, .inr ⟨⟨hn.1.1, hn.2, hn.1.2⟩, h0, h1⟩⟩
  · have : LL x = [] := List.eq_nil_of_length_eq_zero (by rw [LL_len]; omega)
    exact .inr ⟨by rw [this]; rfl, .inl (nil_yes h0)⟩

set_option maxHeartbeats 400000 in
theorem trim_any (s : ByteArray) (hs : s.size ≤ 1000000) (w : World) : Calls Try.prog 9 #[.string s] w fun e w' => e = .returned (.string (ofL (trimL (LL s)))) ∧ w' = w := by
  go_enter Try.func9, Try.ntmps9
  go_wp2
  go_loop [0] (fun v => ∃ x : ByteArray, v = .string x ∧ x.size ≤ 1000000 ∧ Hid (ltrim (LL x) = ltrim (LL s))) (fun v => match v with | .string x => x.size | _ => 0)
  case atStart => exact ⟨s, rfl, hs, rfl⟩
  case round =>
    obtain ⟨x, rfl, hx, HX⟩ := hrel
    rcases cases_first x with ⟨h0, hn1, hn2, h1⟩ | ⟨hH, hC⟩
    · have HL := Lib.hid (LL_head h0)
      have HN := Lib.hid (ltrim_cons (t := LL (x.extract 1 x.size)) h1)
      have hp := hn1.2
      replace hn1 := hn1.1
      go_wp2_with (go_at_call 10; refine (space_any _ _).mono ?_; rintro e w' ⟨rfl, rfl⟩)
      go_round
      case rel => exact ⟨_, rfl, by simp; omega, by show ltrim _ = _; rw [← HX.out, HL.out, HN.out]⟩
      case measure => simp; omega
    · have HE : Hid (LL x = ltrim (LL s)) := by show _ = _; rw [← HX.out, hH]
      clear hH
      rcases hC with ⟨c1, c2, c3⟩ | ⟨⟨c1, c2, c3⟩, c4, c5⟩
      all_goals
        go_wp2_with (go_at_call 10; refine (space_any _ _).mono ?_; rintro e w' ⟨rfl, rfl⟩)
        try clear c4 c5
        clear c1 c2 c3
        go_loop [0] (fun v => ∃ y : ByteArray, v = .string y ∧ y.size ≤ 1000000 ∧ Hid (rtrim (LL y) = trimL (LL s))) (fun v => match v with | .string x => x.size | _ => 0)
        case atStart => exact ⟨x, rfl, hx, by show _ = _; rw [HE.out]; rfl⟩
        case round =>
          obtain ⟨y, rfl, hy, HY⟩ := hrel
          rcases cases_last y with ⟨h0, hn1, hn2, h1⟩ | ⟨hH, hC⟩
          · have HL := Lib.hid (LL_last h0)
            have HN := Lib.hid (rtrim_snoc (t := LL (y.extract 0 (y.size - 1))) h1)
            have hp := hn1.2
            replace hn1 := hn1.1
            go_wp2_with (go_at_call 10; refine (space_any _ _).mono ?_; rintro e w' ⟨rfl, rfl⟩)
            go_round
            case rel => exact ⟨_, rfl, by simp; omega, by show rtrim _ = _; rw [← HY.out, HL.out, HN.out]⟩
            case measure => simp; omega
          · have HR : Hid (y = ofL (trimL (LL s))) := by show _ = _; rw [← HY.out, hH, ofL_LL]
            clear hH
            rcases hC with ⟨c1, c2, c3⟩ | ⟨⟨c1, c2, c3⟩, c4, c5⟩
            all_goals
              go_wp2_with (go_at_call 10; refine (space_any _ _).mono ?_; rintro e w' ⟨rfl, rfl⟩)
              go_ret
              exact ⟨by show Ending.returned (.string y) = _; rw [← HR.out], rfl⟩
set_option maxHeartbeats 400000 in
theorem rtrim_any (s : ByteArray) (hs : s.size ≤ 1000000) (w : World) : Calls Try.prog 19 #[.string s] w fun e w' => e = .returned (.string (ofL (trimL (LL s)))) ∧ w' = w := by
  go_enter Try.func19, Try.ntmps19
  go_wp2
  go_loop [0] (fun v => ∃ x : ByteArray, v = .string x ∧ x.size ≤ 1000000 ∧ Hid (ltrim (LL x) = ltrim (LL s))) (fun v => match v with | .string x => x.size | _ => 0)
  case atStart => exact ⟨s, rfl, hs, rfl⟩
  case round =>
    obtain ⟨x, rfl, hx, HX⟩ := hrel
    rcases cases_first x with ⟨h0, hn1, hn2, h1⟩ | ⟨hH, hC⟩
    · have HL := Lib.hid (LL_head h0)
      have HN := Lib.hid (ltrim_cons (t := LL (x.extract 1 x.size)) h1)
      have hp := hn1.2
      replace hn1 := hn1.1
      go_wp2_with (go_at_call 13; refine (rspace_any _ _).mono ?_; rintro e w' ⟨rfl, rfl⟩)
      go_round
      case rel => exact ⟨_, rfl, by simp; omega, by show ltrim _ = _; rw [← HX.out, HL.out, HN.out]⟩
      case measure => simp; omega
    · have HE : Hid (LL x = ltrim (LL s)) := by show _ = _; rw [← HX.out, hH]
      clear hH
      rcases hC with ⟨c1, c2, c3⟩ | ⟨⟨c1, c2, c3⟩, c4, c5⟩
      all_goals
        go_wp2_with (go_at_call 13; refine (rspace_any _ _).mono ?_; rintro e w' ⟨rfl, rfl⟩)
        try clear c4 c5
        clear c1 c2 c3
        go_loop [0] (fun v => ∃ y : ByteArray, v = .string y ∧ y.size ≤ 1000000 ∧ Hid (rtrim (LL y) = trimL (LL s))) (fun v => match v with | .string x => x.size | _ => 0)
        case atStart => exact ⟨x, rfl, hx, by show _ = _; rw [HE.out]; rfl⟩
        case round =>
          obtain ⟨y, rfl, hy, HY⟩ := hrel
          rcases cases_last y with ⟨h0, hn1, hn2, h1⟩ | ⟨hH, hC⟩
          · have HL := Lib.hid (LL_last h0)
            have HN := Lib.hid (rtrim_snoc (t := LL (y.extract 0 (y.size - 1))) h1)
            have hp := hn1.2
            replace hn1 := hn1.1
            go_wp2_with (go_at_call 13; refine (rspace_any _ _).mono ?_; rintro e w' ⟨rfl, rfl⟩)
            go_round
            case rel => exact ⟨_, rfl, by simp; omega, by show rtrim _ = _; rw [← HY.out, HL.out, HN.out]⟩
            case measure => simp; omega
          · have HR : Hid (y = ofL (trimL (LL s))) := by show _ = _; rw [← HY.out, hH, ofL_LL]
            clear hH
            rcases hC with ⟨c1, c2, c3⟩ | ⟨⟨c1, c2, c3⟩, c4, c5⟩
            all_goals
              go_wp2_with (go_at_call 13; refine (rspace_any _ _).mono ?_; rintro e w' ⟨rfl, rfl⟩)
              go_ret
              exact ⟨by show Ending.returned (.string y) = _; rw [← HR.out], rfl⟩
end Go.Proofs.Ytglffonjhodmdaa
