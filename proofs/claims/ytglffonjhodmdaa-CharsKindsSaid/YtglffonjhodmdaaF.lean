/- The walk of CharsKinds: true for every byte. -/
import Derived.Test.YtglffonjhodmdaaE
namespace Go.Proofs.Ytglffonjhodmdaa
open Go.RowKit

/-- How many of n bytes from f on are so. -/
def cnt (p : Int → Bool) (f : Int) : Nat → Int
  | 0 => 0
  | n + 1 => cnt p f n + if p ((f + n) % 256) then 1 else 0
theorem cnt_shift (p : Int → Bool) (f : Int) : ∀ n, cnt p (f + 1) n = cnt p f (n + 1) - if p (f % 256) then 1 else 0
  | 0 => by simp [cnt]
  | n + 1 => by
    have e : f + 1 + (n : Int) = f + ((n + 1 : Nat) : Int) := by omega
    rw [cnt, cnt_shift p f n, cnt, cnt, e, cnt]
    omega
theorem cnt_full (p : Int → Bool) (f : Int) : cnt p (f + 1) 256 = cnt p f 256 := by
  rw [cnt_shift, cnt]
  have e : (f + ((256 : Nat) : Int)) % 256 = f % 256 := by omega
  rw [e]
  omega
theorem cnt_any (p : Int → Bool) (k : Nat) : cnt p (k : Int) 256 = cnt p 0 256 := by
  induction k with
  | zero => rfl
  | succ k ih => rw [show ((k + 1 : Nat) : Int) = (k : Int) + 1 from rfl, cnt_full, ih]
theorem cnt_sp : cnt spI 0 256 = 4 := by decide +kernel
theorem cnt_dg : cnt dgI 0 256 = 10 := by decide +kernel
theorem cnt_no : cnt (fun c => !alI c) 0 256 = 29 := by decide +kernel
theorem cnt_bd (p : Int → Bool) (f : Int) : ∀ n, 0 ≤ cnt p f n ∧ cnt p f n ≤ n
  | 0 => by simp [cnt]
  | n + 1 => by have := cnt_bd p f n; rw [cnt]; split <;> omega

theorem kinds_cases (c : Int) : (spI c = true ∧ dgI c = false ∧ alI c = true) ∨ (spI c = false ∧ dgI c = true ∧ alI c = true) ∨ (spI c = false ∧ dgI c = false) := by
  rcases Bool.eq_false_or_eq_true (spI c) with h1 | h1 <;> rcases Bool.eq_false_or_eq_true (dgI c) with h2 | h2
  · exfalso; simp [spI, dgI] at h1 h2; omega
  · exact .inl ⟨h1, h2, by simp [alI, h1]⟩
  · exact .inr (.inl ⟨h1, h2, by simp [alI, dgI] at h2 ⊢; omega⟩)
  · exact .inr (.inr ⟨h1, h2⟩)

set_option maxHeartbeats 1000000 in
theorem wfI {c : Int} (h : (Lit.int .u8 c).wf = true) : 0 ≤ c ∧ c ≤ 255 := by
  simp [Lit.wf, IntKind.min, IntKind.max, IntKind.signed, IntKind.bits] at h
  omega
set_option maxRecDepth 100000 in
theorem kinds_any (c : Int) (w0 : (Lit.int .u8 c).wf = true) (w : World) :
    Calls Try.prog 7 #[.int .u8 c] w fun e w' => e = .returned (.bool true) ∧ Below w.heap.size w w' := by
  go_enter Try.func7, Try.ntmps7
  go_wp2
  go_loop [3, 4, 5, 6] (fun a b d v => ∃ k : Nat, v = .int .i64 k ∧ k ≤ 256 ∧ ∃ x y z : Int, a = .int .i64 x ∧ b = .int .i64 y ∧ d = .int .i64 z ∧ 0 ≤ x ∧ x ≤ k ∧ 0 ≤ y ∧ y ≤ k ∧ 0 ≤ z ∧ z ≤ k ∧ Hid (x = cnt spI c k) ∧ Hid (y = cnt dgI c k) ∧ Hid (z = cnt (fun c => !alI c) c k)) (fun _ _ _ v => 256 - (intOf v).toNat)
  case atStart => exact ⟨0, rfl, by omega, 0, 0, 0, rfl, rfl, rfl, by omega, by omega, by omega, by omega, by omega, by omega, rfl, rfl, rfl⟩
  case round =>
    obtain ⟨k, rfl, hk, x, y, z, rfl, rfl, rfl, hx0, hx1, hy0, hy1, hz0, hz1, HX, HY, HZ⟩ := hrel
    by_cases hlt : k < 256
    · rcases kinds_cases ((c + (k : Int)) % 256) with ⟨h1, h2, h3⟩ | ⟨h1, h2, h3⟩ | ⟨h1, h2⟩
      · skip
        have CX : Hid (x + 1 = cnt spI c (k + 1)) := by show _ = _; rw [cnt, ← HX.out]; simp [*]
        have CY : Hid (y = cnt dgI c (k + 1)) := by show _ = _; rw [cnt, ← HY.out]; simp [*]
        have CZ : Hid (z = cnt (fun c => !alI c) c (k + 1)) := by show _ = _; rw [cnt, ← HZ.out]; simp [*]
        go_wp2_with (first | (go_at_call 10; refine (space_any _ _).mono ?_; rintro e w' ⟨rfl, rfl⟩) | (go_at_call 16; refine (digit_any _ _).mono ?_; rintro e w' ⟨rfl, rfl⟩) | (go_at_call 14; refine (allowed_any _ _).mono ?_; rintro e w' ⟨rfl, rfl⟩))
        go_round
        case rel => exact ⟨k + 1, by go_num, by omega, x + 1, y, z, rfl, rfl, rfl, by omega, by omega, by omega, by omega, by omega, by omega, CX.out, CY.out, CZ.out⟩
        case measure => simp [intOf]; omega
      · skip
        have CX : Hid (x = cnt spI c (k + 1)) := by show _ = _; rw [cnt, ← HX.out]; simp [*]
        have CY : Hid (y + 1 = cnt dgI c (k + 1)) := by show _ = _; rw [cnt, ← HY.out]; simp [*]
        have CZ : Hid (z = cnt (fun c => !alI c) c (k + 1)) := by show _ = _; rw [cnt, ← HZ.out]; simp [*]
        go_wp2_with (first | (go_at_call 10; refine (space_any _ _).mono ?_; rintro e w' ⟨rfl, rfl⟩) | (go_at_call 16; refine (digit_any _ _).mono ?_; rintro e w' ⟨rfl, rfl⟩) | (go_at_call 14; refine (allowed_any _ _).mono ?_; rintro e w' ⟨rfl, rfl⟩))
        go_round
        case rel => exact ⟨k + 1, by go_num, by omega, x, y + 1, z, rfl, rfl, rfl, by omega, by omega, by omega, by omega, by omega, by omega, CX.out, CY.out, CZ.out⟩
        case measure => simp [intOf]; omega
      · rcases Bool.eq_false_or_eq_true (alI ((c + (k : Int)) % 256)) with h3 | h3
        · skip
          have CX : Hid (x = cnt spI c (k + 1)) := by show _ = _; rw [cnt, ← HX.out]; simp [*]
          have CY : Hid (y = cnt dgI c (k + 1)) := by show _ = _; rw [cnt, ← HY.out]; simp [*]
          have CZ : Hid (z = cnt (fun c => !alI c) c (k + 1)) := by show _ = _; rw [cnt, ← HZ.out]; simp [*]
          go_wp2_with (first | (go_at_call 10; refine (space_any _ _).mono ?_; rintro e w' ⟨rfl, rfl⟩) | (go_at_call 16; refine (digit_any _ _).mono ?_; rintro e w' ⟨rfl, rfl⟩) | (go_at_call 14; refine (allowed_any _ _).mono ?_; rintro e w' ⟨rfl, rfl⟩))
          go_round
          case rel => exact ⟨k + 1, by go_num, by omega, x, y, z, rfl, rfl, rfl, by omega, by omega, by omega, by omega, by omega, by omega, CX.out, CY.out, CZ.out⟩
          case measure => simp [intOf]; omega
        · skip
          have CX : Hid (x = cnt spI c (k + 1)) := by show _ = _; rw [cnt, ← HX.out]; simp [*]
          have CY : Hid (y = cnt dgI c (k + 1)) := by show _ = _; rw [cnt, ← HY.out]; simp [*]
          have CZ : Hid (z + 1 = cnt (fun c => !alI c) c (k + 1)) := by show _ = _; rw [cnt, ← HZ.out]; simp [*]
          go_wp2_with (first | (go_at_call 10; refine (space_any _ _).mono ?_; rintro e w' ⟨rfl, rfl⟩) | (go_at_call 16; refine (digit_any _ _).mono ?_; rintro e w' ⟨rfl, rfl⟩) | (go_at_call 14; refine (allowed_any _ _).mono ?_; rintro e w' ⟨rfl, rfl⟩))
          go_round
          case rel => exact ⟨k + 1, by go_num, by omega, x, y, z + 1, rfl, rfl, rfl, by omega, by omega, by omega, by omega, by omega, by omega, CX.out, CY.out, CZ.out⟩
          case measure => simp [intOf]; omega
    · have ek : k = 256 := by omega
      obtain ⟨n, hn⟩ : ∃ n : Nat, (n : Int) = c := ⟨c.toNat, by have := wfI w0; omega⟩
      have e1 : (x == 4) = true := by rw [HX.out, ek, ← hn, cnt_any, cnt_sp]; rfl
      have e2 : (y == 10) = true := by rw [HY.out, ek, ← hn, cnt_any, cnt_dg]; rfl
      have e3 : (z == 29) = true := by rw [HZ.out, ek, ← hn, cnt_any, cnt_no]; rfl
      clear hn ek
      go_wp2_with (go_at_call 8; refine (awake_any _).mono ?_; rintro e w2 ⟨rfl, hb2⟩)
      go_ret
      exact ⟨rfl, hb2⟩
end Go.Proofs.Ytglffonjhodmdaa
