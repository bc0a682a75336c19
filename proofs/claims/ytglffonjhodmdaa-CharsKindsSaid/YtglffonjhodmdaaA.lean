/- The contracts of the byte tests of chars and of its reference; for every byte. -/
import Derived.Test.YtglffonjhodmdaaRows
import Derived.WalkKit
import Derived.WalkSpells
import Derived.WalkLawsBesides
import Derived.ScopeJumps
import Derived.Lib.Hide
import Derived.Deep.QuietTactic
import Derived.BigQuiet
namespace Go.Proofs.Ytglffonjhodmdaa
open Go.RowKit

def spI (c : Int) : Bool := c == 9 || c == 10 || c == 13 || c == 32
def alI (c : Int) : Bool := decide (32 < c) || spI c
def dgI (c : Int) : Bool := decide (48 ≤ c) && decide (c ≤ 57)
def leI (c : Int) : Bool := (decide (65 ≤ c) && decide (c ≤ 90)) || (decide (97 ≤ c) && decide (c ≤ 122)) || c == 95
def wiI (c : Int) : Bool := leI c || dgI c || c == 45 || c == 46 || c == 58

set_option maxHeartbeats 400000 in
theorem space_any (c : Int) (w : World) : Calls Try.prog 10 #[.int .u8 c] w fun e w' => e = .returned (.bool (spI c)) ∧ w' = w := by
  have H : Hid (spI c = (c == 9 || c == 10 || c == 13 || c == 32)) := Lib.hid rfl
  rcases Bool.eq_false_or_eq_true (c == 9) with h1 | h1 <;> rcases Bool.eq_false_or_eq_true (c == 10) with h2 | h2 <;> rcases Bool.eq_false_or_eq_true (c == 13) with h3 | h3
  all_goals
    go_enter Try.func10, Try.ntmps10
    go_wp2
    go_ret
    exact ⟨by rw [H.out]; simp [h1, h2, h3], rfl⟩
set_option maxHeartbeats 400000 in
theorem rspace_any (c : Int) (w : World) : Calls Try.prog 13 #[.int .u8 c] w fun e w' => e = .returned (.bool (spI c)) ∧ w' = w := by
  have H : Hid (spI c = (c == 9 || c == 10 || c == 13 || c == 32)) := Lib.hid rfl
  rcases Bool.eq_false_or_eq_true (c == 9) with h1 | h1 <;> rcases Bool.eq_false_or_eq_true (c == 10) with h2 | h2 <;> rcases Bool.eq_false_or_eq_true (c == 13) with h3 | h3
  all_goals
    go_enter Try.func13, Try.ntmps13
    go_wp2
    go_ret
    exact ⟨by rw [H.out]; simp [h1, h2, h3], rfl⟩
set_option maxHeartbeats 400000 in
theorem allowed_any (c : Int) (w : World) : Calls Try.prog 14 #[.int .u8 c] w fun e w' => e = .returned (.bool (alI c)) ∧ w' = w := by
  have H : Hid (alI c = (decide (32 < c) || spI c)) := Lib.hid rfl
  by_cases h : 32 < c
  all_goals
    go_enter Try.func14, Try.ntmps14
    go_wp2_with (go_at_call 10; refine (space_any _ _).mono ?_; rintro e w' ⟨rfl, rfl⟩)
    go_ret
    exact ⟨by rw [H.out]; simp [h] <;> omega, rfl⟩
set_option maxHeartbeats 400000 in
theorem rallowed_any (c : Int) (w : World) : Calls Try.prog 15 #[.int .u8 c] w fun e w' => e = .returned (.bool (alI c)) ∧ w' = w := by
  have H : Hid (alI c = (decide (32 < c) || spI c)) := Lib.hid rfl
  rcases Bool.eq_false_or_eq_true (spI c) with h | h
  all_goals
    go_enter Try.func15, Try.ntmps15
    go_wp2_with (go_at_call 13; refine (rspace_any _ _).mono ?_; rintro e w' ⟨rfl, rfl⟩)
    go_ret
    exact ⟨by rw [H.out]; simp [h] <;> omega, rfl⟩
set_option maxHeartbeats 400000 in
theorem digit_any (c : Int) (w : World) : Calls Try.prog 16 #[.int .u8 c] w fun e w' => e = .returned (.bool (dgI c)) ∧ w' = w := by
  have H : Hid (dgI c = (decide (48 ≤ c) && decide (c ≤ 57))) := Lib.hid rfl
  by_cases h : 48 ≤ c
  all_goals
    go_enter Try.func16, Try.ntmps16
    go_wp2
    go_ret
    exact ⟨by rw [H.out]; simp [h] <;> omega, rfl⟩
set_option maxHeartbeats 400000 in
theorem rdigit_any (c : Int) (w : World) : Calls Try.prog 17 #[.int .u8 c] w fun e w' => e = .returned (.bool (dgI c)) ∧ w' = w := by
  have H : Hid (dgI c = (decide (48 ≤ c) && decide (c ≤ 57))) := Lib.hid rfl
  by_cases h : 48 ≤ c
  all_goals
    go_enter Try.func17, Try.ntmps17
    go_wp2
    go_ret
    exact ⟨by rw [H.out]; simp [h] <;> omega, rfl⟩
set_option maxHeartbeats 400000 in
theorem first_any (c : Int) (w : World) : Calls Try.prog 24 #[.int .u8 c] w fun e w' => e = .returned (.bool (leI c)) ∧ w' = w := by
  have H : Hid (leI c = ((decide (65 ≤ c) && decide (c ≤ 90)) || (decide (97 ≤ c) && decide (c ≤ 122)) || c == 95)) := Lib.hid rfl
  by_cases h1 : 65 ≤ c <;> by_cases h2 : c ≤ 90 <;> by_cases h3 : 97 ≤ c <;> by_cases h4 : c ≤ 122
  all_goals first
    | omega
    | (go_enter Try.func24, Try.ntmps24
       go_wp2
       go_ret
       exact ⟨by rw [H.out]; simp [h1, h2, h3, h4] <;> omega, rfl⟩)
set_option maxHeartbeats 400000 in
theorem rletter_any (c : Int) (w : World) : Calls Try.prog 22 #[.int .u8 c] w fun e w' => e = .returned (.bool (leI c)) ∧ w' = w := by
  have H : Hid (leI c = ((decide (65 ≤ c) && decide (c ≤ 90)) || (decide (97 ≤ c) && decide (c ≤ 122)) || c == 95)) := Lib.hid rfl
  by_cases h1 : 65 ≤ c <;> by_cases h2 : c ≤ 90 <;> by_cases h3 : 97 ≤ c <;> by_cases h4 : c ≤ 122
  all_goals first
    | omega
    | (go_enter Try.func22, Try.ntmps22
       go_wp2
       go_ret
       exact ⟨by rw [H.out]; simp [h1, h2, h3, h4] <;> omega, rfl⟩)
set_option maxHeartbeats 400000 in
theorem within_any (c : Int) (w : World) : Calls Try.prog 25 #[.int .u8 c] w fun e w' => e = .returned (.bool (wiI c)) ∧ w' = w := by
  have H : Hid (wiI c = (leI c || dgI c || c == 45 || c == 46 || c == 58)) := Lib.hid rfl
  rcases Bool.eq_false_or_eq_true (leI c) with h1 | h1 <;> rcases Bool.eq_false_or_eq_true (dgI c) with h2 | h2 <;> rcases Bool.eq_false_or_eq_true (c == 45) with h3 | h3 <;> rcases Bool.eq_false_or_eq_true (c == 46) with h4 | h4
  all_goals
    go_enter Try.func25, Try.ntmps25
    go_wp2_with (first | (go_at_call 24; refine (first_any _ _).mono ?_; rintro e w' ⟨rfl, rfl⟩) | (go_at_call 16; refine (digit_any _ _).mono ?_; rintro e w' ⟨rfl, rfl⟩))
    go_ret
    exact ⟨by rw [H.out]; simp [h1, h2, h3, h4] <;> omega, rfl⟩
set_option maxHeartbeats 400000 in
theorem rwithin_any (c : Int) (w : World) : Calls Try.prog 23 #[.int .u8 c] w fun e w' => e = .returned (.bool (wiI c)) ∧ w' = w := by
  have H : Hid (wiI c = (leI c || dgI c || c == 45 || c == 46 || c == 58)) := Lib.hid rfl
  rcases Bool.eq_false_or_eq_true (leI c) with h1 | h1 <;> rcases Bool.eq_false_or_eq_true (dgI c) with h2 | h2 <;> rcases Bool.eq_false_or_eq_true (c == 45) with h3 | h3 <;> rcases Bool.eq_false_or_eq_true (c == 46) with h4 | h4
  all_goals
    go_enter Try.func23, Try.ntmps23
    go_wp2_with (first | (go_at_call 22; refine (rletter_any _ _).mono ?_; rintro e w' ⟨rfl, rfl⟩) | (go_at_call 17; refine (rdigit_any _ _).mono ?_; rintro e w' ⟨rfl, rfl⟩))
    go_ret
    exact ⟨by rw [H.out]; simp [h1, h2, h3, h4] <;> omega, rfl⟩
end Go.Proofs.Ytglffonjhodmdaa
