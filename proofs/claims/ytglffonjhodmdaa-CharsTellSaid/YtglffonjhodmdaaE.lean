/- The law's awake, and the walk of CharsTell: true for every byte and every string. -/
import Derived.Test.YtglffonjhodmdaaD
namespace Go.Proofs.Ytglffonjhodmdaa
open Go.RowKit

theorem aw1 : ofL (trimL (LL ⟨#[32, 97, 32]⟩)) = ⟨#[97]⟩ := by rfl
theorem aw2 : nameL (LL ⟨#[97, 45, 98]⟩) = true := by rfl
theorem aw3 : ofL (lowL (LL ⟨#[65, 98]⟩)) = ⟨#[97, 98]⟩ := by rfl
theorem aw4 : spI 32 = true := by rfl
theorem bthen {w w1 w2 : World} (h : Below w.heap.size w w1) (k : Below w1.heap.size w1 w2) : Below w.heap.size w w2 := h.trans (k.mono h.size)
theorem bdrewN {B : Nat} {a w : World} (h : Below B a w) (n : Nat) : Below B a (w.drewN n) := ⟨h.os, h.tape, h.output, h.size, h.block⟩

set_option maxHeartbeats 400000 in
theorem awake_any (w : World) : Calls Try.prog 8 #[] w fun e w' => e = .returned (.bool true) ∧ Below w.heap.size w w' := by
  have h1 := aw1
  have h2 := aw2
  have h3 := aw3
  have h4 := aw4
  go_enter Try.func8, Try.ntmps8
  go_wp2_with (first | (go_at_call 9; refine (trim_any ⟨#[32, 97, 32]⟩ (by decide) _).mono ?_; rintro e w' ⟨rfl, rfl⟩) | (go_at_call 11; refine (name_any ⟨#[97, 45, 98]⟩ (by decide) _).mono ?_; rintro e w' ⟨rfl, rfl⟩) | (go_at_call 12; refine (lower_any ⟨#[65, 98]⟩ (by decide) _).mono ?_; rintro e w1 ⟨rfl, hb1⟩) | (go_at_call 10; refine (space_any _ _).mono ?_; rintro e w' ⟨rfl, rfl⟩))
  go_ret
  exact ⟨rfl, hb1⟩

set_option maxHeartbeats 400000 in
theorem tell_any (c : Int) (s : ByteArray) (_w0 : (Lit.int .u8 c).wf = true) (w1 : s.size ≤ maxLen) (w : World) :
    Calls Try.prog 6 #[.int .u8 c, .string s] w fun e w' => e = .returned (.bool true) ∧ Below w.heap.size w w' := by
  unfold maxLen at w1
  by_cases ha : 1000 < s.size
  · have ha' : 1000 < (s.size : Int) := by omega
    go_enter Try.func6, Try.ntmps6
    go_wp2_with (go_at_call 8; refine (awake_any _).mono ?_; rintro e w2 ⟨rfl, hb2⟩)
    go_ret
    exact ⟨rfl, hb2⟩
  have hs : s.size ≤ 1000000 := by omega
  have ha' : (s.size : Int) ≤ 1000 := by omega
  clear ha
  go_enter Try.func6, Try.ntmps6
  go_wp2_with (first | (go_at_call 8; refine (awake_any _).mono ?_; rintro e w2 ⟨rfl, hb2⟩) | (go_at_call 9; refine (trim_any _ hs _).mono ?_; rintro e w' ⟨rfl, rfl⟩) | (go_at_call 11; refine (name_any _ hs _).mono ?_; rintro e w' ⟨rfl, rfl⟩) | (go_at_call 12; refine (lower_any _ hs _).mono ?_; rintro e w1 ⟨rfl, hb1⟩) | (go_at_call 10; refine (space_any _ _).mono ?_; rintro e w' ⟨rfl, rfl⟩) | (go_at_call 13; refine (rspace_any _ _).mono ?_; rintro e w' ⟨rfl, rfl⟩) | (go_at_call 14; refine (allowed_any _ _).mono ?_; rintro e w' ⟨rfl, rfl⟩) | (go_at_call 15; refine (rallowed_any _ _).mono ?_; rintro e w' ⟨rfl, rfl⟩) | (go_at_call 16; refine (digit_any _ _).mono ?_; rintro e w' ⟨rfl, rfl⟩) | (go_at_call 17; refine (rdigit_any _ _).mono ?_; rintro e w' ⟨rfl, rfl⟩) | (go_at_call 18; refine (rname_any _ hs _).mono ?_; rintro e w' ⟨rfl, rfl⟩) | (go_at_call 19; refine (rtrim_any _ hs _).mono ?_; rintro e w' ⟨rfl, rfl⟩) | (go_at_call 20; refine (rlower_any _ hs _).mono ?_; rintro e w3 ⟨rfl, hb3⟩))
  go_ret
  exact ⟨rfl, by repeat (first | (with_reducible assumption) | (refine bthen ?_ (by with_reducible assumption)))⟩
end Go.Proofs.Ytglffonjhodmdaa
