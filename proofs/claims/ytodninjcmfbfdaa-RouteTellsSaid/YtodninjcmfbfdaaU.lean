/- The contract of few; what stands in order. -/
import Derived.Test.YtodninjcmfbfdaaQ
import Derived.Test.YtodninjcmfbfdaaH
namespace Go.Proofs.Ytodninjcmfbfdaa
open Go.RowKit

def fewB (ls : List (List Int)) : Bool := ls.all (fun x => decide (x.length ≤ 30)) && decide (ls.length ≤ 30)
theorem fewB_true {ls : List (List Int)} (h : fewB ls = true) : (∀ x ∈ ls, x.length ≤ 39) ∧ ls.length ≤ 30 := by
  simp only [fewB, Bool.and_eq_true, List.all_eq_true, decide_eq_true_eq] at h
  exact ⟨fun x hx => by have := h.1 x hx; omega, h.2⟩
theorem getD_mem {ls : List (List Int)} {k : Nat} (h : k < ls.length) : ls.getD k [] ∈ ls := by
  simp [List.getD_eq_getElem?_getD, h]
theorem fewB_no {ls : List (List Int)} {k : Nat} (h : k < ls.length) (h2 : 30 < (ls.getD k []).length) : fewB ls = false := by
  rw [fewB, Bool.and_eq_false_iff]
  refine Or.inl ?_
  rw [List.all_eq_false]
  exact ⟨_, getD_mem h, by intro hh; have := of_decide_eq_true hh; omega⟩
theorem fewB_end {ls : List (List Int)} (h : ∀ j, j < ls.length → (ls.getD j []).length ≤ 30) : fewB ls = decide (ls.length ≤ 30) := by
  have : ls.all (fun x => decide (x.length ≤ 30)) = true := by
    rw [List.all_eq_true]
    intro x hx
    obtain ⟨i, hi, rfl⟩ := List.getElem_of_mem hx
    have := h i hi
    rw [List.getD_eq_getElem?_getD, List.getElem?_eq_getElem hi] at this
    exact decide_eq_true this
  rw [fewB, this, Bool.true_and]
theorem few_any (A : Option Addr) (c : Nat) (ls : List (List Int)) (w : World) (hn : ls.length ≤ 9223372036854775807) (hl : ReadsW w A ls) :
    Calls Try.prog 7 #[.slice A ls.length c] w fun e w' => e = .returned (.bool (fewB ls)) ∧ w' = w := by
  have HL := Lib.hid hl
  clear hl
  go_enter Try.func7, Try.ntmps7
  go_wp2_with fail
  go_loopw [3] (fun v wr => ∃ k : Nat, v = .int .i64 k ∧ k ≤ ls.length ∧ wr = w ∧ Hid (∀ j, j < k → (ls.getD j []).length ≤ 30)) (fun v _ => ls.length - (intOf v).toNat)
  case atStart => exact ⟨0, rfl, by omega, rfl, fun j hj => by omega⟩
  case round =>
    obtain ⟨k, rfl, hk, rfl, HK⟩ := hrel
    by_cases hlt : k < ls.length
    · obtain ⟨ad, rfl, hc⟩ := HL.out (by omega)
      obtain ⟨B, kk, hcell, _⟩ := hc k hlt
      have hk0 : (0 : Int) ≤ (k : Int) := by omega
      have hk1 : (k : Int) < (ls.length : Int) := by omega
      clear hc
      by_cases hbig : 30 < (ls.getD k []).length
      · have HF := Lib.hid (fewB_no hlt hbig)
        have hb2 : (30 : Int) < ((ls.getD k []).length : Int) := by omega
        generalize (ls.getD k []).length = len at *
        go_wp2_with fail
        go_ret
        exact ⟨by rw [HF.out]; rfl, rfl⟩
      · have HK2 : Hid (∀ j, j < k + 1 → (ls.getD j []).length ≤ 30) := fun j hj => by
          by_cases e : j = k
          · rw [e]; omega
          · exact HK.out j (by omega)
        have hb2 : ¬ (30 : Int) < ((ls.getD k []).length : Int) := by omega
        generalize (ls.getD k []).length = len at *
        go_wp2_with fail
        go_roundw
        case rel => exact ⟨k + 1, by go_num, by omega, trivial, HK2⟩
        case measure => simp [intOf]; omega
    · obtain rfl : k = ls.length := by omega
      have HF := Lib.hid (fewB_end HK.out)
      go_wp2_with fail
      go_ret
      exact ⟨by rw [HF.out]; simp; omega, rfl⟩

theorem ltW_of {ls : List (List Int)} {x y : Nat} (h : TT (ltW ls) x y) : befB (ls.getD y []) (ls.getD x []) = false := by
  rcases h with h | h
  · exact befB_asym _ _ h
  · exact h.1
theorem same_of {ls : List (List Int)} {x y : Nat} (h : TT (ltW ls) x y) (hs : sameB (ls.getD y []) (ls.getD x []) = true) : x < y := by
  rw [sameB_eq] at hs
  have he := of_decide_eq_true hs
  rcases h with h | h
  · unfold ltW at h; rw [he, befB_irr] at h; cases h
  · exact h.2
end Go.Proofs.Ytodninjcmfbfdaa
