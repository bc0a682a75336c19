/- The contract of symMergeCmpFunc where a run is of one. -/
import Derived.Test.YtodninjcmfbfdaaJ
namespace Go.Proofs.Ytodninjcmfbfdaa
open Go.RowKit

/-- The one at a moved up to i. -/
def mvu (p : Row) (a i : Nat) : Row := fun k => if k = i then p a else if a ≤ k ∧ k < i then p (k + 1) else p k
theorem mvu_self (p : Row) (a : Nat) : mvu p a a = p := by
  funext k; unfold mvu
  by_cases e1 : k = a
  · rw [if_pos e1, e1]
  · rw [if_neg e1, if_neg (by omega)]
theorem mvu_step (p : Row) (a k : Nat) (h : a ≤ k) : sw (mvu p a k) k (k + 1) = mvu p a (k + 1) := by
  funext x; unfold sw mvu
  by_cases e1 : x = k
  · rw [if_pos e1, if_neg (by omega), if_neg (by omega), if_neg (by omega), if_pos (by omega), e1]
  · rw [if_neg e1]
    by_cases e2 : x = k + 1
    · rw [if_pos e2, if_pos rfl, if_pos e2]
    · rw [if_neg e2, if_neg e1, if_neg e2]
      by_cases e3 : a ≤ x ∧ x < k
      · rw [if_pos e3, if_pos (by omega)]
      · rw [if_neg e3, if_neg (by omega)]
theorem mvu_mv {p : Row} {a i b : Nat} (h1 : a ≤ i) (h2 : i < b) : Mv a b p (mvu p a i) := by
  refine ⟨fun k hk => ?_, fun k g1 g2 => ?_, fun k g1 g2 => ?_⟩
  · unfold mvu; rw [if_neg (by omega), if_neg (by omega)]
  · unfold mvu
    by_cases e1 : k = i
    · exact ⟨a, by omega, by omega, by rw [if_pos e1]⟩
    · by_cases e2 : a ≤ k ∧ k < i
      · exact ⟨k + 1, by omega, by omega, by rw [if_neg e1, if_pos e2]⟩
      · exact ⟨k, by omega, by omega, by rw [if_neg e1, if_neg e2]⟩
  · unfold mvu
    by_cases e1 : k = a
    · exact ⟨i, by omega, by omega, by rw [if_pos rfl, e1]⟩
    · by_cases e2 : k ≤ i
      · exact ⟨k - 1, by omega, by omega, by rw [if_neg (by omega), if_pos (by omega)]; congr 1; omega⟩
      · exact ⟨k, by omega, by omega, by rw [if_neg (by omega), if_neg (by omega)]⟩
theorem mvu_sorted {lt : Nat → Nat → Bool} {p : Row} {a i b : Nat} (h1 : a ≤ i) (h2 : i < b) (hs : SortedT lt (a + 1) b p) (hl : ∀ k, a < k → k ≤ i → TT lt (p k) (p a)) (hg : ∀ k, i < k → k < b → TT lt (p a) (p k)) :
    SortedT lt a b (mvu p a i) := by
  intro k l hk hkl hl2
  unfold mvu
  by_cases e1 : l = i
  · rw [if_pos e1, if_neg (by omega), if_pos (by omega)]
    exact hl _ (by omega) (by omega)
  · rw [if_neg e1]
    by_cases e2 : l < i
    · rw [if_neg (by omega), if_pos (by omega), if_pos (by omega)]
      exact hs _ _ (by omega) (by omega) (by omega)
    · rw [if_neg (show ¬(a ≤ l ∧ l < i) by omega)]
      by_cases e3 : k = i
      · rw [if_pos e3]; exact hg _ (by omega) hl2
      · rw [if_neg e3]
        by_cases e4 : k < i
        · rw [if_pos (by omega)]; exact hs _ _ (by omega) (by omega) hl2
        · rw [if_neg (by omega)]; exact hs _ _ (by omega) (by omega) hl2

section
variable {lt : Nat → Nat → Bool} (H : Weak lt) {x y a : Nat} (h1 : TT lt x y)
include H h1
theorem nlt_up (h2 : lt x a = false) : lt y a = false := by
  rcases h1 with h1 | ⟨h1, _⟩
  · cases h : lt y a with
    | false => rfl
    | true => have := H.tr _ _ _ h1 h; rw [h2] at this; cases this
  · exact H.neg _ _ _ h1 h2
theorem lt_down (h2 : lt y a = true) : lt x a = true := by
  cases h : lt x a with
  | true => rfl
  | false => have := nlt_up H h1 h; rw [h2] at this; cases this
theorem lt_up (h2 : lt a x = true) : lt a y = true := by
  rcases h1 with h1 | ⟨h1, _⟩
  · exact H.tr _ _ _ h2 h1
  · cases h : lt a y with
    | true => rfl
    | false => have := H.neg _ _ _ h h1; rw [h2] at this; cases this
theorem nlt_down (h2 : lt a y = false) : lt a x = false := by
  cases h : lt a x with
  | false => rfl
  | true => have := lt_up H h1 h; rw [h2] at this; cases this
end

/-- What a merge leaves. -/
def SymPost (w1 : World) (D : Nat) (ls : List (List Int)) (a b : Nat) (p : Row) (e : Ending) (w' : World) : Prop :=
  e = .returned (.tuple #[]) ∧ ∃ p', St w1 D ls.length w' p' ∧ Mv a b p p' ∧ SortedT (ltW ls) a b p'
set_option maxHeartbeats 4000000 in
set_option maxRecDepth 100000 in
theorem sym_left {w1 : World} {B D : Nat} {A : Option Addr} {c : Nat} {ls : List (List Int)} (C : Ctx w1 B D A c ls) (cap a b : Nat) (hmb : a + 1 < b) (hbn : b ≤ ls.length) (p : Row) (W : World) (hS : St w1 D ls.length W p)
    (hv : ∀ j, j < ls.length → p j < ls.length) (hs : SortedT (ltW ls) (a + 1) b p) (hb2 : Below2 a (a + 1) (a + 1) b p) :
    Calls Try.prog 30 #[.slice (some ⟨D, 0, none⟩) ls.length cap, .int .i64 a, .int .i64 ((a + 1 : Nat) : Int), .int .i64 b, fv B] W (SymPost w1 D ls a b p) := by
  have HC := Lib.hid C
  have hlen : ls.length ≤ 1000 := C.len
  have S0 := Lib.hid hS
  have HV := Lib.hid hv
  have HT := Lib.hid hs
  have HB := Lib.hid hb2
  clear hS hv hs hb2 C
  obtain ⟨m, hm⟩ : ∃ m, m = a + 1 := ⟨_, rfl⟩
  rw [← hm]
  have HM := Lib.hid hm
  have hw1 : IntKind.i64.wrap ((m : Int) - (a : Int)) = 1 := by rw [show (m : Int) - (a : Int) = 1 by omega]; rfl
  have hma : a < m := by omega
  have hmb2 : m < b := by omega
  clear hm hmb
  go_enter Try.func30, Try.ntmps30
  go_wp2_with fail
  go_loopw [10, 11] (fun v1 v2 wr => ∃ (i j : Nat), v1 = .int .i64 i ∧ v2 = .int .i64 j ∧ m ≤ i ∧ i ≤ j ∧ j ≤ b ∧ Hid (St w1 D ls.length wr p) ∧ Hid (∀ k, m ≤ k → k < i → ltW ls (p k) (p a) = true) ∧ Hid (∀ k, j ≤ k → k < b → ltW ls (p k) (p a) = false)) (fun v1 v2 _ => (intOf v2).toNat - (intOf v1).toNat)
  case atStart => exact ⟨m, b, rfl, rfl, by omega, by omega, by omega, S0, fun k h1 h2 => by omega, fun k h1 h2 => by omega⟩
  case round =>
    obtain ⟨i, j, rfl, rfl, hmi, hij, hjb, HS, HI, HJ⟩ := hrel
    by_cases hlt : i < j
    · have hlt0 : (i : Int) < (j : Int) := by omega
      obtain ⟨s, hs⟩ : ∃ s, s = i + j := ⟨_, rfl⟩
      have hs0 : (0 : Int) ≤ (i : Int) + (j : Int) ∧ (i : Int) + (j : Int) ≤ 100000 ∧ (i : Int) + (j : Int) = (s : Int) := by rw [hs]; omega
      have hws : IntKind.i64.wrap ((i : Int) + (j : Int)) = (s : Int) := (wsmall _ hs0.1 hs0.2.1).trans hs0.2.2
      clear hs0 hw1
      obtain ⟨h, hh⟩ : ∃ h, h = (i + j) / 2 := ⟨_, rfl⟩
      have hhz : ((i : Int) + (j : Int)) / 2 = (h : Int) := by rw [hh]; omega
      have hih : i ≤ h := by omega
      have hhj : h < j := by omega
      have hvh := HV.out h (by omega)
      have hva := HV.out a (by omega)
      have HX := Lib.hid (fun w' hb' => clos_any HC.out (p h) (p a) hvh hva w' hb')
      have HLT : Hid (ltW ls (p h) (p a) = decide (cmpW (ls.getD (p h) []) (ls.getD (p a) []) < 0)) := rfl
      generalize cmpW (ls.getD (p h) []) (ls.getD (p a) []) = z at *
      have ch := HS.out.c h (by omega)
      have ca := HS.out.c a (by omega)
      have hh0 : (0 : Int) ≤ (h : Int) := by omega
      have hh1 : (h : Int) < (ls.length : Int) := by omega
      have ha0 : (0 : Int) ≤ (a : Int) := by omega
      have ha1 : (a : Int) < (ls.length : Int) := by omega
      have HB1 : Hid (m ≤ h + 1) := by show _ ≤ _; omega
      have HB2 : Hid (h + 1 ≤ j) := by show _ ≤ _; omega
      have HB3 : Hid (h ≤ b) := by show _ ≤ _; omega
      have HMEAS1 : Hid (j - (h + 1) < j - i) := by show _ < _; omega
      have HMEAS2 : Hid (h - i < j - i) := by show _ < _; omega
      clear hh hvh hva
      go_upto_region 5 with (fail)
      clear hhz hws
      by_cases hz : z < 0
      · have hzd : decide (z < 0) = true := decide_eq_true hz
        have HI2 : Hid (∀ k, m ≤ k → k < h + 1 → ltW ls (p k) (p a) = true) := Lib.hid (fun k g1 g2 => by
          have e0 : ltW ls (p h) (p a) = true := HLT.out.trans hzd
          by_cases hk : k = h
          · rw [hk]; exact e0
          · exact lt_down (weak_ways ls) (HT.out k h (by have := HM.out; omega) (by omega) (by omega)) e0)
        clear hih hhj
        go_still_tail 9, (by kernel_rfl)
        change wpList _ _ _ _ _ wr.drew
        go_wp2_with (go_at_call 22; refine (HX.out _ (bdrew HS.out.b)).mono ?_; rintro e w' ⟨rfl, hb'⟩)
        go_roundw
        case rel => exact ⟨h + 1, j, by go_num, rfl, HB1.out, HB2.out, hjb, HS.out.below (bthen (bdrew (Below.refl _ _)) hb'), HI2, HJ⟩
        case measure => simp [intOf]; exact HMEAS1.out
      · have hzd : decide (z < 0) = false := decide_eq_false hz
        have HJ2 : Hid (∀ k, h ≤ k → k < b → ltW ls (p k) (p a) = false) := Lib.hid (fun k g1 g2 => by
          have e0 : ltW ls (p h) (p a) = false := HLT.out.trans hzd
          by_cases hk : k = h
          · rw [hk]; exact e0
          · exact nlt_up (weak_ways ls) (HT.out h k (by have := HM.out; omega) (by omega) g2) e0)
        go_still_tail 9, (by kernel_rfl)
        change wpList _ _ _ _ _ wr.drew
        go_wp2_with (go_at_call 22; refine (HX.out _ (bdrew HS.out.b)).mono ?_; rintro e w' ⟨rfl, hb'⟩)
        go_roundw
        case rel => exact ⟨i, h, rfl, rfl, hmi, hih, HB3.out, HS.out.below (bthen (bdrew (Below.refl _ _)) hb'), HI, HJ2⟩
        case measure => simp [intOf]; exact HMEAS2.out
    · obtain rfl : i = j := by omega
      clear hij hlt hw1
      obtain ⟨q, rfl⟩ : ∃ q, i = q + 1 := ⟨i - 1, by omega⟩
      have haq : a ≤ q := by omega
      have hqb : q < b := by omega
      have HTA : Hid (SortedT (ltW ls) a b (mvu p a q)) := mvu_sorted haq hqb HT.out (fun k g1 g2 => Or.inl (HI.out k (by have := HM.out; omega) (by omega))) (fun k g1 g2 => TT.of_not (HJ.out k (by omega) g2) (HB.out a k (Nat.le_refl _) (Nat.lt_succ_self _) (by omega) g2))
      have HMA : Hid (Mv a b p (mvu p a q)) := mvu_mv haq hqb
      have hq1 : (q : Int) ≤ 1000 := by omega
      clear hmi hjb
      go_wp2_with fail
      go_loopw [13] (fun v wr => ∃ k : Nat, v = .int .i64 k ∧ a ≤ k ∧ k ≤ q ∧ Hid (St w1 D ls.length wr (mvu p a k))) (fun v _ => q - (intOf v).toNat)
      case atStart => exact ⟨a, rfl, Nat.le_refl _, haq, HS.out.as (mvu_self p a).symm⟩
      case round =>
        obtain ⟨k, rfl, hak, hkq, HK⟩ := hrel
        by_cases hlt : k < q
        · have hlt0 : (k : Int) < (q : Int) := by omega
          have c1 := HK.out.c k (by omega)
          have c2 := HK.out.c (k + 1) (by omega)
          have f1 := HK.out.f k (by omega)
          have f2 := HK.out.f (k + 1) (by omega)
          have hsw := HK.out.swap k (k + 1) (by omega) (by omega)
          rw [mvu_step p a k hak] at hsw
          have HSW := Lib.hid hsw
          generalize mvu p a k k = vx at *
          generalize mvu p a k (k + 1) = vy at *
          have k0 : (0 : Int) ≤ (k : Int) := by omega
          have k1 : (k : Int) < (ls.length : Int) := by omega
          have k2 : (0 : Int) ≤ (k : Int) + 1 := by omega
          have k3 : (k : Int) + 1 < (ls.length : Int) := by omega
          have e0 : ((k : Int) + 1).toNat = k + 1 := by omega
          clear hsw
          go_wp2_with fail
          go_big_region
          all_goals go_wp2
          exact ⟨⟨k + 1, by go_num, by omega, by omega, HSW.out.below (bdrew (Below.refl _ _))⟩, by simp [intOf]; omega⟩
        · obtain rfl : k = q := by omega
          go_wp2_with fail
          first | go_end0 | (refine bodyPost_ret (results_none rfl _ _ _) rfl ?_)
          exact ⟨rfl, _, HK.out, HMA.out, HTA.out⟩
end Go.Proofs.Ytodninjcmfbfdaa
