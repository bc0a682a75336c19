/- The contract of symMergeCmpFunc where the right run is of one. -/
import Derived.Test.YtodninjcmfbfdaaK
namespace Go.Proofs.Ytodninjcmfbfdaa
open Go.RowKit

set_option maxHeartbeats 4000000 in
set_option maxRecDepth 100000 in
theorem sym_right {w1 : World} {B D : Nat} {A : Option Addr} {c : Nat} {ls : List (List Int)} (C : Ctx w1 B D A c ls) (cap a m : Nat) (ham : a + 1 < m) (hbn : m + 1 ≤ ls.length) (p : Row) (W : World) (hS : St w1 D ls.length W p)
    (hv : ∀ j, j < ls.length → p j < ls.length) (hs : SortedT (ltW ls) a m p) (hb2 : Below2 a m m (m + 1) p) :
    Calls Try.prog 30 #[.slice (some ⟨D, 0, none⟩) ls.length cap, .int .i64 a, .int .i64 m, .int .i64 ((m + 1 : Nat) : Int), fv B] W (SymPost w1 D ls a (m + 1) p) := by
  have HC := Lib.hid C
  have hlen : ls.length ≤ 1000 := C.len
  have S0 := Lib.hid hS
  have HV := Lib.hid hv
  have HT := Lib.hid hs
  have HB := Lib.hid hb2
  clear hS hv hs hb2 C
  obtain ⟨b, hm⟩ : ∃ b, b = m + 1 := ⟨_, rfl⟩
  rw [← hm]
  have HM := Lib.hid hm
  have hd1 : (((m : Int) - (a : Int)) == 1) = false := by simp; omega
  have hd2 : (((b : Int) - (m : Int)) == 1) = true := by simp; omega
  have hmb : m < b := by omega
  have hbl : b ≤ ls.length := by omega
  have ham2 : a < m := by omega
  clear hm hbn ham
  go_enter Try.func30, Try.ntmps30
  go_wp2_with fail
  go_loopw [14, 15] (fun v1 v2 wr => ∃ (i j : Nat), v1 = .int .i64 i ∧ v2 = .int .i64 j ∧ a ≤ i ∧ i ≤ j ∧ j ≤ m ∧ Hid (St w1 D ls.length wr p) ∧ Hid (∀ k, a ≤ k → k < i → ltW ls (p m) (p k) = false) ∧ Hid (∀ k, j ≤ k → k < m → ltW ls (p m) (p k) = true)) (fun v1 v2 _ => (intOf v2).toNat - (intOf v1).toNat)
  case atStart => exact ⟨a, m, rfl, rfl, by omega, by omega, by omega, S0, fun k h1 h2 => by omega, fun k h1 h2 => by omega⟩
  case round =>
    clear hd1 hd2
    obtain ⟨i, j, rfl, rfl, hmi, hij, hjb, HS, HI, HJ⟩ := hrel
    by_cases hlt : i < j
    · have hlt0 : (i : Int) < (j : Int) := by omega
      obtain ⟨h, hh⟩ : ∃ h, h = (i + j) / 2 := ⟨_, rfl⟩
      have hhz : ((i : Int) + (j : Int)) / 2 = (h : Int) := by rw [hh]; omega
      have hih : i ≤ h := by omega
      have hhj : h < j := by omega
      have hvh := HV.out h (by omega)
      have hvm := HV.out m (by omega)
      have HX := Lib.hid (fun w' hb' => clos_any HC.out (p m) (p h) hvm hvh w' hb')
      have HLT : Hid (ltW ls (p m) (p h) = decide (cmpW (ls.getD (p m) []) (ls.getD (p h) []) < 0)) := rfl
      generalize cmpW (ls.getD (p m) []) (ls.getD (p h) []) = z at *
      have ch := HS.out.c h (by omega)
      have cm := HS.out.c m (by omega)
      have hh0 : (0 : Int) ≤ (h : Int) := by omega
      have hh1 : (h : Int) < (ls.length : Int) := by omega
      have hm0 : (0 : Int) ≤ (m : Int) := by omega
      have hm1 : (m : Int) < (ls.length : Int) := by omega
      have HB1 : Hid (a ≤ h + 1) := by show _ ≤ _; omega
      have HB2 : Hid (h + 1 ≤ j) := by show _ ≤ _; omega
      have HB3 : Hid (h ≤ m) := by show _ ≤ _; omega
      have HMEAS1 : Hid (j - (h + 1) < j - i) := by show _ < _; omega
      have HMEAS2 : Hid (h - i < j - i) := by show _ < _; omega
      clear hh hvh hvm
      go_upto_region 17 with (fail)
      clear hhz
      by_cases hz : z < 0
      · have hzd : decide (z < 0) = true := decide_eq_true hz
        have HJ2 : Hid (∀ k, h ≤ k → k < m → ltW ls (p m) (p k) = true) := Lib.hid (fun k g1 g2 => by
          have e0 : ltW ls (p m) (p h) = true := HLT.out.trans hzd
          by_cases hk : k = h
          · rw [hk]; exact e0
          · exact lt_up (weak_ways ls) (HT.out h k (by omega) (by omega) g2) e0)
        go_still_tail 9, (by kernel_rfl)
        change wpList _ _ _ _ _ wr.drew
        go_wp2_with (go_at_call 22; refine (HX.out _ (bdrew HS.out.b)).mono ?_; rintro e w' ⟨rfl, hb'⟩)
        go_roundw
        case rel => exact ⟨i, h, rfl, rfl, hmi, hih, HB3.out, HS.out.below (bthen (bdrew (Below.refl _ _)) hb'), HI, HJ2⟩
        case measure => simp [intOf]; exact HMEAS2.out
      · have hzd : decide (z < 0) = false := decide_eq_false hz
        have HI2 : Hid (∀ k, a ≤ k → k < h + 1 → ltW ls (p m) (p k) = false) := Lib.hid (fun k g1 g2 => by
          have e0 : ltW ls (p m) (p h) = false := HLT.out.trans hzd
          by_cases hk : k = h
          · rw [hk]; exact e0
          · exact nlt_down (weak_ways ls) (HT.out k h g1 (by omega) (by omega)) e0)
        clear hih hhj
        go_still_tail 9, (by kernel_rfl)
        change wpList _ _ _ _ _ wr.drew
        go_wp2_with (go_at_call 22; refine (HX.out _ (bdrew HS.out.b)).mono ?_; rintro e w' ⟨rfl, hb'⟩)
        go_roundw
        case rel => exact ⟨h + 1, j, by go_num, rfl, HB1.out, HB2.out, hjb, HS.out.below (bthen (bdrew (Below.refl _ _)) hb'), HI2, HJ⟩
        case measure => simp [intOf]; exact HMEAS1.out
    · obtain rfl : i = j := by omega
      clear hij hlt
      have HTA : Hid (SortedT (ltW ls) a b (mvd p m i)) := by rw [HM.out]; exact mvd_sorted hmi hjb HT.out (fun k g1 g2 => Or.inl (HJ.out k g1 g2)) (fun k g1 g2 => TT.of_not (HI.out k g1 g2) (HB.out k m g1 (by omega) (Nat.le_refl _) (Nat.lt_succ_self _)))
      have HMA : Hid (Mv a b p (mvd p m i)) := by rw [HM.out]; exact mvd_mv hmi hjb
      go_wp2_with fail
      go_loopw [17] (fun v wr => ∃ k : Nat, v = .int .i64 k ∧ i ≤ k ∧ k ≤ m ∧ Hid (St w1 D ls.length wr (mvd p m k))) (fun v _ => (intOf v).toNat)
      case atStart => exact ⟨m, rfl, hjb, Nat.le_refl _, HS.out.as (mvd_self p m).symm⟩
      case round =>
        obtain ⟨k, rfl, hak, hkq, HK⟩ := hrel
        by_cases hlt : i < k
        · obtain ⟨kp, rfl⟩ : ∃ kp, k = kp + 1 := ⟨k - 1, by omega⟩
          have hlt0 : (i : Int) < (kp : Int) + 1 := by omega
          have c1 := HK.out.c (kp + 1) (by omega)
          have c2 := HK.out.c kp (by omega)
          have f1 := HK.out.f (kp + 1) (by omega)
          have f2 := HK.out.f kp (by omega)
          have hsw := HK.out.swap (kp + 1) kp (by omega) (by omega)
          rw [mvd_step p m kp (by omega)] at hsw
          have HSW := Lib.hid hsw
          generalize mvd p m (kp + 1) (kp + 1) = vx at *
          generalize mvd p m (kp + 1) kp = vy at *
          have k0 : (0 : Int) ≤ (kp : Int) := by omega
          have k1 : (kp : Int) < (ls.length : Int) := by omega
          have k2 : (0 : Int) ≤ (kp : Int) + 1 := by omega
          have k3 : (kp : Int) + 1 < (ls.length : Int) := by omega
          have e0 : ((kp : Int) + 1).toNat = kp + 1 := by omega
          have hwp := wrap_small kp (by omega)
          clear hsw
          go_wp2_with fail
          go_big_region
          all_goals go_wp2
          exact ⟨⟨kp, rfl, by omega, by omega, HSW.out.below (bdrew (Below.refl _ _))⟩, by simp [intOf]⟩
        · obtain rfl : k = i := by omega
          go_wp2_with fail
          first | go_end0 | (refine bodyPost_ret (results_none rfl _ _ _) rfl ?_)
          exact ⟨rfl, _, HK.out, HMA.out, HTA.out⟩
end Go.Proofs.Ytodninjcmfbfdaa
