/- The contract of symMergeCmpFunc. -/
import Derived.Test.YtodninjcmfbfdaaN
namespace Go.Proofs.Ytodninjcmfbfdaa
open Go.RowKit

/-- What a merge of that much at most gives. -/
def SymOk (w1 : World) (B D cap : Nat) (ls : List (List Int)) (n : Nat) : Prop :=
  ∀ (a m b : Nat), b - a ≤ n → a < m → m < b → b ≤ ls.length → ∀ (p : Row) (W : World), St w1 D ls.length W p → (∀ j, j < ls.length → p j < ls.length) → SortedT (ltW ls) a m p → SortedT (ltW ls) m b p → Below2 a m m b p →
    Calls Try.prog 30 #[.slice (some ⟨D, 0, none⟩) ls.length cap, .int .i64 a, .int .i64 m, .int .i64 b, fv B] W (SymPost w1 D ls a b p)

theorem stage_keep {w1 w : World} {D N lo hi : Nat} {q : Row} {lt : Nat → Nat → Bool} (h1 : St w1 D N w q) (h2 : Mv lo hi q q) (h3 : SortedT lt lo hi q) : ∃ q1, St w1 D N w q1 ∧ Mv lo hi q q1 ∧ SortedT lt lo hi q1 := ⟨q, h1, h2, h3⟩
theorem sorted_congr {lt : Nat → Nat → Bool} {lo hi : Nat} {q q1 : Row} (h : ∀ k, lo ≤ k → q1 k = q k) (hs : SortedT lt lo hi q) : SortedT lt lo hi q1 := fun k l g1 g2 g3 => by
  rw [h k g1, h l (by omega)]; exact hs k l g1 g2 g3
theorem below_congr {a b c d : Nat} {q q1 : Row} (h : ∀ k, a ≤ k → q1 k = q k) (hs : Below2 a b c d q) (hc : a ≤ c) : Below2 a b c d q1 := fun k l g1 g2 g3 g4 => by
  rw [h k g1, h l (by omega)]; exact hs k l g1 g2 g3 g4
set_option maxHeartbeats 8000000 in
set_option maxRecDepth 100000 in
theorem sym_gen {w1 : World} {B D : Nat} {A : Option Addr} {c : Nat} {ls : List (List Int)} (C : Ctx w1 B D A c ls) (cap n a m b : Nat) (hn : b - a ≤ n + 1) (ih : SymOk w1 B D cap ls n) (ham : a + 1 < m) (hmb : m + 1 < b) (hbn : b ≤ ls.length) (p : Row) (W : World) (hS : St w1 D ls.length W p)
    (hv : ∀ j, j < ls.length → p j < ls.length) (hl : SortedT (ltW ls) a m p) (hr : SortedT (ltW ls) m b p) (hb2 : Below2 a m m b p) :
    Calls Try.prog 30 #[.slice (some ⟨D, 0, none⟩) ls.length cap, .int .i64 a, .int .i64 m, .int .i64 b, fv B] W (SymPost w1 D ls a b p) := by
  have HC := Lib.hid C
  have hlen : ls.length ≤ 1000 := C.len
  have S0 := Lib.hid hS
  have HV := Lib.hid hv
  have HL := Lib.hid hl
  have HR := Lib.hid hr
  have HB := Lib.hid hb2
  have IH := Lib.hid ih
  clear hS hv hl hr hb2 C ih
  obtain ⟨mid, hmid⟩ : ∃ mid, mid = (a + b) / 2 := ⟨_, rfl⟩
  obtain ⟨nn, hnn⟩ : ∃ nn, nn = mid + m := ⟨_, rfl⟩
  obtain ⟨pp, hpp⟩ : ∃ pp, pp = nn - 1 := ⟨_, rfl⟩
  have hmidz : ((a : Int) + (b : Int)) / 2 = (mid : Int) := by rw [hmid]; omega
  have hnnz : (mid : Int) + (m : Int) = (nn : Int) := by rw [hnn]; omega
  have hppz : (nn : Int) - 1 = (pp : Int) := by rw [hpp, hnn]; omega
  have hd1 : (((m : Int) - (a : Int)) == 1) = false := by simp; omega
  have hd2 : (((b : Int) - (m : Int)) == 1) = false := by simp; omega
  have hmm : a < mid ∧ mid < b ∧ 2 * mid ≤ a + b ∧ a + b ≤ 2 * mid + 1 := by omega
  have HN := Lib.hid hnn
  have HP := Lib.hid hpp
  clear hmid hnn hpp
  -- where the search begins and ends
  obtain ⟨s0, r0, hcase⟩ : ∃ s0 r0 : Nat, (mid < m ∧ s0 + b = nn ∧ r0 = mid) ∨ (m ≤ mid ∧ s0 = a ∧ r0 = m) := by
    rcases Nat.lt_or_ge mid m with g | g
    · exact ⟨nn - b, mid, Or.inl ⟨g, by have := HN.out; omega, rfl⟩⟩
    · exact ⟨a, m, Or.inr ⟨g, rfl, rfl⟩⟩
  have hs0 : a ≤ s0 ∧ s0 ≤ r0 ∧ r0 ≤ m := by have := HN.out; omega
  have hbnd : Hid (∀ c, s0 ≤ c → c < r0 → m ≤ pp - c ∧ pp - c < b ∧ c ≤ pp) := Lib.hid (fun c g1 g2 => by have := HN.out; have := HP.out; omega)
  have HCASE := Lib.hid hcase
  have hpl : pp < 2 * ls.length := by have := HN.out; have := HP.out; omega
  have key : ((mid : Int) < (m : Int) ∧ (nn : Int) - (b : Int) = (s0 : Int) ∧ Hid ((s0 : Int) = (s0 : Int) ∧ (mid : Int) = (r0 : Int))) ∨ (¬ (mid : Int) < (m : Int) ∧ (0 : Int) ≤ 0 ∧ Hid ((a : Int) = (s0 : Int) ∧ (m : Int) = (r0 : Int))) := by
    rcases hcase with ⟨g, g2, g3⟩ | ⟨g, g2, g3⟩
    · exact Or.inl ⟨by omega, by omega, rfl, by rw [g3]⟩
    · exact Or.inr ⟨by omega, by omega, by rw [g2], by rw [g3]⟩
  clear hcase
  go_enter Try.func30, Try.ntmps30
  go_upto_region 27 with (fail)
  rcases key with ⟨hA, hsz, HS0⟩ | ⟨hA, hsz, HS0⟩
  all_goals
    go_wp2_with fail
    go_loopw [20, 21] (fun v1 v2 wr => ∃ (i j : Nat), v1 = .int .i64 i ∧ v2 = .int .i64 j ∧ s0 ≤ i ∧ i ≤ j ∧ j ≤ r0 ∧ Hid (St w1 D ls.length wr p) ∧ Hid (∀ k, s0 ≤ k → k < i → ltW ls (p (pp - k)) (p k) = false) ∧ Hid (∀ k, j ≤ k → k < r0 → ltW ls (p (pp - k)) (p k) = true)) (fun v1 v2 _ => (intOf v2).toNat - (intOf v1).toNat)
    case atStart => exact ⟨s0, r0, by first | rfl | rw [HS0.out.1], by first | rfl | rw [HS0.out.2], Nat.le_refl _, hs0.2.1, Nat.le_refl _, S0, fun k h1 h2 => by omega, fun k h1 h2 => by omega⟩
    case round =>
      clear hd1 hd2
      obtain ⟨i, j, rfl, rfl, hmi, hij, hjb, HS, HI, HJ⟩ := hrel
      by_cases hlt : i < j
      · have hlt0 : (i : Int) < (j : Int) := by omega
        obtain ⟨h, hh⟩ : ∃ h, h = (i + j) / 2 := ⟨_, rfl⟩
        have hhz : ((i : Int) + (j : Int)) / 2 = (h : Int) := by rw [hh]; omega
        have hih : i ≤ h := by omega
        have hhj : h < j := by omega
        obtain ⟨hb1, hb2, hb3⟩ := hbnd.out h (by omega) (by omega)
        obtain ⟨d, hd⟩ : ∃ d, d = pp - h := ⟨_, rfl⟩
        have hdz : (pp : Int) - (h : Int) = (d : Int) := by rw [hd]; omega
        rw [← hd] at hb1 hb2
        have HD := Lib.hid hd
        have hvh := HV.out h (by omega)
        have hvd := HV.out d (by omega)
        have HX := Lib.hid (fun w' hb' => clos_any HC.out (p d) (p h) hvd hvh w' hb')
        have HLT : Hid (ltW ls (p d) (p h) = decide (cmpW (ls.getD (p d) []) (ls.getD (p h) []) < 0)) := rfl
        generalize cmpW (ls.getD (p d) []) (ls.getD (p h) []) = z at *
        have ch := HS.out.c h (by omega)
        have cd := HS.out.c d (by omega)
        have hh0 : (0 : Int) ≤ (h : Int) := by omega
        have hh1 : (h : Int) < (ls.length : Int) := by omega
        have hd0 : (0 : Int) ≤ (d : Int) := by omega
        have hdl : (d : Int) < (ls.length : Int) := by omega
        have HB1 : Hid (s0 ≤ h + 1) := by show _ ≤ _; omega
        have HB2 : Hid (h + 1 ≤ j) := by show _ ≤ _; omega
        have HB3 : Hid (h ≤ r0) := by show _ ≤ _; omega
        have HMEAS1 : Hid (j - (h + 1) < j - i) := by show _ < _; omega
        have HMEAS2 : Hid (h - i < j - i) := by show _ < _; omega
        have hdb : (0 : Int) ≤ (pp : Int) - (h : Int) ∧ (pp : Int) - (h : Int) ≤ 100000 := by omega
        have hds : d ≤ 1000 := by omega
        have hwd2 := wrap_small d hds
        have hwd : IntKind.i64.wrap ((pp : Int) - (h : Int)) = (d : Int) := (wsmall _ hdb.1 hdb.2).trans hdz
        clear hh hvh hvd hd hdb
        go_upto_region 35 with (fail)
        clear hhz
        by_cases hz : z < 0
        · have hzd : decide (z < 0) = true := decide_eq_true hz
          have HJ2 : Hid (∀ k, h ≤ k → k < r0 → ltW ls (p (pp - k)) (p k) = true) := Lib.hid (fun k g1 g2 => by
            have e0 : ltW ls (p d) (p h) = true := HLT.out.trans hzd
            have hd := HD.out
            by_cases hk : k = h
            · rw [hk, ← hd]; exact e0
            · obtain ⟨b1, b2, b3⟩ := hbnd.out k (by omega) g2
              exact lt_up (weak_ways ls) (HL.out h k (by omega) (by omega) (by omega)) (lt_down (weak_ways ls) (HR.out (pp - k) d b1 (by omega) hb2) e0))
          go_still_tail 11, (by kernel_rfl)
          change wpList _ _ _ _ _ wr.drew
          go_wp2_with (go_at_call 22; refine (HX.out _ (bdrew HS.out.b)).mono ?_; rintro e w' ⟨rfl, hb'⟩)
          go_roundw
          case rel => exact ⟨i, h, rfl, rfl, hmi, hih, HB3.out, HS.out.below (bthen (bdrew (Below.refl _ _)) hb'), HI, HJ2⟩
          case measure => simp [intOf]; exact HMEAS2.out
        · have hzd : decide (z < 0) = false := decide_eq_false hz
          have HI2 : Hid (∀ k, s0 ≤ k → k < h + 1 → ltW ls (p (pp - k)) (p k) = false) := Lib.hid (fun k g1 g2 => by
            have e0 : ltW ls (p d) (p h) = false := HLT.out.trans hzd
            have hd := HD.out
            by_cases hk : k = h
            · rw [hk, ← hd]; exact e0
            · obtain ⟨b1, b2, b3⟩ := hbnd.out k g1 (by omega)
              exact nlt_down (weak_ways ls) (HL.out k h (by omega) (by omega) (by omega)) (nlt_up (weak_ways ls) (HR.out d (pp - k) hb1 (by omega) b2) e0))
          clear hih hhj
          go_still_tail 11, (by kernel_rfl)
          change wpList _ _ _ _ _ wr.drew
          go_wp2_with (go_at_call 22; refine (HX.out _ (bdrew HS.out.b)).mono ?_; rintro e w' ⟨rfl, hb'⟩)
          go_roundw
          case rel => exact ⟨h + 1, j, by go_num, rfl, HB1.out, HB2.out, hjb, HS.out.below (bthen (bdrew (Below.refl _ _)) hb'), HI2, HJ⟩
          case measure => simp [intOf]; exact HMEAS1.out
      · obtain rfl : i = j := by omega
        clear hij hlt
        have hN := HN.out
        have hP := HP.out
        obtain ⟨ee, he⟩ : ∃ ee, ee = nn - i := ⟨_, rfl⟩
        have h1 : a ≤ i := by omega
        have h2 : i ≤ m := by omega
        have h3 : m ≤ ee ∧ ee ≤ b ∧ i + (ee - m) = mid ∧ i ≤ mid ∧ mid ≤ ee := by rcases HCASE.out with ⟨g, g2, g3⟩ | ⟨g, g2, g3⟩ <;> omega
        have HLx : i = a ∨ ee = b ∨ TT (ltW ls) (p (i - 1)) (p ee) := by
          by_cases c : i = s0
          · rcases HCASE.out with ⟨g, g2, g3⟩ | ⟨g, g2, g3⟩
            · exact Or.inr (Or.inl (by omega))
            · exact Or.inl (by omega)
          · refine Or.inr (Or.inr ?_)
            obtain ⟨b1, b2, b3⟩ := hbnd.out (i - 1) (by omega) (by omega)
            have e1 : pp - (i - 1) = ee := by omega
            have := HI.out (i - 1) (by omega) (by omega)
            rw [e1] at this b1 b2
            exact TT.of_not this (HB.out (i - 1) ee (by omega) (by omega) b1 b2)
        have HRx : ee = m ∨ i = m ∨ TT (ltW ls) (p (ee - 1)) (p i) := by
          by_cases c : i = r0
          · rcases HCASE.out with ⟨g, g2, g3⟩ | ⟨g, g2, g3⟩
            · exact Or.inl (by omega)
            · exact Or.inr (Or.inl (by omega))
          · refine Or.inr (Or.inr ?_)
            have := HJ.out i (Nat.le_refl _) (by omega)
            rw [show pp - i = ee - 1 by omega] at this
            exact TT.of_lt this
        have HPL := Lib.hid (plan_of (weak_ways ls) h1 h2 h3.1 h3.2.1 h3.2.2.1 HL.out HR.out HB.out HLx HRx)
        have HE := Lib.hid h3
        have hez : (nn : Int) - (i : Int) = (ee : Int) := by omega
        have hee : ee ≤ 1000 := by omega
        have hwe2 := wrap_small ee hee
        obtain ⟨q, hqe⟩ : ∃ q, q = rotF p i m ee := ⟨_, rfl⟩
        have HQE := Lib.hid hqe
        rw [← hqe] at HPL
        have HROT : Hid ((i < m ∧ m < ee) → Calls Try.prog 32 #[.slice (some ⟨D, 0, none⟩) ls.length cap, .int .i64 i, .int .i64 m, .int .i64 ee, fv B] wr fun e w' => e = .returned (.tuple #[]) ∧ St w1 D ls.length w' q) := fun g => by
          rw [HQE.out]; exact rot_any cap i m ee (fv B) g.1 g.2 (by omega) hlen p wr HS.out
        have HNR : Hid (¬(i < m ∧ m < ee) → St w1 D ls.length wr q) := fun g => by
          refine HS.out.as ?_
          rw [HQE.out]
          by_cases c : i = m
          · rw [c]; exact (rotF_left p m ee).symm
          · rw [show ee = m by omega]; exact (rotF_right p i m).symm
        have HVQ : Hid (∀ j, j < ls.length → q j < ls.length) := HPL.out.mv.val hbn HV.out
        have K1 : ((i : Int) < (m : Int) ∧ (m : Int) < (ee : Int)) ∨ ((i : Int) < (m : Int) ∧ ¬ (m : Int) < (ee : Int)) ∨ (¬ (i : Int) < (m : Int) ∧ (0 : Int) ≤ 0) := by omega
        have K2 : ((a : Int) < (i : Int) ∧ (i : Int) < (mid : Int)) ∨ ((a : Int) < (i : Int) ∧ ¬ (i : Int) < (mid : Int)) ∨ (¬ (a : Int) < (i : Int) ∧ (0 : Int) ≤ 0) := by omega
        have K3 : ((mid : Int) < (ee : Int) ∧ (ee : Int) < (b : Int)) ∨ ((mid : Int) < (ee : Int) ∧ ¬ (ee : Int) < (b : Int)) ∨ (¬ (mid : Int) < (ee : Int) ∧ (0 : Int) ≤ 0) := by omega
        clear hqe he hN hP HLx HRx HI HJ hbnd HS S0 hmi hjb
        have HSA : Hid (¬(a < i ∧ i < mid) → SortedT (ltW ls) a mid q) := fun g => by
          have := HE.out
          by_cases c : i = a
          · have := HPL.out.s2; rw [c] at this; exact this
          · have h := HPL.out.s1; rw [show i = mid by omega] at h; exact h
        have HSB : Hid (¬(mid < ee ∧ ee < b) → SortedT (ltW ls) mid b q) := fun g => by
          have := HE.out
          by_cases c : ee = mid
          · have h := HPL.out.s4; rw [c] at h; exact h
          · have h := HPL.out.s3; rw [show ee = b by omega] at h; exact h
        have hma : mid - a ≤ n := by omega
        have hmb2 : b - mid ≤ n := by omega
        rcases K1 with ⟨d1, d2⟩ | ⟨d1, d2⟩ | ⟨d1, d2⟩
        all_goals
          first
          | (have hq := HNR.out (by omega); go_upto_region 41 with (fail))
          | (go_upto_region 41 with (go_at_call 32; refine (HROT.out (by omega)).mono ?_; rintro e w2 ⟨rfl, hq⟩))
        all_goals
          rcases K2 with ⟨c1, c2⟩ | ⟨c1, c2⟩ | ⟨c1, c2⟩
        all_goals
          first
          | (exfalso; have hE := HE.out; omega)
          | (have hg : ¬(a < i ∧ i < mid) := (by omega); obtain ⟨q1, hq1, hm1, ht1⟩ := stage_keep hq (Mv.refl a mid q) (HSA.out hg); clear hg; go_upto_region 43 with (fail))
          | (go_upto_region 43 with (go_at_call 30; refine (IH.out a i mid hma (by omega) (by omega) (by omega) q _ hq HVQ.out HPL.out.s1 HPL.out.s2 HPL.out.b1).mono ?_; rintro e w3 ⟨rfl, q1, hq1, hm1, ht1⟩))
        all_goals
          have HQ1 := Lib.hid hq1
          have HM1 := Lib.hid hm1
          have HT1 := Lib.hid ht1
          have HF1 := Lib.hid (fun k (g : mid ≤ k) => hm1.out k (Or.inr g))
          have HV1 := Lib.hid (hm1.val (by omega) HVQ.out)
          clear c1 c2 hq hq1 hm1 ht1
          rcases K3 with ⟨c1, c2⟩ | ⟨c1, c2⟩ | ⟨c1, c2⟩
        all_goals
          first
          | (exfalso; have hE := HE.out; omega)
          | (have hg : ¬(mid < ee ∧ ee < b) := (by omega); obtain ⟨q2, hq2, hm2, ht2⟩ := stage_keep HQ1.out (Mv.refl mid b q1) (sorted_congr HF1.out (HSB.out hg)); clear hg; go_wp2_with fail)
          | (go_wp2_with (go_at_call 30; refine (IH.out mid ee b hmb2 (by omega) (by omega) hbn q1 _ HQ1.out HV1.out (sorted_congr HF1.out HPL.out.s3) (sorted_congr (fun k g => HF1.out k (by omega)) HPL.out.s4) (below_congr HF1.out HPL.out.b2 HE.out.2.2.2.2)).mono ?_; rintro e w4 ⟨rfl, q2, hq2, hm2, ht2⟩))
        all_goals
          first | go_end0 | (refine bodyPost_ret (results_none rfl _ _ _) rfl ?_) | trace_state
          exact ⟨rfl, q2, hq2, HPL.out.mv.trans ((HM1.out.wide (Nat.le_refl _) (Nat.le_of_lt hmm.2.1)).trans (hm2.wide (Nat.le_of_lt hmm.1) (Nat.le_refl _))), whole_of HM1.out hm2 HT1.out ht2 HPL.out.x⟩
end Go.Proofs.Ytodninjcmfbfdaa
