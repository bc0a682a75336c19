/- The walk of RouteFirst. -/
import Derived.Test.YtodninjcmfbfdaaS
import Derived.Test.YtodninjcmfbfdaaU
namespace Go.Proofs.Ytodninjcmfbfdaa
open Go.RowKit

theorem append_few {ls : List (List Int)} {more : List Int} (h : ∀ x ∈ ls, x.length ≤ 39) (hm : more.length ≤ 39) : ∀ x ∈ ls ++ [more], x.length ≤ 39 := fun x hx => by
  rcases List.mem_append.1 hx with hx | hx
  · exact h x hx
  · rw [List.mem_singleton.1 hx]; exact hm
set_option maxHeartbeats 8000000 in
set_option maxRecDepth 100000 in
theorem first_walk (A : Option Addr) (c : Nat) (ls : List (List Int)) (B : Option Addr) (cm : Nat) (more : List Int) (w : World) (hn : ls.length ≤ 9223372036854775807) (hl : ReadsW w A ls) (hm : ReadsI w B more) :
    Calls Try.prog 6 #[.slice A ls.length c, .slice B more.length cm] w fun e w' => e = .returned (.bool true) ∧ Below w.heap.size w w' := by
  have HL := Lib.hid hl
  have HM := Lib.hid hm
  have HF := Lib.hid (few_any A c ls w hn hl)
  clear hl hm
  rcases Bool.eq_false_or_eq_true (fewB ls) with hf | hf
  · rw [hf] at HF
    by_cases h30 : (30 : Int) < more.length
    · go_enter Try.func6, Try.ntmps6
      go_wp2_with fail
      refine HF.out.mono ?_
      rintro e w1 ⟨rfl, rfl⟩
      go_wp2_with fail
      refine (awake_any _).mono ?_
      rintro e w2 ⟨rfl, hb2⟩
      go_wp2_with fail
      go_ret
      exact ⟨rfl, hb2⟩
    by_cases h0 : ls.length = 0
    · obtain rfl : ls = [] := List.eq_nil_of_length_eq_zero h0
      clear h0 hn HL hf
      have HF0 : Hid (Calls Try.prog 7 #[.slice A 0 c] w fun e w' => e = .returned (.bool true) ∧ w' = w) := HF
      clear HF
      go_enter Try.func6, Try.ntmps6
      go_wp2_with fail
      refine HF0.out.mono ?_
      rintro e w1 ⟨rfl, rfl⟩
      go_wp2_with fail
      refine (awake_any _).mono ?_
      rintro e w2 ⟨rfl, hb2⟩
      go_wp2_with fail
      go_ret
      exact ⟨rfl, hb2⟩
    obtain ⟨hfew, hlen⟩ := fewB_true hf
    have HFW := Lib.hid hfew
    have hlz : (ls.length : Int) ≤ 30 := by omega
    have hl0 : ((ls.length : Int) == 0) = false := by simp [h0]
    have hlg : ls.length ≠ 0 := h0
    have HORD := Lib.hid (order_any A c ls w (sortOk_few (by omega)) HL.out hfew (by omega))
    have HORD2 := Lib.hid (fun (w' : World) (A' : Option Addr) (c' : Nat) (hr : ReadsW w' A' (ls ++ [more])) => order_any A' c' (ls ++ [more]) w' (sortOk_few (by simp; omega)) hr (append_few hfew (by omega)) (by simp; omega))
    have HLL : Hid ((ls ++ [more]).length = ls.length + 1) := by show _ = _; simp
    clear hf hfew h0
    go_enter Try.func6, Try.ntmps6
    go_wp2_with fail
    refine HF.out.mono ?_
    rintro e w1 ⟨rfl, rfl⟩
    go_wp2_with fail
    refine HORD.out.mono ?_
    rintro e w2 ⟨A2, k2, o, rfl, hr2, hb2, hm2, hs2⟩
    have HR2 := Lib.hid hr2
    have HB2 := Lib.hid hb2
    have HM2 := Lib.hid hm2
    have HS2 := Lib.hid hs2
    obtain ⟨L, hLm, hLr, hLe⟩ := reads_of_w (HL.out.below hb2)
    have hLl : L.length = ls.length := by rw [← hLm, List.length_map]
    have RL := Lib.hid hLr
    have EL := Lib.hid hLe
    have ML := Lib.hid hLm
    have hLn : L.length ≤ 100 := by omega
    have HMB := Lib.hid (HM.out.below hb2)
    clear hr2 hb2 hm2 hs2 hLr hLe hLm HORD HF
    go_wp2_with (first
      | (at_builtin; refine app_w rfl (.const (.slice none 0 0)) (.tmp 26) rfl w2.heap.size (w0 := w2) _ [] L A c rfl (by rw [hLl]; rfl) (OwnsW.nil _ _) RL.out (Below.refl _ _) (Nat.le_refl _) (by simp; omega) ?_; intro v4 w4 ho4 hb4 hB4 hg4)
      | (at_builtin; refine app_w rfl (.tmp 27) (.tmp 29) rfl w2.heap.size (w0 := w2) _ L [(more, B, cm)] (some ⟨w4.heap.size, 0, none⟩) 1 rfl rfl (OwnsW.below ho4 (balloc (Below.refl _ _) _)) (box_w w4 (more, B, cm) 22) (hb4.alloc hB4 _) (by simp; omega) (by simp; omega) ?_; intro v5 w5 ho5 hb5 hB5 hg5))
    obtain ⟨A5, k5, hv5, hr5⟩ := ho5.slice (fun x hx => by
      rcases List.mem_append.1 hx with hx | hx
      · exact (EL.out x hx).below hb5
      · rw [List.mem_singleton.1 hx]; exact HMB.out.below hb5)
    rw [List.map_append, ML.out] at hv5 hr5
    have hr5' : ReadsW w5 A5 (ls ++ [more]) := hr5
    have hv5' : v5 = .slice A5 (ls ++ [more]).length k5 := hv5
    clear hv5 hr5
    subst hv5'
    refine (HORD2.out w5 A5 k5 hr5').mono ?_
    rintro e w6 ⟨A6, k6, p, rfl, hr6, hb6, hm6, hs6⟩
    rw [HLL.out] at hr6 hm6 hs6 ⊢
    obtain ⟨tt, htl, hpt, hkey⟩ := more_order HM2.out HS2.out hm6 hs6
    have HR6 := Lib.hid hr6
    have HKEY := Lib.hid hkey
    have HPT := Lib.hid hpt
    have hb26 := bthen hb5 hb6
    clear hr5' ho4 hb4 hB4 hg4 ho5 hB5 hg5 hr6 hb6 hm6 hs6 hkey hpt RL EL ML hLl hLn HORD2 hb5
    go_wp2_with fail
    refine (awake_any _).mono ?_
    rintro e w7 ⟨rfl, hb7⟩
    have HR7 := Lib.hid (HR6.out.below hb7)
    have HO7 := Lib.hid (HR2.out.below (bthen hb26 hb7))
    have HL7 := Lib.hid (HL.out.below (bthen HB2.out (bthen hb26 hb7)))
    have HB7 := Lib.hid (bthen HB2.out (bthen hb26 hb7))
    clear hb7 hb26 HR6 HR2 HB2 HL HMB HLL
    go_wp2_with fail
    go_loopw [7, 8] (fun v7 v8 wr => ∃ i k : Nat, v8 = .int .i64 i ∧ v7 = .int .i64 k ∧ i ≤ ls.length + 1 ∧ Hid ((i ≤ tt → k = i) ∧ (tt < i → k + 1 = i)) ∧ Hid (Below w7.heap.size w7 wr)) (fun _ v8 _ => ls.length + 1 - (intOf v8).toNat)
    case atStart => exact ⟨0, 0, rfl, rfl, by omega, ⟨fun _ => rfl, fun h => by omega⟩, Below.refl _ _⟩
    case round =>
      obtain ⟨i, k, rfl, rfl, hi, HK, HBR⟩ := hrel
      by_cases hlt : i < ls.length + 1
      · have hlt0 : (i : Int) < (ls.length : Int) + 1 := by omega
        have hi0 : (0 : Int) ≤ (i : Int) := by omega
        obtain ⟨ad, rfl, hrc⟩ := (HR7.out.below HBR.out) (by rw [ordL_len]; omega)
        have cp := hrc i (by rw [ordL_len]; exact hlt)
        rw [ordL_at _ _ _ hlt] at cp
        clear hrc
        by_cases ht : i = tt
        · have hpe : p i = ls.length := by rw [ht]; exact HPT.out
          have heq : ((p i : Int) == (ls.length : Int)) = true := by simp [hpe]
          have HK2 : Hid ((i + 1 ≤ tt → k = i + 1) ∧ (tt < i + 1 → k + 1 = i + 1)) := ⟨fun h => by omega, fun _ => by have := HK.out.1 (by omega); omega⟩
          clear hpe ht
          go_wp2_with fail
          go_roundw
          case rel => exact ⟨i + 1, k, by go_num, rfl, by omega, HK2, HBR⟩
          case measure => simp [intOf]; omega
        · have hko : p i ≠ ls.length ∧ p i = o k ∧ k < ls.length := by
            rcases Nat.lt_or_ge i tt with g | g
            · obtain ⟨q1, q2, q3⟩ := (HKEY.out i hlt).1 g
              rw [HK.out.1 (by omega)]; exact ⟨q1, q2, q3⟩
            · obtain ⟨q1, q2⟩ := (HKEY.out i hlt).2 (by omega)
              have e := HK.out.2 (by omega)
              rw [show k = i - 1 by omega]; exact ⟨q1, q2, by omega⟩
          have heq : ((p i : Int) == (ls.length : Int)) = false := by simp; omega
          obtain ⟨od, rfl, hoc⟩ := (HO7.out.below HBR.out) (by rw [ordL_len]; omega)
          have co := hoc k (by rw [ordL_len]; exact hko.2.2)
          rw [ordL_at _ _ _ hko.2.2, ← hko.2.1] at co
          have hkl : (k : Int) < (ls.length : Int) := by omega
          have hk0 : (0 : Int) ≤ (k : Int) := by omega
          have hkn : ¬ (ls.length : Int) ≤ (k : Int) := by omega
          have hkd : decide ((ls.length : Int) ≤ (k : Int)) = false := decide_eq_false hkn
          have hkd2 : decide (ls.length ≤ k) = false := decide_eq_false (by omega)
          have hkn2 : ¬ ls.length ≤ k := by omega
          have hpp : ((p i : Int) != (p i : Int)) = false := by simp
          have HK2 : Hid ((i + 1 ≤ tt → k + 1 = i + 1) ∧ (tt < i + 1 → k + 1 + 1 = i + 1)) := ⟨fun h => by have := HK.out.1 (by omega); omega, fun h => by have := HK.out.2 (by omega); omega⟩
          clear hoc hko ht
          go_wp2_with fail
          go_big_region
          all_goals go_wp2
          exact ⟨⟨i + 1, k + 1, by go_num, by go_num, by omega, HK2, HBR.out.trans ((bdrew (Below.refl _ _)).mono HBR.out.size)⟩, by simp [intOf]; omega⟩
      · obtain rfl : i = ls.length + 1 := by omega
        clear hlt
        go_wp2_with fail
        go_loopw [9] (fun v wz => ∃ j : Nat, v = .int .i64 j ∧ j ≤ ls.length ∧ Hid (Below w7.heap.size w7 wz)) (fun v _ => ls.length - (intOf v).toNat)
        case atStart => exact ⟨0, rfl, by omega, HBR⟩
        case round =>
          obtain ⟨j, rfl, hj, HBJ⟩ := hrel
          by_cases hlt : j < ls.length
          · have hj0 : (0 : Int) ≤ (j : Int) := by omega
            have hj1 : (j : Int) < (ls.length : Int) := by omega
            obtain ⟨wd, rfl, hwc⟩ := (HL7.out.below HBJ.out) (by omega)
            obtain ⟨od, rfl, hoc⟩ := (HO7.out.below HBJ.out) (by rw [ordL_len]; omega)
            have co : wr.cell? od = some (.int .i64 (o 0)) := by have := hoc 0 (by rw [ordL_len]; omega); rw [ordL_at _ _ _ (by omega)] at this; exact this
            have ho0 : o 0 < ls.length := HM2.out.val (Nat.le_refl _) (fun _ h => h) 0 (by omega)
            obtain ⟨X, kx, wx, rx⟩ := hwc j hlt
            obtain ⟨Y, ky, wy, ry⟩ := hwc (o 0) ho0
            have hbf : befB (ls.getD j []) (ls.getD (o 0) []) = false := by
              obtain ⟨m, _, h1, h2⟩ := HM2.out.to j (Nat.zero_le _) hlt
              have h2' : o m = j := h2
              by_cases hm0 : m = 0
              · rw [← h2', hm0]; exact befB_irr _
              · have := ltW_of (HS2.out 0 m (Nat.zero_le _) (by omega) h1)
                rw [h2'] at this; exact this
            have HBF := Lib.hid (fun w' hb' => before_any X Y kx ky _ _ w' (getD_le HFW.out j) (getD_le HFW.out (o 0)) (rx.below hb') (ry.below hb'))
            rw [hbf] at HBF
            have h00 : (0 : Int) ≤ (o 0 : Int) := by omega
            have h01 : (o 0 : Int) < (ls.length : Int) := by omega
            have hlp : (0 : Int) < (ls.length : Int) := by omega
            have hlpN : 0 < ls.length := by omega
            have hlne : ¬ ls = [] := fun e => hlg (by rw [e]; rfl)
            have hlne2 : ls ≠ [] := hlne
            clear hwc hoc rx ry hbf
            generalize ls.getD j [] = lx at *
            generalize ls.getD (o 0) [] = ly at *
            go_wp2_with fail
            go_still_tail 10, (by kernel_rfl)
            change wpList _ _ _ _ _ wr.drew
            go_wp2_with (go_at_call 12; refine (HBF.out _ (bdrew (Below.refl _ _))).mono ?_; rintro e wb ⟨rfl, hbb⟩)
            go_roundw
            case rel =>
              have HZ : Hid (Below w7.heap.size w7 wb) := HBJ.out.trans ((bthen (bdrew (Below.refl _ _)) hbb).mono HBJ.out.size)
              refine ⟨_, _, _, _, _, _, _, _, _, _, _, _, _, _, _, _, _, _, _, ⟨j + 1, ?_, ?_, HZ⟩, rfl⟩
              · go_num
              · omega
            case measure => simp [intOf]; omega
          · obtain rfl : j = ls.length := by omega
            go_wp2_with fail
            go_ret
            exact ⟨rfl, bthen HB7.out HBJ.out⟩
  · rw [hf] at HF
    go_enter Try.func6, Try.ntmps6
    go_wp2_with fail
    refine HF.out.mono ?_
    rintro e w1 ⟨rfl, rfl⟩
    go_wp2_with fail
    refine (awake_any _).mono ?_
    rintro e w2 ⟨rfl, hb2⟩
    go_wp2_with fail
    go_ret
    exact ⟨rfl, hb2⟩
end Go.Proofs.Ytodninjcmfbfdaa
