/- The walk of RouteOrders. -/
import Derived.Test.YtodninjcmfbfdaaU
namespace Go.Proofs.Ytodninjcmfbfdaa
open Go.RowKit

theorem ord_lt {n : Nat} {o : Row} (hm : Mv 0 n id o) : ∀ j, j < n → o j < n := hm.val (Nat.le_refl _) (fun _ hj => hj)
set_option maxHeartbeats 8000000 in
set_option maxRecDepth 100000 in
theorem orders_walk (A : Option Addr) (c : Nat) (ls : List (List Int)) (w : World) (hn : ls.length ≤ 9223372036854775807) (hl : ReadsW w A ls) :
    Calls Try.prog 5 #[.slice A ls.length c] w fun e w' => e = .returned (.bool true) ∧ Below w.heap.size w w' := by
  have HL := Lib.hid hl
  have HF := Lib.hid (few_any A c ls w hn hl)
  clear hl
  rcases Bool.eq_false_or_eq_true (fewB ls) with hf | hf
  · obtain ⟨hfew, hlen⟩ := fewB_true hf
    have HFW := Lib.hid hfew
    have HORD := Lib.hid (order_any A c ls w (sortOk_few (by omega)) HL.out hfew (by omega))
    rw [hf] at HF
    clear hf hfew
    have hlz : (ls.length : Int) ≤ 30 := by omega
    go_enter Try.func5, Try.ntmps5
    go_wp2_with fail
    refine HF.out.mono ?_
    rintro e w1 ⟨rfl, rfl⟩
    go_wp2_with fail
    refine HORD.out.mono ?_
    rintro e w2 ⟨A', k', o, rfl, hr2, hb2, hm2, hs2⟩
    have HR2 := Lib.hid hr2
    have HB2 := Lib.hid hb2
    have HM2 := Lib.hid hm2
    have HS2 := Lib.hid hs2
    clear hr2 hb2 hm2 hs2
    go_wp2_with fail
    refine (awake_any _).mono ?_
    rintro e w3 ⟨rfl, hb3⟩
    have HR3 := Lib.hid (HR2.out.below hb3)
    have HL3 := Lib.hid (HL.out.below (bthen HB2.out hb3))
    have HB3 := Lib.hid (bthen HB2.out hb3)
    clear hb3 HR2 HB2 HORD HF
    go_wp2_with fail
    go_loopw [4] (fun v wr => ∃ i : Nat, v = .int .i64 i ∧ i ≤ ls.length ∧ Hid (Below w3.heap.size w3 wr)) (fun v _ => ls.length - (intOf v).toNat)
    case atStart => exact ⟨0, rfl, by omega, Below.refl _ _⟩
    case round =>
      obtain ⟨i, rfl, hi, HBR⟩ := hrel
      by_cases hlt : i < ls.length
      · have hol := ordL_len ls.length o
        obtain ⟨ad, rfl, hrc⟩ := (HR3.out.below HBR.out) (by rw [hol]; omega)
        obtain ⟨wd, rfl, hwc⟩ := (HL3.out.below HBR.out) (by omega)
        have hox : o i < ls.length := ord_lt HM2.out i hlt
        have cx := hrc i (by rw [hol]; exact hlt)
        rw [ordL_at _ _ _ hlt] at cx
        obtain ⟨X, kx, wx, rx⟩ := hwc (o i) hox
        have hi0 : (0 : Int) ≤ (i : Int) := by omega
        have hi1 : (i : Int) < (ls.length : Int) := by omega
        have hx0 : (0 : Int) ≤ (o i : Int) := by omega
        have hx1 : (o i : Int) < (ls.length : Int) := by omega
        have hx2 : ¬ (o i : Int) < 0 := by omega
        have hx3 : ¬ (ls.length : Int) ≤ (o i : Int) := by omega
        have hlz2 : (ls.length : Int) ≤ 9223372036854775807 := by omega
        have HRX := Lib.hid rx
        have HCI := Lib.hid cx
        have HWX := Lib.hid wx
        have HRC := Lib.hid hrc
        clear hol
        go_upto_region 9 with (fail)
        go_cut [92] (fun v wq => v = .bool false ∧ Below wr.heap.size wr wq)
        case first =>
          clear cx wx rx
          by_cases h0 : i = 0
          · subst h0
            have hc0 : wr.cell? ad = some (.int .i64 (o 0)) := HCI.out
            have hw0 : wr.cell? (wd.add (o 0)) = some (.slice X (ls.getD (o 0) []).length kx) := HWX.out
            clear hrc hwc
            dsimp only [List.append]
            go_big_region
            all_goals
              simp only [Exit.then]
              apply_assumption
              refine Met.intro ?_
              apply_assumption
              (repeat apply Exists.intro)
              refine ⟨⟨rfl, bdrew (Below.refl _ _)⟩, rfl⟩
          · obtain ⟨ip, rfl⟩ : ∃ ip, i = ip + 1 := ⟨i - 1, by omega⟩
            have h00 : (0 : Int) < (ip : Int) + 1 := by omega
            have hoy : o ip < ls.length := ord_lt HM2.out ip (by omega)
            have cy := hrc ip (by rw [ordL_len]; omega)
            rw [ordL_at _ _ _ (by omega)] at cy
            obtain ⟨Y, ky, wy, ry⟩ := hwc (o ip) hoy
            have HCY := Lib.hid cy
            have HWY := Lib.hid wy
            have HRY := Lib.hid ry
            have hT := HS2.out ip (ip + 1) (Nat.zero_le _) (by omega) hlt
            have hbf := ltW_of hT
            have hsm : sameB (ls.getD (o (ip + 1)) []) (ls.getD (o ip) []) = true → o ip < o (ip + 1) := same_of hT
            have hlx := getD_le HFW.out (o (ip + 1))
            have hly := getD_le HFW.out (o ip)
            have HBF := Lib.hid (fun w' hb' => before_any X Y kx ky _ _ w' hlx hly (HRX.out.below hb') (HRY.out.below hb'))
            have HSM := Lib.hid (fun w' hb' => plain_any X Y kx ky _ _ w' (by omega) (HRX.out.below hb') (HRY.out.below hb'))
            rw [hbf] at HBF
            have hj0 : (0 : Int) ≤ (ip : Int) + 1 := by omega
            have hj1 : (ip : Int) + 1 < (ls.length : Int) := by omega
            have hip0 : (0 : Int) ≤ (ip : Int) := by omega
            have hip1 : (ip : Int) < (ls.length : Int) := by omega
            have hy0 : (0 : Int) ≤ (o ip : Int) := by omega
            have hy1 : (o ip : Int) < (ls.length : Int) := by omega
            have e0 : ((ip : Int) + 1).toNat = ip + 1 := by omega
            have hips : ip ≤ 1000 := by omega
            have hcs : wr.cell? { block := ad.block, off := ad.off + (ip + 1) } = some (.int .i64 (o (ip + 1))) := HCI.out
            have HCS := Lib.hid hcs
            clear hcs
            have CX : ∀ w', Below wr.heap.size wr w' → w'.cell? { block := ad.block, off := ad.off + (ip + 1) } = some (.int .i64 (o (ip + 1))) ∧ w'.cell? (wd.add (o (ip + 1))) = some (.slice X (ls.getD (o (ip + 1)) []).length kx) ∧ w'.cell? (ad.add ip) = some (.int .i64 (o ip)) ∧ w'.cell? (wd.add (o ip)) = some (.slice Y (ls.getD (o ip) []).length ky) := fun w' hb' => ⟨(hb'.cell (World.block_lt_of_cell? _ _ HCS.out)).trans HCS.out, (hb'.cell (World.block_lt_of_cell? _ _ HWX.out)).trans HWX.out, (hb'.cell (World.block_lt_of_cell? _ _ HCY.out)).trans HCY.out, (hb'.cell (World.block_lt_of_cell? _ _ HWY.out)).trans HWY.out⟩
            clear hrc hwc h0 cy wy ry hbf hlx hly
            have hwp := wrap_small ip hips
            rcases Bool.eq_false_or_eq_true (sameB (ls.getD (o (ip + 1)) []) (ls.getD (o ip) [])) with hs | hs
            · have hlt2 : ¬ (o (ip + 1) : Int) < (o ip : Int) := by have := hsm hs; clear hwp e0; omega
              rw [hs] at HSM
              clear hs hsm hT
              generalize ls.getD (o (ip + 1)) [] = lx at *
              generalize ls.getD (o ip) [] = ly at *
              dsimp only [List.append]
              refine wp_region_held (S := fun w' => Below wr.heap.size wr w') (by kernel_rfl) ?_
              have hh0 : Below wr.heap.size wr wr.drew := bdrew (Below.refl _ _)
              change wpAnyH _ _ _ _ _ _ _ _ wr.drew
              generalize wr.drew = wx0 at *
              refine wpAnyH_take (i := 0) (oi := ?oia0) (v := ?va0) ?hia0 (by kernel_rfl) ?hfa0 ?hra0 ?hQa0 ?hya0 hh0 ?resta0
              case hia0 => (conv => (lhs; whnf; arg 1; whnf))
              case hfa0 => kernel_rfl
              case hra0 => kernel_rfl
              case hQa0 => exact fun _ _ _ h => h
              case hya0 => (refine Or.inl ⟨by kernel_rfl, ?_⟩; intro w' hS'; go_simp; try with_reducible rfl)
              try simp only [Act.put, List.setIfInBounds_toArray, List.set_cons_zero, List.set_cons_succ]
              refine wpAnyH_take (i := 1) (oi := ?oia1) (v := ?va1) ?hia1 (by kernel_rfl) ?hfa1 ?hra1 ?hQa1 ?hya1 hh0 ?resta1
              case hia1 => (conv => (lhs; whnf; arg 1; whnf))
              case hfa1 => kernel_rfl
              case hra1 => kernel_rfl
              case hQa1 => exact fun _ _ _ h => h
              case hya1 => (refine Or.inl ⟨by kernel_rfl, ?_⟩; intro w' hS'; go_simp; try with_reducible rfl)
              try simp only [Act.put, List.setIfInBounds_toArray, List.set_cons_zero, List.set_cons_succ]
              refine wpAnyH_take (i := 2) (oi := ?oia2) (v := ?va2) ?hia2 (by kernel_rfl) ?hfa2 ?hra2 ?hQa2 ?hya2 hh0 ?resta2
              case hia2 => (conv => (lhs; whnf; arg 1; whnf))
              case hfa2 => kernel_rfl
              case hra2 => kernel_rfl
              case hQa2 => exact fun _ _ _ h => h
              case hya2 => (refine Or.inl ⟨by kernel_rfl, ?_⟩; intro w' hS'; go_simp; try with_reducible rfl)
              try simp only [Act.put, List.setIfInBounds_toArray, List.set_cons_zero, List.set_cons_succ]
              refine wpAnyH_take (i := 3) (oi := ?oia3) (v := ?va3) ?hia3 (by kernel_rfl) ?hfa3 ?hra3 ?hQa3 ?hya3 hh0 ?resta3
              case hia3 => (conv => (lhs; whnf; arg 1; whnf))
              case hfa3 => kernel_rfl
              case hra3 => kernel_rfl
              case hQa3 => exact fun _ _ _ h => h
              case hya3 => (refine Or.inl ⟨by kernel_rfl, ?_⟩; intro w' hS'; obtain ⟨z1, z2, z3, z4⟩ := CX w' hS'; go_simp; try with_reducible rfl)
              try simp only [Act.put, List.setIfInBounds_toArray, List.set_cons_zero, List.set_cons_succ]
              refine wpAnyH_take (i := 4) (oi := ?oia4) (v := ?va4) ?hia4 (by kernel_rfl) ?hfa4 ?hra4 ?hQa4 ?hya4 hh0 ?resta4
              case hia4 => (conv => (lhs; whnf; arg 1; whnf))
              case hfa4 => kernel_rfl
              case hra4 => kernel_rfl
              case hQa4 => exact fun _ _ _ h => h
              case hya4 => (refine Or.inl ⟨by kernel_rfl, ?_⟩; intro w' hS'; go_simp; try with_reducible rfl)
              try simp only [Act.put, List.setIfInBounds_toArray, List.set_cons_zero, List.set_cons_succ]
              refine wpAnyH_take (i := 5) (oi := ?oia5) (v := ?va5) ?hia5 (by kernel_rfl) ?hfa5 ?hra5 ?hQa5 ?hya5 hh0 ?resta5
              case hia5 => (conv => (lhs; whnf; arg 1; whnf))
              case hfa5 => kernel_rfl
              case hra5 => kernel_rfl
              case hQa5 => exact fun _ _ _ h => h
              case hya5 => (refine Or.inl ⟨by kernel_rfl, ?_⟩; intro w' hS'; go_simp; try with_reducible rfl)
              try simp only [Act.put, List.setIfInBounds_toArray, List.set_cons_zero, List.set_cons_succ]
              refine wpAnyH_take (i := 6) (oi := ?oia6) (v := ?va6) ?hia6 (by kernel_rfl) ?hfa6 ?hra6 ?hQa6 ?hya6 hh0 ?resta6
              case hia6 => (conv => (lhs; whnf; arg 1; whnf))
              case hfa6 => kernel_rfl
              case hra6 => kernel_rfl
              case hQa6 => exact fun _ _ _ h => h
              case hya6 => (refine Or.inl ⟨by kernel_rfl, ?_⟩; intro w' hS'; go_simp; try with_reducible rfl)
              try simp only [Act.put, List.setIfInBounds_toArray, List.set_cons_zero, List.set_cons_succ]
              refine wpAnyH_take (i := 7) (oi := ?oia7) (v := ?va7) ?hia7 (by kernel_rfl) ?hfa7 ?hra7 ?hQa7 ?hya7 hh0 ?resta7
              case hia7 => (conv => (lhs; whnf; arg 1; whnf))
              case hfa7 => kernel_rfl
              case hra7 => kernel_rfl
              case hQa7 => exact fun _ _ _ h => h
              case hya7 => (refine Or.inl ⟨by kernel_rfl, ?_⟩; intro w' hS'; go_simp; try with_reducible rfl)
              try simp only [Act.put, List.setIfInBounds_toArray, List.set_cons_zero, List.set_cons_succ]
              refine wpAnyH_take (i := 8) (oi := ?oia8) (v := ?va8) ?hia8 (by kernel_rfl) ?hfa8 ?hra8 ?hQa8 ?hya8 hh0 ?resta8
              case hia8 => (conv => (lhs; whnf; arg 1; whnf))
              case hfa8 => kernel_rfl
              case hra8 => kernel_rfl
              case hQa8 => exact fun _ _ _ h => h
              case hya8 => (refine Or.inl ⟨by kernel_rfl, ?_⟩; intro w' hS'; go_simp; try with_reducible rfl)
              try simp only [Act.put, List.setIfInBounds_toArray, List.set_cons_zero, List.set_cons_succ]
              refine wpAnyH_take (i := 9) (oi := ?oia9) (v := ?va9) ?hia9 (by kernel_rfl) ?hfa9 ?hra9 ?hQa9 ?hya9 hh0 ?resta9
              case hia9 => (conv => (lhs; whnf; arg 1; whnf))
              case hfa9 => kernel_rfl
              case hra9 => kernel_rfl
              case hQa9 => exact fun _ _ _ h => h
              case hya9 => (refine Or.inl ⟨by kernel_rfl, ?_⟩; intro w' hS'; obtain ⟨z1, z2, z3, z4⟩ := CX w' hS'; go_simp; try with_reducible rfl)
              try simp only [Act.put, List.setIfInBounds_toArray, List.set_cons_zero, List.set_cons_succ]
              refine wpAnyH_take (i := 10) (oi := ?oia10) (v := ?va10) ?hia10 (by kernel_rfl) ?hfa10 ?hra10 ?hQa10 ?hya10 hh0 ?resta10
              case hia10 => (conv => (lhs; whnf; arg 1; whnf))
              case hfa10 => kernel_rfl
              case hra10 => kernel_rfl
              case hQa10 => exact fun _ _ _ h => h
              case hya10 => (refine Or.inl ⟨by kernel_rfl, ?_⟩; intro w' hS'; go_simp; try with_reducible rfl)
              try simp only [Act.put, List.setIfInBounds_toArray, List.set_cons_zero, List.set_cons_succ]
              refine wpAnyH_take (i := 11) (oi := ?oia11) (v := ?va11) ?hia11 (by kernel_rfl) ?hfa11 ?hra11 ?hQa11 ?hya11 hh0 ?resta11
              case hia11 => (conv => (lhs; whnf; arg 1; whnf))
              case hfa11 => kernel_rfl
              case hra11 => kernel_rfl
              case hQa11 => exact fun _ _ _ h => h
              case hya11 => (refine Or.inl ⟨by kernel_rfl, ?_⟩; intro w' hS'; go_simp; try with_reducible rfl)
              try simp only [Act.put, List.setIfInBounds_toArray, List.set_cons_zero, List.set_cons_succ]
              refine wpAnyH_take (i := 12) (oi := ?oia12) (v := ?va12) ?hia12 (by kernel_rfl) ?hfa12 ?hra12 ?hQa12 ?hya12 hh0 ?resta12
              case hia12 => (conv => (lhs; whnf; arg 1; whnf))
              case hfa12 => kernel_rfl
              case hra12 => kernel_rfl
              case hQa12 => exact fun _ _ _ h => h
              case hya12 => (refine Or.inl ⟨by kernel_rfl, ?_⟩; intro w' hS'; go_simp; try with_reducible rfl)
              try simp only [Act.put, List.setIfInBounds_toArray, List.set_cons_zero, List.set_cons_succ]
              refine wpAnyH_take (i := 13) (oi := ?oia13) (v := ?va13) ?hia13 (by kernel_rfl) ?hfa13 ?hra13 ?hQa13 ?hya13 hh0 ?resta13
              case hia13 => (conv => (lhs; whnf; arg 1; whnf))
              case hfa13 => kernel_rfl
              case hra13 => kernel_rfl
              case hQa13 => exact fun _ _ _ h => h
              case hya13 => (refine Or.inl ⟨by kernel_rfl, ?_⟩; intro w' hS'; go_simp; try with_reducible rfl)
              try simp only [Act.put, List.setIfInBounds_toArray, List.set_cons_zero, List.set_cons_succ]
              refine wpAnyH_take (i := 14) (oi := ?oia14) (v := ?va14) ?hia14 (by kernel_rfl) ?hfa14 ?hra14 ?hQa14 ?hya14 hh0 ?resta14
              case hia14 => (conv => (lhs; whnf; arg 1; whnf))
              case hfa14 => kernel_rfl
              case hra14 => kernel_rfl
              case hQa14 => exact fun _ _ _ h => h
              case hya14 => (refine Or.inl ⟨by kernel_rfl, ?_⟩; intro w' hS'; go_simp; try with_reducible rfl)
              try simp only [Act.put, List.setIfInBounds_toArray, List.set_cons_zero, List.set_cons_succ]
              refine wpAnyH_take (i := 15) (oi := ?oia15) (v := ?va15) ?hia15 (by kernel_rfl) ?hfa15 ?hra15 ?hQa15 ?hya15 hh0 ?resta15
              case hia15 => (conv => (lhs; whnf; arg 1; whnf))
              case hfa15 => kernel_rfl
              case hra15 => kernel_rfl
              case hQa15 => exact fun _ _ _ h => h
              case hya15 => (refine Or.inl ⟨by kernel_rfl, ?_⟩; intro w' hS'; go_simp; try with_reducible rfl)
              try simp only [Act.put, List.setIfInBounds_toArray, List.set_cons_zero, List.set_cons_succ]
              refine wpAnyH_take (i := 16) (oi := ?oia16) (v := ?va16) ?hia16 (by kernel_rfl) ?hfa16 ?hra16 ?hQa16 ?hya16 hh0 ?resta16
              case hia16 => (conv => (lhs; whnf; arg 1; whnf))
              case hfa16 => kernel_rfl
              case hra16 => kernel_rfl
              case hQa16 => exact fun _ _ _ h => h
              case hya16 => (refine Or.inl ⟨by kernel_rfl, ?_⟩; intro w' hS'; go_simp; try with_reducible rfl)
              try simp only [Act.put, List.setIfInBounds_toArray, List.set_cons_zero, List.set_cons_succ]
              refine wpAnyH_take (i := 17) (oi := ?oia17) (v := ?va17) ?hia17 (by kernel_rfl) ?hfa17 ?hra17 ?hQa17 ?hya17 hh0 ?resta17
              case hia17 => (conv => (lhs; whnf; arg 1; whnf))
              case hfa17 => kernel_rfl
              case hra17 => kernel_rfl
              case hQa17 => exact fun _ _ _ h => h
              case hya17 => (refine Or.inl ⟨by kernel_rfl, ?_⟩; intro w' hS'; go_simp; try with_reducible rfl)
              try simp only [Act.put, List.setIfInBounds_toArray, List.set_cons_zero, List.set_cons_succ]
              refine wpAnyH_take (i := 18) (oi := ?oia18) (v := ?va18) ?hia18 (by kernel_rfl) ?hfa18 ?hra18 ?hQa18 ?hya18 hh0 ?resta18
              case hia18 => (conv => (lhs; whnf; arg 1; whnf))
              case hfa18 => kernel_rfl
              case hra18 => kernel_rfl
              case hQa18 => exact fun _ _ _ h => h
              case hya18 => (refine Or.inl ⟨by kernel_rfl, ?_⟩; intro w' hS'; go_simp; try with_reducible rfl)
              try simp only [Act.put, List.setIfInBounds_toArray, List.set_cons_zero, List.set_cons_succ]
              refine wpAnyH_take (i := 19) (oi := ?oia19) (v := ?va19) ?hia19 (by kernel_rfl) ?hfa19 ?hra19 ?hQa19 ?hya19 hh0 ?resta19
              case hia19 => (conv => (lhs; whnf; arg 1; whnf))
              case hfa19 => kernel_rfl
              case hra19 => kernel_rfl
              case hQa19 => exact fun _ _ _ h => h
              case hya19 => (refine Or.inl ⟨by kernel_rfl, ?_⟩; intro w' hS'; go_simp; try with_reducible rfl)
              try simp only [Act.put, List.setIfInBounds_toArray, List.set_cons_zero, List.set_cons_succ]
              refine wpAnyH_take (i := 20) (oi := ?oia20) (v := ?va20) ?hia20 (by kernel_rfl) ?hfa20 ?hra20 ?hQa20 ?hya20 hh0 ?resta20
              case hia20 => (conv => (lhs; whnf; arg 1; whnf))
              case hfa20 => kernel_rfl
              case hra20 => kernel_rfl
              case hQa20 => exact fun _ _ _ h => h
              case hya20 => (refine Or.inl ⟨by kernel_rfl, ?_⟩; intro w' hS'; go_simp; try with_reducible rfl)
              try simp only [Act.put, List.setIfInBounds_toArray, List.set_cons_zero, List.set_cons_succ]
              refine wpAnyH_take (i := 21) (oi := ?oia21) (v := ?va21) ?hia21 (by kernel_rfl) ?hfa21 ?hra21 ?hQa21 ?hya21 hh0 ?resta21
              case hia21 => (conv => (lhs; whnf; arg 1; whnf))
              case hfa21 => kernel_rfl
              case hra21 => kernel_rfl
              case hQa21 => exact fun _ _ _ h => h
              case hya21 => (refine Or.inl ⟨by kernel_rfl, ?_⟩; intro w' hS'; go_simp; try with_reducible rfl)
              try simp only [Act.put, List.setIfInBounds_toArray, List.set_cons_zero, List.set_cons_succ]
              refine wpAnyH_take (i := 22) (oi := ?oia22) (v := ?va22) ?hia22 (by kernel_rfl) ?hfa22 ?hra22 ?hQa22 ?hya22 hh0 ?resta22
              case hia22 => (conv => (lhs; whnf; arg 1; whnf))
              case hfa22 => kernel_rfl
              case hra22 => kernel_rfl
              case hQa22 => exact fun _ _ _ h => h
              case hya22 => (refine Or.inl ⟨by kernel_rfl, ?_⟩; intro w' hS'; obtain ⟨z1, z2, z3, z4⟩ := CX w' hS'; go_simp; try with_reducible rfl)
              try simp only [Act.put, List.setIfInBounds_toArray, List.set_cons_zero, List.set_cons_succ]
              refine wpAnyH_take (i := 23) (oi := ?oia23) (v := ?va23) ?hia23 (by kernel_rfl) ?hfa23 ?hra23 ?hQa23 ?hya23 hh0 ?resta23
              case hia23 => (conv => (lhs; whnf; arg 1; whnf))
              case hfa23 => kernel_rfl
              case hra23 => kernel_rfl
              case hQa23 => exact fun _ _ _ h => h
              case hya23 => (refine Or.inl ⟨by kernel_rfl, ?_⟩; intro w' hS'; go_simp; try with_reducible rfl)
              try simp only [Act.put, List.setIfInBounds_toArray, List.set_cons_zero, List.set_cons_succ]
              refine wpAnyH_take (i := 24) (oi := ?oia24) (v := ?va24) ?hia24 (by kernel_rfl) ?hfa24 ?hra24 ?hQa24 ?hya24 hh0 ?resta24
              case hia24 => (conv => (lhs; whnf; arg 1; whnf))
              case hfa24 => kernel_rfl
              case hra24 => kernel_rfl
              case hQa24 => exact fun _ _ _ h => h
              case hya24 => (refine Or.inl ⟨by kernel_rfl, ?_⟩; intro w' hS'; obtain ⟨z1, z2, z3, z4⟩ := CX w' hS'; go_simp; try with_reducible rfl)
              try simp only [Act.put, List.setIfInBounds_toArray, List.set_cons_zero, List.set_cons_succ]
              refine wpAnyH_take (i := 25) (oi := ?oia25) (v := ?va25) ?hia25 (by kernel_rfl) ?hfa25 ?hra25 ?hQa25 ?hya25 hh0 ?resta25
              case hia25 => (conv => (lhs; whnf; arg 1; whnf))
              case hfa25 => kernel_rfl
              case hra25 => kernel_rfl
              case hQa25 => exact fun _ _ _ h => h
              case hya25 => (refine Or.inl ⟨by kernel_rfl, ?_⟩; intro w' hS'; go_simp; try with_reducible rfl)
              try simp only [Act.put, List.setIfInBounds_toArray, List.set_cons_zero, List.set_cons_succ]
              refine wpAnyH_take (i := 26) (oi := ?oia26) (v := ?va26) ?hia26 (by kernel_rfl) ?hfa26 ?hra26 ?hQa26 ?hya26 hh0 ?resta26
              case hia26 => (conv => (lhs; whnf; arg 1; whnf))
              case hfa26 => kernel_rfl
              case hra26 => kernel_rfl
              case hQa26 => exact fun _ _ _ h => h
              case hya26 => (refine Or.inl ⟨by kernel_rfl, ?_⟩; intro w' hS'; go_simp; try with_reducible rfl)
              try simp only [Act.put, List.setIfInBounds_toArray, List.set_cons_zero, List.set_cons_succ]
              refine wpAnyH_take (i := 27) (oi := ?oia27) (v := ?va27) ?hia27 (by kernel_rfl) ?hfa27 ?hra27 ?hQa27 ?hya27 hh0 ?resta27
              case hia27 => (conv => (lhs; whnf; arg 1; whnf))
              case hfa27 => kernel_rfl
              case hra27 => kernel_rfl
              case hQa27 => exact fun _ _ _ h => h
              case hya27 => (refine Or.inl ⟨by kernel_rfl, ?_⟩; intro w' hS'; go_simp; try with_reducible rfl)
              try simp only [Act.put, List.setIfInBounds_toArray, List.set_cons_zero, List.set_cons_succ]
              refine wpAnyH_take (i := 28) (oi := ?oia28) (v := ?va28) ?hia28 (by kernel_rfl) ?hfa28 ?hra28 ?hQa28 ?hya28 hh0 ?resta28
              case hia28 => (conv => (lhs; whnf; arg 1; whnf))
              case hfa28 => kernel_rfl
              case hra28 => kernel_rfl
              case hQa28 => exact fun _ _ _ h => h
              case hya28 => (refine Or.inl ⟨by kernel_rfl, ?_⟩; intro w' hS'; go_simp; try with_reducible rfl)
              try simp only [Act.put, List.setIfInBounds_toArray, List.set_cons_zero, List.set_cons_succ]
              refine wpAnyH_take (i := 29) (oi := ?oia29) (v := ?va29) ?hia29 (by kernel_rfl) ?hfa29 ?hra29 ?hQa29 ?hya29 hh0 ?resta29
              case hia29 => (conv => (lhs; whnf; arg 1; whnf))
              case hfa29 => kernel_rfl
              case hra29 => kernel_rfl
              case hQa29 => exact fun _ _ _ h => h
              case hya29 => (refine Or.inl ⟨by kernel_rfl, ?_⟩; intro w' hS'; go_simp; try with_reducible rfl)
              try simp only [Act.put, List.setIfInBounds_toArray, List.set_cons_zero, List.set_cons_succ]
              refine wpAnyH_take (i := 30) (oi := ?oia30) (v := ?va30) ?hia30 (by kernel_rfl) ?hfa30 ?hra30 ?hQa30 ?hya30 hh0 ?resta30
              case hia30 => (conv => (lhs; whnf; arg 1; whnf))
              case hfa30 => kernel_rfl
              case hra30 => kernel_rfl
              case hQa30 => exact fun _ _ _ h => h
              case hya30 => (refine Or.inl ⟨by kernel_rfl, ?_⟩; intro w' hS'; obtain ⟨z1, z2, z3, z4⟩ := CX w' hS'; go_simp; try with_reducible rfl)
              try simp only [Act.put, List.setIfInBounds_toArray, List.set_cons_zero, List.set_cons_succ]
              refine wpAnyH_take (i := 31) (oi := ?oia31) (v := ?va31) ?hia31 (by kernel_rfl) ?hfa31 ?hra31 ?hQa31 ?hya31 hh0 ?resta31
              case hia31 => (conv => (lhs; whnf; arg 1; whnf))
              case hfa31 => kernel_rfl
              case hra31 => kernel_rfl
              case hQa31 => exact fun _ _ _ h => h
              case hya31 => (refine Or.inl ⟨by kernel_rfl, ?_⟩; intro w' hS'; go_simp; try with_reducible rfl)
              try simp only [Act.put, List.setIfInBounds_toArray, List.set_cons_zero, List.set_cons_succ]
              refine wpAnyH_take (i := 32) (oi := ?oia32) (v := ?va32) ?hia32 (by kernel_rfl) ?hfa32 ?hra32 ?hQa32 ?hya32 hh0 ?resta32
              case hia32 => (conv => (lhs; whnf; arg 1; whnf))
              case hfa32 => kernel_rfl
              case hra32 => kernel_rfl
              case hQa32 => exact fun _ _ _ h => h
              case hya32 => (refine Or.inl ⟨by kernel_rfl, ?_⟩; intro w' hS'; obtain ⟨z1, z2, z3, z4⟩ := CX w' hS'; go_simp; try with_reducible rfl)
              try simp only [Act.put, List.setIfInBounds_toArray, List.set_cons_zero, List.set_cons_succ]
              refine wpAnyH_ready (rs := [33]) (by kernel_rfl) (by simp) ?_
              refine AllReadyH.cons (o := ?oa33) ?hoa33 ?stepa33 AllReadyH.nil
              case hoa33 => (conv => (lhs; whnf; arg 1; whnf))
              intro K hK
              go_simp
              refine (HBF.out _ hh0).mono ?_
              rintro e wx1 ⟨rfl, hbb1⟩
              have hh1 := bthen hh0 hbb1
              refine hK.out _ _ hh1 (fun _ => ?_)
              clear hK
              try simp only [Act.put, List.setIfInBounds_toArray, List.set_cons_zero, List.set_cons_succ]
              refine wpAnyH_take (i := 34) (oi := ?oia34) (v := ?va34) ?hia34 (by kernel_rfl) ?hfa34 ?hra34 ?hQa34 ?hya34 hh1 ?resta34
              case hia34 => (conv => (lhs; whnf; arg 1; whnf))
              case hfa34 => kernel_rfl
              case hra34 => kernel_rfl
              case hQa34 => exact fun _ _ _ h => h
              case hya34 => (refine Or.inl ⟨by kernel_rfl, ?_⟩; intro w' hS'; go_simp; try with_reducible rfl)
              try simp only [Act.put, List.setIfInBounds_toArray, List.set_cons_zero, List.set_cons_succ]
              refine wpAnyH_take (i := 35) (oi := ?oia35) (v := ?va35) ?hia35 (by kernel_rfl) ?hfa35 ?hra35 ?hQa35 ?hya35 hh1 ?resta35
              case hia35 => (conv => (lhs; whnf; arg 1; whnf))
              case hfa35 => kernel_rfl
              case hra35 => kernel_rfl
              case hQa35 => exact fun _ _ _ h => h
              case hya35 => (refine Or.inl ⟨by kernel_rfl, ?_⟩; intro w' hS'; go_simp; try with_reducible rfl)
              try simp only [Act.put, List.setIfInBounds_toArray, List.set_cons_zero, List.set_cons_succ]
              refine wpAnyH_take (i := 36) (oi := ?oia36) (v := ?va36) ?hia36 (by kernel_rfl) ?hfa36 ?hra36 ?hQa36 ?hya36 hh1 ?resta36
              case hia36 => (conv => (lhs; whnf; arg 1; whnf))
              case hfa36 => kernel_rfl
              case hra36 => kernel_rfl
              case hQa36 => exact fun _ _ _ h => h
              case hya36 => (refine Or.inl ⟨by kernel_rfl, ?_⟩; intro w' hS'; go_simp; try with_reducible rfl)
              try simp only [Act.put, List.setIfInBounds_toArray, List.set_cons_zero, List.set_cons_succ]
              refine wpAnyH_take (i := 37) (oi := ?oia37) (v := ?va37) ?hia37 (by kernel_rfl) ?hfa37 ?hra37 ?hQa37 ?hya37 hh1 ?resta37
              case hia37 => (conv => (lhs; whnf; arg 1; whnf))
              case hfa37 => kernel_rfl
              case hra37 => kernel_rfl
              case hQa37 => exact fun _ _ _ h => h
              case hya37 => (refine Or.inl ⟨by kernel_rfl, ?_⟩; intro w' hS'; go_simp; try with_reducible rfl)
              try simp only [Act.put, List.setIfInBounds_toArray, List.set_cons_zero, List.set_cons_succ]
              refine wpAnyH_take (i := 38) (oi := ?oia38) (v := ?va38) ?hia38 (by kernel_rfl) ?hfa38 ?hra38 ?hQa38 ?hya38 hh1 ?resta38
              case hia38 => (conv => (lhs; whnf; arg 1; whnf))
              case hfa38 => kernel_rfl
              case hra38 => kernel_rfl
              case hQa38 => exact fun _ _ _ h => h
              case hya38 => (refine Or.inl ⟨by kernel_rfl, ?_⟩; intro w' hS'; go_simp; try with_reducible rfl)
              try simp only [Act.put, List.setIfInBounds_toArray, List.set_cons_zero, List.set_cons_succ]
              refine wpAnyH_take (i := 39) (oi := ?oia39) (v := ?va39) ?hia39 (by kernel_rfl) ?hfa39 ?hra39 ?hQa39 ?hya39 hh1 ?resta39
              case hia39 => (conv => (lhs; whnf; arg 1; whnf))
              case hfa39 => kernel_rfl
              case hra39 => kernel_rfl
              case hQa39 => exact fun _ _ _ h => h
              case hya39 => (refine Or.inl ⟨by kernel_rfl, ?_⟩; intro w' hS'; obtain ⟨z1, z2, z3, z4⟩ := CX w' hS'; go_simp; try with_reducible rfl)
              try simp only [Act.put, List.setIfInBounds_toArray, List.set_cons_zero, List.set_cons_succ]
              refine wpAnyH_take (i := 40) (oi := ?oia40) (v := ?va40) ?hia40 (by kernel_rfl) ?hfa40 ?hra40 ?hQa40 ?hya40 hh1 ?resta40
              case hia40 => (conv => (lhs; whnf; arg 1; whnf))
              case hfa40 => kernel_rfl
              case hra40 => kernel_rfl
              case hQa40 => exact fun _ _ _ h => h
              case hya40 => (refine Or.inl ⟨by kernel_rfl, ?_⟩; intro w' hS'; go_simp; try with_reducible rfl)
              try simp only [Act.put, List.setIfInBounds_toArray, List.set_cons_zero, List.set_cons_succ]
              refine wpAnyH_take (i := 41) (oi := ?oia41) (v := ?va41) ?hia41 (by kernel_rfl) ?hfa41 ?hra41 ?hQa41 ?hya41 hh1 ?resta41
              case hia41 => (conv => (lhs; whnf; arg 1; whnf))
              case hfa41 => kernel_rfl
              case hra41 => kernel_rfl
              case hQa41 => exact fun _ _ _ h => h
              case hya41 => (refine Or.inl ⟨by kernel_rfl, ?_⟩; intro w' hS'; obtain ⟨z1, z2, z3, z4⟩ := CX w' hS'; go_simp; try with_reducible rfl)
              try simp only [Act.put, List.setIfInBounds_toArray, List.set_cons_zero, List.set_cons_succ]
              refine wpAnyH_take (i := 42) (oi := ?oia42) (v := ?va42) ?hia42 (by kernel_rfl) ?hfa42 ?hra42 ?hQa42 ?hya42 hh1 ?resta42
              case hia42 => (conv => (lhs; whnf; arg 1; whnf))
              case hfa42 => kernel_rfl
              case hra42 => kernel_rfl
              case hQa42 => exact fun _ _ _ h => h
              case hya42 => (refine Or.inl ⟨by kernel_rfl, ?_⟩; intro w' hS'; go_simp; try with_reducible rfl)
              try simp only [Act.put, List.setIfInBounds_toArray, List.set_cons_zero, List.set_cons_succ]
              refine wpAnyH_take (i := 43) (oi := ?oia43) (v := ?va43) ?hia43 (by kernel_rfl) ?hfa43 ?hra43 ?hQa43 ?hya43 hh1 ?resta43
              case hia43 => (conv => (lhs; whnf; arg 1; whnf))
              case hfa43 => kernel_rfl
              case hra43 => kernel_rfl
              case hQa43 => exact fun _ _ _ h => h
              case hya43 => (refine Or.inl ⟨by kernel_rfl, ?_⟩; intro w' hS'; go_simp; try with_reducible rfl)
              try simp only [Act.put, List.setIfInBounds_toArray, List.set_cons_zero, List.set_cons_succ]
              refine wpAnyH_take (i := 44) (oi := ?oia44) (v := ?va44) ?hia44 (by kernel_rfl) ?hfa44 ?hra44 ?hQa44 ?hya44 hh1 ?resta44
              case hia44 => (conv => (lhs; whnf; arg 1; whnf))
              case hfa44 => kernel_rfl
              case hra44 => kernel_rfl
              case hQa44 => exact fun _ _ _ h => h
              case hya44 => (refine Or.inl ⟨by kernel_rfl, ?_⟩; intro w' hS'; go_simp; try with_reducible rfl)
              try simp only [Act.put, List.setIfInBounds_toArray, List.set_cons_zero, List.set_cons_succ]
              refine wpAnyH_take (i := 45) (oi := ?oia45) (v := ?va45) ?hia45 (by kernel_rfl) ?hfa45 ?hra45 ?hQa45 ?hya45 hh1 ?resta45
              case hia45 => (conv => (lhs; whnf; arg 1; whnf))
              case hfa45 => kernel_rfl
              case hra45 => kernel_rfl
              case hQa45 => exact fun _ _ _ h => h
              case hya45 => (refine Or.inl ⟨by kernel_rfl, ?_⟩; intro w' hS'; go_simp; try with_reducible rfl)
              try simp only [Act.put, List.setIfInBounds_toArray, List.set_cons_zero, List.set_cons_succ]
              refine wpAnyH_take (i := 46) (oi := ?oia46) (v := ?va46) ?hia46 (by kernel_rfl) ?hfa46 ?hra46 ?hQa46 ?hya46 hh1 ?resta46
              case hia46 => (conv => (lhs; whnf; arg 1; whnf))
              case hfa46 => kernel_rfl
              case hra46 => kernel_rfl
              case hQa46 => exact fun _ _ _ h => h
              case hya46 => (refine Or.inl ⟨by kernel_rfl, ?_⟩; intro w' hS'; go_simp; try with_reducible rfl)
              try simp only [Act.put, List.setIfInBounds_toArray, List.set_cons_zero, List.set_cons_succ]
              refine wpAnyH_take (i := 47) (oi := ?oia47) (v := ?va47) ?hia47 (by kernel_rfl) ?hfa47 ?hra47 ?hQa47 ?hya47 hh1 ?resta47
              case hia47 => (conv => (lhs; whnf; arg 1; whnf))
              case hfa47 => kernel_rfl
              case hra47 => kernel_rfl
              case hQa47 => exact fun _ _ _ h => h
              case hya47 => (refine Or.inl ⟨by kernel_rfl, ?_⟩; intro w' hS'; obtain ⟨z1, z2, z3, z4⟩ := CX w' hS'; go_simp; try with_reducible rfl)
              try simp only [Act.put, List.setIfInBounds_toArray, List.set_cons_zero, List.set_cons_succ]
              refine wpAnyH_take (i := 48) (oi := ?oia48) (v := ?va48) ?hia48 (by kernel_rfl) ?hfa48 ?hra48 ?hQa48 ?hya48 hh1 ?resta48
              case hia48 => (conv => (lhs; whnf; arg 1; whnf))
              case hfa48 => kernel_rfl
              case hra48 => kernel_rfl
              case hQa48 => exact fun _ _ _ h => h
              case hya48 => (refine Or.inl ⟨by kernel_rfl, ?_⟩; intro w' hS'; go_simp; try with_reducible rfl)
              try simp only [Act.put, List.setIfInBounds_toArray, List.set_cons_zero, List.set_cons_succ]
              refine wpAnyH_take (i := 49) (oi := ?oia49) (v := ?va49) ?hia49 (by kernel_rfl) ?hfa49 ?hra49 ?hQa49 ?hya49 hh1 ?resta49
              case hia49 => (conv => (lhs; whnf; arg 1; whnf))
              case hfa49 => kernel_rfl
              case hra49 => kernel_rfl
              case hQa49 => exact fun _ _ _ h => h
              case hya49 => (refine Or.inl ⟨by kernel_rfl, ?_⟩; intro w' hS'; obtain ⟨z1, z2, z3, z4⟩ := CX w' hS'; go_simp; try with_reducible rfl)
              try simp only [Act.put, List.setIfInBounds_toArray, List.set_cons_zero, List.set_cons_succ]
              refine wpAnyH_ready (rs := [50]) (by kernel_rfl) (by simp) ?_
              refine AllReadyH.cons (o := ?oa50) ?hoa50 ?stepa50 AllReadyH.nil
              case hoa50 => (conv => (lhs; whnf; arg 1; whnf))
              intro K hK
              go_simp
              refine (HSM.out _ hh1).mono ?_
              rintro e wx2 ⟨rfl, hbb2⟩
              have hh2 := bthen hh1 hbb2
              refine hK.out _ _ hh2 (fun _ => ?_)
              clear hK
              try simp only [Act.put, List.setIfInBounds_toArray, List.set_cons_zero, List.set_cons_succ]
              refine wpAnyH_take (i := 51) (oi := ?oia51) (v := ?va51) ?hia51 (by kernel_rfl) ?hfa51 ?hra51 ?hQa51 ?hya51 hh2 ?resta51
              case hia51 => (conv => (lhs; whnf; arg 1; whnf))
              case hfa51 => kernel_rfl
              case hra51 => kernel_rfl
              case hQa51 => exact fun _ _ _ h => h
              case hya51 => (refine Or.inl ⟨by kernel_rfl, ?_⟩; intro w' hS'; go_simp; try with_reducible rfl)
              try simp only [Act.put, List.setIfInBounds_toArray, List.set_cons_zero, List.set_cons_succ]
              refine wpAnyH_take (i := 52) (oi := ?oia52) (v := ?va52) ?hia52 (by kernel_rfl) ?hfa52 ?hra52 ?hQa52 ?hya52 hh2 ?resta52
              case hia52 => (conv => (lhs; whnf; arg 1; whnf))
              case hfa52 => kernel_rfl
              case hra52 => kernel_rfl
              case hQa52 => exact fun _ _ _ h => h
              case hya52 => (refine Or.inl ⟨by kernel_rfl, ?_⟩; intro w' hS'; go_simp; try with_reducible rfl)
              try simp only [Act.put, List.setIfInBounds_toArray, List.set_cons_zero, List.set_cons_succ]
              refine wpAnyH_take (i := 53) (oi := ?oia53) (v := ?va53) ?hia53 (by kernel_rfl) ?hfa53 ?hra53 ?hQa53 ?hya53 hh2 ?resta53
              case hia53 => (conv => (lhs; whnf; arg 1; whnf))
              case hfa53 => kernel_rfl
              case hra53 => kernel_rfl
              case hQa53 => exact fun _ _ _ h => h
              case hya53 => (refine Or.inl ⟨by kernel_rfl, ?_⟩; intro w' hS'; go_simp; try with_reducible rfl)
              try simp only [Act.put, List.setIfInBounds_toArray, List.set_cons_zero, List.set_cons_succ]
              refine wpAnyH_take (i := 54) (oi := ?oia54) (v := ?va54) ?hia54 (by kernel_rfl) ?hfa54 ?hra54 ?hQa54 ?hya54 hh2 ?resta54
              case hia54 => (conv => (lhs; whnf; arg 1; whnf))
              case hfa54 => kernel_rfl
              case hra54 => kernel_rfl
              case hQa54 => exact fun _ _ _ h => h
              case hya54 => (refine Or.inl ⟨by kernel_rfl, ?_⟩; intro w' hS'; go_simp; try with_reducible rfl)
              try simp only [Act.put, List.setIfInBounds_toArray, List.set_cons_zero, List.set_cons_succ]
              refine wpAnyH_take (i := 55) (oi := ?oia55) (v := ?va55) ?hia55 (by kernel_rfl) ?hfa55 ?hra55 ?hQa55 ?hya55 hh2 ?resta55
              case hia55 => (conv => (lhs; whnf; arg 1; whnf))
              case hfa55 => kernel_rfl
              case hra55 => kernel_rfl
              case hQa55 => exact fun _ _ _ h => h
              case hya55 => (refine Or.inl ⟨by kernel_rfl, ?_⟩; intro w' hS'; obtain ⟨z1, z2, z3, z4⟩ := CX w' hS'; go_simp; try with_reducible rfl)
              try simp only [Act.put, List.setIfInBounds_toArray, List.set_cons_zero, List.set_cons_succ]
              refine wpAnyH_take (i := 56) (oi := ?oia56) (v := ?va56) ?hia56 (by kernel_rfl) ?hfa56 ?hra56 ?hQa56 ?hya56 hh2 ?resta56
              case hia56 => (conv => (lhs; whnf; arg 1; whnf))
              case hfa56 => kernel_rfl
              case hra56 => kernel_rfl
              case hQa56 => exact fun _ _ _ h => h
              case hya56 => (refine Or.inl ⟨by kernel_rfl, ?_⟩; intro w' hS'; go_simp; try with_reducible rfl)
              try simp only [Act.put, List.setIfInBounds_toArray, List.set_cons_zero, List.set_cons_succ]
              refine wpAnyH_take (i := 57) (oi := ?oia57) (v := ?va57) ?hia57 (by kernel_rfl) ?hfa57 ?hra57 ?hQa57 ?hya57 hh2 ?resta57
              case hia57 => (conv => (lhs; whnf; arg 1; whnf))
              case hfa57 => kernel_rfl
              case hra57 => kernel_rfl
              case hQa57 => exact fun _ _ _ h => h
              case hya57 => (refine Or.inl ⟨by kernel_rfl, ?_⟩; intro w' hS'; go_simp; try with_reducible rfl)
              try simp only [Act.put, List.setIfInBounds_toArray, List.set_cons_zero, List.set_cons_succ]
              refine wpAnyH_take (i := 58) (oi := ?oia58) (v := ?va58) ?hia58 (by kernel_rfl) ?hfa58 ?hra58 ?hQa58 ?hya58 hh2 ?resta58
              case hia58 => (conv => (lhs; whnf; arg 1; whnf))
              case hfa58 => kernel_rfl
              case hra58 => kernel_rfl
              case hQa58 => exact fun _ _ _ h => h
              case hya58 => (refine Or.inl ⟨by kernel_rfl, ?_⟩; intro w' hS'; go_simp; try with_reducible rfl)
              try simp only [Act.put, List.setIfInBounds_toArray, List.set_cons_zero, List.set_cons_succ]
              refine wpAnyH_take (i := 59) (oi := ?oia59) (v := ?va59) ?hia59 (by kernel_rfl) ?hfa59 ?hra59 ?hQa59 ?hya59 hh2 ?resta59
              case hia59 => (conv => (lhs; whnf; arg 1; whnf))
              case hfa59 => kernel_rfl
              case hra59 => kernel_rfl
              case hQa59 => exact fun _ _ _ h => h
              case hya59 => (refine Or.inl ⟨by kernel_rfl, ?_⟩; intro w' hS'; go_simp; try with_reducible rfl)
              try simp only [Act.put, List.setIfInBounds_toArray, List.set_cons_zero, List.set_cons_succ]
              refine wpAnyH_take (i := 60) (oi := ?oia60) (v := ?va60) ?hia60 (by kernel_rfl) ?hfa60 ?hra60 ?hQa60 ?hya60 hh2 ?resta60
              case hia60 => (conv => (lhs; whnf; arg 1; whnf))
              case hfa60 => kernel_rfl
              case hra60 => kernel_rfl
              case hQa60 => exact fun _ _ _ h => h
              case hya60 => (refine Or.inl ⟨by kernel_rfl, ?_⟩; intro w' hS'; obtain ⟨z1, z2, z3, z4⟩ := CX w' hS'; go_simp; try with_reducible rfl)
              try simp only [Act.put, List.setIfInBounds_toArray, List.set_cons_zero, List.set_cons_succ]
              refine wpAnyH_take (i := 61) (oi := ?oia61) (v := ?va61) ?hia61 (by kernel_rfl) ?hfa61 ?hra61 ?hQa61 ?hya61 hh2 ?resta61
              case hia61 => (conv => (lhs; whnf; arg 1; whnf))
              case hfa61 => kernel_rfl
              case hra61 => kernel_rfl
              case hQa61 => exact fun _ _ _ h => h
              case hya61 => (refine Or.inl ⟨by kernel_rfl, ?_⟩; intro w' hS'; go_simp; try with_reducible rfl)
              try simp only [Act.put, List.setIfInBounds_toArray, List.set_cons_zero, List.set_cons_succ]
              refine wpAnyH_take (i := 62) (oi := ?oia62) (v := ?va62) ?hia62 (by kernel_rfl) ?hfa62 ?hra62 ?hQa62 ?hya62 hh2 ?resta62
              case hia62 => (conv => (lhs; whnf; arg 1; whnf))
              case hfa62 => kernel_rfl
              case hra62 => kernel_rfl
              case hQa62 => exact fun _ _ _ h => h
              case hya62 => (refine Or.inl ⟨by kernel_rfl, ?_⟩; intro w' hS'; go_simp; try with_reducible rfl)
              try simp only [Act.put, List.setIfInBounds_toArray, List.set_cons_zero, List.set_cons_succ]
              refine wpAnyH_take (i := 63) (oi := ?oia63) (v := ?va63) ?hia63 (by kernel_rfl) ?hfa63 ?hra63 ?hQa63 ?hya63 hh2 ?resta63
              case hia63 => (conv => (lhs; whnf; arg 1; whnf))
              case hfa63 => kernel_rfl
              case hra63 => kernel_rfl
              case hQa63 => exact fun _ _ _ h => h
              case hya63 => (refine Or.inl ⟨by kernel_rfl, ?_⟩; intro w' hS'; go_simp; try with_reducible rfl)
              try simp only [Act.put, List.setIfInBounds_toArray, List.set_cons_zero, List.set_cons_succ]
              refine wpAnyH_take (i := 64) (oi := ?oia64) (v := ?va64) ?hia64 (by kernel_rfl) ?hfa64 ?hra64 ?hQa64 ?hya64 hh2 ?resta64
              case hia64 => (conv => (lhs; whnf; arg 1; whnf))
              case hfa64 => kernel_rfl
              case hra64 => kernel_rfl
              case hQa64 => exact fun _ _ _ h => h
              case hya64 => (refine Or.inl ⟨by kernel_rfl, ?_⟩; intro w' hS'; go_simp; try with_reducible rfl)
              try simp only [Act.put, List.setIfInBounds_toArray, List.set_cons_zero, List.set_cons_succ]
              refine wpAnyH_take (i := 65) (oi := ?oia65) (v := ?va65) ?hia65 (by kernel_rfl) ?hfa65 ?hra65 ?hQa65 ?hya65 hh2 ?resta65
              case hia65 => (conv => (lhs; whnf; arg 1; whnf))
              case hfa65 => kernel_rfl
              case hra65 => kernel_rfl
              case hQa65 => exact fun _ _ _ h => h
              case hya65 => (refine Or.inl ⟨by kernel_rfl, ?_⟩; intro w' hS'; go_simp; try with_reducible rfl)
              try simp only [Act.put, List.setIfInBounds_toArray, List.set_cons_zero, List.set_cons_succ]
              refine wpAnyH_done (by kernel_rfl) ?_ _
              simp only [Exit.then]
              apply_assumption
              refine Met.intro ?_
              apply_assumption
              (repeat apply Exists.intro)
              refine ⟨⟨?_, hh2⟩, rfl⟩
              first | rfl | exact congrArg Value.bool (decide_eq_false (by clear hwp e0; omega))
            · have hs0 := hlz
              rw [hs] at HSM
              clear hs hsm hT
              generalize ls.getD (o (ip + 1)) [] = lx at *
              generalize ls.getD (o ip) [] = ly at *
              dsimp only [List.append]
              refine wp_region_held (S := fun w' => Below wr.heap.size wr w') (by kernel_rfl) ?_
              have hh0 : Below wr.heap.size wr wr.drew := bdrew (Below.refl _ _)
              change wpAnyH _ _ _ _ _ _ _ _ wr.drew
              generalize wr.drew = wx0 at *
              refine wpAnyH_take (i := 0) (oi := ?oi0) (v := ?v0) ?hi0 (by kernel_rfl) ?hf0 ?hr0 ?hQ0 ?hy0 hh0 ?rest0
              case hi0 => (conv => (lhs; whnf; arg 1; whnf))
              case hf0 => kernel_rfl
              case hr0 => kernel_rfl
              case hQ0 => exact fun _ _ _ h => h
              case hy0 => (refine Or.inl ⟨by kernel_rfl, ?_⟩; intro w' hS'; go_simp; try with_reducible rfl)
              try simp only [Act.put, List.setIfInBounds_toArray, List.set_cons_zero, List.set_cons_succ]
              refine wpAnyH_take (i := 1) (oi := ?oi1) (v := ?v1) ?hi1 (by kernel_rfl) ?hf1 ?hr1 ?hQ1 ?hy1 hh0 ?rest1
              case hi1 => (conv => (lhs; whnf; arg 1; whnf))
              case hf1 => kernel_rfl
              case hr1 => kernel_rfl
              case hQ1 => exact fun _ _ _ h => h
              case hy1 => (refine Or.inl ⟨by kernel_rfl, ?_⟩; intro w' hS'; go_simp; try with_reducible rfl)
              try simp only [Act.put, List.setIfInBounds_toArray, List.set_cons_zero, List.set_cons_succ]
              refine wpAnyH_take (i := 2) (oi := ?oi2) (v := ?v2) ?hi2 (by kernel_rfl) ?hf2 ?hr2 ?hQ2 ?hy2 hh0 ?rest2
              case hi2 => (conv => (lhs; whnf; arg 1; whnf))
              case hf2 => kernel_rfl
              case hr2 => kernel_rfl
              case hQ2 => exact fun _ _ _ h => h
              case hy2 => (refine Or.inl ⟨by kernel_rfl, ?_⟩; intro w' hS'; go_simp; try with_reducible rfl)
              try simp only [Act.put, List.setIfInBounds_toArray, List.set_cons_zero, List.set_cons_succ]
              refine wpAnyH_take (i := 3) (oi := ?oi3) (v := ?v3) ?hi3 (by kernel_rfl) ?hf3 ?hr3 ?hQ3 ?hy3 hh0 ?rest3
              case hi3 => (conv => (lhs; whnf; arg 1; whnf))
              case hf3 => kernel_rfl
              case hr3 => kernel_rfl
              case hQ3 => exact fun _ _ _ h => h
              case hy3 => (refine Or.inl ⟨by kernel_rfl, ?_⟩; intro w' hS'; obtain ⟨z1, z2, z3, z4⟩ := CX w' hS'; go_simp; try with_reducible rfl)
              try simp only [Act.put, List.setIfInBounds_toArray, List.set_cons_zero, List.set_cons_succ]
              refine wpAnyH_take (i := 4) (oi := ?oi4) (v := ?v4) ?hi4 (by kernel_rfl) ?hf4 ?hr4 ?hQ4 ?hy4 hh0 ?rest4
              case hi4 => (conv => (lhs; whnf; arg 1; whnf))
              case hf4 => kernel_rfl
              case hr4 => kernel_rfl
              case hQ4 => exact fun _ _ _ h => h
              case hy4 => (refine Or.inl ⟨by kernel_rfl, ?_⟩; intro w' hS'; go_simp; try with_reducible rfl)
              try simp only [Act.put, List.setIfInBounds_toArray, List.set_cons_zero, List.set_cons_succ]
              refine wpAnyH_take (i := 5) (oi := ?oi5) (v := ?v5) ?hi5 (by kernel_rfl) ?hf5 ?hr5 ?hQ5 ?hy5 hh0 ?rest5
              case hi5 => (conv => (lhs; whnf; arg 1; whnf))
              case hf5 => kernel_rfl
              case hr5 => kernel_rfl
              case hQ5 => exact fun _ _ _ h => h
              case hy5 => (refine Or.inl ⟨by kernel_rfl, ?_⟩; intro w' hS'; go_simp; try with_reducible rfl)
              try simp only [Act.put, List.setIfInBounds_toArray, List.set_cons_zero, List.set_cons_succ]
              refine wpAnyH_take (i := 6) (oi := ?oi6) (v := ?v6) ?hi6 (by kernel_rfl) ?hf6 ?hr6 ?hQ6 ?hy6 hh0 ?rest6
              case hi6 => (conv => (lhs; whnf; arg 1; whnf))
              case hf6 => kernel_rfl
              case hr6 => kernel_rfl
              case hQ6 => exact fun _ _ _ h => h
              case hy6 => (refine Or.inl ⟨by kernel_rfl, ?_⟩; intro w' hS'; go_simp; try with_reducible rfl)
              try simp only [Act.put, List.setIfInBounds_toArray, List.set_cons_zero, List.set_cons_succ]
              refine wpAnyH_take (i := 7) (oi := ?oi7) (v := ?v7) ?hi7 (by kernel_rfl) ?hf7 ?hr7 ?hQ7 ?hy7 hh0 ?rest7
              case hi7 => (conv => (lhs; whnf; arg 1; whnf))
              case hf7 => kernel_rfl
              case hr7 => kernel_rfl
              case hQ7 => exact fun _ _ _ h => h
              case hy7 => (refine Or.inl ⟨by kernel_rfl, ?_⟩; intro w' hS'; go_simp; try with_reducible rfl)
              try simp only [Act.put, List.setIfInBounds_toArray, List.set_cons_zero, List.set_cons_succ]
              refine wpAnyH_take (i := 8) (oi := ?oi8) (v := ?v8) ?hi8 (by kernel_rfl) ?hf8 ?hr8 ?hQ8 ?hy8 hh0 ?rest8
              case hi8 => (conv => (lhs; whnf; arg 1; whnf))
              case hf8 => kernel_rfl
              case hr8 => kernel_rfl
              case hQ8 => exact fun _ _ _ h => h
              case hy8 => (refine Or.inl ⟨by kernel_rfl, ?_⟩; intro w' hS'; go_simp; try with_reducible rfl)
              try simp only [Act.put, List.setIfInBounds_toArray, List.set_cons_zero, List.set_cons_succ]
              refine wpAnyH_take (i := 9) (oi := ?oi9) (v := ?v9) ?hi9 (by kernel_rfl) ?hf9 ?hr9 ?hQ9 ?hy9 hh0 ?rest9
              case hi9 => (conv => (lhs; whnf; arg 1; whnf))
              case hf9 => kernel_rfl
              case hr9 => kernel_rfl
              case hQ9 => exact fun _ _ _ h => h
              case hy9 => (refine Or.inl ⟨by kernel_rfl, ?_⟩; intro w' hS'; obtain ⟨z1, z2, z3, z4⟩ := CX w' hS'; go_simp; try with_reducible rfl)
              try simp only [Act.put, List.setIfInBounds_toArray, List.set_cons_zero, List.set_cons_succ]
              refine wpAnyH_take (i := 10) (oi := ?oi10) (v := ?v10) ?hi10 (by kernel_rfl) ?hf10 ?hr10 ?hQ10 ?hy10 hh0 ?rest10
              case hi10 => (conv => (lhs; whnf; arg 1; whnf))
              case hf10 => kernel_rfl
              case hr10 => kernel_rfl
              case hQ10 => exact fun _ _ _ h => h
              case hy10 => (refine Or.inl ⟨by kernel_rfl, ?_⟩; intro w' hS'; go_simp; try with_reducible rfl)
              try simp only [Act.put, List.setIfInBounds_toArray, List.set_cons_zero, List.set_cons_succ]
              refine wpAnyH_take (i := 11) (oi := ?oi11) (v := ?v11) ?hi11 (by kernel_rfl) ?hf11 ?hr11 ?hQ11 ?hy11 hh0 ?rest11
              case hi11 => (conv => (lhs; whnf; arg 1; whnf))
              case hf11 => kernel_rfl
              case hr11 => kernel_rfl
              case hQ11 => exact fun _ _ _ h => h
              case hy11 => (refine Or.inl ⟨by kernel_rfl, ?_⟩; intro w' hS'; go_simp; try with_reducible rfl)
              try simp only [Act.put, List.setIfInBounds_toArray, List.set_cons_zero, List.set_cons_succ]
              refine wpAnyH_take (i := 12) (oi := ?oi12) (v := ?v12) ?hi12 (by kernel_rfl) ?hf12 ?hr12 ?hQ12 ?hy12 hh0 ?rest12
              case hi12 => (conv => (lhs; whnf; arg 1; whnf))
              case hf12 => kernel_rfl
              case hr12 => kernel_rfl
              case hQ12 => exact fun _ _ _ h => h
              case hy12 => (refine Or.inl ⟨by kernel_rfl, ?_⟩; intro w' hS'; go_simp; try with_reducible rfl)
              try simp only [Act.put, List.setIfInBounds_toArray, List.set_cons_zero, List.set_cons_succ]
              refine wpAnyH_take (i := 13) (oi := ?oi13) (v := ?v13) ?hi13 (by kernel_rfl) ?hf13 ?hr13 ?hQ13 ?hy13 hh0 ?rest13
              case hi13 => (conv => (lhs; whnf; arg 1; whnf))
              case hf13 => kernel_rfl
              case hr13 => kernel_rfl
              case hQ13 => exact fun _ _ _ h => h
              case hy13 => (refine Or.inl ⟨by kernel_rfl, ?_⟩; intro w' hS'; go_simp; try with_reducible rfl)
              try simp only [Act.put, List.setIfInBounds_toArray, List.set_cons_zero, List.set_cons_succ]
              refine wpAnyH_take (i := 14) (oi := ?oi14) (v := ?v14) ?hi14 (by kernel_rfl) ?hf14 ?hr14 ?hQ14 ?hy14 hh0 ?rest14
              case hi14 => (conv => (lhs; whnf; arg 1; whnf))
              case hf14 => kernel_rfl
              case hr14 => kernel_rfl
              case hQ14 => exact fun _ _ _ h => h
              case hy14 => (refine Or.inl ⟨by kernel_rfl, ?_⟩; intro w' hS'; go_simp; try with_reducible rfl)
              try simp only [Act.put, List.setIfInBounds_toArray, List.set_cons_zero, List.set_cons_succ]
              refine wpAnyH_take (i := 15) (oi := ?oi15) (v := ?v15) ?hi15 (by kernel_rfl) ?hf15 ?hr15 ?hQ15 ?hy15 hh0 ?rest15
              case hi15 => (conv => (lhs; whnf; arg 1; whnf))
              case hf15 => kernel_rfl
              case hr15 => kernel_rfl
              case hQ15 => exact fun _ _ _ h => h
              case hy15 => (refine Or.inl ⟨by kernel_rfl, ?_⟩; intro w' hS'; go_simp; try with_reducible rfl)
              try simp only [Act.put, List.setIfInBounds_toArray, List.set_cons_zero, List.set_cons_succ]
              refine wpAnyH_take (i := 16) (oi := ?oi16) (v := ?v16) ?hi16 (by kernel_rfl) ?hf16 ?hr16 ?hQ16 ?hy16 hh0 ?rest16
              case hi16 => (conv => (lhs; whnf; arg 1; whnf))
              case hf16 => kernel_rfl
              case hr16 => kernel_rfl
              case hQ16 => exact fun _ _ _ h => h
              case hy16 => (refine Or.inl ⟨by kernel_rfl, ?_⟩; intro w' hS'; go_simp; try with_reducible rfl)
              try simp only [Act.put, List.setIfInBounds_toArray, List.set_cons_zero, List.set_cons_succ]
              refine wpAnyH_take (i := 17) (oi := ?oi17) (v := ?v17) ?hi17 (by kernel_rfl) ?hf17 ?hr17 ?hQ17 ?hy17 hh0 ?rest17
              case hi17 => (conv => (lhs; whnf; arg 1; whnf))
              case hf17 => kernel_rfl
              case hr17 => kernel_rfl
              case hQ17 => exact fun _ _ _ h => h
              case hy17 => (refine Or.inl ⟨by kernel_rfl, ?_⟩; intro w' hS'; go_simp; try with_reducible rfl)
              try simp only [Act.put, List.setIfInBounds_toArray, List.set_cons_zero, List.set_cons_succ]
              refine wpAnyH_take (i := 18) (oi := ?oi18) (v := ?v18) ?hi18 (by kernel_rfl) ?hf18 ?hr18 ?hQ18 ?hy18 hh0 ?rest18
              case hi18 => (conv => (lhs; whnf; arg 1; whnf))
              case hf18 => kernel_rfl
              case hr18 => kernel_rfl
              case hQ18 => exact fun _ _ _ h => h
              case hy18 => (refine Or.inl ⟨by kernel_rfl, ?_⟩; intro w' hS'; go_simp; try with_reducible rfl)
              try simp only [Act.put, List.setIfInBounds_toArray, List.set_cons_zero, List.set_cons_succ]
              refine wpAnyH_take (i := 19) (oi := ?oi19) (v := ?v19) ?hi19 (by kernel_rfl) ?hf19 ?hr19 ?hQ19 ?hy19 hh0 ?rest19
              case hi19 => (conv => (lhs; whnf; arg 1; whnf))
              case hf19 => kernel_rfl
              case hr19 => kernel_rfl
              case hQ19 => exact fun _ _ _ h => h
              case hy19 => (refine Or.inl ⟨by kernel_rfl, ?_⟩; intro w' hS'; go_simp; try with_reducible rfl)
              try simp only [Act.put, List.setIfInBounds_toArray, List.set_cons_zero, List.set_cons_succ]
              refine wpAnyH_take (i := 20) (oi := ?oi20) (v := ?v20) ?hi20 (by kernel_rfl) ?hf20 ?hr20 ?hQ20 ?hy20 hh0 ?rest20
              case hi20 => (conv => (lhs; whnf; arg 1; whnf))
              case hf20 => kernel_rfl
              case hr20 => kernel_rfl
              case hQ20 => exact fun _ _ _ h => h
              case hy20 => (refine Or.inl ⟨by kernel_rfl, ?_⟩; intro w' hS'; go_simp; try with_reducible rfl)
              try simp only [Act.put, List.setIfInBounds_toArray, List.set_cons_zero, List.set_cons_succ]
              refine wpAnyH_take (i := 21) (oi := ?oi21) (v := ?v21) ?hi21 (by kernel_rfl) ?hf21 ?hr21 ?hQ21 ?hy21 hh0 ?rest21
              case hi21 => (conv => (lhs; whnf; arg 1; whnf))
              case hf21 => kernel_rfl
              case hr21 => kernel_rfl
              case hQ21 => exact fun _ _ _ h => h
              case hy21 => (refine Or.inl ⟨by kernel_rfl, ?_⟩; intro w' hS'; go_simp; try with_reducible rfl)
              try simp only [Act.put, List.setIfInBounds_toArray, List.set_cons_zero, List.set_cons_succ]
              refine wpAnyH_take (i := 22) (oi := ?oi22) (v := ?v22) ?hi22 (by kernel_rfl) ?hf22 ?hr22 ?hQ22 ?hy22 hh0 ?rest22
              case hi22 => (conv => (lhs; whnf; arg 1; whnf))
              case hf22 => kernel_rfl
              case hr22 => kernel_rfl
              case hQ22 => exact fun _ _ _ h => h
              case hy22 => (refine Or.inl ⟨by kernel_rfl, ?_⟩; intro w' hS'; obtain ⟨z1, z2, z3, z4⟩ := CX w' hS'; go_simp; try with_reducible rfl)
              try simp only [Act.put, List.setIfInBounds_toArray, List.set_cons_zero, List.set_cons_succ]
              refine wpAnyH_take (i := 23) (oi := ?oi23) (v := ?v23) ?hi23 (by kernel_rfl) ?hf23 ?hr23 ?hQ23 ?hy23 hh0 ?rest23
              case hi23 => (conv => (lhs; whnf; arg 1; whnf))
              case hf23 => kernel_rfl
              case hr23 => kernel_rfl
              case hQ23 => exact fun _ _ _ h => h
              case hy23 => (refine Or.inl ⟨by kernel_rfl, ?_⟩; intro w' hS'; go_simp; try with_reducible rfl)
              try simp only [Act.put, List.setIfInBounds_toArray, List.set_cons_zero, List.set_cons_succ]
              refine wpAnyH_take (i := 24) (oi := ?oi24) (v := ?v24) ?hi24 (by kernel_rfl) ?hf24 ?hr24 ?hQ24 ?hy24 hh0 ?rest24
              case hi24 => (conv => (lhs; whnf; arg 1; whnf))
              case hf24 => kernel_rfl
              case hr24 => kernel_rfl
              case hQ24 => exact fun _ _ _ h => h
              case hy24 => (refine Or.inl ⟨by kernel_rfl, ?_⟩; intro w' hS'; obtain ⟨z1, z2, z3, z4⟩ := CX w' hS'; go_simp; try with_reducible rfl)
              try simp only [Act.put, List.setIfInBounds_toArray, List.set_cons_zero, List.set_cons_succ]
              refine wpAnyH_take (i := 25) (oi := ?oi25) (v := ?v25) ?hi25 (by kernel_rfl) ?hf25 ?hr25 ?hQ25 ?hy25 hh0 ?rest25
              case hi25 => (conv => (lhs; whnf; arg 1; whnf))
              case hf25 => kernel_rfl
              case hr25 => kernel_rfl
              case hQ25 => exact fun _ _ _ h => h
              case hy25 => (refine Or.inl ⟨by kernel_rfl, ?_⟩; intro w' hS'; go_simp; try with_reducible rfl)
              try simp only [Act.put, List.setIfInBounds_toArray, List.set_cons_zero, List.set_cons_succ]
              refine wpAnyH_take (i := 26) (oi := ?oi26) (v := ?v26) ?hi26 (by kernel_rfl) ?hf26 ?hr26 ?hQ26 ?hy26 hh0 ?rest26
              case hi26 => (conv => (lhs; whnf; arg 1; whnf))
              case hf26 => kernel_rfl
              case hr26 => kernel_rfl
              case hQ26 => exact fun _ _ _ h => h
              case hy26 => (refine Or.inl ⟨by kernel_rfl, ?_⟩; intro w' hS'; go_simp; try with_reducible rfl)
              try simp only [Act.put, List.setIfInBounds_toArray, List.set_cons_zero, List.set_cons_succ]
              refine wpAnyH_take (i := 27) (oi := ?oi27) (v := ?v27) ?hi27 (by kernel_rfl) ?hf27 ?hr27 ?hQ27 ?hy27 hh0 ?rest27
              case hi27 => (conv => (lhs; whnf; arg 1; whnf))
              case hf27 => kernel_rfl
              case hr27 => kernel_rfl
              case hQ27 => exact fun _ _ _ h => h
              case hy27 => (refine Or.inl ⟨by kernel_rfl, ?_⟩; intro w' hS'; go_simp; try with_reducible rfl)
              try simp only [Act.put, List.setIfInBounds_toArray, List.set_cons_zero, List.set_cons_succ]
              refine wpAnyH_take (i := 28) (oi := ?oi28) (v := ?v28) ?hi28 (by kernel_rfl) ?hf28 ?hr28 ?hQ28 ?hy28 hh0 ?rest28
              case hi28 => (conv => (lhs; whnf; arg 1; whnf))
              case hf28 => kernel_rfl
              case hr28 => kernel_rfl
              case hQ28 => exact fun _ _ _ h => h
              case hy28 => (refine Or.inl ⟨by kernel_rfl, ?_⟩; intro w' hS'; go_simp; try with_reducible rfl)
              try simp only [Act.put, List.setIfInBounds_toArray, List.set_cons_zero, List.set_cons_succ]
              refine wpAnyH_take (i := 29) (oi := ?oi29) (v := ?v29) ?hi29 (by kernel_rfl) ?hf29 ?hr29 ?hQ29 ?hy29 hh0 ?rest29
              case hi29 => (conv => (lhs; whnf; arg 1; whnf))
              case hf29 => kernel_rfl
              case hr29 => kernel_rfl
              case hQ29 => exact fun _ _ _ h => h
              case hy29 => (refine Or.inl ⟨by kernel_rfl, ?_⟩; intro w' hS'; go_simp; try with_reducible rfl)
              try simp only [Act.put, List.setIfInBounds_toArray, List.set_cons_zero, List.set_cons_succ]
              refine wpAnyH_take (i := 30) (oi := ?oi30) (v := ?v30) ?hi30 (by kernel_rfl) ?hf30 ?hr30 ?hQ30 ?hy30 hh0 ?rest30
              case hi30 => (conv => (lhs; whnf; arg 1; whnf))
              case hf30 => kernel_rfl
              case hr30 => kernel_rfl
              case hQ30 => exact fun _ _ _ h => h
              case hy30 => (refine Or.inl ⟨by kernel_rfl, ?_⟩; intro w' hS'; obtain ⟨z1, z2, z3, z4⟩ := CX w' hS'; go_simp; try with_reducible rfl)
              try simp only [Act.put, List.setIfInBounds_toArray, List.set_cons_zero, List.set_cons_succ]
              refine wpAnyH_take (i := 31) (oi := ?oi31) (v := ?v31) ?hi31 (by kernel_rfl) ?hf31 ?hr31 ?hQ31 ?hy31 hh0 ?rest31
              case hi31 => (conv => (lhs; whnf; arg 1; whnf))
              case hf31 => kernel_rfl
              case hr31 => kernel_rfl
              case hQ31 => exact fun _ _ _ h => h
              case hy31 => (refine Or.inl ⟨by kernel_rfl, ?_⟩; intro w' hS'; go_simp; try with_reducible rfl)
              try simp only [Act.put, List.setIfInBounds_toArray, List.set_cons_zero, List.set_cons_succ]
              refine wpAnyH_take (i := 32) (oi := ?oi32) (v := ?v32) ?hi32 (by kernel_rfl) ?hf32 ?hr32 ?hQ32 ?hy32 hh0 ?rest32
              case hi32 => (conv => (lhs; whnf; arg 1; whnf))
              case hf32 => kernel_rfl
              case hr32 => kernel_rfl
              case hQ32 => exact fun _ _ _ h => h
              case hy32 => (refine Or.inl ⟨by kernel_rfl, ?_⟩; intro w' hS'; obtain ⟨z1, z2, z3, z4⟩ := CX w' hS'; go_simp; try with_reducible rfl)
              try simp only [Act.put, List.setIfInBounds_toArray, List.set_cons_zero, List.set_cons_succ]
              refine wpAnyH_ready (rs := [33]) (by kernel_rfl) (by simp) ?_
              refine AllReadyH.cons (o := ?o33) ?ho33 ?step33 AllReadyH.nil
              case ho33 => (conv => (lhs; whnf; arg 1; whnf))
              intro K hK
              go_simp
              refine (HBF.out _ hh0).mono ?_
              rintro e wx1 ⟨rfl, hbb1⟩
              have hh1 := bthen hh0 hbb1
              refine hK.out _ _ hh1 (fun _ => ?_)
              clear hK
              try simp only [Act.put, List.setIfInBounds_toArray, List.set_cons_zero, List.set_cons_succ]
              refine wpAnyH_take (i := 34) (oi := ?oi34) (v := ?v34) ?hi34 (by kernel_rfl) ?hf34 ?hr34 ?hQ34 ?hy34 hh1 ?rest34
              case hi34 => (conv => (lhs; whnf; arg 1; whnf))
              case hf34 => kernel_rfl
              case hr34 => kernel_rfl
              case hQ34 => exact fun _ _ _ h => h
              case hy34 => (refine Or.inl ⟨by kernel_rfl, ?_⟩; intro w' hS'; go_simp; try with_reducible rfl)
              try simp only [Act.put, List.setIfInBounds_toArray, List.set_cons_zero, List.set_cons_succ]
              refine wpAnyH_take (i := 35) (oi := ?oi35) (v := ?v35) ?hi35 (by kernel_rfl) ?hf35 ?hr35 ?hQ35 ?hy35 hh1 ?rest35
              case hi35 => (conv => (lhs; whnf; arg 1; whnf))
              case hf35 => kernel_rfl
              case hr35 => kernel_rfl
              case hQ35 => exact fun _ _ _ h => h
              case hy35 => (refine Or.inl ⟨by kernel_rfl, ?_⟩; intro w' hS'; go_simp; try with_reducible rfl)
              try simp only [Act.put, List.setIfInBounds_toArray, List.set_cons_zero, List.set_cons_succ]
              refine wpAnyH_take (i := 36) (oi := ?oi36) (v := ?v36) ?hi36 (by kernel_rfl) ?hf36 ?hr36 ?hQ36 ?hy36 hh1 ?rest36
              case hi36 => (conv => (lhs; whnf; arg 1; whnf))
              case hf36 => kernel_rfl
              case hr36 => kernel_rfl
              case hQ36 => exact fun _ _ _ h => h
              case hy36 => (refine Or.inl ⟨by kernel_rfl, ?_⟩; intro w' hS'; go_simp; try with_reducible rfl)
              try simp only [Act.put, List.setIfInBounds_toArray, List.set_cons_zero, List.set_cons_succ]
              refine wpAnyH_take (i := 37) (oi := ?oi37) (v := ?v37) ?hi37 (by kernel_rfl) ?hf37 ?hr37 ?hQ37 ?hy37 hh1 ?rest37
              case hi37 => (conv => (lhs; whnf; arg 1; whnf))
              case hf37 => kernel_rfl
              case hr37 => kernel_rfl
              case hQ37 => exact fun _ _ _ h => h
              case hy37 => (refine Or.inl ⟨by kernel_rfl, ?_⟩; intro w' hS'; go_simp; try with_reducible rfl)
              try simp only [Act.put, List.setIfInBounds_toArray, List.set_cons_zero, List.set_cons_succ]
              refine wpAnyH_take (i := 38) (oi := ?oi38) (v := ?v38) ?hi38 (by kernel_rfl) ?hf38 ?hr38 ?hQ38 ?hy38 hh1 ?rest38
              case hi38 => (conv => (lhs; whnf; arg 1; whnf))
              case hf38 => kernel_rfl
              case hr38 => kernel_rfl
              case hQ38 => exact fun _ _ _ h => h
              case hy38 => (refine Or.inl ⟨by kernel_rfl, ?_⟩; intro w' hS'; go_simp; try with_reducible rfl)
              try simp only [Act.put, List.setIfInBounds_toArray, List.set_cons_zero, List.set_cons_succ]
              refine wpAnyH_take (i := 39) (oi := ?oi39) (v := ?v39) ?hi39 (by kernel_rfl) ?hf39 ?hr39 ?hQ39 ?hy39 hh1 ?rest39
              case hi39 => (conv => (lhs; whnf; arg 1; whnf))
              case hf39 => kernel_rfl
              case hr39 => kernel_rfl
              case hQ39 => exact fun _ _ _ h => h
              case hy39 => (refine Or.inl ⟨by kernel_rfl, ?_⟩; intro w' hS'; obtain ⟨z1, z2, z3, z4⟩ := CX w' hS'; go_simp; try with_reducible rfl)
              try simp only [Act.put, List.setIfInBounds_toArray, List.set_cons_zero, List.set_cons_succ]
              refine wpAnyH_take (i := 40) (oi := ?oi40) (v := ?v40) ?hi40 (by kernel_rfl) ?hf40 ?hr40 ?hQ40 ?hy40 hh1 ?rest40
              case hi40 => (conv => (lhs; whnf; arg 1; whnf))
              case hf40 => kernel_rfl
              case hr40 => kernel_rfl
              case hQ40 => exact fun _ _ _ h => h
              case hy40 => (refine Or.inl ⟨by kernel_rfl, ?_⟩; intro w' hS'; go_simp; try with_reducible rfl)
              try simp only [Act.put, List.setIfInBounds_toArray, List.set_cons_zero, List.set_cons_succ]
              refine wpAnyH_take (i := 41) (oi := ?oi41) (v := ?v41) ?hi41 (by kernel_rfl) ?hf41 ?hr41 ?hQ41 ?hy41 hh1 ?rest41
              case hi41 => (conv => (lhs; whnf; arg 1; whnf))
              case hf41 => kernel_rfl
              case hr41 => kernel_rfl
              case hQ41 => exact fun _ _ _ h => h
              case hy41 => (refine Or.inl ⟨by kernel_rfl, ?_⟩; intro w' hS'; obtain ⟨z1, z2, z3, z4⟩ := CX w' hS'; go_simp; try with_reducible rfl)
              try simp only [Act.put, List.setIfInBounds_toArray, List.set_cons_zero, List.set_cons_succ]
              refine wpAnyH_take (i := 42) (oi := ?oi42) (v := ?v42) ?hi42 (by kernel_rfl) ?hf42 ?hr42 ?hQ42 ?hy42 hh1 ?rest42
              case hi42 => (conv => (lhs; whnf; arg 1; whnf))
              case hf42 => kernel_rfl
              case hr42 => kernel_rfl
              case hQ42 => exact fun _ _ _ h => h
              case hy42 => (refine Or.inl ⟨by kernel_rfl, ?_⟩; intro w' hS'; go_simp; try with_reducible rfl)
              try simp only [Act.put, List.setIfInBounds_toArray, List.set_cons_zero, List.set_cons_succ]
              refine wpAnyH_take (i := 43) (oi := ?oi43) (v := ?v43) ?hi43 (by kernel_rfl) ?hf43 ?hr43 ?hQ43 ?hy43 hh1 ?rest43
              case hi43 => (conv => (lhs; whnf; arg 1; whnf))
              case hf43 => kernel_rfl
              case hr43 => kernel_rfl
              case hQ43 => exact fun _ _ _ h => h
              case hy43 => (refine Or.inl ⟨by kernel_rfl, ?_⟩; intro w' hS'; go_simp; try with_reducible rfl)
              try simp only [Act.put, List.setIfInBounds_toArray, List.set_cons_zero, List.set_cons_succ]
              refine wpAnyH_take (i := 44) (oi := ?oi44) (v := ?v44) ?hi44 (by kernel_rfl) ?hf44 ?hr44 ?hQ44 ?hy44 hh1 ?rest44
              case hi44 => (conv => (lhs; whnf; arg 1; whnf))
              case hf44 => kernel_rfl
              case hr44 => kernel_rfl
              case hQ44 => exact fun _ _ _ h => h
              case hy44 => (refine Or.inl ⟨by kernel_rfl, ?_⟩; intro w' hS'; go_simp; try with_reducible rfl)
              try simp only [Act.put, List.setIfInBounds_toArray, List.set_cons_zero, List.set_cons_succ]
              refine wpAnyH_take (i := 45) (oi := ?oi45) (v := ?v45) ?hi45 (by kernel_rfl) ?hf45 ?hr45 ?hQ45 ?hy45 hh1 ?rest45
              case hi45 => (conv => (lhs; whnf; arg 1; whnf))
              case hf45 => kernel_rfl
              case hr45 => kernel_rfl
              case hQ45 => exact fun _ _ _ h => h
              case hy45 => (refine Or.inl ⟨by kernel_rfl, ?_⟩; intro w' hS'; go_simp; try with_reducible rfl)
              try simp only [Act.put, List.setIfInBounds_toArray, List.set_cons_zero, List.set_cons_succ]
              refine wpAnyH_take (i := 46) (oi := ?oi46) (v := ?v46) ?hi46 (by kernel_rfl) ?hf46 ?hr46 ?hQ46 ?hy46 hh1 ?rest46
              case hi46 => (conv => (lhs; whnf; arg 1; whnf))
              case hf46 => kernel_rfl
              case hr46 => kernel_rfl
              case hQ46 => exact fun _ _ _ h => h
              case hy46 => (refine Or.inl ⟨by kernel_rfl, ?_⟩; intro w' hS'; go_simp; try with_reducible rfl)
              try simp only [Act.put, List.setIfInBounds_toArray, List.set_cons_zero, List.set_cons_succ]
              refine wpAnyH_take (i := 47) (oi := ?oi47) (v := ?v47) ?hi47 (by kernel_rfl) ?hf47 ?hr47 ?hQ47 ?hy47 hh1 ?rest47
              case hi47 => (conv => (lhs; whnf; arg 1; whnf))
              case hf47 => kernel_rfl
              case hr47 => kernel_rfl
              case hQ47 => exact fun _ _ _ h => h
              case hy47 => (refine Or.inl ⟨by kernel_rfl, ?_⟩; intro w' hS'; obtain ⟨z1, z2, z3, z4⟩ := CX w' hS'; go_simp; try with_reducible rfl)
              try simp only [Act.put, List.setIfInBounds_toArray, List.set_cons_zero, List.set_cons_succ]
              refine wpAnyH_take (i := 48) (oi := ?oi48) (v := ?v48) ?hi48 (by kernel_rfl) ?hf48 ?hr48 ?hQ48 ?hy48 hh1 ?rest48
              case hi48 => (conv => (lhs; whnf; arg 1; whnf))
              case hf48 => kernel_rfl
              case hr48 => kernel_rfl
              case hQ48 => exact fun _ _ _ h => h
              case hy48 => (refine Or.inl ⟨by kernel_rfl, ?_⟩; intro w' hS'; go_simp; try with_reducible rfl)
              try simp only [Act.put, List.setIfInBounds_toArray, List.set_cons_zero, List.set_cons_succ]
              refine wpAnyH_take (i := 49) (oi := ?oi49) (v := ?v49) ?hi49 (by kernel_rfl) ?hf49 ?hr49 ?hQ49 ?hy49 hh1 ?rest49
              case hi49 => (conv => (lhs; whnf; arg 1; whnf))
              case hf49 => kernel_rfl
              case hr49 => kernel_rfl
              case hQ49 => exact fun _ _ _ h => h
              case hy49 => (refine Or.inl ⟨by kernel_rfl, ?_⟩; intro w' hS'; obtain ⟨z1, z2, z3, z4⟩ := CX w' hS'; go_simp; try with_reducible rfl)
              try simp only [Act.put, List.setIfInBounds_toArray, List.set_cons_zero, List.set_cons_succ]
              refine wpAnyH_ready (rs := [50]) (by kernel_rfl) (by simp) ?_
              refine AllReadyH.cons (o := ?o50) ?ho50 ?step50 AllReadyH.nil
              case ho50 => (conv => (lhs; whnf; arg 1; whnf))
              intro K hK
              go_simp
              refine (HSM.out _ hh1).mono ?_
              rintro e wx2 ⟨rfl, hbb2⟩
              have hh2 := bthen hh1 hbb2
              refine hK.out _ _ hh2 (fun _ => ?_)
              clear hK
              try simp only [Act.put, List.setIfInBounds_toArray, List.set_cons_zero, List.set_cons_succ]
              refine wpAnyH_take (i := 51) (oi := ?oi51) (v := ?v51) ?hi51 (by kernel_rfl) ?hf51 ?hr51 ?hQ51 ?hy51 hh2 ?rest51
              case hi51 => (conv => (lhs; whnf; arg 1; whnf))
              case hf51 => kernel_rfl
              case hr51 => kernel_rfl
              case hQ51 => exact fun _ _ _ h => h
              case hy51 => (refine Or.inl ⟨by kernel_rfl, ?_⟩; intro w' hS'; go_simp; try with_reducible rfl)
              try simp only [Act.put, List.setIfInBounds_toArray, List.set_cons_zero, List.set_cons_succ]
              refine wpAnyH_take (i := 52) (oi := ?oi52) (v := undef) ?hi52 (by kernel_rfl) ?hf52 ?hr52 ?hQ52 ?hy52 hh2 ?rest52
              case hi52 => (conv => (lhs; whnf; arg 1; whnf))
              case hf52 => kernel_rfl
              case hr52 => kernel_rfl
              case hQ52 => exact fun _ _ _ h => h
              case hy52 => exact Or.inr ⟨by kernel_rfl, rfl⟩
              try simp only [Act.put, List.setIfInBounds_toArray, List.set_cons_zero, List.set_cons_succ]
              refine wpAnyH_take (i := 53) (oi := ?oi53) (v := undef) ?hi53 (by kernel_rfl) ?hf53 ?hr53 ?hQ53 ?hy53 hh2 ?rest53
              case hi53 => (conv => (lhs; whnf; arg 1; whnf))
              case hf53 => kernel_rfl
              case hr53 => kernel_rfl
              case hQ53 => exact fun _ _ _ h => h
              case hy53 => exact Or.inr ⟨by kernel_rfl, rfl⟩
              try simp only [Act.put, List.setIfInBounds_toArray, List.set_cons_zero, List.set_cons_succ]
              refine wpAnyH_take (i := 54) (oi := ?oi54) (v := undef) ?hi54 (by kernel_rfl) ?hf54 ?hr54 ?hQ54 ?hy54 hh2 ?rest54
              case hi54 => (conv => (lhs; whnf; arg 1; whnf))
              case hf54 => kernel_rfl
              case hr54 => kernel_rfl
              case hQ54 => exact fun _ _ _ h => h
              case hy54 => exact Or.inr ⟨by kernel_rfl, rfl⟩
              try simp only [Act.put, List.setIfInBounds_toArray, List.set_cons_zero, List.set_cons_succ]
              refine wpAnyH_take (i := 55) (oi := ?oi55) (v := undef) ?hi55 (by kernel_rfl) ?hf55 ?hr55 ?hQ55 ?hy55 hh2 ?rest55
              case hi55 => (conv => (lhs; whnf; arg 1; whnf))
              case hf55 => kernel_rfl
              case hr55 => kernel_rfl
              case hQ55 => exact fun _ _ _ h => h
              case hy55 => exact Or.inr ⟨by kernel_rfl, rfl⟩
              try simp only [Act.put, List.setIfInBounds_toArray, List.set_cons_zero, List.set_cons_succ]
              refine wpAnyH_take (i := 56) (oi := ?oi56) (v := undef) ?hi56 (by kernel_rfl) ?hf56 ?hr56 ?hQ56 ?hy56 hh2 ?rest56
              case hi56 => (conv => (lhs; whnf; arg 1; whnf))
              case hf56 => kernel_rfl
              case hr56 => kernel_rfl
              case hQ56 => exact fun _ _ _ h => h
              case hy56 => exact Or.inr ⟨by kernel_rfl, rfl⟩
              try simp only [Act.put, List.setIfInBounds_toArray, List.set_cons_zero, List.set_cons_succ]
              refine wpAnyH_take (i := 57) (oi := ?oi57) (v := undef) ?hi57 (by kernel_rfl) ?hf57 ?hr57 ?hQ57 ?hy57 hh2 ?rest57
              case hi57 => (conv => (lhs; whnf; arg 1; whnf))
              case hf57 => kernel_rfl
              case hr57 => kernel_rfl
              case hQ57 => exact fun _ _ _ h => h
              case hy57 => exact Or.inr ⟨by kernel_rfl, rfl⟩
              try simp only [Act.put, List.setIfInBounds_toArray, List.set_cons_zero, List.set_cons_succ]
              refine wpAnyH_take (i := 58) (oi := ?oi58) (v := undef) ?hi58 (by kernel_rfl) ?hf58 ?hr58 ?hQ58 ?hy58 hh2 ?rest58
              case hi58 => (conv => (lhs; whnf; arg 1; whnf))
              case hf58 => kernel_rfl
              case hr58 => kernel_rfl
              case hQ58 => exact fun _ _ _ h => h
              case hy58 => exact Or.inr ⟨by kernel_rfl, rfl⟩
              try simp only [Act.put, List.setIfInBounds_toArray, List.set_cons_zero, List.set_cons_succ]
              refine wpAnyH_take (i := 59) (oi := ?oi59) (v := undef) ?hi59 (by kernel_rfl) ?hf59 ?hr59 ?hQ59 ?hy59 hh2 ?rest59
              case hi59 => (conv => (lhs; whnf; arg 1; whnf))
              case hf59 => kernel_rfl
              case hr59 => kernel_rfl
              case hQ59 => exact fun _ _ _ h => h
              case hy59 => exact Or.inr ⟨by kernel_rfl, rfl⟩
              try simp only [Act.put, List.setIfInBounds_toArray, List.set_cons_zero, List.set_cons_succ]
              refine wpAnyH_take (i := 60) (oi := ?oi60) (v := undef) ?hi60 (by kernel_rfl) ?hf60 ?hr60 ?hQ60 ?hy60 hh2 ?rest60
              case hi60 => (conv => (lhs; whnf; arg 1; whnf))
              case hf60 => kernel_rfl
              case hr60 => kernel_rfl
              case hQ60 => exact fun _ _ _ h => h
              case hy60 => exact Or.inr ⟨by kernel_rfl, rfl⟩
              try simp only [Act.put, List.setIfInBounds_toArray, List.set_cons_zero, List.set_cons_succ]
              refine wpAnyH_take (i := 61) (oi := ?oi61) (v := undef) ?hi61 (by kernel_rfl) ?hf61 ?hr61 ?hQ61 ?hy61 hh2 ?rest61
              case hi61 => (conv => (lhs; whnf; arg 1; whnf))
              case hf61 => kernel_rfl
              case hr61 => kernel_rfl
              case hQ61 => exact fun _ _ _ h => h
              case hy61 => exact Or.inr ⟨by kernel_rfl, rfl⟩
              try simp only [Act.put, List.setIfInBounds_toArray, List.set_cons_zero, List.set_cons_succ]
              refine wpAnyH_take (i := 62) (oi := ?oi62) (v := ?v62) ?hi62 (by kernel_rfl) ?hf62 ?hr62 ?hQ62 ?hy62 hh2 ?rest62
              case hi62 => (conv => (lhs; whnf; arg 1; whnf))
              case hf62 => kernel_rfl
              case hr62 => kernel_rfl
              case hQ62 => exact fun _ _ _ h => h
              case hy62 => (refine Or.inl ⟨by kernel_rfl, ?_⟩; intro w' hS'; go_simp; try with_reducible rfl)
              try simp only [Act.put, List.setIfInBounds_toArray, List.set_cons_zero, List.set_cons_succ]
              refine wpAnyH_take (i := 63) (oi := ?oi63) (v := ?v63) ?hi63 (by kernel_rfl) ?hf63 ?hr63 ?hQ63 ?hy63 hh2 ?rest63
              case hi63 => (conv => (lhs; whnf; arg 1; whnf))
              case hf63 => kernel_rfl
              case hr63 => kernel_rfl
              case hQ63 => exact fun _ _ _ h => h
              case hy63 => (refine Or.inl ⟨by kernel_rfl, ?_⟩; intro w' hS'; go_simp; try with_reducible rfl)
              try simp only [Act.put, List.setIfInBounds_toArray, List.set_cons_zero, List.set_cons_succ]
              refine wpAnyH_take (i := 64) (oi := ?oi64) (v := ?v64) ?hi64 (by kernel_rfl) ?hf64 ?hr64 ?hQ64 ?hy64 hh2 ?rest64
              case hi64 => (conv => (lhs; whnf; arg 1; whnf))
              case hf64 => kernel_rfl
              case hr64 => kernel_rfl
              case hQ64 => exact fun _ _ _ h => h
              case hy64 => (refine Or.inl ⟨by kernel_rfl, ?_⟩; intro w' hS'; go_simp; try with_reducible rfl)
              try simp only [Act.put, List.setIfInBounds_toArray, List.set_cons_zero, List.set_cons_succ]
              refine wpAnyH_take (i := 65) (oi := ?oi65) (v := ?v65) ?hi65 (by kernel_rfl) ?hf65 ?hr65 ?hQ65 ?hy65 hh2 ?rest65
              case hi65 => (conv => (lhs; whnf; arg 1; whnf))
              case hf65 => kernel_rfl
              case hr65 => kernel_rfl
              case hQ65 => exact fun _ _ _ h => h
              case hy65 => (refine Or.inl ⟨by kernel_rfl, ?_⟩; intro w' hS'; go_simp; try with_reducible rfl)
              try simp only [Act.put, List.setIfInBounds_toArray, List.set_cons_zero, List.set_cons_succ]
              refine wpAnyH_done (by kernel_rfl) ?_ _
              simp only [Exit.then]
              apply_assumption
              refine Met.intro ?_
              apply_assumption
              (repeat apply Exists.intro)
              refine ⟨⟨?_, hh2⟩, rfl⟩
              first | rfl | exact congrArg Value.bool (decide_eq_false (by clear hwp e0; omega))
        case rest =>
          obtain ⟨rfl, hbq⟩ := hcut
          have HBQ : Hid (Below w3.heap.size w3 wc) := Lib.hid (bthen HBR.out hbq)
          clear hrc hwc wx rx cx
          go_wp2_with fail
          go_loopw [5] (fun v wz => ∃ k : Nat, v = .int .i64 k ∧ k ≤ i ∧ Hid (Below w3.heap.size w3 wz)) (fun v _ => i - (intOf v).toNat)
          case atStart => exact ⟨0, rfl, by omega, HBQ⟩
          case round =>
            obtain ⟨k, rfl, hki, HBK⟩ := hrel
            by_cases hk : k < i
            · have hrk := (HR3.out.below HBK.out) (by rw [ordL_len]; omega)
              obtain ⟨ad2, he2, hrc2⟩ := hrk
              injection he2 with he2
              subst he2
              have ck := hrc2 k (by rw [ordL_len]; omega)
              have ci := hrc2 i (by rw [ordL_len]; omega)
              rw [ordL_at _ _ _ (by omega)] at ck ci
              have hT := HS2.out k i (Nat.zero_le _) hk hlt
              have hne : ¬ o k = o i := fun e => TT.irr (weak_ways ls) (e ▸ hT)
              have hne2 : ((o k : Int) == (o i : Int)) = false := by simp; omega
              have hk0 : (0 : Int) ≤ (k : Int) := by omega
              have hk1 : (k : Int) < (ls.length : Int) := by omega
              have hk2 : (k : Int) < (i : Int) := by omega
              clear hrc2 hT hne
              go_wp2_with fail
              go_quiet (fail)
              go_wp2_with fail
              go_roundw
              case rel => exact ⟨k + 1, by go_num, by omega, by (show Below _ _ _); (repeat (first | exact HBK.out | (refine bdrewN ?_ _) | (refine bdrew ?_)))⟩
              case measure => simp [intOf]; omega
            · obtain rfl : k = i := by omega
              go_wp2_with fail
              go_roundw
              case rel => exact ⟨k + 1, by go_num, by omega, HBK⟩
              case measure => simp [intOf]; omega
      · obtain rfl : i = ls.length := by omega
        go_wp2_with fail
        go_ret
        exact ⟨rfl, bthen HB3.out HBR.out⟩
  · rw [hf] at HF
    go_enter Try.func5, Try.ntmps5
    go_wp2_with fail
    refine HF.out.mono ?_
    rintro e w1 ⟨rfl, rfl⟩
    go_wp2_with fail
    refine (awake_any _).mono ?_
    rintro e w2 ⟨rfl, hb2⟩
    go_wp2_with fail
    go_ret
    exact ⟨rfl, hb2⟩
end Go.Proofs.Ytodninjcmfbfdaa
