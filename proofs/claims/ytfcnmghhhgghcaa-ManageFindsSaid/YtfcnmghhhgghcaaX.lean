/- The walk of ManageFinds. -/
import Derived.Test.YtfcnmghhhgghcaaV
namespace Go.Proofs.Ytfcnmghhhgghcaa
open Go.RowKit

set_option maxHeartbeats 8000000 in
set_option maxRecDepth 100000 in
theorem finds_walk (B : Option Addr) (c : Nat) (l : List Dp) (d : Dp) (A : Option Addr) (k : Nat) (kind : ByteArray) (w : World) (hd : DpOk d) (hr : ReadsEx w A d.e) (_hn : l.length ≤ c) (hl : ReadsDp w B l) (hok : ∀ x ∈ l, DpOk x) :
    Calls Try.prog 5 #[.slice B l.length c, DV d A k, .string kind] w fun e w' => e = .returned (.bool true) ∧ Below w.heap.size w w' := by
  have HOK := Lib.hid hok
  have HDOK := Lib.hid hd
  have H4 := Lib.hid (At8.new w d A k hr)
  have HL := Lib.hid (readsDp_alloc hl (DC d A k))
  have HB0 : Hid (Below w.heap.size w (w.alloc (DC d A k))) := Lib.hid (balloc (Below.refl _ _) _)
  clear hok hd hr hl
  by_cases h40 : (40 : Int) < l.length
  · go_enter Try.func5, Try.ntmps5
    go_wp2_with fail
    refine (awake_any _).mono ?_
    rintro e w1 ⟨rfl, hb1⟩
    go_wp2_with fail
    go_ret
    exact ⟨rfl, bthen HB0.out hb1⟩
  by_cases h50 : (50 : Int) < kind.size
  · go_enter Try.func5, Try.ntmps5
    go_wp2_with fail
    refine (awake_any _).mono ?_
    rintro e w1 ⟨rfl, hb1⟩
    go_wp2_with fail
    go_ret
    exact ⟨rfl, bthen HB0.out hb1⟩
  have hn6 : l.length ≤ 100000 := by omega
  have hk6 : kind.size ≤ 50 := by omega
  go_enter Try.func5, Try.ntmps5
  go_upto_region 3 with (fail)
  change Code.wp _ _ _ _ (w.alloc (DC d A k))
  generalize hW : w.alloc (DC d A k) = W at *
  generalize hb4e : w.heap.size = b4 at *
  clear hW
  have C4 := H4.out.cells
  obtain ⟨L, hLm, hLr, hLe⟩ := reads_of_dp HL.out
  have hLl : L.length = l.length := by rw [← hLm, List.length_map]
  have RL := Lib.hid hLr
  have EL := Lib.hid hLe
  have ML := Lib.hid hLm
  have hLn : L.length ≤ 100000 - 10 := by omega
  clear hLr hLe hLm
  go_cut [7] (fun v7 wc => ∃ (A7 : Option Addr) (k7 : Nat), v7 = .slice A7 (l ++ [d]).length k7 ∧ (l ++ [d]).length ≤ k7 ∧ ReadsDp wc A7 (l ++ [d]) ∧ Below W.heap.size W wc)
  case first =>
    refine wp_region_guarded (S := fun w' => Below W.heap.size W w') (g := 5) (by kernel_rfl) ?_
    have hS : Below W.heap.size W W.drew := bdrew (Below.refl _ _)
    refine wpAnyG_take (i := 0) (v := ?_) [1, 4, 5] rfl (by kernel_rfl) (by kernel_rfl) (by kernel_rfl) (by kernel_rfl) (fun _ _ _ h => h) (Or.inl ⟨by rfl, ?_⟩) hS ?_
    rotate_left 1
    · (intro w' hS'; go_simp; try with_reducible rfl)
    refine wpAnyG_take (i := 2) (v := ?_) [3, 4, 5] rfl (by kernel_rfl) (by kernel_rfl) (by kernel_rfl) (by kernel_rfl) (fun _ _ _ h => h) (Or.inl ⟨by rfl, ?_⟩) hS ?_
    rotate_left 1
    · (intro w' hS'; go_simp; try with_reducible rfl)
    generalize W.drew = w0 at *
    refine wpAnyG_ready (rs := [1, 3]) (by kernel_rfl) (by simp) ?_
    refine AllReadyG.cons rfl (fun K hK => ?_) ?_
    · rw [if_pos (by kernel_rfl)]
      refine app_dp (.const (.slice none 0 0)) (.tmp 26) rfl W.heap.size _ [] L B c rfl (by rw [hLl]; rfl) (OwnsDp.nil _ _) ((RL.out.below hS).more hS.size) hS hS.size (by simp; omega) ?_
      intro v1 w1 ho1 hb1 hB1 hg1
      refine hK _ _ (fun _ => hb1) ?_
      clear hK hg1
      refine wpAnyG_ready (rs := [3]) (by kernel_rfl) (by simp) ?_
      refine AllReadyG.cons rfl (fun K hK => ?_) ?_
      · go_simp
        change K _ (w1.alloc (DC d A k))
        have hb2 : Below W.heap.size W (w1.alloc (DC d A k)) := balloc hb1 _
        have n2 := Own8.new w1 d A k
        have ho2 : OwnsDp (w1.alloc (DC d A k)) W.heap.size v1 L := ho1.below (balloc (Below.refl _ _) _)
        generalize w1.alloc (DC d A k) = w2 at *
        refine hK _ _ (fun _ => hb2) ?_
        clear hK
        refine wpAnyG_ready (rs := [4]) (by kernel_rfl) (by simp) ?_
        refine AllReadyG.cons rfl (fun K hK => ?_) ?_
        · rw [if_pos (by kernel_rfl)]
          refine app_dp (.tmp 27) (.tmp 29) rfl W.heap.size _ L [(d, A, k)] _ 1 rfl rfl ho2 (reads_box n2) hb2 hb2.size (by simp; omega) ?_
          intro v3 w3 ho3 hb3 hB3 hg3
          refine hK _ _ (fun _ => hb3) ?_
          clear hK
          obtain ⟨A7, k7, hv3, hk7, hr7⟩ := ho3.slice (fun x hx => by
            rcases List.mem_append.1 hx with hx | hx
            · exact (EL.out x hx).below hb3
            · rw [List.mem_singleton.1 hx]; exact H4.out.r.below hb3)
          subst hv3
          rw [List.map_append, ML.out] at hk7 hr7
          have hr8 := Lib.hid hr7
          have hk8 : (l ++ [d]).length ≤ k7 := hk7
          clear hr7 hk7 ho3 hg3
          refine wpAnyG_ready (rs := [5]) (by kernel_rfl) (by simp) ?_
          refine AllReadyG.cons rfl (fun K hK => ?_) ?_
          · go_simp
            refine hK _ _ (fun h => absurd h (by (intro h; have : (true : Bool) = false := h; cases this))) ?_
            clear hK
            refine wpAnyG_done (by kernel_rfl) ?_ _
            simp only [Exit.then]
            apply_assumption
            refine Met.intro ?_
            apply_assumption
            (repeat apply Exists.intro)
            refine ⟨⟨A7, k7, ?_, hk8, hr8.out, hb3⟩, rfl⟩
            rw [List.length_append]; rfl
          exact AllReadyG.nil
        exact AllReadyG.nil
      exact AllReadyG.nil
    refine AllReadyG.cons rfl (fun K hK => ?_) ?_
    · go_simp
      change K _ (w0.alloc (DC d A k))
      have hb1 : Below W.heap.size W (w0.alloc (DC d A k)) := balloc hS _
      have n1 := Own8.new w0 d A k
      generalize w0.alloc (DC d A k) = w1 at *
      refine hK _ _ (fun _ => hb1) ?_
      clear hK
      refine wpAnyG_ready (rs := [1]) (by kernel_rfl) (by simp) ?_
      refine AllReadyG.cons rfl (fun K hK => ?_) ?_
      · rw [if_pos (by kernel_rfl)]
        refine app_dp (w0 := w1) (.const (.slice none 0 0)) (.tmp 26) rfl w1.heap.size _ [] L B c rfl (by rw [hLl]; rfl) (OwnsDp.nil _ _) ((RL.out.below hb1).more hb1.size) (Below.refl _ _) (Nat.le_refl _) (by simp; omega) ?_
        intro v1 w2 ho1 hbn hB1 hg1
        have hb2 : Below W.heap.size W w2 := bthen hb1 hbn
        have n2 := n1.below hbn
        have ho2 : OwnsDp w2 W.heap.size v1 L := OwnsDp.weak ho1 hb1.size
        refine hK _ _ (fun _ => hb2) ?_
        clear hK hg1 n1
        refine wpAnyG_ready (rs := [4]) (by kernel_rfl) (by simp) ?_
        refine AllReadyG.cons rfl (fun K hK => ?_) ?_
        · rw [if_pos (by kernel_rfl)]
          refine app_dp (.tmp 27) (.tmp 29) rfl W.heap.size _ L [(d, A, k)] _ 1 rfl rfl ho2 (reads_box n2) hb2 hb2.size (by simp; omega) ?_
          intro v3 w3 ho3 hb3 hB3 hg3
          refine hK _ _ (fun _ => hb3) ?_
          clear hK
          obtain ⟨A7, k7, hv3, hk7, hr7⟩ := ho3.slice (fun x hx => by
            rcases List.mem_append.1 hx with hx | hx
            · exact (EL.out x hx).below hb3
            · rw [List.mem_singleton.1 hx]; exact H4.out.r.below hb3)
          subst hv3
          rw [List.map_append, ML.out] at hk7 hr7
          have hr8 := Lib.hid hr7
          have hk8 : (l ++ [d]).length ≤ k7 := hk7
          clear hr7 hk7 ho3 hg3
          refine wpAnyG_ready (rs := [5]) (by kernel_rfl) (by simp) ?_
          refine AllReadyG.cons rfl (fun K hK => ?_) ?_
          · go_simp
            refine hK _ _ (fun h => absurd h (by (intro h; have : (true : Bool) = false := h; cases this))) ?_
            clear hK
            refine wpAnyG_done (by kernel_rfl) ?_ _
            simp only [Exit.then]
            apply_assumption
            refine Met.intro ?_
            apply_assumption
            (repeat apply Exists.intro)
            refine ⟨⟨A7, k7, ?_, hk8, hr8.out, hb3⟩, rfl⟩
            rw [List.length_append]; rfl
          exact AllReadyG.nil
        exact AllReadyG.nil
      exact AllReadyG.nil
    exact AllReadyG.nil
  case rest =>
    obtain ⟨A7, k7, rfl, hk7, hr7, hc⟩ := hcut
    have K4 := Lib.hid (H4.out.below hc)
    have KL := Lib.hid (HL.out.below hc)
    have K7 := Lib.hid hr7
    have KB := Lib.hid (bthen (hb4e ▸ HB0.out) hc)
    have HOKA : Hid (∀ x ∈ l ++ [d], DpOk x) := Lib.hid (fun x hx => by
      rcases List.mem_append.1 hx with hx | hx
      · exact HOK.out x hx
      · rw [List.mem_singleton.1 hx]; exact HDOK.out)
    clear hr7 C4 H4 HL HB0 RL EL ML hLl hLn
    have HFA : Hid (findD (l ++ [d]) (keyS d) = firstL l d) := find_app l d
    have HFB : Hid (findB (l ++ [d]) (keyS d) = true) := findB_app l d
    generalize l ++ [d] = la at *
    obtain ⟨dlt, d0, d1, d2, d3, d4, d5, d6, d7, dfr⟩ := K4.out.o
    clear dfr
    go_wp2_with fail
    refine (rkey_any d A k _ HDOK.out).mono ?_
    rintro e w5 ⟨rfl, hb5⟩
    clear d0 d1 d2 d3 d4 d5 d6 d7 dlt
    go_wp2_with fail
    refine (find_any A7 k7 la (keyS d) _ hk7 (K7.out.below hb5) HOKA.out).mono ?_
    rintro e w6 ⟨A8, k8, rfl, ho8, hb6⟩
    rw [HFA.out] at ho8 ⊢
    rw [HFB.out]
    clear HFA HFB HOKA
    have H8 := Lib.hid (At8.new w6 (firstL l d) A8 k8 ho8.reads)
    have HF := Lib.hid (firstL_ok HOK.out HDOK.out)
    have HLF : Hid (firstL (l.drop l.length) d = d) := by show _ = _; rw [List.drop_length]; rfl
    clear ho8
    go_upto_region 5 with (fail)
    have hc6 : Below wc.heap.size wc (w6.alloc (DC (firstL l d) A8 k8)) := balloc (bthen hb5 hb6) _
    change Code.wp _ _ _ _ (w6.alloc (DC (firstL l d) A8 k8))
    generalize w6.alloc (DC (firstL l d) A8 k8) = W6 at *
    generalize w6.heap.size = b8 at *
    clear hb5 hb6
    have J4 := Lib.hid (K4.out.below hc6)
    have JL := Lib.hid (KL.out.below hc6)
    have JB := Lib.hid (bthen KB.out hc6)
    clear K4 KL KB K7 hc6
    obtain ⟨dlt, d0, d1, d2, d3, d4, d5, d6, d7, dfr⟩ := J4.out.o
    clear dfr
    go_upto_region 6 with (fail)
    have hc7 : Below W6.heap.size W6 (W6.alloc (DC d A k)) := balloc (Below.refl _ _) _
    change Code.wp _ _ _ _ (W6.alloc (DC d A k))
    have H10 := Lib.hid (Own8.new W6 d A k)
    have HE0 := Lib.hid J4.out.r
    generalize W6.alloc (DC d A k) = W7 at *
    clear d0 d1 d2 d3 d4 d5 d6 d7 dlt
    go_wp2_with fail
    go_loopw [11] (fun v wr => ∃ (n : Nat) (i : Int) (x : Dp) (Ax : Option Addr) (kx : Nat), v = .int .i64 i ∧ i = (n : Int) - 1 ∧ n ≤ l.length ∧ Hid (Own8 wr W6.heap.size x Ax kx) ∧ Hid (ReadsEx W6 Ax x.e) ∧ Below W6.heap.size W6 wr ∧ Hid (firstL (l.drop n) d = x)) (fun v _ => (intOf v + 1).toNat)
    case atStart => exact ⟨l.length, _, d, A, k, rfl, rfl, Nat.le_refl _, H10, HE0, hc7, HLF⟩
    case round =>
      obtain ⟨n, i, x, Ax, kx, rfl, hi, hnl, HX, HXR, hbr, HFX⟩ := hrel
      by_cases hn0 : n = 0
      · subst hn0
        obtain rfl : i = -1 := by omega
        have hx : x = firstL l d := HFX.out.symm
        subst hx
        have M4 := Lib.hid (J4.out.below hbr)
        have M8 := Lib.hid (H8.out.below hbr)
        have MX : Hid (At8 wr W6.heap.size (firstL l d) Ax kx) := ⟨HX.out, HXR.out.below hbr⟩
        have MB := Lib.hid (bthen JB.out hbr)
        clear HX HXR H8 J4 JB HFX HLF H10 HE0 hi hnl
        generalize firstL l d = f at *
        generalize W6.heap.size = b10 at *
        obtain ⟨dlt, d0, d1, d2, d3, d4, d5, d6, d7, dfr⟩ := M4.out.o
        clear dfr
        go_wp2_with fail
        refine (rkey_any d A k _ HDOK.out).mono ?_
        rintro e w8 ⟨rfl, hb8⟩
        clear d0 d1 d2 d3 d4 d5 d6 d7 dlt
        go_wp2_with fail
        refine (find_any none 0 [] (keyS d) _ (Nat.le_refl _) (fun h => absurd h (Nat.lt_irrefl _)) (fun x hx => by cases hx)).mono ?_
        rintro e w9 ⟨A9, k9, rfl, ho9, hb9⟩
        clear ho9
        rw [show findD [] (keyS d) = zD from rfl, show findB [] (keyS d) = false from rfl]
        go_upto_region 12 with (fail)
        have hc9 : Below wr.heap.size wr (w9.alloc (DC zD A9 k9)) := balloc (bthen hb8 hb9) _
        change Code.wp _ _ _ _ (w9.alloc (DC zD A9 k9))
        generalize w9.alloc (DC zD A9 k9) = W9 at *
        generalize w9.heap.size = b12 at *
        clear hb8 hb9
        have N4 := Lib.hid (M4.out.below hc9)
        have N8 := Lib.hid (M8.out.below hc9)
        have NX : Hid (At8 W9 b10 f Ax kx) := Lib.hid (MX.out.below hc9)
        have NB := Lib.hid (bthen MB.out hc9)
        clear M4 M8 MX MB hc9
        obtain ⟨dlt, d0, d1, d2, d3, d4, d5, d6, d7, dfr⟩ := N4.out.o
        clear dfr dlt
        go_upto_region 13 with (fail)
        change Code.wp _ _ _ _ (W9.alloc (DC d A k))
        have hc10 : Below W9.heap.size W9 (W9.alloc (DC d A k)) := balloc (Below.refl _ _) _
        have H14 := Lib.hid (Own8.new W9 d A k)
        have P4 := Lib.hid (N4.out.below hc10)
        clear d0 d1 d2 d3 d4 d5 d6 d7
        obtain ⟨dlt, d0, d1, d2, d3, d4, d5, d6, d7, dfr⟩ := P4.out.o
        clear dfr dlt
        obtain ⟨elt, e0, e1, e2, e3, e4, e5, e6, e7, efr⟩ := H14.out
        have ef3 := efr 3 (by omega)
        clear efr elt
        generalize W9.alloc (DC d A k) = W10 at *
        have s1 : (⟨#[120]⟩ : ByteArray).size = 1 := rfl
        have s2 : d.t.size ≤ 140737488351232 := HDOK.out.2.2.2.1
        have a1 := fun W => run_string_add_sum (P := Try.prog) W kind ⟨#[120]⟩ (by omega)
        have a2 := fun W => run_string_add_sum (P := Try.prog) W (kind ++ ⟨#[120]⟩) d.t (by rw [ByteArray.size_append]; omega)
        go_upto_region 14 with (fail)
        clear a1 a2 e0 e1 e2 e3 e4 e5 e6 e7 ef3 d0 d1 d2 d3 d4 d5 d6 d7
        have hc11 : Below W9.heap.size W9 (W10.setCell ⟨W9.heap.size, 3, none⟩ (.string (kind ++ ⟨#[120]⟩ ++ d.t))) := hc10.setCell (Nat.le_refl _) _
        have Q14 : Hid (At8 (W10.setCell ⟨W9.heap.size, 3, none⟩ (.string (kind ++ ⟨#[120]⟩ ++ d.t))) W9.heap.size { d with t := kind ++ ⟨#[120]⟩ ++ d.t } A k) := ⟨H14.out.put3 _, N4.out.r.below hc11⟩
        have HOO : Hid (DpOk2 { d with t := kind ++ ⟨#[120]⟩ ++ d.t }) := by
          have h1 := HDOK.out.1
          have h2 := HDOK.out.2.1
          have h3 := HDOK.out.2.2.2.2.1
          refine ⟨?_, ?_, ?_, ?_⟩ <;> simp only [ByteArray.size_append] <;> omega
        have Q4 := Lib.hid (N4.out.below hc11)
        have Q8 := Lib.hid (N8.out.below hc11)
        have QX : Hid (At8 _ b10 f Ax kx) := Lib.hid (NX.out.below hc11)
        have QB := Lib.hid (bthen NB.out hc11)
        have HOK1 : Hid (∀ x ∈ [d], DpOk x) := Lib.hid (fun x hx => by rw [List.mem_singleton.1 hx]; exact HDOK.out)
        clear H14 P4 N4 N8 NX NB hc10 hc11 s1 s2
        generalize W10.setCell ⟨W9.heap.size, 3, none⟩ (.string (kind ++ ⟨#[120]⟩ ++ d.t)) = W11 at *
        generalize ({ d with t := kind ++ ⟨#[120]⟩ ++ d.t } : Dp) = o at *
        generalize W9.heap.size = b14 at *
        have C4 := Q4.out.cells
        have C14 := Q14.out.cells
        go_cut [16] (fun v wq => v = .bool (findB [d] (keyS o)) ∧ Below W11.heap.size W11 wq)
        case first =>
          refine wp_region_guarded (S := fun w' => Below W11.heap.size W11 w') (g := 10) (by kernel_rfl) ?_
          have h00 : Below W11.heap.size W11 W11.drew := bdrew (Below.refl _ _)
          refine wpAnyG_take (i := 0) (v := ?_) [10] rfl (by kernel_rfl) (by kernel_rfl) (by kernel_rfl) (by kernel_rfl) (fun _ _ _ h => h) (Or.inl ⟨by rfl, ?_⟩) h00 ?_
          rotate_left 1
          · (intro w' hS'; go_simp; try with_reducible rfl)
          refine wpAnyG_take (i := 2) (v := ?_) [10] rfl (by kernel_rfl) (by kernel_rfl) (by kernel_rfl) (by kernel_rfl) (fun _ _ _ h => h) (Or.inl ⟨by rfl, ?_⟩) h00 ?_
          rotate_left 1
          · (intro w' hS'; go_simp; try with_reducible rfl)
          generalize W11.drew = w100 at *
          refine wpAnyG_ready (rs := [1, 3, 8]) (by kernel_rfl) (by simp) ?_
          refine AllReadyG.cons rfl (fun K hK => ?_) ?_
          · go_simp
            change K _ (w100.alloc (DC d A k))
            have hb1 : Below w100.heap.size w100 (w100.alloc (DC d A k)) := balloc (Below.refl _ _) _
            have hc1 : Below W11.heap.size W11 (w100.alloc (DC d A k)) := bthen h00 hb1
            have rd1 := Lib.hid (readsDp_box (At8.new w100 d A k (Q4.out.r.below h00)))
            refine hK _ _ (fun _ => hc1) ?_
            clear hK
            generalize w100.alloc (DC d A k) = w101 at *
            refine wpAnyG_ready (rs := [3, 8]) (by kernel_rfl) (by simp) ?_
            refine AllReadyG.cons rfl (fun K hK => ?_) ?_
            · go_simp
              refine (rkey_big o A k _ HOO.out).mono ?_
              rintro e w102 ⟨rfl, hb2⟩
              have hc2 := bthen hc1 hb2
              refine hK _ _ (fun _ => hc2) ?_
              clear hK
              have rd2 := Lib.hid (rd1.out.below hb2)
              refine wpAnyG_ready (rs := [4, 8]) (by kernel_rfl) (by simp) ?_
              refine AllReadyG.cons rfl (fun K hK => ?_) ?_
              · go_simp
                refine (find_any (some ⟨w100.heap.size, 0, none⟩) 1 [d] (keyS o) _ (Nat.le_refl _) rd2.out HOK1.out).mono ?_
                rintro e w103 ⟨Af, kf, rfl, hof, hb3⟩
                clear hof
                have hc3 := bthen hc2 hb3
                refine hK _ _ (fun _ => hc3) ?_
                clear hK
                refine wpAnyG_take (i := 5) (v := ?_) [10] rfl (by kernel_rfl) (by kernel_rfl) (by kernel_rfl) (by kernel_rfl) (fun _ _ _ h => h) (Or.inl ⟨by rfl, ?_⟩) hc3 ?_
                rotate_left 1
                · (intro w' hS'; go_simp; try with_reducible rfl)
                refine wpAnyG_take (i := 6) (v := ?_) [10] rfl (by kernel_rfl) (by kernel_rfl) (by kernel_rfl) (by kernel_rfl) (fun _ _ _ h => h) (Or.inl ⟨by rfl, ?_⟩) hc3 ?_
                rotate_left 1
                · (intro w' hS'; go_simp; try with_reducible rfl)
                refine wpAnyG_take (i := 7) (v := ?_) [10] rfl (by kernel_rfl) (by kernel_rfl) (by kernel_rfl) (by kernel_rfl) (fun _ _ _ h => h) (Or.inl ⟨by rfl, ?_⟩) hc3 ?_
                rotate_left 1
                · (intro w' hS'; go_simp; try with_reducible rfl)
                refine wpAnyG_ready (rs := [8]) (by kernel_rfl) (by simp) ?_
                refine AllReadyG.cons rfl (fun K hK => ?_) ?_
                · go_simp
                  change K _ (w103.alloc (.cells zCells 24))
                  have hb4 : Below w103.heap.size w103 (w103.alloc (.cells zCells 24)) := balloc (Below.refl _ _) _
                  have hc4 : Below W11.heap.size W11 (w103.alloc (.cells zCells 24)) := bthen hc3 hb4
                  have rm4 := Lib.hid (Room.new w103 zCells rfl 24)
                  refine hK _ _ (fun _ => hc4) ?_
                  clear hK
                  generalize w103.alloc (.cells zCells 24) = w104 at *
                  obtain ⟨hlt, hroom⟩ := rm4.out
                  obtain ⟨⟨v0, r0⟩, f0⟩ := hroom 0 (by omega)
                  obtain ⟨⟨v1, r1⟩, f1⟩ := hroom 1 (by omega)
                  obtain ⟨⟨v2, r2⟩, f2⟩ := hroom 2 (by omega)
                  obtain ⟨⟨v3, r3⟩, f3⟩ := hroom 3 (by omega)
                  obtain ⟨⟨v4, r4⟩, f4⟩ := hroom 4 (by omega)
                  obtain ⟨⟨v5, r5⟩, f5⟩ := hroom 5 (by omega)
                  obtain ⟨⟨v6, r6⟩, f6⟩ := hroom 6 (by omega)
                  obtain ⟨⟨v7, r7⟩, f7⟩ := hroom 7 (by omega)
                  clear hroom hlt
                  refine wpAnyG_ready (rs := [9]) (by kernel_rfl) (by simp) ?_
                  refine AllReadyG.cons rfl (fun K hK => ?_) ?_
                  · go_simp
                    change K _ (put8 w104 (w103.heap.size) (findD [d] (keyS o)) Af kf)
                    have hcq : Below W11.heap.size W11 (put8 w104 (w103.heap.size) (findD [d] (keyS o)) Af kf) := below_put8 hc4 (w103.heap.size) (by (first | exact Nat.le_refl _ | (with_reducible exact Below.size (by with_reducible assumption)))) (findD [d] (keyS o)) Af kf
                    refine hK _ _ (fun _ => hcq) ?_
                    clear hK r0 r1 r2 r3 r4 r5 r6 r7 f0 f1 f2 f3 f4 f5 f6 f7
                    generalize put8 w104 (w103.heap.size) (findD [d] (keyS o)) Af kf = wq at *
                    refine wpAnyG_ready (rs := [10]) (by kernel_rfl) (by simp) ?_
                    refine AllReadyG.cons rfl (fun K hK => ?_) ?_
                    · go_simp
                      refine hK _ _ (fun h => absurd h (by (intro h; have : (true : Bool) = false := h; cases this))) ?_
                      clear hK
                      refine wpAnyG_done (by kernel_rfl) ?_ _
                      simp only [Exit.then]
                      apply_assumption
                      refine Met.intro ?_
                      apply_assumption
                      (repeat apply Exists.intro)
                      refine ⟨⟨rfl, hcq⟩, rfl⟩
                    exact AllReadyG.nil
                  exact AllReadyG.nil
                exact AllReadyG.nil
              refine AllReadyG.cons rfl (fun K hK => ?_) ?_
              · go_simp
                change K _ (w102.alloc (.cells zCells 24))
                have hb5 : Below w102.heap.size w102 (w102.alloc (.cells zCells 24)) := balloc (Below.refl _ _) _
                have hc5 : Below W11.heap.size W11 (w102.alloc (.cells zCells 24)) := bthen hc2 hb5
                have rm5 := Lib.hid (Room.new w102 zCells rfl 24)
                refine hK _ _ (fun _ => hc5) ?_
                clear hK
                generalize w102.alloc (.cells zCells 24) = w105 at *
                have rd5 := Lib.hid (rd2.out.below hb5)
                refine wpAnyG_ready (rs := [4]) (by kernel_rfl) (by simp) ?_
                refine AllReadyG.cons rfl (fun K hK => ?_) ?_
                · go_simp
                  refine (find_any (some ⟨w100.heap.size, 0, none⟩) 1 [d] (keyS o) _ (Nat.le_refl _) rd5.out HOK1.out).mono ?_
                  rintro e w106 ⟨Af, kf, rfl, hof, hb6⟩
                  clear hof
                  have hc6 := bthen hc5 hb6
                  refine hK _ _ (fun _ => hc6) ?_
                  clear hK
                  have rm6 := Lib.hid (rm5.out.below hb6)
                  refine wpAnyG_take (i := 5) (v := ?_) [10] rfl (by kernel_rfl) (by kernel_rfl) (by kernel_rfl) (by kernel_rfl) (fun _ _ _ h => h) (Or.inl ⟨by rfl, ?_⟩) hc6 ?_
                  rotate_left 1
                  · (intro w' hS'; go_simp; try with_reducible rfl)
                  refine wpAnyG_take (i := 6) (v := ?_) [10] rfl (by kernel_rfl) (by kernel_rfl) (by kernel_rfl) (by kernel_rfl) (fun _ _ _ h => h) (Or.inl ⟨by rfl, ?_⟩) hc6 ?_
                  rotate_left 1
                  · (intro w' hS'; go_simp; try with_reducible rfl)
                  refine wpAnyG_take (i := 7) (v := ?_) [10] rfl (by kernel_rfl) (by kernel_rfl) (by kernel_rfl) (by kernel_rfl) (fun _ _ _ h => h) (Or.inl ⟨by rfl, ?_⟩) hc6 ?_
                  rotate_left 1
                  · (intro w' hS'; go_simp; try with_reducible rfl)
                  obtain ⟨hlt, hroom⟩ := rm6.out
                  obtain ⟨⟨v0, r0⟩, f0⟩ := hroom 0 (by omega)
                  obtain ⟨⟨v1, r1⟩, f1⟩ := hroom 1 (by omega)
                  obtain ⟨⟨v2, r2⟩, f2⟩ := hroom 2 (by omega)
                  obtain ⟨⟨v3, r3⟩, f3⟩ := hroom 3 (by omega)
                  obtain ⟨⟨v4, r4⟩, f4⟩ := hroom 4 (by omega)
                  obtain ⟨⟨v5, r5⟩, f5⟩ := hroom 5 (by omega)
                  obtain ⟨⟨v6, r6⟩, f6⟩ := hroom 6 (by omega)
                  obtain ⟨⟨v7, r7⟩, f7⟩ := hroom 7 (by omega)
                  clear hroom hlt
                  refine wpAnyG_ready (rs := [9]) (by kernel_rfl) (by simp) ?_
                  refine AllReadyG.cons rfl (fun K hK => ?_) ?_
                  · go_simp
                    change K _ (put8 w106 (w102.heap.size) (findD [d] (keyS o)) Af kf)
                    have hcq : Below W11.heap.size W11 (put8 w106 (w102.heap.size) (findD [d] (keyS o)) Af kf) := below_put8 hc6 (w102.heap.size) (by (first | exact Nat.le_refl _ | (with_reducible exact Below.size (by with_reducible assumption)))) (findD [d] (keyS o)) Af kf
                    refine hK _ _ (fun _ => hcq) ?_
                    clear hK r0 r1 r2 r3 r4 r5 r6 r7 f0 f1 f2 f3 f4 f5 f6 f7
                    generalize put8 w106 (w102.heap.size) (findD [d] (keyS o)) Af kf = wq at *
                    refine wpAnyG_ready (rs := [10]) (by kernel_rfl) (by simp) ?_
                    refine AllReadyG.cons rfl (fun K hK => ?_) ?_
                    · go_simp
                      refine hK _ _ (fun h => absurd h (by (intro h; have : (true : Bool) = false := h; cases this))) ?_
                      clear hK
                      refine wpAnyG_done (by kernel_rfl) ?_ _
                      simp only [Exit.then]
                      apply_assumption
                      refine Met.intro ?_
                      apply_assumption
                      (repeat apply Exists.intro)
                      refine ⟨⟨rfl, hcq⟩, rfl⟩
                    exact AllReadyG.nil
                  exact AllReadyG.nil
                exact AllReadyG.nil
              exact AllReadyG.nil
            refine AllReadyG.cons rfl (fun K hK => ?_) ?_
            · go_simp
              change K _ (w101.alloc (.cells zCells 24))
              have hb7 : Below w101.heap.size w101 (w101.alloc (.cells zCells 24)) := balloc (Below.refl _ _) _
              have hc7 : Below W11.heap.size W11 (w101.alloc (.cells zCells 24)) := bthen hc1 hb7
              have rm7 := Lib.hid (Room.new w101 zCells rfl 24)
              refine hK _ _ (fun _ => hc7) ?_
              clear hK
              generalize w101.alloc (.cells zCells 24) = w107 at *
              have rd7 := Lib.hid (rd1.out.below hb7)
              refine wpAnyG_ready (rs := [3]) (by kernel_rfl) (by simp) ?_
              refine AllReadyG.cons rfl (fun K hK => ?_) ?_
              · go_simp
                refine (rkey_big o A k _ HOO.out).mono ?_
                rintro e w108 ⟨rfl, hb8⟩
                have hc8 := bthen hc7 hb8
                refine hK _ _ (fun _ => hc8) ?_
                clear hK
                have rm8 := Lib.hid (rm7.out.below hb8)
                have rd8 := Lib.hid (rd7.out.below hb8)
                refine wpAnyG_ready (rs := [4]) (by kernel_rfl) (by simp) ?_
                refine AllReadyG.cons rfl (fun K hK => ?_) ?_
                · go_simp
                  refine (find_any (some ⟨w100.heap.size, 0, none⟩) 1 [d] (keyS o) _ (Nat.le_refl _) rd8.out HOK1.out).mono ?_
                  rintro e w109 ⟨Af, kf, rfl, hof, hb9⟩
                  clear hof
                  have hc9 := bthen hc8 hb9
                  refine hK _ _ (fun _ => hc9) ?_
                  clear hK
                  have rm9 := Lib.hid (rm8.out.below hb9)
                  refine wpAnyG_take (i := 5) (v := ?_) [10] rfl (by kernel_rfl) (by kernel_rfl) (by kernel_rfl) (by kernel_rfl) (fun _ _ _ h => h) (Or.inl ⟨by rfl, ?_⟩) hc9 ?_
                  rotate_left 1
                  · (intro w' hS'; go_simp; try with_reducible rfl)
                  refine wpAnyG_take (i := 6) (v := ?_) [10] rfl (by kernel_rfl) (by kernel_rfl) (by kernel_rfl) (by kernel_rfl) (fun _ _ _ h => h) (Or.inl ⟨by rfl, ?_⟩) hc9 ?_
                  rotate_left 1
                  · (intro w' hS'; go_simp; try with_reducible rfl)
                  refine wpAnyG_take (i := 7) (v := ?_) [10] rfl (by kernel_rfl) (by kernel_rfl) (by kernel_rfl) (by kernel_rfl) (fun _ _ _ h => h) (Or.inl ⟨by rfl, ?_⟩) hc9 ?_
                  rotate_left 1
                  · (intro w' hS'; go_simp; try with_reducible rfl)
                  obtain ⟨hlt, hroom⟩ := rm9.out
                  obtain ⟨⟨v0, r0⟩, f0⟩ := hroom 0 (by omega)
                  obtain ⟨⟨v1, r1⟩, f1⟩ := hroom 1 (by omega)
                  obtain ⟨⟨v2, r2⟩, f2⟩ := hroom 2 (by omega)
                  obtain ⟨⟨v3, r3⟩, f3⟩ := hroom 3 (by omega)
                  obtain ⟨⟨v4, r4⟩, f4⟩ := hroom 4 (by omega)
                  obtain ⟨⟨v5, r5⟩, f5⟩ := hroom 5 (by omega)
                  obtain ⟨⟨v6, r6⟩, f6⟩ := hroom 6 (by omega)
                  obtain ⟨⟨v7, r7⟩, f7⟩ := hroom 7 (by omega)
                  clear hroom hlt
                  refine wpAnyG_ready (rs := [9]) (by kernel_rfl) (by simp) ?_
                  refine AllReadyG.cons rfl (fun K hK => ?_) ?_
                  · go_simp
                    change K _ (put8 w109 (w101.heap.size) (findD [d] (keyS o)) Af kf)
                    have hcq : Below W11.heap.size W11 (put8 w109 (w101.heap.size) (findD [d] (keyS o)) Af kf) := below_put8 hc9 (w101.heap.size) (by (first | exact Nat.le_refl _ | (with_reducible exact Below.size (by with_reducible assumption)))) (findD [d] (keyS o)) Af kf
                    refine hK _ _ (fun _ => hcq) ?_
                    clear hK r0 r1 r2 r3 r4 r5 r6 r7 f0 f1 f2 f3 f4 f5 f6 f7
                    generalize put8 w109 (w101.heap.size) (findD [d] (keyS o)) Af kf = wq at *
                    refine wpAnyG_ready (rs := [10]) (by kernel_rfl) (by simp) ?_
                    refine AllReadyG.cons rfl (fun K hK => ?_) ?_
                    · go_simp
                      refine hK _ _ (fun h => absurd h (by (intro h; have : (true : Bool) = false := h; cases this))) ?_
                      clear hK
                      refine wpAnyG_done (by kernel_rfl) ?_ _
                      simp only [Exit.then]
                      apply_assumption
                      refine Met.intro ?_
                      apply_assumption
                      (repeat apply Exists.intro)
                      refine ⟨⟨rfl, hcq⟩, rfl⟩
                    exact AllReadyG.nil
                  exact AllReadyG.nil
                exact AllReadyG.nil
              exact AllReadyG.nil
            exact AllReadyG.nil
          refine AllReadyG.cons rfl (fun K hK => ?_) ?_
          · go_simp
            refine (rkey_big o A k _ HOO.out).mono ?_
            rintro e w110 ⟨rfl, hb10⟩
            have hc10 := bthen h00 hb10
            refine hK _ _ (fun _ => hc10) ?_
            clear hK
            refine wpAnyG_ready (rs := [1, 8]) (by kernel_rfl) (by simp) ?_
            refine AllReadyG.cons rfl (fun K hK => ?_) ?_
            · go_simp
              change K _ (w110.alloc (DC d A k))
              have hb11 : Below w110.heap.size w110 (w110.alloc (DC d A k)) := balloc (Below.refl _ _) _
              have hc11 : Below W11.heap.size W11 (w110.alloc (DC d A k)) := bthen hc10 hb11
              have rd11 := Lib.hid (readsDp_box (At8.new w110 d A k (Q4.out.r.below hc10)))
              refine hK _ _ (fun _ => hc11) ?_
              clear hK
              generalize w110.alloc (DC d A k) = w111 at *
              refine wpAnyG_ready (rs := [4, 8]) (by kernel_rfl) (by simp) ?_
              refine AllReadyG.cons rfl (fun K hK => ?_) ?_
              · go_simp
                refine (find_any (some ⟨w110.heap.size, 0, none⟩) 1 [d] (keyS o) _ (Nat.le_refl _) rd11.out HOK1.out).mono ?_
                rintro e w112 ⟨Af, kf, rfl, hof, hb12⟩
                clear hof
                have hc12 := bthen hc11 hb12
                refine hK _ _ (fun _ => hc12) ?_
                clear hK
                refine wpAnyG_take (i := 5) (v := ?_) [10] rfl (by kernel_rfl) (by kernel_rfl) (by kernel_rfl) (by kernel_rfl) (fun _ _ _ h => h) (Or.inl ⟨by rfl, ?_⟩) hc12 ?_
                rotate_left 1
                · (intro w' hS'; go_simp; try with_reducible rfl)
                refine wpAnyG_take (i := 6) (v := ?_) [10] rfl (by kernel_rfl) (by kernel_rfl) (by kernel_rfl) (by kernel_rfl) (fun _ _ _ h => h) (Or.inl ⟨by rfl, ?_⟩) hc12 ?_
                rotate_left 1
                · (intro w' hS'; go_simp; try with_reducible rfl)
                refine wpAnyG_take (i := 7) (v := ?_) [10] rfl (by kernel_rfl) (by kernel_rfl) (by kernel_rfl) (by kernel_rfl) (fun _ _ _ h => h) (Or.inl ⟨by rfl, ?_⟩) hc12 ?_
                rotate_left 1
                · (intro w' hS'; go_simp; try with_reducible rfl)
                refine wpAnyG_ready (rs := [8]) (by kernel_rfl) (by simp) ?_
                refine AllReadyG.cons rfl (fun K hK => ?_) ?_
                · go_simp
                  change K _ (w112.alloc (.cells zCells 24))
                  have hb13 : Below w112.heap.size w112 (w112.alloc (.cells zCells 24)) := balloc (Below.refl _ _) _
                  have hc13 : Below W11.heap.size W11 (w112.alloc (.cells zCells 24)) := bthen hc12 hb13
                  have rm13 := Lib.hid (Room.new w112 zCells rfl 24)
                  refine hK _ _ (fun _ => hc13) ?_
                  clear hK
                  generalize w112.alloc (.cells zCells 24) = w113 at *
                  obtain ⟨hlt, hroom⟩ := rm13.out
                  obtain ⟨⟨v0, r0⟩, f0⟩ := hroom 0 (by omega)
                  obtain ⟨⟨v1, r1⟩, f1⟩ := hroom 1 (by omega)
                  obtain ⟨⟨v2, r2⟩, f2⟩ := hroom 2 (by omega)
                  obtain ⟨⟨v3, r3⟩, f3⟩ := hroom 3 (by omega)
                  obtain ⟨⟨v4, r4⟩, f4⟩ := hroom 4 (by omega)
                  obtain ⟨⟨v5, r5⟩, f5⟩ := hroom 5 (by omega)
                  obtain ⟨⟨v6, r6⟩, f6⟩ := hroom 6 (by omega)
                  obtain ⟨⟨v7, r7⟩, f7⟩ := hroom 7 (by omega)
                  clear hroom hlt
                  refine wpAnyG_ready (rs := [9]) (by kernel_rfl) (by simp) ?_
                  refine AllReadyG.cons rfl (fun K hK => ?_) ?_
                  · go_simp
                    change K _ (put8 w113 (w112.heap.size) (findD [d] (keyS o)) Af kf)
                    have hcq : Below W11.heap.size W11 (put8 w113 (w112.heap.size) (findD [d] (keyS o)) Af kf) := below_put8 hc13 (w112.heap.size) (by (first | exact Nat.le_refl _ | (with_reducible exact Below.size (by with_reducible assumption)))) (findD [d] (keyS o)) Af kf
                    refine hK _ _ (fun _ => hcq) ?_
                    clear hK r0 r1 r2 r3 r4 r5 r6 r7 f0 f1 f2 f3 f4 f5 f6 f7
                    generalize put8 w113 (w112.heap.size) (findD [d] (keyS o)) Af kf = wq at *
                    refine wpAnyG_ready (rs := [10]) (by kernel_rfl) (by simp) ?_
                    refine AllReadyG.cons rfl (fun K hK => ?_) ?_
                    · go_simp
                      refine hK _ _ (fun h => absurd h (by (intro h; have : (true : Bool) = false := h; cases this))) ?_
                      clear hK
                      refine wpAnyG_done (by kernel_rfl) ?_ _
                      simp only [Exit.then]
                      apply_assumption
                      refine Met.intro ?_
                      apply_assumption
                      (repeat apply Exists.intro)
                      refine ⟨⟨rfl, hcq⟩, rfl⟩
                    exact AllReadyG.nil
                  exact AllReadyG.nil
                exact AllReadyG.nil
              refine AllReadyG.cons rfl (fun K hK => ?_) ?_
              · go_simp
                change K _ (w111.alloc (.cells zCells 24))
                have hb14 : Below w111.heap.size w111 (w111.alloc (.cells zCells 24)) := balloc (Below.refl _ _) _
                have hc14 : Below W11.heap.size W11 (w111.alloc (.cells zCells 24)) := bthen hc11 hb14
                have rm14 := Lib.hid (Room.new w111 zCells rfl 24)
                refine hK _ _ (fun _ => hc14) ?_
                clear hK
                generalize w111.alloc (.cells zCells 24) = w114 at *
                have rd14 := Lib.hid (rd11.out.below hb14)
                refine wpAnyG_ready (rs := [4]) (by kernel_rfl) (by simp) ?_
                refine AllReadyG.cons rfl (fun K hK => ?_) ?_
                · go_simp
                  refine (find_any (some ⟨w110.heap.size, 0, none⟩) 1 [d] (keyS o) _ (Nat.le_refl _) rd14.out HOK1.out).mono ?_
                  rintro e w115 ⟨Af, kf, rfl, hof, hb15⟩
                  clear hof
                  have hc15 := bthen hc14 hb15
                  refine hK _ _ (fun _ => hc15) ?_
                  clear hK
                  have rm15 := Lib.hid (rm14.out.below hb15)
                  refine wpAnyG_take (i := 5) (v := ?_) [10] rfl (by kernel_rfl) (by kernel_rfl) (by kernel_rfl) (by kernel_rfl) (fun _ _ _ h => h) (Or.inl ⟨by rfl, ?_⟩) hc15 ?_
                  rotate_left 1
                  · (intro w' hS'; go_simp; try with_reducible rfl)
                  refine wpAnyG_take (i := 6) (v := ?_) [10] rfl (by kernel_rfl) (by kernel_rfl) (by kernel_rfl) (by kernel_rfl) (fun _ _ _ h => h) (Or.inl ⟨by rfl, ?_⟩) hc15 ?_
                  rotate_left 1
                  · (intro w' hS'; go_simp; try with_reducible rfl)
                  refine wpAnyG_take (i := 7) (v := ?_) [10] rfl (by kernel_rfl) (by kernel_rfl) (by kernel_rfl) (by kernel_rfl) (fun _ _ _ h => h) (Or.inl ⟨by rfl, ?_⟩) hc15 ?_
                  rotate_left 1
                  · (intro w' hS'; go_simp; try with_reducible rfl)
                  obtain ⟨hlt, hroom⟩ := rm15.out
                  obtain ⟨⟨v0, r0⟩, f0⟩ := hroom 0 (by omega)
                  obtain ⟨⟨v1, r1⟩, f1⟩ := hroom 1 (by omega)
                  obtain ⟨⟨v2, r2⟩, f2⟩ := hroom 2 (by omega)
                  obtain ⟨⟨v3, r3⟩, f3⟩ := hroom 3 (by omega)
                  obtain ⟨⟨v4, r4⟩, f4⟩ := hroom 4 (by omega)
                  obtain ⟨⟨v5, r5⟩, f5⟩ := hroom 5 (by omega)
                  obtain ⟨⟨v6, r6⟩, f6⟩ := hroom 6 (by omega)
                  obtain ⟨⟨v7, r7⟩, f7⟩ := hroom 7 (by omega)
                  clear hroom hlt
                  refine wpAnyG_ready (rs := [9]) (by kernel_rfl) (by simp) ?_
                  refine AllReadyG.cons rfl (fun K hK => ?_) ?_
                  · go_simp
                    change K _ (put8 w115 (w111.heap.size) (findD [d] (keyS o)) Af kf)
                    have hcq : Below W11.heap.size W11 (put8 w115 (w111.heap.size) (findD [d] (keyS o)) Af kf) := below_put8 hc15 (w111.heap.size) (by (first | exact Nat.le_refl _ | (with_reducible exact Below.size (by with_reducible assumption)))) (findD [d] (keyS o)) Af kf
                    refine hK _ _ (fun _ => hcq) ?_
                    clear hK r0 r1 r2 r3 r4 r5 r6 r7 f0 f1 f2 f3 f4 f5 f6 f7
                    generalize put8 w115 (w111.heap.size) (findD [d] (keyS o)) Af kf = wq at *
                    refine wpAnyG_ready (rs := [10]) (by kernel_rfl) (by simp) ?_
                    refine AllReadyG.cons rfl (fun K hK => ?_) ?_
                    · go_simp
                      refine hK _ _ (fun h => absurd h (by (intro h; have : (true : Bool) = false := h; cases this))) ?_
                      clear hK
                      refine wpAnyG_done (by kernel_rfl) ?_ _
                      simp only [Exit.then]
                      apply_assumption
                      refine Met.intro ?_
                      apply_assumption
                      (repeat apply Exists.intro)
                      refine ⟨⟨rfl, hcq⟩, rfl⟩
                    exact AllReadyG.nil
                  exact AllReadyG.nil
                exact AllReadyG.nil
              exact AllReadyG.nil
            refine AllReadyG.cons rfl (fun K hK => ?_) ?_
            · go_simp
              change K _ (w110.alloc (.cells zCells 24))
              have hb16 : Below w110.heap.size w110 (w110.alloc (.cells zCells 24)) := balloc (Below.refl _ _) _
              have hc16 : Below W11.heap.size W11 (w110.alloc (.cells zCells 24)) := bthen hc10 hb16
              have rm16 := Lib.hid (Room.new w110 zCells rfl 24)
              refine hK _ _ (fun _ => hc16) ?_
              clear hK
              generalize w110.alloc (.cells zCells 24) = w116 at *
              refine wpAnyG_ready (rs := [1]) (by kernel_rfl) (by simp) ?_
              refine AllReadyG.cons rfl (fun K hK => ?_) ?_
              · go_simp
                change K _ (w116.alloc (DC d A k))
                have hb17 : Below w116.heap.size w116 (w116.alloc (DC d A k)) := balloc (Below.refl _ _) _
                have hc17 : Below W11.heap.size W11 (w116.alloc (DC d A k)) := bthen hc16 hb17
                have rd17 := Lib.hid (readsDp_box (At8.new w116 d A k (Q4.out.r.below hc16)))
                refine hK _ _ (fun _ => hc17) ?_
                clear hK
                generalize w116.alloc (DC d A k) = w117 at *
                have rm17 := Lib.hid (rm16.out.below hb17)
                refine wpAnyG_ready (rs := [4]) (by kernel_rfl) (by simp) ?_
                refine AllReadyG.cons rfl (fun K hK => ?_) ?_
                · go_simp
                  refine (find_any (some ⟨w116.heap.size, 0, none⟩) 1 [d] (keyS o) _ (Nat.le_refl _) rd17.out HOK1.out).mono ?_
                  rintro e w118 ⟨Af, kf, rfl, hof, hb18⟩
                  clear hof
                  have hc18 := bthen hc17 hb18
                  refine hK _ _ (fun _ => hc18) ?_
                  clear hK
                  have rm18 := Lib.hid (rm17.out.below hb18)
                  refine wpAnyG_take (i := 5) (v := ?_) [10] rfl (by kernel_rfl) (by kernel_rfl) (by kernel_rfl) (by kernel_rfl) (fun _ _ _ h => h) (Or.inl ⟨by rfl, ?_⟩) hc18 ?_
                  rotate_left 1
                  · (intro w' hS'; go_simp; try with_reducible rfl)
                  refine wpAnyG_take (i := 6) (v := ?_) [10] rfl (by kernel_rfl) (by kernel_rfl) (by kernel_rfl) (by kernel_rfl) (fun _ _ _ h => h) (Or.inl ⟨by rfl, ?_⟩) hc18 ?_
                  rotate_left 1
                  · (intro w' hS'; go_simp; try with_reducible rfl)
                  refine wpAnyG_take (i := 7) (v := ?_) [10] rfl (by kernel_rfl) (by kernel_rfl) (by kernel_rfl) (by kernel_rfl) (fun _ _ _ h => h) (Or.inl ⟨by rfl, ?_⟩) hc18 ?_
                  rotate_left 1
                  · (intro w' hS'; go_simp; try with_reducible rfl)
                  obtain ⟨hlt, hroom⟩ := rm18.out
                  obtain ⟨⟨v0, r0⟩, f0⟩ := hroom 0 (by omega)
                  obtain ⟨⟨v1, r1⟩, f1⟩ := hroom 1 (by omega)
                  obtain ⟨⟨v2, r2⟩, f2⟩ := hroom 2 (by omega)
                  obtain ⟨⟨v3, r3⟩, f3⟩ := hroom 3 (by omega)
                  obtain ⟨⟨v4, r4⟩, f4⟩ := hroom 4 (by omega)
                  obtain ⟨⟨v5, r5⟩, f5⟩ := hroom 5 (by omega)
                  obtain ⟨⟨v6, r6⟩, f6⟩ := hroom 6 (by omega)
                  obtain ⟨⟨v7, r7⟩, f7⟩ := hroom 7 (by omega)
                  clear hroom hlt
                  refine wpAnyG_ready (rs := [9]) (by kernel_rfl) (by simp) ?_
                  refine AllReadyG.cons rfl (fun K hK => ?_) ?_
                  · go_simp
                    change K _ (put8 w118 (w110.heap.size) (findD [d] (keyS o)) Af kf)
                    have hcq : Below W11.heap.size W11 (put8 w118 (w110.heap.size) (findD [d] (keyS o)) Af kf) := below_put8 hc18 (w110.heap.size) (by (first | exact Nat.le_refl _ | (with_reducible exact Below.size (by with_reducible assumption)))) (findD [d] (keyS o)) Af kf
                    refine hK _ _ (fun _ => hcq) ?_
                    clear hK r0 r1 r2 r3 r4 r5 r6 r7 f0 f1 f2 f3 f4 f5 f6 f7
                    generalize put8 w118 (w110.heap.size) (findD [d] (keyS o)) Af kf = wq at *
                    refine wpAnyG_ready (rs := [10]) (by kernel_rfl) (by simp) ?_
                    refine AllReadyG.cons rfl (fun K hK => ?_) ?_
                    · go_simp
                      refine hK _ _ (fun h => absurd h (by (intro h; have : (true : Bool) = false := h; cases this))) ?_
                      clear hK
                      refine wpAnyG_done (by kernel_rfl) ?_ _
                      simp only [Exit.then]
                      apply_assumption
                      refine Met.intro ?_
                      apply_assumption
                      (repeat apply Exists.intro)
                      refine ⟨⟨rfl, hcq⟩, rfl⟩
                    exact AllReadyG.nil
                  exact AllReadyG.nil
                exact AllReadyG.nil
              exact AllReadyG.nil
            exact AllReadyG.nil
          refine AllReadyG.cons rfl (fun K hK => ?_) ?_
          · go_simp
            change K _ (w100.alloc (.cells zCells 24))
            have hb19 : Below w100.heap.size w100 (w100.alloc (.cells zCells 24)) := balloc (Below.refl _ _) _
            have hc19 : Below W11.heap.size W11 (w100.alloc (.cells zCells 24)) := bthen h00 hb19
            have rm19 := Lib.hid (Room.new w100 zCells rfl 24)
            refine hK _ _ (fun _ => hc19) ?_
            clear hK
            generalize w100.alloc (.cells zCells 24) = w119 at *
            refine wpAnyG_ready (rs := [1, 3]) (by kernel_rfl) (by simp) ?_
            refine AllReadyG.cons rfl (fun K hK => ?_) ?_
            · go_simp
              change K _ (w119.alloc (DC d A k))
              have hb20 : Below w119.heap.size w119 (w119.alloc (DC d A k)) := balloc (Below.refl _ _) _
              have hc20 : Below W11.heap.size W11 (w119.alloc (DC d A k)) := bthen hc19 hb20
              have rd20 := Lib.hid (readsDp_box (At8.new w119 d A k (Q4.out.r.below hc19)))
              refine hK _ _ (fun _ => hc20) ?_
              clear hK
              generalize w119.alloc (DC d A k) = w120 at *
              have rm20 := Lib.hid (rm19.out.below hb20)
              refine wpAnyG_ready (rs := [3]) (by kernel_rfl) (by simp) ?_
              refine AllReadyG.cons rfl (fun K hK => ?_) ?_
              · go_simp
                refine (rkey_big o A k _ HOO.out).mono ?_
                rintro e w121 ⟨rfl, hb21⟩
                have hc21 := bthen hc20 hb21
                refine hK _ _ (fun _ => hc21) ?_
                clear hK
                have rm21 := Lib.hid (rm20.out.below hb21)
                have rd21 := Lib.hid (rd20.out.below hb21)
                refine wpAnyG_ready (rs := [4]) (by kernel_rfl) (by simp) ?_
                refine AllReadyG.cons rfl (fun K hK => ?_) ?_
                · go_simp
                  refine (find_any (some ⟨w119.heap.size, 0, none⟩) 1 [d] (keyS o) _ (Nat.le_refl _) rd21.out HOK1.out).mono ?_
                  rintro e w122 ⟨Af, kf, rfl, hof, hb22⟩
                  clear hof
                  have hc22 := bthen hc21 hb22
                  refine hK _ _ (fun _ => hc22) ?_
                  clear hK
                  have rm22 := Lib.hid (rm21.out.below hb22)
                  refine wpAnyG_take (i := 5) (v := ?_) [10] rfl (by kernel_rfl) (by kernel_rfl) (by kernel_rfl) (by kernel_rfl) (fun _ _ _ h => h) (Or.inl ⟨by rfl, ?_⟩) hc22 ?_
                  rotate_left 1
                  · (intro w' hS'; go_simp; try with_reducible rfl)
                  refine wpAnyG_take (i := 6) (v := ?_) [10] rfl (by kernel_rfl) (by kernel_rfl) (by kernel_rfl) (by kernel_rfl) (fun _ _ _ h => h) (Or.inl ⟨by rfl, ?_⟩) hc22 ?_
                  rotate_left 1
                  · (intro w' hS'; go_simp; try with_reducible rfl)
                  refine wpAnyG_take (i := 7) (v := ?_) [10] rfl (by kernel_rfl) (by kernel_rfl) (by kernel_rfl) (by kernel_rfl) (fun _ _ _ h => h) (Or.inl ⟨by rfl, ?_⟩) hc22 ?_
                  rotate_left 1
                  · (intro w' hS'; go_simp; try with_reducible rfl)
                  obtain ⟨hlt, hroom⟩ := rm22.out
                  obtain ⟨⟨v0, r0⟩, f0⟩ := hroom 0 (by omega)
                  obtain ⟨⟨v1, r1⟩, f1⟩ := hroom 1 (by omega)
                  obtain ⟨⟨v2, r2⟩, f2⟩ := hroom 2 (by omega)
                  obtain ⟨⟨v3, r3⟩, f3⟩ := hroom 3 (by omega)
                  obtain ⟨⟨v4, r4⟩, f4⟩ := hroom 4 (by omega)
                  obtain ⟨⟨v5, r5⟩, f5⟩ := hroom 5 (by omega)
                  obtain ⟨⟨v6, r6⟩, f6⟩ := hroom 6 (by omega)
                  obtain ⟨⟨v7, r7⟩, f7⟩ := hroom 7 (by omega)
                  clear hroom hlt
                  refine wpAnyG_ready (rs := [9]) (by kernel_rfl) (by simp) ?_
                  refine AllReadyG.cons rfl (fun K hK => ?_) ?_
                  · go_simp
                    change K _ (put8 w122 (w100.heap.size) (findD [d] (keyS o)) Af kf)
                    have hcq : Below W11.heap.size W11 (put8 w122 (w100.heap.size) (findD [d] (keyS o)) Af kf) := below_put8 hc22 (w100.heap.size) (by (first | exact Nat.le_refl _ | (with_reducible exact Below.size (by with_reducible assumption)))) (findD [d] (keyS o)) Af kf
                    refine hK _ _ (fun _ => hcq) ?_
                    clear hK r0 r1 r2 r3 r4 r5 r6 r7 f0 f1 f2 f3 f4 f5 f6 f7
                    generalize put8 w122 (w100.heap.size) (findD [d] (keyS o)) Af kf = wq at *
                    refine wpAnyG_ready (rs := [10]) (by kernel_rfl) (by simp) ?_
                    refine AllReadyG.cons rfl (fun K hK => ?_) ?_
                    · go_simp
                      refine hK _ _ (fun h => absurd h (by (intro h; have : (true : Bool) = false := h; cases this))) ?_
                      clear hK
                      refine wpAnyG_done (by kernel_rfl) ?_ _
                      simp only [Exit.then]
                      apply_assumption
                      refine Met.intro ?_
                      apply_assumption
                      (repeat apply Exists.intro)
                      refine ⟨⟨rfl, hcq⟩, rfl⟩
                    exact AllReadyG.nil
                  exact AllReadyG.nil
                exact AllReadyG.nil
              exact AllReadyG.nil
            refine AllReadyG.cons rfl (fun K hK => ?_) ?_
            · go_simp
              refine (rkey_big o A k _ HOO.out).mono ?_
              rintro e w123 ⟨rfl, hb23⟩
              have hc23 := bthen hc19 hb23
              refine hK _ _ (fun _ => hc23) ?_
              clear hK
              have rm23 := Lib.hid (rm19.out.below hb23)
              refine wpAnyG_ready (rs := [1]) (by kernel_rfl) (by simp) ?_
              refine AllReadyG.cons rfl (fun K hK => ?_) ?_
              · go_simp
                change K _ (w123.alloc (DC d A k))
                have hb24 : Below w123.heap.size w123 (w123.alloc (DC d A k)) := balloc (Below.refl _ _) _
                have hc24 : Below W11.heap.size W11 (w123.alloc (DC d A k)) := bthen hc23 hb24
                have rd24 := Lib.hid (readsDp_box (At8.new w123 d A k (Q4.out.r.below hc23)))
                refine hK _ _ (fun _ => hc24) ?_
                clear hK
                generalize w123.alloc (DC d A k) = w124 at *
                have rm24 := Lib.hid (rm23.out.below hb24)
                refine wpAnyG_ready (rs := [4]) (by kernel_rfl) (by simp) ?_
                refine AllReadyG.cons rfl (fun K hK => ?_) ?_
                · go_simp
                  refine (find_any (some ⟨w123.heap.size, 0, none⟩) 1 [d] (keyS o) _ (Nat.le_refl _) rd24.out HOK1.out).mono ?_
                  rintro e w125 ⟨Af, kf, rfl, hof, hb25⟩
                  clear hof
                  have hc25 := bthen hc24 hb25
                  refine hK _ _ (fun _ => hc25) ?_
                  clear hK
                  have rm25 := Lib.hid (rm24.out.below hb25)
                  refine wpAnyG_take (i := 5) (v := ?_) [10] rfl (by kernel_rfl) (by kernel_rfl) (by kernel_rfl) (by kernel_rfl) (fun _ _ _ h => h) (Or.inl ⟨by rfl, ?_⟩) hc25 ?_
                  rotate_left 1
                  · (intro w' hS'; go_simp; try with_reducible rfl)
                  refine wpAnyG_take (i := 6) (v := ?_) [10] rfl (by kernel_rfl) (by kernel_rfl) (by kernel_rfl) (by kernel_rfl) (fun _ _ _ h => h) (Or.inl ⟨by rfl, ?_⟩) hc25 ?_
                  rotate_left 1
                  · (intro w' hS'; go_simp; try with_reducible rfl)
                  refine wpAnyG_take (i := 7) (v := ?_) [10] rfl (by kernel_rfl) (by kernel_rfl) (by kernel_rfl) (by kernel_rfl) (fun _ _ _ h => h) (Or.inl ⟨by rfl, ?_⟩) hc25 ?_
                  rotate_left 1
                  · (intro w' hS'; go_simp; try with_reducible rfl)
                  obtain ⟨hlt, hroom⟩ := rm25.out
                  obtain ⟨⟨v0, r0⟩, f0⟩ := hroom 0 (by omega)
                  obtain ⟨⟨v1, r1⟩, f1⟩ := hroom 1 (by omega)
                  obtain ⟨⟨v2, r2⟩, f2⟩ := hroom 2 (by omega)
                  obtain ⟨⟨v3, r3⟩, f3⟩ := hroom 3 (by omega)
                  obtain ⟨⟨v4, r4⟩, f4⟩ := hroom 4 (by omega)
                  obtain ⟨⟨v5, r5⟩, f5⟩ := hroom 5 (by omega)
                  obtain ⟨⟨v6, r6⟩, f6⟩ := hroom 6 (by omega)
                  obtain ⟨⟨v7, r7⟩, f7⟩ := hroom 7 (by omega)
                  clear hroom hlt
                  refine wpAnyG_ready (rs := [9]) (by kernel_rfl) (by simp) ?_
                  refine AllReadyG.cons rfl (fun K hK => ?_) ?_
                  · go_simp
                    change K _ (put8 w125 (w100.heap.size) (findD [d] (keyS o)) Af kf)
                    have hcq : Below W11.heap.size W11 (put8 w125 (w100.heap.size) (findD [d] (keyS o)) Af kf) := below_put8 hc25 (w100.heap.size) (by (first | exact Nat.le_refl _ | (with_reducible exact Below.size (by with_reducible assumption)))) (findD [d] (keyS o)) Af kf
                    refine hK _ _ (fun _ => hcq) ?_
                    clear hK r0 r1 r2 r3 r4 r5 r6 r7 f0 f1 f2 f3 f4 f5 f6 f7
                    generalize put8 w125 (w100.heap.size) (findD [d] (keyS o)) Af kf = wq at *
                    refine wpAnyG_ready (rs := [10]) (by kernel_rfl) (by simp) ?_
                    refine AllReadyG.cons rfl (fun K hK => ?_) ?_
                    · go_simp
                      refine hK _ _ (fun h => absurd h (by (intro h; have : (true : Bool) = false := h; cases this))) ?_
                      clear hK
                      refine wpAnyG_done (by kernel_rfl) ?_ _
                      simp only [Exit.then]
                      apply_assumption
                      refine Met.intro ?_
                      apply_assumption
                      (repeat apply Exists.intro)
                      refine ⟨⟨rfl, hcq⟩, rfl⟩
                    exact AllReadyG.nil
                  exact AllReadyG.nil
                exact AllReadyG.nil
              exact AllReadyG.nil
            exact AllReadyG.nil
          exact AllReadyG.nil
        case rest =>
          obtain ⟨rfl, hc12⟩ := hcut
          have T4 := Lib.hid (Q4.out.below hc12)
          have T8 := Lib.hid (Q8.out.below hc12)
          have TX := Lib.hid (QX.out.below hc12)
          have T14 := Lib.hid (Q14.out.below hc12)
          have TB := Lib.hid (bthen QB.out hc12)
          clear Q4 Q8 QX Q14 QB C4 C14 hc12
          have hfe : findB [d] (keyS o) = ((keyS d).toList == (keyS o).toList) := by simp only [findB, List.any_cons, List.any_nil, Bool.or_false, hasKey]
          rw [hfe]
          clear hfe
          have hel : f.e.length ≤ 4398046511104 := by have := HF.out.2.2.2.2.2.2; omega
          have C4 := T4.out.cells
          have C8 := T8.out.cells
          have CX := TX.out.cells
          have C14 := T14.out.cells
          have hsym : ((keyS o).toList == (keyS d).toList) = ((keyS d).toList == (keyS o).toList) := by rw [Bool.eq_iff_iff]; simp only [beq_iff_eq]; exact ⟨Eq.symm, Eq.symm⟩
          go_upto_region 15 with (fail)
          go_cut [6] (fun v wq => v = .bool true ∧ Below wc.heap.size wc wq)
          case first =>
            go_region_held3 (fun w' => Below wc.heap.size wc w') ((repeat (first | (with_reducible exact Below.refl _ _) | (with_reducible assumption) | (refine bthen ?_ (by with_reducible assumption)) | (refine balloc ?_ _) | (refine bdrew ?_)))) ((first
              | (go_at_call 6; refine (awake_any _).mono ?_; rintro e wa ⟨rfl, hba⟩)
              | (go_at_call 9; with_reducible refine (rkey_big o A k _ HOO.out).mono ?_; rintro e wb ⟨rfl, hbb⟩)
              | (go_at_call 9; with_reducible refine (rkey_any d A k _ HDOK.out).mono ?_; rintro e wb ⟨rfl, hbb⟩)
              | (go_at_call 10; with_reducible refine (dep_any f A8 Ax k8 kx _ hel (T8.out.r.below (by with_reducible assumption)) (TX.out.r.below (by with_reducible assumption))).mono ?_; rintro e wd ⟨rfl, hbd⟩)))
            simp only [Exit.then]
            apply_assumption
            refine Met.intro ?_
            apply_assumption
            (repeat apply Exists.intro)
            refine ⟨⟨?_, ?_⟩, rfl⟩
            · first | rfl | (rw [hsym]; simp) | simp
            · with_reducible assumption
          case rest =>
            obtain ⟨rfl, hc13⟩ := hcut
            go_wp2_with fail
            go_ret
            exact ⟨rfl, bthen TB.out hc13⟩
      · obtain ⟨m, rfl⟩ : ∃ m, n = m + 1 := ⟨n - 1, by omega⟩
        obtain rfl : i = (m : Int) := by omega
        obtain ⟨ad, rfl, hcs⟩ := JL.out (by omega)
        obtain ⟨Ay, ky, hy0⟩ := hcs m (by omega)
        have HD := Lib.hid (drop_dp l m (by omega))
        have HYOK := Lib.hid (HOK.out _ (getD_mem l m (by omega)))
        clear hcs
        generalize l.getD m zD = y at hy0 HD HYOK
        have HY := Lib.hid (hy0.below hbr)
        have HYR := Lib.hid hy0.2.2.2.2.2.2.2.2
        have CY := HY.out.cells
        have C4 := (J4.out.below hbr).cells
        have hm0 : (0 : Int) ≤ (m : Int) := by omega
        have hm1 : (m : Int) < (l.length : Int) := by omega
        have hm2 : (m : Int) ≤ (l.length : Int) := by omega
        clear hy0 hi hn0
        go_upto_region 9 with (fail)
        go_cut [53] (fun v wq => v = .bool ((keyS y).toList == (keyS d).toList) ∧ Below wr.heap.size wr wq)
        case first =>
          go_region_held3 (fun w' => Below wr.heap.size wr w') ((repeat (first | (with_reducible exact Below.refl _ _) | (with_reducible assumption) | (refine bthen ?_ (by with_reducible assumption)) | (refine balloc ?_ _) | (refine bdrew ?_)))) ((first
            | (go_at_call 9; with_reducible refine (rkey_any y Ay ky _ HYOK.out).mono ?_; rintro e wb ⟨rfl, hbb⟩)
            | (go_at_call 9; with_reducible refine (rkey_any d A k _ HDOK.out).mono ?_; rintro e wb ⟨rfl, hbb⟩)))
          simp only [Exit.then]
          apply_assumption
          refine Met.intro ?_
          apply_assumption
          (repeat apply Exists.intro)
          refine ⟨⟨?_, ?_⟩, rfl⟩
          · rfl
          · with_reducible assumption
        case rest =>
          obtain ⟨rfl, hbq⟩ := hcut
          have hbr2 : Below W6.heap.size W6 wc := bthen hbr hbq
          obtain ⟨y0, y1, y2, y3, y4, y5, y6, y7, _⟩ := HY.out.below hbq
          have HXq := Lib.hid (HX.out.below hbq)
          clear CY C4 HX
          rcases Bool.eq_false_or_eq_true ((keyS y).toList == (keyS d).toList) with hky | hky
          · have HFY : Hid (firstL (l.drop m) d = y) := by show _ = _; rw [HD.out]; exact firstL_pos hky
            rw [hky]
            obtain ⟨xlt, x0, x1, x2, x3, x4, x5, x6, x7, xfr⟩ := HXq.out
            have f0 := xfr 0 (by omega)
            have f1 := xfr 1 (by omega)
            have f2 := xfr 2 (by omega)
            have f3 := xfr 3 (by omega)
            have f4 := xfr 4 (by omega)
            have f5 := xfr 5 (by omega)
            have f6 := xfr 6 (by omega)
            have f7 := xfr 7 (by omega)
            clear xfr xlt hky
            go_wp2_with fail
            go_roundw
            case rel => exact ⟨m, (m : Int) - 1, y, Ay, ky, by go_num, rfl, by omega, Own8.of_put8 HXq.out.room y Ay ky, HYR, below_put8 hbr2 W6.heap.size (Nat.le_refl _) y Ay ky, HFY⟩
            case measure => simp [intOf]
          · have HFY : Hid (firstL (l.drop m) d = x) := by show _ = _; rw [HD.out, firstL_neg hky]; exact HFX.out
            rw [hky]
            clear hky y0 y1 y2 y3 y4 y5 y6 y7
            go_wp2_with fail
            go_roundw
            case rel => exact ⟨m, (m : Int) - 1, x, Ax, kx, by go_num, rfl, by omega, HXq, HXR, hbr2, HFY⟩
            case measure => simp [intOf]
end Go.Proofs.Ytfcnmghhhgghcaa
