/- The walk of ManageStays. -/
import Derived.Test.YtfcnmghhhgghcaaT
namespace Go.Proofs.Ytfcnmghhhgghcaa
open Go.RowKit

set_option maxHeartbeats 8000000 in
set_option maxRecDepth 100000 in
theorem stays_walk (d : Dp) (A : Option Addr) (k : Nat) (B : Option Addr) (c : Nat) (l : List Dp) (w : World) (hd : DpOk d) (hr : ReadsEx w A d.e) (hn : l.length ≤ c) (hl : ReadsDp w B l) (hok : ∀ x ∈ l, DpOk x)
    (hsum : d.e.length + (findD l (keyS d)).e.length ≤ 4398046510976) :
    Calls Try.prog 4 #[DV d A k, .slice B l.length c] w fun e w' => e = .returned (.bool true) ∧ Below w.heap.size w w' := by
  have HOK := Lib.hid hok
  have HDOK := Lib.hid hd
  have HG := Lib.hid (dpok_find (key := keyS d) hok)
  have H2 := Lib.hid (At8.new w d A k hr)
  have HL := Lib.hid (readsDp_alloc hl (DC d A k))
  have HB0 : Hid (Below w.heap.size w (w.alloc (DC d A k))) := Lib.hid (balloc (Below.refl _ _) _)
  clear hok hd hr hl
  by_cases h60 : (60 : Int) < l.length
  · go_enter Try.func4, Try.ntmps4
    go_wp2_with fail
    refine (awake_any _).mono ?_
    rintro e w1 ⟨rfl, hb1⟩
    go_wp2_with fail
    go_ret
    exact ⟨rfl, bthen HB0.out hb1⟩
  have hn6 : l.length ≤ 100000 := by omega
  have hsum' : d.e.length + (findD l (keyS d)).e.length ≤ 4398046511104 := by omega
  go_enter Try.func4, Try.ntmps4
  go_upto_region 3 with (fail)
  change Code.wp _ _ _ _ (w.alloc (DC d A k))
  generalize hW : w.alloc (DC d A k) = W at *
  generalize hb2e : w.heap.size = b2 at *
  clear hW
  have C2 := H2.out.cells
  go_cut [5, 6] (fun v5 v6 wc => ∃ (b5 b6 : Nat) (A5 : Option Addr) (k5 : Nat) (A6 : Option Addr) (k6 : Nat), v5 = .pointer (some ⟨b5, 0, none⟩) ∧ v6 = .pointer (some ⟨b6, 0, none⟩) ∧ At8 wc b5 (injM d l) A5 k5 ∧ At8 wc b6 (ovM d l) A6 k6 ∧ Below W.heap.size W wc)
  case first =>
    refine wp_region_guarded (S := fun w' => Below W.heap.size W w') (g := 8) (by kernel_rfl) ?_
    have hS : Below W.heap.size W W.drew := bdrew (Below.refl _ _)
    refine wpAnyG_take (i := 0) (v := ?_) [2, 8] rfl (by kernel_rfl) (by kernel_rfl) (by kernel_rfl) (by kernel_rfl) (fun _ _ _ h => h) (Or.inl ⟨by rfl, ?_⟩) hS ?_
    rotate_left 1
    · (intro w' hS'; go_simp; try with_reducible rfl)
    refine wpAnyG_take (i := 1) (v := ?_) [2, 8] rfl (by kernel_rfl) (by kernel_rfl) (by kernel_rfl) (by kernel_rfl) (fun _ _ _ h => h) (Or.inl ⟨by rfl, ?_⟩) hS ?_
    rotate_left 1
    · (intro w' hS'; go_simp; try with_reducible rfl)
    refine wpAnyG_take (i := 3) (v := ?_) [5, 8] rfl (by kernel_rfl) (by kernel_rfl) (by kernel_rfl) (by kernel_rfl) (fun _ _ _ h => h) (Or.inl ⟨by rfl, ?_⟩) hS ?_
    rotate_left 1
    · (intro w' hS'; go_simp; try with_reducible rfl)
    refine wpAnyG_take (i := 4) (v := ?_) [5, 8] rfl (by kernel_rfl) (by kernel_rfl) (by kernel_rfl) (by kernel_rfl) (fun _ _ _ h => h) (Or.inl ⟨by rfl, ?_⟩) hS ?_
    rotate_left 1
    · (intro w' hS'; go_simp; try with_reducible rfl)
    have HLd : Hid (ReadsDp W.drew B l) := Lib.hid (HL.out.below hS)
    have KRd : Hid (ReadsEx W.drew A d.e) := Lib.hid (H2.out.r.below hS)
    have h00 : Below W.heap.size W W.drew := hS
    generalize W.drew = w0 at *
    refine wpAnyG_ready (rs := [2, 6, 7]) (by kernel_rfl) (by simp) ?_
    refine AllReadyG.cons rfl (fun K hK => ?_) ?_
    · go_simp
      refine (inject_any d A k B c l _ HDOK.out (KRd.out.below (Below.refl _ _)) hn HLd.out HOK.out).mono ?_
      rintro e w1 ⟨AI1, kI1, rfl, ho1, hr1, hb1⟩
      have hc1 : Below W.heap.size W w1 := bthen h00 hb1
      refine hK _ _ (fun _ => hc1) ?_
      clear hK
      have rI1 := Lib.hid hr1
      clear ho1 hr1
      have R1 := Lib.hid (KRd.out.below hb1)
      have L1 := Lib.hid (HLd.out.below hb1)
      refine wpAnyG_ready (rs := [5, 6, 7]) (by kernel_rfl) (by simp) ?_
      refine AllReadyG.cons rfl (fun K hK => ?_) ?_
      · go_simp
        refine (override_any d A k B c l _ HDOK.out (R1.out.below (Below.refl _ _)) hn L1.out HOK.out hsum').mono ?_
        rintro e w2 ⟨AO2, kO2, rfl, ho2, hr2, hb2⟩
        have hc2 : Below W.heap.size W w2 := bthen hc1 hb2
        refine hK _ _ (fun _ => hc2) ?_
        clear hK
        have rO2 := Lib.hid hr2
        clear ho2 hr2
        have rI_2 := Lib.hid (rI1.out.below hb2)
        have R2 := Lib.hid (R1.out.below hb2)
        have L2 := Lib.hid (L1.out.below hb2)
        refine wpAnyG_ready (rs := [6, 7]) (by kernel_rfl) (by simp) ?_
        refine AllReadyG.cons rfl (fun K hK => ?_) ?_
        · go_simp
          change K _ (w2.alloc (.cells zCells 24))
          have hb3 : Below w2.heap.size w2 (w2.alloc (.cells zCells 24)) := balloc (Below.refl _ _) _
          have hc3 : Below W.heap.size W (w2.alloc (.cells zCells 24)) := bthen hc2 hb3
          have rm5_3 := Lib.hid (Room.new w2 zCells rfl 24)
          refine hK _ _ (fun _ => hc3) ?_
          clear hK
          generalize w2.alloc (.cells zCells 24) = w3 at *
          have nI5_3 := Lib.hid (NotAt.new rI_2.out)
          have nO5_3 := Lib.hid (NotAt.new rO2.out)
          have rI_3 := Lib.hid (rI_2.out.below hb3)
          have rO_3 := Lib.hid (rO2.out.below hb3)
          have R3 := Lib.hid (R2.out.below hb3)
          have L3 := Lib.hid (L2.out.below hb3)
          refine wpAnyG_ready (rs := [7]) (by kernel_rfl) (by simp) ?_
          refine AllReadyG.cons rfl (fun K hK => ?_) ?_
          · go_simp
            change K _ (w3.alloc (.cells zCells 24))
            have hb4 : Below w3.heap.size w3 (w3.alloc (.cells zCells 24)) := balloc (Below.refl _ _) _
            have hc4 : Below W.heap.size W (w3.alloc (.cells zCells 24)) := bthen hc3 hb4
            have rm6_4 := Lib.hid (Room.new w3 zCells rfl 24)
            refine hK _ _ (fun _ => hc4) ?_
            clear hK
            generalize w3.alloc (.cells zCells 24) = w4 at *
            have nI6_4 := Lib.hid (NotAt.new rI_3.out)
            have nO6_4 := Lib.hid (NotAt.new rO_3.out)
            have ne4 : w2.heap.size ≠ w3.heap.size := Nat.ne_of_lt rm5_3.out.1
            have rI_4 := Lib.hid (rI_3.out.below hb4)
            have rO_4 := Lib.hid (rO_3.out.below hb4)
            have rm5_4 := Lib.hid (rm5_3.out.below hb4)
            have R4 := Lib.hid (R3.out.below hb4)
            have L4 := Lib.hid (L3.out.below hb4)
            obtain ⟨hlt, hroom⟩ := rm5_4.out
            obtain ⟨⟨v0, r0⟩, f0⟩ := hroom 0 (by omega)
            obtain ⟨⟨v1, r1⟩, f1⟩ := hroom 1 (by omega)
            obtain ⟨⟨v2, r2⟩, f2⟩ := hroom 2 (by omega)
            obtain ⟨⟨v3, r3⟩, f3⟩ := hroom 3 (by omega)
            obtain ⟨⟨v4, r4⟩, f4⟩ := hroom 4 (by omega)
            obtain ⟨⟨v5, r5⟩, f5⟩ := hroom 5 (by omega)
            obtain ⟨⟨v6, r6⟩, f6⟩ := hroom 6 (by omega)
            obtain ⟨⟨v7, r7⟩, f7⟩ := hroom 7 (by omega)
            clear hroom hlt
            refine wpAnyG_ready (rs := [8]) (by kernel_rfl) (by simp) ?_
            refine AllReadyG.cons rfl (fun K hK => ?_) ?_
            · go_simp
              change K _ (put8 w4 (w2.heap.size) (injM d l) AI1 kI1)
              refine hK _ _ (fun h => absurd h (by (intro h; have : (true : Bool) = false := h; cases this))) ?_
              clear hK r0 r1 r2 r3 r4 r5 r6 r7 f0 f1 f2 f3 f4 f5 f6 f7
              have a5 := Lib.hid (At8.put (k := kI1) rm5_4.out rI_4.out nI5_3.out)
              have m6 := Lib.hid (rm6_4.out.far8 (w2.heap.size) ne4 (injM d l) AI1 kI1)
              have ro := Lib.hid (rO_4.out.far8 (w2.heap.size) nO5_3.out (injM d l) AI1 kI1)
              have hcq : Below W.heap.size W (put8 w4 (w2.heap.size) (injM d l) AI1 kI1) := below_put8 hc4 (w2.heap.size) (by (first | exact Nat.le_refl _ | (with_reducible exact Below.size (by with_reducible assumption)))) (injM d l) AI1 kI1
              generalize put8 w4 (w2.heap.size) (injM d l) AI1 kI1 = wq at *
              obtain ⟨hlt, hroom⟩ := m6.out
              obtain ⟨⟨v0, r0⟩, f0⟩ := hroom 0 (by omega)
              obtain ⟨⟨v1, r1⟩, f1⟩ := hroom 1 (by omega)
              obtain ⟨⟨v2, r2⟩, f2⟩ := hroom 2 (by omega)
              obtain ⟨⟨v3, r3⟩, f3⟩ := hroom 3 (by omega)
              obtain ⟨⟨v4, r4⟩, f4⟩ := hroom 4 (by omega)
              obtain ⟨⟨v5, r5⟩, f5⟩ := hroom 5 (by omega)
              obtain ⟨⟨v6, r6⟩, f6⟩ := hroom 6 (by omega)
              obtain ⟨⟨v7, r7⟩, f7⟩ := hroom 7 (by omega)
              clear hroom hlt
              refine wpAnyG_ready (rs := [9]) (by kernel_rfl) (by simp) ?_
              refine AllReadyG.cons rfl (fun K hK => ?_) ?_
              · go_simp
                change K _ (put8 wq (w3.heap.size) (ovM d l) AO2 kO2)
                refine hK _ _ (fun h => absurd h (by (intro h; have : (true : Bool) = false := h; cases this))) ?_
                clear hK r0 r1 r2 r3 r4 r5 r6 r7 f0 f1 f2 f3 f4 f5 f6 f7
                refine wpAnyG_done (by kernel_rfl) ?_ _
                simp only [Exit.then]
                apply_assumption
                refine Met.intro ?_
                apply_assumption
                (repeat apply Exists.intro)
                refine ⟨⟨_, _, AI1, kI1, AO2, kO2, rfl, rfl, ?_, ?_, ?_⟩, rfl⟩
                · exact a5.out.far8 (Ne.symm ne4) nI6_4.out
                · exact At8.put m6.out ro.out nO6_4.out
                · exact below_put8 hcq (w3.heap.size) (by (first | exact Nat.le_refl _ | (with_reducible exact Below.size (by with_reducible assumption)))) (ovM d l) AO2 kO2
              exact AllReadyG.nil
            exact AllReadyG.nil
          exact AllReadyG.nil
        refine AllReadyG.cons rfl (fun K hK => ?_) ?_
        · go_simp
          change K _ (w2.alloc (.cells zCells 24))
          have hb5 : Below w2.heap.size w2 (w2.alloc (.cells zCells 24)) := balloc (Below.refl _ _) _
          have hc5 : Below W.heap.size W (w2.alloc (.cells zCells 24)) := bthen hc2 hb5
          have rm6_5 := Lib.hid (Room.new w2 zCells rfl 24)
          refine hK _ _ (fun _ => hc5) ?_
          clear hK
          generalize w2.alloc (.cells zCells 24) = w5 at *
          have nI6_5 := Lib.hid (NotAt.new rI_2.out)
          have nO6_5 := Lib.hid (NotAt.new rO2.out)
          have rI_5 := Lib.hid (rI_2.out.below hb5)
          have rO_5 := Lib.hid (rO2.out.below hb5)
          have R5 := Lib.hid (R2.out.below hb5)
          have L5 := Lib.hid (L2.out.below hb5)
          refine wpAnyG_ready (rs := [6]) (by kernel_rfl) (by simp) ?_
          refine AllReadyG.cons rfl (fun K hK => ?_) ?_
          · go_simp
            change K _ (w5.alloc (.cells zCells 24))
            have hb6 : Below w5.heap.size w5 (w5.alloc (.cells zCells 24)) := balloc (Below.refl _ _) _
            have hc6 : Below W.heap.size W (w5.alloc (.cells zCells 24)) := bthen hc5 hb6
            have rm5_6 := Lib.hid (Room.new w5 zCells rfl 24)
            refine hK _ _ (fun _ => hc6) ?_
            clear hK
            generalize w5.alloc (.cells zCells 24) = w6 at *
            have nI5_6 := Lib.hid (NotAt.new rI_5.out)
            have nO5_6 := Lib.hid (NotAt.new rO_5.out)
            have ne6 : w2.heap.size ≠ w5.heap.size := Nat.ne_of_lt rm6_5.out.1
            have rI_6 := Lib.hid (rI_5.out.below hb6)
            have rO_6 := Lib.hid (rO_5.out.below hb6)
            have rm6_6 := Lib.hid (rm6_5.out.below hb6)
            have R6 := Lib.hid (R5.out.below hb6)
            have L6 := Lib.hid (L5.out.below hb6)
            obtain ⟨hlt, hroom⟩ := rm5_6.out
            obtain ⟨⟨v0, r0⟩, f0⟩ := hroom 0 (by omega)
            obtain ⟨⟨v1, r1⟩, f1⟩ := hroom 1 (by omega)
            obtain ⟨⟨v2, r2⟩, f2⟩ := hroom 2 (by omega)
            obtain ⟨⟨v3, r3⟩, f3⟩ := hroom 3 (by omega)
            obtain ⟨⟨v4, r4⟩, f4⟩ := hroom 4 (by omega)
            obtain ⟨⟨v5, r5⟩, f5⟩ := hroom 5 (by omega)
            obtain ⟨⟨v6, r6⟩, f6⟩ := hroom 6 (by omega)
            obtain ⟨⟨v7, r7⟩, f7⟩ := hroom 7 (by omega)
            clear hroom hlt
            refine wpAnyG_ready (rs := [8]) (by kernel_rfl) (by simp) ?_
            refine AllReadyG.cons rfl (fun K hK => ?_) ?_
            · go_simp
              change K _ (put8 w6 (w5.heap.size) (injM d l) AI1 kI1)
              refine hK _ _ (fun h => absurd h (by (intro h; have : (true : Bool) = false := h; cases this))) ?_
              clear hK r0 r1 r2 r3 r4 r5 r6 r7 f0 f1 f2 f3 f4 f5 f6 f7
              have a5 := Lib.hid (At8.put (k := kI1) rm5_6.out rI_6.out nI5_6.out)
              have m6 := Lib.hid (rm6_6.out.far8 (w5.heap.size) (Ne.symm ne6) (injM d l) AI1 kI1)
              have ro := Lib.hid (rO_6.out.far8 (w5.heap.size) nO5_6.out (injM d l) AI1 kI1)
              have hcq : Below W.heap.size W (put8 w6 (w5.heap.size) (injM d l) AI1 kI1) := below_put8 hc6 (w5.heap.size) (by (first | exact Nat.le_refl _ | (with_reducible exact Below.size (by with_reducible assumption)))) (injM d l) AI1 kI1
              generalize put8 w6 (w5.heap.size) (injM d l) AI1 kI1 = wq at *
              obtain ⟨hlt, hroom⟩ := m6.out
              obtain ⟨⟨v0, r0⟩, f0⟩ := hroom 0 (by omega)
              obtain ⟨⟨v1, r1⟩, f1⟩ := hroom 1 (by omega)
              obtain ⟨⟨v2, r2⟩, f2⟩ := hroom 2 (by omega)
              obtain ⟨⟨v3, r3⟩, f3⟩ := hroom 3 (by omega)
              obtain ⟨⟨v4, r4⟩, f4⟩ := hroom 4 (by omega)
              obtain ⟨⟨v5, r5⟩, f5⟩ := hroom 5 (by omega)
              obtain ⟨⟨v6, r6⟩, f6⟩ := hroom 6 (by omega)
              obtain ⟨⟨v7, r7⟩, f7⟩ := hroom 7 (by omega)
              clear hroom hlt
              refine wpAnyG_ready (rs := [9]) (by kernel_rfl) (by simp) ?_
              refine AllReadyG.cons rfl (fun K hK => ?_) ?_
              · go_simp
                change K _ (put8 wq (w2.heap.size) (ovM d l) AO2 kO2)
                refine hK _ _ (fun h => absurd h (by (intro h; have : (true : Bool) = false := h; cases this))) ?_
                clear hK r0 r1 r2 r3 r4 r5 r6 r7 f0 f1 f2 f3 f4 f5 f6 f7
                refine wpAnyG_done (by kernel_rfl) ?_ _
                simp only [Exit.then]
                apply_assumption
                refine Met.intro ?_
                apply_assumption
                (repeat apply Exists.intro)
                refine ⟨⟨_, _, AI1, kI1, AO2, kO2, rfl, rfl, ?_, ?_, ?_⟩, rfl⟩
                · exact a5.out.far8 ne6 nI6_5.out
                · exact At8.put m6.out ro.out nO6_5.out
                · exact below_put8 hcq (w2.heap.size) (by (first | exact Nat.le_refl _ | (with_reducible exact Below.size (by with_reducible assumption)))) (ovM d l) AO2 kO2
              exact AllReadyG.nil
            exact AllReadyG.nil
          exact AllReadyG.nil
        exact AllReadyG.nil
      refine AllReadyG.cons rfl (fun K hK => ?_) ?_
      · go_simp
        change K _ (w1.alloc (.cells zCells 24))
        have hb7 : Below w1.heap.size w1 (w1.alloc (.cells zCells 24)) := balloc (Below.refl _ _) _
        have hc7 : Below W.heap.size W (w1.alloc (.cells zCells 24)) := bthen hc1 hb7
        have rm5_7 := Lib.hid (Room.new w1 zCells rfl 24)
        refine hK _ _ (fun _ => hc7) ?_
        clear hK
        generalize w1.alloc (.cells zCells 24) = w7 at *
        have nI5_7 := Lib.hid (NotAt.new rI1.out)
        have rI_7 := Lib.hid (rI1.out.below hb7)
        have R7 := Lib.hid (R1.out.below hb7)
        have L7 := Lib.hid (L1.out.below hb7)
        refine wpAnyG_ready (rs := [5, 7]) (by kernel_rfl) (by simp) ?_
        refine AllReadyG.cons rfl (fun K hK => ?_) ?_
        · go_simp
          refine (override_any d A k B c l _ HDOK.out (R7.out.below (Below.refl _ _)) hn L7.out HOK.out hsum').mono ?_
          rintro e w8 ⟨AO8, kO8, rfl, ho8, hr8, hb8⟩
          have hc8 : Below W.heap.size W w8 := bthen hc7 hb8
          refine hK _ _ (fun _ => hc8) ?_
          clear hK
          have rO8 := Lib.hid hr8
          have nO5_8 := Lib.hid (NotAt.own ho8 rm5_7.out.1)
          clear ho8 hr8
          have rI_8 := Lib.hid (rI_7.out.below hb8)
          have rm5_8 := Lib.hid (rm5_7.out.below hb8)
          have R8 := Lib.hid (R7.out.below hb8)
          have L8 := Lib.hid (L7.out.below hb8)
          refine wpAnyG_ready (rs := [7]) (by kernel_rfl) (by simp) ?_
          refine AllReadyG.cons rfl (fun K hK => ?_) ?_
          · go_simp
            change K _ (w8.alloc (.cells zCells 24))
            have hb9 : Below w8.heap.size w8 (w8.alloc (.cells zCells 24)) := balloc (Below.refl _ _) _
            have hc9 : Below W.heap.size W (w8.alloc (.cells zCells 24)) := bthen hc8 hb9
            have rm6_9 := Lib.hid (Room.new w8 zCells rfl 24)
            refine hK _ _ (fun _ => hc9) ?_
            clear hK
            generalize w8.alloc (.cells zCells 24) = w9 at *
            have nI6_9 := Lib.hid (NotAt.new rI_8.out)
            have nO6_9 := Lib.hid (NotAt.new rO8.out)
            have ne9 : w1.heap.size ≠ w8.heap.size := Nat.ne_of_lt rm5_8.out.1
            have rI_9 := Lib.hid (rI_8.out.below hb9)
            have rO_9 := Lib.hid (rO8.out.below hb9)
            have rm5_9 := Lib.hid (rm5_8.out.below hb9)
            have R9 := Lib.hid (R8.out.below hb9)
            have L9 := Lib.hid (L8.out.below hb9)
            obtain ⟨hlt, hroom⟩ := rm5_9.out
            obtain ⟨⟨v0, r0⟩, f0⟩ := hroom 0 (by omega)
            obtain ⟨⟨v1, r1⟩, f1⟩ := hroom 1 (by omega)
            obtain ⟨⟨v2, r2⟩, f2⟩ := hroom 2 (by omega)
            obtain ⟨⟨v3, r3⟩, f3⟩ := hroom 3 (by omega)
            obtain ⟨⟨v4, r4⟩, f4⟩ := hroom 4 (by omega)
            obtain ⟨⟨v5, r5⟩, f5⟩ := hroom 5 (by omega)
            obtain ⟨⟨v6, r6⟩, f6⟩ := hroom 6 (by omega)
            obtain ⟨⟨v7, r7⟩, f7⟩ := hroom 7 (by omega)
            clear hroom hlt
            refine wpAnyG_ready (rs := [8]) (by kernel_rfl) (by simp) ?_
            refine AllReadyG.cons rfl (fun K hK => ?_) ?_
            · go_simp
              change K _ (put8 w9 (w1.heap.size) (injM d l) AI1 kI1)
              refine hK _ _ (fun h => absurd h (by (intro h; have : (true : Bool) = false := h; cases this))) ?_
              clear hK r0 r1 r2 r3 r4 r5 r6 r7 f0 f1 f2 f3 f4 f5 f6 f7
              have a5 := Lib.hid (At8.put (k := kI1) rm5_9.out rI_9.out nI5_7.out)
              have m6 := Lib.hid (rm6_9.out.far8 (w1.heap.size) ne9 (injM d l) AI1 kI1)
              have ro := Lib.hid (rO_9.out.far8 (w1.heap.size) nO5_8.out (injM d l) AI1 kI1)
              have hcq : Below W.heap.size W (put8 w9 (w1.heap.size) (injM d l) AI1 kI1) := below_put8 hc9 (w1.heap.size) (by (first | exact Nat.le_refl _ | (with_reducible exact Below.size (by with_reducible assumption)))) (injM d l) AI1 kI1
              generalize put8 w9 (w1.heap.size) (injM d l) AI1 kI1 = wq at *
              obtain ⟨hlt, hroom⟩ := m6.out
              obtain ⟨⟨v0, r0⟩, f0⟩ := hroom 0 (by omega)
              obtain ⟨⟨v1, r1⟩, f1⟩ := hroom 1 (by omega)
              obtain ⟨⟨v2, r2⟩, f2⟩ := hroom 2 (by omega)
              obtain ⟨⟨v3, r3⟩, f3⟩ := hroom 3 (by omega)
              obtain ⟨⟨v4, r4⟩, f4⟩ := hroom 4 (by omega)
              obtain ⟨⟨v5, r5⟩, f5⟩ := hroom 5 (by omega)
              obtain ⟨⟨v6, r6⟩, f6⟩ := hroom 6 (by omega)
              obtain ⟨⟨v7, r7⟩, f7⟩ := hroom 7 (by omega)
              clear hroom hlt
              refine wpAnyG_ready (rs := [9]) (by kernel_rfl) (by simp) ?_
              refine AllReadyG.cons rfl (fun K hK => ?_) ?_
              · go_simp
                change K _ (put8 wq (w8.heap.size) (ovM d l) AO8 kO8)
                refine hK _ _ (fun h => absurd h (by (intro h; have : (true : Bool) = false := h; cases this))) ?_
                clear hK r0 r1 r2 r3 r4 r5 r6 r7 f0 f1 f2 f3 f4 f5 f6 f7
                refine wpAnyG_done (by kernel_rfl) ?_ _
                simp only [Exit.then]
                apply_assumption
                refine Met.intro ?_
                apply_assumption
                (repeat apply Exists.intro)
                refine ⟨⟨_, _, AI1, kI1, AO8, kO8, rfl, rfl, ?_, ?_, ?_⟩, rfl⟩
                · exact a5.out.far8 (Ne.symm ne9) nI6_9.out
                · exact At8.put m6.out ro.out nO6_9.out
                · exact below_put8 hcq (w8.heap.size) (by (first | exact Nat.le_refl _ | (with_reducible exact Below.size (by with_reducible assumption)))) (ovM d l) AO8 kO8
              exact AllReadyG.nil
            exact AllReadyG.nil
          exact AllReadyG.nil
        refine AllReadyG.cons rfl (fun K hK => ?_) ?_
        · go_simp
          change K _ (w7.alloc (.cells zCells 24))
          have hb10 : Below w7.heap.size w7 (w7.alloc (.cells zCells 24)) := balloc (Below.refl _ _) _
          have hc10 : Below W.heap.size W (w7.alloc (.cells zCells 24)) := bthen hc7 hb10
          have rm6_10 := Lib.hid (Room.new w7 zCells rfl 24)
          refine hK _ _ (fun _ => hc10) ?_
          clear hK
          generalize w7.alloc (.cells zCells 24) = w10 at *
          have nI6_10 := Lib.hid (NotAt.new rI_7.out)
          have ne10 : w1.heap.size ≠ w7.heap.size := Nat.ne_of_lt rm5_7.out.1
          have rI_10 := Lib.hid (rI_7.out.below hb10)
          have rm5_10 := Lib.hid (rm5_7.out.below hb10)
          have R10 := Lib.hid (R7.out.below hb10)
          have L10 := Lib.hid (L7.out.below hb10)
          refine wpAnyG_ready (rs := [5]) (by kernel_rfl) (by simp) ?_
          refine AllReadyG.cons rfl (fun K hK => ?_) ?_
          · go_simp
            refine (override_any d A k B c l _ HDOK.out (R10.out.below (Below.refl _ _)) hn L10.out HOK.out hsum').mono ?_
            rintro e w11 ⟨AO11, kO11, rfl, ho11, hr11, hb11⟩
            have hc11 : Below W.heap.size W w11 := bthen hc10 hb11
            refine hK _ _ (fun _ => hc11) ?_
            clear hK
            have rO11 := Lib.hid hr11
            have nO5_11 := Lib.hid (NotAt.own ho11 rm5_10.out.1)
            have nO6_11 := Lib.hid (NotAt.own ho11 rm6_10.out.1)
            clear ho11 hr11
            have rI_11 := Lib.hid (rI_10.out.below hb11)
            have rm5_11 := Lib.hid (rm5_10.out.below hb11)
            have rm6_11 := Lib.hid (rm6_10.out.below hb11)
            have R11 := Lib.hid (R10.out.below hb11)
            have L11 := Lib.hid (L10.out.below hb11)
            obtain ⟨hlt, hroom⟩ := rm5_11.out
            obtain ⟨⟨v0, r0⟩, f0⟩ := hroom 0 (by omega)
            obtain ⟨⟨v1, r1⟩, f1⟩ := hroom 1 (by omega)
            obtain ⟨⟨v2, r2⟩, f2⟩ := hroom 2 (by omega)
            obtain ⟨⟨v3, r3⟩, f3⟩ := hroom 3 (by omega)
            obtain ⟨⟨v4, r4⟩, f4⟩ := hroom 4 (by omega)
            obtain ⟨⟨v5, r5⟩, f5⟩ := hroom 5 (by omega)
            obtain ⟨⟨v6, r6⟩, f6⟩ := hroom 6 (by omega)
            obtain ⟨⟨v7, r7⟩, f7⟩ := hroom 7 (by omega)
            clear hroom hlt
            refine wpAnyG_ready (rs := [8]) (by kernel_rfl) (by simp) ?_
            refine AllReadyG.cons rfl (fun K hK => ?_) ?_
            · go_simp
              change K _ (put8 w11 (w1.heap.size) (injM d l) AI1 kI1)
              refine hK _ _ (fun h => absurd h (by (intro h; have : (true : Bool) = false := h; cases this))) ?_
              clear hK r0 r1 r2 r3 r4 r5 r6 r7 f0 f1 f2 f3 f4 f5 f6 f7
              have a5 := Lib.hid (At8.put (k := kI1) rm5_11.out rI_11.out nI5_7.out)
              have m6 := Lib.hid (rm6_11.out.far8 (w1.heap.size) ne10 (injM d l) AI1 kI1)
              have ro := Lib.hid (rO11.out.far8 (w1.heap.size) nO5_11.out (injM d l) AI1 kI1)
              have hcq : Below W.heap.size W (put8 w11 (w1.heap.size) (injM d l) AI1 kI1) := below_put8 hc11 (w1.heap.size) (by (first | exact Nat.le_refl _ | (with_reducible exact Below.size (by with_reducible assumption)))) (injM d l) AI1 kI1
              generalize put8 w11 (w1.heap.size) (injM d l) AI1 kI1 = wq at *
              obtain ⟨hlt, hroom⟩ := m6.out
              obtain ⟨⟨v0, r0⟩, f0⟩ := hroom 0 (by omega)
              obtain ⟨⟨v1, r1⟩, f1⟩ := hroom 1 (by omega)
              obtain ⟨⟨v2, r2⟩, f2⟩ := hroom 2 (by omega)
              obtain ⟨⟨v3, r3⟩, f3⟩ := hroom 3 (by omega)
              obtain ⟨⟨v4, r4⟩, f4⟩ := hroom 4 (by omega)
              obtain ⟨⟨v5, r5⟩, f5⟩ := hroom 5 (by omega)
              obtain ⟨⟨v6, r6⟩, f6⟩ := hroom 6 (by omega)
              obtain ⟨⟨v7, r7⟩, f7⟩ := hroom 7 (by omega)
              clear hroom hlt
              refine wpAnyG_ready (rs := [9]) (by kernel_rfl) (by simp) ?_
              refine AllReadyG.cons rfl (fun K hK => ?_) ?_
              · go_simp
                change K _ (put8 wq (w7.heap.size) (ovM d l) AO11 kO11)
                refine hK _ _ (fun h => absurd h (by (intro h; have : (true : Bool) = false := h; cases this))) ?_
                clear hK r0 r1 r2 r3 r4 r5 r6 r7 f0 f1 f2 f3 f4 f5 f6 f7
                refine wpAnyG_done (by kernel_rfl) ?_ _
                simp only [Exit.then]
                apply_assumption
                refine Met.intro ?_
                apply_assumption
                (repeat apply Exists.intro)
                refine ⟨⟨_, _, AI1, kI1, AO11, kO11, rfl, rfl, ?_, ?_, ?_⟩, rfl⟩
                · exact a5.out.far8 (Ne.symm ne10) nI6_10.out
                · exact At8.put m6.out ro.out nO6_11.out
                · exact below_put8 hcq (w7.heap.size) (by (first | exact Nat.le_refl _ | (with_reducible exact Below.size (by with_reducible assumption)))) (ovM d l) AO11 kO11
              exact AllReadyG.nil
            exact AllReadyG.nil
          exact AllReadyG.nil
        exact AllReadyG.nil
      refine AllReadyG.cons rfl (fun K hK => ?_) ?_
      · go_simp
        change K _ (w1.alloc (.cells zCells 24))
        have hb12 : Below w1.heap.size w1 (w1.alloc (.cells zCells 24)) := balloc (Below.refl _ _) _
        have hc12 : Below W.heap.size W (w1.alloc (.cells zCells 24)) := bthen hc1 hb12
        have rm6_12 := Lib.hid (Room.new w1 zCells rfl 24)
        refine hK _ _ (fun _ => hc12) ?_
        clear hK
        generalize w1.alloc (.cells zCells 24) = w12 at *
        have nI6_12 := Lib.hid (NotAt.new rI1.out)
        have rI_12 := Lib.hid (rI1.out.below hb12)
        have R12 := Lib.hid (R1.out.below hb12)
        have L12 := Lib.hid (L1.out.below hb12)
        refine wpAnyG_ready (rs := [5, 6]) (by kernel_rfl) (by simp) ?_
        refine AllReadyG.cons rfl (fun K hK => ?_) ?_
        · go_simp
          refine (override_any d A k B c l _ HDOK.out (R12.out.below (Below.refl _ _)) hn L12.out HOK.out hsum').mono ?_
          rintro e w13 ⟨AO13, kO13, rfl, ho13, hr13, hb13⟩
          have hc13 : Below W.heap.size W w13 := bthen hc12 hb13
          refine hK _ _ (fun _ => hc13) ?_
          clear hK
          have rO13 := Lib.hid hr13
          have nO6_13 := Lib.hid (NotAt.own ho13 rm6_12.out.1)
          clear ho13 hr13
          have rI_13 := Lib.hid (rI_12.out.below hb13)
          have rm6_13 := Lib.hid (rm6_12.out.below hb13)
          have R13 := Lib.hid (R12.out.below hb13)
          have L13 := Lib.hid (L12.out.below hb13)
          refine wpAnyG_ready (rs := [6]) (by kernel_rfl) (by simp) ?_
          refine AllReadyG.cons rfl (fun K hK => ?_) ?_
          · go_simp
            change K _ (w13.alloc (.cells zCells 24))
            have hb14 : Below w13.heap.size w13 (w13.alloc (.cells zCells 24)) := balloc (Below.refl _ _) _
            have hc14 : Below W.heap.size W (w13.alloc (.cells zCells 24)) := bthen hc13 hb14
            have rm5_14 := Lib.hid (Room.new w13 zCells rfl 24)
            refine hK _ _ (fun _ => hc14) ?_
            clear hK
            generalize w13.alloc (.cells zCells 24) = w14 at *
            have nI5_14 := Lib.hid (NotAt.new rI_13.out)
            have nO5_14 := Lib.hid (NotAt.new rO13.out)
            have ne14 : w1.heap.size ≠ w13.heap.size := Nat.ne_of_lt rm6_13.out.1
            have rI_14 := Lib.hid (rI_13.out.below hb14)
            have rO_14 := Lib.hid (rO13.out.below hb14)
            have rm6_14 := Lib.hid (rm6_13.out.below hb14)
            have R14 := Lib.hid (R13.out.below hb14)
            have L14 := Lib.hid (L13.out.below hb14)
            obtain ⟨hlt, hroom⟩ := rm5_14.out
            obtain ⟨⟨v0, r0⟩, f0⟩ := hroom 0 (by omega)
            obtain ⟨⟨v1, r1⟩, f1⟩ := hroom 1 (by omega)
            obtain ⟨⟨v2, r2⟩, f2⟩ := hroom 2 (by omega)
            obtain ⟨⟨v3, r3⟩, f3⟩ := hroom 3 (by omega)
            obtain ⟨⟨v4, r4⟩, f4⟩ := hroom 4 (by omega)
            obtain ⟨⟨v5, r5⟩, f5⟩ := hroom 5 (by omega)
            obtain ⟨⟨v6, r6⟩, f6⟩ := hroom 6 (by omega)
            obtain ⟨⟨v7, r7⟩, f7⟩ := hroom 7 (by omega)
            clear hroom hlt
            refine wpAnyG_ready (rs := [8]) (by kernel_rfl) (by simp) ?_
            refine AllReadyG.cons rfl (fun K hK => ?_) ?_
            · go_simp
              change K _ (put8 w14 (w13.heap.size) (injM d l) AI1 kI1)
              refine hK _ _ (fun h => absurd h (by (intro h; have : (true : Bool) = false := h; cases this))) ?_
              clear hK r0 r1 r2 r3 r4 r5 r6 r7 f0 f1 f2 f3 f4 f5 f6 f7
              have a5 := Lib.hid (At8.put (k := kI1) rm5_14.out rI_14.out nI5_14.out)
              have m6 := Lib.hid (rm6_14.out.far8 (w13.heap.size) (Ne.symm ne14) (injM d l) AI1 kI1)
              have ro := Lib.hid (rO_14.out.far8 (w13.heap.size) nO5_14.out (injM d l) AI1 kI1)
              have hcq : Below W.heap.size W (put8 w14 (w13.heap.size) (injM d l) AI1 kI1) := below_put8 hc14 (w13.heap.size) (by (first | exact Nat.le_refl _ | (with_reducible exact Below.size (by with_reducible assumption)))) (injM d l) AI1 kI1
              generalize put8 w14 (w13.heap.size) (injM d l) AI1 kI1 = wq at *
              obtain ⟨hlt, hroom⟩ := m6.out
              obtain ⟨⟨v0, r0⟩, f0⟩ := hroom 0 (by omega)
              obtain ⟨⟨v1, r1⟩, f1⟩ := hroom 1 (by omega)
              obtain ⟨⟨v2, r2⟩, f2⟩ := hroom 2 (by omega)
              obtain ⟨⟨v3, r3⟩, f3⟩ := hroom 3 (by omega)
              obtain ⟨⟨v4, r4⟩, f4⟩ := hroom 4 (by omega)
              obtain ⟨⟨v5, r5⟩, f5⟩ := hroom 5 (by omega)
              obtain ⟨⟨v6, r6⟩, f6⟩ := hroom 6 (by omega)
              obtain ⟨⟨v7, r7⟩, f7⟩ := hroom 7 (by omega)
              clear hroom hlt
              refine wpAnyG_ready (rs := [9]) (by kernel_rfl) (by simp) ?_
              refine AllReadyG.cons rfl (fun K hK => ?_) ?_
              · go_simp
                change K _ (put8 wq (w1.heap.size) (ovM d l) AO13 kO13)
                refine hK _ _ (fun h => absurd h (by (intro h; have : (true : Bool) = false := h; cases this))) ?_
                clear hK r0 r1 r2 r3 r4 r5 r6 r7 f0 f1 f2 f3 f4 f5 f6 f7
                refine wpAnyG_done (by kernel_rfl) ?_ _
                simp only [Exit.then]
                apply_assumption
                refine Met.intro ?_
                apply_assumption
                (repeat apply Exists.intro)
                refine ⟨⟨_, _, AI1, kI1, AO13, kO13, rfl, rfl, ?_, ?_, ?_⟩, rfl⟩
                · exact a5.out.far8 ne14 nI6_12.out
                · exact At8.put m6.out ro.out nO6_13.out
                · exact below_put8 hcq (w1.heap.size) (by (first | exact Nat.le_refl _ | (with_reducible exact Below.size (by with_reducible assumption)))) (ovM d l) AO13 kO13
              exact AllReadyG.nil
            exact AllReadyG.nil
          exact AllReadyG.nil
        refine AllReadyG.cons rfl (fun K hK => ?_) ?_
        · go_simp
          change K _ (w12.alloc (.cells zCells 24))
          have hb15 : Below w12.heap.size w12 (w12.alloc (.cells zCells 24)) := balloc (Below.refl _ _) _
          have hc15 : Below W.heap.size W (w12.alloc (.cells zCells 24)) := bthen hc12 hb15
          have rm5_15 := Lib.hid (Room.new w12 zCells rfl 24)
          refine hK _ _ (fun _ => hc15) ?_
          clear hK
          generalize w12.alloc (.cells zCells 24) = w15 at *
          have nI5_15 := Lib.hid (NotAt.new rI_12.out)
          have ne15 : w1.heap.size ≠ w12.heap.size := Nat.ne_of_lt rm6_12.out.1
          have rI_15 := Lib.hid (rI_12.out.below hb15)
          have rm6_15 := Lib.hid (rm6_12.out.below hb15)
          have R15 := Lib.hid (R12.out.below hb15)
          have L15 := Lib.hid (L12.out.below hb15)
          refine wpAnyG_ready (rs := [5]) (by kernel_rfl) (by simp) ?_
          refine AllReadyG.cons rfl (fun K hK => ?_) ?_
          · go_simp
            refine (override_any d A k B c l _ HDOK.out (R15.out.below (Below.refl _ _)) hn L15.out HOK.out hsum').mono ?_
            rintro e w16 ⟨AO16, kO16, rfl, ho16, hr16, hb16⟩
            have hc16 : Below W.heap.size W w16 := bthen hc15 hb16
            refine hK _ _ (fun _ => hc16) ?_
            clear hK
            have rO16 := Lib.hid hr16
            have nO5_16 := Lib.hid (NotAt.own ho16 rm5_15.out.1)
            have nO6_16 := Lib.hid (NotAt.own ho16 rm6_15.out.1)
            clear ho16 hr16
            have rI_16 := Lib.hid (rI_15.out.below hb16)
            have rm5_16 := Lib.hid (rm5_15.out.below hb16)
            have rm6_16 := Lib.hid (rm6_15.out.below hb16)
            have R16 := Lib.hid (R15.out.below hb16)
            have L16 := Lib.hid (L15.out.below hb16)
            obtain ⟨hlt, hroom⟩ := rm5_16.out
            obtain ⟨⟨v0, r0⟩, f0⟩ := hroom 0 (by omega)
            obtain ⟨⟨v1, r1⟩, f1⟩ := hroom 1 (by omega)
            obtain ⟨⟨v2, r2⟩, f2⟩ := hroom 2 (by omega)
            obtain ⟨⟨v3, r3⟩, f3⟩ := hroom 3 (by omega)
            obtain ⟨⟨v4, r4⟩, f4⟩ := hroom 4 (by omega)
            obtain ⟨⟨v5, r5⟩, f5⟩ := hroom 5 (by omega)
            obtain ⟨⟨v6, r6⟩, f6⟩ := hroom 6 (by omega)
            obtain ⟨⟨v7, r7⟩, f7⟩ := hroom 7 (by omega)
            clear hroom hlt
            refine wpAnyG_ready (rs := [8]) (by kernel_rfl) (by simp) ?_
            refine AllReadyG.cons rfl (fun K hK => ?_) ?_
            · go_simp
              change K _ (put8 w16 (w12.heap.size) (injM d l) AI1 kI1)
              refine hK _ _ (fun h => absurd h (by (intro h; have : (true : Bool) = false := h; cases this))) ?_
              clear hK r0 r1 r2 r3 r4 r5 r6 r7 f0 f1 f2 f3 f4 f5 f6 f7
              have a5 := Lib.hid (At8.put (k := kI1) rm5_16.out rI_16.out nI5_15.out)
              have m6 := Lib.hid (rm6_16.out.far8 (w12.heap.size) (Ne.symm ne15) (injM d l) AI1 kI1)
              have ro := Lib.hid (rO16.out.far8 (w12.heap.size) nO5_16.out (injM d l) AI1 kI1)
              have hcq : Below W.heap.size W (put8 w16 (w12.heap.size) (injM d l) AI1 kI1) := below_put8 hc16 (w12.heap.size) (by (first | exact Nat.le_refl _ | (with_reducible exact Below.size (by with_reducible assumption)))) (injM d l) AI1 kI1
              generalize put8 w16 (w12.heap.size) (injM d l) AI1 kI1 = wq at *
              obtain ⟨hlt, hroom⟩ := m6.out
              obtain ⟨⟨v0, r0⟩, f0⟩ := hroom 0 (by omega)
              obtain ⟨⟨v1, r1⟩, f1⟩ := hroom 1 (by omega)
              obtain ⟨⟨v2, r2⟩, f2⟩ := hroom 2 (by omega)
              obtain ⟨⟨v3, r3⟩, f3⟩ := hroom 3 (by omega)
              obtain ⟨⟨v4, r4⟩, f4⟩ := hroom 4 (by omega)
              obtain ⟨⟨v5, r5⟩, f5⟩ := hroom 5 (by omega)
              obtain ⟨⟨v6, r6⟩, f6⟩ := hroom 6 (by omega)
              obtain ⟨⟨v7, r7⟩, f7⟩ := hroom 7 (by omega)
              clear hroom hlt
              refine wpAnyG_ready (rs := [9]) (by kernel_rfl) (by simp) ?_
              refine AllReadyG.cons rfl (fun K hK => ?_) ?_
              · go_simp
                change K _ (put8 wq (w1.heap.size) (ovM d l) AO16 kO16)
                refine hK _ _ (fun h => absurd h (by (intro h; have : (true : Bool) = false := h; cases this))) ?_
                clear hK r0 r1 r2 r3 r4 r5 r6 r7 f0 f1 f2 f3 f4 f5 f6 f7
                refine wpAnyG_done (by kernel_rfl) ?_ _
                simp only [Exit.then]
                apply_assumption
                refine Met.intro ?_
                apply_assumption
                (repeat apply Exists.intro)
                refine ⟨⟨_, _, AI1, kI1, AO16, kO16, rfl, rfl, ?_, ?_, ?_⟩, rfl⟩
                · exact a5.out.far8 ne15 nI6_12.out
                · exact At8.put m6.out ro.out nO6_16.out
                · exact below_put8 hcq (w1.heap.size) (by (first | exact Nat.le_refl _ | (with_reducible exact Below.size (by with_reducible assumption)))) (ovM d l) AO16 kO16
              exact AllReadyG.nil
            exact AllReadyG.nil
          exact AllReadyG.nil
        exact AllReadyG.nil
      exact AllReadyG.nil
    refine AllReadyG.cons rfl (fun K hK => ?_) ?_
    · go_simp
      change K _ (w0.alloc (.cells zCells 24))
      have hb17 : Below w0.heap.size w0 (w0.alloc (.cells zCells 24)) := balloc (Below.refl _ _) _
      have hc17 : Below W.heap.size W (w0.alloc (.cells zCells 24)) := bthen h00 hb17
      have rm5_17 := Lib.hid (Room.new w0 zCells rfl 24)
      refine hK _ _ (fun _ => hc17) ?_
      clear hK
      generalize w0.alloc (.cells zCells 24) = w17 at *
      have R17 := Lib.hid (KRd.out.below hb17)
      have L17 := Lib.hid (HLd.out.below hb17)
      refine wpAnyG_ready (rs := [2, 7]) (by kernel_rfl) (by simp) ?_
      refine AllReadyG.cons rfl (fun K hK => ?_) ?_
      · go_simp
        refine (inject_any d A k B c l _ HDOK.out (R17.out.below (Below.refl _ _)) hn L17.out HOK.out).mono ?_
        rintro e w18 ⟨AI18, kI18, rfl, ho18, hr18, hb18⟩
        have hc18 : Below W.heap.size W w18 := bthen hc17 hb18
        refine hK _ _ (fun _ => hc18) ?_
        clear hK
        have rI18 := Lib.hid hr18
        have nI5_18 := Lib.hid (NotAt.own ho18 rm5_17.out.1)
        clear ho18 hr18
        have rm5_18 := Lib.hid (rm5_17.out.below hb18)
        have R18 := Lib.hid (R17.out.below hb18)
        have L18 := Lib.hid (L17.out.below hb18)
        refine wpAnyG_ready (rs := [5, 7]) (by kernel_rfl) (by simp) ?_
        refine AllReadyG.cons rfl (fun K hK => ?_) ?_
        · go_simp
          refine (override_any d A k B c l _ HDOK.out (R18.out.below (Below.refl _ _)) hn L18.out HOK.out hsum').mono ?_
          rintro e w19 ⟨AO19, kO19, rfl, ho19, hr19, hb19⟩
          have hc19 : Below W.heap.size W w19 := bthen hc18 hb19
          refine hK _ _ (fun _ => hc19) ?_
          clear hK
          have rO19 := Lib.hid hr19
          have nO5_19 := Lib.hid (NotAt.own ho19 rm5_18.out.1)
          clear ho19 hr19
          have rI_19 := Lib.hid (rI18.out.below hb19)
          have rm5_19 := Lib.hid (rm5_18.out.below hb19)
          have R19 := Lib.hid (R18.out.below hb19)
          have L19 := Lib.hid (L18.out.below hb19)
          refine wpAnyG_ready (rs := [7]) (by kernel_rfl) (by simp) ?_
          refine AllReadyG.cons rfl (fun K hK => ?_) ?_
          · go_simp
            change K _ (w19.alloc (.cells zCells 24))
            have hb20 : Below w19.heap.size w19 (w19.alloc (.cells zCells 24)) := balloc (Below.refl _ _) _
            have hc20 : Below W.heap.size W (w19.alloc (.cells zCells 24)) := bthen hc19 hb20
            have rm6_20 := Lib.hid (Room.new w19 zCells rfl 24)
            refine hK _ _ (fun _ => hc20) ?_
            clear hK
            generalize w19.alloc (.cells zCells 24) = w20 at *
            have nI6_20 := Lib.hid (NotAt.new rI_19.out)
            have nO6_20 := Lib.hid (NotAt.new rO19.out)
            have ne20 : w0.heap.size ≠ w19.heap.size := Nat.ne_of_lt rm5_19.out.1
            have rI_20 := Lib.hid (rI_19.out.below hb20)
            have rO_20 := Lib.hid (rO19.out.below hb20)
            have rm5_20 := Lib.hid (rm5_19.out.below hb20)
            have R20 := Lib.hid (R19.out.below hb20)
            have L20 := Lib.hid (L19.out.below hb20)
            obtain ⟨hlt, hroom⟩ := rm5_20.out
            obtain ⟨⟨v0, r0⟩, f0⟩ := hroom 0 (by omega)
            obtain ⟨⟨v1, r1⟩, f1⟩ := hroom 1 (by omega)
            obtain ⟨⟨v2, r2⟩, f2⟩ := hroom 2 (by omega)
            obtain ⟨⟨v3, r3⟩, f3⟩ := hroom 3 (by omega)
            obtain ⟨⟨v4, r4⟩, f4⟩ := hroom 4 (by omega)
            obtain ⟨⟨v5, r5⟩, f5⟩ := hroom 5 (by omega)
            obtain ⟨⟨v6, r6⟩, f6⟩ := hroom 6 (by omega)
            obtain ⟨⟨v7, r7⟩, f7⟩ := hroom 7 (by omega)
            clear hroom hlt
            refine wpAnyG_ready (rs := [8]) (by kernel_rfl) (by simp) ?_
            refine AllReadyG.cons rfl (fun K hK => ?_) ?_
            · go_simp
              change K _ (put8 w20 (w0.heap.size) (injM d l) AI18 kI18)
              refine hK _ _ (fun h => absurd h (by (intro h; have : (true : Bool) = false := h; cases this))) ?_
              clear hK r0 r1 r2 r3 r4 r5 r6 r7 f0 f1 f2 f3 f4 f5 f6 f7
              have a5 := Lib.hid (At8.put (k := kI18) rm5_20.out rI_20.out nI5_18.out)
              have m6 := Lib.hid (rm6_20.out.far8 (w0.heap.size) ne20 (injM d l) AI18 kI18)
              have ro := Lib.hid (rO_20.out.far8 (w0.heap.size) nO5_19.out (injM d l) AI18 kI18)
              have hcq : Below W.heap.size W (put8 w20 (w0.heap.size) (injM d l) AI18 kI18) := below_put8 hc20 (w0.heap.size) (by (first | exact Nat.le_refl _ | (with_reducible exact Below.size (by with_reducible assumption)))) (injM d l) AI18 kI18
              generalize put8 w20 (w0.heap.size) (injM d l) AI18 kI18 = wq at *
              obtain ⟨hlt, hroom⟩ := m6.out
              obtain ⟨⟨v0, r0⟩, f0⟩ := hroom 0 (by omega)
              obtain ⟨⟨v1, r1⟩, f1⟩ := hroom 1 (by omega)
              obtain ⟨⟨v2, r2⟩, f2⟩ := hroom 2 (by omega)
              obtain ⟨⟨v3, r3⟩, f3⟩ := hroom 3 (by omega)
              obtain ⟨⟨v4, r4⟩, f4⟩ := hroom 4 (by omega)
              obtain ⟨⟨v5, r5⟩, f5⟩ := hroom 5 (by omega)
              obtain ⟨⟨v6, r6⟩, f6⟩ := hroom 6 (by omega)
              obtain ⟨⟨v7, r7⟩, f7⟩ := hroom 7 (by omega)
              clear hroom hlt
              refine wpAnyG_ready (rs := [9]) (by kernel_rfl) (by simp) ?_
              refine AllReadyG.cons rfl (fun K hK => ?_) ?_
              · go_simp
                change K _ (put8 wq (w19.heap.size) (ovM d l) AO19 kO19)
                refine hK _ _ (fun h => absurd h (by (intro h; have : (true : Bool) = false := h; cases this))) ?_
                clear hK r0 r1 r2 r3 r4 r5 r6 r7 f0 f1 f2 f3 f4 f5 f6 f7
                refine wpAnyG_done (by kernel_rfl) ?_ _
                simp only [Exit.then]
                apply_assumption
                refine Met.intro ?_
                apply_assumption
                (repeat apply Exists.intro)
                refine ⟨⟨_, _, AI18, kI18, AO19, kO19, rfl, rfl, ?_, ?_, ?_⟩, rfl⟩
                · exact a5.out.far8 (Ne.symm ne20) nI6_20.out
                · exact At8.put m6.out ro.out nO6_20.out
                · exact below_put8 hcq (w19.heap.size) (by (first | exact Nat.le_refl _ | (with_reducible exact Below.size (by with_reducible assumption)))) (ovM d l) AO19 kO19
              exact AllReadyG.nil
            exact AllReadyG.nil
          exact AllReadyG.nil
        refine AllReadyG.cons rfl (fun K hK => ?_) ?_
        · go_simp
          change K _ (w18.alloc (.cells zCells 24))
          have hb21 : Below w18.heap.size w18 (w18.alloc (.cells zCells 24)) := balloc (Below.refl _ _) _
          have hc21 : Below W.heap.size W (w18.alloc (.cells zCells 24)) := bthen hc18 hb21
          have rm6_21 := Lib.hid (Room.new w18 zCells rfl 24)
          refine hK _ _ (fun _ => hc21) ?_
          clear hK
          generalize w18.alloc (.cells zCells 24) = w21 at *
          have nI6_21 := Lib.hid (NotAt.new rI18.out)
          have ne21 : w0.heap.size ≠ w18.heap.size := Nat.ne_of_lt rm5_18.out.1
          have rI_21 := Lib.hid (rI18.out.below hb21)
          have rm5_21 := Lib.hid (rm5_18.out.below hb21)
          have R21 := Lib.hid (R18.out.below hb21)
          have L21 := Lib.hid (L18.out.below hb21)
          refine wpAnyG_ready (rs := [5]) (by kernel_rfl) (by simp) ?_
          refine AllReadyG.cons rfl (fun K hK => ?_) ?_
          · go_simp
            refine (override_any d A k B c l _ HDOK.out (R21.out.below (Below.refl _ _)) hn L21.out HOK.out hsum').mono ?_
            rintro e w22 ⟨AO22, kO22, rfl, ho22, hr22, hb22⟩
            have hc22 : Below W.heap.size W w22 := bthen hc21 hb22
            refine hK _ _ (fun _ => hc22) ?_
            clear hK
            have rO22 := Lib.hid hr22
            have nO5_22 := Lib.hid (NotAt.own ho22 rm5_21.out.1)
            have nO6_22 := Lib.hid (NotAt.own ho22 rm6_21.out.1)
            clear ho22 hr22
            have rI_22 := Lib.hid (rI_21.out.below hb22)
            have rm5_22 := Lib.hid (rm5_21.out.below hb22)
            have rm6_22 := Lib.hid (rm6_21.out.below hb22)
            have R22 := Lib.hid (R21.out.below hb22)
            have L22 := Lib.hid (L21.out.below hb22)
            obtain ⟨hlt, hroom⟩ := rm5_22.out
            obtain ⟨⟨v0, r0⟩, f0⟩ := hroom 0 (by omega)
            obtain ⟨⟨v1, r1⟩, f1⟩ := hroom 1 (by omega)
            obtain ⟨⟨v2, r2⟩, f2⟩ := hroom 2 (by omega)
            obtain ⟨⟨v3, r3⟩, f3⟩ := hroom 3 (by omega)
            obtain ⟨⟨v4, r4⟩, f4⟩ := hroom 4 (by omega)
            obtain ⟨⟨v5, r5⟩, f5⟩ := hroom 5 (by omega)
            obtain ⟨⟨v6, r6⟩, f6⟩ := hroom 6 (by omega)
            obtain ⟨⟨v7, r7⟩, f7⟩ := hroom 7 (by omega)
            clear hroom hlt
            refine wpAnyG_ready (rs := [8]) (by kernel_rfl) (by simp) ?_
            refine AllReadyG.cons rfl (fun K hK => ?_) ?_
            · go_simp
              change K _ (put8 w22 (w0.heap.size) (injM d l) AI18 kI18)
              refine hK _ _ (fun h => absurd h (by (intro h; have : (true : Bool) = false := h; cases this))) ?_
              clear hK r0 r1 r2 r3 r4 r5 r6 r7 f0 f1 f2 f3 f4 f5 f6 f7
              have a5 := Lib.hid (At8.put (k := kI18) rm5_22.out rI_22.out nI5_18.out)
              have m6 := Lib.hid (rm6_22.out.far8 (w0.heap.size) ne21 (injM d l) AI18 kI18)
              have ro := Lib.hid (rO22.out.far8 (w0.heap.size) nO5_22.out (injM d l) AI18 kI18)
              have hcq : Below W.heap.size W (put8 w22 (w0.heap.size) (injM d l) AI18 kI18) := below_put8 hc22 (w0.heap.size) (by (first | exact Nat.le_refl _ | (with_reducible exact Below.size (by with_reducible assumption)))) (injM d l) AI18 kI18
              generalize put8 w22 (w0.heap.size) (injM d l) AI18 kI18 = wq at *
              obtain ⟨hlt, hroom⟩ := m6.out
              obtain ⟨⟨v0, r0⟩, f0⟩ := hroom 0 (by omega)
              obtain ⟨⟨v1, r1⟩, f1⟩ := hroom 1 (by omega)
              obtain ⟨⟨v2, r2⟩, f2⟩ := hroom 2 (by omega)
              obtain ⟨⟨v3, r3⟩, f3⟩ := hroom 3 (by omega)
              obtain ⟨⟨v4, r4⟩, f4⟩ := hroom 4 (by omega)
              obtain ⟨⟨v5, r5⟩, f5⟩ := hroom 5 (by omega)
              obtain ⟨⟨v6, r6⟩, f6⟩ := hroom 6 (by omega)
              obtain ⟨⟨v7, r7⟩, f7⟩ := hroom 7 (by omega)
              clear hroom hlt
              refine wpAnyG_ready (rs := [9]) (by kernel_rfl) (by simp) ?_
              refine AllReadyG.cons rfl (fun K hK => ?_) ?_
              · go_simp
                change K _ (put8 wq (w18.heap.size) (ovM d l) AO22 kO22)
                refine hK _ _ (fun h => absurd h (by (intro h; have : (true : Bool) = false := h; cases this))) ?_
                clear hK r0 r1 r2 r3 r4 r5 r6 r7 f0 f1 f2 f3 f4 f5 f6 f7
                refine wpAnyG_done (by kernel_rfl) ?_ _
                simp only [Exit.then]
                apply_assumption
                refine Met.intro ?_
                apply_assumption
                (repeat apply Exists.intro)
                refine ⟨⟨_, _, AI18, kI18, AO22, kO22, rfl, rfl, ?_, ?_, ?_⟩, rfl⟩
                · exact a5.out.far8 (Ne.symm ne21) nI6_21.out
                · exact At8.put m6.out ro.out nO6_22.out
                · exact below_put8 hcq (w18.heap.size) (by (first | exact Nat.le_refl _ | (with_reducible exact Below.size (by with_reducible assumption)))) (ovM d l) AO22 kO22
              exact AllReadyG.nil
            exact AllReadyG.nil
          exact AllReadyG.nil
        exact AllReadyG.nil
      refine AllReadyG.cons rfl (fun K hK => ?_) ?_
      · go_simp
        change K _ (w17.alloc (.cells zCells 24))
        have hb23 : Below w17.heap.size w17 (w17.alloc (.cells zCells 24)) := balloc (Below.refl _ _) _
        have hc23 : Below W.heap.size W (w17.alloc (.cells zCells 24)) := bthen hc17 hb23
        have rm6_23 := Lib.hid (Room.new w17 zCells rfl 24)
        refine hK _ _ (fun _ => hc23) ?_
        clear hK
        generalize w17.alloc (.cells zCells 24) = w23 at *
        have ne23 : w0.heap.size ≠ w17.heap.size := Nat.ne_of_lt rm5_17.out.1
        have rm5_23 := Lib.hid (rm5_17.out.below hb23)
        have R23 := Lib.hid (R17.out.below hb23)
        have L23 := Lib.hid (L17.out.below hb23)
        refine wpAnyG_ready (rs := [2]) (by kernel_rfl) (by simp) ?_
        refine AllReadyG.cons rfl (fun K hK => ?_) ?_
        · go_simp
          refine (inject_any d A k B c l _ HDOK.out (R23.out.below (Below.refl _ _)) hn L23.out HOK.out).mono ?_
          rintro e w24 ⟨AI24, kI24, rfl, ho24, hr24, hb24⟩
          have hc24 : Below W.heap.size W w24 := bthen hc23 hb24
          refine hK _ _ (fun _ => hc24) ?_
          clear hK
          have rI24 := Lib.hid hr24
          have nI5_24 := Lib.hid (NotAt.own ho24 rm5_23.out.1)
          have nI6_24 := Lib.hid (NotAt.own ho24 rm6_23.out.1)
          clear ho24 hr24
          have rm5_24 := Lib.hid (rm5_23.out.below hb24)
          have rm6_24 := Lib.hid (rm6_23.out.below hb24)
          have R24 := Lib.hid (R23.out.below hb24)
          have L24 := Lib.hid (L23.out.below hb24)
          refine wpAnyG_ready (rs := [5]) (by kernel_rfl) (by simp) ?_
          refine AllReadyG.cons rfl (fun K hK => ?_) ?_
          · go_simp
            refine (override_any d A k B c l _ HDOK.out (R24.out.below (Below.refl _ _)) hn L24.out HOK.out hsum').mono ?_
            rintro e w25 ⟨AO25, kO25, rfl, ho25, hr25, hb25⟩
            have hc25 : Below W.heap.size W w25 := bthen hc24 hb25
            refine hK _ _ (fun _ => hc25) ?_
            clear hK
            have rO25 := Lib.hid hr25
            have nO5_25 := Lib.hid (NotAt.own ho25 rm5_24.out.1)
            have nO6_25 := Lib.hid (NotAt.own ho25 rm6_24.out.1)
            clear ho25 hr25
            have rI_25 := Lib.hid (rI24.out.below hb25)
            have rm5_25 := Lib.hid (rm5_24.out.below hb25)
            have rm6_25 := Lib.hid (rm6_24.out.below hb25)
            have R25 := Lib.hid (R24.out.below hb25)
            have L25 := Lib.hid (L24.out.below hb25)
            obtain ⟨hlt, hroom⟩ := rm5_25.out
            obtain ⟨⟨v0, r0⟩, f0⟩ := hroom 0 (by omega)
            obtain ⟨⟨v1, r1⟩, f1⟩ := hroom 1 (by omega)
            obtain ⟨⟨v2, r2⟩, f2⟩ := hroom 2 (by omega)
            obtain ⟨⟨v3, r3⟩, f3⟩ := hroom 3 (by omega)
            obtain ⟨⟨v4, r4⟩, f4⟩ := hroom 4 (by omega)
            obtain ⟨⟨v5, r5⟩, f5⟩ := hroom 5 (by omega)
            obtain ⟨⟨v6, r6⟩, f6⟩ := hroom 6 (by omega)
            obtain ⟨⟨v7, r7⟩, f7⟩ := hroom 7 (by omega)
            clear hroom hlt
            refine wpAnyG_ready (rs := [8]) (by kernel_rfl) (by simp) ?_
            refine AllReadyG.cons rfl (fun K hK => ?_) ?_
            · go_simp
              change K _ (put8 w25 (w0.heap.size) (injM d l) AI24 kI24)
              refine hK _ _ (fun h => absurd h (by (intro h; have : (true : Bool) = false := h; cases this))) ?_
              clear hK r0 r1 r2 r3 r4 r5 r6 r7 f0 f1 f2 f3 f4 f5 f6 f7
              have a5 := Lib.hid (At8.put (k := kI24) rm5_25.out rI_25.out nI5_24.out)
              have m6 := Lib.hid (rm6_25.out.far8 (w0.heap.size) ne23 (injM d l) AI24 kI24)
              have ro := Lib.hid (rO25.out.far8 (w0.heap.size) nO5_25.out (injM d l) AI24 kI24)
              have hcq : Below W.heap.size W (put8 w25 (w0.heap.size) (injM d l) AI24 kI24) := below_put8 hc25 (w0.heap.size) (by (first | exact Nat.le_refl _ | (with_reducible exact Below.size (by with_reducible assumption)))) (injM d l) AI24 kI24
              generalize put8 w25 (w0.heap.size) (injM d l) AI24 kI24 = wq at *
              obtain ⟨hlt, hroom⟩ := m6.out
              obtain ⟨⟨v0, r0⟩, f0⟩ := hroom 0 (by omega)
              obtain ⟨⟨v1, r1⟩, f1⟩ := hroom 1 (by omega)
              obtain ⟨⟨v2, r2⟩, f2⟩ := hroom 2 (by omega)
              obtain ⟨⟨v3, r3⟩, f3⟩ := hroom 3 (by omega)
              obtain ⟨⟨v4, r4⟩, f4⟩ := hroom 4 (by omega)
              obtain ⟨⟨v5, r5⟩, f5⟩ := hroom 5 (by omega)
              obtain ⟨⟨v6, r6⟩, f6⟩ := hroom 6 (by omega)
              obtain ⟨⟨v7, r7⟩, f7⟩ := hroom 7 (by omega)
              clear hroom hlt
              refine wpAnyG_ready (rs := [9]) (by kernel_rfl) (by simp) ?_
              refine AllReadyG.cons rfl (fun K hK => ?_) ?_
              · go_simp
                change K _ (put8 wq (w17.heap.size) (ovM d l) AO25 kO25)
                refine hK _ _ (fun h => absurd h (by (intro h; have : (true : Bool) = false := h; cases this))) ?_
                clear hK r0 r1 r2 r3 r4 r5 r6 r7 f0 f1 f2 f3 f4 f5 f6 f7
                refine wpAnyG_done (by kernel_rfl) ?_ _
                simp only [Exit.then]
                apply_assumption
                refine Met.intro ?_
                apply_assumption
                (repeat apply Exists.intro)
                refine ⟨⟨_, _, AI24, kI24, AO25, kO25, rfl, rfl, ?_, ?_, ?_⟩, rfl⟩
                · exact a5.out.far8 (Ne.symm ne23) nI6_24.out
                · exact At8.put m6.out ro.out nO6_25.out
                · exact below_put8 hcq (w17.heap.size) (by (first | exact Nat.le_refl _ | (with_reducible exact Below.size (by with_reducible assumption)))) (ovM d l) AO25 kO25
              exact AllReadyG.nil
            exact AllReadyG.nil
          exact AllReadyG.nil
        exact AllReadyG.nil
      exact AllReadyG.nil
    refine AllReadyG.cons rfl (fun K hK => ?_) ?_
    · go_simp
      change K _ (w0.alloc (.cells zCells 24))
      have hb26 : Below w0.heap.size w0 (w0.alloc (.cells zCells 24)) := balloc (Below.refl _ _) _
      have hc26 : Below W.heap.size W (w0.alloc (.cells zCells 24)) := bthen h00 hb26
      have rm6_26 := Lib.hid (Room.new w0 zCells rfl 24)
      refine hK _ _ (fun _ => hc26) ?_
      clear hK
      generalize w0.alloc (.cells zCells 24) = w26 at *
      have R26 := Lib.hid (KRd.out.below hb26)
      have L26 := Lib.hid (HLd.out.below hb26)
      refine wpAnyG_ready (rs := [2, 6]) (by kernel_rfl) (by simp) ?_
      refine AllReadyG.cons rfl (fun K hK => ?_) ?_
      · go_simp
        refine (inject_any d A k B c l _ HDOK.out (R26.out.below (Below.refl _ _)) hn L26.out HOK.out).mono ?_
        rintro e w27 ⟨AI27, kI27, rfl, ho27, hr27, hb27⟩
        have hc27 : Below W.heap.size W w27 := bthen hc26 hb27
        refine hK _ _ (fun _ => hc27) ?_
        clear hK
        have rI27 := Lib.hid hr27
        have nI6_27 := Lib.hid (NotAt.own ho27 rm6_26.out.1)
        clear ho27 hr27
        have rm6_27 := Lib.hid (rm6_26.out.below hb27)
        have R27 := Lib.hid (R26.out.below hb27)
        have L27 := Lib.hid (L26.out.below hb27)
        refine wpAnyG_ready (rs := [5, 6]) (by kernel_rfl) (by simp) ?_
        refine AllReadyG.cons rfl (fun K hK => ?_) ?_
        · go_simp
          refine (override_any d A k B c l _ HDOK.out (R27.out.below (Below.refl _ _)) hn L27.out HOK.out hsum').mono ?_
          rintro e w28 ⟨AO28, kO28, rfl, ho28, hr28, hb28⟩
          have hc28 : Below W.heap.size W w28 := bthen hc27 hb28
          refine hK _ _ (fun _ => hc28) ?_
          clear hK
          have rO28 := Lib.hid hr28
          have nO6_28 := Lib.hid (NotAt.own ho28 rm6_27.out.1)
          clear ho28 hr28
          have rI_28 := Lib.hid (rI27.out.below hb28)
          have rm6_28 := Lib.hid (rm6_27.out.below hb28)
          have R28 := Lib.hid (R27.out.below hb28)
          have L28 := Lib.hid (L27.out.below hb28)
          refine wpAnyG_ready (rs := [6]) (by kernel_rfl) (by simp) ?_
          refine AllReadyG.cons rfl (fun K hK => ?_) ?_
          · go_simp
            change K _ (w28.alloc (.cells zCells 24))
            have hb29 : Below w28.heap.size w28 (w28.alloc (.cells zCells 24)) := balloc (Below.refl _ _) _
            have hc29 : Below W.heap.size W (w28.alloc (.cells zCells 24)) := bthen hc28 hb29
            have rm5_29 := Lib.hid (Room.new w28 zCells rfl 24)
            refine hK _ _ (fun _ => hc29) ?_
            clear hK
            generalize w28.alloc (.cells zCells 24) = w29 at *
            have nI5_29 := Lib.hid (NotAt.new rI_28.out)
            have nO5_29 := Lib.hid (NotAt.new rO28.out)
            have ne29 : w0.heap.size ≠ w28.heap.size := Nat.ne_of_lt rm6_28.out.1
            have rI_29 := Lib.hid (rI_28.out.below hb29)
            have rO_29 := Lib.hid (rO28.out.below hb29)
            have rm6_29 := Lib.hid (rm6_28.out.below hb29)
            have R29 := Lib.hid (R28.out.below hb29)
            have L29 := Lib.hid (L28.out.below hb29)
            obtain ⟨hlt, hroom⟩ := rm5_29.out
            obtain ⟨⟨v0, r0⟩, f0⟩ := hroom 0 (by omega)
            obtain ⟨⟨v1, r1⟩, f1⟩ := hroom 1 (by omega)
            obtain ⟨⟨v2, r2⟩, f2⟩ := hroom 2 (by omega)
            obtain ⟨⟨v3, r3⟩, f3⟩ := hroom 3 (by omega)
            obtain ⟨⟨v4, r4⟩, f4⟩ := hroom 4 (by omega)
            obtain ⟨⟨v5, r5⟩, f5⟩ := hroom 5 (by omega)
            obtain ⟨⟨v6, r6⟩, f6⟩ := hroom 6 (by omega)
            obtain ⟨⟨v7, r7⟩, f7⟩ := hroom 7 (by omega)
            clear hroom hlt
            refine wpAnyG_ready (rs := [8]) (by kernel_rfl) (by simp) ?_
            refine AllReadyG.cons rfl (fun K hK => ?_) ?_
            · go_simp
              change K _ (put8 w29 (w28.heap.size) (injM d l) AI27 kI27)
              refine hK _ _ (fun h => absurd h (by (intro h; have : (true : Bool) = false := h; cases this))) ?_
              clear hK r0 r1 r2 r3 r4 r5 r6 r7 f0 f1 f2 f3 f4 f5 f6 f7
              have a5 := Lib.hid (At8.put (k := kI27) rm5_29.out rI_29.out nI5_29.out)
              have m6 := Lib.hid (rm6_29.out.far8 (w28.heap.size) (Ne.symm ne29) (injM d l) AI27 kI27)
              have ro := Lib.hid (rO_29.out.far8 (w28.heap.size) nO5_29.out (injM d l) AI27 kI27)
              have hcq : Below W.heap.size W (put8 w29 (w28.heap.size) (injM d l) AI27 kI27) := below_put8 hc29 (w28.heap.size) (by (first | exact Nat.le_refl _ | (with_reducible exact Below.size (by with_reducible assumption)))) (injM d l) AI27 kI27
              generalize put8 w29 (w28.heap.size) (injM d l) AI27 kI27 = wq at *
              obtain ⟨hlt, hroom⟩ := m6.out
              obtain ⟨⟨v0, r0⟩, f0⟩ := hroom 0 (by omega)
              obtain ⟨⟨v1, r1⟩, f1⟩ := hroom 1 (by omega)
              obtain ⟨⟨v2, r2⟩, f2⟩ := hroom 2 (by omega)
              obtain ⟨⟨v3, r3⟩, f3⟩ := hroom 3 (by omega)
              obtain ⟨⟨v4, r4⟩, f4⟩ := hroom 4 (by omega)
              obtain ⟨⟨v5, r5⟩, f5⟩ := hroom 5 (by omega)
              obtain ⟨⟨v6, r6⟩, f6⟩ := hroom 6 (by omega)
              obtain ⟨⟨v7, r7⟩, f7⟩ := hroom 7 (by omega)
              clear hroom hlt
              refine wpAnyG_ready (rs := [9]) (by kernel_rfl) (by simp) ?_
              refine AllReadyG.cons rfl (fun K hK => ?_) ?_
              · go_simp
                change K _ (put8 wq (w0.heap.size) (ovM d l) AO28 kO28)
                refine hK _ _ (fun h => absurd h (by (intro h; have : (true : Bool) = false := h; cases this))) ?_
                clear hK r0 r1 r2 r3 r4 r5 r6 r7 f0 f1 f2 f3 f4 f5 f6 f7
                refine wpAnyG_done (by kernel_rfl) ?_ _
                simp only [Exit.then]
                apply_assumption
                refine Met.intro ?_
                apply_assumption
                (repeat apply Exists.intro)
                refine ⟨⟨_, _, AI27, kI27, AO28, kO28, rfl, rfl, ?_, ?_, ?_⟩, rfl⟩
                · exact a5.out.far8 ne29 nI6_27.out
                · exact At8.put m6.out ro.out nO6_28.out
                · exact below_put8 hcq (w0.heap.size) (by (first | exact Nat.le_refl _ | (with_reducible exact Below.size (by with_reducible assumption)))) (ovM d l) AO28 kO28
              exact AllReadyG.nil
            exact AllReadyG.nil
          exact AllReadyG.nil
        refine AllReadyG.cons rfl (fun K hK => ?_) ?_
        · go_simp
          change K _ (w27.alloc (.cells zCells 24))
          have hb30 : Below w27.heap.size w27 (w27.alloc (.cells zCells 24)) := balloc (Below.refl _ _) _
          have hc30 : Below W.heap.size W (w27.alloc (.cells zCells 24)) := bthen hc27 hb30
          have rm5_30 := Lib.hid (Room.new w27 zCells rfl 24)
          refine hK _ _ (fun _ => hc30) ?_
          clear hK
          generalize w27.alloc (.cells zCells 24) = w30 at *
          have nI5_30 := Lib.hid (NotAt.new rI27.out)
          have ne30 : w0.heap.size ≠ w27.heap.size := Nat.ne_of_lt rm6_27.out.1
          have rI_30 := Lib.hid (rI27.out.below hb30)
          have rm6_30 := Lib.hid (rm6_27.out.below hb30)
          have R30 := Lib.hid (R27.out.below hb30)
          have L30 := Lib.hid (L27.out.below hb30)
          refine wpAnyG_ready (rs := [5]) (by kernel_rfl) (by simp) ?_
          refine AllReadyG.cons rfl (fun K hK => ?_) ?_
          · go_simp
            refine (override_any d A k B c l _ HDOK.out (R30.out.below (Below.refl _ _)) hn L30.out HOK.out hsum').mono ?_
            rintro e w31 ⟨AO31, kO31, rfl, ho31, hr31, hb31⟩
            have hc31 : Below W.heap.size W w31 := bthen hc30 hb31
            refine hK _ _ (fun _ => hc31) ?_
            clear hK
            have rO31 := Lib.hid hr31
            have nO5_31 := Lib.hid (NotAt.own ho31 rm5_30.out.1)
            have nO6_31 := Lib.hid (NotAt.own ho31 rm6_30.out.1)
            clear ho31 hr31
            have rI_31 := Lib.hid (rI_30.out.below hb31)
            have rm5_31 := Lib.hid (rm5_30.out.below hb31)
            have rm6_31 := Lib.hid (rm6_30.out.below hb31)
            have R31 := Lib.hid (R30.out.below hb31)
            have L31 := Lib.hid (L30.out.below hb31)
            obtain ⟨hlt, hroom⟩ := rm5_31.out
            obtain ⟨⟨v0, r0⟩, f0⟩ := hroom 0 (by omega)
            obtain ⟨⟨v1, r1⟩, f1⟩ := hroom 1 (by omega)
            obtain ⟨⟨v2, r2⟩, f2⟩ := hroom 2 (by omega)
            obtain ⟨⟨v3, r3⟩, f3⟩ := hroom 3 (by omega)
            obtain ⟨⟨v4, r4⟩, f4⟩ := hroom 4 (by omega)
            obtain ⟨⟨v5, r5⟩, f5⟩ := hroom 5 (by omega)
            obtain ⟨⟨v6, r6⟩, f6⟩ := hroom 6 (by omega)
            obtain ⟨⟨v7, r7⟩, f7⟩ := hroom 7 (by omega)
            clear hroom hlt
            refine wpAnyG_ready (rs := [8]) (by kernel_rfl) (by simp) ?_
            refine AllReadyG.cons rfl (fun K hK => ?_) ?_
            · go_simp
              change K _ (put8 w31 (w27.heap.size) (injM d l) AI27 kI27)
              refine hK _ _ (fun h => absurd h (by (intro h; have : (true : Bool) = false := h; cases this))) ?_
              clear hK r0 r1 r2 r3 r4 r5 r6 r7 f0 f1 f2 f3 f4 f5 f6 f7
              have a5 := Lib.hid (At8.put (k := kI27) rm5_31.out rI_31.out nI5_30.out)
              have m6 := Lib.hid (rm6_31.out.far8 (w27.heap.size) (Ne.symm ne30) (injM d l) AI27 kI27)
              have ro := Lib.hid (rO31.out.far8 (w27.heap.size) nO5_31.out (injM d l) AI27 kI27)
              have hcq : Below W.heap.size W (put8 w31 (w27.heap.size) (injM d l) AI27 kI27) := below_put8 hc31 (w27.heap.size) (by (first | exact Nat.le_refl _ | (with_reducible exact Below.size (by with_reducible assumption)))) (injM d l) AI27 kI27
              generalize put8 w31 (w27.heap.size) (injM d l) AI27 kI27 = wq at *
              obtain ⟨hlt, hroom⟩ := m6.out
              obtain ⟨⟨v0, r0⟩, f0⟩ := hroom 0 (by omega)
              obtain ⟨⟨v1, r1⟩, f1⟩ := hroom 1 (by omega)
              obtain ⟨⟨v2, r2⟩, f2⟩ := hroom 2 (by omega)
              obtain ⟨⟨v3, r3⟩, f3⟩ := hroom 3 (by omega)
              obtain ⟨⟨v4, r4⟩, f4⟩ := hroom 4 (by omega)
              obtain ⟨⟨v5, r5⟩, f5⟩ := hroom 5 (by omega)
              obtain ⟨⟨v6, r6⟩, f6⟩ := hroom 6 (by omega)
              obtain ⟨⟨v7, r7⟩, f7⟩ := hroom 7 (by omega)
              clear hroom hlt
              refine wpAnyG_ready (rs := [9]) (by kernel_rfl) (by simp) ?_
              refine AllReadyG.cons rfl (fun K hK => ?_) ?_
              · go_simp
                change K _ (put8 wq (w0.heap.size) (ovM d l) AO31 kO31)
                refine hK _ _ (fun h => absurd h (by (intro h; have : (true : Bool) = false := h; cases this))) ?_
                clear hK r0 r1 r2 r3 r4 r5 r6 r7 f0 f1 f2 f3 f4 f5 f6 f7
                refine wpAnyG_done (by kernel_rfl) ?_ _
                simp only [Exit.then]
                apply_assumption
                refine Met.intro ?_
                apply_assumption
                (repeat apply Exists.intro)
                refine ⟨⟨_, _, AI27, kI27, AO31, kO31, rfl, rfl, ?_, ?_, ?_⟩, rfl⟩
                · exact a5.out.far8 ne30 nI6_27.out
                · exact At8.put m6.out ro.out nO6_31.out
                · exact below_put8 hcq (w0.heap.size) (by (first | exact Nat.le_refl _ | (with_reducible exact Below.size (by with_reducible assumption)))) (ovM d l) AO31 kO31
              exact AllReadyG.nil
            exact AllReadyG.nil
          exact AllReadyG.nil
        exact AllReadyG.nil
      refine AllReadyG.cons rfl (fun K hK => ?_) ?_
      · go_simp
        change K _ (w26.alloc (.cells zCells 24))
        have hb32 : Below w26.heap.size w26 (w26.alloc (.cells zCells 24)) := balloc (Below.refl _ _) _
        have hc32 : Below W.heap.size W (w26.alloc (.cells zCells 24)) := bthen hc26 hb32
        have rm5_32 := Lib.hid (Room.new w26 zCells rfl 24)
        refine hK _ _ (fun _ => hc32) ?_
        clear hK
        generalize w26.alloc (.cells zCells 24) = w32 at *
        have ne32 : w0.heap.size ≠ w26.heap.size := Nat.ne_of_lt rm6_26.out.1
        have rm6_32 := Lib.hid (rm6_26.out.below hb32)
        have R32 := Lib.hid (R26.out.below hb32)
        have L32 := Lib.hid (L26.out.below hb32)
        refine wpAnyG_ready (rs := [2]) (by kernel_rfl) (by simp) ?_
        refine AllReadyG.cons rfl (fun K hK => ?_) ?_
        · go_simp
          refine (inject_any d A k B c l _ HDOK.out (R32.out.below (Below.refl _ _)) hn L32.out HOK.out).mono ?_
          rintro e w33 ⟨AI33, kI33, rfl, ho33, hr33, hb33⟩
          have hc33 : Below W.heap.size W w33 := bthen hc32 hb33
          refine hK _ _ (fun _ => hc33) ?_
          clear hK
          have rI33 := Lib.hid hr33
          have nI5_33 := Lib.hid (NotAt.own ho33 rm5_32.out.1)
          have nI6_33 := Lib.hid (NotAt.own ho33 rm6_32.out.1)
          clear ho33 hr33
          have rm5_33 := Lib.hid (rm5_32.out.below hb33)
          have rm6_33 := Lib.hid (rm6_32.out.below hb33)
          have R33 := Lib.hid (R32.out.below hb33)
          have L33 := Lib.hid (L32.out.below hb33)
          refine wpAnyG_ready (rs := [5]) (by kernel_rfl) (by simp) ?_
          refine AllReadyG.cons rfl (fun K hK => ?_) ?_
          · go_simp
            refine (override_any d A k B c l _ HDOK.out (R33.out.below (Below.refl _ _)) hn L33.out HOK.out hsum').mono ?_
            rintro e w34 ⟨AO34, kO34, rfl, ho34, hr34, hb34⟩
            have hc34 : Below W.heap.size W w34 := bthen hc33 hb34
            refine hK _ _ (fun _ => hc34) ?_
            clear hK
            have rO34 := Lib.hid hr34
            have nO5_34 := Lib.hid (NotAt.own ho34 rm5_33.out.1)
            have nO6_34 := Lib.hid (NotAt.own ho34 rm6_33.out.1)
            clear ho34 hr34
            have rI_34 := Lib.hid (rI33.out.below hb34)
            have rm5_34 := Lib.hid (rm5_33.out.below hb34)
            have rm6_34 := Lib.hid (rm6_33.out.below hb34)
            have R34 := Lib.hid (R33.out.below hb34)
            have L34 := Lib.hid (L33.out.below hb34)
            obtain ⟨hlt, hroom⟩ := rm5_34.out
            obtain ⟨⟨v0, r0⟩, f0⟩ := hroom 0 (by omega)
            obtain ⟨⟨v1, r1⟩, f1⟩ := hroom 1 (by omega)
            obtain ⟨⟨v2, r2⟩, f2⟩ := hroom 2 (by omega)
            obtain ⟨⟨v3, r3⟩, f3⟩ := hroom 3 (by omega)
            obtain ⟨⟨v4, r4⟩, f4⟩ := hroom 4 (by omega)
            obtain ⟨⟨v5, r5⟩, f5⟩ := hroom 5 (by omega)
            obtain ⟨⟨v6, r6⟩, f6⟩ := hroom 6 (by omega)
            obtain ⟨⟨v7, r7⟩, f7⟩ := hroom 7 (by omega)
            clear hroom hlt
            refine wpAnyG_ready (rs := [8]) (by kernel_rfl) (by simp) ?_
            refine AllReadyG.cons rfl (fun K hK => ?_) ?_
            · go_simp
              change K _ (put8 w34 (w26.heap.size) (injM d l) AI33 kI33)
              refine hK _ _ (fun h => absurd h (by (intro h; have : (true : Bool) = false := h; cases this))) ?_
              clear hK r0 r1 r2 r3 r4 r5 r6 r7 f0 f1 f2 f3 f4 f5 f6 f7
              have a5 := Lib.hid (At8.put (k := kI33) rm5_34.out rI_34.out nI5_33.out)
              have m6 := Lib.hid (rm6_34.out.far8 (w26.heap.size) (Ne.symm ne32) (injM d l) AI33 kI33)
              have ro := Lib.hid (rO34.out.far8 (w26.heap.size) nO5_34.out (injM d l) AI33 kI33)
              have hcq : Below W.heap.size W (put8 w34 (w26.heap.size) (injM d l) AI33 kI33) := below_put8 hc34 (w26.heap.size) (by (first | exact Nat.le_refl _ | (with_reducible exact Below.size (by with_reducible assumption)))) (injM d l) AI33 kI33
              generalize put8 w34 (w26.heap.size) (injM d l) AI33 kI33 = wq at *
              obtain ⟨hlt, hroom⟩ := m6.out
              obtain ⟨⟨v0, r0⟩, f0⟩ := hroom 0 (by omega)
              obtain ⟨⟨v1, r1⟩, f1⟩ := hroom 1 (by omega)
              obtain ⟨⟨v2, r2⟩, f2⟩ := hroom 2 (by omega)
              obtain ⟨⟨v3, r3⟩, f3⟩ := hroom 3 (by omega)
              obtain ⟨⟨v4, r4⟩, f4⟩ := hroom 4 (by omega)
              obtain ⟨⟨v5, r5⟩, f5⟩ := hroom 5 (by omega)
              obtain ⟨⟨v6, r6⟩, f6⟩ := hroom 6 (by omega)
              obtain ⟨⟨v7, r7⟩, f7⟩ := hroom 7 (by omega)
              clear hroom hlt
              refine wpAnyG_ready (rs := [9]) (by kernel_rfl) (by simp) ?_
              refine AllReadyG.cons rfl (fun K hK => ?_) ?_
              · go_simp
                change K _ (put8 wq (w0.heap.size) (ovM d l) AO34 kO34)
                refine hK _ _ (fun h => absurd h (by (intro h; have : (true : Bool) = false := h; cases this))) ?_
                clear hK r0 r1 r2 r3 r4 r5 r6 r7 f0 f1 f2 f3 f4 f5 f6 f7
                refine wpAnyG_done (by kernel_rfl) ?_ _
                simp only [Exit.then]
                apply_assumption
                refine Met.intro ?_
                apply_assumption
                (repeat apply Exists.intro)
                refine ⟨⟨_, _, AI33, kI33, AO34, kO34, rfl, rfl, ?_, ?_, ?_⟩, rfl⟩
                · exact a5.out.far8 ne32 nI6_33.out
                · exact At8.put m6.out ro.out nO6_34.out
                · exact below_put8 hcq (w0.heap.size) (by (first | exact Nat.le_refl _ | (with_reducible exact Below.size (by with_reducible assumption)))) (ovM d l) AO34 kO34
              exact AllReadyG.nil
            exact AllReadyG.nil
          exact AllReadyG.nil
        exact AllReadyG.nil
      exact AllReadyG.nil
    exact AllReadyG.nil
  case rest =>
    obtain ⟨b5, b6, A5, k5, A6, k6, rfl, rfl, h5, h6, hc⟩ := hcut
    have K5 := Lib.hid h5
    have K6 := Lib.hid h6
    have K2 := Lib.hid (H2.out.below hc)
    have KL := Lib.hid (HL.out.below hc)
    have KB := Lib.hid (bthen (hb2e ▸ HB0.out) hc)
    clear h5 h6 C2 H2 HL HB0
    obtain ⟨dlt, d0, d1, d2, d3, d4, d5, d6, d7, dfr⟩ := K2.out.o
    clear dfr
    go_wp2_with fail
    refine (rkey_any d A k _ HDOK.out).mono ?_
    rintro e w5 ⟨rfl, hb5⟩
    clear d0 d1 d2 d3 d4 d5 d6 d7 dlt
    go_wp2_with fail
    refine (rfind_any B c l (keyS d) _ hn6 (KL.out.below hb5) HOK.out).mono ?_
    rintro e w6 ⟨A7, k7, rfl, ho7, hb6⟩
    have H7 := Lib.hid (At8.new w6 (findD l (keyS d)) A7 k7 ho7.reads)
    clear ho7
    go_upto_region 5 with (fail)
    have hc6 : Below wc.heap.size wc (w6.alloc (DC (findD l (keyS d)) A7 k7)) := balloc (bthen hb5 hb6) _
    change Code.wp _ _ _ _ (w6.alloc (DC (findD l (keyS d)) A7 k7))
    generalize w6.alloc (DC (findD l (keyS d)) A7 k7) = W6 at *
    generalize w6.heap.size = b7 at *
    clear hb5 hb6
    have J5 := Lib.hid (K5.out.below hc6)
    have J6 := Lib.hid (K6.out.below hc6)
    have J2 := Lib.hid (K2.out.below hc6)
    have JL := Lib.hid (KL.out.below hc6)
    have JB := Lib.hid (bthen KB.out hc6)
    clear K5 K6 K2 KL KB
    have C5 := J5.out.cells
    have C6 := J6.out.cells
    have C2 := J2.out.cells
    have hkI := key_inj d l
    have hkO := key_ov d l
    have HOI := Lib.hid (o_inj d l)
    have HOKI := Lib.hid (ok_inj HDOK.out HG.out)
    have HOKO := Lib.hid (ok_ov HDOK.out HG.out hsum)
    have HII := Lib.hid (inj_inj d l)
    have hlI : (injM d l).e.length ≤ 4398046511104 := by have := HOKI.out.2.2.2.2.2.2; omega
    go_cut [56] (fun v56 wc => v56 = .bool false ∧ Below W6.heap.size W6 wc)
    case first =>
      go_region_held3 (fun w' => Below W6.heap.size W6 w') ((repeat (first | (with_reducible exact Below.refl _ _) | (with_reducible assumption) | (refine bthen ?_ (by with_reducible assumption)) | (refine balloc ?_ _) | (refine bdrew ?_)))) ((first
        | (go_at_call 6; refine (awake_any _).mono ?_; rintro e wa ⟨rfl, hba⟩)
        | (go_at_call 9; with_reducible refine (rkey_any (injM d l) A5 k5 _ HOKI.out).mono ?_; rintro e wb ⟨rfl, hbb⟩; rw [hkI])
        | (go_at_call 9; with_reducible refine (rkey_any (ovM d l) A6 k6 _ HOKO.out).mono ?_; rintro e wb ⟨rfl, hbb⟩; rw [hkO])
        | (go_at_call 9; with_reducible refine (rkey_any d A k _ HDOK.out).mono ?_; rintro e wb ⟨rfl, hbb⟩)
        | (go_at_call 11; refine (inject_any (injM d l) A5 k5 B c l _ HOKI.out (J5.out.r.below (by with_reducible assumption)) hn (JL.out.below (by with_reducible assumption)) HOK.out).mono ?_; rintro e wi ⟨Ai, ki, rfl, hoi, hri, hbi⟩; rw [HII.out] at hri ⊢; clear hoi)
        | (go_at_call 10; with_reducible refine (dep_any (injM d l) _ _ _ _ _ hlI (by first | (with_reducible assumption) | (exact ReadsEx.below (by with_reducible assumption) (by with_reducible assumption))) (J5.out.r.below (by with_reducible assumption))).mono ?_; rintro e wd ⟨rfl, hbd⟩)))
      simp only [Exit.then]
      apply_assumption
      refine Met.intro ?_
      apply_assumption
      (repeat apply Exists.intro)
      refine ⟨⟨?_, ?_⟩, rfl⟩
      · rw [HOI.out]; simp
      · with_reducible assumption
    case rest =>
      obtain ⟨rfl, hc7⟩ := hcut
      have M5 := Lib.hid (J5.out.below hc7)
      have M6 := Lib.hid (J6.out.below hc7)
      have M2 := Lib.hid (J2.out.below hc7)
      have M7 := Lib.hid (H7.out.below hc7)
      have MB := Lib.hid (bthen JB.out hc7)
      have hld : d.e.length ≤ 4398046511104 := by have := HDOK.out.2.2.2.2.2.2; omega
      clear J5 J6 J2 H7 JL JB C5 C6 C2 hkI hkO HII hlI
      rcases Bool.eq_false_or_eq_true (findB l (keyS d)) with hf | hf
      · have hov : (ovM d l).e.length = d.e.length + (findD l (keyS d)).e.length := by rw [ovM, if_pos hf]; exact List.length_append
        have hiv : (injM d l).v = orS d.v (findD l (keyS d)).v := by rw [injM, if_pos hf]
        have his : (injM d l).s = orS d.s (findD l (keyS d)).s := by rw [injM, if_pos hf]
        have hwv : (ovM d l).v = orS (findD l (keyS d)).v d.v := by rw [ovM, if_pos hf]
        have hws : (ovM d l).s = orS (findD l (keyS d)).s d.s := by rw [ovM, if_pos hf]
        obtain ⟨_, _, _, d2, _, _, d5, _, d7, _⟩ := M2.out.o
        obtain ⟨_, _, _, i2, _, _, i5, _, _, _⟩ := M5.out.o
        obtain ⟨_, _, _, o2, _, _, o5, _, o7, _⟩ := M6.out.o
        obtain ⟨_, _, _, m2, _, _, m5, _, m7, _⟩ := M7.out.o
        rw [hiv] at i2
        rw [his] at i5
        rw [hwv] at o2
        rw [hws] at o5
        rw [hov] at o7
        clear hov hiv his hwv hws
        generalize findD l (keyS d) = m at *
        have hmb : m.e.length ≤ 4398046511104 := by omega
        have hwr : IntKind.i64.wrap ((d.e.length : Int) + (m.e.length : Int)) = (d.e.length : Int) + (m.e.length : Int) := by rw [IntKind.wrap_i64]; omega
        go_wp2_with fail
        all_goals first
          | (rename_i h1 h2; exact absurd (by rw [orS, if_neg h1]) h2)
          | (go_ret; exact ⟨rfl, MB.out⟩)
      · have e1 : injM d l = d := by rw [injM, if_neg (by rw [hf]; exact Bool.false_ne_true)]
        have e2 : ovM d l = d := by rw [ovM, if_neg (by rw [hf]; exact Bool.false_ne_true)]
        rw [e1] at M5
        rw [e2] at M6
        clear e1 e2
        obtain ⟨_, d0, d1, d2, d3, d4, d5, d6, d7, _⟩ := M2.out.o
        obtain ⟨_, i0, i1, i2, i3, i4, i5, i6, i7, _⟩ := M5.out.o
        go_wp2_with fail
        refine (dep_any d A5 A k5 k _ hld M5.out.r M2.out.r).mono ?_
        rintro e w8 ⟨rfl, hb8⟩
        clear d0 d1 d2 d3 d4 d5 d6 d7 i0 i1 i2 i3 i4 i5 i6 i7
        obtain ⟨_, d0, d1, d2, d3, d4, d5, d6, d7, _⟩ := (M2.out.below hb8).o
        obtain ⟨_, i0, i1, i2, i3, i4, i5, i6, i7, _⟩ := (M6.out.below hb8).o
        go_wp2_with fail
        refine (dep_any d A6 A k6 k _ hld (M6.out.below hb8).r (M2.out.below hb8).r).mono ?_
        rintro e w9 ⟨rfl, hb9⟩
        go_wp2_with fail
        go_ret
        exact ⟨rfl, bthen (bthen MB.out hb8) hb9⟩
end Go.Proofs.Ytfcnmghhhgghcaa
