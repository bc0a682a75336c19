/- The contract of manage.Inject. -/
import Derived.Test.YtfcnmghhhgghcaaD
import Derived.Deep.RegionWith
import Derived.BigRegion
import Derived.Test.YtfcnmghhhgghcaaF
import Derived.Test.YtfcnmghhhgghcaaH
import Derived.Deep.DeepCutAuto
import Derived.Deep.CutBlock
namespace Go.Proofs.Ytfcnmghhhgghcaa
open Go.RowKit

theorem Own8.farc {w : World} {B : Nat} {d : Dp} {A : Option Addr} {k : Nat} (h : Own8 w B d A k) (p : Addr) (hp : p.block ≠ B) (u : Value) : Own8 (w.setCell p u) B d A k := by
  have hn : ∀ j, (w.setCell p u).cell? ⟨B, j, none⟩ = w.cell? ⟨B, j, none⟩ := fun j => World.cell?_setCell_other _ _ _ _ (by intro e; rw [e] at hp; exact hp rfl)
  exact ⟨by simpa [World.setCell] using h.lt, (hn 0).trans h.c0, (hn 1).trans h.c1, (hn 2).trans h.c2, (hn 3).trans h.c3, (hn 4).trans h.c4, (hn 5).trans h.c5, (hn 6).trans h.c6, (hn 7).trans h.c7, fun j hj => by rw [World.frozen?_setCell]; exact h.fr j hj⟩
theorem Own8.belowAt {w w' : World} {B b : Nat} {d : Dp} {A : Option Addr} {k : Nat} (h : Own8 w B d A k) (hB : B < b) (hb : Below b w w') : Own8 w' B d A k :=
  ⟨Nat.lt_of_lt_of_le h.lt hb.size, (hb.cell (p := ⟨B, 0, none⟩) hB).trans h.c0, (hb.cell (p := ⟨B, 1, none⟩) hB).trans h.c1, (hb.cell (p := ⟨B, 2, none⟩) hB).trans h.c2, (hb.cell (p := ⟨B, 3, none⟩) hB).trans h.c3, (hb.cell (p := ⟨B, 4, none⟩) hB).trans h.c4, (hb.cell (p := ⟨B, 5, none⟩) hB).trans h.c5, (hb.cell (p := ⟨B, 6, none⟩) hB).trans h.c6, (hb.cell (p := ⟨B, 7, none⟩) hB).trans h.c7,
   fun j hj => (hb.frozen (p := ⟨B, j, none⟩) hB).trans (h.fr j hj)⟩
theorem Room.belowAt {w w' : World} {B b : Nat} (h : Room w B) (hB : B < b) (hb : Below b w w') : Room w' B :=
  ⟨Nat.lt_of_lt_of_le h.1 hb.size, fun j hj => by
    obtain ⟨⟨u, hu⟩, hf⟩ := h.2 j hj
    exact ⟨⟨u, (hb.cell (p := ⟨B, j, none⟩) hB).trans hu⟩, (hb.frozen (p := ⟨B, j, none⟩) hB).trans hf⟩⟩
/-- What stands at the end of the four stores' region. -/
structure Met4 (w wc : World) (b0 b5 bE bM : Nat) (D m : Dp) (A3 : Option Addr) (k3 : Nat) (A7 : Option Addr) (k7 : Nat) : Prop where
  o0 : Own8 wc b0 D A3 k3
  o5 : Own8 wc b5 m A7 k7
  rm : Room wc (b0 + 1)
  oe : OwnsEx wc bE (.slice A3 D.e.length k3) D.e
  om : OwnsEx wc bM (.slice A7 m.e.length k7) m.e
  bl : Below b0 w wc
theorem Met4.below {w wc wd : World} {b0 b5 bE bM : Nat} {D m : Dp} {A3 : Option Addr} {k3 : Nat} {A7 : Option Addr} {k7 : Nat} (h : Met4 w wc b0 b5 bE bM D m A3 k3 A7 k7) (hb : Below wc.heap.size wc wd) : Met4 w wd b0 b5 bE bM D m A3 k3 A7 k7 :=
  ⟨h.o0.below hb, h.o5.below hb, h.rm.below hb, h.oe.below hb, h.om.below hb, h.bl.trans (hb.mono (Nat.le_of_lt h.o0.lt))⟩
theorem Met4.stores {w wc : World} {b0 b5 bE bM : Nat} {D m : Dp} {A3 : Option Addr} {k3 : Nat} {A7 : Option Addr} {k7 : Nat} (h : Met4 w wc b0 b5 bE bM D m A3 k3 A7 k7) (h5 : b0 ≠ b5) (hE : b0 < bE) (hM : b0 < bM) (x y : ByteArray) :
    Met4 w ((wc.setCell ⟨b0, 2, none⟩ (.string x)).setCell ⟨b0, 5, none⟩ (.string y)) b0 b5 bE bM { D with v := x, s := y } m A3 k3 A7 k7 :=
  ⟨(h.o0.put2 x).put5 y, (h.o5.farc ⟨b0, 2, none⟩ h5 _).farc ⟨b0, 5, none⟩ h5 _, (h.rm.far ⟨b0, 2, none⟩ (by simp) _).far ⟨b0, 5, none⟩ (by simp) _, (h.oe.far ⟨b0, 2, none⟩ hE _).far ⟨b0, 5, none⟩ hE _, (h.om.far ⟨b0, 2, none⟩ hM _).far ⟨b0, 5, none⟩ hM _, (h.bl.setCell (Nat.le_refl _) _).setCell (Nat.le_refl _) _⟩

set_option maxHeartbeats 2000000 in
set_option maxRecDepth 100000 in
theorem inject_any (d : Dp) (A : Option Addr) (k : Nat) (B : Option Addr) (c : Nat) (l : List Dp) (w : World) (hd : DpOk d) (hr : ReadsEx w A d.e) (hn : l.length ≤ c) (hl : ReadsDp w B l) (hok : ∀ x ∈ l, DpOk x) :
    Calls Try.prog 11 #[DV d A k, .slice B l.length c] w (DepPost (injM d l) w) := by
  have HR := Lib.hid (reads_alloc (reads_alloc hr (DC d A k)) (.cells zCells 24))
  have HL := Lib.hid hl
  have HB0 : Hid (Below w.heap.size w ((w.alloc (DC d A k)).alloc (.cells zCells 24))) := Lib.hid (balloc (balloc (Below.refl _ _) _) _)
  have HX := Lib.hid ((Own8.new w d A k).below (w' := (w.alloc (DC d A k)).alloc (.cells zCells 24)) (balloc (Below.refl _ _) _))
  have HRM : Hid (Room ((w.alloc (DC d A k)).alloc (.cells zCells 24)) (w.heap.size + 1)) := by
    have := Room.new (w.alloc (DC d A k)) zCells rfl 24
    have h2 : Room ((w.alloc (DC d A k)).alloc (.cells zCells 24)) (w.heap.size + 1) := by simpa using this
    exact Lib.hid h2
  have HOK := Lib.hid hok
  have HDOK := Lib.hid hd
  have hlen := hd.2.2.2.2.2.2
  clear hr hd hl hok
  go_enter Try.func11, Try.ntmps11
  go_upto_region 1 with (fail)
  change Code.wp _ _ _ _ ((w.alloc (DC d A k)).alloc (.cells zCells 24))
  generalize hW : (w.alloc (DC d A k)).alloc (.cells zCells 24) = W at *
  clear hW
  have x7 := HX.out.c7
  go_wp2_with fail
  refine (clone2_any A k d.e _ (by omega) HR.out).mono ?_
  rintro e w3 ⟨A3, k3, rfl, ho3, hr3, hb3⟩
  have HO3 := Lib.hid ho3
  clear x7 hr3 ho3
  have hlt0 : w.heap.size < W.heap.size := HX.out.lt
  have hlt1 : w.heap.size + 1 < W.heap.size := HRM.out.1
  have y7 := (HX.out.below hb3).c7
  have yf7 := (HX.out.below hb3).fr 7 (by omega)
  have hz3 : W.heap.size ≤ w3.heap.size := hb3.size
  go_upto_region 2 with (fail)
  have HO5 := Lib.hid (HO3.out.far ⟨w.heap.size, 7, none⟩ hlt0 (.slice A3 d.e.length k3))
  have HD5 := Lib.hid ((HX.out.below hb3).put7 A3 k3)
  have HR5 := Lib.hid ((HRM.out.below hb3).far ⟨w.heap.size, 7, none⟩ (by simp) (.slice A3 d.e.length k3))
  have hb5 : Below w.heap.size w (w3.setCell ⟨w.heap.size, 7, none⟩ (.slice A3 d.e.length k3)) := (bthen HB0.out hb3).setCell (Nat.le_refl _) _
  have hz5 : w3.heap.size ≤ (w3.setCell ⟨w.heap.size, 7, none⟩ (.slice A3 d.e.length k3)).heap.size := by simp [World.setCell]
  clear y7 yf7
  change Code.wp _ _ _ _ (w3.setCell ⟨w.heap.size, 7, none⟩ (.slice A3 d.e.length k3))
  generalize w3.setCell ⟨w.heap.size, 7, none⟩ (.slice A3 d.e.length k3) = W5 at *
  have HL5 := Lib.hid (keepDp HL.out hb5)
  clear HL HR HX HO3 HRM hb3
  obtain ⟨dlt, d0, d1, d2, d3, d4, d5, d6, d7, dfr⟩ := HD5.out
  clear dfr
  go_wp2_with fail
  refine (key_any d A3 k3 _ HDOK.out).mono ?_
  rintro e w6 ⟨rfl, hb6⟩
  clear d0 d1 d2 d3 d4 d5 d6 d7
  go_wp2_with fail
  refine (find_any B c l (keyS d) _ hn (HL5.out.below hb6) HOK.out).mono ?_
  rintro e w7 ⟨A7, k7, rfl, hr7, hb7⟩
  have HR7 := Lib.hid hr7
  have hz6 : W5.heap.size ≤ w6.heap.size := hb6.size
  have hz7 : w6.heap.size ≤ w7.heap.size := hb7.size
  have hbw7 : Below w.heap.size w w7 := bthen (bthen hb5 hb6) hb7
  clear hr7
  rcases Bool.eq_false_or_eq_true (findB l (keyS d)) with hf | hf
  · have HQ : Hid (injM d l = { d with v := orS d.v (findD l (keyS d)).v, s := orS d.s (findD l (keyS d)).s, e := if d.e = [] then (findD l (keyS d)).e else d.e }) := by show _ = _; rw [injM, if_pos hf]
    go_upto_region 4 with (fail)
    have HM4 : Hid (Met4 w (w7.alloc (DC (findD l (keyS d)) A7 k7)) w.heap.size w7.heap.size W.heap.size w6.heap.size d (findD l (keyS d)) A3 k3 A7 k7) :=
      Lib.hid ⟨((HD5.out.below hb6).below hb7).below (balloc (Below.refl _ _) _), Own8.new _ _ _ _, ((HR5.out.below hb6).below hb7).below (balloc (Below.refl _ _) _), ((HO5.out.below hb6).below hb7).below (balloc (Below.refl _ _) _), HR7.out.below (balloc (Below.refl _ _) _), balloc hbw7 _⟩
    change Code.wp _ _ _ _ (w7.alloc (DC (findD l (keyS d)) A7 k7))
    generalize w7.alloc (DC (findD l (keyS d)) A7 k7) = W8 at *
    generalize findD l (keyS d) = m at *
    generalize hb5e : w7.heap.size = b5 at *
    generalize hb0e : w.heap.size = b0 at *
    generalize hbME : w6.heap.size = bM at *
    clear HD5 HR5 HO5 HR7 hb5 hb6 hb7 HB0 HL5 hbw7
    have c2 := HM4.out.o0.c2
    have c5 := HM4.out.o0.c5
    have f2 := HM4.out.o0.fr 2 (by omega)
    have f5 := HM4.out.o0.fr 5 (by omega)
    have m2 := HM4.out.o5.c2
    have m5 := HM4.out.o5.c5
    have s0 : b0 < W8.heap.size := HM4.out.o0.lt
    have s5 : b5 < W8.heap.size := HM4.out.o5.lt
    have s0' : b0 < W8.heap.size + 1 := by omega
    have s5' : b5 < W8.heap.size + 1 := by omega
    have n0 : W8.heap.size ≠ b0 := by omega
    have n5 : W8.heap.size ≠ b5 := by omega
    have n0' : W8.heap.size + 1 ≠ b0 := by omega
    have n5' : W8.heap.size + 1 ≠ b5 := by omega
    go_cut [] (fun wc => Met4 w wc b0 b5 W.heap.size bM { d with v := orS d.v m.v, s := orS d.s m.s } m A3 k3 A7 k7)
    case first =>
      refine wp_region_guarded (S := fun w' => Own8 w' b0 d A3 k3 ∧ Own8 w' b5 m A7 k7) (g := 13) (by kernel_rfl) ?_
      have hS : Own8 W8.drew b0 d A3 k3 ∧ Own8 W8.drew b5 m A7 k7 := ⟨HM4.out.o0.below (bdrew (Below.refl _ _)), HM4.out.o5.below (bdrew (Below.refl _ _))⟩

      refine wpAnyG_take (i := 0) (v := ?_) [13] rfl (by kernel_rfl) (by kernel_rfl) (by kernel_rfl) (by kernel_rfl) (fun _ _ _ h => h) (Or.inl ⟨by rfl, ?_⟩) hS ?_
      rotate_left 1
      · rintro w' ⟨h1, h2⟩; go_simp; try with_reducible rfl
      refine wpAnyG_take (i := 1) (v := ?_) [13] rfl (by kernel_rfl) (by kernel_rfl) (by kernel_rfl) (by kernel_rfl) (fun _ _ _ h => h) (Or.inl ⟨by rfl, ?_⟩) hS ?_
      rotate_left 1
      · rintro w' ⟨h1, h2⟩; have := h1.c2; go_simp; try with_reducible rfl
      refine wpAnyG_take (i := 2) (v := ?_) [13] rfl (by kernel_rfl) (by kernel_rfl) (by kernel_rfl) (by kernel_rfl) (fun _ _ _ h => h) (Or.inl ⟨by rfl, ?_⟩) hS ?_
      rotate_left 1
      · rintro w' ⟨h1, h2⟩; go_simp; try with_reducible rfl
      refine wpAnyG_take (i := 3) (v := ?_) [13] rfl (by kernel_rfl) (by kernel_rfl) (by kernel_rfl) (by kernel_rfl) (fun _ _ _ h => h) (Or.inl ⟨by rfl, ?_⟩) hS ?_
      rotate_left 1
      · rintro w' ⟨h1, h2⟩; have := h2.c2; go_simp; try with_reducible rfl
      refine wpAnyG_take (i := 6) (v := ?_) [13] rfl (by kernel_rfl) (by kernel_rfl) (by kernel_rfl) (by kernel_rfl) (fun _ _ _ h => h) (Or.inl ⟨by rfl, ?_⟩) hS ?_
      rotate_left 1
      · rintro w' ⟨h1, h2⟩; go_simp; try with_reducible rfl
      refine wpAnyG_take (i := 7) (v := ?_) [13] rfl (by kernel_rfl) (by kernel_rfl) (by kernel_rfl) (by kernel_rfl) (fun _ _ _ h => h) (Or.inl ⟨by rfl, ?_⟩) hS ?_
      rotate_left 1
      · rintro w' ⟨h1, h2⟩; have := h1.c5; go_simp; try with_reducible rfl
      refine wpAnyG_take (i := 8) (v := ?_) [9, 10, 11, 13] rfl (by kernel_rfl) (by kernel_rfl) (by kernel_rfl) (by kernel_rfl) (fun _ _ _ h => h) (Or.inl ⟨by rfl, ?_⟩) hS ?_
      rotate_left 1
      · rintro w' ⟨h1, h2⟩; go_simp; try with_reducible rfl
      refine wpAnyG_take (i := 9) (v := ?_) [10, 11, 13] rfl (by kernel_rfl) (by kernel_rfl) (by kernel_rfl) (by kernel_rfl) (fun _ _ _ h => h) (Or.inl ⟨by rfl, ?_⟩) hS ?_
      rotate_left 1
      · rintro w' ⟨h1, h2⟩; have := h2.c5; go_simp; try with_reducible rfl
      have HA1 := Lib.hid (or2_any d.v m.v W8.heap.size (W8.alloc (.cells #[.string d.v, .string m.v] 9)).drew (by simp) (by simp))
      have HA2 := Lib.hid (or2_any d.v m.v W8.heap.size ((W8.alloc (.cells #[.string d.v, .string m.v] 9)).alloc (.cells #[.string d.s, .string m.s] 9)).drew (by simp) (by simp))
      have HA3 := Lib.hid (or2_any d.v m.v (W8.heap.size + 1) ((W8.alloc (.cells #[.string d.s, .string m.s] 9)).alloc (.cells #[.string d.v, .string m.v] 9)).drew (by simp) (by simp))
      have HB1 := Lib.hid (or2_any d.s m.s (W8.heap.size + 1) ((W8.alloc (.cells #[.string d.v, .string m.v] 9)).alloc (.cells #[.string d.s, .string m.s] 9)).drew (by simp) (by simp))
      have HB2 := Lib.hid (or2_any d.s m.s W8.heap.size ((W8.alloc (.cells #[.string d.s, .string m.s] 9)).alloc (.cells #[.string d.v, .string m.v] 9)).drew (by simp) (by simp))
      refine wpAnyG_ready (rs := [4, 10]) (by kernel_rfl) (by simp) ?_
      refine AllReadyG.cons rfl (fun K hK => ?_) ?_
      · go_simp
        refine hK _ _ (fun _ => ⟨?_, ?_⟩) ?_
        · refine HM4.out.o0.below ?_; (repeat (first | (with_reducible exact Below.refl _ _) | (with_reducible assumption) | (refine balloc ?_ _) | (refine bdrew ?_)))
        · refine HM4.out.o5.below ?_; (repeat (first | (with_reducible exact Below.refl _ _) | (with_reducible assumption) | (refine balloc ?_ _) | (refine bdrew ?_)))
        clear hK
        refine wpAnyG_ready (rs := [5, 10]) (by kernel_rfl) (by simp) ?_
        refine AllReadyG.cons rfl (fun K hK => ?_) ?_
        · go_simp
          with_reducible refine (HA1.out).mono ?_
          rintro e w' ⟨rfl, rfl⟩
          refine hK _ _ (fun _ => ⟨?_, ?_⟩) ?_
          · refine HM4.out.o0.below ?_; (repeat (first | (with_reducible exact Below.refl _ _) | (with_reducible assumption) | (refine balloc ?_ _) | (refine bdrew ?_)))
          · refine HM4.out.o5.below ?_; (repeat (first | (with_reducible exact Below.refl _ _) | (with_reducible assumption) | (refine balloc ?_ _) | (refine bdrew ?_)))
          clear hK
          refine wpAnyG_take (i := 12) (v := ?_) [13] rfl (by kernel_rfl) (by kernel_rfl) (by kernel_rfl) (by kernel_rfl) (fun _ _ _ h => h) (Or.inl ⟨by rfl, ?_⟩) ⟨?_, ?_⟩ ?_
          rotate_left 1
          · rintro w' ⟨h1, h2⟩; go_simp; try with_reducible rfl
          · refine HM4.out.o0.below ?_; (repeat (first | (with_reducible exact Below.refl _ _) | (with_reducible assumption) | (refine balloc ?_ _) | (refine bdrew ?_)))
          · refine HM4.out.o5.below ?_; (repeat (first | (with_reducible exact Below.refl _ _) | (with_reducible assumption) | (refine balloc ?_ _) | (refine bdrew ?_)))
          refine wpAnyG_ready (rs := [10]) (by kernel_rfl) (by simp) ?_
          refine AllReadyG.cons rfl (fun K hK => ?_) ?_
          · go_simp
            refine hK _ _ (fun _ => ⟨?_, ?_⟩) ?_
            · refine HM4.out.o0.below ?_; (repeat (first | (with_reducible exact Below.refl _ _) | (with_reducible assumption) | (refine balloc ?_ _) | (refine bdrew ?_)))
            · refine HM4.out.o5.below ?_; (repeat (first | (with_reducible exact Below.refl _ _) | (with_reducible assumption) | (refine balloc ?_ _) | (refine bdrew ?_)))
            clear hK
            refine wpAnyG_ready (rs := [11]) (by kernel_rfl) (by simp) ?_
            refine AllReadyG.cons rfl (fun K hK => ?_) ?_
            · go_simp
              with_reducible refine (HB1.out).mono ?_
              rintro e w' ⟨rfl, rfl⟩
              refine hK _ _ (fun _ => ⟨?_, ?_⟩) ?_
              · refine HM4.out.o0.below ?_; (repeat (first | (with_reducible exact Below.refl _ _) | (with_reducible assumption) | (refine balloc ?_ _) | (refine bdrew ?_)))
              · refine HM4.out.o5.below ?_; (repeat (first | (with_reducible exact Below.refl _ _) | (with_reducible assumption) | (refine balloc ?_ _) | (refine bdrew ?_)))
              clear hK
              refine wpAnyG_ready (rs := [13]) (by kernel_rfl) (by simp) ?_
              refine AllReadyG.cons rfl (fun K hK => ?_) ?_
              · go_simp
                refine hK _ _ (fun h => absurd h (by (intro h; have : (true : Bool) = false := h; cases this))) ?_
                clear hK
                refine wpAnyG_ready (rs := [14]) (by kernel_rfl) (by simp) ?_
                refine AllReadyG.cons rfl (fun K hK => ?_) ?_
                · go_simp
                  refine hK _ _ (fun h => absurd h (by (intro h; have : (true : Bool) = false := h; cases this))) ?_
                  clear hK
                  refine wpAnyG_ready (rs := [15]) (by kernel_rfl) (by simp) ?_
                  refine AllReadyG.cons rfl (fun K hK => ?_) ?_
                  · go_simp
                    refine hK _ _ (fun h => absurd h (by (intro h; have : (true : Bool) = false := h; cases this))) ?_
                    clear hK
                    refine wpAnyG_done (by kernel_rfl) ?_ _
                    simp only [Exit.then]
                    apply_assumption
                    refine Met.intro ?_
                    apply_assumption
                    (repeat apply Exists.intro)
                    refine ⟨?_, rfl⟩
                    refine (HM4.out.stores (by omega) hlt0 (by omega) _ _).below ?_; (repeat (first | (with_reducible exact Below.refl _ _) | (with_reducible assumption) | (refine balloc ?_ _) | (refine bdrew ?_)))
                  exact AllReadyG.nil
                exact AllReadyG.nil
              exact AllReadyG.nil
            exact AllReadyG.nil
          exact AllReadyG.nil
        refine AllReadyG.cons rfl (fun K hK => ?_) ?_
        · go_simp
          refine hK _ _ (fun _ => ⟨?_, ?_⟩) ?_
          · refine HM4.out.o0.below ?_; (repeat (first | (with_reducible exact Below.refl _ _) | (with_reducible assumption) | (refine balloc ?_ _) | (refine bdrew ?_)))
          · refine HM4.out.o5.below ?_; (repeat (first | (with_reducible exact Below.refl _ _) | (with_reducible assumption) | (refine balloc ?_ _) | (refine bdrew ?_)))
          clear hK
          refine wpAnyG_ready (rs := [5]) (by kernel_rfl) (by simp) ?_
          refine AllReadyG.cons rfl (fun K hK => ?_) ?_
          · go_simp
            with_reducible refine (HA2.out).mono ?_
            rintro e w' ⟨rfl, rfl⟩
            refine hK _ _ (fun _ => ⟨?_, ?_⟩) ?_
            · refine HM4.out.o0.below ?_; (repeat (first | (with_reducible exact Below.refl _ _) | (with_reducible assumption) | (refine balloc ?_ _) | (refine bdrew ?_)))
            · refine HM4.out.o5.below ?_; (repeat (first | (with_reducible exact Below.refl _ _) | (with_reducible assumption) | (refine balloc ?_ _) | (refine bdrew ?_)))
            clear hK
            refine wpAnyG_take (i := 12) (v := ?_) [13] rfl (by kernel_rfl) (by kernel_rfl) (by kernel_rfl) (by kernel_rfl) (fun _ _ _ h => h) (Or.inl ⟨by rfl, ?_⟩) ⟨?_, ?_⟩ ?_
            rotate_left 1
            · rintro w' ⟨h1, h2⟩; go_simp; try with_reducible rfl
            · refine HM4.out.o0.below ?_; (repeat (first | (with_reducible exact Below.refl _ _) | (with_reducible assumption) | (refine balloc ?_ _) | (refine bdrew ?_)))
            · refine HM4.out.o5.below ?_; (repeat (first | (with_reducible exact Below.refl _ _) | (with_reducible assumption) | (refine balloc ?_ _) | (refine bdrew ?_)))
            refine wpAnyG_ready (rs := [11]) (by kernel_rfl) (by simp) ?_
            refine AllReadyG.cons rfl (fun K hK => ?_) ?_
            · go_simp
              with_reducible refine (HB1.out).mono ?_
              rintro e w' ⟨rfl, rfl⟩
              refine hK _ _ (fun _ => ⟨?_, ?_⟩) ?_
              · refine HM4.out.o0.below ?_; (repeat (first | (with_reducible exact Below.refl _ _) | (with_reducible assumption) | (refine balloc ?_ _) | (refine bdrew ?_)))
              · refine HM4.out.o5.below ?_; (repeat (first | (with_reducible exact Below.refl _ _) | (with_reducible assumption) | (refine balloc ?_ _) | (refine bdrew ?_)))
              clear hK
              refine wpAnyG_ready (rs := [13]) (by kernel_rfl) (by simp) ?_
              refine AllReadyG.cons rfl (fun K hK => ?_) ?_
              · go_simp
                refine hK _ _ (fun h => absurd h (by (intro h; have : (true : Bool) = false := h; cases this))) ?_
                clear hK
                refine wpAnyG_ready (rs := [14]) (by kernel_rfl) (by simp) ?_
                refine AllReadyG.cons rfl (fun K hK => ?_) ?_
                · go_simp
                  refine hK _ _ (fun h => absurd h (by (intro h; have : (true : Bool) = false := h; cases this))) ?_
                  clear hK
                  refine wpAnyG_ready (rs := [15]) (by kernel_rfl) (by simp) ?_
                  refine AllReadyG.cons rfl (fun K hK => ?_) ?_
                  · go_simp
                    refine hK _ _ (fun h => absurd h (by (intro h; have : (true : Bool) = false := h; cases this))) ?_
                    clear hK
                    refine wpAnyG_done (by kernel_rfl) ?_ _
                    simp only [Exit.then]
                    apply_assumption
                    refine Met.intro ?_
                    apply_assumption
                    (repeat apply Exists.intro)
                    refine ⟨?_, rfl⟩
                    refine (HM4.out.stores (by omega) hlt0 (by omega) _ _).below ?_; (repeat (first | (with_reducible exact Below.refl _ _) | (with_reducible assumption) | (refine balloc ?_ _) | (refine bdrew ?_)))
                  exact AllReadyG.nil
                exact AllReadyG.nil
              exact AllReadyG.nil
            exact AllReadyG.nil
          exact AllReadyG.nil
        exact AllReadyG.nil
      refine AllReadyG.cons rfl (fun K hK => ?_) ?_
      · go_simp
        refine hK _ _ (fun _ => ⟨?_, ?_⟩) ?_
        · refine HM4.out.o0.below ?_; (repeat (first | (with_reducible exact Below.refl _ _) | (with_reducible assumption) | (refine balloc ?_ _) | (refine bdrew ?_)))
        · refine HM4.out.o5.below ?_; (repeat (first | (with_reducible exact Below.refl _ _) | (with_reducible assumption) | (refine balloc ?_ _) | (refine bdrew ?_)))
        clear hK
        refine wpAnyG_ready (rs := [4]) (by kernel_rfl) (by simp) ?_
        refine AllReadyG.cons rfl (fun K hK => ?_) ?_
        · go_simp
          refine hK _ _ (fun _ => ⟨?_, ?_⟩) ?_
          · refine HM4.out.o0.below ?_; (repeat (first | (with_reducible exact Below.refl _ _) | (with_reducible assumption) | (refine balloc ?_ _) | (refine bdrew ?_)))
          · refine HM4.out.o5.below ?_; (repeat (first | (with_reducible exact Below.refl _ _) | (with_reducible assumption) | (refine balloc ?_ _) | (refine bdrew ?_)))
          clear hK
          refine wpAnyG_ready (rs := [5]) (by kernel_rfl) (by simp) ?_
          refine AllReadyG.cons rfl (fun K hK => ?_) ?_
          · go_simp
            with_reducible refine (HA3.out).mono ?_
            rintro e w' ⟨rfl, rfl⟩
            refine hK _ _ (fun _ => ⟨?_, ?_⟩) ?_
            · refine HM4.out.o0.below ?_; (repeat (first | (with_reducible exact Below.refl _ _) | (with_reducible assumption) | (refine balloc ?_ _) | (refine bdrew ?_)))
            · refine HM4.out.o5.below ?_; (repeat (first | (with_reducible exact Below.refl _ _) | (with_reducible assumption) | (refine balloc ?_ _) | (refine bdrew ?_)))
            clear hK
            refine wpAnyG_take (i := 12) (v := ?_) [13] rfl (by kernel_rfl) (by kernel_rfl) (by kernel_rfl) (by kernel_rfl) (fun _ _ _ h => h) (Or.inl ⟨by rfl, ?_⟩) ⟨?_, ?_⟩ ?_
            rotate_left 1
            · rintro w' ⟨h1, h2⟩; go_simp; try with_reducible rfl
            · refine HM4.out.o0.below ?_; (repeat (first | (with_reducible exact Below.refl _ _) | (with_reducible assumption) | (refine balloc ?_ _) | (refine bdrew ?_)))
            · refine HM4.out.o5.below ?_; (repeat (first | (with_reducible exact Below.refl _ _) | (with_reducible assumption) | (refine balloc ?_ _) | (refine bdrew ?_)))
            refine wpAnyG_ready (rs := [11]) (by kernel_rfl) (by simp) ?_
            refine AllReadyG.cons rfl (fun K hK => ?_) ?_
            · go_simp
              with_reducible refine (HB2.out).mono ?_
              rintro e w' ⟨rfl, rfl⟩
              refine hK _ _ (fun _ => ⟨?_, ?_⟩) ?_
              · refine HM4.out.o0.below ?_; (repeat (first | (with_reducible exact Below.refl _ _) | (with_reducible assumption) | (refine balloc ?_ _) | (refine bdrew ?_)))
              · refine HM4.out.o5.below ?_; (repeat (first | (with_reducible exact Below.refl _ _) | (with_reducible assumption) | (refine balloc ?_ _) | (refine bdrew ?_)))
              clear hK
              refine wpAnyG_ready (rs := [13]) (by kernel_rfl) (by simp) ?_
              refine AllReadyG.cons rfl (fun K hK => ?_) ?_
              · go_simp
                refine hK _ _ (fun h => absurd h (by (intro h; have : (true : Bool) = false := h; cases this))) ?_
                clear hK
                refine wpAnyG_ready (rs := [14]) (by kernel_rfl) (by simp) ?_
                refine AllReadyG.cons rfl (fun K hK => ?_) ?_
                · go_simp
                  refine hK _ _ (fun h => absurd h (by (intro h; have : (true : Bool) = false := h; cases this))) ?_
                  clear hK
                  refine wpAnyG_ready (rs := [15]) (by kernel_rfl) (by simp) ?_
                  refine AllReadyG.cons rfl (fun K hK => ?_) ?_
                  · go_simp
                    refine hK _ _ (fun h => absurd h (by (intro h; have : (true : Bool) = false := h; cases this))) ?_
                    clear hK
                    refine wpAnyG_done (by kernel_rfl) ?_ _
                    simp only [Exit.then]
                    apply_assumption
                    refine Met.intro ?_
                    apply_assumption
                    (repeat apply Exists.intro)
                    refine ⟨?_, rfl⟩
                    refine (HM4.out.stores (by omega) hlt0 (by omega) _ _).below ?_; (repeat (first | (with_reducible exact Below.refl _ _) | (with_reducible assumption) | (refine balloc ?_ _) | (refine bdrew ?_)))
                  exact AllReadyG.nil
                exact AllReadyG.nil
              exact AllReadyG.nil
            exact AllReadyG.nil
          exact AllReadyG.nil
        exact AllReadyG.nil
      exact AllReadyG.nil
    case rest =>
      have HC := Lib.hid hcut
      clear c2 c5 f2 f5 m2 m5 s0 s5 s0' s5' n0 n5 n0' n5' HM4 hcut
      have c7 := HC.out.o0.c7
      have m7 := HC.out.o5.c7
      have g7 := HC.out.o0.fr 7 (by omega)
      have hlen2 : d.e.length ≤ 4398046510976 := hlen
      by_cases he : d.e.length = 0
      · have he0 : d.e = [] := List.eq_nil_of_length_eq_zero he
        have HE0 := Lib.hid he0
        clear he0
        have hei : (d.e.length : Int) = 0 := by omega
        go_upto_region 7 with (fail)
        have HO9 := Lib.hid (HC.out.o0.put7e A7 k7 m.e)
        have HR9 := Lib.hid (HC.out.rm.far ⟨b0, 7, none⟩ (by simp) (.slice A7 m.e.length k7))
        have HE9 := Lib.hid (HC.out.om.far ⟨b0, 7, none⟩ (show b0 < bM by omega) (.slice A7 m.e.length k7))
        have HB9 := Lib.hid (HC.out.bl.setCell (p := ⟨b0, 7, none⟩) (Nat.le_refl _) (.slice A7 m.e.length k7))
        change Code.wp _ _ _ _ (wc.setCell ⟨b0, 7, none⟩ (.slice A7 m.e.length k7))
        generalize wc.setCell ⟨b0, 7, none⟩ (.slice A7 m.e.length k7) = W9 at *
        clear c7 m7 g7 HC
        obtain ⟨dlt, d0, d1, d2, d3, d4, d5, d6, d7, dfr⟩ := HO9.out
        clear dfr
        obtain ⟨hBlt3, hroom3⟩ := HR9.out
        obtain ⟨⟨v0, r0⟩, f0⟩ := hroom3 0 (by omega)
        obtain ⟨⟨v1, r1⟩, f1⟩ := hroom3 1 (by omega)
        obtain ⟨⟨v2, r2⟩, f2⟩ := hroom3 2 (by omega)
        obtain ⟨⟨v3, r3⟩, f3⟩ := hroom3 3 (by omega)
        obtain ⟨⟨v4, r4⟩, f4⟩ := hroom3 4 (by omega)
        obtain ⟨⟨v5, r5⟩, f5⟩ := hroom3 5 (by omega)
        obtain ⟨⟨v6, r6⟩, f6⟩ := hroom3 6 (by omega)
        obtain ⟨⟨v7, r7⟩, f7⟩ := hroom3 7 (by omega)
        clear hroom3
        go_wp2_with fail
        refine bodyPost_ret (v := DV { d with v := orS d.v m.v, s := orS d.s m.s, e := m.e } A7 k7) ?_ rfl ?_
        · simp [results, Try.results11, go_sem, r0, r1, r2, r3, r4, r5, r6, r7]
        · have ho := HE9.out.far8 (b0 + 1) (by omega) { d with v := orS d.v m.v, s := orS d.s m.s, e := m.e } A7 k7
          have hq : injM d l = { d with v := orS d.v m.v, s := orS d.s m.s, e := m.e } := by rw [HQ.out, if_pos HE0.out]
          refine ⟨A7, k7, by rw [hq], ?_, ?_, ?_⟩
          · rw [hq, hb0e]; exact ho.weak (by omega)
          · rw [hq]; exact ho.reads
          · rw [hb0e]; exact below_put8 HB9.out (b0 + 1) (Nat.le_succ _) { d with v := orS d.v m.v, s := orS d.s m.s, e := m.e } A7 k7
      · have hei : ¬ (d.e.length : Int) = 0 := by omega
        have HE0 : Hid (¬ d.e = []) := by show ¬ _; intro h; rw [h] at he; exact he rfl
        go_upto_region 7 with (fail)
        have HO9 := Lib.hid HC.out.o0
        have HR9 := Lib.hid HC.out.rm
        have HE9 := Lib.hid HC.out.oe
        have HB9 := Lib.hid HC.out.bl
        clear c7 m7 g7 HC
        obtain ⟨dlt, d0, d1, d2, d3, d4, d5, d6, d7, dfr⟩ := HO9.out
        clear dfr
        obtain ⟨hBlt3, hroom3⟩ := HR9.out
        obtain ⟨⟨v0, r0⟩, f0⟩ := hroom3 0 (by omega)
        obtain ⟨⟨v1, r1⟩, f1⟩ := hroom3 1 (by omega)
        obtain ⟨⟨v2, r2⟩, f2⟩ := hroom3 2 (by omega)
        obtain ⟨⟨v3, r3⟩, f3⟩ := hroom3 3 (by omega)
        obtain ⟨⟨v4, r4⟩, f4⟩ := hroom3 4 (by omega)
        obtain ⟨⟨v5, r5⟩, f5⟩ := hroom3 5 (by omega)
        obtain ⟨⟨v6, r6⟩, f6⟩ := hroom3 6 (by omega)
        obtain ⟨⟨v7, r7⟩, f7⟩ := hroom3 7 (by omega)
        clear hroom3
        go_wp2_with fail
        refine bodyPost_ret (v := DV { d with v := orS d.v m.v, s := orS d.s m.s } A3 k3) ?_ rfl ?_
        · simp [results, Try.results11, go_sem, r0, r1, r2, r3, r4, r5, r6, r7]
        · have ho := HE9.out.far8 (b0 + 1) (by omega) { d with v := orS d.v m.v, s := orS d.s m.s } A3 k3
          have hq : injM d l = { d with v := orS d.v m.v, s := orS d.s m.s } := by rw [HQ.out, if_neg HE0.out]
          refine ⟨A3, k3, by rw [hq], ?_, ?_, ?_⟩
          · rw [hq, hb0e]; exact ho.weak (by omega)
          · rw [hq]; exact ho.reads
          · rw [hb0e]; exact below_put8 HB9.out (b0 + 1) (Nat.le_succ _) { d with v := orS d.v m.v, s := orS d.s m.s } A3 k3
  · have HQ : Hid (injM d l = d) := by show _ = _; rw [injM, if_neg (by rw [hf]; exact Bool.false_ne_true)]
    go_upto_region 7 with (fail)
    have HM4 : Hid (Met4 w (w7.alloc (DC (findD l (keyS d)) A7 k7)) w.heap.size w7.heap.size W.heap.size w6.heap.size d (findD l (keyS d)) A3 k3 A7 k7) :=
      Lib.hid ⟨((HD5.out.below hb6).below hb7).below (balloc (Below.refl _ _) _), Own8.new _ _ _ _, ((HR5.out.below hb6).below hb7).below (balloc (Below.refl _ _) _), ((HO5.out.below hb6).below hb7).below (balloc (Below.refl _ _) _), HR7.out.below (balloc (Below.refl _ _) _), balloc hbw7 _⟩
    change Code.wp _ _ _ _ (w7.alloc (DC (findD l (keyS d)) A7 k7))
    generalize w7.alloc (DC (findD l (keyS d)) A7 k7) = W9 at *
    generalize findD l (keyS d) = m at *
    generalize hb5e : w7.heap.size = b5 at *
    generalize hb0e : w.heap.size = b0 at *
    generalize hbME : w6.heap.size = bM at *
    clear HD5 HR5 HO5 HR7 hb5 hb6 hb7 HB0 HL5 hbw7
    have HE9 := Lib.hid HM4.out.oe
    have HB9 := Lib.hid HM4.out.bl
    obtain ⟨dlt, d0, d1, d2, d3, d4, d5, d6, d7, dfr⟩ := HM4.out.o0
    clear dfr
    obtain ⟨hBlt3, hroom3⟩ := HM4.out.rm
    obtain ⟨⟨v0, r0⟩, f0⟩ := hroom3 0 (by omega)
    obtain ⟨⟨v1, r1⟩, f1⟩ := hroom3 1 (by omega)
    obtain ⟨⟨v2, r2⟩, f2⟩ := hroom3 2 (by omega)
    obtain ⟨⟨v3, r3⟩, f3⟩ := hroom3 3 (by omega)
    obtain ⟨⟨v4, r4⟩, f4⟩ := hroom3 4 (by omega)
    obtain ⟨⟨v5, r5⟩, f5⟩ := hroom3 5 (by omega)
    obtain ⟨⟨v6, r6⟩, f6⟩ := hroom3 6 (by omega)
    obtain ⟨⟨v7, r7⟩, f7⟩ := hroom3 7 (by omega)
    clear hroom3
    go_wp2_with fail
    refine bodyPost_ret (v := DV d A3 k3) ?_ rfl ?_
    · simp [results, Try.results11, go_sem, r0, r1, r2, r3, r4, r5, r6, r7]
    · have ho := HE9.out.far8 (b0 + 1) (by omega) d A3 k3
      have hq : injM d l = d := by rw [HQ.out]
      refine ⟨A3, k3, by rw [hq], ?_, ?_, ?_⟩
      · rw [hq, hb0e]; exact ho.weak (by omega)
      · rw [hq]; exact ho.reads
      · rw [hb0e]; exact below_put8 HB9.out (b0 + 1) (Nat.le_succ _) d A3 k3
end Go.Proofs.Ytfcnmghhhgghcaa

