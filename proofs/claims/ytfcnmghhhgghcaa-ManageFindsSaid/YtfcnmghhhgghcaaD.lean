/- The contracts of the reference's own and Find. -/
import Derived.Test.YtfcnmghhhgghcaaC
namespace Go.Proofs.Ytfcnmghhhgghcaa
open Go.RowKit

theorem Own8.room {w : World} {B : Nat} {d : Dp} {A : Option Addr} {k : Nat} (h : Own8 w B d A k) : Room w B :=
  ⟨h.lt, fun j hj => ⟨by
    obtain rfl | rfl | rfl | rfl | rfl | rfl | rfl | rfl : j = 0 ∨ j = 1 ∨ j = 2 ∨ j = 3 ∨ j = 4 ∨ j = 5 ∨ j = 6 ∨ j = 7 := by omega
    · exact ⟨_, h.c0⟩
    · exact ⟨_, h.c1⟩
    · exact ⟨_, h.c2⟩
    · exact ⟨_, h.c3⟩
    · exact ⟨_, h.c4⟩
    · exact ⟨_, h.c5⟩
    · exact ⟨_, h.c6⟩
    · exact ⟨_, h.c7⟩, h.fr j hj⟩⟩
theorem Room.far {w : World} {B : Nat} (h : Room w B) (p : Addr) (hp : p.block ≠ B) (u : Value) : Room (w.setCell p u) B :=
  ⟨by simpa [World.setCell] using h.1, fun j hj => by
    obtain ⟨⟨v, hv⟩, hf⟩ := h.2 j hj
    exact ⟨⟨v, (World.cell?_setCell_other _ _ _ _ (by intro e; rw [e] at hp; exact hp rfl)).trans hv⟩, by rw [World.frozen?_setCell]; exact hf⟩⟩
/-- A Dep that is handed out: its list lies in memory of the call's own. -/
def DepPost (d : Dp) (w : World) (e : Ending) (w' : World) : Prop := ∃ A k, e = .returned (DV d A k) ∧ OwnsEx w' w.heap.size (.slice A d.e.length k) d.e ∧ ReadsEx w' A d.e ∧ Below w.heap.size w w'

set_option maxHeartbeats 1000000 in
set_option maxRecDepth 100000 in
theorem rown_any (d : Dp) (A : Option Addr) (k : Nat) (w : World) (hd : DpOk d) (hr : ReadsEx w A d.e) :
    Calls Try.prog 17 #[DV d A k] w (DepPost d w) := by
  have HR := Lib.hid (reads_alloc (reads_alloc hr (DC d A k)) (.cells zCells 24))
  have HB0 : Hid (Below w.heap.size w ((w.alloc (DC d A k)).alloc (.cells zCells 24))) := Lib.hid (balloc (balloc (Below.refl _ _) _) _)
  have HX := Lib.hid ((Own8.new w d A k).below (w' := (w.alloc (DC d A k)).alloc (.cells zCells 24)) (balloc (Below.refl _ _) _))
  have HRM : Hid (Room ((w.alloc (DC d A k)).alloc (.cells zCells 24)) (w.heap.size + 1)) := by
    have := Room.new (w.alloc (DC d A k)) zCells rfl 24
    have h2 : Room ((w.alloc (DC d A k)).alloc (.cells zCells 24)) (w.heap.size + 1) := by simpa using this
    exact Lib.hid h2
  have hlen := hd.2.2.2.2.2.2
  clear hr hd
  go_enter Try.func17, Try.ntmps17
  go_upto_region 1 with (fail)
  change Code.wp _ _ _ _ ((w.alloc (DC d A k)).alloc (.cells zCells 24))
  generalize hW : (w.alloc (DC d A k)).alloc (.cells zCells 24) = W at *
  clear hW
  have x7 := HX.out.c7
  go_upto_region 2 with (at_builtin; refine app_ex rfl (.const (.slice none 0 0)) (.tmp 4) rfl W.heap.size _ [] d.e A k rfl rfl ⟨rfl, .inl ⟨rfl, rfl⟩⟩ HR.out (Below.refl _ _) (Nat.le_refl _) (by simp; omega) ?_; intro v3 w3 ho3 hb3 hB3 hg3; have y7 := (HX.out.below hb3).c7; have yf7 := (HX.out.below hb3).fr 7 (by omega); have ho4 := Lib.hid ho3; clear ho3 hg3 x7; obtain ⟨A3, k3, hv3, hr3⟩ := ho4.out.slice; subst hv3; clear hr3)
  have hlt0 : w.heap.size < W.heap.size := HX.out.lt
  have hlt1 : w.heap.size + 1 < W.heap.size := HRM.out.1
  have HO5 := Lib.hid (ho4.out.far ⟨w.heap.size, 7, none⟩ hlt0 (.slice A3 d.e.length k3))
  have HD5 := Lib.hid ((HX.out.below hb3).put7 A3 k3)
  have HR5 := Lib.hid ((HRM.out.below hb3).far ⟨w.heap.size, 7, none⟩ (by simp) (.slice A3 d.e.length k3))
  have hb5 : Below w.heap.size w (w3.setCell ⟨w.heap.size, 7, none⟩ (.slice A3 d.e.length k3)) := (bthen HB0.out hb3).setCell (Nat.le_refl _) _
  clear y7 yf7 ho4 hb3
  change Code.wp _ _ _ _ (w3.setCell ⟨w.heap.size, 7, none⟩ (.slice A3 d.e.length k3))
  generalize w3.setCell ⟨w.heap.size, 7, none⟩ (.slice A3 d.e.length k3) = W5 at *
  obtain ⟨dlt, d0, d1, d2, d3, d4, d5, d6, d7, dfr⟩ := HD5.out
  clear dfr
  obtain ⟨hBlt3, hroom3⟩ := HR5.out
  obtain ⟨⟨v0, r0⟩, f0⟩ := hroom3 0 (by omega)
  obtain ⟨⟨v1, r1⟩, f1⟩ := hroom3 1 (by omega)
  obtain ⟨⟨v2, r2⟩, f2⟩ := hroom3 2 (by omega)
  obtain ⟨⟨v3, r3⟩, f3⟩ := hroom3 3 (by omega)
  obtain ⟨⟨v4, r4⟩, f4⟩ := hroom3 4 (by omega)
  obtain ⟨⟨v5, r5⟩, f5⟩ := hroom3 5 (by omega)
  obtain ⟨⟨v6, r6⟩, f6⟩ := hroom3 6 (by omega)
  obtain ⟨⟨v7, r7⟩, f7⟩ := hroom3 7 (by omega)
  clear hroom3
  go_wp2_with fail
  refine bodyPost_ret (v := DV d A3 k3) ?_ rfl ?_
  · simp [results, Try.results17, go_sem, r0, r1, r2, r3, r4, r5, r6, r7]
  · have ho := ((((((((HO5.out.far ⟨w.heap.size + 1, 0, none⟩ hlt1 (.string d.g)).far ⟨w.heap.size + 1, 1, none⟩ hlt1 (.string d.n)).far ⟨w.heap.size + 1, 2, none⟩ hlt1 (.string d.v)).far ⟨w.heap.size + 1, 3, none⟩ hlt1 (.string d.t)).far ⟨w.heap.size + 1, 4, none⟩ hlt1 (.string d.c)).far ⟨w.heap.size + 1, 5, none⟩ hlt1 (.string d.s)).far ⟨w.heap.size + 1, 6, none⟩ hlt1 (.bool d.o)).far ⟨w.heap.size + 1, 7, none⟩ hlt1 (.slice A3 d.e.length k3))
    exact ⟨A3, k3, rfl, ho.weak (Nat.le_of_lt hlt0), ho.reads, (((((((hb5.setCell (Nat.le_succ _) _).setCell (Nat.le_succ _) _).setCell (Nat.le_succ _) _).setCell (Nat.le_succ _) _).setCell (Nat.le_succ _) _).setCell (Nat.le_succ _) _).setCell (Nat.le_succ _) _).setCell (Nat.le_succ _) _⟩

theorem drop_dp (l : List Dp) (k : Nat) (h : k < l.length) : l.drop k = l.getD k zD :: l.drop (k + 1) := by
  rw [List.drop_eq_getElem_cons h]; simp [List.getD_eq_getElem?_getD, h]
theorem getD_mem (l : List Dp) (k : Nat) (h : k < l.length) : l.getD k zD ∈ l := by
  simp [List.getD_eq_getElem?_getD, h]

set_option maxHeartbeats 1000000 in
set_option maxRecDepth 100000 in
theorem rfind_any (A : Option Addr) (c : Nat) (l : List Dp) (key : ByteArray) (w : World) (hn : l.length ≤ 100000) (hl : ReadsDp w A l) (hok : ∀ d ∈ l, DpOk d) :
    Calls Try.prog 8 #[.slice A l.length c, .string key] w (FindPost l key w) := by
  have HL := Lib.hid (readsDp_alloc hl (.cells zCells 24))
  have HOK := Lib.hid hok
  have HRM := Lib.hid (Room.new w zCells rfl 24)
  have HB0 : Hid (Below w.heap.size w (w.alloc (.cells zCells 24))) := Lib.hid (balloc (Below.refl _ _) _)
  clear hl hok
  go_enter Try.func8, Try.ntmps8
  go_wp2_with fail
  change Code.wp _ _ _ _ (w.alloc (.cells zCells 24))
  generalize hW : w.alloc (.cells zCells 24) = W at *
  clear hW
  go_loopw [6] (fun v wr => ∃ k : Nat, v = .int .i64 k ∧ k ≤ l.length ∧ Below W.heap.size W wr ∧ Hid (findD l key = findD (l.drop k) key) ∧ Hid (findB l key = findB (l.drop k) key)) (fun v _ => l.length - (intOf v).toNat)
  case atStart => exact ⟨0, rfl, by omega, Below.refl _ _, rfl, rfl⟩
  case round =>
    obtain ⟨k, rfl, hk, hb, HS1, HS2⟩ := hrel
    by_cases hlt : k < l.length
    · obtain ⟨ad, rfl, hc⟩ := HL.out (by omega)
      obtain ⟨Bx, kx, hx0⟩ := hc k hlt
      have HD := Lib.hid (drop_dp l k hlt)
      have HXOK := Lib.hid (HOK.out _ (getD_mem l k hlt))
      clear hc
      generalize l.getD k zD = x at hx0 HD HXOK
      have hx := hx0.below hb
      have HX := Lib.hid hx
      obtain ⟨x0, x1, x2, x3, x4, x5, x6, x7, x8⟩ := hx
      clear hx0 x8
      rcases Bool.eq_false_or_eq_true ((keyS x).toList == key.toList) with hk1 | hk1
      · have HD1 : Hid (findD l key = x) := by show _ = _; rw [HS1.out, HD.out, findD, List.find?_cons_of_pos (p := hasKey key) hk1]; rfl
        have HD2 : Hid (findB l key = true) := by show _ = _; rw [HS2.out, HD.out]; simp only [findB, List.any_cons, hasKey, hk1]; rfl
        go_wp2_with fail
        refine (rkey_any x Bx kx _ HXOK.out).mono ?_
        rintro e w2 ⟨rfl, hb2⟩
        obtain ⟨y0, y1, y2, y3, y4, y5, y6, y7, y8⟩ := HX.out.below hb2
        have HYR := Lib.hid y8
        clear y8 x0 x1 x2 x3 x4 x5 x6 x7
        go_wp2_with fail
        refine (rown_any x Bx kx _ HXOK.out HYR.out).mono ?_
        rintro e w3 ⟨A3, k3, rfl, ho3, hr3, hb3⟩
        have HO3 := Lib.hid ho3
        have hbw3 : Below W.heap.size W w3 := bthen hb (bthen hb2 hb3)
        have HLT : Hid (w.heap.size < w2.heap.size) := by have := hb2.size; have := hb.size; have := HRM.out.1; show _ < _; omega
        clear hr3 ho3 y0 y1 y2 y3 y4 y5 y6 y7
        obtain ⟨hBlt, hroom⟩ := HRM.out.below hbw3
        obtain ⟨⟨v0, r0⟩, f0⟩ := hroom 0 (by omega)
        obtain ⟨⟨v1, r1⟩, f1⟩ := hroom 1 (by omega)
        obtain ⟨⟨v2, r2⟩, f2⟩ := hroom 2 (by omega)
        obtain ⟨⟨v3, r3⟩, f3⟩ := hroom 3 (by omega)
        obtain ⟨⟨v4, r4⟩, f4⟩ := hroom 4 (by omega)
        obtain ⟨⟨v5, r5⟩, f5⟩ := hroom 5 (by omega)
        obtain ⟨⟨v6, r6⟩, f6⟩ := hroom 6 (by omega)
        obtain ⟨⟨v7, r7⟩, f7⟩ := hroom 7 (by omega)
        clear hroom
        go_wp2_with fail
        refine bodyPost_ret (v := .tuple #[DV x A3 k3, .bool true]) ?_ rfl ?_
        · simp [results, Try.results8, go_sem, r0, r1, r2, r3, r4, r5, r6, r7]
        · have hlt : w.heap.size < w2.heap.size := HLT.out
          refine ⟨A3, k3, by rw [HD1.out, HD2.out], ?_, ?_⟩
          · rw [HD1.out]
            exact ((((((((HO3.out.far ⟨w.heap.size, 0, none⟩ hlt _).far ⟨w.heap.size, 1, none⟩ hlt _).far ⟨w.heap.size, 2, none⟩ hlt _).far ⟨w.heap.size, 3, none⟩ hlt _).far ⟨w.heap.size, 4, none⟩ hlt _).far ⟨w.heap.size, 5, none⟩ hlt _).far ⟨w.heap.size, 6, none⟩ hlt _).far ⟨w.heap.size, 7, none⟩ hlt _).weak (by have := bthen (HB0.out) (bthen hb hb2); exact this.size)
          · have hB := HB0.out.trans (hbw3.mono HB0.out.size)
            exact (((((((hB.setCell (Nat.le_refl _) _).setCell (Nat.le_refl _) _).setCell (Nat.le_refl _) _).setCell (Nat.le_refl _) _).setCell (Nat.le_refl _) _).setCell (Nat.le_refl _) _).setCell (Nat.le_refl _) _).setCell (Nat.le_refl _) _
      · have HD1 : Hid (findD l key = findD (l.drop (k + 1)) key) := by show _ = _; rw [HS1.out, HD.out, findD, List.find?_cons_of_neg (p := hasKey key) (by simp [hasKey, hk1])]; rfl
        have HD2 : Hid (findB l key = findB (l.drop (k + 1)) key) := by show _ = _; rw [HS2.out, HD.out]; simp only [findB, List.any_cons, hasKey, hk1, Bool.false_or]
        go_wp2_with fail
        refine (rkey_any x Bx kx _ HXOK.out).mono ?_
        rintro e w2 ⟨rfl, hb2⟩
        go_wp2_with fail
        go_roundw
        case rel => exact ⟨k + 1, by go_num, by omega, bthen hb hb2, HD1, HD2⟩
        case measure => simp [intOf]; omega
    · have HD1 : Hid (findD l key = zD) := by show _ = _; rw [HS1.out, List.drop_eq_nil_of_le (by omega)]; rfl
      have HD2 : Hid (findB l key = false) := by show _ = _; rw [HS2.out, List.drop_eq_nil_of_le (by omega)]; rfl
      obtain ⟨hBlt, hroom⟩ := HRM.out.below hb
      obtain ⟨⟨v0, r0⟩, f0⟩ := hroom 0 (by omega)
      obtain ⟨⟨v1, r1⟩, f1⟩ := hroom 1 (by omega)
      obtain ⟨⟨v2, r2⟩, f2⟩ := hroom 2 (by omega)
      obtain ⟨⟨v3, r3⟩, f3⟩ := hroom 3 (by omega)
      obtain ⟨⟨v4, r4⟩, f4⟩ := hroom 4 (by omega)
      obtain ⟨⟨v5, r5⟩, f5⟩ := hroom 5 (by omega)
      obtain ⟨⟨v6, r6⟩, f6⟩ := hroom 6 (by omega)
      obtain ⟨⟨v7, r7⟩, f7⟩ := hroom 7 (by omega)
      clear hroom
      go_wp2_with fail
      refine bodyPost_ret (v := .tuple #[DV zD none 0, .bool false]) ?_ rfl ?_
      · simp [results, Try.results8, go_sem, r0, r1, r2, r3, r4, r5, r6, r7]
        exact ⟨rfl, rfl, rfl, rfl, rfl, rfl, rfl, rfl⟩
      · refine ⟨none, 0, by rw [HD1.out, HD2.out], by rw [HD1.out]; exact ⟨rfl, .inl ⟨rfl, rfl⟩⟩, ?_⟩
        have hB := HB0.out.trans (hb.mono HB0.out.size)
        exact (((((((hB.setCell (Nat.le_refl _) _).setCell (Nat.le_refl _) _).setCell (Nat.le_refl _) _).setCell (Nat.le_refl _) _).setCell (Nat.le_refl _) _).setCell (Nat.le_refl _) _).setCell (Nat.le_refl _) _).setCell (Nat.le_refl _) _
end Go.Proofs.Ytfcnmghhhgghcaa
