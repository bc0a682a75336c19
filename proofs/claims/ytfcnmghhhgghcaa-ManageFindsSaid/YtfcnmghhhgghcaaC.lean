/- The contracts of manage.Find and of the reference's own and Find. -/
import Derived.Test.YtfcnmghhhgghcaaB
import Derived.Deep.DeepCutAuto
import Derived.Deep.CutBlock
namespace Go.Proofs.Ytfcnmghhhgghcaa
open Go.RowKit

def zD : Dp := ⟨⟨#[]⟩, ⟨#[]⟩, ⟨#[]⟩, ⟨#[]⟩, ⟨#[]⟩, ⟨#[]⟩, false, []⟩
def DepAt (w : World) (p : Addr) (d : Dp) (A : Option Addr) (k : Nat) : Prop :=
  w.cell? p = some (.string d.g) ∧ w.cell? { block := p.block, off := p.off + 1 } = some (.string d.n) ∧ w.cell? { block := p.block, off := p.off + 2 } = some (.string d.v) ∧ w.cell? { block := p.block, off := p.off + 3 } = some (.string d.t) ∧
  w.cell? { block := p.block, off := p.off + 4 } = some (.string d.c) ∧ w.cell? { block := p.block, off := p.off + 5 } = some (.string d.s) ∧ w.cell? { block := p.block, off := p.off + 6 } = some (.bool d.o) ∧ w.cell? { block := p.block, off := p.off + 7 } = some (.slice A d.e.length k) ∧ ReadsEx w A d.e
def ReadsDp (w : World) (A : Option Addr) (l : List Dp) : Prop :=
  0 < l.length → ∃ ad, A = some ad ∧ ∀ j, j < l.length → ∃ B k, DepAt w (ad.add (j * 8)) (l.getD j zD) B k
theorem DepAt.lt {w : World} {p : Addr} {d : Dp} {A : Option Addr} {k : Nat} (h : DepAt w p d A k) : p.block < w.heap.size := World.block_lt_of_cell? _ _ h.1
theorem DepAt.below {w w' : World} {p : Addr} {d : Dp} {A : Option Addr} {k : Nat} (h : DepAt w p d A k) (hb : Below w.heap.size w w') : DepAt w' p d A k := by
  have hB := h.lt
  obtain ⟨h0, h1, h2, h3, h4, h5, h6, h7, h8⟩ := h
  exact ⟨(hb.cell hB).trans h0, (hb.cell (p := { block := p.block, off := p.off + 1 }) hB).trans h1, (hb.cell (p := { block := p.block, off := p.off + 2 }) hB).trans h2, (hb.cell (p := { block := p.block, off := p.off + 3 }) hB).trans h3, (hb.cell (p := { block := p.block, off := p.off + 4 }) hB).trans h4, (hb.cell (p := { block := p.block, off := p.off + 5 }) hB).trans h5, (hb.cell (p := { block := p.block, off := p.off + 6 }) hB).trans h6, (hb.cell (p := { block := p.block, off := p.off + 7 }) hB).trans h7, h8.below hb⟩
theorem ReadsDp.below {w w' : World} {A : Option Addr} {l : List Dp} (h : ReadsDp w A l) (hb : Below w.heap.size w w') : ReadsDp w' A l := fun hn => by
  obtain ⟨ad, e, hc⟩ := h hn
  exact ⟨ad, e, fun j hj => by obtain ⟨B, k, hd⟩ := hc j hj; exact ⟨B, k, hd.below hb⟩⟩
theorem readsDp_alloc {w : World} {A : Option Addr} {l : List Dp} (h : ReadsDp w A l) (o : Obj) : ReadsDp (w.alloc o) A l := h.below (balloc (Below.refl _ _) _)
theorem ReadsDp.tail {w : World} {ad : Addr} {x : Dp} {t : List Dp} (h : ∀ j, j < (x :: t).length → ∃ B k, DepAt w (ad.add (j * 8)) ((x :: t).getD j zD) B k) :
    ∀ A, (A = some { ad with off := ad.off + 8, spot := none } ∨ t = []) → ReadsDp w A t := by
  intro A hA hp
  rcases hA with rfl | rfl
  · refine ⟨_, rfl, fun j hj => ?_⟩
    have := h (j + 1) (by simp; omega)
    have e : (Addr.add { ad with off := ad.off + 8, spot := none } (j * 8)) = ad.add ((j + 1) * 8) := by
      have h2 := add_of_add ad 8 (j * 8)
      rw [show (j + 1) * 8 = 8 + j * 8 by omega, ← h2]; rfl
    rw [e]
    exact this
  · simp at hp

def hasKey (key : ByteArray) (d : Dp) : Bool := (keyS d).toList == key.toList
def findD (l : List Dp) (key : ByteArray) : Dp := (l.find? (hasKey key)).getD zD
def findB (l : List Dp) (key : ByteArray) : Bool := l.any (hasKey key)
def FindPost (l : List Dp) (key : ByteArray) (w : World) (e : Ending) (w' : World) : Prop :=
  ∃ A k, e = .returned (.tuple #[DV (findD l key) A k, .bool (findB l key)]) ∧ OwnsEx w' w.heap.size (.slice A (findD l key).e.length k) (findD l key).e ∧ Below w.heap.size w w'
def zCells : Array Value := #[.string ⟨#[]⟩, .string ⟨#[]⟩, .string ⟨#[]⟩, .string ⟨#[]⟩, .string ⟨#[]⟩, .string ⟨#[]⟩, .bool false, .slice none 0 0]

theorem wp_again {P : Program} {a : Act} {w : World} {Q : Exit → Act → World → Prop} {body : Code} (l : Nat) (J : Act → World → Prop) (μ : Act → World → Nat)
    (h0 : J a w) (pass : ∀ a w, J a w → body.wp P (Exit.jump l (fun a' w' => J a' w' ∧ μ a' w' < μ a w) Q) a w) : (Code.scope ((Code.label l).seq body)).wp P Q a w := by
  refine wp_scope_jumps l J μ (by simp [findLabel]; rfl) ?_ ?_
  · refine wp_seq (wp_label ?_)
    refine wp_mono (pass a w h0) ?_
    intro e a' w' h
    cases e <;> simp only [Exit.jump] at h ⊢ <;> first | exact h | exact ⟨h.1, h.2.1⟩
  · intro a w h
    exact wp_seq (wp_skip (pass a w h))
def lenAt (k : Nat) (a : Act) : Nat := match a.tmps.getD k undef with | .slice _ n _ => n | _ => 0
/-- Eight cells of a block that may be written. -/
def Room (w : World) (B : Nat) : Prop := B < w.heap.size ∧ ∀ j, j < 8 → (∃ u, w.cell? ⟨B, j, none⟩ = some u) ∧ w.frozen? ⟨B, j, none⟩ = false
theorem Room.below {w w' : World} {B : Nat} (h : Room w B) (hb : Below w.heap.size w w') : Room w' B :=
  ⟨Nat.lt_of_lt_of_le h.1 hb.size, fun j hj => by
    obtain ⟨⟨u, hu⟩, hf⟩ := h.2 j hj
    exact ⟨⟨u, (hb.cell (p := ⟨B, j, none⟩) h.1).trans hu⟩, (hb.frozen (p := ⟨B, j, none⟩) h.1).trans hf⟩⟩
theorem Room.new (w : World) (cs : Array Value) (h8 : cs.size = 8) (T : TypeId) : Room (w.alloc (.cells cs T)) w.heap.size := by
  refine ⟨by simp, fun j hj => ⟨⟨cs[j], ?_⟩, ?_⟩⟩
  · rw [World.cell?_alloc_new]; simp [h8, hj]
  · have : (w.alloc (.cells cs T)).heap[w.heap.size]? = some (.cells cs T) := heap_alloc_new w _
    unfold World.frozen?
    rw [show ((⟨w.heap.size, j, none⟩ : Addr).block) = w.heap.size from rfl, this]
    simp

/-- A Dep in a block of its own, eight cells, that may be written. -/
structure Own8 (w : World) (B : Nat) (d : Dp) (A : Option Addr) (k : Nat) : Prop where
  lt : B < w.heap.size
  c0 : w.cell? ⟨B, 0, none⟩ = some (.string d.g)
  c1 : w.cell? ⟨B, 1, none⟩ = some (.string d.n)
  c2 : w.cell? ⟨B, 2, none⟩ = some (.string d.v)
  c3 : w.cell? ⟨B, 3, none⟩ = some (.string d.t)
  c4 : w.cell? ⟨B, 4, none⟩ = some (.string d.c)
  c5 : w.cell? ⟨B, 5, none⟩ = some (.string d.s)
  c6 : w.cell? ⟨B, 6, none⟩ = some (.bool d.o)
  c7 : w.cell? ⟨B, 7, none⟩ = some (.slice A d.e.length k)
  fr : ∀ j, j < 8 → w.frozen? ⟨B, j, none⟩ = false
theorem Own8.below {w w' : World} {B : Nat} {d : Dp} {A : Option Addr} {k : Nat} (h : Own8 w B d A k) (hb : Below w.heap.size w w') : Own8 w' B d A k :=
  ⟨Nat.lt_of_lt_of_le h.lt hb.size, (hb.cell (p := ⟨B, 0, none⟩) h.lt).trans h.c0, (hb.cell (p := ⟨B, 1, none⟩) h.lt).trans h.c1, (hb.cell (p := ⟨B, 2, none⟩) h.lt).trans h.c2, (hb.cell (p := ⟨B, 3, none⟩) h.lt).trans h.c3, (hb.cell (p := ⟨B, 4, none⟩) h.lt).trans h.c4, (hb.cell (p := ⟨B, 5, none⟩) h.lt).trans h.c5, (hb.cell (p := ⟨B, 6, none⟩) h.lt).trans h.c6, (hb.cell (p := ⟨B, 7, none⟩) h.lt).trans h.c7,
   fun j hj => (hb.frozen (p := ⟨B, j, none⟩) h.lt).trans (h.fr j hj)⟩
theorem Own8.new (w : World) (d : Dp) (A : Option Addr) (k : Nat) : Own8 (w.alloc (DC d A k)) w.heap.size d A k := by
  refine ⟨by simp, by simp, by simp, by simp, by simp, by simp, by simp, by simp, by simp, fun j hj => ?_⟩
  have : (w.alloc (DC d A k)).heap[w.heap.size]? = some (DC d A k) := heap_alloc_new w _
  unfold World.frozen?
  rw [show ((⟨w.heap.size, j, none⟩ : Addr).block) = w.heap.size from rfl, this]
  simp
theorem OwnsEx.far {w : World} {base : Nat} {v : Value} {l : List Ex} (h : OwnsEx w base v l) (p : Addr) (hp : p.block < base) (u : Value) : OwnsEx (w.setCell p u) base v l :=
  World.ownsRow.kept h (row := some p.block) ⟨rfl, rfl, rfl, by simp [World.setCell], fun i _ hne => Below.heap_setCell w p u i (fun e => hne (by rw [e]))⟩ (by
    cases hv : v.ownBlock with
    | none => exact .inl rfl
    | some b => exact .inr (by have := base_of_own h b hv; intro e; injection e with e; omega))
theorem OwnsEx.reads {w : World} {base : Nat} {A : Option Addr} {l : List Ex} {k : Nat} (h : OwnsEx w base (.slice A l.length k) l) : ReadsEx w A l := readsEx_of (Reads.of_own h)
theorem OwnsEx.weak {w : World} {base b : Nat} {v : Value} {l : List Ex} (h : OwnsEx w base v l) (hb : b ≤ base) : OwnsEx w b v l :=
  ⟨h.1, h.2.imp id fun ⟨g, cap, cur, h1, h2, h3⟩ => ⟨g, cap, cur, h1, Nat.le_trans hb h2, h3⟩⟩
theorem Own8.put7 {w : World} {B : Nat} {d : Dp} {A : Option Addr} {k : Nat} (h : Own8 w B d A k) (A' : Option Addr) (k' : Nat) : Own8 (w.setCell ⟨B, 7, none⟩ (.slice A' d.e.length k')) B d A' k' := by
  have hn : ∀ j, j ≠ 7 → (w.setCell ⟨B, 7, none⟩ (.slice A' d.e.length k')).cell? ⟨B, j, none⟩ = w.cell? ⟨B, j, none⟩ := fun j hj => World.cell?_setCell_other _ _ _ _ (by intro e; injection e with _ e2; omega)
  exact ⟨by simpa [World.setCell] using h.lt, (hn 0 (by omega)).trans h.c0, (hn 1 (by omega)).trans h.c1, (hn 2 (by omega)).trans h.c2, (hn 3 (by omega)).trans h.c3, (hn 4 (by omega)).trans h.c4, (hn 5 (by omega)).trans h.c5, (hn 6 (by omega)).trans h.c6, World.cell?_setCell_same _ _ _ h.c7, fun j hj => by rw [World.frozen?_setCell]; exact h.fr j hj⟩
def ClonePost (l : List Ex) (w : World) (e : Ending) (w' : World) : Prop := ∃ A k, e = .returned (.slice A l.length k) ∧ OwnsEx w' w.heap.size (.slice A l.length k) l ∧ ReadsEx w' A l ∧ Below w.heap.size w w'
theorem clone2_any (A : Option Addr) (c : Nat) (l : List Ex) (w : World) (hn : l.length ≤ 4398046511104) (hl : ReadsEx w A l) : Calls Try.prog 16 #[.slice A l.length c] w (ClonePost l w) :=
  (clone_any A c l w hn hl).mono fun e w' ⟨v, he, ho, hb⟩ => by
    obtain ⟨A', k', hv, hr⟩ := ho.slice
    exact ⟨A', k', by rw [he, hv], by rw [← hv]; exact ho, hr, hb⟩

def FindJ (l : List Dp) (key : ByteArray) (B : Nat) (W : World) (a' : Act) (w' : World) : Prop :=
  ∃ (A' : Option Addr) (l' : List Dp) (c' : Nat) (u6 u7 u8 u9 u10 u11 u12 u13 u14 u15 u16 u17 u18 u19 u20 u21 u22 u23 u24 u25 u26 : Value),
    a' = { tmps := #[.slice A' l'.length c', .string key, undef, undef, .pointer (some ⟨B, 0, none⟩), .bool false, u6, u7, u8, u9, u10, u11, u12, u13, u14, u15, u16, u17, u18, u19, u20, u21, u22, u23, u24, u25, u26], defers := [] } ∧
    Below W.heap.size W w' ∧ ReadsDp W A' l' ∧ l'.length ≤ c' ∧ (∀ d ∈ l', DpOk d) ∧ findD l key = findD l' key ∧ findB l key = findB l' key

set_option maxHeartbeats 1000000 in
set_option maxRecDepth 100000 in
theorem find_any (A : Option Addr) (c : Nat) (l : List Dp) (key : ByteArray) (w : World) (hn : l.length ≤ c) (hl : ReadsDp w A l) (hok : ∀ d ∈ l, DpOk d) :
    Calls Try.prog 7 #[.slice A l.length c, .string key] w (FindPost l key w) := by
  have HL := Lib.hid (readsDp_alloc hl (.cells zCells 24))
  have HOK := Lib.hid hok
  have HRM := Lib.hid (Room.new w zCells rfl 24)
  have HB0 : Hid (Below w.heap.size w (w.alloc (.cells zCells 24))) := Lib.hid (balloc (Below.refl _ _) _)
  clear hl hok
  go_enter Try.func7, Try.ntmps7
  go_wp2_with fail
  change Code.wp _ _ _ _ (w.alloc (.cells zCells 24))
  generalize hW : w.alloc (.cells zCells 24) = W at *
  clear hW
  refine wp_again 0 (FindJ l key w.heap.size W) (fun a' _ => lenAt 0 a') ?_ ?_
  · exact ⟨A, l, c, _, _, _, _, _, _, _, _, _, _, _, _, _, _, _, _, _, _, _, _, _, rfl, Below.refl _ _, HL.out, hn, HOK.out, rfl, rfl⟩
  · rintro a' w' ⟨A', l', c', u6, u7, u8, u9, u10, u11, u12, u13, u14, u15, u16, u17, u18, u19, u20, u21, u22, u23, u24, u25, u26, rfl, hb, hr, hc', hok', hs1, hs2⟩
    have HS1 := Lib.hid hs1
    have HS2 := Lib.hid hs2
    have HOK' := Lib.hid hok'
    clear hs1 hs2 hok' HOK HL
    have HR := HRM.out.below hb
    obtain ⟨hBlt, hroom⟩ := HR
    obtain ⟨⟨v0, r0⟩, f0⟩ := hroom 0 (by omega)
    obtain ⟨⟨v1, r1⟩, f1⟩ := hroom 1 (by omega)
    obtain ⟨⟨v2, r2⟩, f2⟩ := hroom 2 (by omega)
    obtain ⟨⟨v3, r3⟩, f3⟩ := hroom 3 (by omega)
    obtain ⟨⟨v4, r4⟩, f4⟩ := hroom 4 (by omega)
    obtain ⟨⟨v5, r5⟩, f5⟩ := hroom 5 (by omega)
    obtain ⟨⟨v6, r6⟩, f6⟩ := hroom 6 (by omega)
    obtain ⟨⟨v7, r7⟩, f7⟩ := hroom 7 (by omega)
    clear hroom
    cases l' with
    | nil =>
      go_wp2_with fail
      simp only [Exit.jump]
      refine bodyPost_ret (v := .tuple #[DV zD none 0, .bool false]) ?_ rfl ?_
      · simp [results, Try.results7, go_sem, r0, r1, r2, r3, r4, r5, r6, r7]
        exact ⟨rfl, rfl, rfl, rfl, rfl, rfl, rfl, rfl⟩
      · refine ⟨none, 0, by rw [HS1.out, HS2.out]; rfl, by rw [HS1.out]; exact ⟨rfl, .inl ⟨rfl, rfl⟩⟩, ?_⟩
        have hB := HB0.out.trans (hb.mono HB0.out.size)
        exact (((((((hB.setCell (Nat.le_refl _) _).setCell (Nat.le_refl _) _).setCell (Nat.le_refl _) _).setCell (Nat.le_refl _) _).setCell (Nat.le_refl _) _).setCell (Nat.le_refl _) _).setCell (Nat.le_refl _) _).setCell (Nat.le_refl _) _
    | cons x t =>
      obtain ⟨ad, rfl, hcell0⟩ := hr (by simp)
      obtain ⟨Bx, kx, hx0⟩ : ∃ Bx kx, DepAt W ad x Bx kx := by
        obtain ⟨Bx, kx, h⟩ := hcell0 0 (by simp)
        rw [Nat.zero_mul, Addr.add_zero'] at h
        exact ⟨Bx, kx, h⟩
      have hx := hx0.below hb
      have HX := Lib.hid hx
      obtain ⟨x0, x1, x2, x3, x4, x5, x6, x7, x8⟩ := hx
      have HXR := Lib.hid x8
      have HT := Lib.hid (ReadsDp.tail hcell0)
      have hxok := HOK'.out x (by simp)
      have HXOK := Lib.hid hxok
      clear hcell0 hr hx0 hxok x8
      simp only [List.length_cons] at hc'
      rcases Bool.eq_false_or_eq_true ((keyS x).toList == key.toList) with hk | hk
      · have HD1 : Hid (findD l key = x) := by show _ = _; rw [HS1.out, findD, List.find?_cons_of_pos (p := hasKey key) hk]; rfl
        have HD2 : Hid (findB l key = true) := by show _ = _; rw [HS2.out]; simp only [findB, List.any_cons, hasKey, hk]; rfl
        go_wp2_with fail
        refine (key_any x Bx kx _ HXOK.out).mono ?_
        rintro e w2 ⟨rfl, hb2⟩
        obtain ⟨y0, y1, y2, y3, y4, y5, y6, y7, y8⟩ := HX.out.below hb2
        have HYR := Lib.hid y8
        clear y8
        go_wp2_with fail
        refine (clone2_any Bx kx x.e _ (by have := HXOK.out.2.2.2.2.2.2; omega) (reads_alloc HYR.out _)).mono ?_
        rintro e w3 ⟨A3, k3, rfl, ho3, hr3, hb3⟩
        have HR3 := Lib.hid hr3
        have HO3 := Lib.hid ho3
        clear hr3 ho3
        have HD := Lib.hid ((Own8.new w2 x Bx kx).below hb3)
        have d7 := HD.out.c7
        have df7 := HD.out.fr 7 (by omega)
        have hbw3 : Below W.heap.size W w3 := bthen hb (bthen hb2 (bthen (balloc (Below.refl _ _) _) hb3))
        have HNE : Hid (w.heap.size < w2.heap.size) := by have := hb2.size; have := hb.size; have := HRM.out.1; show _ < _; omega
        clear f0 f1 f2 f3 f4 f5 f6 f7 r0 r1 r2 r3 r4 r5 r6 r7 x0 x1 x2 x3 x4 x5 x6 x7 y0 y1 y2 y3 y4 y5 y6 y7
        go_upto_region 6 with (fail)
        have HD5 := Lib.hid (HD.out.put7 A3 k3)
        have hbw5 : Below W.heap.size W (w3.setCell ⟨w2.heap.size, 7, none⟩ (.slice A3 x.e.length k3)) := hbw3.setCell (Nat.le_trans hb.size hb2.size) _
        have HO5 := Lib.hid (HO3.out.far ⟨w2.heap.size, 7, none⟩ (by simp) (.slice A3 x.e.length k3))
        clear d7 df7 hbw3 HR3 HD HO3
        generalize w3.setCell ⟨w2.heap.size, 7, none⟩ (.slice A3 x.e.length k3) = W5 at *
        obtain ⟨dlt, d0, d1, d2, d3, d4, d5, d6, d7, dfr⟩ := HD5.out
        clear dfr
        obtain ⟨hBlt3, hroom3⟩ := HRM.out.below hbw5
        obtain ⟨⟨v0, r0⟩, f0⟩ := hroom3 0 (by omega)
        obtain ⟨⟨v1, r1⟩, f1⟩ := hroom3 1 (by omega)
        obtain ⟨⟨v2, r2⟩, f2⟩ := hroom3 2 (by omega)
        obtain ⟨⟨v3, r3⟩, f3⟩ := hroom3 3 (by omega)
        obtain ⟨⟨v4, r4⟩, f4⟩ := hroom3 4 (by omega)
        obtain ⟨⟨v5, r5⟩, f5⟩ := hroom3 5 (by omega)
        obtain ⟨⟨v6, r6⟩, f6⟩ := hroom3 6 (by omega)
        obtain ⟨⟨v7, r7⟩, f7⟩ := hroom3 7 (by omega)
        clear hroom3
        go_wp2_with fail
        simp only [Exit.jump]
        refine bodyPost_ret (v := .tuple #[DV x A3 k3, .bool true]) ?_ rfl ?_
        · simp [results, Try.results7, go_sem, r0, r1, r2, r3, r4, r5, r6, r7]
        · have hlt : w.heap.size < (w2.alloc (DC x Bx kx)).heap.size := by have := HNE.out; simp; omega
          refine ⟨A3, k3, by rw [HD1.out, HD2.out], ?_, ?_⟩
          · rw [HD1.out]
            exact ((((((((HO5.out.far ⟨w.heap.size, 0, none⟩ hlt _).far ⟨w.heap.size, 1, none⟩ hlt _).far ⟨w.heap.size, 2, none⟩ hlt _).far ⟨w.heap.size, 3, none⟩ hlt _).far ⟨w.heap.size, 4, none⟩ hlt _).far ⟨w.heap.size, 5, none⟩ hlt _).far ⟨w.heap.size, 6, none⟩ hlt _).far ⟨w.heap.size, 7, none⟩ hlt _).weak (Nat.le_of_lt hlt)
          · have hB := HB0.out.trans (hbw5.mono HB0.out.size)
            exact (((((((hB.setCell (Nat.le_refl _) _).setCell (Nat.le_refl _) _).setCell (Nat.le_refl _) _).setCell (Nat.le_refl _) _).setCell (Nat.le_refl _) _).setCell (Nat.le_refl _) _).setCell (Nat.le_refl _) _).setCell (Nat.le_refl _) _
      · have HD1 : Hid (findD l key = findD t key) := by show _ = _; rw [HS1.out, findD, List.find?_cons_of_neg (p := hasKey key) (by simp [hasKey, hk])]; rfl
        have HD2 : Hid (findB l key = findB t key) := by show _ = _; rw [HS2.out]; simp only [findB, List.any_cons, hasKey, hk, Bool.false_or]
        have hokt : ∀ d ∈ t, DpOk d := fun d hd => HOK'.out d (by simp [hd])
        have HOKT := Lib.hid hokt
        clear hokt f0 f1 f2 f3 f4 f5 f6 f7 r0 r1 r2 r3 r4 r5 r6 r7
        by_cases h1 : c' = 1
        · subst h1
          have ht : t = [] := List.eq_nil_of_length_eq_zero (by omega)
          have HT0 := Lib.hid ht
          clear ht
          go_wp2_with fail
          refine (key_any x Bx kx _ HXOK.out).mono ?_
          rintro e w2 ⟨rfl, hb2⟩
          go_wp2_with fail
          go_step3
          refine ⟨rfl, ⟨some ad, [], 0, _, _, _, _, _, _, _, _, _, _, _, _, _, _, _, _, _, _, _, _, _, rfl, bthen hb hb2, fun h => by simp at h, by simp, by simp, ?_, ?_⟩, by simp [lenAt]⟩
          · rw [HD1.out, HT0.out]
          · rw [HD2.out, HT0.out]
        · have h1' : (c' == 1) = false := by simpa using h1
          go_wp2_with fail
          refine (key_any x Bx kx _ HXOK.out).mono ?_
          rintro e w2 ⟨rfl, hb2⟩
          go_wp2_with fail
          go_step3
          refine ⟨rfl, ⟨_, t, c' - 1, _, _, _, _, _, _, _, _, _, _, _, _, _, _, _, _, _, _, _, _, _, rfl, bthen hb hb2, HT.out _ (.inl rfl), by omega, HOKT.out, ?_, ?_⟩, by simp [lenAt]⟩
          · rw [HD1.out]
          · rw [HD2.out]
end Go.Proofs.Ytfcnmghhhgghcaa
