/- The contracts of the reference's Inject and Override. -/
import Derived.Test.YtfcnmghhhgghcaaD
namespace Go.Proofs.Ytfcnmghhhgghcaa
open Go.RowKit

def injM (d : Dp) (l : List Dp) : Dp :=
  if findB l (keyS d) then { d with v := orS d.v (findD l (keyS d)).v, s := orS d.s (findD l (keyS d)).s, e := if d.e = [] then (findD l (keyS d)).e else d.e } else d
def ovM (d : Dp) (l : List Dp) : Dp :=
  if findB l (keyS d) then { d with v := orS (findD l (keyS d)).v d.v, s := orS (findD l (keyS d)).s d.s, e := d.e ++ (findD l (keyS d)).e } else d
/-- What a Dep is handed out as, where nothing is told of whose memory its list lies in. -/
def DepPost1 (d : Dp) (w : World) (e : Ending) (w' : World) : Prop := ∃ A k, e = .returned (DV d A k) ∧ ReadsEx w' A d.e ∧ Below w.heap.size w w'
/-- Lists that lie below a block are kept by a store at or above it. -/
theorem ReadsEx.far {w : World} {A : Option Addr} {l : List Ex} (h : ReadsEx w A l) (p : Addr) (u : Value) (hp : ∀ ad, A = some ad → 0 < l.length → ad.block ≠ p.block) : ReadsEx (w.setCell p u) A l := by
  intro hn
  obtain ⟨ad, rfl, hc⟩ := h hn
  refine ⟨ad, rfl, fun j hj => ?_⟩
  have hne := hp ad rfl hn
  have hb : (ad.add (j * 2)).block = ad.block := block_of_add _ _
  obtain ⟨h1, h2⟩ := hc j hj
  exact ⟨(World.cell?_setCell_other _ _ _ _ (by intro e; apply hne; rw [e]; exact hb.symm)).trans h1, (World.cell?_setCell_other _ _ _ _ (by intro e; apply hne; rw [e]; exact hb.symm)).trans h2⟩
/-- What could be read in a world can be read where only new blocks, and stores into blocks that are newer, have come. -/
theorem keepEx {w W : World} {A : Option Addr} {l : List Ex} (h : ReadsEx w A l) (hb : Below w.heap.size w W) : ReadsEx W A l := h.below hb
theorem keepDp {w W : World} {A : Option Addr} {l : List Dp} (h : ReadsDp w A l) (hb : Below w.heap.size w W) : ReadsDp W A l := h.below hb

theorem Own8.put2 {w : World} {B : Nat} {d : Dp} {A : Option Addr} {k : Nat} (h : Own8 w B d A k) (x : ByteArray) : Own8 (w.setCell ⟨B, 2, none⟩ (.string x)) B { d with v := x } A k := by
  have hn : ∀ j, j ≠ 2 → (w.setCell ⟨B, 2, none⟩ (.string x)).cell? ⟨B, j, none⟩ = w.cell? ⟨B, j, none⟩ := fun j hj => World.cell?_setCell_other _ _ _ _ (by intro e; injection e with _ e2; omega)
  exact ⟨by simpa [World.setCell] using h.lt, (hn 0 (by omega)).trans h.c0, (hn 1 (by omega)).trans h.c1, World.cell?_setCell_same _ _ _ h.c2, (hn 3 (by omega)).trans h.c3, (hn 4 (by omega)).trans h.c4, (hn 5 (by omega)).trans h.c5, (hn 6 (by omega)).trans h.c6, (hn 7 (by omega)).trans h.c7, fun j hj => by rw [World.frozen?_setCell]; exact h.fr j hj⟩
theorem Own8.put5 {w : World} {B : Nat} {d : Dp} {A : Option Addr} {k : Nat} (h : Own8 w B d A k) (x : ByteArray) : Own8 (w.setCell ⟨B, 5, none⟩ (.string x)) B { d with s := x } A k := by
  have hn : ∀ j, j ≠ 5 → (w.setCell ⟨B, 5, none⟩ (.string x)).cell? ⟨B, j, none⟩ = w.cell? ⟨B, j, none⟩ := fun j hj => World.cell?_setCell_other _ _ _ _ (by intro e; injection e with _ e2; omega)
  exact ⟨by simpa [World.setCell] using h.lt, (hn 0 (by omega)).trans h.c0, (hn 1 (by omega)).trans h.c1, (hn 2 (by omega)).trans h.c2, (hn 3 (by omega)).trans h.c3, (hn 4 (by omega)).trans h.c4, World.cell?_setCell_same _ _ _ h.c5, (hn 6 (by omega)).trans h.c6, (hn 7 (by omega)).trans h.c7, fun j hj => by rw [World.frozen?_setCell]; exact h.fr j hj⟩
theorem Own8.put7e {w : World} {B : Nat} {d : Dp} {A : Option Addr} {k : Nat} (h : Own8 w B d A k) (A' : Option Addr) (k' : Nat) (l : List Ex) : Own8 (w.setCell ⟨B, 7, none⟩ (.slice A' l.length k')) B { d with e := l } A' k' := by
  have hn : ∀ j, j ≠ 7 → (w.setCell ⟨B, 7, none⟩ (.slice A' l.length k')).cell? ⟨B, j, none⟩ = w.cell? ⟨B, j, none⟩ := fun j hj => World.cell?_setCell_other _ _ _ _ (by intro e; injection e with _ e2; omega)
  exact ⟨by simpa [World.setCell] using h.lt, (hn 0 (by omega)).trans h.c0, (hn 1 (by omega)).trans h.c1, (hn 2 (by omega)).trans h.c2, (hn 3 (by omega)).trans h.c3, (hn 4 (by omega)).trans h.c4, (hn 5 (by omega)).trans h.c5, (hn 6 (by omega)).trans h.c6, World.cell?_setCell_same _ _ _ h.c7, fun j hj => by rw [World.frozen?_setCell]; exact h.fr j hj⟩
theorem Own8.far {w : World} {B : Nat} {d : Dp} {A : Option Addr} {k : Nat} (h : Own8 w B d A k) (p : Addr) (hp : p.block ≠ B) (u : Value) : Own8 (w.setCell p u) B d A k := by
  have hn : ∀ j, (w.setCell p u).cell? ⟨B, j, none⟩ = w.cell? ⟨B, j, none⟩ := fun j => World.cell?_setCell_other _ _ _ _ (by intro e; rw [e] at hp; exact hp rfl)
  exact ⟨by simpa [World.setCell] using h.lt, (hn 0).trans h.c0, (hn 1).trans h.c1, (hn 2).trans h.c2, (hn 3).trans h.c3, (hn 4).trans h.c4, (hn 5).trans h.c5, (hn 6).trans h.c6, (hn 7).trans h.c7, fun j hj => by rw [World.frozen?_setCell]; exact h.fr j hj⟩
/-- Eight stores into one block. -/
def put8 (w : World) (B : Nat) (d : Dp) (A : Option Addr) (k : Nat) : World :=
  (((((((w.setCell ⟨B, 0, none⟩ (.string d.g)).setCell ⟨B, 1, none⟩ (.string d.n)).setCell ⟨B, 2, none⟩ (.string d.v)).setCell ⟨B, 3, none⟩ (.string d.t)).setCell ⟨B, 4, none⟩ (.string d.c)).setCell ⟨B, 5, none⟩ (.string d.s)).setCell ⟨B, 6, none⟩ (.bool d.o)).setCell ⟨B, 7, none⟩ (.slice A d.e.length k)
theorem OwnsEx.far8 {w : World} {base : Nat} {v : Value} {l : List Ex} (h : OwnsEx w base v l) (B : Nat) (hB : B < base) (d : Dp) (A : Option Addr) (k : Nat) : OwnsEx (put8 w B d A k) base v l :=
  ((((((((h.far ⟨B, 0, none⟩ hB (.string d.g)).far ⟨B, 1, none⟩ hB (.string d.n)).far ⟨B, 2, none⟩ hB (.string d.v)).far ⟨B, 3, none⟩ hB (.string d.t)).far ⟨B, 4, none⟩ hB (.string d.c)).far ⟨B, 5, none⟩ hB (.string d.s)).far ⟨B, 6, none⟩ hB (.bool d.o)).far ⟨B, 7, none⟩ hB (.slice A d.e.length k))
theorem below_put8 {b : Nat} {a w : World} (h : Below b a w) (B : Nat) (hB : b ≤ B) (d : Dp) (A : Option Addr) (k : Nat) : Below b a (put8 w B d A k) :=
  (((((((h.setCell hB _).setCell hB _).setCell hB _).setCell hB _).setCell hB _).setCell hB _).setCell hB _).setCell hB _
theorem Room.far8 {w : World} {B : Nat} (h : Room w B) (C : Nat) (hC : C ≠ B) (d : Dp) (A : Option Addr) (k : Nat) : Room (put8 w C d A k) B :=
  ((((((((h.far ⟨C, 0, none⟩ hC (.string d.g)).far ⟨C, 1, none⟩ hC (.string d.n)).far ⟨C, 2, none⟩ hC (.string d.v)).far ⟨C, 3, none⟩ hC (.string d.t)).far ⟨C, 4, none⟩ hC (.string d.c)).far ⟨C, 5, none⟩ hC (.string d.s)).far ⟨C, 6, none⟩ hC (.bool d.o)).far ⟨C, 7, none⟩ hC (.slice A d.e.length k))
theorem ReadsEx.far8 {w : World} {A0 : Option Addr} {l : List Ex} (h : ReadsEx w A0 l) (C : Nat) (hC : ∀ ad, A0 = some ad → 0 < l.length → ad.block ≠ C) (d : Dp) (A : Option Addr) (k : Nat) : ReadsEx (put8 w C d A k) A0 l :=
  ((((((((h.far ⟨C, 0, none⟩ (.string d.g) hC).far ⟨C, 1, none⟩ (.string d.n) hC).far ⟨C, 2, none⟩ (.string d.v) hC).far ⟨C, 3, none⟩ (.string d.t) hC).far ⟨C, 4, none⟩ (.string d.c) hC).far ⟨C, 5, none⟩ (.string d.s) hC).far ⟨C, 6, none⟩ (.bool d.o) hC).far ⟨C, 7, none⟩ (.slice A d.e.length k) hC)
theorem Own8.of_put8 {w : World} {B : Nat} (h : Room w B) (d : Dp) (A : Option Addr) (k : Nat) : Own8 (put8 w B d A k) B d A k := by
  obtain ⟨hlt, hr⟩ := h
  have other : ∀ (w : World) (i j : Nat) (u : Value), i ≠ j → (w.setCell ⟨B, i, none⟩ u).cell? ⟨B, j, none⟩ = w.cell? ⟨B, j, none⟩ := fun w i j u hij => World.cell?_setCell_other _ _ _ _ (by intro e; injection e with _ e2; omega)
  have same : ∀ (w : World) (j : Nat) (u : Value), (∃ v, w.cell? ⟨B, j, none⟩ = some v) → (w.setCell ⟨B, j, none⟩ u).cell? ⟨B, j, none⟩ = some u := fun w j u ⟨v, hv⟩ => World.cell?_setCell_same _ _ _ hv
  refine ⟨by simpa [put8, World.setCell] using hlt, ?_, ?_, ?_, ?_, ?_, ?_, ?_, ?_, fun j hj => by simp only [put8, World.frozen?_setCell]; exact (hr j hj).2⟩
  · unfold put8; rw [other _ 7 0 _ (by omega), other _ 6 0 _ (by omega), other _ 5 0 _ (by omega), other _ 4 0 _ (by omega), other _ 3 0 _ (by omega), other _ 2 0 _ (by omega), other _ 1 0 _ (by omega)]; exact same _ 0 _ (hr 0 (by omega)).1
  · unfold put8; rw [other _ 7 1 _ (by omega), other _ 6 1 _ (by omega), other _ 5 1 _ (by omega), other _ 4 1 _ (by omega), other _ 3 1 _ (by omega), other _ 2 1 _ (by omega)]; exact same _ 1 _ (by rw [other _ 0 1 _ (by omega)]; exact (hr 1 (by omega)).1)
  · unfold put8; rw [other _ 7 2 _ (by omega), other _ 6 2 _ (by omega), other _ 5 2 _ (by omega), other _ 4 2 _ (by omega), other _ 3 2 _ (by omega)]; exact same _ 2 _ (by rw [other _ 1 2 _ (by omega), other _ 0 2 _ (by omega)]; exact (hr 2 (by omega)).1)
  · unfold put8; rw [other _ 7 3 _ (by omega), other _ 6 3 _ (by omega), other _ 5 3 _ (by omega), other _ 4 3 _ (by omega)]; exact same _ 3 _ (by rw [other _ 2 3 _ (by omega), other _ 1 3 _ (by omega), other _ 0 3 _ (by omega)]; exact (hr 3 (by omega)).1)
  · unfold put8; rw [other _ 7 4 _ (by omega), other _ 6 4 _ (by omega), other _ 5 4 _ (by omega)]; exact same _ 4 _ (by rw [other _ 3 4 _ (by omega), other _ 2 4 _ (by omega), other _ 1 4 _ (by omega), other _ 0 4 _ (by omega)]; exact (hr 4 (by omega)).1)
  · unfold put8; rw [other _ 7 5 _ (by omega), other _ 6 5 _ (by omega)]; exact same _ 5 _ (by rw [other _ 4 5 _ (by omega), other _ 3 5 _ (by omega), other _ 2 5 _ (by omega), other _ 1 5 _ (by omega), other _ 0 5 _ (by omega)]; exact (hr 5 (by omega)).1)
  · unfold put8; rw [other _ 7 6 _ (by omega)]; exact same _ 6 _ (by rw [other _ 5 6 _ (by omega), other _ 4 6 _ (by omega), other _ 3 6 _ (by omega), other _ 2 6 _ (by omega), other _ 1 6 _ (by omega), other _ 0 6 _ (by omega)]; exact (hr 6 (by omega)).1)
  · unfold put8; exact same _ 7 _ (by rw [other _ 6 7 _ (by omega), other _ 5 7 _ (by omega), other _ 4 7 _ (by omega), other _ 3 7 _ (by omega), other _ 2 7 _ (by omega), other _ 1 7 _ (by omega), other _ 0 7 _ (by omega)]; exact (hr 7 (by omega)).1)
end Go.Proofs.Ytfcnmghhhgghcaa
