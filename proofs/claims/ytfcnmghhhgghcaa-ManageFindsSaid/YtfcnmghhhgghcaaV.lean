/- What ManageFinds needs: rows of dependencies in memory, and append to them. -/
import Derived.Test.YtfcnmghhhgghcaaT
import Derived.Test.YtfcnmghhhgghcaaP
namespace Go.Proofs.Ytfcnmghhhgghcaa
open Go.RowKit

abbrev DpC := Dp × Option Addr × Nat
def zC : DpC := (zD, none, 0)
def cells1 (x : DpC) : List Value := [.string x.1.g, .string x.1.n, .string x.1.v, .string x.1.t, .string x.1.c, .string x.1.s, .bool x.1.o, .slice x.2.1 x.1.e.length x.2.2]
def cellsD (L : List DpC) : List Value := L.flatMap cells1
theorem cellsD_nil : cellsD [] = [] := rfl
theorem cellsD_cons (x : DpC) (L : List DpC) : cellsD (x :: L) = cells1 x ++ cellsD L := rfl
theorem cellsD_app (L M : List DpC) : cellsD (L ++ M) = cellsD L ++ cellsD M := by simp [cellsD]
theorem cells1_len (x : DpC) : (cells1 x).length = 8 := rfl
theorem cellsD_len (L : List DpC) : (cellsD L).length = L.length * 8 := by
  induction L with
  | nil => rfl
  | cons x L ih => rw [cellsD_cons, List.length_append, ih, cells1_len, List.length_cons]; omega
theorem cellsD_at (L : List DpC) (j i : Nat) (h : j < L.length) (hi : i < 8) : (cellsD L)[j * 8 + i]? = (cells1 (L.getD j zC))[i]? := by
  induction L generalizing j with
  | nil => simp at h
  | cons x L ih =>
    rw [cellsD_cons]
    cases j with
    | zero => rw [List.getElem?_append_left (by rw [cells1_len]; omega), Nat.zero_mul, Nat.zero_add]; rfl
    | succ j =>
      rw [List.getElem?_append_right (by rw [cells1_len]; omega), cells1_len, show (j + 1) * 8 + i - 8 = j * 8 + i by omega, ih j (by simpa using h)]
      rfl
theorem cellsD_one (L : List DpC) : ∀ u ∈ cellsD L, u.oneCell' = true := by
  intro u hu
  simp only [cellsD, List.mem_flatMap] at hu
  obtain ⟨x, _, hx⟩ := hu
  simp only [cells1, List.mem_cons, List.mem_nil_iff, or_false] at hx
  rcases hx with rfl | rfl | rfl | rfl | rfl | rfl | rfl | rfl <;> rfl
theorem readsDp_of {w : World} {B : Nat} {A : Option Addr} {L : List DpC} (h : Reads w B 8 A L.length (cellsD L)) (he : ∀ x ∈ L, ReadsEx w x.2.1 x.1.e) : ReadsDp w A (L.map (·.1)) := by
  intro hn
  rw [List.length_map] at hn
  obtain ⟨ad, rfl, _, hc⟩ := h.2 hn
  refine ⟨ad, rfl, fun j hj => ?_⟩
  rw [List.length_map] at hj
  have e : (L.map (·.1)).getD j zD = (L.getD j zC).1 := by
    simp only [List.getD_eq_getElem?_getD, List.getElem?_map, List.getElem?_eq_getElem hj]; rfl
  have hm : L.getD j zC ∈ L := by simp [List.getD_eq_getElem?_getD, hj]
  have hce := he _ hm
  have hcc := fun i hi => cellsD_at L j i hj hi
  rw [e]
  generalize L.getD j zC = x at *
  refine ⟨x.2.1, x.2.2, ?_⟩
  have g : ∀ i, i < 8 → ∀ u, (cells1 x)[i]? = some u → w.cell? ((ad.add (j * 8)).add i) = some u := fun i hi u hu => by
    rw [add_of_add]; exact hc _ u ((hcc i hi).trans hu)
  exact ⟨g 0 (by omega) _ rfl, g 1 (by omega) _ rfl, g 2 (by omega) _ rfl, g 3 (by omega) _ rfl, g 4 (by omega) _ rfl, g 5 (by omega) _ rfl, g 6 (by omega) _ rfl, g 7 (by omega) _ rfl, hce⟩
theorem reads_of_dp {w : World} {A : Option Addr} {l : List Dp} (h : ReadsDp w A l) : ∃ L : List DpC, L.map (·.1) = l ∧ Reads w w.heap.size 8 A L.length (cellsD L) ∧ ∀ x ∈ L, ReadsEx w x.2.1 x.1.e := by
  cases l with
  | nil => exact ⟨[], rfl, ⟨rfl, fun hn => absurd hn (by simp)⟩, fun x hx => by cases hx⟩
  | cons y t =>
    obtain ⟨ad, rfl, hc⟩ := h (by simp)
    obtain ⟨L, hL, hr⟩ := choose_list zC (fun i (x : DpC) => x.1 = (y :: t).getD i zD ∧ DepAt w (ad.add (i * 8)) x.1 x.2.1 x.2.2) (y :: t).length (fun i hi => by
      obtain ⟨B, k, hd⟩ := hc i hi
      exact ⟨(_, B, k), rfl, hd⟩)
    refine ⟨L, ?_, ⟨cellsD_len L, fun hn => ⟨ad, rfl, ?_, fun j u hu => ?_⟩⟩, fun x hx => ?_⟩
    · refine List.ext_getElem (by rw [List.length_map, hL]) fun i h1 h2 => ?_
      rw [List.getElem_map]
      have := (hr i (by omega)).1
      simp only [List.getD_eq_getElem?_getD, List.getElem?_eq_getElem h2, List.getElem?_eq_getElem (show i < L.length by omega), Option.getD_some] at this
      exact this
    · have := (hr 0 (by simp)).2.lt
      rw [block_of_add] at this
      exact this
    · have hj : j < L.length * 8 := by have := (List.getElem?_eq_some_iff.1 hu).1; rw [cellsD_len] at this; exact this
      obtain ⟨i, r, hr8, rfl⟩ : ∃ i r, r < 8 ∧ j = i * 8 + r := ⟨j / 8, j % 8, by omega, by omega⟩
      have hi : i < L.length := by omega
      rw [cellsD_at L i r hi hr8] at hu
      obtain ⟨_, d0, d1, d2, d3, d4, d5, d6, d7, _⟩ := hr i (by omega)
      generalize L.getD i zC = x at *
      rw [← add_of_add]
      match r, hr8, hu with
      | 0, _, hu => injection hu with hu; subst hu; exact d0
      | 1, _, hu => injection hu with hu; subst hu; exact d1
      | 2, _, hu => injection hu with hu; subst hu; exact d2
      | 3, _, hu => injection hu with hu; subst hu; exact d3
      | 4, _, hu => injection hu with hu; subst hu; exact d4
      | 5, _, hu => injection hu with hu; subst hu; exact d5
      | 6, _, hu => injection hu with hu; subst hu; exact d6
      | 7, _, hu => injection hu with hu; subst hu; exact d7
    · obtain ⟨i, hi, rfl⟩ := List.getElem_of_mem hx
      obtain ⟨_, _, _, _, _, _, _, _, _, d8⟩ := hr i (by omega)
      have e : L.getD i zC = L[i] := by simp [List.getD_eq_getElem?_getD, hi]
      rw [e] at d8
      exact d8
def OwnsDp (w : World) (base : Nat) (v : Value) (L : List DpC) : Prop := w.ownsRow base 24 8 v L.length (cellsD L)
theorem OwnsDp.below {w w' : World} {base : Nat} {v : Value} {L : List DpC} (h : OwnsDp w base v L) (hb : Below w.heap.size w w') : OwnsDp w' base v L :=
  World.ownsRow.kept h ⟨hb.os, hb.tape, hb.output, hb.size, fun i hi _ => hb.block i hi⟩ (row := none) (by cases v.ownBlock <;> simp)
theorem OwnsDp.weak {w : World} {base b : Nat} {v : Value} {L : List DpC} (h : OwnsDp w base v L) (hb : b ≤ base) : OwnsDp w b v L :=
  ⟨h.1, h.2.imp id fun ⟨g, cap, cur, h1, h2, h3⟩ => ⟨g, cap, cur, h1, Nat.le_trans hb h2, h3⟩⟩
theorem OwnsDp.nil (w : World) (base : Nat) : OwnsDp w base (.slice none 0 0) [] := ⟨rfl, .inl ⟨rfl, rfl⟩⟩
theorem OwnsDp.slice {w : World} {base : Nat} {v : Value} {L : List DpC} (h : OwnsDp w base v L) (he : ∀ x ∈ L, ReadsEx w x.2.1 x.1.e) : ∃ A c, v = .slice A (L.map (·.1)).length c ∧ (L.map (·.1)).length ≤ c ∧ ReadsDp w A (L.map (·.1)) := by
  have hl : (L.map (·.1)).length = L.length := List.length_map ..
  rcases h.2 with ⟨rfl, h0⟩ | ⟨g, cap, cur, rfl, _, _, hc, _⟩
  · exact ⟨none, 0, by rw [hl, h0], by omega, fun hn => by omega⟩
  · exact ⟨_, cap, by rw [hl], by omega, readsDp_of (Reads.of_own h) he⟩
theorem dp_info : (Try.prog.info? 24).map (fun i => (i.zero, i.size, i.bytes)) = some (some (.agg #[.string ByteArray.empty, .string ByteArray.empty, .string ByteArray.empty, .string ByteArray.empty, .string ByteArray.empty, .string ByteArray.empty, .bool false, .slice none 0 0]), 8, 128) := by kernel_rfl
theorem app_dp {o : Oper} {a : Act} {K : Act → World → Prop} {Q : Exit → Act → World → Prop} {w0 W : World} (s x : Operand)
    (ho : o.op = .call { callee := .builtin .append, args := #[s, x], argTypes := #[25, 25] })
    (base : Nat) (v : Value) (L M : List DpC) (A : Option Addr) (c : Nat) (hs : a.eval s = v) (hx : a.eval x = .slice A M.length c)
    (hown : OwnsDp W base v L) (hr : Reads W W.heap.size 8 A M.length (cellsD M)) (hb : Below base w0 W) (hB : base ≤ W.heap.size) (hn : L.length + M.length ≤ 100000)
    (h : ∀ v' w', OwnsDp w' base v' (L ++ M) → Below base w0 w' → base ≤ w'.heap.size → W.grownBy w' v.ownBlock → K (a.put o.dst v') w') :
    o.wp Try.prog a W K Q := by
  obtain ⟨i0, hi, hz0, hz1, hz2⟩ := info_parts dp_info
  refine wp_append_any W s x 25 ho base 24 i0 _ 8 128 Try.underlying25 hi hz0 hz1 hz2 rfl (by decide) v L.length (cellsD L) hs hown W.heap.size A M.length c (cellsD M) hx hr (cellsD_one M) ?_ ?_ hB ?_
  · unfold maxLen; omega
  · omega
  · intro v' w' h1 h2 _
    refine h v' w' (by unfold OwnsDp; rw [List.length_append, cellsD_app]; exact h1) (hb.grown h2 hB (base_of_own hown)) (Nat.le_trans hB h2.size) h2
theorem reads_box {w : World} {b : Nat} {d : Dp} {A : Option Addr} {k : Nat} (h : Own8 w b d A k) : Reads w w.heap.size 8 (some ⟨b, 0, none⟩) [((d, A, k) : DpC)].length (cellsD [(d, A, k)]) := by
  refine ⟨cellsD_len _, fun _ => ⟨_, rfl, h.lt, fun j u hu => ?_⟩⟩
  have hj : j < 8 := (List.getElem?_eq_some_iff.1 hu).1
  match j, hj, hu with
  | 0, _, hu => injection hu with hu; subst hu; exact h.c0
  | 1, _, hu => injection hu with hu; subst hu; exact h.c1
  | 2, _, hu => injection hu with hu; subst hu; exact h.c2
  | 3, _, hu => injection hu with hu; subst hu; exact h.c3
  | 4, _, hu => injection hu with hu; subst hu; exact h.c4
  | 5, _, hu => injection hu with hu; subst hu; exact h.c5
  | 6, _, hu => injection hu with hu; subst hu; exact h.c6
  | 7, _, hu => injection hu with hu; subst hu; exact h.c7

theorem DepAt.cells {W : World} {p : Addr} {d : Dp} {A : Option Addr} {k : Nat} (h : DepAt W p d A k) : ∀ w', Below W.heap.size W w' →
    w'.cell? p = some (.string d.g) ∧ w'.cell? { block := p.block, off := p.off + 1 } = some (.string d.n) ∧ w'.cell? { block := p.block, off := p.off + 2 } = some (.string d.v) ∧ w'.cell? { block := p.block, off := p.off + 3 } = some (.string d.t) ∧
    w'.cell? { block := p.block, off := p.off + 4 } = some (.string d.c) ∧ w'.cell? { block := p.block, off := p.off + 5 } = some (.string d.s) ∧ w'.cell? { block := p.block, off := p.off + 6 } = some (.bool d.o) ∧ w'.cell? { block := p.block, off := p.off + 7 } = some (.slice A d.e.length k) := fun w' hb => by
  obtain ⟨h0, h1, h2, h3, h4, h5, h6, h7, _⟩ := h.below hb
  exact ⟨h0, h1, h2, h3, h4, h5, h6, h7⟩
theorem Own8.put3 {w : World} {B : Nat} {d : Dp} {A : Option Addr} {k : Nat} (h : Own8 w B d A k) (x : ByteArray) : Own8 (w.setCell ⟨B, 3, none⟩ (.string x)) B { d with t := x } A k := by
  have hn : ∀ j, j ≠ 3 → (w.setCell ⟨B, 3, none⟩ (.string x)).cell? ⟨B, j, none⟩ = w.cell? ⟨B, j, none⟩ := fun j hj => World.cell?_setCell_other _ _ _ _ (by intro e; injection e with _ e2; omega)
  exact ⟨by simpa [World.setCell] using h.lt, (hn 0 (by omega)).trans h.c0, (hn 1 (by omega)).trans h.c1, (hn 2 (by omega)).trans h.c2, World.cell?_setCell_same _ _ _ h.c3, (hn 4 (by omega)).trans h.c4, (hn 5 (by omega)).trans h.c5, (hn 6 (by omega)).trans h.c6, (hn 7 (by omega)).trans h.c7, fun j hj => by rw [World.frozen?_setCell]; exact h.fr j hj⟩
/-- What is found: the first of the key; else the one given. -/
def firstL (l : List Dp) (d : Dp) : Dp := (l.find? (hasKey (keyS d))).getD d
theorem firstL_pos {x : Dp} {t : List Dp} {d : Dp} (h : hasKey (keyS d) x = true) : firstL (x :: t) d = x := by rw [firstL, List.find?_cons_of_pos h]; rfl
theorem firstL_neg {x : Dp} {t : List Dp} {d : Dp} (h : hasKey (keyS d) x = false) : firstL (x :: t) d = firstL t d := by rw [firstL, List.find?_cons_of_neg (by simp [h])]; rfl
theorem hasKey_self (d : Dp) : hasKey (keyS d) d = true := by simp [hasKey]
theorem find_app (l : List Dp) (d : Dp) : findD (l ++ [d]) (keyS d) = firstL l d := by
  rw [findD, firstL, List.find?_append]
  cases l.find? (hasKey (keyS d)) with
  | some x => rfl
  | none => rw [List.find?_cons_of_pos (hasKey_self d)]; rfl
theorem findB_app (l : List Dp) (d : Dp) : findB (l ++ [d]) (keyS d) = true := by
  rw [findB, List.any_append]; simp [hasKey_self]
theorem firstL_ok {l : List Dp} {d : Dp} (hok : ∀ x ∈ l, DpOk x) (hd : DpOk d) : DpOk (firstL l d) := by
  unfold firstL
  cases h : l.find? (hasKey (keyS d)) with
  | none => exact hd
  | some x => exact hok x (List.mem_of_find?_eq_some h)
def DpOk2 (d : Dp) : Prop := d.g.size ≤ 140737488355328 ∧ d.n.size ≤ 140737488355328 ∧ d.t.size ≤ 140737488355328 ∧ d.c.size ≤ 140737488355328
set_option maxHeartbeats 1000000 in
theorem rkey_big (d : Dp) (A : Option Addr) (k : Nat) (w : World) (hd : DpOk2 d) :
    Calls Try.prog 9 #[DV d A k] w fun e w' => e = .returned (.string (keyS d)) ∧ Below w.heap.size w w' := by
  obtain ⟨z1, z2, z4, z5⟩ := hd
  go_enter Try.func9, Try.ntmps9
  go_wp2_with fail
  have c0 : (w.alloc (DC d A k)).cell? ⟨w.heap.size, 0, none⟩ = some (.string d.g) := by simp
  have c1 : (w.alloc (DC d A k)).cell? ⟨w.heap.size, 1, none⟩ = some (.string d.n) := by simp
  have c2 : (w.alloc (DC d A k)).cell? ⟨w.heap.size, 2, none⟩ = some (.string d.v) := by simp
  have c3 : (w.alloc (DC d A k)).cell? ⟨w.heap.size, 3, none⟩ = some (.string d.t) := by simp
  have c4 : (w.alloc (DC d A k)).cell? ⟨w.heap.size, 4, none⟩ = some (.string d.c) := by simp
  have c5 : (w.alloc (DC d A k)).cell? ⟨w.heap.size, 5, none⟩ = some (.string d.s) := by simp
  have c6 : (w.alloc (DC d A k)).cell? ⟨w.heap.size, 6, none⟩ = some (.bool d.o) := by simp
  have c7 : (w.alloc (DC d A k)).cell? ⟨w.heap.size, 7, none⟩ = some (.slice A d.e.length k) := by simp
  have hb0 : Below w.heap.size w (w.alloc (DC d A k)) := balloc (Below.refl _ _) _
  generalize hW : w.alloc (DC d A k) = W at *
  clear hW
  have e58 : (⟨#[58]⟩ : ByteArray).size = 1 := rfl
  have zo : (orS d.t ⟨#[106, 97, 114]⟩).size ≤ 140737488355328 := by unfold orS; split <;> first | exact (by decide) | exact z4
  have a1 := fun W => run_string_add_sum (P := Try.prog) W d.g ⟨#[58]⟩ (by omega)
  have a2 := fun W => run_string_add_sum (P := Try.prog) W (d.g ++ ⟨#[58]⟩) d.n (by rw [ByteArray.size_append]; omega)
  have a3 := fun W => run_string_add_sum (P := Try.prog) W (d.g ++ ⟨#[58]⟩ ++ d.n) ⟨#[58]⟩ (by simp only [ByteArray.size_append]; omega)
  have a4 := fun W => run_string_add_sum (P := Try.prog) W (d.g ++ ⟨#[58]⟩ ++ d.n ++ ⟨#[58]⟩) (orS d.t ⟨#[106, 97, 114]⟩) (by simp only [ByteArray.size_append]; omega)
  have a5 := fun W => run_string_add_sum (P := Try.prog) W (d.g ++ ⟨#[58]⟩ ++ d.n ++ ⟨#[58]⟩ ++ orS d.t ⟨#[106, 97, 114]⟩) ⟨#[58]⟩ (by simp only [ByteArray.size_append]; omega)
  have a6 := fun W => run_string_add_sum (P := Try.prog) W (d.g ++ ⟨#[58]⟩ ++ d.n ++ ⟨#[58]⟩ ++ orS d.t ⟨#[106, 97, 114]⟩ ++ ⟨#[58]⟩) d.c (by simp only [ByteArray.size_append]; omega)
  go_region_held3 (fun w' => w'.cell? ⟨w.heap.size, 0, none⟩ = some (.string d.g) ∧ w'.cell? ⟨w.heap.size, 1, none⟩ = some (.string d.n) ∧ w'.cell? ⟨w.heap.size, 2, none⟩ = some (.string d.v) ∧ w'.cell? ⟨w.heap.size, 3, none⟩ = some (.string d.t) ∧ w'.cell? ⟨w.heap.size, 4, none⟩ = some (.string d.c) ∧ w'.cell? ⟨w.heap.size, 5, none⟩ = some (.string d.s) ∧ w'.cell? ⟨w.heap.size, 6, none⟩ = some (.bool d.o) ∧ w'.cell? ⟨w.heap.size, 7, none⟩ = some (.slice A d.e.length k)) (go_keep) ((go_at_call 18; refine (rtype_any d A k _).mono ?_; rintro e w' ⟨rfl, rfl⟩))
  clear a1 a2 a3 a4 a5 a6
  go_wp2_with fail
  go_ret
  exact ⟨rfl, by repeat (first | (with_reducible assumption) | (refine bdrewN ?_ _) | (refine balloc ?_ _) | (refine bdrew ?_))⟩
theorem readsDp_box {w : World} {b : Nat} {d : Dp} {A : Option Addr} {k : Nat} (h : At8 w b d A k) : ReadsDp w (some ⟨b, 0, none⟩) [d] := by
  intro _
  refine ⟨_, rfl, fun j hj => ⟨A, k, ?_⟩⟩
  have : j = 0 := by have : j < 1 := hj; omega
  subst this
  exact ⟨h.o.c0, h.o.c1, h.o.c2, h.o.c3, h.o.c4, h.o.c5, h.o.c6, h.o.c7, h.r⟩
end Go.Proofs.Ytfcnmghhhgghcaa
