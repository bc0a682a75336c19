/- What the reach of a row gives of dependencies: their strings and lists are no longer than a machine has room for. -/
import Derived.Test.YtfcnmghhhgghcaaP
import Derived.SizedLaws
namespace Go.Proofs.Ytfcnmghhhgghcaa
open Go.RowKit Go.WideShapes Go.ChangeShapes
def Fits {H : Type} (t : TypeId) (d : DataW H) : Prop := ∀ n ∈ d.weights Try.prog t, n ≤ reachBytes
theorem bytes37 : Try.prog.bytesOf 37 = 32 := by kernel_rfl
theorem weightsAll_mem {H : Type} {e : TypeId} : ∀ {l : List (DataW H)} {d : DataW H}, d ∈ l → ∀ n ∈ d.weights Try.prog e, n ∈ DataW.weightsAll Try.prog e l
  | x :: r, d, hd, n, hn => by
    simp only [DataW.weightsAll, List.mem_append]
    rcases List.mem_cons.1 hd with rfl | hd
    · exact Or.inl hn
    · exact Or.inr (weightsAll_mem hd n hn)
theorem fits_string {H : Type} {t : TypeId} {s : ByteArray} (h : ∀ n ∈ (DataW.lit (H := H) (.string s.data.toList)).weights Try.prog t, n ≤ reachBytes) : s.size ≤ 140737488351232 := by
  have := h s.data.toList.length (by simp [DataW.weights])
  rw [Array.length_toList] at this
  exact this
theorem open_ex_s {H : Type} {enc : TypeId × Value → H} {W : World} {n : Nat} {v : Value} {y : DataW H × List MemPlace} (h : DataW.trod enc Try.prog W 0 (fun _ => true) true n 22 [v] = some y) (hk : Fits 22 y.1) :
    ∃ (A : Option Addr) (c : Nat) (l : List Ex), v = .slice A l.length c ∧ l.length ≤ 4398046510976 ∧ ReadsEx W A l := by
  rcases open_slice_fields Try.underlying22 Try.underlying37 (by kernel_rfl) (by kernel_rfl) h with ⟨hcs, hx⟩ | ⟨a, len', cap', m, D, Pl, hcs, hb, hl, hm, hmm, hx, hi⟩
  · injection hcs with hcs
    subst hcs hx
    exact ⟨none, 0, [], rfl, by simp, fun h => by simp at h⟩
  · injection hcs with hcs
    simp at hmm
    subst hmm
    obtain ⟨l, hll, hr⟩ := choose_list exD (fun i x => PairAt W (a.add (i * 2)) x) len' (fun i hi' => by
      obtain ⟨ys, n, _, _, _, hfs⟩ := hi i (by omega)
      obtain ⟨v1, y1, hc1, _, ht1⟩ := hfs 0 _ rfl
      obtain ⟨v2, y2, hc2, _, ht2⟩ := hfs 1 _ rfl
      obtain ⟨s1, hs1, _⟩ := DataW.trod_string Try.underlying9 ht1
      obtain ⟨s2, hs2, _⟩ := DataW.trod_string Try.underlying9 ht2
      injection hs1 with hs1
      injection hs2 with hs2
      subst hs1 hs2
      refine ⟨(s1, s2), hc1, ?_⟩
      have e := Go.Deep.add_add a (i * 2) 1
      have hc2' : W.cell? (a.add (i * 2 + 1)) = some (.string s2) := hc2
      rw [← e, Addr.add_succ'] at hc2'
      exact hc2')
    refine ⟨some a, _, l, by rw [hll]; exact hcs, ?_, fun _ => ⟨a, rfl, fun j hj => hr j (by rw [← hll]; exact hj)⟩⟩
    rw [hx] at hk
    have := hk ((((List.range len').map D).length + ((List.range (m - len')).map fun j => D (len' + j)).length) * 32) (by simp only [DataW.weights, Try.underlying22]; exact List.mem_cons.2 (Or.inl (by rw [bytes37])))
    rw [List.length_map, List.length_range] at this
    simp only [reachBytes] at this
    omega
theorem dep_of_s {H : Type} {enc : TypeId × Value → H} {W : World} {n : Nat} {v0 v1 v2 v3 v4 v5 v6 v7 : Value} {y0 y1 y2 y3 y4 y5 y6 y7 : DataW H × List MemPlace}
    (t0 : DataW.trod enc Try.prog W 0 (fun _ => true) true n 9 [v0] = some y0) (t1 : DataW.trod enc Try.prog W 0 (fun _ => true) true n 9 [v1] = some y1) (t2 : DataW.trod enc Try.prog W 0 (fun _ => true) true n 9 [v2] = some y2) (t3 : DataW.trod enc Try.prog W 0 (fun _ => true) true n 9 [v3] = some y3) (t4 : DataW.trod enc Try.prog W 0 (fun _ => true) true n 9 [v4] = some y4) (t5 : DataW.trod enc Try.prog W 0 (fun _ => true) true n 9 [v5] = some y5)
    (t6 : DataW.trod enc Try.prog W 0 (fun _ => true) true n 4 [v6] = some y6) (t7 : DataW.trod enc Try.prog W 0 (fun _ => true) true n 22 [v7] = some y7)
    (hk : ∀ n ∈ DataW.weightsEach Try.prog [9, 9, 9, 9, 9, 9, 4, 22] [y0.1, y1.1, y2.1, y3.1, y4.1, y5.1, y6.1, y7.1], n ≤ reachBytes) :
    ∃ (x : Dp) (A : Option Addr) (k : Nat), v0 = .string x.g ∧ v1 = .string x.n ∧ v2 = .string x.v ∧ v3 = .string x.t ∧ v4 = .string x.c ∧ v5 = .string x.s ∧ v6 = .bool x.o ∧ v7 = .slice A x.e.length k ∧ DpOk x ∧ ReadsEx W A x.e := by
  obtain ⟨s0, e0, z0, m0⟩ := DataW.trod_string Try.underlying9 t0
  obtain ⟨s1, e1, z1, m1⟩ := DataW.trod_string Try.underlying9 t1
  obtain ⟨s2, e2, z2, m2⟩ := DataW.trod_string Try.underlying9 t2
  obtain ⟨s3, e3, z3, m3⟩ := DataW.trod_string Try.underlying9 t3
  obtain ⟨s4, e4, z4, m4⟩ := DataW.trod_string Try.underlying9 t4
  obtain ⟨s5, e5, z5, m5⟩ := DataW.trod_string Try.underlying9 t5
  injection e0 with e0
  subst e0
  injection e1 with e1
  subst e1
  injection e2 with e2
  subst e2
  injection e3 with e3
  subst e3
  injection e4 with e4
  subst e4
  injection e5 with e5
  subst e5
  obtain ⟨b6, e6, z6⟩ := DataW.trod_bool Try.underlying4 t6
  injection e6 with e6
  subst e6
  subst z0 z1 z2 z3 z4 z5
  have g := fun j t d ht hd n hn => hk n (DataW.weights_mem_each (j := j) (t := t) (d := d) ht hd n hn)
  obtain ⟨A, k, l, rfl, hl, hr⟩ := open_ex_s t7 (g 7 22 _ rfl rfl)
  have q0 := fits_string (s := s0) (t := 9) (g 0 9 _ rfl rfl)
  have q1 := fits_string (s := s1) (t := 9) (g 1 9 _ rfl rfl)
  have q2 := fits_string (s := s2) (t := 9) (g 2 9 _ rfl rfl)
  have q3 := fits_string (s := s3) (t := 9) (g 3 9 _ rfl rfl)
  have q4 := fits_string (s := s4) (t := 9) (g 4 9 _ rfl rfl)
  have q5 := fits_string (s := s5) (t := 9) (g 5 9 _ rfl rfl)
  exact ⟨⟨s0, s1, s2, s3, s4, s5, b6, l⟩, A, k, rfl, rfl, rfl, rfl, rfl, rfl, rfl, rfl, ⟨q0, q1, q2, q3, q4, q5, hl⟩, hr⟩
theorem open_dep_s {H : Type} {enc : TypeId × Value → H} {W : World} {b0 : Nat} {v : Value} {d : DataW H} {p : List MemPlace} (hv : Value.okWide Try.prog W .any b0 24 v) (h : DataW.Trod enc Try.prog W 0 (fun _ => true) true 24 v d p) (hk : Fits 24 d) :
    ∃ (x : Dp) (A : Option Addr) (k : Nat), v = DV x A k ∧ DpOk x ∧ ReadsEx W A x.e := by
  obtain ⟨v0, v1, v2, v3, v4, v5, v6, v7, y0, y1, y2, y3, y4, y5, y6, y7, n, rfl, rfl, t0, t1, t2, t3, t4, t5, t6, t7⟩ := open_agg8 Try.underlying24 (by kernel_rfl) (by kernel_rfl) hv h
  have hk2 : ∀ n ∈ DataW.weightsEach Try.prog [9, 9, 9, 9, 9, 9, 4, 22] [y0.1, y1.1, y2.1, y3.1, y4.1, y5.1, y6.1, y7.1], n ≤ reachBytes := by
    have := hk
    simp only [Fits, DataW.weights, Try.underlying24] at this
    exact this
  obtain ⟨x, A, k, rfl, rfl, rfl, rfl, rfl, rfl, rfl, rfl, hok, hr⟩ := dep_of_s t0 t1 t2 t3 t4 t5 t6 t7 hk2
  exact ⟨x, A, k, rfl, hok, hr⟩
theorem open_deps_s {H : Type} {enc : TypeId × Value → H} {W : World} {b0 : Nat} {v : Value} {d : DataW H} {p : List MemPlace} (hv : Value.okWide Try.prog W .any b0 25 v) (h : DataW.Trod enc Try.prog W 0 (fun _ => true) true 25 v d p) (hk : Fits 25 d) :
    ∃ (A : Option Addr) (c : Nat) (l : List Dp), v = .slice A l.length c ∧ l.length ≤ c ∧ (∀ x ∈ l, DpOk x) ∧ ReadsDp W A l := by
  obtain ⟨a0, len, cap, rfl⟩ := okWide_slice Try.underlying25 hv
  obtain ⟨fuel, hf⟩ := h
  rcases open_slice_fields Try.underlying25 Try.underlying24 (by kernel_rfl) (by kernel_rfl) hf with ⟨hcs, hx⟩ | ⟨a, len', cap', m, D, Pl, hcs, hb, hl, hm, hmm, hx, hi⟩
  · simp [Value.cells] at hcs
    obtain ⟨rfl, rfl, rfl⟩ := hcs
    exact ⟨none, 0, [], rfl, by simp, by simp, fun h => by simp at h⟩
  · simp [Value.cells] at hcs
    obtain ⟨rfl, rfl, rfl⟩ := hcs
    simp at hmm
    subst hmm
    simp only [Prod.mk.injEq] at hx
    rw [hx.1] at hk
    simp only [Fits, DataW.weights, Try.underlying25] at hk
    obtain ⟨l, hll, hr⟩ := choose_list zD (fun i x => DpOk x ∧ ∃ A k, DepAt W (a.add (i * 8)) x A k) len (fun i hi' => by
      obtain ⟨ys, n, hD, _, hyl, hfs⟩ := hi i (by omega)
      have hbi : Fits 24 (D i) := fun n hn => hk n (List.mem_cons.2 (Or.inr (List.mem_append.2 (Or.inl (weightsAll_mem (List.mem_map.2 ⟨i, List.mem_range.2 hi', rfl⟩) n hn)))))
      rw [hD] at hbi
      simp only [Fits, DataW.weights, Try.underlying24] at hbi
      obtain ⟨v0, y0, c0, g0, t0⟩ := hfs 0 _ rfl
      obtain ⟨v1, y1, c1, g1, t1⟩ := hfs 1 _ rfl
      obtain ⟨v2, y2, c2, g2, t2⟩ := hfs 2 _ rfl
      obtain ⟨v3, y3, c3, g3, t3⟩ := hfs 3 _ rfl
      obtain ⟨v4, y4, c4, g4, t4⟩ := hfs 4 _ rfl
      obtain ⟨v5, y5, c5, g5, t5⟩ := hfs 5 _ rfl
      obtain ⟨v6, y6, c6, g6, t6⟩ := hfs 6 _ rfl
      obtain ⟨v7, y7, c7, g7, t7⟩ := hfs 7 _ rfl
      obtain rfl : ys = [y0, y1, y2, y3, y4, y5, y6, y7] := by
        apply List.ext_getElem?
        intro j
        have hyl' : ys.length = 8 := hyl
        match j with
        | 0 => exact g0
        | 1 => exact g1
        | 2 => exact g2
        | 3 => exact g3
        | 4 => exact g4
        | 5 => exact g5
        | 6 => exact g6
        | 7 => exact g7
        | j + 8 => rw [List.getElem?_eq_none (by omega), List.getElem?_eq_none (by simp)]
      obtain ⟨x, A, k, rfl, rfl, rfl, rfl, rfl, rfl, rfl, rfl, hok, hrr⟩ := dep_of_s t0 t1 t2 t3 t4 t5 t6 t7 hbi
      refine ⟨x, hok, A, k, ?_⟩
      have e1 := cell_plus W a (i * 8) 1 (by omega)
      have e2 := cell_plus W a (i * 8) 2 (by omega)
      have e3 := cell_plus W a (i * 8) 3 (by omega)
      have e4 := cell_plus W a (i * 8) 4 (by omega)
      have e5 := cell_plus W a (i * 8) 5 (by omega)
      have e6 := cell_plus W a (i * 8) 6 (by omega)
      have e7 := cell_plus W a (i * 8) 7 (by omega)
      exact ⟨c0, e1.symm.trans c1, e2.symm.trans c2, e3.symm.trans c3, e4.symm.trans c4, e5.symm.trans c5, e6.symm.trans c6, e7.symm.trans c7, hrr⟩)
    refine ⟨some a, _, l, by rw [hll], by rw [hll]; exact hl, ?_, fun _ => ⟨a, rfl, fun j hj => (hr j (by rw [← hll]; exact hj)).2⟩⟩
    intro x hx
    obtain ⟨j, hj, rfl⟩ := List.getElem_of_mem hx
    have := (hr j (by rw [← hll]; exact hj)).1
    rw [List.getD_eq_getElem?_getD, List.getElem?_eq_getElem hj] at this
    exact this
end Go.Proofs.Ytfcnmghhhgghcaa
