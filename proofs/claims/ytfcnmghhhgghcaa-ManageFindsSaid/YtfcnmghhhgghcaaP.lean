/- The step from a walk that leaves 'Below' to a row's post. -/
import Derived.Test.YtfcnmghhhgghcaaRows
import Derived.Below
import Derived.ChangeSame
import Derived.ProofKit
import Derived.OpenShut
import Derived.ShutString
import Derived.Deep.Slices
import Derived.Deep.Fields
import Derived.Carry
import Derived.Test.YtfcnmghhhgghcaaC
import Derived.Test.YtfcnmghhhgghcaaBulk
namespace Go.Proofs.Ytfcnmghhhgghcaa
open Go.RowKit Go.WideShapes Go.ChangeShapes
section
variable {H : Type} {enc : TypeId × Value → H} {P : Program}
theorem post_of_below {f : Func} {s : ChangeSpec} {apart fresh handsOn again : Bool} {W W' : World} {args : Array Value} {v : Value} {ds gs : List (DataW H)} {before pa pv : List MemPlace}
    (hW : DataW.Whole enc P f.params.toList s.vars apart W args.toList ds gs before)
    (hres : ∀ (b : Nat) (sp : Nat → Bool) (hd : Bool), DataW.TrodAll enc P W' b sp hd f.resultTypes.toList (v.resultList f.resultTypes.size) (s.fn H (ds ++ gs)).results [])
    (hargs : ∀ sp : Nat → Bool, (∀ p ∈ before, sp p.block = true) → DataW.TrodAll enc P W' 0 sp true f.params.toList args.toList (s.fn H (ds ++ gs)).args pa)
    (hvars : ∀ sp : Nat → Bool, (∀ p ∈ before, sp p.block = true) → DataW.TrodVars enc P W' sp s.vars (s.fn H (ds ++ gs)).vars pv)
    (hps : before = pa ++ pv) (hb : Below W.heap.size W W')
    (hok : ∀ (j : Nat) (t : TypeId) (r : Value), f.resultTypes[j]? = some t → (v.resultList f.resultTypes.size)[j]? = some r → Value.okWide P W' .any 0 t r) :
    s.post enc P f apart fresh handsOn again W args v W' := by
  have hlt : ∀ p ∈ before, p.block < W.heap.size := fun p hp => hW.lt p hp
  have hold : ∀ p ∈ before, (fun b => decide (b < W.heap.size)) p.block = true := fun p hp => by simpa using hlt p hp
  refine ⟨ds, gs, before, [], pa, pv, hW, hres _ _ _, hargs _ hold, hvars _ hold, World.keptBut_mono (fun p hp => ⟨hp, ?_⟩) (hb.frame (· ∈ before)), fun _ => ?_⟩
  · rw [hps, List.mem_append] at hp
    exact Or.inr hp
  · obtain ⟨_, _, _, _, _, hz, hn⟩ := hW
    refine ⟨hok, _, _, ([] ++ pa) ++ pv, ⟨[] ++ pa, pv, trodAll_append (hargs _ (fun _ _ => rfl)) (hres _ _ _), hvars _ (fun _ _ => rfl), rfl, ?_, ?_⟩, ?_⟩
    · intro b off hp
      have hin : MemPlace.cell b off ∈ before := by rw [hps]; simpa using hp
      rw [hb.frozen (hlt _ hin)]
      exact hz b off hin
    · intro ha
      have := hn ha
      rw [hps] at this
      simpa using this
    · intro p hp _
      rw [hps]
      simpa using hp
end

/-- The arguments read behind the call as before it. -/
theorem trodAll_keep {H : Type} {enc : TypeId × Value → H} {P : Program} (hl : laidOutB P = true) {W W' : World} (hb : Below W.heap.size W W') {sp : Nat → Bool} :
    ∀ {ts : List TypeId} {vs : List Value} {ds : List (DataW H)} {ps : List MemPlace}, (∀ t ∈ ts, P.readableRec t = true ∧ t < P.types.size) → DataW.TrodAll enc P W 0 (fun _ => true) true ts vs ds ps →
      (∀ p ∈ ps, p.block < W.heap.size) → (∀ p ∈ ps, sp p.block = true) → DataW.TrodAll enc P W' 0 sp true ts vs ds ps
  | [], [], [], _, _, h, _, _ => h
  | _ :: _, _ :: _, _ :: _, _, ht, ⟨p, q, h1, h2, e⟩, hlt, hs => by
    refine ⟨p, q, ?_, ?_, e⟩
    · exact WideElems.Trod_stays hl (ht _ (List.mem_cons.2 (Or.inl rfl))).1 (ht _ (List.mem_cons.2 (Or.inl rfl))).2 h1 (fun x hx => hb.same (hlt x (by rw [e]; exact List.mem_append_left _ hx))) (fun x hx => hs x (by rw [e]; exact List.mem_append_left _ hx))
    · exact trodAll_keep hl hb (fun t h => ht t (List.mem_cons.2 (Or.inr h))) h2 (fun x hx => hlt x (by rw [e]; exact List.mem_append_right _ hx)) (fun x hx => hs x (by rw [e]; exact List.mem_append_right _ hx))
open Go.Deep in
section
variable {H : Type} {enc : TypeId × Value → H} {P : Program} {w : World} {base : Nat} {spare : Nat → Bool} {held : Bool}
theorem open_slice_fields {t e : TypeId} {fs : Array Field} {fuel : Nat} {cs : List Value} {x : DataW H × List MemPlace} (ht : P.underlying t = some (.slice e)) (he : P.underlying e = some (.struct fs))
    (hone : oneCellFields P fs = true) (hC : P.cellsOf e = fs.size) (h : DataW.trod enc P w base spare held fuel t cs = some x) :
    (cs = [.slice none 0 0] ∧ x = (.nil, [])) ∨
    ∃ (a : Addr) (len cap m : Nat) (D : Nat → DataW H) (Pl : Nat → List MemPlace), cs = [.slice (some a) len cap] ∧ base ≤ a.block ∧ len ≤ cap ∧ cap ≤ maxLen ∧ m = (if spare a.block then cap else len) ∧
      x = (.slice ((List.range len).map D) ((List.range (m - len)).map fun j => D (len + j)), MemPlace.row a (m * fs.size) ++ (List.range m).flatMap Pl) ∧
      ∀ i, i < m → ∃ (ys : List (DataW H × List MemPlace)) (n : Nat), D i = .agg (ys.map (·.1)) ∧ Pl i = ys.flatMap (·.2) ∧ ys.length = fs.size ∧
        ∀ (j : Nat) (f : Field), fs[j]? = some f → ∃ (v : Value) (y : DataW H × List MemPlace), w.cell? (a.add (i * fs.size + j)) = some v ∧ ys[j]? = some y ∧ DataW.trod enc P w base spare held n f.type [v] = some y := by
  rcases open_slice ht h with h0 | ⟨a, len, cap, m, n, D, Pl, hcs, hb, hl, hm, hmm, hx, hi⟩
  · exact .inl h0
  · refine .inr ⟨a, len, cap, m, D, Pl, hcs, hb, hl, hm, hmm, by rw [hC] at hx; exact hx, fun i him => ?_⟩
    obtain ⟨cs', hc, ht'⟩ := hi i him
    rw [hC] at hc
    obtain ⟨ys, n', hn', hy, hlen, hyl, hf⟩ := DataW.trod_struct he ht'
    obtain ⟨_, hcl, hat⟩ := World.cells?_some hc
    simp only [Prod.mk.injEq] at hy
    refine ⟨ys, n', hy.1, hy.2, hyl, fun j f hj => ?_⟩
    obtain ⟨ho, hk⟩ := hone_of hone j f hj
    have hjl : j < fs.size := (Array.getElem?_eq_some_iff.1 hj).1
    have hcell := hat j hjl
    have hv : cs'[j]? = some (cs'[j]'(by omega)) := List.getElem?_eq_getElem (by omega)
    have h1 := hf j f hj
    rw [ho, hk] at h1
    have hone' : (cs'.drop j).take 1 = [cs'[j]'(by omega)] := by
      rw [List.drop_eq_getElem_cons (by omega)]
      rfl
    rw [hone'] at h1
    have hys : ys[j]? = some (ys[j]'(by omega)) := List.getElem?_eq_getElem (by omega)
    refine ⟨_, _, ?_, hys, h1.trans hys⟩
    rw [← Go.Deep.add_add, hcell, hv]
end

theorem laid_out : laidOutB Try.prog = true := by kernel_rfl
theorem choose_list {α : Type} (d : α) (R : Nat → α → Prop) (n : Nat) (h : ∀ i, i < n → ∃ x, R i x) : ∃ l : List α, l.length = n ∧ ∀ i, i < n → R i (l.getD i d) := by
  induction n with
  | zero => exact ⟨[], rfl, fun i hi => by omega⟩
  | succ n ih =>
    obtain ⟨l, hl, hr⟩ := ih fun i hi => h i (by omega)
    obtain ⟨x, hx⟩ := h n (by omega)
    refine ⟨l ++ [x], by simp [hl], fun i hi => ?_⟩
    by_cases hin : i < n
    · have : (l ++ [x]).getD i d = l.getD i d := by
        simp only [List.getD_eq_getElem?_getD]; rw [List.getElem?_append_left (by omega)]
      rw [this]; exact hr i hin
    · have e : i = n := by omega
      subst e
      have : (l ++ [x]).getD i d = x := by
        simp only [List.getD_eq_getElem?_getD]; rw [List.getElem?_append_right (by omega)]; simp [hl]
      rw [this]; exact hx
theorem open_ex' {H : Type} {enc : TypeId × Value → H} {W : World} {n : Nat} {v : Value} {y : DataW H × List MemPlace} (h : DataW.trod enc Try.prog W 0 (fun _ => true) true n 22 [v] = some y) :
    ∃ (A : Option Addr) (c : Nat) (l : List Ex), v = .slice A l.length c ∧ l.length + 1 ≤ Rows.uptoBulk y.1 ∧ ReadsEx W A l := by
  rcases open_slice_fields Try.underlying22 Try.underlying37 (by kernel_rfl) (by kernel_rfl) h with ⟨hcs, hx⟩ | ⟨a, len', cap', m, D, Pl, hcs, hb, hl, hm, hmm, hx, hi⟩
  · injection hcs with hcs
    subst hcs hx
    exact ⟨none, 0, [], rfl, by simp [Rows.uptoBulk], fun h => by simp at h⟩
  · injection hcs with hcs
    simp at hmm
    subst hmm
    obtain ⟨l, hll, hr⟩ := choose_list exD (fun i x => PairAt W (a.add (i * 2)) x) len' (fun i hi' => by
      obtain ⟨ys, n, _, _, _, hfs⟩ := hi i (by omega)
      obtain ⟨v1, y1, hc1, _, ht1⟩ := hfs 0 _ rfl
      obtain ⟨v2, y2, hc2, _, ht2⟩ := hfs 1 _ rfl
      obtain ⟨s1, hs1, _⟩ := DataW.trod_string Try.underlying9 ht1
      obtain ⟨s2, hs2, _⟩ := DataW.trod_string Try.underlying9 ht2
      injection hs1 with hs1
      injection hs2 with hs2
      subst hs1 hs2
      refine ⟨(s1, s2), hc1, ?_⟩
      have e := Go.Deep.add_add a (i * 2) 1
      have hc2' : W.cell? (a.add (i * 2 + 1)) = some (.string s2) := hc2
      rw [← e, Addr.add_succ'] at hc2'
      exact hc2')
    refine ⟨some a, _, l, by rw [hll]; exact hcs, ?_, fun _ => ⟨a, rfl, fun j hj => hr j (by rw [← hll]; exact hj)⟩⟩
    rw [hx]
    have := bulks.slice_le ((List.range len').map D) ((List.range (m - len')).map fun j => D (len' + j))
    rw [List.length_map, List.length_range] at this
    show l.length + 1 ≤ Rows.uptoBulk (.slice _ _)
    omega
theorem str_bulk {H : Type} (b : ByteArray) : b.size + 1 = Rows.uptoBulk (DataW.lit (H := H) (.string b.data.toList)) := by
  rw [bulks.string_eq, Array.length_toList]; rfl
section
open Go.Deep
variable {H : Type} {enc : TypeId × Value → H} {P : Program} {w : World} {base : Nat} {spare : Nat → Bool} {held : Bool}
theorem open_agg8 {r : Reach} {b0 : Nat} {t : TypeId} {f0 f1 f2 f3 f4 f5 f6 f7 : Field} {v : Value} {d : DataW H} {p : List MemPlace} (hs : P.underlying t = some (.struct #[f0, f1, f2, f3, f4, f5, f6, f7])) (hone : oneCellFields P #[f0, f1, f2, f3, f4, f5, f6, f7] = true) (hC : P.cellsOf t = 8)
    (hv : Value.okWide P w r b0 t v) (h : DataW.Trod enc P w base spare held t v d p) :
    ∃ (v0 v1 v2 v3 v4 v5 v6 v7 : Value) (y0 y1 y2 y3 y4 y5 y6 y7 : DataW H × List MemPlace) (n : Nat), v = .agg #[v0, v1, v2, v3, v4, v5, v6, v7] ∧ d = .agg [y0.1, y1.1, y2.1, y3.1, y4.1, y5.1, y6.1, y7.1] ∧
      DataW.trod enc P w base spare held n f0.type [v0] = some y0 ∧ DataW.trod enc P w base spare held n f1.type [v1] = some y1 ∧ DataW.trod enc P w base spare held n f2.type [v2] = some y2 ∧ DataW.trod enc P w base spare held n f3.type [v3] = some y3 ∧ DataW.trod enc P w base spare held n f4.type [v4] = some y4 ∧ DataW.trod enc P w base spare held n f5.type [v5] = some y5 ∧ DataW.trod enc P w base spare held n f6.type [v6] = some y6 ∧ DataW.trod enc P w base spare held n f7.type [v7] = some y7 := by
  obtain ⟨cs, rfl, hsz⟩ := okWide_struct hs hv
  obtain ⟨l⟩ := cs
  match l, hsz.trans hC with
  | [c0, c1, c2, c3, c4, c5, c6, c7], _ =>
    obtain ⟨fuel, hf⟩ := h
    obtain ⟨xs, n, _, hx, _, hlen, hg⟩ := DataW.trod_struct hs hf
    obtain ⟨o0, k0⟩ := hone_of hone 0 f0 rfl
    obtain ⟨o1, k1⟩ := hone_of hone 1 f1 rfl
    obtain ⟨o2, k2⟩ := hone_of hone 2 f2 rfl
    obtain ⟨o3, k3⟩ := hone_of hone 3 f3 rfl
    obtain ⟨o4, k4⟩ := hone_of hone 4 f4 rfl
    obtain ⟨o5, k5⟩ := hone_of hone 5 f5 rfl
    obtain ⟨o6, k6⟩ := hone_of hone 6 f6 rfl
    obtain ⟨o7, k7⟩ := hone_of hone 7 f7 rfl
    match xs, hlen with
    | [y0, y1, y2, y3, y4, y5, y6, y7], _ =>
      simp only [Prod.mk.injEq] at hx
      exact ⟨c0, c1, c2, c3, c4, c5, c6, c7, y0, y1, y2, y3, y4, y5, y6, y7, n, rfl, by simpa using hx.1, by simpa [Value.cells, o0, k0] using hg 0 f0 rfl, by simpa [Value.cells, o1, k1] using hg 1 f1 rfl, by simpa [Value.cells, o2, k2] using hg 2 f2 rfl, by simpa [Value.cells, o3, k3] using hg 3 f3 rfl, by simpa [Value.cells, o4, k4] using hg 4 f4 rfl, by simpa [Value.cells, o5, k5] using hg 5 f5 rfl, by simpa [Value.cells, o6, k6] using hg 6 f6 rfl, by simpa [Value.cells, o7, k7] using hg 7 f7 rfl⟩
end

theorem dep_of {H : Type} {enc : TypeId × Value → H} {W : World} {n : Nat} {v0 v1 v2 v3 v4 v5 v6 v7 : Value} {y0 y1 y2 y3 y4 y5 y6 y7 : DataW H × List MemPlace}
    (t0 : DataW.trod enc Try.prog W 0 (fun _ => true) true n 9 [v0] = some y0) (t1 : DataW.trod enc Try.prog W 0 (fun _ => true) true n 9 [v1] = some y1) (t2 : DataW.trod enc Try.prog W 0 (fun _ => true) true n 9 [v2] = some y2) (t3 : DataW.trod enc Try.prog W 0 (fun _ => true) true n 9 [v3] = some y3) (t4 : DataW.trod enc Try.prog W 0 (fun _ => true) true n 9 [v4] = some y4) (t5 : DataW.trod enc Try.prog W 0 (fun _ => true) true n 9 [v5] = some y5)
    (t6 : DataW.trod enc Try.prog W 0 (fun _ => true) true n 4 [v6] = some y6) (t7 : DataW.trod enc Try.prog W 0 (fun _ => true) true n 22 [v7] = some y7)
    (hk : Rows.uptoBulkAll [y0.1, y1.1, y2.1, y3.1, y4.1, y5.1, y6.1, y7.1] ≤ 1048576) :
    ∃ (x : Dp) (A : Option Addr) (k : Nat), v0 = .string x.g ∧ v1 = .string x.n ∧ v2 = .string x.v ∧ v3 = .string x.t ∧ v4 = .string x.c ∧ v5 = .string x.s ∧ v6 = .bool x.o ∧ v7 = .slice A x.e.length k ∧ DpOk x ∧ x.e.length ≤ 1048576 ∧ ReadsEx W A x.e := by
  obtain ⟨s0, e0, z0, m0⟩ := DataW.trod_string Try.underlying9 t0
  obtain ⟨s1, e1, z1, m1⟩ := DataW.trod_string Try.underlying9 t1
  obtain ⟨s2, e2, z2, m2⟩ := DataW.trod_string Try.underlying9 t2
  obtain ⟨s3, e3, z3, m3⟩ := DataW.trod_string Try.underlying9 t3
  obtain ⟨s4, e4, z4, m4⟩ := DataW.trod_string Try.underlying9 t4
  obtain ⟨s5, e5, z5, m5⟩ := DataW.trod_string Try.underlying9 t5
  injection e0 with e0
  subst e0
  injection e1 with e1
  subst e1
  injection e2 with e2
  subst e2
  injection e3 with e3
  subst e3
  injection e4 with e4
  subst e4
  injection e5 with e5
  subst e5
  obtain ⟨b6, e6, z6⟩ := DataW.trod_bool Try.underlying4 t6
  injection e6 with e6
  subst e6
  obtain ⟨A, k, l, rfl, hl, hr⟩ := open_ex' t7
  simp only [Rows.uptoBulkAll] at hk
  have q0 : s0.size + 1 = Rows.uptoBulk y0.1 := by rw [z0]; exact str_bulk s0
  have q1 : s1.size + 1 = Rows.uptoBulk y1.1 := by rw [z1]; exact str_bulk s1
  have q2 : s2.size + 1 = Rows.uptoBulk y2.1 := by rw [z2]; exact str_bulk s2
  have q3 : s3.size + 1 = Rows.uptoBulk y3.1 := by rw [z3]; exact str_bulk s3
  have q4 : s4.size + 1 = Rows.uptoBulk y4.1 := by rw [z4]; exact str_bulk s4
  have q5 : s5.size + 1 = Rows.uptoBulk y5.1 := by rw [z5]; exact str_bulk s5
  refine ⟨⟨s0, s1, s2, s3, s4, s5, b6, l⟩, A, k, rfl, rfl, rfl, rfl, rfl, rfl, rfl, rfl, ⟨?_, ?_, ?_, ?_, ?_, ?_, ?_⟩, ?_, hr⟩
  all_goals dsimp only
  all_goals omega
theorem open_dep {H : Type} {enc : TypeId × Value → H} {W : World} {b0 : Nat} {v : Value} {d : DataW H} {p : List MemPlace} (hv : Value.okWide Try.prog W .any b0 24 v) (h : DataW.Trod enc Try.prog W 0 (fun _ => true) true 24 v d p) (hk : Rows.uptoBulk d ≤ 1048576) :
    ∃ (x : Dp) (A : Option Addr) (k : Nat), v = DV x A k ∧ DpOk x ∧ x.e.length ≤ 1048576 ∧ ReadsEx W A x.e := by
  obtain ⟨v0, v1, v2, v3, v4, v5, v6, v7, y0, y1, y2, y3, y4, y5, y6, y7, n, rfl, rfl, t0, t1, t2, t3, t4, t5, t6, t7⟩ := open_agg8 Try.underlying24 (by kernel_rfl) (by kernel_rfl) hv h
  simp only [Rows.uptoBulk] at hk
  obtain ⟨x, A, k, rfl, rfl, rfl, rfl, rfl, rfl, rfl, rfl, hok, he, hr⟩ := dep_of t0 t1 t2 t3 t4 t5 t6 t7 (by omega)
  exact ⟨x, A, k, rfl, hok, he, hr⟩
theorem cell_plus (W : World) (a : Addr) (i j : Nat) (hj : 0 < j) : W.cell? (a.add (i + j)) = W.cell? { block := (a.add i).block, off := (a.add i).off + j } := by
  rw [← Go.Deep.add_add]
  congr 1
  unfold Addr.add
  by_cases hi : i = 0 <;> simp [hi, show j ≠ 0 by omega]
theorem bulk_mem {H : Type} (D : Nat → DataW H) (len i : Nat) (h : i < len) : Rows.uptoBulk (D i) ≤ Rows.uptoBulkAll ((List.range len).map D) :=
  bulks.part_le (List.mem_map.2 ⟨i, List.mem_range.2 h, rfl⟩)
theorem open_deps {H : Type} {enc : TypeId × Value → H} {W : World} {b0 : Nat} {v : Value} {d : DataW H} {p : List MemPlace} (hv : Value.okWide Try.prog W .any b0 25 v) (h : DataW.Trod enc Try.prog W 0 (fun _ => true) true 25 v d p) (hk : Rows.uptoBulk d ≤ 1048576) :
    ∃ (A : Option Addr) (c : Nat) (l : List Dp), v = .slice A l.length c ∧ l.length ≤ c ∧ (∀ x ∈ l, DpOk x ∧ x.e.length ≤ 1048576) ∧ ReadsDp W A l := by
  obtain ⟨a0, len, cap, rfl⟩ := okWide_slice Try.underlying25 hv
  obtain ⟨fuel, hf⟩ := h
  rcases open_slice_fields Try.underlying25 Try.underlying24 (by kernel_rfl) (by kernel_rfl) hf with ⟨hcs, hx⟩ | ⟨a, len', cap', m, D, Pl, hcs, hb, hl, hm, hmm, hx, hi⟩
  · simp [Value.cells] at hcs
    obtain ⟨rfl, rfl, rfl⟩ := hcs
    exact ⟨none, 0, [], rfl, by simp, by simp, fun h => by simp at h⟩
  · simp [Value.cells] at hcs
    obtain ⟨rfl, rfl, rfl⟩ := hcs
    simp at hmm
    subst hmm
    simp only [Prod.mk.injEq] at hx
    rw [hx.1] at hk
    simp only [Rows.uptoBulk] at hk
    obtain ⟨l, hll, hr⟩ := choose_list zD (fun i x => (DpOk x ∧ x.e.length ≤ 1048576) ∧ ∃ A k, DepAt W (a.add (i * 8)) x A k) len (fun i hi' => by
      obtain ⟨ys, n, hD, _, hyl, hfs⟩ := hi i (by omega)
      have hbi := bulk_mem D len i hi'
      rw [hD] at hbi
      simp only [Rows.uptoBulk] at hbi
      obtain ⟨v0, y0, c0, g0, t0⟩ := hfs 0 _ rfl
      obtain ⟨v1, y1, c1, g1, t1⟩ := hfs 1 _ rfl
      obtain ⟨v2, y2, c2, g2, t2⟩ := hfs 2 _ rfl
      obtain ⟨v3, y3, c3, g3, t3⟩ := hfs 3 _ rfl
      obtain ⟨v4, y4, c4, g4, t4⟩ := hfs 4 _ rfl
      obtain ⟨v5, y5, c5, g5, t5⟩ := hfs 5 _ rfl
      obtain ⟨v6, y6, c6, g6, t6⟩ := hfs 6 _ rfl
      obtain ⟨v7, y7, c7, g7, t7⟩ := hfs 7 _ rfl
      obtain rfl : ys = [y0, y1, y2, y3, y4, y5, y6, y7] := by
        apply List.ext_getElem?
        intro j
        have hyl' : ys.length = 8 := hyl
        match j with
        | 0 => exact g0
        | 1 => exact g1
        | 2 => exact g2
        | 3 => exact g3
        | 4 => exact g4
        | 5 => exact g5
        | 6 => exact g6
        | 7 => exact g7
        | j + 8 => rw [List.getElem?_eq_none (by omega), List.getElem?_eq_none (by simp)]
      obtain ⟨x, A, k, rfl, rfl, rfl, rfl, rfl, rfl, rfl, rfl, hok, he, hrr⟩ := dep_of t0 t1 t2 t3 t4 t5 t6 t7 (by simp only [List.map_cons, List.map_nil] at hbi; omega)
      refine ⟨x, ⟨hok, he⟩, A, k, ?_⟩
      have e1 := cell_plus W a (i * 8) 1 (by omega)
      have e2 := cell_plus W a (i * 8) 2 (by omega)
      have e3 := cell_plus W a (i * 8) 3 (by omega)
      have e4 := cell_plus W a (i * 8) 4 (by omega)
      have e5 := cell_plus W a (i * 8) 5 (by omega)
      have e6 := cell_plus W a (i * 8) 6 (by omega)
      have e7 := cell_plus W a (i * 8) 7 (by omega)
      exact ⟨c0, e1.symm.trans c1, e2.symm.trans c2, e3.symm.trans c3, e4.symm.trans c4, e5.symm.trans c5, e6.symm.trans c6, e7.symm.trans c7, hrr⟩)
    refine ⟨some a, _, l, by rw [hll], by rw [hll]; exact hl, ?_, fun _ => ⟨a, rfl, fun j hj => (hr j (by rw [← hll]; exact hj)).2⟩⟩
    intro x hx
    obtain ⟨j, hj, rfl⟩ := List.getElem_of_mem hx
    have := (hr j (by rw [← hll]; exact hj)).1
    rw [List.getD_eq_getElem?_getD, List.getElem?_eq_getElem hj] at this
    exact this
end Go.Proofs.Ytfcnmghhhgghcaa
