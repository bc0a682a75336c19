/- What RouteFirst needs: ways appended to ways; the order with one way more. -/
import Derived.Test.YtodninjcmfbfdaaQ
import Derived.Test.YtodninjcmfbfdaaH
namespace Go.Proofs.Ytodninjcmfbfdaa
open Go.RowKit

abbrev WyC := List Int × Option Addr × Nat
def cw (x : WyC) : Value := .slice x.2.1 x.1.length x.2.2
theorem cw_one (L : List WyC) : ∀ u ∈ L.map cw, u.oneCell' = true := by
  intro u hu
  simp only [List.mem_map] at hu
  obtain ⟨x, _, rfl⟩ := hu
  rfl
theorem choose_w {R : Nat → WyC → Prop} (n : Nat) (h : ∀ i, i < n → ∃ x, R i x) : ∃ l : List WyC, l.length = n ∧ ∀ i (hi : i < l.length), R i l[i] := by
  induction n with
  | zero => exact ⟨[], rfl, fun i hi => by cases hi⟩
  | succ n ih =>
    obtain ⟨l, hl, hr⟩ := ih fun i hi => h i (by omega)
    obtain ⟨x, hx⟩ := h n (by omega)
    refine ⟨l ++ [x], by simp [hl], fun i hi => ?_⟩
    by_cases hin : i < l.length
    · rw [List.getElem_append_left hin]; exact hr i hin
    · have e : i = n := by have : i < (l ++ [x]).length := hi; rw [List.length_append, List.length_singleton] at this; omega
      subst e
      rw [List.getElem_append_right (by omega)]
      simp only [hl, Nat.sub_self, List.getElem_cons_zero]
      exact hx
theorem reads_of_w {w : World} {A : Option Addr} {ls : List (List Int)} (h : ReadsW w A ls) : ∃ L : List WyC, L.map (·.1) = ls ∧ Reads w w.heap.size 1 A L.length (L.map cw) ∧ ∀ x ∈ L, ReadsI w x.2.1 x.1 := by
  cases ls with
  | nil => exact ⟨[], rfl, ⟨rfl, fun hn => absurd hn (by simp)⟩, fun x hx => by cases hx⟩
  | cons y t =>
    obtain ⟨ad, rfl, hc⟩ := h (by simp)
    obtain ⟨L, hL, hr⟩ := choose_w (R := fun i (x : WyC) => x.1 = (y :: t).getD i [] ∧ w.cell? (ad.add i) = some (cw x) ∧ ReadsI w x.2.1 x.1) (y :: t).length (fun i hi => by
      obtain ⟨B, k, h1, h2⟩ := hc i hi
      exact ⟨(_, B, k), rfl, h1, h2⟩)
    refine ⟨L, ?_, ⟨by simp, fun hn => ⟨ad, rfl, ?_, fun j u hu => ?_⟩⟩, fun x hx => ?_⟩
    · refine List.ext_getElem (by rw [List.length_map, hL]) fun i h1 h2 => ?_
      rw [List.getElem_map, (hr i (by omega)).1, List.getD_eq_getElem?_getD, List.getElem?_eq_getElem h2]
      rfl
    · have := World.block_lt_of_cell? _ _ (hr 0 hn).2.1
      rw [block_of_add] at this
      exact this
    · have hj : j < L.length := by have := (List.getElem?_eq_some_iff.1 hu).1; simpa using this
      rw [List.getElem?_map, List.getElem?_eq_getElem hj] at hu
      injection hu with hu
      rw [← hu]; exact (hr j hj).2.1
    · obtain ⟨i, hi, rfl⟩ := List.getElem_of_mem hx
      exact (hr i hi).2.2
theorem readsW_of {w : World} {B : Nat} {A : Option Addr} {L : List WyC} (h : Reads w B 1 A L.length (L.map cw)) (he : ∀ x ∈ L, ReadsI w x.2.1 x.1) : ReadsW w A (L.map (·.1)) := by
  intro hn
  rw [List.length_map] at hn
  obtain ⟨ad, rfl, _, hc⟩ := h.2 hn
  refine ⟨ad, rfl, fun j hj => ?_⟩
  rw [List.length_map] at hj
  have e : (L.map (·.1)).getD j [] = L[j].1 := by simp [List.getD_eq_getElem?_getD, hj]
  rw [e]
  exact ⟨L[j].2.1, L[j].2.2, hc j _ (by rw [List.getElem?_map, List.getElem?_eq_getElem hj]; rfl), he _ (List.getElem_mem hj)⟩
def OwnsW (w : World) (base : Nat) (v : Value) (L : List WyC) : Prop := w.ownsRow base 22 1 v L.length (L.map cw)
theorem OwnsW.nil (w : World) (base : Nat) : OwnsW w base (.slice none 0 0) [] := ⟨rfl, .inl ⟨rfl, rfl⟩⟩
theorem OwnsW.below {w w' : World} {base : Nat} {v : Value} {L : List WyC} (h : OwnsW w base v L) (hb : Below w.heap.size w w') : OwnsW w' base v L :=
  World.ownsRow.kept h ⟨hb.os, hb.tape, hb.output, hb.size, fun i hi _ => hb.block i hi⟩ (row := none) (by cases v.ownBlock <;> simp)
theorem OwnsW.slice {w : World} {base : Nat} {v : Value} {L : List WyC} (h : OwnsW w base v L) (he : ∀ x ∈ L, ReadsI w x.2.1 x.1) : ∃ A c, v = .slice A (L.map (·.1)).length c ∧ ReadsW w A (L.map (·.1)) := by
  have hl : (L.map (·.1)).length = L.length := List.length_map ..
  rcases h.2 with ⟨rfl, h0⟩ | ⟨g, cap, cur, rfl, _⟩
  · exact ⟨none, 0, by rw [hl, h0], fun hn => by omega⟩
  · exact ⟨_, cap, by rw [hl], readsW_of (Reads.of_own h) he⟩
theorem way_info : (Try.prog.info? 22).map (fun i => (i.zero, i.size, i.bytes)) = some (some (.slice none 0 0), 1, 24) := by kernel_rfl
theorem app_w {ops : Array Oper} {rest : List Oper} {o : Oper} {a : Act} {Q : Exit → Act → World → Prop} {w0 W : World} (hgd : o.guard = none) (s x : Operand)
    (ho : o.op = .call { callee := .builtin .append, args := #[s, x], argTypes := #[23, 23] })
    (base : Nat) (v : Value) (L M : List WyC) (A : Option Addr) (c : Nat) (hs : a.eval s = v) (hx : a.eval x = .slice A M.length c)
    (hown : OwnsW W base v L) (hr : Reads W W.heap.size 1 A M.length (M.map cw)) (hb : Below base w0 W) (hB : base ≤ W.heap.size) (hn : L.length + M.length ≤ 100000)
    (h : ∀ v' w', OwnsW w' base v' (L ++ M) → Below base w0 w' → base ≤ w'.heap.size → W.grownBy w' v.ownBlock → wpList Try.prog ops Q rest (a.put o.dst v') w') :
    wpList Try.prog ops Q (o :: rest) a W := by
  obtain ⟨i0, hi, hz0, hz1, hz2⟩ := info_parts way_info
  refine wpList_append_any W hgd s x 23 ho base 22 i0 _ 1 24 Try.underlying23 hi hz0 hz1 hz2 rfl (by decide) v L.length (L.map cw) hs hown W.heap.size A M.length c (M.map cw) hx hr (cw_one M) ?_ ?_ hB ?_
  · unfold maxLen; omega
  · omega
  · intro v' w' h1 h2 _
    refine h v' w' (by unfold OwnsW; rw [List.length_append, List.map_append]; exact h1) (hb.grown h2 hB (base_of_own hown)) (Nat.le_trans hB h2.size) h2
theorem box_w (w : World) (x : WyC) (T : TypeId) : Reads (w.alloc (.cells #[cw x] T)) (w.alloc (.cells #[cw x] T)).heap.size 1 (some ⟨w.heap.size, 0, none⟩) [x].length ([x].map cw) := by
  refine ⟨rfl, fun _ => ⟨_, rfl, by simp, fun j u hu => ?_⟩⟩
  have : j = 0 := by have : j < 1 := (List.getElem?_eq_some_iff.1 hu).1; omega
  subst this
  injection hu with hu
  subst hu
  simp [Addr.add]

/-- With one way more the others stay in order. -/
theorem more_order {ls : List (List Int)} {more : List Int} {o p : Row} (ho : Mv 0 ls.length id o) (so : SortedT (ltW ls) 0 ls.length o) (hp : Mv 0 (ls.length + 1) id p) (sp : SortedT (ltW (ls ++ [more])) 0 (ls.length + 1) p) :
    ∃ t, t < ls.length + 1 ∧ p t = ls.length ∧ ∀ i, i < ls.length + 1 → (i < t → p i ≠ ls.length ∧ p i = o i ∧ i < ls.length) ∧ (t < i → p i ≠ ls.length ∧ p i = o (i - 1)) := by
  obtain ⟨t, _, ht, et⟩ := hp.to ls.length (Nat.zero_le _) (Nat.lt_succ_self _)
  have et' : p t = ls.length := et
  have inj : ∀ i j, i < ls.length + 1 → j < ls.length + 1 → p i = p j → i = j := fun i j hi hj e => by
    rcases Nat.lt_trichotomy i j with g | g | g
    · have := sp i j (Nat.zero_le _) g hj; rw [e] at this; exact (TT.irr (weak_ways _) this).elim
    · exact g
    · have := sp j i (Nat.zero_le _) g hi; rw [e] at this; exact (TT.irr (weak_ways _) this).elim
  have plt : ∀ i, i < ls.length + 1 → i ≠ t → p i < ls.length := fun i hi hne => by
    have h1 : p i < ls.length + 1 := hp.val (Nat.le_refl _) (fun _ h => h) i hi
    have h2 : p i ≠ ls.length := fun e => hne (inj i t hi ht (by rw [e, et']))
    omega
  have key : ∀ k, k < ls.length → (fun j => if j < t then p j else p (j + 1)) k = o k := by
    refine same_row (weak_ways ls) ?_ so ?_ ?_
    · intro k l _ hkl hl
      have conv : ∀ x y, x < ls.length → y < ls.length → TT (ltW (ls ++ [more])) x y → TT (ltW ls) x y := fun x y hx hy h => by
        have ex : (ls ++ [more]).getD x [] = ls.getD x [] := by simp only [List.getD_eq_getElem?_getD]; rw [List.getElem?_append_left hx]
        have ey : (ls ++ [more]).getD y [] = ls.getD y [] := by simp only [List.getD_eq_getElem?_getD]; rw [List.getElem?_append_left hy]
        unfold TT ltW at *
        rw [ex, ey] at h
        exact h
      show TT (ltW ls) (if k < t then p k else p (k + 1)) (if l < t then p l else p (l + 1))
      by_cases c1 : k < t <;> by_cases c2 : l < t
      · rw [if_pos c1, if_pos c2]; exact conv _ _ (plt k (by omega) (by omega)) (plt l (by omega) (by omega)) (sp k l (Nat.zero_le _) hkl (by omega))
      · rw [if_pos c1, if_neg c2]; exact conv _ _ (plt k (by omega) (by omega)) (plt (l + 1) (by omega) (by omega)) (sp k (l + 1) (Nat.zero_le _) (by omega) (by omega))
      · omega
      · rw [if_neg c1, if_neg c2]; exact conv _ _ (plt (k + 1) (by omega) (by omega)) (plt (l + 1) (by omega) (by omega)) (sp (k + 1) (l + 1) (Nat.zero_le _) (by omega) (by omega))
    · intro k hk
      have hv : (if k < t then p k else p (k + 1)) < ls.length := by
        by_cases c1 : k < t
        · rw [if_pos c1]; exact plt k (by omega) (by omega)
        · rw [if_neg c1]; exact plt (k + 1) (by omega) (by omega)
      obtain ⟨m, _, h1, h2⟩ := ho.to _ (Nat.zero_le _) hv
      exact ⟨m, h1, h2⟩
    · intro k hk
      have hv : o k < ls.length := ho.val (Nat.le_refl _) (fun _ h => h) k hk
      obtain ⟨m, _, h1, h2⟩ := hp.to (o k) (Nat.zero_le _) (Nat.lt_succ_of_lt hv)
      have h2' : p m = o k := h2
      have hmt : m ≠ t := fun e => by rw [e, et'] at h2'; omega
      by_cases c : m < t
      · exact ⟨m, by omega, by show (if m < t then p m else p (m + 1)) = _; rw [if_pos c]; exact h2'⟩
      · exact ⟨m - 1, by omega, by show (if m - 1 < t then p (m - 1) else p (m - 1 + 1)) = _; rw [if_neg (by omega), show m - 1 + 1 = m by omega]; exact h2'⟩
  refine ⟨t, ht, et', fun i hi => ⟨fun g => ?_, fun g => ?_⟩⟩
  · have := key i (by omega)
    have e2 : (fun j => if j < t then p j else p (j + 1)) i = p i := by show (if i < t then p i else p (i + 1)) = _; rw [if_pos g]
    rw [e2] at this
    have := plt i hi (by omega)
    exact ⟨by omega, by assumption, by omega⟩
  · have := key (i - 1) (by omega)
    have e2 : (fun j => if j < t then p j else p (j + 1)) (i - 1) = p i := by show (if i - 1 < t then p (i - 1) else p (i - 1 + 1)) = _; rw [if_neg (by omega), show i - 1 + 1 = i by omega]
    rw [e2] at this
    have := plt i hi (by omega)
    exact ⟨by omega, by assumption⟩
end Go.Proofs.Ytodninjcmfbfdaa
