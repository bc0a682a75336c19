/- Plain facts of stable sorting: rows as functions of the place, a strict order of places, moves. -/
import Derived.Test.YtodninjcmfbfdaaC
namespace Go.Proofs.Ytodninjcmfbfdaa

/-- What a comparison must be: a strict weak order. -/
structure Weak (lt : Nat → Nat → Bool) : Prop where
  irr : ∀ x, lt x x = false
  tr : ∀ x y z, lt x y = true → lt y z = true → lt x z = true
  neg : ∀ x y z, lt x y = false → lt y z = false → lt x z = false
def TT (lt : Nat → Nat → Bool) (x y : Nat) : Prop := lt x y = true ∨ (lt y x = false ∧ x < y)
section
variable {lt : Nat → Nat → Bool} (H : Weak lt)
include H
theorem Weak.asym {x y : Nat} (h : lt x y = true) : lt y x = false := by
  cases h2 : lt y x with
  | false => rfl
  | true => have := H.tr _ _ _ h h2; rw [H.irr] at this; cases this
theorem TT.trans {x y z : Nat} (h1 : TT lt x y) (h2 : TT lt y z) : TT lt x z := by
  rcases h1 with h1 | ⟨h1, g1⟩ <;> rcases h2 with h2 | ⟨h2, g2⟩
  · exact Or.inl (H.tr _ _ _ h1 h2)
  · refine Or.inl ?_
    cases h : lt x z with
    | true => rfl
    | false => have := H.neg _ _ _ h h2; rw [h1] at this; cases this
  · refine Or.inl ?_
    cases h : lt x z with
    | true => rfl
    | false => have := H.neg _ _ _ h1 h; rw [h2] at this; cases this
  · exact Or.inr ⟨H.neg _ _ _ h2 h1, by omega⟩
theorem TT.irr {x : Nat} (h : TT lt x x) : False := by
  rcases h with h | ⟨_, h⟩
  · rw [H.irr] at h; cases h
  · omega
theorem TT.asym {x y : Nat} (h : TT lt x y) (h2 : TT lt y x) : False := TT.irr H (TT.trans H h h2)
end
theorem TT.total {lt : Nat → Nat → Bool} {x y : Nat} (h : x ≠ y) : TT lt x y ∨ TT lt y x := by
  cases h1 : lt x y with
  | true => exact Or.inl (Or.inl h1)
  | false => cases h2 : lt y x with
    | true => exact Or.inr (Or.inl h2)
    | false => rcases Nat.lt_or_ge x y with g | g
               · exact Or.inl (Or.inr ⟨h2, g⟩)
               · exact Or.inr (Or.inr ⟨h1, by omega⟩)
theorem TT.of_lt {lt : Nat → Nat → Bool} {x y : Nat} (h : lt x y = true) : TT lt x y := Or.inl h
/-- The later one is not less: it stands behind. -/
theorem TT.of_not {lt : Nat → Nat → Bool} {x y : Nat} (h : lt x y = false) (g : y < x) : TT lt y x := Or.inr ⟨h, g⟩

abbrev Row := Nat → Nat
def sw (p : Row) (i j : Nat) : Row := fun k => if k = i then p j else if k = j then p i else p k
/-- The row's part from lo to hi is turned about, and nothing else. -/
structure Mv (lo hi : Nat) (p p' : Row) : Prop where
  out : ∀ k, (k < lo ∨ hi ≤ k) → p' k = p k
  frm : ∀ k, lo ≤ k → k < hi → ∃ k', lo ≤ k' ∧ k' < hi ∧ p' k = p k'
  to : ∀ k, lo ≤ k → k < hi → ∃ k', lo ≤ k' ∧ k' < hi ∧ p' k' = p k
theorem Mv.refl (lo hi : Nat) (p : Row) : Mv lo hi p p := ⟨fun _ _ => rfl, fun k h1 h2 => ⟨k, h1, h2, rfl⟩, fun k h1 h2 => ⟨k, h1, h2, rfl⟩⟩
theorem Mv.trans {lo hi : Nat} {p q r : Row} (h : Mv lo hi p q) (g : Mv lo hi q r) : Mv lo hi p r :=
  ⟨fun k hk => (g.out k hk).trans (h.out k hk),
   fun k h1 h2 => by
    obtain ⟨k', a1, a2, a3⟩ := g.frm k h1 h2
    obtain ⟨k2, b1, b2, b3⟩ := h.frm k' a1 a2
    exact ⟨k2, b1, b2, a3.trans b3⟩,
   fun k h1 h2 => by
    obtain ⟨k', a1, a2, a3⟩ := h.to k h1 h2
    obtain ⟨k2, b1, b2, b3⟩ := g.to k' a1 a2
    exact ⟨k2, b1, b2, b3.trans a3⟩⟩
theorem Mv.wide {lo hi lo2 hi2 : Nat} {p q : Row} (h : Mv lo hi p q) (h1 : lo2 ≤ lo) (h2 : hi ≤ hi2) : Mv lo2 hi2 p q :=
  ⟨fun k hk => h.out k (by omega),
   fun k g1 g2 => by
    by_cases hk : lo ≤ k ∧ k < hi
    · obtain ⟨k', a1, a2, a3⟩ := h.frm k hk.1 hk.2
      exact ⟨k', by omega, by omega, a3⟩
    · exact ⟨k, g1, g2, h.out k (by omega)⟩,
   fun k g1 g2 => by
    by_cases hk : lo ≤ k ∧ k < hi
    · obtain ⟨k', a1, a2, a3⟩ := h.to k hk.1 hk.2
      exact ⟨k', by omega, by omega, a3⟩
    · exact ⟨k, g1, g2, h.out k (by omega)⟩⟩
def SortedT (lt : Nat → Nat → Bool) (a b : Nat) (p : Row) : Prop := ∀ k l, a ≤ k → k < l → l < b → TT lt (p k) (p l)
def Below2 (a b c d : Nat) (p : Row) : Prop := ∀ k l, a ≤ k → k < b → c ≤ l → l < d → p k < p l

/-- The one at i moved down to j. -/
def mvd (q : Row) (i j : Nat) : Row := fun k => if k = j then q i else if j < k ∧ k ≤ i then q (k - 1) else q k
theorem mvd_self (q : Row) (i : Nat) : mvd q i i = q := by
  funext k; unfold mvd
  by_cases h : k = i
  · rw [if_pos h, h]
  · rw [if_neg h, if_neg (by omega)]
theorem mvd_step (q : Row) (i j : Nat) (h : j + 1 ≤ i) : sw (mvd q i (j + 1)) (j + 1) j = mvd q i j := by
  funext k; unfold sw mvd
  by_cases h1 : k = j + 1
  · subst h1; simp; rw [if_neg (by omega), if_pos h]
  · by_cases h2 : k = j
    · subst h2; simp
    · simp only [h1, h2, if_false]
      by_cases h3 : j + 1 < k ∧ k ≤ i
      · rw [if_pos h3, if_pos (by omega)]
      · rw [if_neg h3, if_neg (by omega)]
theorem mvd_mv {q : Row} {a i j : Nat} (h1 : a ≤ j) (h2 : j ≤ i) : Mv a (i + 1) q (mvd q i j) := by
  refine ⟨fun k hk => ?_, fun k g1 g2 => ?_, fun k g1 g2 => ?_⟩
  · unfold mvd; rw [if_neg (by omega), if_neg (by omega)]
  · unfold mvd
    by_cases e1 : k = j
    · exact ⟨i, by omega, by omega, by rw [if_pos e1]⟩
    · by_cases e2 : j < k ∧ k ≤ i
      · exact ⟨k - 1, by omega, by omega, by rw [if_neg e1, if_pos e2]⟩
      · exact ⟨k, by omega, by omega, by rw [if_neg e1, if_neg e2]⟩
  · unfold mvd
    by_cases e1 : k = i
    · exact ⟨j, by omega, by omega, by rw [if_pos rfl, e1]⟩
    · by_cases e2 : j ≤ k
      · exact ⟨k + 1, by omega, by omega, by rw [if_neg (by omega), if_pos (by omega)]; rfl⟩
      · exact ⟨k, by omega, by omega, by rw [if_neg (by omega), if_neg (by omega)]⟩
theorem mvd_sorted {lt : Nat → Nat → Bool} {q : Row} {a i j : Nat} (h1 : a ≤ j) (h2 : j ≤ i) (hs : SortedT lt a i q) (hg : ∀ k, j ≤ k → k < i → TT lt (q i) (q k)) (hl : ∀ k, a ≤ k → k < j → TT lt (q k) (q i)) :
    SortedT lt a (i + 1) (mvd q i j) := by
  intro k l hk hkl hl2
  unfold mvd
  by_cases e1 : k = j
  · rw [if_pos e1, if_neg (by omega), if_pos (by omega)]
    exact hg _ (by omega) (by omega)
  · rw [if_neg e1]
    by_cases e2 : j < k
    · rw [if_pos (by omega), if_neg (by omega), if_pos (by omega)]
      exact hs _ _ (by omega) (by omega) (by omega)
    · rw [if_neg (by omega)]
      by_cases e3 : l = j
      · rw [if_pos e3]; exact hl _ hk (by omega)
      · rw [if_neg e3]
        by_cases e4 : j < l
        · rw [if_pos (by omega)]; exact hs _ _ (by omega) (by omega) (by omega)
        · rw [if_neg (by omega)]; exact hs _ _ (by omega) (by omega) (by omega)
theorem sorted_left {lt : Nat → Nat → Bool} (H : Weak lt) {q : Row} {a i x j : Nat} (hs : SortedT lt a i q) (hj : j ≤ i) (h : j = a ∨ TT lt (q (j - 1)) x) : ∀ k, a ≤ k → k < j → TT lt (q k) x := fun k h1 h2 => by
  rcases h with h | h
  · omega
  · by_cases e : k = j - 1
    · rw [e]; exact h
    · exact TT.trans H (hs k (j - 1) h1 (by omega) (by omega)) h

/-- Two rows of the same places in one strict order are one. -/
theorem same_row {lt : Nat → Nat → Bool} (H : Weak lt) {n : Nat} {p o : Row} (hp : SortedT lt 0 n p) (ho : SortedT lt 0 n o) (h1 : ∀ k, k < n → ∃ m, m < n ∧ o m = p k) (h2 : ∀ k, k < n → ∃ m, m < n ∧ p m = o k) : ∀ k, k < n → p k = o k := by
  intro k
  induction k using Nat.strongRecOn with
  | _ k ih =>
    intro hk
    obtain ⟨m, hm, em⟩ := h1 k hk
    obtain ⟨m', hm', em'⟩ := h2 k hk
    rcases Nat.lt_trichotomy m k with g | g | g
    · exfalso
      have := hp m k (Nat.zero_le _) g hk
      rw [ih m g hm, em] at this
      exact TT.irr H this
    · rw [← em, g]
    · have t1 := ho k m (Nat.zero_le _) g hm
      rw [em] at t1
      rcases Nat.lt_trichotomy m' k with g' | g' | g'
      · exfalso
        have := ho m' k (Nat.zero_le _) g' hk
        rw [← ih m' g' hm', em'] at this
        exact TT.irr H this
      · rw [← em', g']
      · exfalso
        have t2 := hp k m' (Nat.zero_le _) g' hm'
        rw [em'] at t2
        exact TT.asym H t1 t2

/-! ### ways -/
theorem cI_zero {x y : Int} : cI x y = 0 ↔ x = y := ⟨fun h => Classical.byContradiction fun g => cI_ne g h, fun h => by subst h; simp [cI]⟩
/-- Is one way before another: the shorter one, else by the first place that differs. -/
def bef : List Int → List Int → Bool
  | [], [] => false
  | [], _ :: _ => true
  | _ :: _, [] => false
  | x :: a, y :: b => if x = y then bef a b else decide (x < y)
theorem lex_bef : ∀ a b : List Int, decide (lexC a b < 0) = bef a b
  | [], [] => rfl
  | [], _ :: _ => rfl
  | _ :: _, [] => rfl
  | x :: a, y :: b => by
    rw [lexC, bef]
    by_cases h : x = y
    · rw [if_pos (cI_zero.2 h), if_pos h, lex_bef a b]
    · rw [if_neg (fun g => h (cI_zero.1 g)), if_neg h, cI_lt]
theorem befB_eq (a b : List Int) : befB a b = if a.length < b.length then true else if b.length < a.length then false else bef a b := by
  unfold befB cmpW cL or2
  by_cases h1 : a.length < b.length
  · simp [h1]
  · by_cases h2 : b.length < a.length
    · simp [h1, h2]
    · simp only [h1, h2, if_false, if_true, lex_bef]
theorem rbefB_eq (a b : List Int) : rbefB a b = befB a b := by
  rw [befB_eq, rbefB]
  by_cases h1 : a.length < b.length
  · rw [if_pos (by omega)]; simp [h1]
  · by_cases h2 : b.length < a.length
    · rw [if_pos (by omega)]; simp [h1, h2]
    · rw [if_neg (by omega), lex_bef]; simp [h1, h2]
theorem bef_irr : ∀ a : List Int, bef a a = false
  | [] => rfl
  | x :: a => by rw [bef, if_pos rfl, bef_irr a]
theorem bef_tr : ∀ a b c : List Int, bef a b = true → bef b c = true → bef a c = true
  | [], [], _, h, _ => by simp [bef] at h
  | _, [], [], _, h => by simp [bef] at h
  | _, _ :: _, [], _, h => by simp [bef] at h
  | _ :: _, [], _ :: _, h, _ => by simp [bef] at h
  | [], _ :: _, _ :: _, _, _ => rfl
  | x :: a, y :: b, z :: c, h, g => by
    rw [bef] at h g ⊢
    by_cases h1 : x = y
    · by_cases h2 : y = z
      · rw [if_pos h1] at h; rw [if_pos h2] at g; rw [if_pos (h1.trans h2)]; exact bef_tr a b c h g
      · rw [if_neg h2] at g; rw [if_neg (by rw [h1]; exact h2), h1]; exact g
    · rw [if_neg h1] at h
      have h' := of_decide_eq_true h
      by_cases h2 : y = z
      · rw [← h2, if_neg h1]; exact h
      · rw [if_neg h2] at g
        have g' := of_decide_eq_true g
        rw [if_neg (by omega)]; exact decide_eq_true (by omega)
theorem bef_total : ∀ a b : List Int, bef a b = false → bef b a = false → a = b
  | [], [], _, _ => rfl
  | [], _ :: _, h, _ => by simp [bef] at h
  | _ :: _, [], _, h => by simp [bef] at h
  | x :: a, y :: b, h, g => by
    rw [bef] at h g
    by_cases h1 : x = y
    · rw [if_pos h1] at h; rw [if_pos h1.symm] at g; rw [h1, bef_total a b h g]
    · rw [if_neg h1] at h; rw [if_neg (fun e => h1 e.symm)] at g
      have h' := of_decide_eq_false h
      have g' := of_decide_eq_false g
      omega
theorem befB_irr (a : List Int) : befB a a = false := by rw [befB_eq]; simp [bef_irr]
theorem befB_tr (a b c : List Int) (h : befB a b = true) (g : befB b c = true) : befB a c = true := by
  rw [befB_eq] at h g ⊢
  by_cases h1 : a.length < b.length <;> by_cases h2 : b.length < c.length
  · rw [if_pos (by omega)]
  · rw [if_neg h2] at g
    by_cases h3 : c.length < b.length
    · rw [if_pos h3] at g; cases g
    · rw [if_pos (by omega)]
  · rw [if_neg h1] at h
    by_cases h3 : b.length < a.length
    · rw [if_pos h3] at h; cases h
    · rw [if_pos (by omega)]
  · rw [if_neg h1] at h; rw [if_neg h2] at g
    by_cases h3 : b.length < a.length
    · rw [if_pos h3] at h; cases h
    · by_cases h4 : c.length < b.length
      · rw [if_pos h4] at g; cases g
      · rw [if_neg h3] at h; rw [if_neg h4] at g; rw [if_neg (by omega), if_neg (by omega)]; exact bef_tr a b c h g
theorem befB_total (a b : List Int) (h : befB a b = false) (g : befB b a = false) : a = b := by
  rw [befB_eq] at h g
  by_cases h1 : a.length < b.length
  · rw [if_pos h1] at h; cases h
  · by_cases h2 : b.length < a.length
    · rw [if_pos h2] at g; cases g
    · rw [if_neg h1, if_neg h2] at h; rw [if_neg h2, if_neg h1] at g; exact bef_total a b h g
theorem befB_asym (a b : List Int) (h : befB a b = true) : befB b a = false := by
  cases g : befB b a with
  | false => rfl
  | true => have := befB_tr _ _ _ h g; rw [befB_irr] at this; cases this
def ltW (ls : List (List Int)) (x y : Nat) : Bool := befB (ls.getD x []) (ls.getD y [])
theorem weak_ways (ls : List (List Int)) : Weak (ltW ls) where
  irr := fun x => befB_irr _
  tr := fun x y z => befB_tr _ _ _
  neg := fun x y z h g => by
    unfold ltW at *
    cases e : befB (ls.getD x []) (ls.getD z []) with
    | false => rfl
    | true =>
      exfalso
      cases e2 : befB (ls.getD y []) (ls.getD x []) with
      | true => have := befB_tr _ _ _ e2 e; rw [g] at this; cases this
      | false =>
        have := befB_total _ _ h e2
        rw [this, g] at e
        cases e
end Go.Proofs.Ytodninjcmfbfdaa
