/- Plain facts of symMerge: what stands behind its rotation, and how the two halves make a whole. -/
import Derived.Test.YtodninjcmfbfdaaM
namespace Go.Proofs.Ytodninjcmfbfdaa

theorem rotF_left (p : Row) (m e : Nat) : rotF p m m e = p := by
  funext k; unfold rotF
  by_cases h1 : m ≤ k ∧ k < m + (e - m)
  · rw [if_pos h1]; congr 1; omega
  · rw [if_neg h1, if_neg (by omega)]
theorem rotF_right (p : Row) (s m : Nat) : rotF p s m m = p := by
  funext k; unfold rotF
  rw [if_neg (by omega)]
  by_cases h1 : s + (m - m) ≤ k ∧ k < m
  · rw [if_pos h1]; congr 1; omega
  · rw [if_neg h1]
theorem Mv.val {lo hi N : Nat} {p q : Row} (h : Mv lo hi p q) (hN : hi ≤ N) (hv : ∀ j, j < N → p j < N) : ∀ j, j < N → q j < N := fun j hj => by
  by_cases g : lo ≤ j ∧ j < hi
  · obtain ⟨k, h1, h2, h3⟩ := h.frm j g.1 g.2
    rw [h3]; exact hv k (by omega)
  · rw [h.out j (by omega)]; exact hv j hj
section
variable {p : Row} {s m e : Nat}
theorem rot_lo {k : Nat} (h : k < s) : rotF p s m e k = p k := by unfold rotF; rw [if_neg (by omega), if_neg (by omega)]
theorem rot_hi {k : Nat} (h1 : s ≤ m) (h2 : m ≤ e) (h : e ≤ k) : rotF p s m e k = p k := by unfold rotF; rw [if_neg (by omega), if_neg (by omega)]
theorem rot_a {k : Nat} (h1 : s ≤ k) (h2 : k < s + (e - m)) : rotF p s m e k = p (k + (m - s)) := by unfold rotF; rw [if_pos ⟨h1, h2⟩]
theorem rot_b {k : Nat} (h1 : s + (e - m) ≤ k) (h2 : k < e) : rotF p s m e k = p (k - (e - m)) := by unfold rotF; rw [if_neg (by omega), if_pos ⟨h1, h2⟩]
end
theorem rot_mv {p : Row} {a b s m e : Nat} (h1 : a ≤ s) (h2 : s ≤ m) (h3 : m ≤ e) (h4 : e ≤ b) : Mv a b p (rotF p s m e) := by
  refine ⟨fun k hk => ?_, fun k g1 g2 => ?_, fun k g1 g2 => ?_⟩
  · rcases hk with hk | hk
    · exact rot_lo (by omega)
    · exact rot_hi h2 h3 (by omega)
  · by_cases c1 : k < s
    · exact ⟨k, g1, g2, rot_lo c1⟩
    · by_cases c2 : k < s + (e - m)
      · exact ⟨k + (m - s), by omega, by omega, rot_a (by omega) c2⟩
      · by_cases c3 : k < e
        · exact ⟨k - (e - m), by omega, by omega, rot_b (by omega) c3⟩
        · exact ⟨k, g1, g2, rot_hi h2 h3 (by omega)⟩
  · by_cases c1 : k < s
    · exact ⟨k, g1, g2, rot_lo c1⟩
    · by_cases c2 : k < m
      · exact ⟨k + (e - m), by omega, by omega, by rw [rot_b (by omega) (by omega)]; congr 1; omega⟩
      · by_cases c3 : k < e
        · exact ⟨k - (m - s), by omega, by omega, by rw [rot_a (by omega) (by omega)]; congr 1; omega⟩
        · exact ⟨k, g1, g2, rot_hi h2 h3 (by omega)⟩
/-- What stands behind the rotation. -/
structure Plan (lt : Nat → Nat → Bool) (a s mid e b : Nat) (p q : Row) : Prop where
  mv : Mv a b p q
  s1 : SortedT lt a s q
  s2 : SortedT lt s mid q
  s3 : SortedT lt mid e q
  s4 : SortedT lt e b q
  b1 : Below2 a s s mid q
  b2 : Below2 mid e e b q
  x : ∀ k l, a ≤ k → k < mid → mid ≤ l → l < b → TT lt (q k) (q l)
theorem plan_of {lt : Nat → Nat → Bool} (H : Weak lt) {a m b s mid e : Nat} {p : Row} (h1 : a ≤ s) (h2 : s ≤ m) (h3 : m ≤ e) (h4 : e ≤ b) (hmid : s + (e - m) = mid)
    (hl : SortedT lt a m p) (hr : SortedT lt m b p) (hb : Below2 a m m b p) (HL : s = a ∨ e = b ∨ TT lt (p (s - 1)) (p e)) (HR : e = m ∨ s = m ∨ TT lt (p (e - 1)) (p s)) :
    Plan lt a s mid e b p (rotF p s m e) := by
  have qa : ∀ k, s ≤ k → k < mid → rotF p s m e k = p (k + (m - s)) := fun k g1 g2 => rot_a g1 (by omega)
  have qb : ∀ k, mid ≤ k → k < e → rotF p s m e k = p (k - (e - m)) := fun k g1 g2 => rot_b (by omega) g2
  have ql : ∀ k, k < s → rotF p s m e k = p k := fun k g => rot_lo g
  have qh : ∀ k, e ≤ k → rotF p s m e k = p k := fun k g => rot_hi h2 h3 g
  have lx : ∀ x y, a ≤ x → x < s → e ≤ y → y < b → TT lt (p x) (p y) := fun x y g1 g2 g3 g4 => by
    rcases HL with h | h | h
    · omega
    · omega
    · have t1 : TT lt (p x) (p e) := by
        by_cases c : x = s - 1
        · rw [c]; exact h
        · exact TT.trans H (hl x (s - 1) g1 (by omega) (by omega)) h
      by_cases c : y = e
      · rw [c]; exact t1
      · exact TT.trans H t1 (hr e y h3 (by omega) g4)
  have rx : ∀ x y, m ≤ x → x < e → s ≤ y → y < m → TT lt (p x) (p y) := fun x y g1 g2 g3 g4 => by
    rcases HR with h | h | h
    · omega
    · omega
    · have t1 : TT lt (p x) (p s) := by
        by_cases c : x = e - 1
        · rw [c]; exact h
        · exact TT.trans H (hr x (e - 1) g1 (by omega) (by omega)) h
      by_cases c : y = s
      · rw [c]; exact t1
      · exact TT.trans H t1 (hl s y h1 (by omega) g4)
  refine ⟨rot_mv h1 h2 h3 h4, ?_, ?_, ?_, ?_, ?_, ?_, ?_⟩
  · intro k l g1 g2 g3; rw [ql k (by omega), ql l g3]; exact hl k l g1 g2 (by omega)
  · intro k l g1 g2 g3; rw [qa k g1 (by omega), qa l (by omega) g3]; exact hr _ _ (by omega) (by omega) (by omega)
  · intro k l g1 g2 g3; rw [qb k g1 (by omega), qb l (by omega) g3]; exact hl _ _ (by omega) (by omega) (by omega)
  · intro k l g1 g2 g3; rw [qh k g1, qh l (by omega)]; exact hr _ _ (by omega) g2 g3
  · intro k l g1 g2 g3 g4; rw [ql k g2, qa l g3 g4]; exact hb _ _ g1 (by omega) (by omega) (by omega)
  · intro k l g1 g2 g3 g4; rw [qb k g1 g2, qh l g3]; exact hb _ _ (by omega) (by omega) (by omega) g4
  · intro k l g1 g2 g3 g4
    by_cases c1 : k < s
    · rw [ql k c1]
      by_cases c2 : l < e
      · rw [qb l g3 c2]; exact hl _ _ g1 (by omega) (by omega)
      · rw [qh l (by omega)]; exact lx _ _ g1 c1 (by omega) g4
    · rw [qa k (by omega) g2]
      by_cases c2 : l < e
      · rw [qb l g3 c2]; exact rx _ _ (by omega) (by omega) (by omega) (by omega)
      · rw [qh l (by omega)]; exact hr _ _ (by omega) (by omega) g4
/-- The halves, each in order, are a whole in order. -/
theorem whole_of {lt : Nat → Nat → Bool} {a mid b : Nat} {q q1 q2 : Row} (m1 : Mv a mid q q1) (m2 : Mv mid b q1 q2) (s1 : SortedT lt a mid q1) (s2 : SortedT lt mid b q2)
    (x : ∀ k l, a ≤ k → k < mid → mid ≤ l → l < b → TT lt (q k) (q l)) : SortedT lt a b q2 := by
  intro k l g1 g2 g3
  by_cases c1 : l < mid
  · rw [m2.out k (by omega), m2.out l (by omega)]; exact s1 k l g1 g2 c1
  · by_cases c2 : k < mid
    · obtain ⟨k', e1, e2, e3⟩ := m1.frm k g1 c2
      obtain ⟨l', f1, f2, f3⟩ := m2.frm l (by omega) g3
      rw [m2.out k (by omega), e3, f3, m1.out l' (by omega)]
      exact x k' l' e1 e2 f1 f2
    · exact s2 k l (by omega) g2 g3
end Go.Proofs.Ytodninjcmfbfdaa
