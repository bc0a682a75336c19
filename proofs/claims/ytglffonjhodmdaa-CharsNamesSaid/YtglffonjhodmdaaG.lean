/- The walk of CharsTrim: true for every three strings. -/
import Derived.Test.YtglffonjhodmdaaE
namespace Go.Proofs.Ytglffonjhodmdaa
open Go.RowKit

theorem ltrim_all {l : List UInt8} (h : l.all spU = true) : ltrim l = [] := by
  induction l with
  | nil => rfl
  | cons c t ih => simp only [List.all_cons, Bool.and_eq_true] at h; rw [ltrim_cons h.1]; exact ih h.2
theorem ltrim_app {l m : List UInt8} (h : l.all spU = true) : ltrim (l ++ m) = ltrim m := by
  induction l with
  | nil => rfl
  | cons c t ih => simp only [List.all_cons, Bool.and_eq_true] at h; rw [List.cons_append, ltrim_cons h.1]; exact ih h.2
theorem rtrim_app {l m : List UInt8} (h : m.all spU = true) : rtrim (l ++ m) = rtrim l := by
  unfold rtrim
  rw [List.reverse_append]
  have h2 : m.reverse.all spU = true := by simpa using h
  have := ltrim_app (l := m.reverse) (m := l.reverse) h2
  unfold ltrim at this
  rw [this]
theorem ltrim_some {l m : List UInt8} (h : ltrim l ≠ []) : ltrim (l ++ m) = ltrim l ++ m := by
  induction l with
  | nil => exact absurd rfl h
  | cons c t ih =>
    rcases Bool.eq_false_or_eq_true (spI (c.toNat : Int)) with h1 | h1
    · rw [ltrim_cons h1] at h ⊢
      rw [List.cons_append, ltrim_cons h1]
      exact ih h
    · rw [List.cons_append, ltrim_stop h1, ltrim_stop h1]; rfl
theorem ltrim_nil {l : List UInt8} (h : ltrim l = []) : l.all spU = true := by
  induction l with
  | nil => rfl
  | cons c t ih =>
    rcases Bool.eq_false_or_eq_true (spI (c.toNat : Int)) with h1 | h1
    · rw [ltrim_cons h1] at h
      simp only [List.all_cons, Bool.and_eq_true]
      exact ⟨h1, ih h⟩
    · rw [ltrim_stop h1] at h; cases h
theorem rtrim_nil {l : List UInt8} (h : rtrim l = []) : l.all spU = true := by
  unfold rtrim at h
  have := ltrim_nil (l := l.reverse) (by rw [List.reverse_eq_nil_iff] at h; exact h)
  simpa using this
theorem all_sub {l : List UInt8} (h : (ltrim l).all spU = true) : ltrim l = [] := by
  cases e : ltrim l with
  | nil => rfl
  | cons c t =>
    rw [e] at h
    simp only [List.all_cons, Bool.and_eq_true] at h
    induction l with
    | nil => cases e
    | cons d r ih =>
      rcases Bool.eq_false_or_eq_true (spI (d.toNat : Int)) with h1 | h1
      · rw [ltrim_cons h1] at e; exact ih e
      · rw [ltrim_stop h1] at e; injection e with e1 _; subst e1; exact absurd h.1 (by simp [spU, h1])
theorem trimL_nil {l : List UInt8} (h : trimL l = []) : l.all spU = true := ltrim_nil (all_sub (rtrim_nil h))
theorem trimL_all {l : List UInt8} (h : l.all spU = true) : trimL l = [] := by unfold trimL; rw [ltrim_all h]; rfl
theorem trimL_about {a l b : List UInt8} (ha : a.all spU = true) (hb : b.all spU = true) : trimL (a ++ l ++ b) = trimL l := by
  rw [List.append_assoc]
  unfold trimL
  rw [ltrim_app ha]
  by_cases h : ltrim l = []
  · have := ltrim_nil h
    rw [ltrim_app this, ltrim_all hb, h]
  · rw [ltrim_some h, rtrim_app hb]
theorem ltrim_shape (l : List UInt8) : ltrim l = [] ∨ ∃ c t, ltrim l = c :: t ∧ spI (c.toNat : Int) = false := by
  induction l with
  | nil => exact .inl rfl
  | cons d r ih =>
    rcases Bool.eq_false_or_eq_true (spI (d.toNat : Int)) with h1 | h1
    · rw [ltrim_cons h1]; exact ih
    · rw [ltrim_stop h1]; exact .inr ⟨d, r, rfl, h1⟩
theorem rtrim_shape (l : List UInt8) : rtrim l = [] ∨ ∃ t c, rtrim l = t ++ [c] ∧ spI (c.toNat : Int) = false := by
  rcases ltrim_shape l.reverse with h | ⟨c, t, h, h1⟩
  · left; unfold rtrim; unfold ltrim at h; rw [h]; rfl
  · right; refine ⟨t.reverse, c, ?_, h1⟩; unfold rtrim; unfold ltrim at h; rw [h]; simp
theorem rtrim_keep {c : UInt8} {t : List UInt8} (h : spI (c.toNat : Int) = false) : ∃ u, rtrim (c :: t) = c :: u := by
  have key : ∀ (n : Nat) (t : List UInt8), t.length = n → ∃ u, rtrim (c :: t) = c :: u := by
    intro n
    induction n with
    | zero =>
      intro t ht
      obtain rfl := List.eq_nil_of_length_eq_zero ht
      exact ⟨[], by have := rtrim_stop (t := []) h; simpa using this⟩
    | succ n ih =>
      intro t ht
      obtain ⟨u, d, rfl⟩ : ∃ u d, t = u ++ [d] := ⟨t.dropLast, t.getLast (by intro e; rw [e] at ht; simp at ht), (List.dropLast_concat_getLast _).symm⟩
      have hu : u.length = n := by simpa using ht
      rcases Bool.eq_false_or_eq_true (spI (d.toNat : Int)) with h1 | h1
      · have := rtrim_snoc (t := c :: u) h1
        rw [List.cons_append] at this
        rw [this]; exact ih u hu
      · have := rtrim_stop (t := c :: u) h1
        rw [List.cons_append] at this
        exact ⟨_, this⟩
  exact key _ t rfl
theorem trimL_shape (l : List UInt8) : trimL l = [] ∨ (∃ c t, trimL l = c :: t ∧ spI (c.toNat : Int) = false) ∧ (∃ t c, trimL l = t ++ [c] ∧ spI (c.toNat : Int) = false) := by
  rcases ltrim_shape l with h | ⟨c, t, h, h1⟩
  · left; unfold trimL; rw [h]; rfl
  · right
    obtain ⟨u, hu⟩ := rtrim_keep (t := t) h1
    have e : trimL l = c :: u := by unfold trimL; rw [h, hu]
    refine ⟨⟨c, u, e, h1⟩, ?_⟩
    rcases rtrim_shape (ltrim l) with h2 | h2
    · exfalso; unfold trimL at e; rw [h2] at e; cases e
    · exact h2
theorem trimL_twice (l : List UInt8) : trimL (trimL l) = trimL l := by
  rcases trimL_shape l with h | ⟨⟨c, t, h, h1⟩, ⟨u, d, h2, h3⟩⟩
  · rw [h]; rfl
  · rw [show trimL (trimL l) = rtrim (ltrim (trimL l)) from rfl, h, ltrim_stop h1, ← h, h2, rtrim_stop h3]

def tr (s : ByteArray) : ByteArray := ofL (trimL (LL s))
theorem LL_tr (s : ByteArray) : LL (tr s) = trimL (LL s) := LL_ofL _
theorem trim_tr (s : ByteArray) (hs : s.size ≤ 1000000) (w : World) : Calls Try.prog 9 #[.string s] w fun e w' => e = .returned (.string (tr s)) ∧ w' = w := trim_any s hs w
theorem ltrim_len : ∀ l : List UInt8, (ltrim l).length ≤ l.length
  | [] => Nat.le_refl _
  | c :: t => by
    rcases Bool.eq_false_or_eq_true (spI (c.toNat : Int)) with h1 | h1
    · rw [ltrim_cons h1]; have := ltrim_len t; simp; omega
    · rw [ltrim_stop h1]; exact Nat.le_refl _
theorem rtrim_len (l : List UInt8) : (rtrim l).length ≤ l.length := by
  unfold rtrim
  have := ltrim_len l.reverse
  unfold ltrim at this
  simpa using this
theorem tr_size (s : ByteArray) : (tr s).size ≤ s.size := by
  rw [← LL_len, ← LL_len, LL_tr]
  exact Nat.le_trans (rtrim_len _) (ltrim_len _)
theorem tr_tr (s : ByteArray) : tr (tr s) = tr s := LL_ext (by rw [LL_tr, LL_tr, trimL_twice])
theorem LL_app (a b : ByteArray) : LL (a ++ b) = LL a ++ LL b := by simp [LL]
theorem empty_of {t : ByteArray} (h : LL t = []) : t.toList = [] := by rw [ByteArray.toList_eq]; exact h

theorem nil_tr {a : ByteArray} (h : (tr a).toList = []) : (LL a).all spU = true := trimL_nil (by rw [← LL_tr]; rw [ByteArray.toList_eq] at h; exact h)
theorem tr_about {a s b : ByteArray} (ha : (tr a).toList = []) (hb : (tr b).toList = []) : tr (a ++ s ++ b) = tr s :=
  LL_ext (by rw [LL_tr, LL_tr, LL_app, LL_app, trimL_about (nil_tr ha) (nil_tr hb)])
theorem tr_shape (s : ByteArray) : (tr s).toList = [] ∨ (¬ (tr s).toList = [] ∧ (tr s).toList.isEmpty = false ∧ ∃ h : 0 < (tr s).size, spI ((tr s)[0].toNat : Int) = false ∧ spI ((tr s)[(tr s).size - 1].toNat : Int) = false) := by
  rcases trimL_shape (LL s) with h | ⟨⟨c, t, h, h1⟩, ⟨u, d, h2, h3⟩⟩
  · left; rw [ByteArray.toList_eq]; rw [← LL_tr] at h; exact h
  · right
    rw [← LL_tr] at h h2
    have hp : 0 < (tr s).size := by rw [← LL_len, h]; simp
    have hn := nil_not hp
    refine ⟨hn.1.1, by simpa using hn.1.1, hp, ?_, ?_⟩
    · rw [LL_head hp] at h; injection h with e _; rw [e]; exact h1
    · rw [LL_last hp] at h2
      have := List.append_inj' h2 rfl
      injection this.2 with e _
      rw [e]; exact h3
set_option maxHeartbeats 1000000 in
set_option maxRecDepth 100000 in
theorem ctrim_any (s a b : ByteArray) (w0 : s.size ≤ maxLen) (w1 : a.size ≤ maxLen) (w2 : b.size ≤ maxLen) (w : World) :
    Calls Try.prog 3 #[.string s, .string a, .string b] w fun e w' => e = .returned (.bool true) ∧ Below w.heap.size w w' := by
  unfold maxLen at w0 w1 w2
  by_cases h1 : 500 < s.size
  · have h1' : 500 < (s.size : Int) := by omega
    go_enter Try.func3, Try.ntmps3
    go_wp2_with (go_at_call 8; refine (awake_any _).mono ?_; rintro e w2 ⟨rfl, hb2⟩)
    go_ret
    exact ⟨rfl, hb2⟩
  by_cases h2 : 50 < a.size
  · have h2' : 50 < (a.size : Int) := by omega
    have h1' : (s.size : Int) ≤ 500 := by omega
    go_enter Try.func3, Try.ntmps3
    go_wp2_with (go_at_call 8; refine (awake_any _).mono ?_; rintro e w2 ⟨rfl, hb2⟩)
    go_ret
    exact ⟨rfl, hb2⟩
  by_cases h3 : 50 < b.size
  · have h3' : 50 < (b.size : Int) := by omega
    have h2' : (a.size : Int) ≤ 50 := by omega
    have h1' : (s.size : Int) ≤ 500 := by omega
    go_enter Try.func3, Try.ntmps3
    go_wp2_with (go_at_call 8; refine (awake_any _).mono ?_; rintro e w2 ⟨rfl, hb2⟩)
    go_ret
    exact ⟨rfl, hb2⟩
  have h3' : (b.size : Int) ≤ 50 := by omega
  have h2' : (a.size : Int) ≤ 50 := by omega
  have h1' : (s.size : Int) ≤ 500 := by omega
  clear h1 h2 h3
  have hts : (tr s).size ≤ 500 := by have := tr_size s; omega
  have htt := tr_tr s
  rcases tr_shape s with c1 | ⟨c1, c2, c3, c4, c5⟩
  all_goals
    by_cases ca : (tr a).toList = []
    · by_cases cb : (tr b).toList = []
      · have cab := tr_about (s := s) ca cb
        go_enter Try.func3, Try.ntmps3
        go_wp2_with (first | (go_at_call 8; refine (awake_any _).mono ?_; rintro e w2 ⟨rfl, hb2⟩) | (go_at_call 9; refine (trim_tr _ (by first | omega | (simp; omega)) _).mono ?_; rintro e w' ⟨rfl, rfl⟩) | (go_at_call 10; refine (space_any _ _).mono ?_; rintro e w' ⟨rfl, rfl⟩))
        go_ret
        exact ⟨rfl, hb2⟩
      · have cb' : (tr b).toList.isEmpty = false := by simpa using cb
        go_enter Try.func3, Try.ntmps3
        go_wp2_with (first | (go_at_call 8; refine (awake_any _).mono ?_; rintro e w2 ⟨rfl, hb2⟩) | (go_at_call 9; refine (trim_tr _ (by first | omega | (simp; omega)) _).mono ?_; rintro e w' ⟨rfl, rfl⟩) | (go_at_call 10; refine (space_any _ _).mono ?_; rintro e w' ⟨rfl, rfl⟩))
        go_ret
        exact ⟨rfl, hb2⟩
    · have ca' : (tr a).toList.isEmpty = false := by simpa using ca
      go_enter Try.func3, Try.ntmps3
      go_wp2_with (first | (go_at_call 8; refine (awake_any _).mono ?_; rintro e w2 ⟨rfl, hb2⟩) | (go_at_call 9; refine (trim_tr _ (by first | omega | (simp; omega)) _).mono ?_; rintro e w' ⟨rfl, rfl⟩) | (go_at_call 10; refine (space_any _ _).mono ?_; rintro e w' ⟨rfl, rfl⟩))
      go_ret
      exact ⟨rfl, hb2⟩
end Go.Proofs.Ytglffonjhodmdaa
