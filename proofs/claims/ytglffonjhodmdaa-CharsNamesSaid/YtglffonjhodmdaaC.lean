/- The contracts of chars.Head and Name, and of the reference's Name; for every string of at most 1000000 bytes. -/
import Derived.Test.YtglffonjhodmdaaB
namespace Go.Proofs.Ytglffonjhodmdaa
open Go.RowKit

def leU (c : UInt8) : Bool := leI (c.toNat : Int)
def wiU (c : UInt8) : Bool := wiI (c.toNat : Int)
def headL : List UInt8 → List UInt8
  | [] => []
  | c :: t => if leU c then c :: t.takeWhile wiU else []
def nameL : List UInt8 → Bool
  | [] => false
  | c :: t => leU c && t.all wiU

theorem take_drop_at {x : ByteArray} {n : Nat} (h : n < x.size) : (LL x).drop n = x[n] :: (LL x).drop (n + 1) :=
  List.drop_eq_getElem_cons (l := LL x) (by rw [LL_len]; exact h)
theorem take_snoc_at {x : ByteArray} {n : Nat} (h : n < x.size) : (LL x).take (n + 1) = (LL x).take n ++ [x[n]] :=
  List.take_succ_eq_append_getElem (l := LL x) (by rw [LL_len]; exact h)

theorem wp_scope_label {P : Program} {a : Act} {w : World} {Q : Exit → Act → World → Prop} {c body : Code} (l : Nat) (J : Act → World → Prop) (μ : Act → World → Nat)
    (hf : findLabel c l = some (Code.skip.seq body))
    (pass : ∀ a w, J a w → body.wp P (Exit.jump l (fun a' w' => J a' w' ∧ μ a' w' < μ a w) Q) a w)
    (first : Hid (∀ a w, J a w → body.wp P (Exit.jump l J Q) a w) → c.wp P (Exit.jump l J Q) a w) : (Code.scope c).wp P Q a w := by
  refine wp_scope_jumps l J μ hf (first ?_) ?_
  · intro a w h0
    refine wp_mono (pass a w h0) ?_
    intro e a' w' h
    cases e <;> simp only [Exit.jump] at h ⊢ <;> first | exact h | exact ⟨h.1, h.2.1⟩
  · intro a w h
    exact wp_seq (wp_skip (pass a w h))

theorem head_val (s : ByteArray) (n : Nat) : ofL ((LL s).take n) = s.extract 0 n := by
  refine LL_ext ?_
  rw [LL_ofL]
  simp [LL]

def HeadJ (s : ByteArray) (w : World) (a' : Act) (w' : World) : Prop :=
  w' = w ∧ ∃ (n : Nat) (u4 u5 u6 u7 u8 u9 u10 u11 u12 u13 u14 u15 u16 u17 u18 u19 u20 u21 u22 u23 : Value), a' = { tmps := #[.string s, undef, .string ⟨#[]⟩, .int .i64 n, u4, u5, u6, u7, u8, u9, u10, u11, u12, u13, u14, u15, u16, u17, u18, u19, u20, u21, u22, u23, undef, undef, undef], defers := [] } ∧ n ≤ s.size ∧ headL (LL s) = (LL s).take n ++ ((LL s).drop n).takeWhile wiU
def intAt (k : Nat) (a : Act) : Nat := match a.tmps.getD k undef with | .int _ n => n.toNat | _ => 0

set_option maxHeartbeats 400000 in
theorem head_any (s : ByteArray) (hs : s.size ≤ 1000000) (w : World) : Calls Try.prog 21 #[.string s] w fun e w' => e = .returned (.string (ofL (headL (LL s)))) ∧ w' = w := by
  by_cases h0 : 0 < s.size
  · have hn := nil_not h0
    have hn1 := hn.1.1
    have hn2 : s.toList.isEmpty = false := by simpa using hn.2
    have hL := LL_head h0
    rcases Bool.eq_false_or_eq_true (leI (s[0].toNat : Int)) with h1 | h1
    · have HS : Hid (headL (LL s) = (LL s).take 1 ++ ((LL s).drop 1).takeWhile wiU) := by
        show _ = _
        rw [hL]; simp [headL, leU, h1]
      clear hn hL
      go_enter Try.func21, Try.ntmps21
      go_wp2
      refine wp_scope_label 0 (HeadJ s w) (fun a' _ => s.size - intAt 3 a') rfl ?_ (fun hlab => ?_)
      · rintro a' w' ⟨rfl, n, u4, u5, u6, u7, u8, u9, u10, u11, u12, u13, u14, u15, u16, u17, u18, u19, u20, u21, u22, u23, rfl, hn, hN⟩
        clear h1 hn1 hn2 HS h0
        have HN := Lib.hid hN
        clear hN
        by_cases hlt : n < s.size
        · have hd := take_drop_at hlt
          have ht := take_snoc_at hlt
          rcases Bool.eq_false_or_eq_true (wiI (s[n].toNat : Int)) with h2 | h2
          · have HM : Hid (headL (LL s) = (LL s).take (n + 1) ++ ((LL s).drop (n + 1)).takeWhile wiU) := by
              show _ = _
              rw [HN.out, hd, ht]; simp [wiU, h2]
            clear hd ht
            go_wp2_with (go_at_call 25; refine (within_any _ _).mono ?_; rintro e w' ⟨rfl, rfl⟩)
            go_step3
            exact ⟨rfl, ⟨rfl, n + 1, _, _, _, _, _, _, _, _, _, _, _, _, _, _, _, _, _, _, _, _, rfl, by omega, HM.out⟩, by simp [intAt]; omega⟩
          · have HM : Hid (headL (LL s) = (LL s).take n) := by
              show _ = _
              rw [HN.out, hd]; simp [wiU, h2]
            clear hd ht
            go_wp2_with (go_at_call 25; refine (within_any _ _).mono ?_; rintro e w' ⟨rfl, rfl⟩)
            simp only [Exit.jump]
            go_ret
            exact ⟨by rw [HM.out, head_val]; rfl, rfl⟩
        · have HM : Hid (headL (LL s) = (LL s).take n) := by
            show _ = _
            rw [HN.out, List.drop_eq_nil_of_le (by rw [LL_len]; omega)]; simp
          go_wp2_with (go_at_call 25; refine (within_any _ _).mono ?_; rintro e w' ⟨rfl, rfl⟩)
          simp only [Exit.jump]
          go_ret
          exact ⟨by rw [HM.out, head_val]; rfl, rfl⟩
      · go_wp2_with (go_at_call 24; refine (first_any _ _).mono ?_; rintro e w' ⟨rfl, rfl⟩)
        refine wp_label ?_
        simp only [Exit.then]
        apply_assumption
        exact hlab.out _ _ ⟨rfl, 1, _, _, _, _, _, _, _, _, _, _, _, _, _, _, _, _, _, _, _, _, rfl, by omega, HS.out⟩
    · have HS : Hid (headL (LL s) = []) := by
        show _ = _
        rw [hL]; simp [headL, leU, h1]
      clear hn hL
      go_enter Try.func21, Try.ntmps21
      go_wp2
      refine wp_scope_straight ?_
      go_wp2_with (go_at_call 24; refine (first_any _ _).mono ?_; rintro e w' ⟨rfl, rfl⟩)
      rw [Exit.noGoto_ret]
      go_ret
      exact ⟨by rw [HS.out]; rfl, rfl⟩
  · have hn := nil_yes h0
    have hn1 := hn.1
    have HS : Hid (headL (LL s) = []) := by
      have : LL s = [] := List.eq_nil_of_length_eq_zero (by rw [LL_len]; omega)
      show _ = _
      rw [this]; rfl
    clear hn
    go_enter Try.func21, Try.ntmps21
    go_wp2
    refine wp_scope_straight ?_
    go_wp2_with (go_at_call 24; refine (first_any _ _).mono ?_; rintro e w' ⟨rfl, rfl⟩)
    rw [Exit.noGoto_ret]
    go_ret
    exact ⟨by rw [HS.out]; rfl, rfl⟩

theorem takeWhile_all (p : UInt8 → Bool) : ∀ l : List UInt8, (l.takeWhile p == l) = l.all p
  | [] => rfl
  | c :: t => by
    have ih := takeWhile_all p t
    rcases Bool.eq_false_or_eq_true (p c) with h | h
    · simp [h, ← ih]
    · simp [h]
theorem headL_name (l : List UInt8) (h : l ≠ []) : (headL l == l) = nameL l := by
  cases l with
  | nil => exact absurd rfl h
  | cons c t =>
    rcases Bool.eq_false_or_eq_true (leU c) with h1 | h1
    · simp only [headL, nameL, h1, if_true, Bool.true_and, ← takeWhile_all wiU t]; simp
    · simp [headL, nameL, h1]

set_option maxHeartbeats 400000 in
theorem name_any (s : ByteArray) (hs : s.size ≤ 1000000) (w : World) : Calls Try.prog 11 #[.string s] w fun e w' => e = .returned (.bool (nameL (LL s))) ∧ w' = w := by
  by_cases h0 : 0 < s.size
  · have hn := nil_not h0
    have hn1 := hn.1.1
    have hn2 : s.toList.isEmpty = false := by simpa using hn.2
    have HV : Hid (((ofL (headL (LL s))).toList == s.toList) = nameL (LL s)) := by
      show _ = _
      rw [ByteArray.toList_eq, ByteArray.toList_eq]
      have := headL_name (LL s) (by intro h; have := LL_len s; rw [h] at this; simp at this; omega)
      rw [← this, show (ofL (headL (LL s))).data.toList = headL (LL s) from LL_ofL _]; rfl
    clear hn
    have hv := HV.out
    go_enter Try.func11, Try.ntmps11
    go_wp2_with (go_at_call 21; refine (head_any _ hs _).mono ?_; rintro e w' ⟨rfl, rfl⟩)
    go_ret
    exact ⟨rfl, rfl⟩
  · have hn := nil_yes h0
    have hn1 := hn.1
    have HS : Hid (nameL (LL s) = false) := by
      have : LL s = [] := List.eq_nil_of_length_eq_zero (by rw [LL_len]; omega)
      show _ = _
      rw [this]; rfl
    clear hn
    go_enter Try.func11, Try.ntmps11
    go_wp2_with fail
    go_ret
    exact ⟨by rw [HS.out]; rfl, rfl⟩

theorem wi_of_le {c : Int} (h : leI c = true) : wiI c = true := by simp [wiI, h]
set_option maxHeartbeats 400000 in
theorem rname_any (s : ByteArray) (hs : s.size ≤ 1000000) (w : World) : Calls Try.prog 18 #[.string s] w fun e w' => e = .returned (.bool (nameL (LL s))) ∧ w' = w := by
  by_cases h0 : 0 < s.size
  · have hL := LL_head h0
    have hz : ((s.size : Int) == 0) = false := by rw [beq_eq_false_iff_ne]; omega
    rcases Bool.eq_false_or_eq_true (leI (s[0].toNat : Int)) with h1 | h1
    · have HS : Hid (nameL (LL s) = (LL s).all wiU) := by
        show _ = _
        rw [hL]; simp [nameL, leU, wiU, h1, wi_of_le h1]
      clear hL
      go_enter Try.func18, Try.ntmps18
      go_wp2_with (go_at_call 22; refine (rletter_any _ _).mono ?_; rintro e w' ⟨rfl, rfl⟩)
      go_loop [3] (fun v => ∃ n : Nat, v = .int .i64 n ∧ n ≤ s.size ∧ Hid (nameL (LL s) = ((LL s).drop n).all wiU)) (fun v => s.size - (intOf v).toNat)
      case atStart => exact ⟨0, rfl, by omega, HS⟩
      case round =>
        obtain ⟨n, rfl, hn, HN⟩ := hrel
        clear h1 hz HS
        by_cases hlt : n < s.size
        · have hd := take_drop_at hlt
          rcases Bool.eq_false_or_eq_true (wiI (s[n].toNat : Int)) with h2 | h2
          · have HM : Hid (nameL (LL s) = ((LL s).drop (n + 1)).all wiU) := by
              show _ = _
              rw [HN.out, hd]; simp [wiU, h2]
            clear hd
            go_wp2_with (go_at_call 23; refine (rwithin_any _ _).mono ?_; rintro e w' ⟨rfl, rfl⟩)
            go_round
            case rel => exact ⟨n + 1, by go_num, by omega, HM⟩
            case measure => simp [intOf]; omega
          · have HM : Hid (nameL (LL s) = false) := by
              show _ = _
              rw [HN.out, hd]; simp [wiU, h2]
            clear hd
            go_wp2_with (go_at_call 23; refine (rwithin_any _ _).mono ?_; rintro e w' ⟨rfl, rfl⟩)
            go_ret
            exact ⟨by rw [HM.out]; rfl, rfl⟩
        · have HM : Hid (nameL (LL s) = true) := by
            show _ = _
            rw [HN.out, List.drop_eq_nil_of_le (by rw [LL_len]; omega)]; rfl
          go_wp2_with fail
          go_ret
          exact ⟨by rw [HM.out]; rfl, rfl⟩
    · have HS : Hid (nameL (LL s) = false) := by
        show _ = _
        rw [hL]; simp [nameL, leU, h1]
      clear hL
      go_enter Try.func18, Try.ntmps18
      go_wp2_with (go_at_call 22; refine (rletter_any _ _).mono ?_; rintro e w' ⟨rfl, rfl⟩)
      go_ret
      exact ⟨by rw [HS.out]; rfl, rfl⟩
  · have hz : ((s.size : Int) == 0) = true := by rw [beq_iff_eq]; omega
    have HS : Hid (nameL (LL s) = false) := by
      have : LL s = [] := List.eq_nil_of_length_eq_zero (by rw [LL_len]; omega)
      show _ = _
      rw [this]; rfl
    go_enter Try.func18, Try.ntmps18
    go_wp2_with fail
    go_ret
    exact ⟨by rw [HS.out]; rfl, rfl⟩
end Go.Proofs.Ytglffonjhodmdaa
