/- The contracts of slices.Clone, Index and Contains, and of newelhelp.Plain, Same and In, at api.Excluded. -/
import Derived.Test.YtndleookkaoojaaA
import Derived.StillTailTactics
namespace Go.Proofs.Ytndleookkaoojaa
open Go.RowKit

def eqB (x y : Ex) : Bool := x.1.toList == y.1.toList && x.2.toList == y.2.toList

set_option maxHeartbeats 400000 in
theorem eq1_any (x y : Ex) (w : World) : Calls Try.prog 18 #[.agg #[.string x.1, .string x.2], .agg #[.string y.1, .string y.2]] w fun e w' => e = .returned (.bool (eqB x y)) ∧ Below w.heap.size w w' := by
  have H : Hid (eqB x y = (x.1.toList == y.1.toList && x.2.toList == y.2.toList)) := Lib.hid rfl
  rcases Bool.eq_false_or_eq_true (x.1.toList == y.1.toList) with h1 | h1 <;> rcases Bool.eq_false_or_eq_true (x.2.toList == y.2.toList) with h2 | h2
  all_goals
    go_enter Try.func18, Try.ntmps18
    go_wp2
    go_ret
    exact ⟨by rw [H.out, h1, h2]; rfl, ((Below.refl _ _).alloc (Nat.le_refl _) _).alloc (by simp) _⟩

set_option maxHeartbeats 400000 in
theorem index_any (A : Option Addr) (c : Nat) (l : List Ex) (x : Ex) (w : World) (hn : l.length ≤ 100000) (hl : ReadsEx w A l) :
    Calls Try.prog 23 #[.slice A l.length c, .agg #[.string x.1, .string x.2]] w (IdxOf l (fun y => eqB x y) w) := by
  have HL := Lib.hid (reads_alloc hl (.cells #[.string x.1, .string x.2] 26))
  have hb0 : Below w.heap.size w (w.alloc (.cells #[.string x.1, .string x.2] 26)) := (Below.refl _ _).alloc (Nat.le_refl _) _
  have hz0 : w.heap.size < (w.alloc (.cells #[.string x.1, .string x.2] 26)).heap.size := by simp
  have hx0 : PairAt (w.alloc (.cells #[.string x.1, .string x.2] 26)) ⟨w.heap.size, 0, none⟩ x := ⟨by simp, by simp⟩
  have HB := Lib.hid hb0
  have HX := Lib.hid hx0
  have HZ := Lib.hid hz0
  clear hl hb0 hz0 hx0
  go_enter Try.func23, Try.ntmps23
  go_wp2_with fail
  generalize w.alloc (.cells #[.string x.1, .string x.2] 26) = W at *
  go_loopw [8] (fun v wr => ∃ k : Nat, v = .int .i64 k ∧ k ≤ l.length ∧ Below W.heap.size W wr ∧ Hid (l.any (fun y => eqB x y) = (l.drop k).any (fun y => eqB x y))) (fun v _ => l.length - (intOf v).toNat)
  case atStart => exact ⟨0, rfl, by omega, Below.refl _ _, rfl⟩
  case round =>
    obtain ⟨k, rfl, hk, hb, HK⟩ := hrel
    by_cases hlt : k < l.length
    · obtain ⟨ad, rfl, hc⟩ := (HL.out.below hb) (by omega)
      obtain ⟨hc1, hc2⟩ := hc k hlt
      obtain ⟨hx1, hx2⟩ := HX.out.below hb HZ.out
      have HD := Lib.hid (drop_at l exD k hlt)
      clear hc
      generalize l.getD k exD = y at hc1 hc2 HD
      have HE : Hid ((l.drop k).any (fun y => eqB x y) = ((x.1.toList == y.1.toList && x.2.toList == y.2.toList) || (l.drop (k + 1)).any (fun y => eqB x y))) := by show _ = _; rw [HD.out]; rfl
      rcases Bool.eq_false_or_eq_true (x.1.toList == y.1.toList) with h1 | h1 <;> rcases Bool.eq_false_or_eq_true (x.2.toList == y.2.toList) with h2 | h2
      · go_wp2_with fail
        go_quiet (fail)
        go_wp2_with fail
        go_ret
        exact ⟨k, rfl, by rw [HK.out, HE.out, h1, h2]; simp, bthen HB.out (bdrewN hb _)⟩
      all_goals
        go_wp2_with fail
        go_quiet (fail)
        go_wp2_with fail
        go_roundw
        case rel => exact ⟨k + 1, by go_num, by omega, bdrewN hb _, by show _ = _; rw [HK.out, HE.out, h1, h2]; rfl⟩
        case measure => simp [intOf]; omega
    · go_wp2_with fail
      go_ret
      exact ⟨-1, rfl, by rw [HK.out, List.drop_eq_nil_of_le (by omega)]; rfl, bthen HB.out hb⟩

set_option maxHeartbeats 400000 in
theorem contains_any (A : Option Addr) (c : Nat) (l : List Ex) (x : Ex) (w : World) (hn : l.length ≤ 100000) (hl : ReadsEx w A l) :
    Calls Try.prog 20 #[.slice A l.length c, .agg #[.string x.1, .string x.2]] w fun e w' => e = .returned (.bool (l.any (fun y => eqB x y))) ∧ Below w.heap.size w w' := by
  have HL := Lib.hid (reads_alloc hl (.cells #[.string x.1, .string x.2] 26))
  clear hl
  go_enter Try.func20, Try.ntmps20
  go_wp2_with (go_at_call 23; refine (index_any A c l x _ hn HL.out).mono ?_; rintro e w' ⟨r, rfl, hr, hb⟩)
  go_ret
  exact ⟨by rw [← hr]; rfl, bthen ((Below.refl _ _).alloc (Nat.le_refl _) _) hb⟩

set_option maxHeartbeats 400000 in
theorem In_any (A : Option Addr) (c : Nat) (l : List Ex) (x : Ex) (w : World) (hn : l.length ≤ 100000) (hl : ReadsEx w A l) :
    Calls Try.prog 21 #[.slice A l.length c, .agg #[.string x.1, .string x.2]] w fun e w' => e = .returned (.bool (l.any (fun y => eqB y x))) ∧ Below w.heap.size w w' := by
  have HL := Lib.hid (reads_alloc hl (.cells #[.string x.1, .string x.2] 26))
  have hb0 : Below w.heap.size w (w.alloc (.cells #[.string x.1, .string x.2] 26)) := (Below.refl _ _).alloc (Nat.le_refl _) _
  have hz0 : w.heap.size < (w.alloc (.cells #[.string x.1, .string x.2] 26)).heap.size := by simp
  have hx0 : PairAt (w.alloc (.cells #[.string x.1, .string x.2] 26)) ⟨w.heap.size, 0, none⟩ x := ⟨by simp, by simp⟩
  have HB := Lib.hid hb0
  have HX := Lib.hid hx0
  have HZ := Lib.hid hz0
  clear hl hb0 hz0 hx0
  go_enter Try.func21, Try.ntmps21
  go_wp2_with fail
  generalize w.alloc (.cells #[.string x.1, .string x.2] 26) = W at *
  go_loopw [5] (fun v wr => ∃ k : Nat, v = .int .i64 k ∧ k ≤ l.length ∧ Below W.heap.size W wr ∧ Hid (l.any (fun y => eqB y x) = (l.drop k).any (fun y => eqB y x))) (fun v _ => l.length - (intOf v).toNat)
  case atStart => exact ⟨0, rfl, by omega, Below.refl _ _, rfl⟩
  case round =>
    obtain ⟨k, rfl, hk, hb, HK⟩ := hrel
    by_cases hlt : k < l.length
    · obtain ⟨ad, rfl, hc⟩ := (HL.out.below hb) (by omega)
      obtain ⟨hc1, hc2⟩ := hc k hlt
      obtain ⟨hx1, hx2⟩ := HX.out.below hb HZ.out
      have HD := Lib.hid (drop_at l exD k hlt)
      clear hc
      generalize l.getD k exD = y at hc1 hc2 HD
      have HE : Hid ((l.drop k).any (fun y => eqB y x) = ((y.1.toList == x.1.toList && y.2.toList == x.2.toList) || (l.drop (k + 1)).any (fun y => eqB y x))) := by show _ = _; rw [HD.out]; rfl
      rcases Bool.eq_false_or_eq_true (y.1.toList == x.1.toList) with h1 | h1 <;> rcases Bool.eq_false_or_eq_true (y.2.toList == x.2.toList) with h2 | h2
      · go_wp2_with fail
        go_quiet (fail)
        go_wp2_with fail
        go_ret
        exact ⟨by rw [HK.out, HE.out, h1, h2]; simp, bthen HB.out (bdrewN hb _)⟩
      all_goals
        go_wp2_with fail
        go_quiet (fail)
        go_wp2_with fail
        go_roundw
        case rel => exact ⟨k + 1, by go_num, by omega, bdrewN hb _, by show _ = _; rw [HK.out, HE.out, h1, h2]; rfl⟩
        case measure => simp [intOf]; omega
    · go_wp2_with fail
      go_ret
      exact ⟨by rw [HK.out, List.drop_eq_nil_of_le (by omega)]; rfl, bthen HB.out hb⟩

/-- Two lists alike, one by one. -/
def sameB : List Ex → List Ex → Bool
  | [], [] => true
  | x :: l, y :: m => eqB x y && sameB l m
  | _, _ => false
theorem sameB_len {l m : List Ex} (h : l.length ≠ m.length) : sameB l m = false := by
  induction l generalizing m with
  | nil => cases m <;> simp [sameB] at h ⊢
  | cons x l ih => cases m with
    | nil => rfl
    | cons y m => simp only [sameB]; rw [ih (by simpa using h), Bool.and_false]

set_option maxHeartbeats 400000 in
theorem same_any (A B : Option Addr) (c d : Nat) (l m : List Ex) (w : World) (hn : l.length ≤ 100000) (hn2 : m.length ≤ 100000) (hl : ReadsEx w A l) (hm : ReadsEx w B m) :
    Calls Try.prog 17 #[.slice A l.length c, .slice B m.length d, .func (.func 18) #[] #[]] w fun e w' => e = .returned (.bool (sameB l m)) ∧ Below w.heap.size w w' := by
  have HL := Lib.hid hl
  have HM := Lib.hid hm
  clear hl hm
  by_cases hlen : l.length = m.length
  · have HN := Lib.hid hlen
    have hne : ((l.length : Int) != (m.length : Int)) = false := by simp [hlen]
    clear hlen
    go_enter Try.func17, Try.ntmps17
    go_wp2_with fail
    go_loopw [7] (fun v wr => ∃ k : Nat, v = .int .i64 k ∧ k ≤ l.length ∧ Below w.heap.size w wr ∧ Hid (sameB l m = sameB (l.drop k) (m.drop k))) (fun v _ => l.length - (intOf v).toNat)
    case atStart => exact ⟨0, rfl, by omega, Below.refl _ _, rfl⟩
    case round =>
      obtain ⟨k, rfl, hk, hb, HK⟩ := hrel
      by_cases hlt : k < l.length
      · obtain ⟨ad, rfl, hc⟩ := (HL.out.below hb) (by omega)
        obtain ⟨hc1, hc2⟩ := hc k hlt
        obtain ⟨bd, rfl, hc'⟩ := (HM.out.below hb) (by have := HN.out; omega)
        have hltm : k < m.length := by have := HN.out; omega
        obtain ⟨hc3, hc4⟩ := hc' k hltm
        have HD := Lib.hid (drop_at l exD k hlt)
        have HD2 := Lib.hid (drop_at m exD k hltm)
        clear hc hc'
        generalize l.getD k exD = x at hc1 hc2 HD
        generalize m.getD k exD = y at hc3 hc4 HD2
        have HE : Hid (sameB (l.drop k) (m.drop k) = (eqB x y && sameB (l.drop (k + 1)) (m.drop (k + 1)))) := by show _ = _; rw [HD.out, HD2.out]; rfl
        rcases Bool.eq_false_or_eq_true (eqB x y) with h1 | h1
        · go_wp2_with fail
          go_still_tail 9, (by kernel_rfl)
          change wpList _ _ _ _ _ wr.drew
          go_wp2_with (go_at_call 18; refine (eq1_any x y _).mono ?_; rintro e w' ⟨rfl, hb'⟩)
          go_roundw
          case rel => exact ⟨k + 1, by go_num, by omega, bthen (bdrewN hb 1) hb', by show _ = _; rw [HK.out, HE.out, h1]; rfl⟩
          case measure => simp [intOf]; omega
        · go_wp2_with fail
          go_still_tail 9, (by kernel_rfl)
          change wpList _ _ _ _ _ wr.drew
          go_wp2_with (go_at_call 18; refine (eq1_any x y _).mono ?_; rintro e w' ⟨rfl, hb'⟩)
          go_ret
          exact ⟨by rw [HK.out, HE.out, h1]; rfl, bthen (bdrewN hb 1) hb'⟩
      · go_wp2_with fail
        go_ret
        exact ⟨by rw [HK.out, List.drop_eq_nil_of_le (by omega), List.drop_eq_nil_of_le (by have := HN.out; omega)]; rfl, hb⟩
  · have hne : ((l.length : Int) != (m.length : Int)) = true := by simp; omega
    have H := Lib.hid (sameB_len hlen)
    clear hlen
    go_enter Try.func17, Try.ntmps17
    go_wp2_with fail
    go_ret
    exact ⟨by rw [H.out]; rfl, Below.refl _ _⟩

set_option maxHeartbeats 400000 in
theorem plain_any (A B : Option Addr) (c d : Nat) (l m : List Ex) (w : World) (hn : l.length ≤ 100000) (hn2 : m.length ≤ 100000) (hl : ReadsEx w A l) (hm : ReadsEx w B m) :
    Calls Try.prog 10 #[.slice A l.length c, .slice B m.length d] w fun e w' => e = .returned (.bool (sameB l m)) ∧ Below w.heap.size w w' := by
  have HL := Lib.hid hl
  have HM := Lib.hid hm
  clear hl hm
  go_enter Try.func10, Try.ntmps10
  go_wp2_with (go_at_call 17; refine (same_any A B c d l m _ hn hn2 HL.out HM.out).mono ?_; rintro e w' ⟨rfl, hb⟩)
  go_ret
  exact ⟨rfl, hb⟩
end Go.Proofs.Ytndleookkaoojaa
