/- The contracts of scope.Is, Derive and In, and of the reference's IsScope, Derive and In: both sides by the same plain functions; for every string and kind, no condition. -/
import Derived.Test.YtpafhlhoibmocaaA
namespace Go.Proofs.Ytpafhlhoibmocaa
open Go.RowKit

def bCompile : ByteArray := ⟨#[99, 111, 109, 112, 105, 108, 101]⟩
def bRuntime : ByteArray := ⟨#[114, 117, 110, 116, 105, 109, 101]⟩
def bProvided : ByteArray := ⟨#[112, 114, 111, 118, 105, 100, 101, 100]⟩
def bTest : ByteArray := ⟨#[116, 101, 115, 116]⟩
def bEmpty : ByteArray := ⟨#[]⟩

def eqC (s : ByteArray) : Bool := s.toList == [99, 111, 109, 112, 105, 108, 101]
def eqR (s : ByteArray) : Bool := s.toList == [114, 117, 110, 116, 105, 109, 101]
def eqP (s : ByteArray) : Bool := s.toList == [112, 114, 111, 118, 105, 100, 101, 100]
def eqT (s : ByteArray) : Bool := s.toList == [116, 101, 115, 116]
def isB (s : ByteArray) : Bool := eqC s || eqR s || eqP s || eqT s
def deriveM (a o : ByteArray) : ByteArray × Bool := if (eqC o || eqR o) && isB a then (if eqC a then (o, true) else (a, true)) else (bEmpty, false)
def inM (k : Int) (s : ByteArray) : Bool := if k = 2 then eqC s || eqP s else if k = 3 then eqC s || eqR s else if k = 4 then isB s else if k = 5 then eqP s else false

theorem tl_C : bCompile.toList = [99, 111, 109, 112, 105, 108, 101] := by rw [ByteArray.toList_eq]; rfl
theorem tl_R : bRuntime.toList = [114, 117, 110, 116, 105, 109, 101] := by rw [ByteArray.toList_eq]; rfl
theorem tl_P : bProvided.toList = [112, 114, 111, 118, 105, 100, 101, 100] := by rw [ByteArray.toList_eq]; rfl
theorem tl_T : bTest.toList = [116, 101, 115, 116] := by rw [ByteArray.toList_eq]; rfl
theorem eqC_eq (s : ByteArray) : eqC s = (bCompile.toList == s.toList) := by rw [tl_C, BEq.comm]; rfl
theorem eqR_eq (s : ByteArray) : eqR s = (bRuntime.toList == s.toList) := by rw [tl_R, BEq.comm]; rfl
theorem eqP_eq (s : ByteArray) : eqP s = (bProvided.toList == s.toList) := by rw [tl_P, BEq.comm]; rfl
theorem eqT_eq (s : ByteArray) : eqT s = (bTest.toList == s.toList) := by rw [tl_T, BEq.comm]; rfl
theorem among_is (s : ByteArray) : amongB s [bCompile, bRuntime, bProvided, bTest] = isB s := by
  simp only [amongB, List.any_cons, List.any_nil, isB, eqC_eq, eqR_eq, eqP_eq, eqT_eq, Bool.or_false, Bool.or_assoc]
theorem among_cr (s : ByteArray) : amongB s [bCompile, bRuntime] = (eqC s || eqR s) := by
  simp only [amongB, List.any_cons, List.any_nil, eqC_eq, eqR_eq, Bool.or_false]
theorem among_cp (s : ByteArray) : amongB s [bCompile, bProvided] = (eqC s || eqP s) := by
  simp only [amongB, List.any_cons, List.any_nil, eqC_eq, eqP_eq, Bool.or_false]

theorem reads_new (w : World) (l : List ByteArray) (T : TypeId) : ReadsStr (w.alloc (.cells (l.map Value.string).toArray T)) (some ⟨w.heap.size, 0, none⟩) l := by
  intro _
  refine ⟨_, rfl, fun j hj => ?_⟩
  have e : (Addr.add ⟨w.heap.size, 0, none⟩ j) = ⟨w.heap.size, j, none⟩ := by unfold Addr.add; split <;> simp_all
  rw [e, World.cell?_alloc_new]
  simp [List.getD_eq_getElem?_getD, hj]

set_option maxHeartbeats 400000 in
theorem is_any (s : ByteArray) (w : World) :
    Calls Try.prog 10 #[.string s] w fun e w' => e = .returned (.bool (isB s)) ∧ Below w.heap.size w w' := by
  have H := Lib.hid (among_is s)
  go_enter Try.func10, Try.ntmps10
  go_wp2_with (go_at_call 15; refine (among_any s _ 4 [bCompile, bRuntime, bProvided, bTest] _ (reads_new w _ 9) (by decide)).mono ?_; rintro e w' ⟨rfl, rfl⟩)
  go_ret
  exact ⟨by rw [H.out]; rfl, (Below.refl _ _).alloc (Nat.le_refl _) _⟩

theorem below2 {w : World} {o : Obj} {w' : World} (h : Below (w.alloc o).heap.size (w.alloc o) w') : Below w.heap.size w w' :=
  ((Below.refl _ _).alloc (Nat.le_refl _) _).trans (h.mono (by simp))
theorem derive_1 {a o : ByteArray} (h1 : (eqC o || eqR o) = true) (h2 : isB a = true) (h3 : eqC a = true) : deriveM a o = (o, true) := by simp only [deriveM, h1, h2, h3]; rfl
theorem derive_2 {a o : ByteArray} (h1 : (eqC o || eqR o) = true) (h2 : isB a = true) (h3 : eqC a = false) : deriveM a o = (a, true) := by simp only [deriveM, h1, h2, h3]; rfl
theorem derive_3 {a o : ByteArray} (h2 : isB a = false) : deriveM a o = (bEmpty, false) := by simp only [deriveM, h2, Bool.and_false]; rfl
theorem derive_4 {a o : ByteArray} (h1 : (eqC o || eqR o) = false) : deriveM a o = (bEmpty, false) := by simp only [deriveM, h1, Bool.false_and]; rfl

set_option maxHeartbeats 400000 in
theorem derive_any (a o : ByteArray) (w : World) :
    Calls Try.prog 8 #[.string a, .string o] w fun e w' => e = .returned (.tuple #[.string (deriveM a o).1, .bool (deriveM a o).2]) ∧ Below w.heap.size w w' := by
  have H := Lib.hid (among_cr o)
  rcases Bool.eq_false_or_eq_true (eqC o || eqR o) with h1 | h1
  · have H1 := Lib.hid h1
    rcases Bool.eq_false_or_eq_true (isB a) with h2 | h2
    · have H2 := Lib.hid h2
      rcases Bool.eq_false_or_eq_true (eqC a) with h3 | h3
      · rw [derive_1 h1 h2 h3]
        clear h1 h2
        unfold eqC at h3
        go_enter Try.func8, Try.ntmps8
        go_wp2_with (first | (go_at_call 15; refine (among_any o _ 2 [bCompile, bRuntime] _ (reads_new w _ 9) (by decide)).mono ?_; rw [H.out, H1.out]; rintro e w' ⟨rfl, rfl⟩) | (go_at_call 10; refine (is_any a _).mono ?_; rw [H2.out]; rintro e w' ⟨rfl, hb⟩))
        go_ret2
        exact ⟨rfl, below2 hb⟩
      · rw [derive_2 h1 h2 h3]
        clear h1 h2
        unfold eqC at h3
        go_enter Try.func8, Try.ntmps8
        go_wp2_with (first | (go_at_call 15; refine (among_any o _ 2 [bCompile, bRuntime] _ (reads_new w _ 9) (by decide)).mono ?_; rw [H.out, H1.out]; rintro e w' ⟨rfl, rfl⟩) | (go_at_call 10; refine (is_any a _).mono ?_; rw [H2.out]; rintro e w' ⟨rfl, hb⟩))
        go_ret2
        exact ⟨rfl, below2 hb⟩
    · have H2 := Lib.hid h2
      rw [derive_3 h2]
      clear h1 h2
      go_enter Try.func8, Try.ntmps8
      go_wp2_with (first | (go_at_call 15; refine (among_any o _ 2 [bCompile, bRuntime] _ (reads_new w _ 9) (by decide)).mono ?_; rw [H.out, H1.out]; rintro e w' ⟨rfl, rfl⟩) | (go_at_call 10; refine (is_any a _).mono ?_; rw [H2.out]; rintro e w' ⟨rfl, hb⟩))
      go_ret2
      exact ⟨rfl, below2 hb⟩
  · have H1 := Lib.hid h1
    rw [derive_4 h1]
    clear h1
    go_enter Try.func8, Try.ntmps8
    go_wp2_with (first | (go_at_call 15; refine (among_any o _ 2 [bCompile, bRuntime] _ (reads_new w _ 9) (by decide)).mono ?_; rw [H.out, H1.out]; rintro e w' ⟨rfl, rfl⟩))
    go_ret2
    exact ⟨rfl, (Below.refl _ _).alloc (Nat.le_refl _) _⟩

set_option maxHeartbeats 400000 in
theorem in_any (k : Int) (s : ByteArray) (w : World) :
    Calls Try.prog 12 #[.int .i64 k, .string s] w fun e w' => e = .returned (.bool (inM k s)) ∧ Below w.heap.size w w' := by
  by_cases h2 : k = 2
  · subst h2
    have H := Lib.hid (among_cp s)
    go_enter Try.func12, Try.ntmps12
    go_wp2_with (go_at_call 15; refine (among_any s _ 2 [bCompile, bProvided] _ (reads_new w _ 9) (by decide)).mono ?_; rintro e w' ⟨rfl, rfl⟩)
    go_ret
    exact ⟨by rw [H.out]; rfl, (Below.refl _ _).alloc (Nat.le_refl _) _⟩
  by_cases h3 : k = 3
  · subst h3
    have H := Lib.hid (among_cr s)
    clear h2
    go_enter Try.func12, Try.ntmps12
    go_wp2_with (go_at_call 15; refine (among_any s _ 2 [bCompile, bRuntime] _ (reads_new w _ 9) (by decide)).mono ?_; rintro e w' ⟨rfl, rfl⟩)
    go_ret
    exact ⟨by rw [H.out]; rfl, (Below.refl _ _).alloc (Nat.le_refl _) _⟩
  by_cases h4 : k = 4
  · subst h4
    clear h2 h3
    go_enter Try.func12, Try.ntmps12
    go_wp2_with (go_at_call 10; refine (is_any s _).mono ?_; rintro e w' ⟨rfl, hb⟩)
    go_ret
    exact ⟨rfl, hb⟩
  by_cases h5 : k = 5
  · subst h5
    clear h2 h3 h4
    go_enter Try.func12, Try.ntmps12
    go_wp2_with fail
    go_ret
    exact ⟨rfl, Below.refl _ _⟩
  have e : inM k s = false := by simp [inM, h2, h3, h4, h5]
  rw [e]
  clear e
  have g2 : (k == 2) = false := by simpa using h2
  have g3 : (k == 3) = false := by simpa using h3
  have g4 : (k == 4) = false := by simpa using h4
  have g5 : (k == 5) = false := by simpa using h5
  clear h2 h3 h4 h5
  go_enter Try.func12, Try.ntmps12
  go_wp2_with fail
  go_ret
  exact ⟨rfl, Below.refl _ _⟩

set_option maxHeartbeats 400000 in
theorem refis_any (s : ByteArray) (w : World) :
    Calls Try.prog 11 #[.string s] w fun e w' => e = .returned (.bool (isB s)) ∧ w' = w := by
  have H : Hid (isB s = (s.toList == [99, 111, 109, 112, 105, 108, 101] || s.toList == [114, 117, 110, 116, 105, 109, 101] || s.toList == [112, 114, 111, 118, 105, 100, 101, 100] || s.toList == [116, 101, 115, 116])) := Lib.hid rfl
  rcases Bool.eq_false_or_eq_true (s.toList == [99, 111, 109, 112, 105, 108, 101]) with h1 | h1
  · go_enter Try.func11, Try.ntmps11
    go_wp2
    go_ret
    exact ⟨by rw [H.out, h1]; rfl, rfl⟩
  rcases Bool.eq_false_or_eq_true (s.toList == [114, 117, 110, 116, 105, 109, 101]) with h2 | h2
  · go_enter Try.func11, Try.ntmps11
    go_wp2
    go_ret
    exact ⟨by rw [H.out, h1, h2]; rfl, rfl⟩
  rcases Bool.eq_false_or_eq_true (s.toList == [112, 114, 111, 118, 105, 100, 101, 100]) with h3 | h3
  · go_enter Try.func11, Try.ntmps11
    go_wp2
    go_ret
    exact ⟨by rw [H.out, h1, h2, h3]; rfl, rfl⟩
  go_enter Try.func11, Try.ntmps11
  go_wp2
  go_ret
  exact ⟨by rw [H.out, h1, h2, h3]; rfl, rfl⟩

set_option maxHeartbeats 400000 in
theorem refderive_any (a o : ByteArray) (w : World) :
    Calls Try.prog 9 #[.string a, .string o] w fun e w' => e = .returned (.tuple #[.string (deriveM a o).1, .bool (deriveM a o).2]) ∧ w' = w := by
  rcases Bool.eq_false_or_eq_true (eqC o) with c1 | c1 <;> rcases Bool.eq_false_or_eq_true (eqR o) with c2 | c2 <;> rcases Bool.eq_false_or_eq_true (isB a) with h2 | h2 <;> rcases Bool.eq_false_or_eq_true (eqC a) with h3 | h3
  all_goals
    first
    | rw [derive_4 (by rw [c1, c2]; rfl)]
    | rw [derive_3 h2]
    | rw [derive_1 (by rw [c1, c2]; rfl) h2 h3]
    | rw [derive_2 (by rw [c1, c2]; rfl) h2 h3]
    have H2 := Lib.hid h2
    clear h2
    unfold eqC at c1 h3
    unfold eqR at c2
    go_enter Try.func9, Try.ntmps9
    go_wp2_with (go_at_call 11; refine (refis_any a _).mono ?_; rw [H2.out]; rintro e w' ⟨rfl, rfl⟩)
    go_ret2
    exact ⟨rfl, rfl⟩

set_option maxHeartbeats 400000 in
theorem refin_any (k : Int) (s : ByteArray) (w : World) :
    Calls Try.prog 13 #[.int .i64 k, .string s] w fun e w' => e = .returned (.bool (inM k s)) ∧ w' = w := by
  by_cases h2 : k = 2
  · subst h2
    have e : inM 2 s = (eqC s || eqP s) := rfl
    rw [e]
    rcases Bool.eq_false_or_eq_true (eqC s) with c1 | c1
    · rw [c1]
      unfold eqC at c1
      go_enter Try.func13, Try.ntmps13
      go_wp2
      go_ret
      exact ⟨rfl, rfl⟩
    · rw [c1]
      unfold eqC at c1
      go_enter Try.func13, Try.ntmps13
      go_wp2
      go_ret
      exact ⟨rfl, rfl⟩
  by_cases h3 : k = 3
  · subst h3
    clear h2
    have e : inM 3 s = (eqC s || eqR s) := rfl
    rw [e]
    rcases Bool.eq_false_or_eq_true (eqC s) with c1 | c1
    · rw [c1]
      unfold eqC at c1
      go_enter Try.func13, Try.ntmps13
      go_wp2
      go_ret
      exact ⟨rfl, rfl⟩
    · rw [c1]
      unfold eqC at c1
      go_enter Try.func13, Try.ntmps13
      go_wp2
      go_ret
      exact ⟨rfl, rfl⟩
  by_cases h4 : k = 4
  · subst h4
    clear h2 h3
    go_enter Try.func13, Try.ntmps13
    go_wp2_with (go_at_call 11; refine (refis_any s _).mono ?_; rintro e w' ⟨rfl, rfl⟩)
    go_ret
    exact ⟨rfl, rfl⟩
  by_cases h5 : k = 5
  · subst h5
    clear h2 h3 h4
    go_enter Try.func13, Try.ntmps13
    go_wp2_with fail
    go_ret
    exact ⟨rfl, rfl⟩
  have e : inM k s = false := by simp [inM, h2, h3, h4, h5]
  rw [e]
  clear e
  have g2 : (k == 2) = false := by simpa using h2
  have g3 : (k == 3) = false := by simpa using h3
  have g4 : (k == 4) = false := by simpa using h4
  have g5 : (k == 5) = false := by simpa using h5
  clear h2 h3 h4 h5
  go_enter Try.func13, Try.ntmps13
  go_wp2_with fail
  go_ret
  exact ⟨rfl, rfl⟩
end Go.Proofs.Ytpafhlhoibmocaa
