/- The law's awake, and the walk of ExcludeJust: true for every four strings. -/
import Derived.Test.YtndleookkaoojaaE
namespace Go.Proofs.Ytndleookkaoojaa
open Go.RowKit

theorem balloc {w W : World} (h : Below w.heap.size w W) (o : Obj) : Below w.heap.size w (W.alloc o) := h.alloc h.size o
theorem reads_new (W : World) (m : List Ex) (hm : m.length ≤ 1000) : ReadsEx (W.alloc (.cells (cellsOf m).toArray 26)) (some ⟨W.heap.size, 0, none⟩) m := by
  have h := World.ownsRow_lit (base := W.heap.size) (e := 26) (size := 2) W (cellsOf m).toArray m.length (Nat.le_refl _) (by unfold maxLen; omega) (by simp [cellsOf_len])
  exact readsEx_of (Reads.of_own h)
theorem sameB_self : ∀ l : List Ex, sameB l l = true
  | [] => rfl
  | x :: t => by simp only [sameB, sameB_self t, eqB]; simp
theorem reads_nil (w : World) : ReadsEx w none [] := fun h => by simp at h

def AddPost2 (l m : List Ex) (w : World) (e : Ending) (w' : World) : Prop := ∃ A c, e = .returned (.slice A (addM l m).length c) ∧ ReadsEx w' A (addM l m) ∧ Below w.heap.size w w'
theorem add2_any (A B : Option Addr) (c d : Nat) (l m : List Ex) (w : World) (hn : l.length ≤ 1000) (hn2 : m.length ≤ 1000) (hd : m.length ≤ d) (hl : ReadsEx w A l) (hm : ReadsEx w B m) :
    Calls Try.prog 11 #[.slice A l.length c, .slice B m.length d] w (AddPost2 l m w) :=
  (add_any A B c d l m w hn hn2 hd hl hm).mono fun e w' ⟨v, he, ho, hb⟩ => by
    obtain ⟨A', c', hv, hr⟩ := ho.slice
    exact ⟨A', c', by rw [he, hv], hr, hb⟩
theorem radd2_any (A B : Option Addr) (c d : Nat) (l m : List Ex) (w : World) (hn : l.length ≤ 1000) (hn2 : m.length ≤ 1000) (hl : ReadsEx w A l) (hm : ReadsEx w B m) :
    Calls Try.prog 12 #[.slice A l.length c, .slice B m.length d] w (AddPost2 l m w) :=
  (radd_any A B c d l m w hn hn2 hl hm).mono fun e w' ⟨v, he, ho, hb⟩ => by
    obtain ⟨A', c', hv, hr⟩ := ho.slice
    exact ⟨A', c', by rw [he, hv], hr, hb⟩

def exSA : Ex := (⟨#[42]⟩, ⟨#[97]⟩)
def exG : Ex := (⟨#[103]⟩, ⟨#[]⟩)
theorem eqB_self (x : Ex) : eqB x x = true := by simp [eqB]
theorem fitsB_star (n : ByteArray) : fitsB ⟨#[42]⟩ n = true := by
  simp [fitsB, ByteArray.toList_eq]
theorem fitsB_self (n : ByteArray) : fitsB n n = true := by simp [fitsB]
theorem aw1 : [exSA].any (fun x => hitB x ⟨#[103]⟩ ⟨#[97]⟩) = true := by
  simp [hitB, exSA, fitsB_star, fitsB_self]
theorem aw2 : addM [] [exG, exG] = [exG] := by
  simp [addM, eqB_self]

set_option maxHeartbeats 400000 in
theorem awake_any (w : World) : Calls Try.prog 6 #[] w fun e w' => e = .returned (.bool true) ∧ Below w.heap.size w w' := by
  have H1 := Lib.hid aw1
  have H2 := Lib.hid aw2
  go_enter Try.func6, Try.ntmps6
  go_wp2_with (first | (go_at_call 8; refine (hit_any (some ⟨_, 0, none⟩) 1 [exSA] ⟨#[103]⟩ ⟨#[97]⟩ _ (by decide) (reads_new _ [exSA] (by decide))).mono ?_; rw [H1.out]; rintro e w1 ⟨rfl, hb1⟩) | (go_at_call 11; refine (add2_any none (some ⟨_, 0, none⟩) 0 2 [] [exG, exG] _ (by decide) (by decide) (by decide) (reads_nil _) (reads_new _ [exG, exG] (by decide))).mono ?_; unfold AddPost2; rw [H2.out]; rintro e w2 ⟨A2, c2, rfl, hr2, hb2⟩))
  go_ret
  exact ⟨rfl, by repeat (first | (with_reducible exact Below.refl _ _) | (with_reducible assumption) | (refine bthen ?_ (by with_reducible assumption)) | (refine balloc ?_ _))⟩

theorem hit_one (B c : Nat) (x : Ex) (g m : ByteArray) (w : World) (hl : ReadsEx w (some ⟨B, 0, none⟩) [x]) :
    Calls Try.prog 8 #[.slice (some ⟨B, 0, none⟩) 1 c, .string g, .string m] w fun e w' => e = .returned (.bool (hitB x g m)) ∧ Below w.heap.size w w' := by
  have h := hit_any (some ⟨B, 0, none⟩) c [x] g m w (by simp) hl
  have e : [x].any (fun x => hitB x g m) = hitB x g m := by simp
  rw [e] at h
  exact h
theorem reads_at (W : World) (x : Ex) (n : Nat) (hn : n = W.heap.size) : ReadsEx (W.alloc (.cells #[.string x.1, .string x.2] 26)) (some ⟨n, 0, none⟩) [x] := by
  subst hn; exact reads_new W [x] (by simp)
theorem just_one (g m x y : ByteArray) (hg : (g.toList == [42]) = false) (hm : (m.toList == [42]) = false) : hitB (g, m) x y = (g.toList == x.toList && m.toList == y.toList) := by
  simp only [hitB, fitsB, hg, hm, Bool.false_or]
theorem just_left (m x y : ByteArray) (hm : (m.toList == [42]) = false) : hitB (⟨#[42]⟩, m) x y = (m.toList == y.toList) := by
  simp only [hitB]; rw [fitsB_star, Bool.true_and]; simp only [fitsB, hm, Bool.false_or]
theorem just_right (g x y : ByteArray) (hg : (g.toList == [42]) = false) : hitB (g, ⟨#[42]⟩) x y = (g.toList == x.toList) := by
  simp only [hitB]; rw [fitsB_star, Bool.and_true]; simp only [fitsB, hg, Bool.false_or]

set_option maxHeartbeats 1000000 in
set_option maxRecDepth 100000 in
theorem just_any (a b g n : ByteArray) (w0 : a.size ≤ maxLen) (w1 : b.size ≤ maxLen) (w2 : g.size ≤ maxLen) (w3 : n.size ≤ maxLen) (w : World) :
    Calls Try.prog 5 #[.string a, .string b, .string g, .string n] w fun e w' => e = .returned (.bool true) ∧ Below w.heap.size w w' := by
  unfold maxLen at w0 w1 w2 w3
  by_cases h0 : (a.size : Int) ≤ 50 ∧ (b.size : Int) ≤ 50 ∧ (g.size : Int) ≤ 50 ∧ (n.size : Int) ≤ 50 ∧ (a.toList == [42]) = false ∧ (b.toList == [42]) = false
  · obtain ⟨h1, h2, h3, h4, h5, h6⟩ := h0
    have H1 := Lib.hid (just_one a b g n h5 h6)
    have H2 := Lib.hid (just_left b g n h6)
    have H3 := Lib.hid (just_right a g n h5)
    have R1 := Lib.hid (reads_alloc (reads_alloc (reads_at w (a, b) w.heap.size rfl) (.cells #[.string ⟨#[42]⟩, .string b] 26)) (.cells #[.string a, .string ⟨#[42]⟩] 26))
    have R2 := Lib.hid (reads_alloc (reads_at (w.alloc (.cells #[.string a, .string b] 26)) (⟨#[42]⟩, b) (w.heap.size + 1) (by simp)) (.cells #[.string a, .string ⟨#[42]⟩] 26))
    have R3 := Lib.hid (reads_at ((w.alloc (.cells #[.string a, .string b] 26)).alloc (.cells #[.string ⟨#[42]⟩, .string b] 26)) (a, ⟨#[42]⟩) (w.heap.size + 2) (by simp))
    have HB : Hid (Below w.heap.size w (((w.alloc (.cells #[.string a, .string b] 26)).alloc (.cells #[.string ⟨#[42]⟩, .string b] 26)).alloc (.cells #[.string a, .string ⟨#[42]⟩] 26))) := Lib.hid (balloc (balloc (balloc (Below.refl _ _) _) _) _)
    rcases Bool.eq_false_or_eq_true (a.toList == g.toList) with e1 | e1 <;> rcases Bool.eq_false_or_eq_true (b.toList == n.toList) with e2 | e2
    all_goals
      rw [e1, e2] at H1
      rw [e2] at H2
      rw [e1] at H3
      go_enter Try.func5, Try.ntmps5
      go_wp2_with fail
      generalize ((w.alloc (.cells #[.string a, .string b] 26)).alloc (.cells #[.string ⟨#[42]⟩, .string b] 26)).alloc (.cells #[.string a, .string ⟨#[42]⟩] 26) = W at *
      refine (awake_any _).mono ?_
      rintro e w4 ⟨rfl, hb4⟩
      go_wp2_with (go_at_call 8; first | ((with_reducible refine (hit_one w.heap.size 1 (a, b) g n _ (R1.out.below (by repeat (first | (with_reducible exact Below.refl _ _) | (with_reducible assumption) | (refine bthen ?_ (by with_reducible assumption)))))).mono ?_); rw [H1.out]; rintro e w5 ⟨rfl, hb5⟩) | ((with_reducible refine (hit_one (w.heap.size + 1) 1 (⟨#[42]⟩, b) g n _ (R2.out.below (by repeat (first | (with_reducible exact Below.refl _ _) | (with_reducible assumption) | (refine bthen ?_ (by with_reducible assumption)))))).mono ?_); rw [H2.out]; rintro e w6 ⟨rfl, hb6⟩) | ((with_reducible refine (hit_one (w.heap.size + 2) 1 (a, ⟨#[42]⟩) g n _ (R3.out.below (by repeat (first | (with_reducible exact Below.refl _ _) | (with_reducible assumption) | (refine bthen ?_ (by with_reducible assumption)))))).mono ?_); rw [H3.out]; rintro e w7 ⟨rfl, hb7⟩))
      go_ret
      exact ⟨rfl, bthen HB.out (by repeat (first | (with_reducible exact Below.refl _ _) | (with_reducible assumption) | (refine bthen ?_ (by with_reducible assumption))))⟩
  · have go6 : (50 < (a.size : Int) ∨ ((a.size : Int) ≤ 50 ∧ 50 < (b.size : Int)) ∨ ((a.size : Int) ≤ 50 ∧ (b.size : Int) ≤ 50 ∧ 50 < (g.size : Int)) ∨ ((a.size : Int) ≤ 50 ∧ (b.size : Int) ≤ 50 ∧ (g.size : Int) ≤ 50 ∧ 50 < (n.size : Int)) ∨
        ((a.size : Int) ≤ 50 ∧ (b.size : Int) ≤ 50 ∧ (g.size : Int) ≤ 50 ∧ (n.size : Int) ≤ 50 ∧ (a.toList == [42]) = true) ∨ ((a.size : Int) ≤ 50 ∧ (b.size : Int) ≤ 50 ∧ (g.size : Int) ≤ 50 ∧ (n.size : Int) ≤ 50 ∧ (a.toList == [42]) = false ∧ (b.toList == [42]) = true)) := by
      rcases Bool.eq_false_or_eq_true (a.toList == [42]) with c1 | c1 <;> rcases Bool.eq_false_or_eq_true (b.toList == [42]) with c2 | c2 <;> simp only [c1, c2] at h0 ⊢ <;> simp at h0 ⊢ <;> omega
    clear h0
    rcases go6 with h1 | ⟨h1, h2⟩ | ⟨h1, h2, h3⟩ | ⟨h1, h2, h3, h4⟩ | ⟨h1, h2, h3, h4, h5⟩ | ⟨h1, h2, h3, h4, h5, h6⟩
    all_goals
      go_enter Try.func5, Try.ntmps5
      go_wp2_with (go_at_call 6; refine (awake_any _).mono ?_; rintro e w4 ⟨rfl, hb4⟩)
      go_ret
      exact ⟨rfl, hb4⟩
end Go.Proofs.Ytndleookkaoojaa
