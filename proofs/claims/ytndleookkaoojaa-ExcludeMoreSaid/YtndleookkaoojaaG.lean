/- The walks of ExcludeMore and ExcludeTells: true for every two lists that can be read and every two strings. -/
import Derived.Test.YtndleookkaoojaaF
namespace Go.Proofs.Ytndleookkaoojaa
open Go.RowKit

/-! ### plain facts on addM -/
theorem eqB_hit {x y : Ex} (h : eqB x y = true) (g n : ByteArray) : hitB x g n = hitB y g n := by
  simp only [eqB, Bool.and_eq_true, beq_iff_eq] at h
  simp only [hitB, fitsB, h.1, h.2]
theorem any_of_eqB {out : List Ex} {x : Ex} (h : out.any (fun y => eqB x y) = true) {g n : ByteArray} (hx : hitB x g n = true) : out.any (fun y => hitB y g n) = true := by
  rw [List.any_eq_true] at h ⊢
  obtain ⟨y, hy, he⟩ := h
  exact ⟨y, hy, by rw [← eqB_hit he]; exact hx⟩
theorem addM_any (g n : ByteArray) : ∀ (m out : List Ex), (addM out m).any (fun y => hitB y g n) = (out.any (fun y => hitB y g n) || m.any (fun y => hitB y g n))
  | [], out => by simp [addM]
  | x :: t, out => by
    rw [addM, addM_any g n t]
    rcases Bool.eq_false_or_eq_true (out.any (fun y => eqB x y)) with h | h
    · rw [h]
      simp only [if_true, List.any_cons]
      rcases Bool.eq_false_or_eq_true (hitB x g n) with h1 | h1
      · rw [any_of_eqB h h1, h1]; simp
      · rw [h1]; simp
    · rw [h]
      simp [Bool.or_assoc]
theorem addM_keeps (p : Ex → Bool) : ∀ (m out : List Ex), out.any p = true → (addM out m).any p = true
  | [], out, h => h
  | x :: t, out, h => by
    rw [addM]
    refine addM_keeps p t _ ?_
    split
    · exact h
    · rw [List.any_append, h]; rfl
theorem addM_has : ∀ (m out : List Ex) (x : Ex), x ∈ m → (addM out m).any (fun y => eqB x y) = true
  | x :: t, out, z, hz => by
    rw [addM]
    rcases List.mem_cons.1 hz with rfl | hz
    · refine addM_keeps _ t _ ?_
      rcases Bool.eq_false_or_eq_true (out.any (fun y => eqB z y)) with h | h
      · rw [h]; exact h
      · rw [h]; simp [eqB_self]
    · exact addM_has t _ z hz
theorem addM_idle : ∀ (m a : List Ex), (∀ x ∈ m, a.any (fun y => eqB x y) = true) → addM a m = a
  | [], a, _ => rfl
  | x :: t, a, h => by
    rw [addM, h x (by simp)]
    exact addM_idle t a fun z hz => h z (by simp [hz])
theorem addM_again (l m : List Ex) : addM (addM l m) m = addM l m := addM_idle m _ fun x hx => addM_has m l x hx
theorem addM_len : ∀ (m out : List Ex), out.length ≤ (addM out m).length ∧ (addM out m).length ≤ out.length + m.length
  | [], out => by simp [addM]
  | x :: t, out => by
    rw [addM]
    have := addM_len t (if out.any (fun y => eqB x y) then out else out ++ [x])
    split at this
    · rename_i h; simp only [h, if_true]; simp; omega
    · rename_i h; simp only [h]; simp at this ⊢; omega
def star : Ex := (⟨#[42]⟩, ⟨#[42]⟩)
theorem star_hit (g n : ByteArray) : hitB star g n = true := by simp only [hitB, star]; rw [fitsB_star, fitsB_star]; rfl
theorem all_hit (a : List Ex) (g n : ByteArray) : (addM a [star]).any (fun y => hitB y g n) = true := by
  rw [addM_any]; simp [star_hit]
theorem hit_nil (g m : ByteArray) (w : World) : Calls Try.prog 8 #[.slice none 0 0, .string g, .string m] w fun e w' => e = .returned (.bool false) ∧ Below w.heap.size w w' :=
  hit_any none 0 [] g m w (by simp) (reads_nil w)
theorem add_star (A : Option Addr) (c : Nat) (l : List Ex) (B : Nat) (w : World) (hn : l.length ≤ 1000) (hl : ReadsEx w A l) (hm : ReadsEx w (some ⟨B, 0, none⟩) [star]) :
    Calls Try.prog 11 #[.slice A l.length c, .slice (some ⟨B, 0, none⟩) 1 1] w (AddPost2 l [star] w) := add2_any A _ c 1 l [star] w hn (by simp) (by simp) hl hm

set_option maxHeartbeats 1000000 in
set_option maxRecDepth 100000 in
theorem more_any (A B : Option Addr) (c d : Nat) (l m : List Ex) (g n : ByteArray) (w : World) (hl : ReadsEx w A l) (hm : ReadsEx w B m) (hl63 : l.length ≤ 9223372036854775807) (hm63 : m.length ≤ 9223372036854775807) (hd : m.length ≤ d) :
    Calls Try.prog 4 #[.slice A l.length c, .slice B m.length d, .string g, .string n] w fun e w' => e = .returned (.bool true) ∧ Below w.heap.size w w' := by
  have HL := Lib.hid hl
  have HM := Lib.hid hm
  clear hl hm
  by_cases h1 : 60 < l.length
  · have h1' : 60 < (l.length : Int) := by omega
    go_enter Try.func4, Try.ntmps4
    go_wp2_with (go_at_call 6; refine (awake_any _).mono ?_; rintro e w2 ⟨rfl, hb2⟩)
    go_ret
    exact ⟨rfl, hb2⟩
  by_cases h2 : 60 < m.length
  · have h2' : 60 < (m.length : Int) := by omega
    have h1' : (l.length : Int) ≤ 60 := by omega
    go_enter Try.func4, Try.ntmps4
    go_wp2_with (go_at_call 6; refine (awake_any _).mono ?_; rintro e w2 ⟨rfl, hb2⟩)
    go_ret
    exact ⟨rfl, hb2⟩
  have h2' : (m.length : Int) ≤ 60 := by omega
  have h1' : (l.length : Int) ≤ 60 := by omega
  have hlen := addM_len m l
  have hlen1 : ((addM l m).length : Int) ≤ 120 := by omega
  have hlen2 : (l.length : Int) ≤ ((addM l m).length : Int) := by omega
  have HG := Lib.hid (addM_again l m)
  have HA := Lib.hid (addM_any g n m l)
  have HSS := Lib.hid (sameB_self (addM l m))
  have HALL := Lib.hid (all_hit (addM l m) g n)
  clear h1 h2 hlen
  generalize hae : addM l m = a at *
  have HAE := Lib.hid hae
  clear hae
  rcases Bool.eq_false_or_eq_true (l.any (fun y => hitB y g n)) with c1 | c1 <;> rcases Bool.eq_false_or_eq_true (m.any (fun y => hitB y g n)) with c2 | c2
  all_goals
    rw [c1, c2] at HA
    simp only [Bool.or_true, Bool.or_false, Bool.or_self] at HA
    have C1 := Lib.hid c1
    have C2 := Lib.hid c2
    clear c1 c2
    go_enter Try.func4, Try.ntmps4
    go_wp2_with fail
    refine (add2_any A B c d l m _ (by omega) (by omega) hd HL.out HM.out).mono ?_
    unfold AddPost2
    rw [HAE.out]
    rintro e w1 ⟨A1, c1, rfl, hr1, hb1⟩
    have HR1 := Lib.hid hr1
    clear hr1
    go_wp2_with fail
    refine (hit_any A c l g n _ (by omega) (HL.out.below hb1)).mono ?_
    rw [C1.out]
    rintro e w2 ⟨rfl, hb2⟩
    go_wp2_with fail
    try
      with_reducible refine (hit_any B d m g n _ (by omega) (HM.out.below (by repeat (first | (with_reducible exact Below.refl _ _) | (with_reducible assumption) | (refine bthen ?_ (by with_reducible assumption)) | (refine balloc ?_ _))))).mono ?_
      rw [C2.out]
      rintro e w9 ⟨rfl, hb9⟩
      go_wp2_with fail
    refine (add_star A1 c1 a _ _ (by omega) (HR1.out.below (by repeat (first | (with_reducible exact Below.refl _ _) | (with_reducible assumption) | (refine bthen ?_ (by with_reducible assumption)) | (refine balloc ?_ _)))) (reads_at _ star _ rfl)).mono ?_
    unfold AddPost2
    rintro e w3 ⟨A2, c2, rfl, hr2, hb3⟩
    have HR2 := Lib.hid hr2
    clear hr2
    go_wp2_with fail
    refine (awake_any _).mono ?_
    rintro e w4 ⟨rfl, hb4⟩
    go_wp2_with fail
    refine (hit_any A1 c1 a g n _ (by omega) (HR1.out.below (by repeat (first | (with_reducible exact Below.refl _ _) | (with_reducible assumption) | (refine bthen ?_ (by with_reducible assumption)) | (refine balloc ?_ _))))).mono ?_
    rw [HA.out]
    rintro e w5 ⟨rfl, hb5⟩
    go_wp2_with fail
    refine (add2_any A1 B c1 d a m _ (by omega) (by omega) hd (HR1.out.below (by repeat (first | (with_reducible exact Below.refl _ _) | (with_reducible assumption) | (refine bthen ?_ (by with_reducible assumption)) | (refine balloc ?_ _)))) (HM.out.below (by repeat (first | (with_reducible exact Below.refl _ _) | (with_reducible assumption) | (refine bthen ?_ (by with_reducible assumption)) | (refine balloc ?_ _))))).mono ?_
    unfold AddPost2
    rw [HG.out]
    rintro e w6 ⟨A3, c3, rfl, hr3, hb6⟩
    have HR3 := Lib.hid hr3
    clear hr3
    go_wp2_with fail
    refine (plain_any A3 A1 c3 c1 a a _ (by omega) (by omega) HR3.out (HR1.out.below (by repeat (first | (with_reducible exact Below.refl _ _) | (with_reducible assumption) | (refine bthen ?_ (by with_reducible assumption)) | (refine balloc ?_ _))))).mono ?_
    rw [HSS.out]
    rintro e w7 ⟨rfl, hb7⟩
    go_wp2_with fail
    refine (hit_any A2 c2 (addM a [star]) g n _ (by have := addM_len [star] a; simp at this; omega) (HR2.out.below (by repeat (first | (with_reducible exact Below.refl _ _) | (with_reducible assumption) | (refine bthen ?_ (by with_reducible assumption)) | (refine balloc ?_ _))))).mono ?_
    rw [HALL.out]
    rintro e w8 ⟨rfl, hb8⟩
    go_wp2_with fail
    refine (hit_nil _ _ _).mono ?_
    rintro e w10 ⟨rfl, hb10⟩
    go_wp2_with fail
    go_ret
    exact ⟨rfl, (by repeat (first | (with_reducible exact Below.refl _ _) | (with_reducible assumption) | (refine bthen ?_ (by with_reducible assumption)) | (refine balloc ?_ _)))⟩

def ex71 : Ex := (⟨#[55, 49]⟩, ⟨#[]⟩)
set_option maxHeartbeats 1000000 in
set_option maxRecDepth 100000 in
theorem tells_any (A B : Option Addr) (c d : Nat) (l m : List Ex) (g n : ByteArray) (w : World) (hl : ReadsEx w A l) (hm : ReadsEx w B m) (hl63 : l.length ≤ 9223372036854775807) (hm63 : m.length ≤ 9223372036854775807) :
    Calls Try.prog 3 #[.slice A l.length c, .slice B m.length d, .string g, .string n] w fun e w' => e = .returned (.bool true) ∧ Below w.heap.size w w' := by
  have HL := Lib.hid hl
  have HM := Lib.hid hm
  clear hl hm
  by_cases h1 : 60 < l.length
  · have h1' : 60 < (l.length : Int) := by omega
    go_enter Try.func3, Try.ntmps3
    go_wp2_with (go_at_call 6; refine (awake_any _).mono ?_; rintro e w2 ⟨rfl, hb2⟩)
    go_ret
    exact ⟨rfl, hb2⟩
  by_cases h2 : 60 < m.length
  · have h2' : 60 < (m.length : Int) := by omega
    have h1' : (l.length : Int) ≤ 60 := by omega
    go_enter Try.func3, Try.ntmps3
    go_wp2_with (go_at_call 6; refine (awake_any _).mono ?_; rintro e w2 ⟨rfl, hb2⟩)
    go_ret
    exact ⟨rfl, hb2⟩
  have h2' : (m.length : Int) ≤ 60 := by omega
  have h1' : (l.length : Int) ≤ 60 := by omega
  have hlen := addM_len m l
  have hlen1 : (addM l m).length ≤ 120 := by omega
  have HS1 := Lib.hid (sameB_self (addM l m))
  clear h1 h2 hlen
  go_enter Try.func3, Try.ntmps3
  go_wp2_with fail
  refine (own_any A c l ex71 _ (by omega) HL.out).mono ?_
  rintro e w1 ⟨B1, rfl, hr1, hb1⟩
  have HR1 := Lib.hid hr1
  clear hr1
  go_wp2_with fail
  refine (own_any B d m ex71 _ (by omega) (HM.out.below (by repeat (first | (with_reducible exact Below.refl _ _) | (with_reducible assumption) | (refine bthen ?_ (by with_reducible assumption)) | (refine balloc ?_ _))))).mono ?_
  rintro e w2 ⟨B2, rfl, hr2, hb2⟩
  have HR2 := Lib.hid hr2
  clear hr2
  go_wp2_with fail
  refine (awake_any _).mono ?_
  rintro e w3 ⟨rfl, hb3⟩
  go_wp2_with fail
  refine (hit_any (some ⟨B1, 0, none⟩) (l.length + 3) l g n _ (by omega) (reads_take (HR1.out.below (by repeat (first | (with_reducible exact Below.refl _ _) | (with_reducible assumption) | (refine bthen ?_ (by with_reducible assumption)) | (refine balloc ?_ _)))))).mono ?_
  rintro e w4 ⟨rfl, hb4⟩
  go_wp2_with fail
  refine (rhit_any A c l g n _ (by omega) (HL.out.below (by repeat (first | (with_reducible exact Below.refl _ _) | (with_reducible assumption) | (refine bthen ?_ (by with_reducible assumption)) | (refine balloc ?_ _))))).mono ?_
  rintro e w5 ⟨rfl, rfl⟩
  go_wp2_with fail
  refine (add2_any (some ⟨B1, 0, none⟩) (some ⟨B2, 0, none⟩) (l.length + 3) (m.length + 3) l m _ (by omega) (by omega) (by omega) (reads_take (HR1.out.below (by repeat (first | (with_reducible exact Below.refl _ _) | (with_reducible assumption) | (refine bthen ?_ (by with_reducible assumption)) | (refine balloc ?_ _))))) (reads_take (HR2.out.below (by repeat (first | (with_reducible exact Below.refl _ _) | (with_reducible assumption) | (refine bthen ?_ (by with_reducible assumption)) | (refine balloc ?_ _)))))).mono ?_
  rintro e w6 ⟨A3, c3, rfl, hr3, hb6⟩
  have HR3 := Lib.hid hr3
  clear hr3
  go_wp2_with fail
  refine (radd2_any A B c d l m _ (by omega) (by omega) (HL.out.below (by repeat (first | (with_reducible exact Below.refl _ _) | (with_reducible assumption) | (refine bthen ?_ (by with_reducible assumption)) | (refine balloc ?_ _)))) (HM.out.below (by repeat (first | (with_reducible exact Below.refl _ _) | (with_reducible assumption) | (refine bthen ?_ (by with_reducible assumption)) | (refine balloc ?_ _))))).mono ?_
  rintro e w7 ⟨A4, c4, rfl, hr4, hb7⟩
  have HR4 := Lib.hid hr4
  clear hr4
  go_wp2_with fail
  refine (plain_any A3 A4 c3 c4 (addM l m) (addM l m) _ (by omega) (by omega) (HR3.out.below (by repeat (first | (with_reducible exact Below.refl _ _) | (with_reducible assumption) | (refine bthen ?_ (by with_reducible assumption)) | (refine balloc ?_ _)))) HR4.out).mono ?_
  rw [HS1.out]
  rintro e w8 ⟨rfl, hb8⟩
  go_wp2_with fail
  refine (kept_any B1 A c l ex71 _ (by omega) (HR1.out.below (by repeat (first | (with_reducible exact Below.refl _ _) | (with_reducible assumption) | (refine bthen ?_ (by with_reducible assumption)) | (refine balloc ?_ _)))) (HL.out.below (by repeat (first | (with_reducible exact Below.refl _ _) | (with_reducible assumption) | (refine bthen ?_ (by with_reducible assumption)) | (refine balloc ?_ _)))) (sameB_self l)).mono ?_
  rintro e w9 ⟨rfl, hb9⟩
  go_wp2_with fail
  refine (kept_any B2 B d m ex71 _ (by omega) (HR2.out.below (by repeat (first | (with_reducible exact Below.refl _ _) | (with_reducible assumption) | (refine bthen ?_ (by with_reducible assumption)) | (refine balloc ?_ _)))) (HM.out.below (by repeat (first | (with_reducible exact Below.refl _ _) | (with_reducible assumption) | (refine bthen ?_ (by with_reducible assumption)) | (refine balloc ?_ _)))) (sameB_self m)).mono ?_
  rintro e w10 ⟨rfl, hb10⟩
  go_wp2_with fail
  go_ret
  exact ⟨rfl, (by repeat (first | (with_reducible exact Below.refl _ _) | (with_reducible assumption) | (refine bthen ?_ (by with_reducible assumption)) | (refine balloc ?_ _)))⟩

theorem len63 {n c : Nat} (h : n ≤ c) (hc : c ≤ maxLen) : n ≤ 9223372036854775807 := by unfold maxLen at hc; omega
theorem more_row (W : World) (A : Option Addr) (c : Nat) (l : List Ex) (B : Option Addr) (d : Nat) (m : List Ex) (g n : ByteArray) (le0 : l.length ≤ c) (ca0 : c ≤ maxLen) (re0 : ReadsEx W A l) (le1 : m.length ≤ d) (ca1 : d ≤ maxLen) (re1 : ReadsEx W B m) (_w2 : g.size ≤ maxLen) (_w3 : n.size ≤ maxLen) :
    Calls Try.prog 4 #[.slice A l.length c, .slice B m.length d, .string g, .string n] W fun e w' => e = .returned (.bool true) ∧ Below W.heap.size W w' :=
  more_any A B c d l m g n W re0 re1 (len63 le0 ca0) (len63 le1 ca1) le1
theorem tells_row (W : World) (A : Option Addr) (c : Nat) (l : List Ex) (B : Option Addr) (d : Nat) (m : List Ex) (g n : ByteArray) (le0 : l.length ≤ c) (ca0 : c ≤ maxLen) (re0 : ReadsEx W A l) (le1 : m.length ≤ d) (ca1 : d ≤ maxLen) (re1 : ReadsEx W B m) (_w2 : g.size ≤ maxLen) (_w3 : n.size ≤ maxLen) :
    Calls Try.prog 3 #[.slice A l.length c, .slice B m.length d, .string g, .string n] W fun e w' => e = .returned (.bool true) ∧ Below W.heap.size W w' :=
  tells_any A B c d l m g n W re0 re1 (len63 le0 ca0) (len63 le1 ca1)
theorem just_row (W : World) (a b g n : ByteArray) (w0 : a.size ≤ maxLen) (w1 : b.size ≤ maxLen) (w2 : g.size ≤ maxLen) (w3 : n.size ≤ maxLen) :
    Calls Try.prog 5 #[.string a, .string b, .string g, .string n] W fun e w' => e = .returned (.bool true) ∧ Below W.heap.size W w' := just_any a b g n w0 w1 w2 w3 W
end Go.Proofs.Ytndleookkaoojaa
