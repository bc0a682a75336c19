/- ManageStays: what follows of Inject and Override, and two Deps stored into two blocks. -/
import Derived.Test.YtfcnmghhhgghcaaS
namespace Go.Proofs.Ytfcnmghhhgghcaa
open Go.RowKit

theorem key_inj (d : Dp) (l : List Dp) : keyS (injM d l) = keyS d := by unfold injM; split <;> rfl
theorem key_ov (d : Dp) (l : List Dp) : keyS (ovM d l) = keyS d := by unfold ovM; split <;> rfl
theorem o_inj (d : Dp) (l : List Dp) : (injM d l).o = d.o := by unfold injM; split <;> rfl
theorem or_or (a b : ByteArray) : orS (orS a b) b = orS a b := by
  unfold orS
  by_cases h : a.toList = []
  · simp [h]
  · simp [h]
theorem inj_inj (d : Dp) (l : List Dp) : injM (injM d l) l = injM d l := by
  by_cases h : findB l (keyS d) = true
  · have e : injM d l = { d with v := orS d.v (findD l (keyS d)).v, s := orS d.s (findD l (keyS d)).s, e := if d.e = [] then (findD l (keyS d)).e else d.e } := by rw [injM, if_pos h]
    have e2 : injM (injM d l) l = { injM d l with v := orS (injM d l).v (findD l (keyS d)).v, s := orS (injM d l).s (findD l (keyS d)).s, e := if (injM d l).e = [] then (findD l (keyS d)).e else (injM d l).e } := by rw [injM, key_inj, if_pos h]
    rw [e2, e]
    dsimp only
    rw [or_or, or_or]
    by_cases he : d.e = []
    · simp [he]
    · simp [he]
  · have e : injM d l = d := by rw [injM, if_neg h]
    rw [e, e]
theorem or_size (a b : ByteArray) (n : Nat) (ha : a.size ≤ n) (hb : b.size ≤ n) : (orS a b).size ≤ n := by unfold orS; split <;> assumption
theorem ok_inj {d : Dp} {l : List Dp} (hd : DpOk d) (hm : DpOk (findD l (keyS d))) : DpOk (injM d l) := by
  unfold injM
  split
  · refine ⟨hd.1, hd.2.1, or_size _ _ _ hd.2.2.1 hm.2.2.1, hd.2.2.2.1, hd.2.2.2.2.1, or_size _ _ _ hd.2.2.2.2.2.1 hm.2.2.2.2.2.1, ?_⟩
    show (if d.e = [] then _ else _ : List Ex).length ≤ _
    split
    · exact hm.2.2.2.2.2.2
    · exact hd.2.2.2.2.2.2
  · exact hd
theorem ok_ov {d : Dp} {l : List Dp} (hd : DpOk d) (hm : DpOk (findD l (keyS d))) (hs : d.e.length + (findD l (keyS d)).e.length ≤ 4398046510976) : DpOk (ovM d l) := by
  unfold ovM
  split
  · refine ⟨hd.1, hd.2.1, or_size _ _ _ hm.2.2.1 hd.2.2.1, hd.2.2.2.1, hd.2.2.2.2.1, or_size _ _ _ hm.2.2.2.2.2.1 hd.2.2.2.2.2.1, ?_⟩
    show (d.e ++ _ : List Ex).length ≤ _
    rw [List.length_append]; exact hs
  · exact hd
/-- The list's block is not block b. -/
def NotAt (A : Option Addr) (n b : Nat) : Prop := ∀ ad, A = some ad → 0 < n → ad.block ≠ b
theorem NotAt.new {w : World} {A : Option Addr} {l : List Ex} (h : ReadsEx w A l) : NotAt A l.length w.heap.size := fun ad hA hn => by
  obtain ⟨ad', e, hc⟩ := h hn
  rw [e] at hA
  injection hA with hA
  subst hA
  have := (hc 0 hn).lt
  rw [block_of_add] at this
  omega
theorem NotAt.own {w : World} {base b : Nat} {A : Option Addr} {l : List Ex} {k : Nat} (h : OwnsEx w base (.slice A l.length k) l) (hb : b < base) : NotAt A l.length b := fun ad hA hn => by
  rcases h.2 with ⟨h0, h1⟩ | ⟨g, cap, cur, h1, h2, _⟩
  · omega
  · injection h1 with h1
    rw [hA] at h1
    injection h1 with h1
    rw [h1]
    show g ≠ b
    omega
theorem Own8.far8 {w : World} {b b' : Nat} {I O : Dp} {A A' : Option Addr} {k k' : Nat} (h : Own8 w b I A k) (hne : b' ≠ b) : Own8 (put8 w b' O A' k') b I A k :=
  (((((((h.farc ⟨b', 0, none⟩ hne _).farc ⟨b', 1, none⟩ hne _).farc ⟨b', 2, none⟩ hne _).farc ⟨b', 3, none⟩ hne _).farc ⟨b', 4, none⟩ hne _).farc ⟨b', 5, none⟩ hne _).farc ⟨b', 6, none⟩ hne _).farc ⟨b', 7, none⟩ hne _
theorem At8.far8 {w : World} {b b' : Nat} {I O : Dp} {A A' : Option Addr} {k k' : Nat} (h : At8 w b I A k) (hne : b' ≠ b) (n : NotAt A I.e.length b') : At8 (put8 w b' O A' k') b I A k :=
  ⟨h.o.far8 hne, h.r.far8 b' n O A' k'⟩
theorem At8.put {w : World} {b : Nat} {I : Dp} {A : Option Addr} {k : Nat} (h : Room w b) (r : ReadsEx w A I.e) (n : NotAt A I.e.length b) : At8 (put8 w b I A k) b I A k :=
  ⟨Own8.of_put8 h I A k, r.far8 b n I A k⟩
end Go.Proofs.Ytfcnmghhhgghcaa
