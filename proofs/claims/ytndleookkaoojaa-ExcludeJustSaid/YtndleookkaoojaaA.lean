/- The contracts of exclude.fits, Hit and what it calls. -/
import Derived.Test.YtndleookkaoojaaRows
import Derived.WalkKit
import Derived.WalkSpells
import Derived.WalkLawsBesides
import Derived.ScopeJumps
import Derived.Lib.Hide
import Derived.Deep.QuietTactic
import Derived.BigQuiet
namespace Go.Proofs.Ytndleookkaoojaa
open Go.RowKit

def fitsB (m n : ByteArray) : Bool := m.toList == [42] || m.toList == n.toList
def hitB (p : ByteArray × ByteArray) (g n : ByteArray) : Bool := fitsB p.1 g && fitsB p.2 n

set_option maxHeartbeats 400000 in
theorem fits_any (m n : ByteArray) (w : World) : Calls Try.prog 16 #[.string m, .string n] w fun e w' => e = .returned (.bool (fitsB m n)) ∧ w' = w := by
  have H : Hid (fitsB m n = (m.toList == [42] || m.toList == n.toList)) := Lib.hid rfl
  rcases Bool.eq_false_or_eq_true (m.toList == [42]) with h1 | h1
  all_goals
    go_enter Try.func16, Try.ntmps16
    go_wp2
    go_ret
    exact ⟨by rw [H.out, h1]; rfl, rfl⟩

set_option maxHeartbeats 400000 in
theorem hit1_any (x y : ByteArray) (a b : Addr) (g m : ByteArray) (w : World) (ha : w.cell? a = some (.string g)) (hb : w.cell? b = some (.string m)) : Calls Try.prog 15 #[.agg #[.string x, .string y], .pointer (some a), .pointer (some b)] w fun e w' => e = .returned (.bool (hitB (x, y) g m)) ∧ Below w.heap.size w w' := by
  have ha' : (w.alloc (.cells #[.string x, .string y] 26)).cell? a = some (.string g) := by
    rw [World.cell?_alloc_lt]; exact ha; exact World.block_lt_of_cell? _ _ ha
  have hb' : (w.alloc (.cells #[.string x, .string y] 26)).cell? b = some (.string m) := by
    rw [World.cell?_alloc_lt]; exact hb; exact World.block_lt_of_cell? _ _ hb
  have H : Hid (hitB (x, y) g m = (fitsB x g && fitsB y m)) := Lib.hid rfl
  rcases Bool.eq_false_or_eq_true (fitsB x g) with h1 | h1
  all_goals
    go_enter Try.func15, Try.ntmps15
    go_wp2_with (go_at_call 16; refine (fits_any _ _ _).mono ?_; rintro e w' ⟨rfl, rfl⟩)
    go_ret
    exact ⟨by rw [H.out, h1]; rfl, (Below.refl _ _).alloc (Nat.le_refl _) _⟩
abbrev Ex := ByteArray × ByteArray
def exD : Ex := (⟨#[]⟩, ⟨#[]⟩)
def PairAt (w : World) (p : Addr) (x : Ex) : Prop := w.cell? p = some (.string x.1) ∧ w.cell? { block := p.block, off := p.off + 1 } = some (.string x.2)
def ReadsEx (w : World) (A : Option Addr) (l : List Ex) : Prop :=
  0 < l.length → ∃ ad, A = some ad ∧ ∀ j, j < l.length → PairAt w (ad.add (j * 2)) (l.getD j exD)
theorem PairAt.lt {w : World} {p : Addr} {x : Ex} (h : PairAt w p x) : p.block < w.heap.size := World.block_lt_of_cell? _ _ h.1
theorem PairAt.below {w w' : World} {p : Addr} {x : Ex} {B : Nat} (h : PairAt w p x) (hb : Below B w w') (hB : p.block < B) : PairAt w' p x :=
  ⟨(hb.cell hB).trans h.1, (hb.cell (p := { block := p.block, off := p.off + 1 }) hB).trans h.2⟩
theorem ReadsEx.below {w w' : World} {A : Option Addr} {l : List Ex} (h : ReadsEx w A l) (hb : Below w.heap.size w w') : ReadsEx w' A l := fun hn => by
  obtain ⟨ad, e, hc⟩ := h hn
  exact ⟨ad, e, fun j hj => (hc j hj).below hb (hc j hj).lt⟩
theorem bthen {w w1 w2 : World} (h : Below w.heap.size w w1) (k : Below w1.heap.size w1 w2) : Below w.heap.size w w2 := h.trans (k.mono h.size)
theorem bdrewN {B : Nat} {a w : World} (h : Below B a w) (n : Nat) : Below B a (w.drewN n) := ⟨h.os, h.tape, h.output, h.size, h.block⟩
theorem drop_at {α : Type} (l : List α) (d : α) (k : Nat) (h : k < l.length) : l.drop k = l.getD k d :: l.drop (k + 1) := by
  rw [List.drop_eq_getElem_cons h]; simp [List.getD_eq_getElem?_getD, h]

def IdxOf (l : List Ex) (p : Ex → Bool) (w : World) (e : Ending) (w' : World) : Prop :=
  ∃ r : Int, e = .returned (.int .i64 r) ∧ decide (0 ≤ r) = l.any p ∧ Below w.heap.size w w'

set_option maxHeartbeats 400000 in
theorem indexf_any (A : Option Addr) (c : Nat) (l : List Ex) (a b : Addr) (g m : ByteArray) (w : World) (hn : l.length ≤ 100000) (hl : ReadsEx w A l) (ha : w.cell? a = some (.string g)) (hb : w.cell? b = some (.string m)) :
    Calls Try.prog 22 #[.slice A l.length c, .func (.func 15) #[] #[.pointer (some a), .pointer (some b)]] w (IdxOf l (fun x => hitB x g m) w) := by
  have HL := Lib.hid hl
  have HA := Lib.hid ha
  have HB := Lib.hid hb
  clear hl ha hb
  go_enter Try.func22, Try.ntmps22
  go_wp2_with fail
  go_loopw [8] (fun v wr => ∃ k : Nat, v = .int .i64 k ∧ k ≤ l.length ∧ Below w.heap.size w wr ∧ Hid (l.any (fun x => hitB x g m) = (l.drop k).any (fun x => hitB x g m))) (fun v _ => l.length - (intOf v).toNat)
  case atStart => exact ⟨0, rfl, by omega, Below.refl _ _, rfl⟩
  case round =>
    obtain ⟨k, rfl, hk, hb, HK⟩ := hrel
    by_cases hlt : k < l.length
    · obtain ⟨ad, rfl, hc⟩ := (HL.out.below hb) (by omega)
      obtain ⟨hc1, hc2⟩ := hc k hlt
      have HD := Lib.hid (drop_at l exD k hlt)
      clear hc
      generalize l.getD k exD = x at hc1 hc2 HD
      have HX : Hid ((l.drop k).any (fun x => hitB x g m) = (hitB (x.1, x.2) g m || (l.drop (k + 1)).any (fun x => hitB x g m))) := by show _ = _; rw [HD.out]; rfl
      rcases Bool.eq_false_or_eq_true (hitB (x.1, x.2) g m) with h1 | h1
      · go_wp2_with (go_at_call 15; refine (hit1_any x.1 x.2 a b g m _ ((hb.cell (World.block_lt_of_cell? _ _ HA.out)).trans HA.out) ((hb.cell (World.block_lt_of_cell? _ _ HB.out)).trans HB.out)).mono ?_; rintro e w' ⟨rfl, hb'⟩)
        go_ret
        exact ⟨k, rfl, by rw [HK.out, HX.out, h1]; simp, bthen hb hb'⟩
      · go_wp2_with (go_at_call 15; refine (hit1_any x.1 x.2 a b g m _ ((hb.cell (World.block_lt_of_cell? _ _ HA.out)).trans HA.out) ((hb.cell (World.block_lt_of_cell? _ _ HB.out)).trans HB.out)).mono ?_; rintro e w' ⟨rfl, hb'⟩)
        go_roundw
        case rel => exact ⟨k + 1, by go_num, by omega, bthen hb hb', by show _ = _; rw [HK.out, HX.out, h1]; rfl⟩
        case measure => simp [intOf]; omega
    · go_wp2_with fail
      go_ret
      exact ⟨-1, rfl, by rw [HK.out, List.drop_eq_nil_of_le (by omega)]; rfl, hb⟩

set_option maxHeartbeats 400000 in
theorem containsf_any (A : Option Addr) (c : Nat) (l : List Ex) (a b : Addr) (g m : ByteArray) (w : World) (hn : l.length ≤ 100000) (hl : ReadsEx w A l) (ha : w.cell? a = some (.string g)) (hb : w.cell? b = some (.string m)) :
    Calls Try.prog 14 #[.slice A l.length c, .func (.func 15) #[] #[.pointer (some a), .pointer (some b)]] w fun e w' => e = .returned (.bool (l.any (fun x => hitB x g m))) ∧ Below w.heap.size w w' := by
  have HL := Lib.hid hl
  have HA := Lib.hid ha
  have HB := Lib.hid hb
  clear hl ha hb
  go_enter Try.func14, Try.ntmps14
  go_wp2_with (go_at_call 22; refine (indexf_any A c l a b g m _ hn HL.out HA.out HB.out).mono ?_; rintro e w' ⟨r, rfl, hr, hb⟩)
  go_ret
  exact ⟨by rw [← hr]; rfl, hb⟩

theorem reads_alloc {w : World} {A : Option Addr} {l : List Ex} (h : ReadsEx w A l) (o : Obj) : ReadsEx (w.alloc o) A l := h.below ((Below.refl _ _).alloc (Nat.le_refl _) _)

set_option maxHeartbeats 400000 in
theorem hit_any (A : Option Addr) (c : Nat) (l : List Ex) (g m : ByteArray) (w : World) (hn : l.length ≤ 100000) (hl : ReadsEx w A l) :
    Calls Try.prog 8 #[.slice A l.length c, .string g, .string m] w fun e w' => e = .returned (.bool (l.any (fun x => hitB x g m))) ∧ Below w.heap.size w w' := by
  have HL := Lib.hid hl
  clear hl
  go_enter Try.func8, Try.ntmps8
  go_wp2_with (go_at_call 14; refine (containsf_any A c l ⟨w.heap.size, 0, none⟩ ⟨w.heap.size + 1, 0, none⟩ g m _ hn (reads_alloc (reads_alloc HL.out _) _) (by simp) (by simp)).mono ?_; rintro e w' ⟨rfl, hb⟩)
  go_ret
  exact ⟨rfl, bthen ((Below.refl _ _).alloc (Nat.le_refl _) _) (bthen ((Below.refl _ _).alloc (Nat.le_refl _) _) hb)⟩
end Go.Proofs.Ytndleookkaoojaa
