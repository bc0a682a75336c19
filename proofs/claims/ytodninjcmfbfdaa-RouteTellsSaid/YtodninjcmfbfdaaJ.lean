/- The contracts of swapRangeCmpFunc and rotateCmpFunc. -/
import Derived.Test.YtodninjcmfbfdaaG
namespace Go.Proofs.Ytodninjcmfbfdaa
open Go.RowKit

theorem wsmall (z : Int) (h0 : 0 ≤ z) (h1 : z ≤ 100000) : IntKind.i64.wrap z = z := by rw [IntKind.wrap_i64]; omega
theorem wsmall64 (z : Int) (h0 : 0 ≤ z) (h1 : z ≤ 100000) : wrap64 z = z := by unfold wrap64; omega
def swR (p : Row) (a b n : Nat) : Row := fun k => if a ≤ k ∧ k < a + n then p (k - a + b) else if b ≤ k ∧ k < b + n then p (k - b + a) else p k
theorem swR_zero (p : Row) (a b : Nat) : swR p a b 0 = p := by
  funext k; unfold swR; rw [if_neg (by omega), if_neg (by omega)]
theorem swR_step (p : Row) (a b i n : Nat) (h : a + n ≤ b) (hi : i < n) : sw (swR p a b i) (a + i) (b + i) = swR p a b (i + 1) := by
  funext k
  simp only [sw, swR]
  repeat' split
  all_goals first | (exfalso; omega) | rfl | (congr 1; omega)
set_option maxHeartbeats 4000000 in
set_option maxRecDepth 100000 in
theorem swr_any {w1 : World} {D N : Nat} (cap a b n : Nat) (fu : Value) (h1 : a + n ≤ b) (h2 : b + n ≤ N) (hN : N ≤ 1000) (p : Row) (W : World) (hS : St w1 D N W p) :
    Calls Try.prog 33 #[.slice (some ⟨D, 0, none⟩) N cap, .int .i64 a, .int .i64 b, .int .i64 n, fu] W fun e w' => e = .returned (.tuple #[]) ∧ St w1 D N w' (swR p a b n) := by
  have S0 := Lib.hid hS
  clear hS
  go_enter Try.func33, Try.ntmps33
  go_wp2_with fail
  go_loopw [10] (fun v wr => ∃ i : Nat, v = .int .i64 i ∧ i ≤ n ∧ Hid (St w1 D N wr (swR p a b i))) (fun v _ => n - (intOf v).toNat)
  case atStart => exact ⟨0, rfl, by omega, S0.out.as (swR_zero p a b).symm⟩
  case round =>
    obtain ⟨i, rfl, hi, HS⟩ := hrel
    by_cases hlt : i < n
    · have hlt0 : (i : Int) < (n : Int) := by omega
      obtain ⟨x, hx⟩ : ∃ x, x = a + i := ⟨_, rfl⟩
      obtain ⟨y, hy⟩ : ∃ y, y = b + i := ⟨_, rfl⟩
      have ha0 : (0 : Int) ≤ (a : Int) + (i : Int) ∧ (a : Int) + (i : Int) ≤ 100000 ∧ (a : Int) + (i : Int) = (x : Int) := by rw [hx]; omega
      have hb0 : (0 : Int) ≤ (b : Int) + (i : Int) ∧ (b : Int) + (i : Int) ≤ 100000 ∧ (b : Int) + (i : Int) = (y : Int) := by rw [hy]; omega
      have hx0 : (0 : Int) ≤ (x : Int) := by omega
      have hx1 : (x : Int) < (N : Int) := by omega
      have hy0 : (0 : Int) ≤ (y : Int) := by omega
      have hy1 : (y : Int) < (N : Int) := by omega
      have cx := HS.out.c x (by omega)
      have cy := HS.out.c y (by omega)
      have fx := HS.out.f x (by omega)
      have fy := HS.out.f y (by omega)
      have hsw := HS.out.swap x y (by omega) (by omega)
      have HX := Lib.hid hx
      have HY := Lib.hid hy
      have HST : Hid (sw (swR p a b i) x y = swR p a b (i + 1)) := by show _ = _; rw [hx, hy]; exact swR_step p a b i n h1 hlt
      have HSW := Lib.hid hsw
      have hwx : IntKind.i64.wrap ((a : Int) + (i : Int)) = (x : Int) := (wsmall _ ha0.1 ha0.2.1).trans ha0.2.2
      have hwy : IntKind.i64.wrap ((b : Int) + (i : Int)) = (y : Int) := (wsmall _ hb0.1 hb0.2.1).trans hb0.2.2
      have hxy : ¬ x = y := by rw [hx, hy]; clear hwx hwy; omega
      have hyx : ¬ y = x := fun e => hxy e.symm
      clear hx hy hsw ha0 hb0
      generalize swR p a b i x = vx at *
      generalize swR p a b i y = vy at *
      go_wp2_with fail
      go_big_region
      all_goals go_wp2
      exact ⟨⟨i + 1, by go_num, by omega, HST.out ▸ HSW.out.below (bdrew (Below.refl _ _))⟩, by simp [intOf]; omega⟩
    · obtain rfl : i = n := by omega
      go_wp2_with fail
      go_end0
      exact ⟨rfl, HS.out⟩

/-- The parts [a, m) and [m, b) change places. -/
def rotF (p : Row) (a m b : Nat) : Row := fun k => if a ≤ k ∧ k < a + (b - m) then p (k + (m - a)) else if a + (b - m) ≤ k ∧ k < b then p (k - (b - m)) else p k
theorem rot_gt (r : Row) (m i j : Nat) (h1 : j < i) (h2 : i ≤ m) : rotF (swR r (m - i) m j) (m - (i - j)) m (m + j) = rotF r (m - i) m (m + j) := by
  funext k
  simp only [rotF, swR]
  repeat' split
  all_goals first | (exfalso; omega) | rfl | (congr 1; omega)
theorem rot_lt (r : Row) (m i j : Nat) (h1 : i < j) (h2 : i ≤ m) : rotF (swR r (m - i) (m + j - i) i) (m - i) m (m + (j - i)) = rotF r (m - i) m (m + j) := by
  funext k
  simp only [rotF, swR]
  repeat' split
  all_goals first | (exfalso; omega) | rfl | (congr 1; omega)
theorem rot_eq (r : Row) (m i : Nat) (h2 : i ≤ m) : swR r (m - i) m i = rotF r (m - i) m (m + i) := by
  funext k
  simp only [rotF, swR]
  repeat' split
  all_goals first | (exfalso; omega) | rfl | (congr 1; omega)
set_option maxHeartbeats 4000000 in
set_option maxRecDepth 100000 in
theorem rot_any {w1 : World} {D N : Nat} (cap a m b : Nat) (fu : Value) (h1 : a < m) (h2 : m < b) (h3 : b ≤ N) (hN : N ≤ 1000) (p : Row) (W : World) (hS : St w1 D N W p) :
    Calls Try.prog 32 #[.slice (some ⟨D, 0, none⟩) N cap, .int .i64 a, .int .i64 m, .int .i64 b, fu] W fun e w' => e = .returned (.tuple #[]) ∧ St w1 D N w' (rotF p a m b) := by
  have S0 := Lib.hid hS
  clear hS
  go_enter Try.func32, Try.ntmps32
  have ha0 : (0 : Int) ≤ (m : Int) - (a : Int) ∧ (m : Int) - (a : Int) ≤ 100000 ∧ (m : Int) - (a : Int) = ((m - a : Nat) : Int) := by omega
  have hb0 : (0 : Int) ≤ (b : Int) - (m : Int) ∧ (b : Int) - (m : Int) ≤ 100000 ∧ (b : Int) - (m : Int) = ((b - m : Nat) : Int) := by omega
  have hwa : IntKind.i64.wrap ((m : Int) - (a : Int)) = ((m - a : Nat) : Int) := (wsmall _ ha0.1 ha0.2.1).trans ha0.2.2
  have hwb : IntKind.i64.wrap ((b : Int) - (m : Int)) = ((b - m : Nat) : Int) := (wsmall _ hb0.1 hb0.2.1).trans hb0.2.2
  obtain ⟨i0, hi0⟩ : ∃ i0, i0 = m - a := ⟨_, rfl⟩
  obtain ⟨j0, hj0⟩ : ∃ j0, j0 = b - m := ⟨_, rfl⟩
  have hi1 : 0 < i0 := by omega
  have hj1 : 0 < j0 := by omega
  have hi2 : i0 ≤ m := by omega
  have hj2 : m + j0 ≤ N := by omega
  have HE : Hid (rotF p (m - i0) m (m + j0) = rotF p a m b) := by show _ = _; rw [hi0, hj0]; congr 1 <;> omega
  rw [← hi0] at hwa
  rw [← hj0] at hwb
  clear ha0 hb0 hi0 hj0
  go_wp2_with fail
  go_loopw [10, 11] (fun v1 v2 wr => ∃ (i j : Nat) (r : Row), v1 = .int .i64 i ∧ v2 = .int .i64 j ∧ 0 < i ∧ 0 < j ∧ i ≤ m ∧ m + j ≤ N ∧ Hid (St w1 D N wr r) ∧ Hid (rotF r (m - i) m (m + j) = rotF p a m b)) (fun v1 v2 _ => (intOf v1).toNat + (intOf v2).toNat)
  case atStart => exact ⟨i0, j0, p, by go_num, by go_num, hi1, hj1, hi2, hj2, S0, HE⟩
  case round =>
    clear hwa hwb
    obtain ⟨i, j, r, rfl, rfl, hi, hj, him, hjn, HS, HR⟩ := hrel
    obtain ⟨x, hx⟩ : ∃ x, x = m - i := ⟨_, rfl⟩
    have hx0 : (0 : Int) ≤ (m : Int) - (i : Int) ∧ (m : Int) - (i : Int) ≤ 100000 ∧ (m : Int) - (i : Int) = (x : Int) := by rw [hx]; omega
    by_cases hij : i = j
    · subst hij
      have HF : Hid (swR r x m i = rotF p a m b) := by show _ = _; rw [hx, ← HR.out]; exact rot_eq r m i him
      have HC := Lib.hid (swr_any cap x m i fu (by omega) (by omega) hN r wr HS.out)
      have hwx : IntKind.i64.wrap ((m : Int) - (i : Int)) = (x : Int) := (wsmall _ hx0.1 hx0.2.1).trans hx0.2.2
      clear hx0 hx
      go_wp2_with (go_at_call 33; refine HC.out.mono ?_; rintro e w' ⟨rfl, hp⟩)
      go_end0
      exact ⟨rfl, hp.as HF.out⟩
    · have hne : ((i : Int) != (j : Int)) = true := by simp; omega
      rcases Nat.lt_or_ge j i with hlt | hge
      · have hlt0 : (j : Int) < (i : Int) := by omega
        obtain ⟨y, hy⟩ : ∃ y, y = i - j := ⟨_, rfl⟩
        have hy0 : (0 : Int) ≤ (i : Int) - (j : Int) ∧ (i : Int) - (j : Int) ≤ 100000 ∧ (i : Int) - (j : Int) = (y : Int) := by rw [hy]; omega
        have hy1 : 0 < y := by omega
        have hy2 : y ≤ m := by omega
        have hy3 : Hid (y + j < i + j) := by show _ < _; omega
        have HR2 : Hid (rotF (swR r x m j) (m - y) m (m + j) = rotF p a m b) := by show _ = _; rw [hx, hy, ← HR.out]; exact rot_gt r m i j hlt him
        have HC := Lib.hid (swr_any cap x m j fu (by omega) hjn hN r wr HS.out)
        have hwx : IntKind.i64.wrap ((m : Int) - (i : Int)) = (x : Int) := (wsmall _ hx0.1 hx0.2.1).trans hx0.2.2
        have hwy : IntKind.i64.wrap ((i : Int) - (j : Int)) = (y : Int) := (wsmall _ hy0.1 hy0.2.1).trans hy0.2.2
        clear hx0 hx hy0 hy hij HS
        go_wp2_with (go_at_call 33; refine HC.out.mono ?_; rintro e w' ⟨rfl, hp⟩)
        go_roundw
        case rel => exact ⟨y, j, _, by go_num, rfl, hy1, hj, hy2, hjn, hp, HR2⟩
        case measure => simp [intOf]; have := hy3.out; omega
      · have hlt : i < j := by omega
        have hlt0 : (i : Int) < (j : Int) := by omega
        have hle0 : ¬ (j : Int) < (i : Int) := by omega
        obtain ⟨y, hy⟩ : ∃ y, y = j - i := ⟨_, rfl⟩
        obtain ⟨z, hz⟩ : ∃ z, z = m + j := ⟨_, rfl⟩
        obtain ⟨q, hq⟩ : ∃ q, q = m + j - i := ⟨_, rfl⟩
        have hy0 : (0 : Int) ≤ (j : Int) - (i : Int) ∧ (j : Int) - (i : Int) ≤ 100000 ∧ (j : Int) - (i : Int) = (y : Int) := by rw [hy]; omega
        have hz0 : (0 : Int) ≤ (m : Int) + (j : Int) ∧ (m : Int) + (j : Int) ≤ 100000 ∧ (m : Int) + (j : Int) = (z : Int) := by rw [hz]; omega
        have hq0 : (0 : Int) ≤ (z : Int) - (i : Int) ∧ (z : Int) - (i : Int) ≤ 100000 ∧ (z : Int) - (i : Int) = (q : Int) := by rw [hq, hz]; omega
        have hy1 : 0 < y := by omega
        have hy2 : m + y ≤ N := by omega
        have hy3 : Hid (i + y < i + j) := by show _ < _; omega
        have HR2 : Hid (rotF (swR r x q i) (m - i) m (m + y) = rotF p a m b) := by show _ = _; rw [hx, hy, hq, ← HR.out]; exact rot_lt r m i j hlt him
        have HC := Lib.hid (swr_any cap x q i fu (by omega) (by omega) hN r wr HS.out)
        have hwx : IntKind.i64.wrap ((m : Int) - (i : Int)) = (x : Int) := (wsmall _ hx0.1 hx0.2.1).trans hx0.2.2
        have hwy : IntKind.i64.wrap ((j : Int) - (i : Int)) = (y : Int) := (wsmall _ hy0.1 hy0.2.1).trans hy0.2.2
        have hwz : IntKind.i64.wrap ((m : Int) + (j : Int)) = (z : Int) := (wsmall _ hz0.1 hz0.2.1).trans hz0.2.2
        have hwq : IntKind.i64.wrap ((z : Int) - (i : Int)) = (q : Int) := (wsmall _ hq0.1 hq0.2.1).trans hq0.2.2
        clear hx0 hx hy0 hy hz0 hz hq0 hq hij HS hge
        go_wp2_with (go_at_call 33; refine HC.out.mono ?_; rintro e w' ⟨rfl, hp⟩)
        go_roundw
        case rel => exact ⟨i, y, _, rfl, by go_num, hi, hy1, him, hy2, hp, HR2⟩
        case measure => simp [intOf]; have := hy3.out; omega
end Go.Proofs.Ytodninjcmfbfdaa
