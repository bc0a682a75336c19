/- Ways in memory; the comparison that Order hands to the sort; the contract of slices.insertionSortCmpFunc. -/
import Derived.Test.YtodninjcmfbfdaaD
import Derived.BigRegion
import Derived.Deep.DeepCutAuto
import Derived.Deep.CutBlock
import Derived.Deep.RegionHeld3
import Derived.Laws.BitsLemmas
namespace Go.Proofs.Ytodninjcmfbfdaa
open Go.RowKit

def WayAt (w : World) (p : Addr) (l : List Int) : Prop := ∃ A k, w.cell? p = some (.slice A l.length k) ∧ ReadsI w A l
def ReadsW (w : World) (A : Option Addr) (ls : List (List Int)) : Prop :=
  0 < ls.length → ∃ ad, A = some ad ∧ ∀ j, j < ls.length → WayAt w (ad.add j) (ls.getD j [])
theorem WayAt.below {w w' : World} {p : Addr} {l : List Int} (h : WayAt w p l) (hb : Below w.heap.size w w') : WayAt w' p l := by
  obtain ⟨A, k, hc, hr⟩ := h
  exact ⟨A, k, (hb.cell (World.block_lt_of_cell? _ _ hc)).trans hc, hr.below hb⟩
theorem ReadsW.below {w w' : World} {A : Option Addr} {ls : List (List Int)} (h : ReadsW w A ls) (hb : Below w.heap.size w w') : ReadsW w' A ls := fun hn => by
  obtain ⟨ad, e, hc⟩ := h hn
  exact ⟨ad, e, fun j hj => (hc j hj).below hb⟩

/-- What stands while Order sorts: the ways, and the box in which the closure finds them. -/
structure Ctx (w1 : World) (B D : Nat) (A : Option Addr) (c : Nat) (ls : List (List Int)) : Prop where
  cell : w1.cell? ⟨B, 0, none⟩ = some (.slice A ls.length c)
  reads : ReadsW w1 A ls
  row : w1.heap.size ≤ D
  few : ∀ x ∈ ls, x.length ≤ 39
  len : ls.length ≤ 1000
theorem getD_le {ls : List (List Int)} (h : ∀ x ∈ ls, x.length ≤ 39) (j : Nat) : (ls.getD j []).length ≤ 39 := by
  rw [List.getD_eq_getElem?_getD]
  cases e : ls[j]? with
  | none => simp
  | some x => exact h x (List.mem_of_getElem? e)

set_option maxHeartbeats 400000 in
theorem clos_any {w1 : World} {B D : Nat} {A : Option Addr} {c : Nat} {ls : List (List Int)} (C : Ctx w1 B D A c ls) (x y : Nat) (hx : x < ls.length) (hy : y < ls.length) (w : World) (hb : Below w1.heap.size w1 w) :
    Calls Try.prog 22 #[.int .i64 x, .int .i64 y, .pointer (some ⟨B, 0, none⟩)] w fun e w' => e = .returned (.int .i64 (cmpW (ls.getD x []) (ls.getD y []))) ∧ Below w.heap.size w w' := by
  have h0 : w.cell? ⟨B, 0, none⟩ = some (.slice A ls.length c) := (hb.cell (World.block_lt_of_cell? _ _ C.cell)).trans C.cell
  obtain ⟨ad, rfl, hc⟩ := (C.reads.below hb) (by omega)
  obtain ⟨A1, k1, c1, r1⟩ := hc x hx
  obtain ⟨A2, k2, c2, r2⟩ := hc y hy
  have HC := Lib.hid (fun w' hb' => compare_any A1 A2 k1 k2 _ _ w' (getD_le C.few x) (getD_le C.few y) (r1.below hb') (r2.below hb'))
  have i0 : (0 : Int) ≤ (x : Int) := by omega
  have i1 : (x : Int) < (ls.length : Int) := by omega
  have j0 : (0 : Int) ≤ (y : Int) := by omega
  have j1 : (y : Int) < (ls.length : Int) := by omega
  have hz : (ls.length : Int) ≤ 1000 := by have := C.len; omega
  clear hc r1 r2 C
  generalize ls.getD x [] = a at *
  generalize ls.getD y [] = b at *
  go_enter Try.func22, Try.ntmps22
  go_wp2_with fail
  go_still_tail 8, (by kernel_rfl)
  change wpList _ _ _ _ _ w.drew
  go_wp2_with (go_at_call 18; refine (HC.out _ (bdrew (Below.refl _ _))).mono ?_; rintro e w' ⟨rfl, hb'⟩)
  go_ret
  exact ⟨rfl, bthen (bdrew (Below.refl _ _)) hb'⟩

/-- The row at D holds p, and nothing else that stood is turned. -/
structure St (w1 : World) (D n : Nat) (W : World) (p : Row) : Prop where
  b : Below w1.heap.size w1 W
  h : w1.heap.size ≤ D
  l : D < W.heap.size
  c : ∀ j, j < n → W.cell? ⟨D, j, none⟩ = some (.int .i64 (p j))
  f : ∀ j, j < n → W.frozen? ⟨D, j, none⟩ = false
theorem St.below {w1 : World} {D n : Nat} {W W' : World} {p : Row} (h : St w1 D n W p) (hb : Below W.heap.size W W') : St w1 D n W' p :=
  ⟨bthen h.b hb, h.h, Nat.lt_of_lt_of_le h.l hb.size, fun j hj => (hb.cell (p := ⟨D, j, none⟩) h.l).trans (h.c j hj), fun j hj => (hb.frozen (p := ⟨D, j, none⟩) h.l).trans (h.f j hj)⟩
theorem St.set {w1 : World} {D n : Nat} {W : World} {p : Row} (h : St w1 D n W p) (i x : Nat) (hi : i < n) : St w1 D n (W.setCell ⟨D, i, none⟩ (.int .i64 x)) (fun k => if k = i then x else p k) := by
  refine ⟨h.b.setCell h.h _, h.h, by simpa [World.setCell] using h.l, fun j hj => ?_, fun j hj => by rw [World.frozen?_setCell]; exact h.f j hj⟩
  by_cases e : j = i
  · subst e; rw [if_pos rfl]; exact World.cell?_setCell_same _ _ _ (h.c j hj)
  · rw [if_neg e]
    exact (World.cell?_setCell_other _ _ _ _ (by intro e2; injection e2 with _ e3; omega)).trans (h.c j hj)
theorem St.swap {w1 : World} {D n : Nat} {W : World} {p : Row} (h : St w1 D n W p) (i j : Nat) (hi : i < n) (hj : j < n) : St w1 D n ((W.setCell ⟨D, i, none⟩ (.int .i64 (p j))).setCell ⟨D, j, none⟩ (.int .i64 (p i))) (sw p i j) := by
  have h2 := (h.set i (p j) hi).set j (p i) hj
  have e : (fun k => if k = j then p i else if k = i then p j else p k) = sw p i j := by
    funext k; unfold sw
    by_cases e1 : k = i
    · subst e1
      by_cases e2 : k = j
      · subst e2; simp
      · rw [if_neg e2, if_pos rfl, if_pos rfl]
    · by_cases e2 : k = j
      · rw [if_pos e2, if_neg e1, if_pos e2]
      · rw [if_neg e2, if_neg e1, if_neg e1, if_neg e2]
  rw [e] at h2
  exact h2
theorem St.as {w1 : World} {D n : Nat} {W : World} {p q : Row} (h : St w1 D n W p) (e : p = q) : St w1 D n W q := e ▸ h
abbrev fv (B : Nat) : Value := .func (.func 22) #[] #[.pointer (some ⟨B, 0, none⟩)]

theorem wrap64_small (j : Nat) (h : j ≤ 1000) : wrap64 (j : Int) = (j : Int) := by unfold wrap64; omega
theorem wrap_small (j : Nat) (h : j ≤ 1000) : IntKind.i64.wrap (j : Int) = (j : Int) := by rw [IntKind.wrap_i64]; omega
set_option maxHeartbeats 4000000 in
set_option maxRecDepth 100000 in
theorem ins_any {w1 : World} {B D : Nat} {A : Option Addr} {c : Nat} {ls : List (List Int)} (C : Ctx w1 B D A c ls) (cap a b : Nat) (hab : a ≤ b) (hbn : b ≤ ls.length) (p : Row) (W : World) (hS : St w1 D ls.length W p)
    (hv : ∀ j, j < ls.length → p j < ls.length) (hasc : ∀ k l, a ≤ k → k < l → l < b → p k < p l) :
    Calls Try.prog 29 #[.slice (some ⟨D, 0, none⟩) ls.length cap, .int .i64 a, .int .i64 b, fv B] W fun e w' => e = .returned (.tuple #[]) ∧ ∃ p', St w1 D ls.length w' p' ∧ Mv a b p p' ∧ SortedT (ltW ls) a b p' := by
  have HC := Lib.hid C
  have hlen : (ls.length : Int) ≤ 1000 := by have := C.len; omega
  have HW := Lib.hid (weak_ways ls)
  have S0 := Lib.hid hS
  have HV := Lib.hid hv
  have HA := Lib.hid hasc
  clear hS hv hasc C
  go_enter Try.func29, Try.ntmps29
  go_wp2_with fail
  go_loopw [8] (fun v wr => ∃ (i : Nat) (q : Row), v = .int .i64 i ∧ a < i ∧ (i ≤ b ∨ i = a + 1) ∧ Hid (i = a + 1 → q = p) ∧ Hid (St w1 D ls.length wr q) ∧ Hid (Mv a i p q) ∧ Hid (SortedT (ltW ls) a i q)) (fun v _ => b - (intOf v).toNat)
  case atStart => exact ⟨a + 1, p, by go_num, by omega, Or.inr rfl, fun _ => rfl, S0, Mv.refl _ _ _, fun k l h1 h2 h3 => by omega⟩
  case round =>
    obtain ⟨i, q, rfl, hai, hib, HQ, HS, HM, HT⟩ := hrel
    by_cases hlt : i < b
    · have hlt0 : (i : Int) < (b : Int) := by omega
      go_wp2_with fail
      go_loopw [9] (fun v wr => ∃ (j : Nat), v = .int .i64 j ∧ a ≤ j ∧ j ≤ i ∧ Hid (St w1 D ls.length wr (mvd q i j)) ∧ Hid (∀ k, j ≤ k → k < i → TT (ltW ls) (q i) (q k))) (fun v _ => (intOf v).toNat)
      case atStart => exact ⟨i, rfl, by omega, by omega, HS.out.as (mvd_self q i).symm, fun k h1 h2 => by omega⟩
      case round =>
        obtain ⟨j, rfl, haj, hji, HJ, HG⟩ := hrel
        by_cases hja : a < j
        · obtain ⟨jp, rfl⟩ : ∃ jp, j = jp + 1 := ⟨j - 1, by omega⟩
          have hjs : jp ≤ 1000 := by clear HJ HG HQ HS HM HT; omega
          have cx := HJ.out.c (jp + 1) (by omega)
          have cy := HJ.out.c jp (by omega)
          have e1 : mvd q i (jp + 1) (jp + 1) = q i := by unfold mvd; rw [if_pos rfl]
          have e2 : mvd q i (jp + 1) jp = q jp := by unfold mvd; rw [if_neg (by omega), if_neg (by omega)]
          rw [e1] at cx
          rw [e2] at cy
          have hxl : q i < ls.length := by rw [HM.out.out i (by omega)]; exact HV.out i (by omega)
          have hyl : q jp < ls.length := by
            obtain ⟨k', g1, g2, g3⟩ := HM.out.frm jp (by omega) (by omega)
            rw [g3]; exact HV.out k' (by omega)
          have hyx : q jp < q i := by
            obtain ⟨k', g1, g2, g3⟩ := HM.out.frm jp (by omega) (by omega)
            rw [g3, HM.out.out i (by omega)]; exact HA.out k' i g1 g2 hlt
          have HX := Lib.hid (fun w' hb' => clos_any HC.out (q i) (q jp) hxl hyl w' (bthen HJ.out.b hb'))
          have HYX := Lib.hid hyx
          have HLT : Hid (ltW ls (q i) (q jp) = decide (cmpW (ls.getD (q i) []) (ls.getD (q jp) []) < 0)) := rfl
          have CXY : ∀ w', Below wr.heap.size wr w' → w'.cell? ⟨D, jp + 1, none⟩ = some (.int .i64 (q i)) ∧ w'.cell? ⟨D, jp, none⟩ = some (.int .i64 (q jp)) :=
            fun w' hb' => ⟨(hb'.cell (p := ⟨D, jp + 1, none⟩) HJ.out.l).trans cx, (hb'.cell (p := ⟨D, jp, none⟩) HJ.out.l).trans cy⟩
          have hjaz : (a : Int) < (jp : Int) + 1 := by omega
          have jz : (jp : Int) + 1 < (ls.length : Int) := by omega
          have jz1 : (jp : Int) < (ls.length : Int) := by omega
          have p0 : (0 : Int) ≤ (jp : Int) + 1 := by omega
          have p1 : (0 : Int) ≤ (jp : Int) := by omega
          have e0 : ((jp : Int) + 1).toNat = jp + 1 := by omega
          have hwp := wrap64_small jp hjs
          have hwq := wrap_small jp hjs
          have E1 := Lib.hid e1
          have E2 := Lib.hid e2
          clear e1 e2 hxl hyl hyx cx cy
          generalize cmpW (ls.getD (q i) []) (ls.getD (q jp) []) = z at *
          go_upto_region 4 with (fail)
          go_cut [34] (fun v wq => v = .bool (decide (z < 0)) ∧ Below wr.heap.size wr wq)
          case first =>
            go_region_held3 (fun w' => Below wr.heap.size wr w') ((repeat (first | (with_reducible exact Below.refl _ _) | (with_reducible assumption) | (refine bthen ?_ (by with_reducible assumption)) | (refine balloc ?_ _) | (refine bdrew ?_)))) ((go_at_call 22; refine (HX.out _ (by with_reducible assumption)).mono ?_; rintro e wb ⟨rfl, hbb⟩))
            simp only [Exit.then]
            apply_assumption
            refine Met.intro ?_
            apply_assumption
            (repeat apply Exists.intro)
            refine ⟨⟨?_, ?_⟩, rfl⟩
            · rfl
            · with_reducible assumption
          case rest =>
            obtain ⟨rfl, hbq⟩ := hcut
            obtain ⟨cx, cy⟩ := CXY wc hbq
            have HJq := Lib.hid (HJ.out.below hbq)
            have fx := HJq.out.f (jp + 1) (by omega)
            have fy := HJq.out.f jp (by omega)
            clear CXY HX HJ hbq
            by_cases hz : z < 0
            · have hzd : decide (z < 0) = true := decide_eq_true hz
              go_wp2_with fail
              go_big_region
              all_goals go_wp2
              refine ⟨⟨jp, rfl, by omega, by omega, ?_, ?_⟩, by simp [intOf]⟩
              · have hsw := HJq.out.swap (jp + 1) jp (by omega) (by omega)
                rw [E1.out, E2.out, mvd_step q i jp (by omega)] at hsw
                exact hsw.below (bdrew (Below.refl _ _))
              · intro k h1 h2
                by_cases e : k = jp
                · rw [e]; exact TT.of_lt (HLT.out.trans hzd)
                · exact HG.out k (by omega) h2
            · have hzd : decide (z < 0) = false := decide_eq_false hz
              have HT2 : Hid (SortedT (ltW ls) a (i + 1) (mvd q i (jp + 1))) := mvd_sorted haj hji HT.out HG.out (sorted_left HW.out HT.out hji (Or.inr (TT.of_not (HLT.out.trans hzd) HYX.out)))
              have HM2 : Hid (Mv a (i + 1) p (mvd q i (jp + 1))) := (HM.out.wide (Nat.le_refl _) (Nat.le_succ _)).trans (mvd_mv haj hji)
              go_wp2_with fail
              go_roundw
              case rel => exact ⟨i + 1, mvd q i (jp + 1), by go_num, by omega, by omega, fun h => by omega, HJq, HM2, HT2⟩
              case measure => simp [intOf]; omega
        · obtain rfl : j = a := by omega
          have HT2 : Hid (SortedT (ltW ls) j (i + 1) (mvd q i j)) := mvd_sorted haj hji HT.out HG.out (sorted_left HW.out HT.out hji (Or.inl rfl))
          have HM2 : Hid (Mv j (i + 1) p (mvd q i j)) := (HM.out.wide (Nat.le_refl _) (Nat.le_succ _)).trans (mvd_mv haj hji)
          go_wp2_with fail
          go_big_region
          all_goals go_wp2
          exact ⟨⟨i + 1, mvd q i j, by go_num, by omega, by omega, fun h => by omega, HJ.out.below (bdrew (Below.refl _ _)), HM2, HT2⟩, by simp [intOf]; omega⟩
    · by_cases hab2 : a < b
      · have hib2 : i = b := by omega
        subst hib2
        go_wp2_with fail
        go_end0
        exact ⟨rfl, q, HS.out, HM.out, HT.out⟩
      · have hab3 : i = a + 1 := by omega
        have hq := HQ.out hab3
        subst hq
        go_wp2_with fail
        go_end0
        exact ⟨rfl, q, HS.out, Mv.refl _ _ _, fun k l h1 h2 h3 => by omega⟩
end Go.Proofs.Ytodninjcmfbfdaa
