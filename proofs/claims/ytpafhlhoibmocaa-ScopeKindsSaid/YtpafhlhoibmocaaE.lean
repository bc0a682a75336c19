/- The walks of ScopeKinds and ScopeNarrows: they return true for every input. -/
import Derived.Test.YtpafhlhoibmocaaD
namespace Go.Proofs.Ytpafhlhoibmocaa
open Go.RowKit

theorem in_known {k : Int} {s : ByteArray} (h : inM k s = true) : 2 ≤ k ∧ k ≤ 5 ∧ isB s = true := by
  unfold inM at h
  split at h
  · exact ⟨by omega, by omega, by revert h; simp [isB]; rintro (h | h) <;> simp [h]⟩
  split at h
  · exact ⟨by omega, by omega, by revert h; simp [isB]; rintro (h | h) <;> simp [h]⟩
  split at h
  · exact ⟨by omega, by omega, h⟩
  split at h
  · exact ⟨by omega, by omega, by simp [isB, h]⟩
  simp at h

set_option maxHeartbeats 1000000 in
theorem kinds_any (s : ByteArray) (kind : Int) (w0 : s.size ≤ maxLen) (_w1 : (Lit.int .i64 kind).wf = true) (w : World) :
    Calls Try.prog 5 #[.string s, .int .i64 kind] w fun e w' => e = .returned (.bool true) ∧ Below w.heap.size w w' := by
  unfold maxLen at w0
  by_cases ha : 50 < s.size
  · have ha' : (50 < (s.size : Int)) := by omega
    go_enter Try.func5, Try.ntmps5
    go_wp2_with (go_at_call 6; refine (awake_any _).mono ?_; rintro e w2 ⟨rfl, hb2⟩)
    go_ret
    exact ⟨rfl, hb2⟩
  have ha' : s.size ≤ 50 := by omega
  clear ha
  have h4 : inM 4 s = isB s := rfl
  have h5 : inM 5 s = (s.toList == [112, 114, 111, 118, 105, 100, 101, 100]) := rfl
  rcases Bool.eq_false_or_eq_true (s.toList == [112, 114, 111, 118, 105, 100, 101, 100]) with hP | hP <;> rcases Bool.eq_false_or_eq_true (isB s) with hB | hB <;> rcases Bool.eq_false_or_eq_true (inM kind s) with hI | hI
  all_goals first
    | (have hc := (in_known hI).2.2; rw [hB] at hc; cases hc)
    | skip
  all_goals
    rw [hB] at h4
    rw [hP] at h5
    by_cases k1 : 2 ≤ kind <;> by_cases k2 : kind ≤ 5
    all_goals first
      | (have hc := (in_known hI); omega)
      | skip
    all_goals
      go_enter Try.func5, Try.ntmps5
      go_wp2_with (first | (go_at_call 6; refine (awake_any _).mono ?_; rintro e w2 ⟨rfl, hb2⟩) | (go_at_call 10; refine (is_any _ _).mono ?_; rintro e w5 ⟨rfl, hb5⟩) | (go_at_call 12; refine (in_any _ _ _).mono ?_; rintro e w6 ⟨rfl, hb6⟩))
      all_goals go_ret
      all_goals exact ⟨rfl, by repeat (first | (with_reducible assumption) | (refine bthen ?_ (by with_reducible assumption)) | (refine bdrewN ?_ _))⟩

/-! ### ScopeNarrows -/
theorem pick_isB (x : ByteArray) : amongB x (allL.take 4) = isB x := among_is x
theorem cells_take {w w1 W : World} (HC : Hid (w.heap.size < w1.heap.size ∧ ∀ j, j < 7 → w1.cell? ⟨w.heap.size, j, none⟩ = some (.string (allL.getD j default)))) (hb : Below w1.heap.size w1 W) :
    ∀ j, j < (allL.take 4).length → W.cell? (Addr.add ⟨w.heap.size, 0, none⟩ j) = some (.string ((allL.take 4).getD j default)) := by
  intro j hj
  have h4 : j < 4 := hj
  have e : (Addr.add ⟨w.heap.size, 0, none⟩ j) = ⟨w.heap.size, j, none⟩ := by unfold Addr.add; split <;> simp_all
  rw [e, hb.cell (p := ⟨w.heap.size, j, none⟩) HC.out.1, HC.out.2 j (by omega)]
  simp [List.getD_eq_getElem?_getD, h4]

set_option maxHeartbeats 1000000 in
theorem narrows_any (i k n : Int) (_w0 : (Lit.int .i64 i).wf = true) (_w1 : (Lit.int .i64 k).wf = true) (_w2 : (Lit.int .i64 n).wf = true) (w : World) :
    Calls Try.prog 4 #[.int .i64 i, .int .i64 k, .int .i64 n] w fun e w' => e = .returned (.bool true) ∧ Below w.heap.size w w' := by
  obtain ⟨p, hp, ep⟩ := pick7 i
  obtain ⟨q, hq, eq⟩ := pick7 k
  obtain ⟨r, hr, er⟩ := pick7 n
  have EP := Lib.hid ep
  have EQ := Lib.hid eq
  have ER := Lib.hid er
  clear ep eq er
  go_enter Try.func4, Try.ntmps4
  go_wp2_with (go_at_call 7; refine (all_any _).mono ?_; rintro e w1 ⟨rfl, hb1, HC⟩)
  have hcp := HC.out.2 p hp
  have hcq := HC.out.2 q hq
  have hcr := HC.out.2 r hr
  have ep := EP.out
  have eq := EQ.out
  have er := ER.out
  generalize allL.getD p default = a at hcp
  generalize allL.getD q default = b at hcq
  generalize allL.getD r default = c at hcr
  go_quiet (fail)
  clear ep eq er EP EQ ER hcp hcq hcr
  rcases Bool.eq_false_or_eq_true ((deriveM a b).2) with hd | hd
  · obtain ⟨f1, f2, f3, f4⟩ := narrows_in hd
    obtain ⟨g1, g2⟩ := narrows_three (c := c) hd
    have F1 := Lib.hid f1
    have F2 := Lib.hid f2
    have F3 := Lib.hid f3
    have F4 := Lib.hid f4
    have G1 := Lib.hid g1
    have G2 := Lib.hid g2
    clear f1 f2 f3 f4 g1 g2
    go_wp2_with (first | (go_at_call 8; refine (derive_any _ _ _).mono ?_; rintro e w3 ⟨rfl, hb3⟩))
    have hk0 : (w3.alloc (Obj.cells #[Value.int IntKind.i64 2, Value.int IntKind.i64 3, Value.int IntKind.i64 4, Value.int IntKind.i64 5] 3)).cell? ⟨w3.heap.size, 0, none⟩ = some (.int .i64 2) := by simp
    have hk1 : (w3.alloc (Obj.cells #[Value.int IntKind.i64 2, Value.int IntKind.i64 3, Value.int IntKind.i64 4, Value.int IntKind.i64 5] 3)).cell? ⟨w3.heap.size, 1, none⟩ = some (.int .i64 3) := by simp
    have hk2 : (w3.alloc (Obj.cells #[Value.int IntKind.i64 2, Value.int IntKind.i64 3, Value.int IntKind.i64 4, Value.int IntKind.i64 5] 3)).cell? ⟨w3.heap.size, 2, none⟩ = some (.int .i64 4) := by simp
    have hk3 : (w3.alloc (Obj.cells #[Value.int IntKind.i64 2, Value.int IntKind.i64 3, Value.int IntKind.i64 4, Value.int IntKind.i64 5] 3)).cell? ⟨w3.heap.size, 3, none⟩ = some (.int .i64 5) := by simp
    have hb4 : Below w3.heap.size w3 (w3.alloc (Obj.cells #[Value.int IntKind.i64 2, Value.int IntKind.i64 3, Value.int IntKind.i64 4, Value.int IntKind.i64 5] 3)) := (Below.refl _ _).alloc (Nat.le_refl _) _
    have hz4 : w3.heap.size < (w3.alloc (Obj.cells #[Value.int IntKind.i64 2, Value.int IntKind.i64 3, Value.int IntKind.i64 4, Value.int IntKind.i64 5] 3)).heap.size := by simp
    generalize w3.alloc (Obj.cells #[Value.int IntKind.i64 2, Value.int IntKind.i64 3, Value.int IntKind.i64 4, Value.int IntKind.i64 5] 3) = W4 at *
    have K0 := Lib.hid hk0
    have K1 := Lib.hid hk1
    have K2 := Lib.hid hk2
    have K3 := Lib.hid hk3
    clear hk0 hk1 hk2 hk3
    go_loopw [14] (fun i wr => ∃ j : Int, 0 ≤ j ∧ j ≤ 4 ∧ i = .int .i64 j ∧ Below W4.heap.size W4 wr) (fun i _ => (4 - intOf i).toNat)
    case atStart => exact ⟨0, by omega, by omega, rfl, Below.refl _ _⟩
    case round =>
      obtain ⟨j, hj0, hj4, rfl, hbr⟩ := hrel
      rcases (by omega : j = 0 ∨ j = 1 ∨ j = 2 ∨ j = 3 ∨ j = 4) with rfl | rfl | rfl | rfl | rfl
      · have hc := (hbr.cell (p := ⟨w3.heap.size, 0, none⟩) hz4).trans K0.out
        rcases Bool.eq_false_or_eq_true (inM 2 (deriveM a b).1) with hi | hi
        · have hi2 := F2.out hi
          go_wp2_with (go_at_call 12; refine (in_any _ _ _).mono ?_; rintro e w6 ⟨rfl, hb6⟩; try have hc6 := (hb6.cell (p := ⟨w3.heap.size, 0, none⟩) (Nat.lt_of_lt_of_le hz4 hbr.size)).trans hc)
          go_roundw
          case rel => exact ⟨1, by omega, by omega, rfl, by repeat (first | (with_reducible assumption) | (refine bthen ?_ (by with_reducible assumption)))⟩
          case measure => simp [intOf]
        · go_wp2_with (go_at_call 12; refine (in_any _ _ _).mono ?_; rintro e w6 ⟨rfl, hb6⟩; try have hc6 := (hb6.cell (p := ⟨w3.heap.size, 0, none⟩) (Nat.lt_of_lt_of_le hz4 hbr.size)).trans hc)
          go_roundw
          case rel => exact ⟨1, by omega, by omega, rfl, by repeat (first | (with_reducible assumption) | (refine bthen ?_ (by with_reducible assumption)))⟩
          case measure => simp [intOf]
      · have hc := (hbr.cell (p := ⟨w3.heap.size, 1, none⟩) hz4).trans K1.out
        rcases Bool.eq_false_or_eq_true (inM 3 (deriveM a b).1) with hi | hi
        · have hi2 := F3.out hi
          go_wp2_with (go_at_call 12; refine (in_any _ _ _).mono ?_; rintro e w6 ⟨rfl, hb6⟩; try have hc6 := (hb6.cell (p := ⟨w3.heap.size, 1, none⟩) (Nat.lt_of_lt_of_le hz4 hbr.size)).trans hc)
          go_roundw
          case rel => exact ⟨2, by omega, by omega, rfl, by repeat (first | (with_reducible assumption) | (refine bthen ?_ (by with_reducible assumption)))⟩
          case measure => simp [intOf]
        · go_wp2_with (go_at_call 12; refine (in_any _ _ _).mono ?_; rintro e w6 ⟨rfl, hb6⟩; try have hc6 := (hb6.cell (p := ⟨w3.heap.size, 1, none⟩) (Nat.lt_of_lt_of_le hz4 hbr.size)).trans hc)
          go_roundw
          case rel => exact ⟨2, by omega, by omega, rfl, by repeat (first | (with_reducible assumption) | (refine bthen ?_ (by with_reducible assumption)))⟩
          case measure => simp [intOf]
      · have hc := (hbr.cell (p := ⟨w3.heap.size, 2, none⟩) hz4).trans K2.out
        rcases Bool.eq_false_or_eq_true (inM 4 (deriveM a b).1) with hi | hi
        · have hi2 := F4.out hi
          go_wp2_with (go_at_call 12; refine (in_any _ _ _).mono ?_; rintro e w6 ⟨rfl, hb6⟩; try have hc6 := (hb6.cell (p := ⟨w3.heap.size, 2, none⟩) (Nat.lt_of_lt_of_le hz4 hbr.size)).trans hc)
          go_roundw
          case rel => exact ⟨3, by omega, by omega, rfl, by repeat (first | (with_reducible assumption) | (refine bthen ?_ (by with_reducible assumption)))⟩
          case measure => simp [intOf]
        · go_wp2_with (go_at_call 12; refine (in_any _ _ _).mono ?_; rintro e w6 ⟨rfl, hb6⟩; try have hc6 := (hb6.cell (p := ⟨w3.heap.size, 2, none⟩) (Nat.lt_of_lt_of_le hz4 hbr.size)).trans hc)
          go_roundw
          case rel => exact ⟨3, by omega, by omega, rfl, by repeat (first | (with_reducible assumption) | (refine bthen ?_ (by with_reducible assumption)))⟩
          case measure => simp [intOf]
      · have hc := (hbr.cell (p := ⟨w3.heap.size, 3, none⟩) hz4).trans K3.out
        go_wp2_with fail
        go_roundw
        case rel => exact ⟨4, by omega, by omega, rfl, by repeat (first | (with_reducible assumption) | (refine bthen ?_ (by with_reducible assumption)))⟩
        case measure => simp [intOf]
      · have hu := F1.out
        have HT : Hid (amongB (deriveM a b).1 (allL.take 4) = isB (deriveM a b).1) := Lib.hid (pick_isB _)
        rcases Bool.eq_false_or_eq_true ((deriveM b c).2) with e1 | e1 <;> rcases Bool.eq_false_or_eq_true ((deriveM a (deriveM b c).1).2) with e2 | e2
        all_goals
          have e3 := G1.out
          rw [e1, e2] at e3
          simp only [Bool.and_true, Bool.and_false] at e3
          first
          | (have e4 := congrArg ByteArray.toList (G2.out e3); have E4 : ((deriveM (deriveM a b).1 c).1.toList == (deriveM a (deriveM b c).1).1.toList) = true := (by rw [e4]; simp); clear e4)
          | skip
          go_wp2_with (first | (go_at_call 6; refine (awake_any _).mono ?_; rintro e w2 ⟨rfl, hb2⟩) | (go_at_call 8; refine (derive_any _ _ _).mono ?_; rintro e w3 ⟨rfl, hb3⟩) | (go_at_call 10; refine (is_any _ _).mono ?_; rintro e w5 ⟨rfl, hb5⟩) | (go_at_call 14; refine (In_any _ ⟨w.heap.size, 0, none⟩ 7 (allL.take 4) _ (by exact cells_take HC (by repeat (first | (with_reducible exact Below.refl _ _) | (with_reducible assumption) | (with_reducible refine bdrewN ?_ _) | (refine bthen ?_ (by with_reducible assumption))))) (by decide)).mono ?_; rw [HT.out]; rintro e w8 ⟨rfl, rfl⟩))
          go_ret
          exact ⟨rfl, by repeat (first | (with_reducible assumption) | (refine bthen ?_ (by with_reducible assumption)) | (refine bdrewN ?_ _))⟩
  · have HE : Hid ((deriveM a b).1 = bEmpty) := Lib.hid (dM_false hd)
    have HT : ((deriveM a b).1).toList = [] := by rw [HE.out]; exact empty_tl
    go_wp2_with (first | (go_at_call 6; refine (awake_any _).mono ?_; rintro e w2 ⟨rfl, hb2⟩) | (go_at_call 8; refine (derive_any _ _ _).mono ?_; rintro e w3 ⟨rfl, hb3⟩))
    go_ret
    exact ⟨rfl, by repeat (first | (with_reducible assumption) | (refine bthen ?_ (by with_reducible assumption)) | (refine bdrewN ?_ _))⟩
end Go.Proofs.Ytpafhlhoibmocaa
