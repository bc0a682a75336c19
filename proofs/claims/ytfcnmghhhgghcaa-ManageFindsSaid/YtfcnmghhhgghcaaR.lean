/- The contracts of help.Dep (of equal ones) and of awake. -/
import Derived.Test.YtfcnmghhhgghcaaO
namespace Go.Proofs.Ytfcnmghhhgghcaa
open Go.RowKit

theorem sameB_refl (l : List Ex) : sameB l l = true := by
  induction l with
  | nil => rfl
  | cons x l ih => simp [sameB, eqB, ih]

set_option maxHeartbeats 1000000 in
set_option maxRecDepth 100000 in
theorem dep_any (d : Dp) (A A' : Option Addr) (k k' : Nat) (w : World) (hd : d.e.length ≤ 4398046511104) (hl : ReadsEx w A d.e) (hm : ReadsEx w A' d.e) :
    Calls Try.prog 10 #[DV d A k, DV d A' k'] w fun e w' => e = .returned (.bool true) ∧ Below w.heap.size w w' := by
  have HL := Lib.hid hl
  have HM := Lib.hid hm
  clear hl hm
  go_enter Try.func10, Try.ntmps10
  go_wp2_with fail
  refine (plain_any A A' k k' d.e d.e _ hd hd ((HL.out.below (balloc (balloc (Below.refl _ _) _) _))) (HM.out.below (balloc (balloc (Below.refl _ _) _) _))).mono ?_
  rintro e w' ⟨rfl, hb⟩
  have hs := sameB_refl d.e
  go_wp2_with fail
  go_ret
  exact ⟨rfl, bthen (balloc (balloc (Below.refl _ _) _) _) hb⟩

def aX (l : List UInt8) : Dp := ⟨⟨#[103]⟩, ⟨#[97]⟩, ⟨l.toArray⟩, ⟨#[]⟩, ⟨#[]⟩, ⟨#[]⟩, false, []⟩
def aL (b : UInt8) : List Dp := [aX [b]]
theorem aL_len (b : UInt8) : (aL b).length = 1 := rfl
theorem aX_ok (l : List UInt8) (h : l.length ≤ 1) : DpOk (aX l) := by
  have e0 : (⟨#[]⟩ : ByteArray).size = 0 := rfl
  have e1 : (⟨#[103]⟩ : ByteArray).size = 1 := rfl
  have e2 : (⟨#[97]⟩ : ByteArray).size = 1 := rfl
  have e3 : (⟨l.toArray⟩ : ByteArray).size = l.length := rfl
  simp only [DpOk, aX, e0, e1, e2, e3, List.length_nil]
  omega
theorem aL_ok (b : UInt8) : ∀ x ∈ aL b, DpOk x := by
  intro x hx
  simp only [aL, List.mem_singleton] at hx
  subst hx
  exact aX_ok _ (by simp)
theorem aL_reads (w : World) (b : UInt8) (B : Nat) (h0 : w.cell? ⟨B, 0, none⟩ = some (.string ⟨#[103]⟩)) (h1 : w.cell? ⟨B, 1, none⟩ = some (.string ⟨#[97]⟩)) (h2 : w.cell? ⟨B, 2, none⟩ = some (.string ⟨#[b]⟩))
    (h3 : w.cell? ⟨B, 3, none⟩ = some (.string ⟨#[]⟩)) (h4 : w.cell? ⟨B, 4, none⟩ = some (.string ⟨#[]⟩)) (h5 : w.cell? ⟨B, 5, none⟩ = some (.string ⟨#[]⟩)) (h6 : w.cell? ⟨B, 6, none⟩ = some (.bool false)) (h7 : w.cell? ⟨B, 7, none⟩ = some (.slice none 0 0)) :
    ReadsDp w (some ⟨B, 0, none⟩) (aL b) := by
  intro _
  refine ⟨_, rfl, fun j hj => ⟨none, 0, ?_⟩⟩
  have : j = 0 := by rw [aL_len] at hj; omega
  subst this
  exact ⟨h0, h1, h2, h3, h4, h5, h6, h7, fun h => absurd h (Nat.lt_irrefl _)⟩
theorem aX_key (l m : List UInt8) : keyS (aX l) = keyS (aX m) := rfl
theorem aL_findB (b : UInt8) (l : List UInt8) : findB (aL b) (keyS (aX l)) = true := by
  simp only [findB, aL, List.any_cons, hasKey, aX_key [b] l]; simp
theorem aL_findD (b : UInt8) (l : List UInt8) : findD (aL b) (keyS (aX l)) = aX [b] := by
  rw [findD, aL, List.find?_cons_of_pos (p := hasKey _) (by simp only [hasKey, aX_key [b] l]; simp)]; rfl
theorem or_empty (b : ByteArray) : orS ⟨#[]⟩ b = b := by rw [orS, if_pos (by rw [ByteArray.toList_eq])]
theorem or_one (c : UInt8) (b : ByteArray) : orS ⟨#[c]⟩ b = ⟨#[c]⟩ := by rw [orS, if_neg (by rw [ByteArray.toList_eq]; simp)]
theorem inj_aX : injM (aX []) (aL 49) = aX [49] := by
  rw [injM, if_pos (aL_findB _ _), aL_findD]; simp [aX, or_empty]
theorem ov_aX : ovM (aX [49]) (aL 50) = aX [50] := by
  rw [ovM, if_pos (aL_findB _ _), aL_findD]; simp [aX, or_empty, or_one]

theorem run_field24 (d : Dp) (A : Option Addr) (k : Nat) (w : World) : Sem.run Try.prog (Instr.field 24 (DV d A k) 2) w = .ok (.string d.v) w := rfl
theorem aX_v (b : UInt8) : ((aX [b]).v.toList == [b]) = true := by simp [aX, ByteArray.toList_eq]

set_option maxHeartbeats 1000000 in
set_option maxRecDepth 100000 in
theorem awake_any (w : World) : Calls Try.prog 6 #[] w fun e w' => e = .returned (.bool true) ∧ Below w.heap.size w w' := by
  have HI := Lib.hid inj_aX
  have HV := Lib.hid ov_aX
  go_enter Try.func6, Try.ntmps6
  go_wp2_with fail
  refine (inject_any (aX []) none 0 (some ⟨w.heap.size, 0, none⟩) 1 (aL 49) _ (aX_ok _ (by simp)) (fun h => absurd h (Nat.lt_irrefl _)) (Nat.le_refl _) (aL_reads _ _ _ (by simp) (by simp) (by simp) (by simp) (by simp) (by simp) (by simp) (by simp)) (aL_ok _)).mono ?_
  rintro e w1 ⟨A, k, rfl, ho, hr, hb⟩
  rw [HI.out] at ho hr ⊢
  have HO := Lib.hid ho
  have HR := Lib.hid hr
  have HB1 := Lib.hid (bthen (balloc (Below.refl _ _) _) hb)
  clear ho hr hb
  have hv1 := aX_v 49
  have hv1' : (aX [49]).v.toList = [49] := by simpa using hv1
  go_wp2_with fail
  refine (override_any (aX [49]) A k _ 1 (aL 50) _ (aX_ok _ (by simp)) (HR.out.below (balloc (balloc (Below.refl _ _) _) _)) (Nat.le_refl _) (aL_reads _ _ _ (by simp) (by simp) (by simp) (by simp) (by simp) (by simp) (by simp) (by simp)) (aL_ok _) ?_).mono ?_
  · rw [aL_findD]; decide
  rintro e w2 ⟨A2, k2, rfl, ho2, hr2, hb2⟩
  rw [HV.out] at ho2 hr2 ⊢
  clear ho2 hr2
  have hv2 := aX_v 50
  have hv2' : (aX [50]).v.toList = [50] := by simpa using hv2
  have hf := run_field24 (aX [50]) A2 k2 w2
  go_wp2_with fail
  go_ret
  exact ⟨rfl, bthen (balloc (balloc HB1.out _) _) hb2⟩
end Go.Proofs.Ytfcnmghhhgghcaa
