/- The contracts of cmp.Or, coord.Key and the reference's Key, Type and or: the same plain functions for both. -/
import Derived.Test.YtfcnmghhhgghcaaA
import Derived.Deep.RegionHeld3
import Derived.LoopN
namespace Go.Proofs.Ytfcnmghhhgghcaa
open Go.RowKit

def orS (a b : ByteArray) : ByteArray := if a.toList = [] then b else a
theorem empty_eq {b : ByteArray} (h : b.toList = []) : b = ⟨#[]⟩ := by
  rw [ByteArray.toList_eq] at h
  cases b with
  | mk d => congr 1; exact Array.toList_inj.1 h

set_option maxHeartbeats 400000 in
theorem or2_any (a b : ByteArray) (B : Nat) (w : World) (h0 : w.cell? ⟨B, 0, none⟩ = some (.string a)) (h1 : w.cell? ⟨B, 1, none⟩ = some (.string b)) :
    Calls Try.prog 20 #[.slice (some ⟨B, 0, none⟩) 2 2] w fun e w' => e = .returned (.string (orS a b)) ∧ w' = w := by
  by_cases ha : a.toList = []
  · have e : orS a b = b := by rw [orS, if_pos ha]
    rw [e]
    have ha2 : a.toList.isEmpty = true := by simp [ha]
    by_cases hb : b.toList = []
    · have E := Lib.hid (empty_eq hb)
      have hb2 : b.toList.isEmpty = true := by simp [hb]
      clear e
      go_enter Try.func20, Try.ntmps20
      go_wp2
      refine wp_loop_rounds 3 ?_
      rw [rounds_succ]
      go_wp2
      rw [rounds_succ]
      go_wp2
      rw [rounds_succ]
      go_wp2
      go_ret
      exact ⟨by rw [E.out]; rfl, rfl⟩
    · have hb2 : b.toList.isEmpty = false := by simpa using hb
      clear e
      go_enter Try.func20, Try.ntmps20
      go_wp2
      refine wp_loop_rounds 2 ?_
      rw [rounds_succ]
      go_wp2
      rw [rounds_succ]
      go_wp2
      go_ret
      exact ⟨rfl, rfl⟩
  · have e : orS a b = a := by rw [orS, if_neg ha]
    rw [e]
    have ha2 : a.toList.isEmpty = false := by simpa using ha
    clear e
    go_enter Try.func20, Try.ntmps20
    go_wp2
    refine wp_loop_rounds 1 ?_
    rw [rounds_succ]
    go_wp2
    go_ret
    exact ⟨rfl, rfl⟩

set_option maxHeartbeats 400000 in
theorem ror_any (a b : ByteArray) (w : World) :
    Calls Try.prog 21 #[.string a, .string b] w fun e w' => e = .returned (.string (orS a b)) ∧ w' = w := by
  by_cases ha : a.toList = []
  · have e : orS a b = b := by rw [orS, if_pos ha]
    rw [e]
    have ha2 : a.toList.isEmpty = true := by simp [ha]
    clear e
    go_enter Try.func21, Try.ntmps21
    go_wp2
    go_ret
    exact ⟨rfl, rfl⟩
  · have e : orS a b = a := by rw [orS, if_neg ha]
    rw [e]
    have ha2 : a.toList.isEmpty = false := by simpa using ha
    clear e
    go_enter Try.func21, Try.ntmps21
    go_wp2
    go_ret
    exact ⟨rfl, rfl⟩

structure Dp where
  (g n v t c s : ByteArray)
  o : Bool
  e : List Ex
abbrev DV (d : Dp) (A : Option Addr) (k : Nat) : Value := .agg #[.string d.g, .string d.n, .string d.v, .string d.t, .string d.c, .string d.s, .bool d.o, .slice A d.e.length k]
abbrev DC (d : Dp) (A : Option Addr) (k : Nat) : Obj := .cells #[.string d.g, .string d.n, .string d.v, .string d.t, .string d.c, .string d.s, .bool d.o, .slice A d.e.length k] 24
def bJar : ByteArray := ⟨#[106, 97, 114]⟩
def bCol : ByteArray := ⟨#[58]⟩
def keyS (d : Dp) : ByteArray := d.g ++ ⟨#[58]⟩ ++ d.n ++ ⟨#[58]⟩ ++ orS d.t ⟨#[106, 97, 114]⟩ ++ ⟨#[58]⟩ ++ d.c
def DpOk (d : Dp) : Prop := d.g.size ≤ 140737488351232 ∧ d.n.size ≤ 140737488351232 ∧ d.v.size ≤ 140737488351232 ∧ d.t.size ≤ 140737488351232 ∧ d.c.size ≤ 140737488351232 ∧ d.s.size ≤ 140737488351232 ∧ d.e.length ≤ 4398046510976

theorem bdrew {B : Nat} {a w : World} (h : Below B a w) : Below B a w.drew := ⟨h.os, h.tape, h.output, h.size, h.block⟩
set_option maxHeartbeats 1000000 in
theorem key_any (d : Dp) (A : Option Addr) (k : Nat) (w : World) (hd : DpOk d) :
    Calls Try.prog 15 #[DV d A k] w fun e w' => e = .returned (.string (keyS d)) ∧ Below w.heap.size w w' := by
  obtain ⟨z1, z2, _, z4, z5, _, _⟩ := hd
  go_enter Try.func15, Try.ntmps15
  go_wp2_with fail
  have c0 : (w.alloc (DC d A k)).cell? ⟨w.heap.size, 0, none⟩ = some (.string d.g) := by simp
  have c1 : (w.alloc (DC d A k)).cell? ⟨w.heap.size, 1, none⟩ = some (.string d.n) := by simp
  have c3 : (w.alloc (DC d A k)).cell? ⟨w.heap.size, 3, none⟩ = some (.string d.t) := by simp
  have c4 : (w.alloc (DC d A k)).cell? ⟨w.heap.size, 4, none⟩ = some (.string d.c) := by simp
  have hb0 : Below w.heap.size w (w.alloc (DC d A k)) := balloc (Below.refl _ _) _
  generalize hW : w.alloc (DC d A k) = W at *
  clear hW
  have e58 : (⟨#[58]⟩ : ByteArray).size = 1 := rfl
  have zo : (orS d.t ⟨#[106, 97, 114]⟩).size ≤ 140737488351232 := by unfold orS; split <;> first | exact (by decide) | exact z4
  have a1 := fun W => run_string_add_sum (P := Try.prog) W d.g ⟨#[58]⟩ (by omega)
  have a2 := fun W => run_string_add_sum (P := Try.prog) W (d.g ++ ⟨#[58]⟩) d.n (by rw [ByteArray.size_append]; omega)
  have a3 := fun W => run_string_add_sum (P := Try.prog) W (d.g ++ ⟨#[58]⟩ ++ d.n) ⟨#[58]⟩ (by simp only [ByteArray.size_append]; omega)
  have a4 := fun W => run_string_add_sum (P := Try.prog) W (d.g ++ ⟨#[58]⟩ ++ d.n ++ ⟨#[58]⟩) (orS d.t ⟨#[106, 97, 114]⟩) (by simp only [ByteArray.size_append]; omega)
  have a5 := fun W => run_string_add_sum (P := Try.prog) W (d.g ++ ⟨#[58]⟩ ++ d.n ++ ⟨#[58]⟩ ++ orS d.t ⟨#[106, 97, 114]⟩) ⟨#[58]⟩ (by simp only [ByteArray.size_append]; omega)
  have a6 := fun W => run_string_add_sum (P := Try.prog) W (d.g ++ ⟨#[58]⟩ ++ d.n ++ ⟨#[58]⟩ ++ orS d.t ⟨#[106, 97, 114]⟩ ++ ⟨#[58]⟩) d.c (by simp only [ByteArray.size_append]; omega)
  go_region_held3 (fun w' => w'.cell? ⟨w.heap.size, 0, none⟩ = some (.string d.g) ∧ w'.cell? ⟨w.heap.size, 1, none⟩ = some (.string d.n) ∧ w'.cell? ⟨w.heap.size, 3, none⟩ = some (.string d.t) ∧ w'.cell? ⟨w.heap.size, 4, none⟩ = some (.string d.c)) (go_keep) ((go_at_call 20; refine (or2_any d.t ⟨#[106, 97, 114]⟩ _ _ (by simp) (by simp)).mono ?_; rintro e w' ⟨rfl, rfl⟩))
  clear a1 a2 a3 a4 a5 a6
  go_wp2_with fail
  go_ret
  exact ⟨rfl, by repeat (first | (with_reducible assumption) | (refine bdrewN ?_ _) | (refine balloc ?_ _) | (refine bdrew ?_))⟩

set_option maxHeartbeats 1000000 in
theorem rtype_any (d : Dp) (A : Option Addr) (k : Nat) (w : World) :
    Calls Try.prog 18 #[DV d A k] w fun e w' => e = .returned (.string (orS d.t ⟨#[106, 97, 114]⟩)) ∧ w' = w.alloc (DC d A k) := by
  by_cases ha : d.t.toList = []
  · have e : orS d.t ⟨#[106, 97, 114]⟩ = ⟨#[106, 97, 114]⟩ := by rw [orS, if_pos ha]
    rw [e]
    have ha2 : d.t.toList.isEmpty = true := by simp [ha]
    clear e
    go_enter Try.func18, Try.ntmps18
    go_wp2
    go_ret
    exact ⟨rfl, rfl⟩
  · have e : orS d.t ⟨#[106, 97, 114]⟩ = d.t := by rw [orS, if_neg ha]
    rw [e]
    have ha2 : d.t.toList.isEmpty = false := by simpa using ha
    clear e
    go_enter Try.func18, Try.ntmps18
    go_wp2
    go_ret
    exact ⟨rfl, rfl⟩

set_option maxHeartbeats 1000000 in
theorem rkey_any (d : Dp) (A : Option Addr) (k : Nat) (w : World) (hd : DpOk d) :
    Calls Try.prog 9 #[DV d A k] w fun e w' => e = .returned (.string (keyS d)) ∧ Below w.heap.size w w' := by
  obtain ⟨z1, z2, _, z4, z5, _, _⟩ := hd
  go_enter Try.func9, Try.ntmps9
  go_wp2_with fail
  have c0 : (w.alloc (DC d A k)).cell? ⟨w.heap.size, 0, none⟩ = some (.string d.g) := by simp
  have c1 : (w.alloc (DC d A k)).cell? ⟨w.heap.size, 1, none⟩ = some (.string d.n) := by simp
  have c2 : (w.alloc (DC d A k)).cell? ⟨w.heap.size, 2, none⟩ = some (.string d.v) := by simp
  have c3 : (w.alloc (DC d A k)).cell? ⟨w.heap.size, 3, none⟩ = some (.string d.t) := by simp
  have c4 : (w.alloc (DC d A k)).cell? ⟨w.heap.size, 4, none⟩ = some (.string d.c) := by simp
  have c5 : (w.alloc (DC d A k)).cell? ⟨w.heap.size, 5, none⟩ = some (.string d.s) := by simp
  have c6 : (w.alloc (DC d A k)).cell? ⟨w.heap.size, 6, none⟩ = some (.bool d.o) := by simp
  have c7 : (w.alloc (DC d A k)).cell? ⟨w.heap.size, 7, none⟩ = some (.slice A d.e.length k) := by simp
  have hb0 : Below w.heap.size w (w.alloc (DC d A k)) := balloc (Below.refl _ _) _
  generalize hW : w.alloc (DC d A k) = W at *
  clear hW
  have e58 : (⟨#[58]⟩ : ByteArray).size = 1 := rfl
  have zo : (orS d.t ⟨#[106, 97, 114]⟩).size ≤ 140737488351232 := by unfold orS; split <;> first | exact (by decide) | exact z4
  have a1 := fun W => run_string_add_sum (P := Try.prog) W d.g ⟨#[58]⟩ (by omega)
  have a2 := fun W => run_string_add_sum (P := Try.prog) W (d.g ++ ⟨#[58]⟩) d.n (by rw [ByteArray.size_append]; omega)
  have a3 := fun W => run_string_add_sum (P := Try.prog) W (d.g ++ ⟨#[58]⟩ ++ d.n) ⟨#[58]⟩ (by simp only [ByteArray.size_append]; omega)
  have a4 := fun W => run_string_add_sum (P := Try.prog) W (d.g ++ ⟨#[58]⟩ ++ d.n ++ ⟨#[58]⟩) (orS d.t ⟨#[106, 97, 114]⟩) (by simp only [ByteArray.size_append]; omega)
  have a5 := fun W => run_string_add_sum (P := Try.prog) W (d.g ++ ⟨#[58]⟩ ++ d.n ++ ⟨#[58]⟩ ++ orS d.t ⟨#[106, 97, 114]⟩) ⟨#[58]⟩ (by simp only [ByteArray.size_append]; omega)
  have a6 := fun W => run_string_add_sum (P := Try.prog) W (d.g ++ ⟨#[58]⟩ ++ d.n ++ ⟨#[58]⟩ ++ orS d.t ⟨#[106, 97, 114]⟩ ++ ⟨#[58]⟩) d.c (by simp only [ByteArray.size_append]; omega)
  go_region_held3 (fun w' => w'.cell? ⟨w.heap.size, 0, none⟩ = some (.string d.g) ∧ w'.cell? ⟨w.heap.size, 1, none⟩ = some (.string d.n) ∧ w'.cell? ⟨w.heap.size, 2, none⟩ = some (.string d.v) ∧ w'.cell? ⟨w.heap.size, 3, none⟩ = some (.string d.t) ∧ w'.cell? ⟨w.heap.size, 4, none⟩ = some (.string d.c) ∧ w'.cell? ⟨w.heap.size, 5, none⟩ = some (.string d.s) ∧ w'.cell? ⟨w.heap.size, 6, none⟩ = some (.bool d.o) ∧ w'.cell? ⟨w.heap.size, 7, none⟩ = some (.slice A d.e.length k)) (go_keep) ((go_at_call 18; refine (rtype_any d A k _).mono ?_; rintro e w' ⟨rfl, rfl⟩))
  clear a1 a2 a3 a4 a5 a6
  go_wp2_with fail
  go_ret
  exact ⟨rfl, by repeat (first | (with_reducible assumption) | (refine bdrewN ?_ _) | (refine balloc ?_ _) | (refine bdrew ?_))⟩
end Go.Proofs.Ytfcnmghhhgghcaa
