/- The contracts of the law's all and awake, and the walk of ScopeTells: it returns true; the strings' lengths as a reading gives them. -/
import Derived.Test.YtpafhlhoibmocaaB
import Derived.Deep.QuietTactic
import Derived.BigQuiet
import Derived.ProofKit
import Derived.OpenShut
import Derived.ShutString
namespace Go.Proofs.Ytpafhlhoibmocaa
open Go.RowKit

def allL : List ByteArray := [bCompile, bRuntime, bProvided, bTest, ⟨#[]⟩, ⟨#[105, 109, 112, 111, 114, 116]⟩, ⟨#[115, 121, 115, 116, 101, 109]⟩]

set_option maxHeartbeats 400000 in
theorem all_any (w : World) :
    Calls Try.prog 7 #[] w fun e w' => e = .returned (.slice (some ⟨w.heap.size, 0, none⟩) 7 7) ∧ Below w.heap.size w w' ∧ Hid (w.heap.size < w'.heap.size ∧ ∀ j, j < 7 → w'.cell? ⟨w.heap.size, j, none⟩ = some (.string (allL.getD j default))) := by
  have HR : Hid (∀ j, j < 7 → (w.alloc (.cells (allL.map Value.string).toArray 9)).cell? ⟨w.heap.size, j, none⟩ = some (.string (allL.getD j default))) := by
    intro j hj
    rw [World.cell?_alloc_new]
    have : j < allL.length := hj
    simp [List.getD_eq_getElem?_getD, this]
  go_enter Try.func7, Try.ntmps7
  go_wp2
  go_ret
  exact ⟨rfl, (Below.refl _ _).alloc (Nat.le_refl _) _, by simp, HR⟩

theorem pick7 (i : Int) : ∃ p : Nat, p < 7 ∧ IntKind.i64.wrap ((IntKind.u64.wrap i).tmod 7) = (p : Int) := by
  refine ⟨(IntKind.i64.wrap ((IntKind.u64.wrap i).tmod 7)).toNat, ?_⟩
  have h : 0 ≤ IntKind.u64.wrap i := by simp [IntKind.wrap, IntKind.signed, IntKind.bits]; omega
  have e : (IntKind.u64.wrap i).tmod 7 = (IntKind.u64.wrap i) % 7 := Int.tmod_eq_emod_of_nonneg h
  rw [e]
  generalize IntKind.u64.wrap i = x at *
  have : IntKind.i64.wrap (x % 7) = x % 7 := IntWalk.i64_in _ (by omega)
  rw [this]
  omega

theorem aw1 : deriveM bTest bCompile = (bTest, true) := by
  refine derive_2 ?_ ?_ ?_ <;> simp [eqC, eqR, isB, eqT, tl_C, tl_T]
theorem aw2 : inM 2 bProvided = true := by simp [inM, eqP, tl_P]
theorem aw3 : isB bTest = true := by simp [isB, eqT, tl_T]

set_option maxHeartbeats 400000 in
theorem awake_any (w : World) :
    Calls Try.prog 6 #[] w fun e w' => e = .returned (.bool true) ∧ Below w.heap.size w w' := by
  have H1 := Lib.hid aw1
  have H2 := Lib.hid aw2
  have H3 := Lib.hid aw3
  have HT := tl_T
  unfold bTest at HT
  go_enter Try.func6, Try.ntmps6
  go_wp2_with (first | (go_at_call 8; refine (derive_any bTest bCompile _).mono ?_; rw [H1.out]; rintro e w1 ⟨rfl, hb1⟩) | (go_at_call 12; refine (in_any 2 bProvided _).mono ?_; rw [H2.out]; rintro e w2 ⟨rfl, hb2⟩) | (go_at_call 10; refine (is_any bTest _).mono ?_; rw [H3.out]; rintro e w3 ⟨rfl, hb3⟩))
  go_ret
  exact ⟨rfl, hb1.trans ((hb2.mono hb1.size).trans (hb3.mono (Nat.le_trans hb1.size hb2.size)))⟩

theorem bthen {w w1 w2 : World} (h : Below w.heap.size w w1) (k : Below w1.heap.size w1 w2) : Below w.heap.size w w2 := h.trans (k.mono h.size)
theorem bdrewN {B : Nat} {a w : World} (h : Below B a w) (n : Nat) : Below B a (w.drewN n) := ⟨h.os, h.tape, h.output, h.size, h.block⟩

set_option maxHeartbeats 400000 in
theorem tells_any (a b : ByteArray) (i k kind : Int) (w0 : a.size ≤ maxLen) (w1 : b.size ≤ maxLen) (_w2 : (Lit.int .i64 i).wf = true) (_w3 : (Lit.int .i64 k).wf = true) (_w4 : (Lit.int .i64 kind).wf = true) (w : World) :
    Calls Try.prog 3 #[.string a, .string b, .int .i64 i, .int .i64 k, .int .i64 kind] w fun e w' => e = .returned (.bool true) ∧ Below w.heap.size w w' := by
  unfold maxLen at w0 w1
  by_cases ha : 50 < a.size
  · have ha' : (50 < (a.size : Int)) := by omega
    go_enter Try.func3, Try.ntmps3
    go_wp2_with (go_at_call 6; refine (awake_any _).mono ?_; rintro e w2 ⟨rfl, hb2⟩)
    go_ret
    exact ⟨rfl, hb2⟩
  by_cases hb : 50 < b.size
  · have hb' : (50 < (b.size : Int)) := by omega
    go_enter Try.func3, Try.ntmps3
    go_wp2_with (go_at_call 6; refine (awake_any _).mono ?_; rintro e w2 ⟨rfl, hb2⟩)
    go_ret
    exact ⟨rfl, hb2⟩
  have ha' : a.size ≤ 50 := by omega
  have hb' : b.size ≤ 50 := by omega
  clear ha hb
  obtain ⟨p, hp, ep⟩ := pick7 i
  obtain ⟨q, hq, eq⟩ := pick7 k
  have EP := Lib.hid ep
  have EQ := Lib.hid eq
  clear ep eq
  go_enter Try.func3, Try.ntmps3
  go_wp2_with (go_at_call 7; refine (all_any _).mono ?_; rintro e w1 ⟨rfl, hb1, HC⟩)
  have hcp := HC.out.2 p hp
  have hcq := HC.out.2 q hq
  have ep := EP.out
  have eq := EQ.out
  generalize allL.getD p default = x at hcp
  generalize allL.getD q default = y at hcq
  go_quiet (fail)
  clear ep eq EP EQ hcp hcq HC
  go_wp2_with (first | (go_at_call 6; refine (awake_any _).mono ?_; rintro e w2 ⟨rfl, hb2⟩) | (go_at_call 8; refine (derive_any _ _ _).mono ?_; rintro e w3 ⟨rfl, hb3⟩) | (go_at_call 9; refine (refderive_any _ _ _).mono ?_; rintro e w4 ⟨rfl, rfl⟩) | (go_at_call 10; refine (is_any _ _).mono ?_; rintro e w5 ⟨rfl, hb5⟩) | (go_at_call 11; refine (refis_any _ _).mono ?_; rintro e w5 ⟨rfl, rfl⟩) | (go_at_call 12; refine (in_any _ _ _).mono ?_; rintro e w6 ⟨rfl, hb6⟩) | (go_at_call 13; refine (refin_any _ _ _).mono ?_; rintro e w7 ⟨rfl, rfl⟩))
  go_ret
  exact ⟨rfl, by repeat (first | (with_reducible assumption) | (refine bthen ?_ (by with_reducible assumption)) | (refine bdrewN ?_ _))⟩
end Go.Proofs.Ytpafhlhoibmocaa
