/- The contract of slices.SortStableFunc below forty. -/
import Derived.Test.YtodninjcmfbfdaaO
namespace Go.Proofs.Ytodninjcmfbfdaa
open Go.RowKit

theorem sym_any {w1 : World} {B D : Nat} {A : Option Addr} {c : Nat} {ls : List (List Int)} (C : Ctx w1 B D A c ls) (cap : Nat) : ∀ n, SymOk w1 B D cap ls n := by
  intro n
  induction n with
  | zero => intro a m b h1 h2 h3; omega
  | succ n ih =>
    intro a m b hn h1 h2 h3 p W hS hv hl hr hb
    by_cases c1 : m = a + 1
    · subst c1; exact sym_left C cap a b h2 h3 p W hS hv hr hb
    · by_cases c2 : b = m + 1
      · subst c2; exact sym_right C cap a m (by omega) h3 p W hS hv hl hb
      · exact sym_gen C cap n a m b hn ih (by omega) (by omega) h3 p W hS hv hl hr hb

/-- Two calls of the insertion sort, one behind the other. -/
theorem two_ins {lt : Nat → Nat → Bool} {n : Nat} {p p1 p2 : Row} (h20 : 20 ≤ n) (hasc : ∀ k l, k < l → l < n → p k < p l) (m1 : Mv 0 20 p p1) (s1 : SortedT lt 0 20 p1) (m2 : Mv 20 n p1 p2) :
    Mv 0 n p p2 ∧ SortedT lt 0 20 p2 ∧ Below2 0 20 20 n p2 := by
  refine ⟨(m1.wide (Nat.le_refl _) h20).trans (m2.wide (Nat.zero_le _) (Nat.le_refl _)), fun k l g1 g2 g3 => ?_, fun k l g1 g2 g3 g4 => ?_⟩
  · rw [m2.out k (by omega), m2.out l (by omega)]; exact s1 k l g1 g2 g3
  · rw [m2.out k (by omega)]
    obtain ⟨k', a1, a2, a3⟩ := m1.frm k g1 g2
    obtain ⟨l', b1, b2, b3⟩ := m2.frm l g3 g4
    rw [a3, b3, m1.out l' (by omega)]
    exact hasc k' l' (by omega) b2
set_option maxHeartbeats 4000000 in
theorem stab_20 {w1 : World} {B D : Nat} {A : Option Addr} {c : Nat} {ls : List (List Int)} (C : Ctx w1 B D A c ls) (cap : Nat) (h20 : ls.length = 20) (p : Row) (W : World) (hS : St w1 D ls.length W p)
    (hv : ∀ j, j < ls.length → p j < ls.length) (hasc : ∀ k l, k < l → l < ls.length → p k < p l) :
    Calls Try.prog 26 #[.slice (some ⟨D, 0, none⟩) ls.length cap, .int .i64 ls.length, fv B] W (SortPost w1 D ls p) := by
  have HI := Lib.hid (ins_any C cap 0 20 (Nat.zero_le _) (by omega) p W hS hv (fun k l _ h2 h3 => hasc k l h2 (by omega)))
  have HI2 := Lib.hid (fun (p1 : Row) (w : World) (hs : St w1 D ls.length w p1) (hv1 : ∀ j, j < ls.length → p1 j < ls.length) => ins_any C cap 20 20 (Nat.le_refl _) (by omega) p1 w hs hv1 (fun k l h1 h2 h3 => by omega))
  have HV := Lib.hid hv
  have HA := Lib.hid hasc
  have HN := Lib.hid h20
  clear C hS hv hasc
  rw [h20] at HI HI2 ⊢
  have e20 : (((20 : Nat) : Int)) = 20 := rfl
  clear h20
  go_enter Try.func26, Try.ntmps26
  go_wp2
  refine wp_loop_rounds 2 ?_
  rw [rounds_succ]
  go_wp2_with (go_at_call 29; refine HI.out.mono ?_; rintro e w2 ⟨rfl, p1, hs1, hm1, ht1⟩)
  rw [rounds_succ]
  go_wp2_with (go_at_call 29; refine (HI2.out p1 _ hs1 (by have := hm1.val (N := 20) (by omega) (by have := HV.out; rw [HN.out] at this; exact this); exact this)).mono ?_; rintro e w3 ⟨rfl, p2, hs2, hm2, ht2⟩)
  refine wp_loop_rounds 1 ?_
  rw [rounds_succ]
  go_wp2
  go_end0
  obtain ⟨g1, g2, _⟩ := two_ins (n := 20) (Nat.le_refl _) (by have := HA.out; rw [HN.out] at this; exact this) hm1 ht1 hm2
  refine ⟨rfl, p2, ?_, ?_, ?_⟩ <;> rw [HN.out]
  · exact hs2
  · exact g1
  · exact g2

set_option maxHeartbeats 4000000 in
theorem stab_big {w1 : World} {B D : Nat} {A : Option Addr} {c : Nat} {ls : List (List Int)} (C : Ctx w1 B D A c ls) (cap : Nat) (h20 : 20 < ls.length) (h40 : ls.length < 40) (p : Row) (W : World) (hS : St w1 D ls.length W p)
    (hv : ∀ j, j < ls.length → p j < ls.length) (hasc : ∀ k l, k < l → l < ls.length → p k < p l) :
    Calls Try.prog 26 #[.slice (some ⟨D, 0, none⟩) ls.length cap, .int .i64 ls.length, fv B] W (SortPost w1 D ls p) := by
  have HI := Lib.hid (ins_any C cap 0 20 (Nat.zero_le _) (by omega) p W hS hv (fun k l _ h2 h3 => hasc k l h2 (by omega)))
  have HI2 := Lib.hid (fun (p1 : Row) (w : World) (hs : St w1 D ls.length w p1) (hm : Mv 0 20 p p1) => ins_any C cap 20 ls.length (by omega) (Nat.le_refl _) p1 w hs (hm.val (by omega) hv) (fun k l h1 h2 h3 => by rw [hm.out k (by omega), hm.out l (by omega)]; exact hasc k l h2 h3))
  have HS3 := Lib.hid (fun (p1 p2 : Row) (w : World) (hs : St w1 D ls.length w p2) (hm : Mv 0 20 p p1) (ht : SortedT (ltW ls) 0 20 p1) (hm2 : Mv 20 ls.length p1 p2) (ht2 : SortedT (ltW ls) 20 ls.length p2) =>
    sym_any C cap ls.length 0 20 ls.length (by omega) (by omega) h20 (Nat.le_refl _) p2 w hs ((two_ins (Nat.le_of_lt h20) hasc hm ht hm2).1.val (Nat.le_refl _) hv) (two_ins (Nat.le_of_lt h20) hasc hm ht hm2).2.1 ht2 (two_ins (Nat.le_of_lt h20) hasc hm ht hm2).2.2)
  have HF := Lib.hid (fun (p1 p2 : Row) (hm : Mv 0 20 p p1) (ht : SortedT (ltW ls) 0 20 p1) (hm2 : Mv 20 ls.length p1 p2) => (two_ins (Nat.le_of_lt h20) hasc hm ht hm2).1)
  have g1 : (20 : Int) ≤ (ls.length : Int) := by omega
  have g2 : (20 : Int) < (ls.length : Int) := by omega
  have g3 : ¬ (40 : Int) ≤ (ls.length : Int) := by omega
  have g4 : ¬ (40 : Int) < (ls.length : Int) := by omega
  clear C hS hv hasc
  go_enter Try.func26, Try.ntmps26
  go_wp2
  refine wp_loop_rounds 2 ?_
  rw [rounds_succ]
  go_wp2_with (go_at_call 29; refine HI.out.mono ?_; rintro e w2 ⟨rfl, p1, hs1, hm1, ht1⟩)
  rw [rounds_succ]
  go_wp2_with (go_at_call 29; refine (HI2.out p1 _ hs1 hm1).mono ?_; rintro e w3 ⟨rfl, p2, hs2, hm2, ht2⟩)
  refine wp_loop_rounds 2 ?_
  rw [rounds_succ]
  go_wp2
  refine wp_loop_rounds 1 ?_
  rw [rounds_succ]
  go_wp2_with (go_at_call 30; refine (HS3.out p1 p2 _ hs2 hm1 ht1 hm2 ht2).mono ?_; rintro e w4 ⟨rfl, p3, hs3, hm3, ht3⟩)
  rw [rounds_succ]
  go_wp2
  go_end0
  exact ⟨rfl, p3, hs3, (HF.out p1 p2 hm1 ht1 hm2).trans hm3, ht3⟩
theorem sortOk_few {ls : List (List Int)} (h : ls.length < 40) : SortOk ls := by
  intro w1 B D A c cap p W C hS hv hasc
  rcases Nat.lt_trichotomy ls.length 20 with g | g | g
  · exact sort_of (stab_lt C cap g p W hS hv hasc)
  · exact sort_of (stab_20 C cap g p W hS hv hasc)
  · exact sort_of (stab_big C cap g h p W hS hv hasc)
end Go.Proofs.Ytodninjcmfbfdaa
