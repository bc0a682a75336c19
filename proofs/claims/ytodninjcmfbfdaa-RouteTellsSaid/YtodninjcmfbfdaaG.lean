/- The contract of route.Order, by that of the sort. -/
import Derived.Test.YtodninjcmfbfdaaF
namespace Go.Proofs.Ytodninjcmfbfdaa
open Go.RowKit

def SortOk (ls : List (List Int)) : Prop := ∀ (w1 : World) (B D : Nat) (A : Option Addr) (c cap : Nat) (p : Row) (W : World), Ctx w1 B D A c ls → St w1 D ls.length W p → (∀ j, j < ls.length → p j < ls.length) → (∀ k l, k < l → l < ls.length → p k < p l) →
  Calls Try.prog 21 #[.slice (some ⟨D, 0, none⟩) ls.length cap, fv B] W (SortPost w1 D ls p)
theorem sortOk_lt {ls : List (List Int)} (h : ls.length < 20) : SortOk ls := fun _ _ _ _ _ cap p W C hS hv hasc => sort_of (stab_lt C cap h p W hS hv hasc)
def ordL (n : Nat) (o : Row) : List Int := (List.range n).map fun j => (o j : Int)
theorem ordL_len (n : Nat) (o : Row) : (ordL n o).length = n := by simp [ordL]
theorem ordL_at (n : Nat) (o : Row) (j : Nat) (h : j < n) : (ordL n o).getD j 0 = (o j : Int) := by
  simp [ordL, List.getD_eq_getElem?_getD, h]
theorem ordL_succ (n : Nat) (o : Row) : ordL (n + 1) o = ordL n o ++ [(o n : Int)] := by
  simp [ordL, List.range_succ]
theorem cell_add {w : World} {g j : Nat} {v : Value} (h : w.cell? ⟨g, j, none⟩ = some v) : w.cell? ((⟨g, 0, none⟩ : Addr).add j) = some v := by
  have e : (⟨g, 0, none⟩ : Addr).add j = ⟨g, j, none⟩ := by unfold Addr.add; by_cases hj : j = 0 <;> simp [hj]
  rw [e]; exact h
def OrdPost (ls : List (List Int)) (w : World) (e : Ending) (w' : World) : Prop :=
  ∃ (A' : Option Addr) (k' : Nat) (o : Row), e = .returned (.slice A' ls.length k') ∧ ReadsI w' A' (ordL ls.length o) ∧ Below w.heap.size w w' ∧ Mv 0 ls.length id o ∧ SortedT (ltW ls) 0 ls.length o
theorem st_of {w1 W : World} {g cap n : Nat} (hb : Below w1.heap.size w1 W) (h : OwnsI W w1.heap.size (.slice (some ⟨g, 0, none⟩) n cap) (ordL n id)) (hn : 0 < n) (hg : w1.heap.size ≤ g) : St w1 g n W id := by
  have hl := ordL_len n id
  have h' : W.ownsRow w1.heap.size 3 1 (.slice (some ⟨g, 0, none⟩) n cap) n (iv (ordL n id)) := by have := h; unfold OwnsI at this; rw [hl] at this; exact this
  have hc : ∀ j, j < n → W.cell? ⟨g, j, none⟩ = some (.int .i64 ((id j : Nat) : Int)) := fun j hj => by
    rw [h'.cellAt j (by omega), iv_at _ j (by omega), ordL_at n id j hj]
  exact ⟨hb, hg, World.block_lt_of_cell? _ _ (hc 0 hn), hc, fun j hj => h'.frozenAt j⟩

set_option maxHeartbeats 2000000 in
theorem order_any (A : Option Addr) (c : Nat) (ls : List (List Int)) (w : World) (hs : SortOk ls) (hl : ReadsW w A ls) (hfew : ∀ x ∈ ls, x.length ≤ 39) (hlen : ls.length ≤ 39) :
    Calls Try.prog 15 #[.slice A ls.length c] w (OrdPost ls w) := by
  have HS := Lib.hid hs
  have HF := Lib.hid hfew
  have HL := Lib.hid (hl.below (balloc (Below.refl _ _) (.cells #[.slice A ls.length c] 23)))
  have hcb : (w.alloc (.cells #[.slice A ls.length c] 23)).cell? ⟨w.heap.size, 0, none⟩ = some (.slice A ls.length c) := by simp
  have HB0 : Hid (Below w.heap.size w (w.alloc (.cells #[.slice A ls.length c] 23))) := Lib.hid (balloc (Below.refl _ _) _)
  clear hs hfew hl
  by_cases h0 : ls.length = 0
  · have hnil : ls = [] := List.eq_nil_of_length_eq_zero h0
    subst hnil
    clear hcb HL HB0
    go_enter Try.func15, Try.ntmps15
    go_wp2
    refine wp_loop_rounds 1 ?_
    rw [rounds_succ]
    go_wp2_with (go_at_call 21; refine (sort_nil w.heap.size _).mono ?_; rintro e w' ⟨rfl, rfl⟩)
    go_ret
    exact ⟨none, 0, id, rfl, readsI_nil _ _, balloc (Below.refl _ _) _, Mv.refl _ _ _, fun k l h1 h2 h3 => by have : l < 0 := h3; omega⟩
  · go_enter Try.func15, Try.ntmps15
    go_upto_region 2 with (fail)
    generalize w.alloc (.cells #[.slice A ls.length c] 23) = W at *
    go_wp2_with fail
    go_loopw [3, 7] (fun v3 v7 wr => ∃ k : Nat, v7 = .int .i64 k ∧ k ≤ ls.length ∧ Hid (OwnsI wr W.heap.size v3 (ordL k id)) ∧ Below W.heap.size W wr) (fun _ v7 _ => ls.length - (intOf v7).toNat)
    case atStart => exact ⟨0, rfl, by omega, OwnsI.nil _ _, Below.refl _ _⟩
    case round =>
      obtain ⟨k, rfl, hk, HO, hb⟩ := hrel
      by_cases hlt : k < ls.length
      · have hlt0 : (k : Int) < (ls.length : Int) := by omega
        have HB2 : Hid (Below W.heap.size W (wr.alloc (.cells #[.int .i64 k] 3))) := Lib.hid (balloc hb _)
        have HO2 : Hid (OwnsI (wr.alloc (.cells #[.int .i64 k] 3)) W.heap.size u3 (ordL k id)) := Lib.hid (HO.out.below (balloc (Below.refl _ _) _))
        have HZ := Lib.hid (hb.size)
        go_wp2_with (at_builtin; refine app_i rfl (.tmp 10) (.tmp 12) rfl W.heap.size _ (ordL k id) [(k : Int)] (some ⟨wr.heap.size, 0, none⟩) 1 rfl rfl HO2.out (box_i wr k) HB2.out HB2.out.size (by rw [ordL_len]; simp; omega) ?_; intro v' w' ho hb' hB' hg')
        go_roundw
        case rel => exact ⟨k + 1, by go_num, by omega, by (show OwnsI _ _ _ _); rw [ordL_succ]; exact ho, hb'⟩
        case measure => simp [intOf]; omega
      · obtain rfl : k = ls.length := by omega
        have hol := ordL_len ls.length id
        obtain ⟨g, cap, hv, hgb, _⟩ := World.ownsRow.form HO.out (by rw [hol]; omega)
        rw [hol] at hv
        subst hv
        have hst := Lib.hid (st_of hb HO.out (by omega) hgb)
        have hctx : Hid (Ctx W w.heap.size g A c ls) := ⟨hcb, HL.out, hgb, HF.out, by omega⟩
        clear HO hol hk hlt hcb
        go_wp2_with (go_at_call 21; refine (HS.out W w.heap.size g A c cap id wr hctx.out hst.out (fun j h => h) (fun k l h _ => h)).mono ?_; rintro e w' ⟨rfl, p', hp1, hp2, hp3⟩)
        go_ret
        exact ⟨some ⟨g, 0, none⟩, cap, p', rfl, fun hn => ⟨_, rfl, fun j hj => by rw [ordL_len] at hj; rw [ordL_at _ _ _ hj]; exact cell_add (hp1.c j hj)⟩, HB0.out.trans (hp1.b.mono HB0.out.size), hp2, hp3⟩
end Go.Proofs.Ytodninjcmfbfdaa
