/- The contract of awake. -/
import Derived.Test.YtodninjcmfbfdaaG
namespace Go.Proofs.Ytodninjcmfbfdaa
open Go.RowKit

theorem box2_i (w : World) (x y : Int) : ReadsI (w.alloc (.cells #[.int .i64 x, .int .i64 y] 3)) (some ⟨w.heap.size, 0, none⟩) [x, y] := fun _ => by
  refine ⟨_, rfl, fun j hj => ?_⟩
  have : j = 0 ∨ j = 1 := by have : j < 2 := hj; omega
  rcases this with rfl | rfl <;> simp [Addr.add]
theorem place31 : placeV [3, 1] = .complex .f64 4611686018427387904 4607182418800017408 := by
  have h1 : fl 2 = 4611686018427387904 := by decide +kernel
  have h2 : floatOfInt .f64 1 = 4607182418800017408 := by decide +kernel
  show Value.complex .f64 (fl 2) (floatOfInt .f64 (min (max 1 (-1000000)) 1000000)) = _
  rw [h1, show min (max (1 : Int) (-1000000)) 1000000 = 1 by omega, h2]
theorem cplx_eq (w : World) : (binOp .eql 27 (.complex .f64 4611686018427387904 4607182418800017408) (.complex .f64 4611686018427387904 4607182418800017408)).run Try.prog w = .ok (.bool true) w := by
  have h1 : FloatKind.f64.format.order 4611686018427387904 4611686018427387904 = some .eq := by decide +kernel
  have h2 : FloatKind.f64.format.order 4607182418800017408 4607182418800017408 = some .eq := by decide +kernel
  simp [binOp, Op.complexOp, Op.Complex.cmp, Op.floatCmp, asBool, h1, h2]
theorem reads1 {w : World} {b : Nat} {x : Int} (h0 : w.cell? ⟨b, 0, none⟩ = some (.int .i64 x)) : ReadsI w (some ⟨b, 0, none⟩) [x] := fun _ => by
  refine ⟨_, rfl, fun j hj => ?_⟩
  have : j = 0 := by have : j < 1 := hj; omega
  subst this
  exact h0
theorem reads2 {w : World} {b : Nat} {x y : Int} (h0 : w.cell? ⟨b, 0, none⟩ = some (.int .i64 x)) (h1 : w.cell? ⟨b, 1, none⟩ = some (.int .i64 y)) : ReadsI w (some ⟨b, 0, none⟩) [x, y] := fun _ => by
  refine ⟨_, rfl, fun j hj => ?_⟩
  have : j = 0 ∨ j = 1 := by have : j < 2 := hj; omega
  rcases this with rfl | rfl
  · exact h0
  · exact h1
theorem ways2 {w : World} {b : Nat} {A1 A2 : Option Addr} {k1 k2 : Nat} {x y : List Int} (h0 : w.cell? ⟨b, 0, none⟩ = some (.slice A1 x.length k1)) (h1 : w.cell? ⟨b, 1, none⟩ = some (.slice A2 y.length k2)) (r1 : ReadsI w A1 x) (r2 : ReadsI w A2 y) : ReadsW w (some ⟨b, 0, none⟩) [x, y] := fun _ => by
  refine ⟨_, rfl, fun j hj => ?_⟩
  have : j = 0 ∨ j = 1 := by have : j < 2 := hj; omega
  rcases this with rfl | rfl
  · exact ⟨A1, k1, h0, r1⟩
  · exact ⟨A2, k2, h1, r2⟩
def lsA : List (List Int) := [[1, 1], [2]]
theorem ord_awake {o : Row} (hm : Mv 0 2 id o) (hs : SortedT (ltW lsA) 0 2 o) : ordL 2 o = [1, 0] := by
  have h := same_row (weak_ways lsA) (n := 2) (p := o) (o := fun k => 1 - k) hs (by
    intro k l _ h2 h3
    have : k = 0 := by omega
    have : l = 1 := by omega
    subst k l
    exact Or.inl (by decide)) (fun k hk => by
      obtain ⟨k', _, h2, h3⟩ := hm.frm k (by omega) hk
      exact ⟨1 - k', by omega, by show 1 - (1 - k') = _; rw [h3]; show _ = k'; omega⟩) (fun k hk => by
      obtain ⟨k', _, h2, h3⟩ := hm.to (1 - k) (by omega) (by omega)
      exact ⟨k', h2, h3⟩)
  have e0 := h 0 (by omega)
  have e1 := h 1 (by omega)
  show [((o 0 : Nat) : Int), ((o 1 : Nat) : Int)] = _
  rw [e0, e1]; rfl
set_option maxHeartbeats 2000000 in
theorem awake_any (w : World) : Calls Try.prog 8 #[] w fun e w' => e = .returned (.bool true) ∧ Below w.heap.size w w' := by
  have HP := Lib.hid place31
  have hce := cplx_eq
  have HBF : Hid (befB [9] [1, 1] = true) := by show _ = _; decide
  go_enter Try.func8, Try.ntmps8
  go_wp2_with fail
  refine (place_any (some ⟨w.heap.size, 0, none⟩) 2 [3, 1] _ (by simp) (box2_i w 3 1)).mono ?_
  rintro e w1 ⟨rfl, rfl⟩
  rw [HP.out]
  go_wp2_with fail
  have r1 : ReadsI (((w.alloc (.cells #[.int .i64 3, .int .i64 1] 3)).alloc (.cells #[.int .i64 9] 3)).alloc (.cells #[.int .i64 1, .int .i64 1] 3)) (some ⟨w.heap.size + 1, 0, none⟩) [9] := reads1 (by simp [go_sem])
  have r2 : ReadsI (((w.alloc (.cells #[.int .i64 3, .int .i64 1] 3)).alloc (.cells #[.int .i64 9] 3)).alloc (.cells #[.int .i64 1, .int .i64 1] 3)) (some ⟨w.heap.size + 1 + 1, 0, none⟩) [1, 1] := reads2 (by simp [go_sem]) (by simp [go_sem])
  refine (before_any (some ⟨w.heap.size + 1, 0, none⟩) (some ⟨w.heap.size + 1 + 1, 0, none⟩) 1 2 [9] [1, 1] _ (by simp) (by simp) r1 r2).mono ?_
  rintro e w2 ⟨rfl, hb2⟩
  rw [HBF.out]
  have HB2 := Lib.hid (bthen (balloc (balloc (balloc (Below.refl _ _) _) _) _) hb2)
  clear hb2 r1 r2
  go_wp2_with fail
  have r3 : ReadsW (((w2.alloc (.cells #[.int .i64 1, .int .i64 1] 3)).alloc (.cells #[.int .i64 2] 3)).alloc (.cells #[.slice (some ⟨w2.heap.size, 0, none⟩) 2 2, .slice (some ⟨w2.heap.size + 1, 0, none⟩) 1 1] 22)) (some ⟨w2.heap.size + 1 + 1, 0, none⟩) lsA :=
    ways2 (A1 := some ⟨w2.heap.size, 0, none⟩) (A2 := some ⟨w2.heap.size + 1, 0, none⟩) (k1 := 2) (k2 := 1) (by simp [go_sem]) (by simp [go_sem]) (reads2 (by simp [go_sem]) (by simp [go_sem])) (reads1 (by simp [go_sem]))
  refine (order_any _ 2 lsA _ (sortOk_lt (by decide)) r3 (by decide) (by decide)).mono ?_
  rintro e w3 ⟨A3, k3, o, rfl, hr3, hb3, hm3, hs3⟩
  have HO := Lib.hid (ord_awake hm3 hs3)
  have HR3 := Lib.hid hr3
  have HB3 := Lib.hid (bthen (balloc (balloc (balloc HB2.out _) _) _) hb3)
  clear hr3 hb3 hm3 hs3
  rw [show lsA.length = 2 from rfl] at HR3 ⊢
  rw [HO.out] at HR3
  go_wp2_with fail
  have r5 : ReadsI (w3.alloc (.cells #[.int .i64 1, .int .i64 0] 3)) (some ⟨w3.heap.size, 0, none⟩) [1, 0] := reads2 (by simp [go_sem]) (by simp [go_sem])
  refine (plain_any A3 (some ⟨w3.heap.size, 0, none⟩) k3 2 [1, 0] [1, 0] _ (by decide) (HR3.out.below (balloc (Below.refl _ _) _)) r5).mono ?_
  rintro e w4 ⟨rfl, hb4⟩
  rw [show sameB [1, 0] [1, 0] = true from rfl]
  go_wp2_with fail
  go_ret
  exact ⟨rfl, bthen (balloc HB3.out _) hb4⟩
end Go.Proofs.Ytodninjcmfbfdaa
