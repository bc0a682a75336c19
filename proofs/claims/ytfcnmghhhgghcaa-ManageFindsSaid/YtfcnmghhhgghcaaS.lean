/- The walk of ManageTells. -/
import Derived.Test.YtfcnmghhhgghcaaR
import Derived.Test.YtfcnmghhhgghcaaQ
import Derived.Test.YtfcnmghhhgghcaaG
namespace Go.Proofs.Ytfcnmghhhgghcaa
open Go.RowKit

/-- A Dep in a block of its own whose list can be read, in every world behind W. -/
structure At8 (W : World) (b : Nat) (d : Dp) (A : Option Addr) (k : Nat) : Prop where
  o : Own8 W b d A k
  r : ReadsEx W A d.e
theorem At8.below {w w' : World} {b : Nat} {d : Dp} {A : Option Addr} {k : Nat} (h : At8 w b d A k) (hb : Below w.heap.size w w') : At8 w' b d A k := ⟨h.o.below hb, h.r.below hb⟩
theorem At8.new (w : World) (d : Dp) (A : Option Addr) (k : Nat) (hr : ReadsEx w A d.e) : At8 (w.alloc (DC d A k)) w.heap.size d A k := ⟨Own8.new w d A k, reads_alloc hr _⟩
theorem dpok_find {l : List Dp} {key : ByteArray} (hok : ∀ x ∈ l, DpOk x) : DpOk (findD l key) := by
  unfold findD
  cases h : l.find? (hasKey key) with
  | none => exact ⟨by decide, by decide, by decide, by decide, by decide, by decide, by decide⟩
  | some x => exact hok x (List.mem_of_find?_eq_some h)
/-- The cells of a block, in every world behind W. -/
theorem At8.cells {W : World} {b : Nat} {d : Dp} {A : Option Addr} {k : Nat} (h : At8 W b d A k) : ∀ w', Below W.heap.size W w' →
    w'.cell? ⟨b, 0, none⟩ = some (.string d.g) ∧ w'.cell? ⟨b, 1, none⟩ = some (.string d.n) ∧ w'.cell? ⟨b, 2, none⟩ = some (.string d.v) ∧ w'.cell? ⟨b, 3, none⟩ = some (.string d.t) ∧
    w'.cell? ⟨b, 4, none⟩ = some (.string d.c) ∧ w'.cell? ⟨b, 5, none⟩ = some (.string d.s) ∧ w'.cell? ⟨b, 6, none⟩ = some (.bool d.o) ∧ w'.cell? ⟨b, 7, none⟩ = some (.slice A d.e.length k) := fun w' hb => by
  have := h.o.below hb
  exact ⟨this.c0, this.c1, this.c2, this.c3, this.c4, this.c5, this.c6, this.c7⟩

set_option maxHeartbeats 4000000 in
set_option maxRecDepth 100000 in
theorem tells_walk (d : Dp) (A : Option Addr) (k : Nat) (B : Option Addr) (c : Nat) (l : List Dp) (key : ByteArray) (w : World) (hd : DpOk d) (hr : ReadsEx w A d.e) (hn : l.length ≤ c) (hl : ReadsDp w B l) (hok : ∀ x ∈ l, DpOk x)
    (hsum : d.e.length + (findD l (keyS d)).e.length ≤ 4398046510976) :
    Calls Try.prog 3 #[DV d A k, .slice B l.length c, .string key] w fun e w' => e = .returned (.bool true) ∧ Below w.heap.size w w' := by
  have HOK := Lib.hid hok
  have HDOK := Lib.hid hd
  have HF := Lib.hid (dpok_find (key := key) hok)
  have HG := Lib.hid (dpok_find (key := keyS d) hok)
  have H3 := Lib.hid (At8.new w d A k hr)
  have HL := Lib.hid (readsDp_alloc hl (DC d A k))
  have HB0 : Hid (Below w.heap.size w (w.alloc (DC d A k))) := Lib.hid (balloc (Below.refl _ _) _)
  clear hok hd hr hl
  by_cases h60 : (60 : Int) < l.length
  · go_enter Try.func3, Try.ntmps3
    go_wp2_with fail
    refine (awake_any _).mono ?_
    rintro e w1 ⟨rfl, hb1⟩
    go_wp2_with fail
    go_ret
    exact ⟨rfl, bthen HB0.out hb1⟩
  have hn6 : l.length ≤ 100000 := by omega
  go_enter Try.func3, Try.ntmps3
  go_upto_region 3 with (fail)
  change Code.wp _ _ _ _ (w.alloc (DC d A k))
  generalize hW : w.alloc (DC d A k) = W at *
  generalize hb3e : w.heap.size = b3 at *
  clear hW
  go_wp2_with fail
  refine (find_any B c l key _ hn HL.out HOK.out).mono ?_
  rintro e w1 ⟨A1, k1, rfl, ho1, hb1⟩
  have H7 := Lib.hid (At8.new w1 (findD l key) A1 k1 ho1.reads)
  clear ho1
  go_upto_region 4 with (fail)
  have hc1 : Below W.heap.size W (w1.alloc (DC (findD l key) A1 k1)) := balloc hb1 _
  change Code.wp _ _ _ _ (w1.alloc (DC (findD l key) A1 k1))
  generalize w1.alloc (DC (findD l key) A1 k1) = W1 at *
  generalize w1.heap.size = b7 at *
  clear hb1
  go_wp2_with fail
  refine (rfind_any B c l key _ hn6 (HL.out.below hc1) HOK.out).mono ?_
  rintro e w2 ⟨A2, k2, rfl, ho2, hb2⟩
  have H9 := Lib.hid (At8.new w2 (findD l key) A2 k2 ho2.reads)
  clear ho2
  go_upto_region 5 with (fail)
  have hc2 : Below W1.heap.size W1 (w2.alloc (DC (findD l key) A2 k2)) := balloc hb2 _
  change Code.wp _ _ _ _ (w2.alloc (DC (findD l key) A2 k2))
  generalize w2.alloc (DC (findD l key) A2 k2) = W2 at *
  generalize w2.heap.size = b9 at *
  clear hb2
  have H3b := Lib.hid ((H3.out.below hc1).below hc2)
  obtain ⟨dlt, d0, d1, d2, d3, d4, d5, d6, d7, dfr⟩ := H3b.out.o
  clear dfr
  go_wp2_with fail
  refine (rkey_any d A k _ HDOK.out).mono ?_
  rintro e w3 ⟨rfl, hb3⟩
  clear d0 d1 d2 d3 d4 d5 d6 d7 dlt
  go_wp2_with fail
  refine (find_any B c l (keyS d) _ hn (((HL.out.below hc1).below hc2).below hb3) HOK.out).mono ?_
  rintro e w4 ⟨A4, k4, rfl, ho4, hb4⟩
  have H11 := Lib.hid (At8.new w4 (findD l (keyS d)) A4 k4 ho4.reads)
  clear ho4
  go_upto_region 6 with (fail)
  have hc4 : Below W2.heap.size W2 (w4.alloc (DC (findD l (keyS d)) A4 k4)) := balloc (bthen hb3 hb4) _
  change Code.wp _ _ _ _ (w4.alloc (DC (findD l (keyS d)) A4 k4))
  generalize w4.alloc (DC (findD l (keyS d)) A4 k4) = W4 at *
  generalize w4.heap.size = b11 at *
  clear hb3 hb4
  have H3c := Lib.hid (H3b.out.below hc4)
  obtain ⟨dlt, d0, d1, d2, d3, d4, d5, d6, d7, dfr⟩ := H3c.out.o
  clear dfr
  go_wp2_with fail
  refine (rkey_any d A k _ HDOK.out).mono ?_
  rintro e w5 ⟨rfl, hb5⟩
  clear d0 d1 d2 d3 d4 d5 d6 d7 dlt
  go_wp2_with fail
  refine (rfind_any B c l (keyS d) _ hn6 ((((HL.out.below hc1).below hc2).below hc4).below hb5) HOK.out).mono ?_
  rintro e w6 ⟨A6, k6, rfl, ho6, hb6⟩
  have H13 := Lib.hid (At8.new w6 (findD l (keyS d)) A6 k6 ho6.reads)
  clear ho6
  go_upto_region 7 with (fail)
  have hc6 : Below W4.heap.size W4 (w6.alloc (DC (findD l (keyS d)) A6 k6)) := balloc (bthen hb5 hb6) _
  change Code.wp _ _ _ _ (w6.alloc (DC (findD l (keyS d)) A6 k6))
  generalize w6.alloc (DC (findD l (keyS d)) A6 k6) = W6 at *
  generalize w6.heap.size = b13 at *
  clear hb5 hb6
  have K3 := Lib.hid (H3c.out.below hc6)
  have K7 := Lib.hid (((H7.out.below hc2).below hc4).below hc6)
  have K9 := Lib.hid ((H9.out.below hc4).below hc6)
  have K11 := Lib.hid (H11.out.below hc6)
  have KL := Lib.hid (((((HL.out.below hc1).below hc2).below hc4).below hc6))
  have KB := Lib.hid (bthen (bthen (bthen (hb3e ▸ HB0.out) hc1) hc2) hc4)
  have C3 := K3.out.cells
  have C7 := K7.out.cells
  have C9 := K9.out.cells
  have C11 := K11.out.cells
  have C13 := H13.out.cells
  have hlF : (findD l key).e.length ≤ 4398046511104 := by have := HF.out.2.2.2.2.2.2; omega
  have hlG : (findD l (keyS d)).e.length ≤ 4398046511104 := by have := HG.out.2.2.2.2.2.2; omega
  have hsum' : d.e.length + (findD l (keyS d)).e.length ≤ 4398046511104 := by omega
  have hlI : (injM d l).e.length ≤ 4398046511104 := by
    unfold injM
    split
    · show (if d.e = [] then _ else _ : List Ex).length ≤ _
      split <;> omega
    · omega
  have hlO : (ovM d l).e.length ≤ 4398046511104 := by
    unfold ovM
    split
    · show (d.e ++ _ : List Ex).length ≤ _
      rw [List.length_append]; omega
    · omega
  clear hlG
  have hlG : (findD l (keyS d)).e.length ≤ 4398046511104 := by omega
  go_region_held3 (fun w' => Below W6.heap.size W6 w') (repeat (first | (with_reducible exact Below.refl _ _) | (with_reducible assumption) | (refine bthen ?_ (by with_reducible assumption)) | (refine balloc ?_ _) | (refine bdrew ?_))) ((first
    | (go_at_call 6; refine (awake_any _).mono ?_; rintro e wa ⟨rfl, hba⟩)
    | (go_at_call 11; refine (inject_any d A k B c l _ HDOK.out (K3.out.r.below (by with_reducible assumption)) hn (KL.out.below (by with_reducible assumption)) HOK.out).mono ?_; rintro e wi ⟨Ai, ki, rfl, hoi, hri, hbi⟩; clear hoi)
    | (go_at_call 12; refine (rinject_any d A k B c l _ HDOK.out (K3.out.r.below (by with_reducible assumption)) hn6 (KL.out.below (by with_reducible assumption)) HOK.out).mono ?_; rintro e wj ⟨Aj, kj, rfl, hoj, hrj, hbj⟩; clear hoj)
    | (go_at_call 13; refine (override_any d A k B c l _ HDOK.out (K3.out.r.below (by with_reducible assumption)) hn (KL.out.below (by with_reducible assumption)) HOK.out hsum').mono ?_; rintro e wo ⟨Ao, ko, rfl, hoo, hro, hbo⟩; clear hoo)
    | (go_at_call 14; refine (roverride_any d A k B c l _ HDOK.out (K3.out.r.below (by with_reducible assumption)) hn6 (KL.out.below (by with_reducible assumption)) HOK.out hsum').mono ?_; rintro e wp ⟨Ap, kp, rfl, hop, hrp, hbp⟩; clear hop)
    | (go_at_call 10; with_reducible refine (dep_any (findD l key) A1 A2 k1 k2 _ hlF (K7.out.r.below (by with_reducible assumption)) (K9.out.r.below (by with_reducible assumption))).mono ?_; rintro e wd ⟨rfl, hbd⟩)
    | (go_at_call 10; with_reducible refine (dep_any (findD l (keyS d)) A4 A6 k4 k6 _ hlG (K11.out.r.below (by with_reducible assumption)) (H13.out.r.below (by with_reducible assumption))).mono ?_; rintro e wd2 ⟨rfl, hbd2⟩)
    | (go_at_call 10; with_reducible refine (dep_any (injM d l) _ _ _ _ _ hlI (by (first | (with_reducible assumption) | (exact ReadsEx.below (by with_reducible assumption) (by with_reducible assumption)))) (by (first | (with_reducible assumption) | (exact ReadsEx.below (by with_reducible assumption) (by with_reducible assumption))))).mono ?_; rintro e wd3 ⟨rfl, hbd3⟩)
    | (go_at_call 10; with_reducible refine (dep_any (ovM d l) _ _ _ _ _ hlO (by (first | (with_reducible assumption) | (exact ReadsEx.below (by with_reducible assumption) (by with_reducible assumption)))) (by (first | (with_reducible assumption) | (exact ReadsEx.below (by with_reducible assumption) (by with_reducible assumption))))).mono ?_; rintro e wd4 ⟨rfl, hbd4⟩)))
  go_wp2_with fail
  go_ret
  exact ⟨rfl, bthen (bthen KB.out hc6) (by with_reducible assumption)⟩
end Go.Proofs.Ytfcnmghhhgghcaa
