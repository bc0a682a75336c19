/- The walk of RouteTells. -/
import Derived.Test.YtodninjcmfbfdaaU
import Derived.Test.YtodninjcmfbfdaaV
import Derived.Test.YtodninjcmfbfdaaW
namespace Go.Proofs.Ytodninjcmfbfdaa
open Go.RowKit
theorem order_self (d : Ieee.Datum) (h : d.isNaN = false) : Ieee.Datum.order d d = some .eq := by
  cases d with
  | number s m i => simp [Ieee.Datum.order, Std.ReflCmp.compare_self]
  | infinity s => simp [Ieee.Datum.order, Std.ReflCmp.compare_self]
  | nan s f => cases h
theorem read_write (neg : Bool) (r : Nat) (h : r ≤ Ieee.double.infRung) : (Ieee.double.read (Ieee.double.word neg r)).isNaN = false := by
  have hs : Ieee.double.signWeight = 9223372036854775808 := by decide +kernel
  have hi : Ieee.double.infRung = 9218868437227405312 := by decide +kernel
  have hr : Ieee.double.word neg r % Ieee.double.signWeight = r := by
    unfold Ieee.Format.word
    rw [hs]
    rw [hi] at h
    cases neg <;> simp <;> omega
  unfold Ieee.Format.read
  simp only [hr]
  split
  · rfl
  · split
    · rfl
    · split
      · rfl
      · omega
theorem float_self (n : Int) : FloatKind.f64.format.order (floatOfInt .f64 n) (floatOfInt .f64 n) = some .eq := by
  refine order_self _ ?_
  show (Ieee.double.read (Ieee.double.nearest (decide (n < 0)) n.natAbs 0)).isNaN = false
  unfold Ieee.Format.nearest
  split
  · exact read_write _ 0 (Nat.zero_le _)
  · exact read_write _ _ (Nat.min_le_right _ _)
theorem place_self (l : List Int) (w : World) : (binOp .eql 27 (placeV l) (placeV l)).run Try.prog w = .ok (.bool true) w := by
  have h1 := float_self (l.length : Int)
  have h2 := float_self (lastC l)
  unfold placeV fl
  generalize floatOfInt .f64 (l.length : Int) = x at *
  generalize floatOfInt .f64 (lastC l) = y at *
  simp [binOp, Op.complexOp, Op.Complex.cmp, Op.floatCmp, asBool, h1, h2]
theorem sameB_self (l : List Int) : sameB l l = true := by rw [sameB_eq]; exact decide_eq_true rfl

set_option maxHeartbeats 4000000 in
theorem tells_walk (A B D : Option Addr) (ca cb cl : Nat) (a b : List Int) (ls : List (List Int)) (w : World) (hn : ls.length ≤ 9223372036854775807) (hra : ReadsI w A a) (hrb : ReadsI w B b) (hl : ReadsW w D ls) :
    Calls Try.prog 3 #[.slice A a.length ca, .slice B b.length cb, .slice D ls.length cl] w fun e w' => e = .returned (.bool true) ∧ Below w.heap.size w w' := by
  have HA := Lib.hid hra
  have HB := Lib.hid hrb
  have HL := Lib.hid hl
  have HF := Lib.hid (few_any D cl ls w hn hl)
  clear hra hrb hl
  by_cases h30 : (30 : Int) < a.length
  · go_enter Try.func3, Try.ntmps3
    go_wp2_with (go_at_call 8; refine (awake_any _).mono ?_; rintro e w1 ⟨rfl, hb1⟩)
    go_ret
    exact ⟨rfl, hb1⟩
  by_cases h31 : (30 : Int) < b.length
  · go_enter Try.func3, Try.ntmps3
    go_wp2_with (go_at_call 8; refine (awake_any _).mono ?_; rintro e w1 ⟨rfl, hb1⟩)
    go_ret
    exact ⟨rfl, hb1⟩
  rcases Bool.eq_false_or_eq_true (fewB ls) with hf | hf
  · obtain ⟨hfew, hlen⟩ := fewB_true hf
    have HFW := Lib.hid hfew
    rw [hf] at HF
    obtain ⟨px, py, hpv, hce⟩ : ∃ x y, placeV a = .complex .f64 x y ∧ ∀ w, (binOp .eql 27 (.complex .f64 x y) (.complex .f64 x y)).run Try.prog w = .ok (.bool true) w := ⟨_, _, rfl, place_self a⟩
    have HPV := Lib.hid hpv
    clear hpv
    have HBQ := Lib.hid (rbefB_eq a b)
    clear hf hfew
    go_enter Try.func3, Try.ntmps3
    go_wp2_with fail
    refine HF.out.mono ?_
    rintro e w1 ⟨rfl, rfl⟩
    go_wp2_with fail
    refine (own_any A ca a 71 _ (by omega) HA.out).mono ?_
    rintro e w2 ⟨Bk, rfl, hr2, hb2⟩
    have HR2 := Lib.hid hr2
    have HB2 := Lib.hid hb2
    clear hr2 hb2
    go_wp2_with fail
    refine (awake_any _).mono ?_
    rintro e w3 ⟨rfl, hb3⟩
    have HR3 := Lib.hid (HR2.out.below hb3)
    have HB3 := Lib.hid (bthen HB2.out hb3)
    clear hb3 HR2 HB2
    go_wp2_with fail
    refine (place_any (some ⟨Bk, 0, none⟩) (a.length + 3) a _ (by omega) (reads_take HR3.out)).mono ?_
    rintro e w4 ⟨rfl, rfl⟩
    rw [HPV.out]
    go_wp2_with fail
    refine (rplace_any A ca a _ (by omega) (HA.out.below HB3.out)).mono ?_
    rintro e w4 ⟨rfl, rfl⟩
    rw [HPV.out]
    go_wp2_with fail
    refine (before_any (some ⟨Bk, 0, none⟩) B (a.length + 3) cb a b _ (by omega) (by omega) (reads_take HR3.out) (HB.out.below HB3.out)).mono ?_
    rintro e w5 ⟨rfl, hb5⟩
    have HR5 := Lib.hid (HR3.out.below hb5)
    have HB5 := Lib.hid (bthen HB3.out hb5)
    clear hb5 HR3 HB3
    go_wp2_with fail
    refine (rbefore_any A B ca cb a b _ (by omega) (by omega) (HA.out.below HB5.out) (HB.out.below HB5.out)).mono ?_
    rintro e w6 ⟨rfl, hb6⟩
    rw [HBQ.out]
    have HR6 := Lib.hid (HR5.out.below hb6)
    have HB6 := Lib.hid (bthen HB5.out hb6)
    clear hb6 HR5 HB5 HBQ HPV hce
    generalize befB a b = t at *
    have htt : (t == t) = true := by cases t <;> rfl
    go_wp2_with fail
    refine (order_any D cl ls _ (sortOk_few (by omega)) (HL.out.below HB6.out) HFW.out (by omega)).mono ?_
    rintro e w7 ⟨A7, k7, o, rfl, hr7, hb7, hm7, hs7⟩
    have HB7 := Lib.hid (bthen HB6.out hb7)
    have HR7 := Lib.hid (HR6.out.below hb7)
    have HO7 := Lib.hid hr7
    have HM := Lib.hid hm7
    have HS := Lib.hid hs7
    clear hr7 hb7 hm7 hs7 HR6 HB6
    go_wp2_with fail
    refine (rorder_any D cl ls _ (HL.out.below HB7.out) HFW.out (by omega)).mono ?_
    rintro e w8 ⟨A8, k8, out, rfl, hro, hr8, hb8⟩
    rw [hro.row HM.out HS.out] at hr8
    have HB8 := Lib.hid (bthen HB7.out hb8)
    have HR8 := Lib.hid (HR7.out.below hb8)
    have hpl := plain_any A7 A8 k7 k8 (ordL ls.length o) (ordL ls.length o) _ (by rw [ordL_len]; omega) (HO7.out.below hb8) hr8
    rw [ordL_len, sameB_self] at hpl
    have HP8 := Lib.hid hpl
    clear hr8 hb8 hro HO7 HM HS HR7 HB7 hpl
    go_wp2_with fail
    refine HP8.out.mono ?_
    rintro e w9 ⟨rfl, hb9⟩
    have HB9 := Lib.hid (bthen HB8.out hb9)
    have HR9 := Lib.hid (HR8.out.below hb9)
    clear hb9 HB8 HR8 HP8
    go_wp2_with fail
    refine (kept_any Bk A ca a 71 _ (by omega) HR9.out (HA.out.below HB9.out) (sameB_self a)).mono ?_
    rintro e w10 ⟨rfl, hb10⟩
    go_wp2_with fail
    go_ret
    exact ⟨rfl, bthen HB9.out hb10⟩
  · rw [hf] at HF
    clear hf
    go_enter Try.func3, Try.ntmps3
    go_wp2_with fail
    refine HF.out.mono ?_
    rintro e w1 ⟨rfl, rfl⟩
    go_wp2_with fail
    refine (awake_any _).mono ?_
    rintro e w2 ⟨rfl, hb2⟩
    go_wp2_with fail
    go_ret
    exact ⟨rfl, hb2⟩
end Go.Proofs.Ytodninjcmfbfdaa
