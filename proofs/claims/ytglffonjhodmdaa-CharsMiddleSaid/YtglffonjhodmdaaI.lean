/- The walk of CharsMiddle: true for every string and every number. -/
import Derived.Test.YtglffonjhodmdaaG
namespace Go.Proofs.Ytglffonjhodmdaa
open Go.RowKit

def blk : ByteArray := ⟨#[32, 9, 13, 10]⟩
def okBlank (x : ByteArray) (k : Nat) : Prop := x.size = 4 * k ∧ (LL x).all spU = true
theorem okBlank_add {x : ByteArray} {k : Nat} (h : okBlank x k) : okBlank (x ++ ⟨#[32, 9, 13, 10]⟩) (k + 1) := by
  refine ⟨?_, ?_⟩
  · rw [ByteArray.size_append, h.1]; have : (⟨#[32, 9, 13, 10]⟩ : ByteArray).size = 4 := rfl; omega
  · rw [LL_app, List.all_append, h.2]; rfl
theorem tr_blank {x : ByteArray} (h : (LL x).all spU = true) : (tr x).toList = [] := by
  rw [ByteArray.toList_eq]; exact (LL_tr x).trans (trimL_all h)
theorem trim_xy (s : List UInt8) : trimL ([120] ++ s ++ [121]) = [120] ++ s ++ [121] := by
  unfold trimL
  have h1 : ltrim ([120] ++ s ++ [121]) = [120] ++ s ++ [121] := by
    have := ltrim_stop (c := 120) (t := s ++ [121]) rfl
    simpa using this
  rw [h1]
  exact rtrim_stop (c := 121) (t := [120] ++ s) rfl
theorem tr_middle {x s : ByteArray} (h : (LL x).all spU = true) : tr (x ++ ⟨#[120]⟩ ++ s ++ ⟨#[121]⟩ ++ x) = ⟨#[120]⟩ ++ s ++ ⟨#[121]⟩ := by
  refine LL_ext ?_
  have e1 : LL (⟨#[120]⟩ : ByteArray) = [120] := rfl
  have e2 : LL (⟨#[121]⟩ : ByteArray) = [121] := rfl
  rw [LL_tr, LL_app, LL_app, LL_app, LL_app, LL_app, LL_app, e1, e2]
  have := trimL_about (l := [120] ++ LL s ++ [121]) h h
  rw [trim_xy] at this
  rw [← this]
  simp
theorem pick20 (i : Int) : ∃ p : Nat, p < 20 ∧ IntKind.i64.wrap ((IntKind.u64.wrap i).tmod 20) = (p : Int) := by
  refine ⟨(IntKind.i64.wrap ((IntKind.u64.wrap i).tmod 20)).toNat, ?_⟩
  have h : 0 ≤ IntKind.u64.wrap i := by simp [IntKind.wrap, IntKind.signed, IntKind.bits]; omega
  have e : (IntKind.u64.wrap i).tmod 20 = (IntKind.u64.wrap i) % 20 := Int.tmod_eq_emod_of_nonneg h
  rw [e]
  generalize IntKind.u64.wrap i = x at *
  have : IntKind.i64.wrap (x % 20) = x % 20 := IntWalk.i64_in _ (by omega)
  rw [this]
  omega

set_option maxHeartbeats 1000000 in
set_option maxRecDepth 100000 in
theorem middle_any (s : ByteArray) (n : Int) (w0 : s.size ≤ maxLen) (_w1 : (Lit.int .i64 n).wf = true) (w : World) :
    Calls Try.prog 5 #[.string s, .int .i64 n] w fun e w' => e = .returned (.bool true) ∧ Below w.heap.size w w' := by
  unfold maxLen at w0
  by_cases h1 : 200 < s.size
  · have h1' : 200 < (s.size : Int) := by omega
    go_enter Try.func5, Try.ntmps5
    go_wp2_with (go_at_call 8; refine (awake_any _).mono ?_; rintro e w2 ⟨rfl, hb2⟩)
    go_ret
    exact ⟨rfl, hb2⟩
  have h1' : (s.size : Int) ≤ 200 := by omega
  clear h1
  obtain ⟨p, hp, ep⟩ := pick20 n
  go_enter Try.func5, Try.ntmps5
  go_wp2_with fail
  have EP := Lib.hid ep
  clear ep
  go_loop [5, 6] (fun b v => ∃ (k : Nat) (x : ByteArray), v = .int .i64 k ∧ k ≤ p ∧ b = .string x ∧ x.size ≤ 4 * k ∧ Hid (okBlank x k)) (fun _ v => p - (intOf v).toNat)
  case atStart => exact ⟨0, _, rfl, by omega, rfl, by decide, ⟨rfl, rfl⟩⟩
  case round =>
    obtain ⟨k, x, rfl, hk, rfl, hx, HX⟩ := hrel
    by_cases hlt : k < p
    · go_wp2_with fail
      go_round
      case rel => exact ⟨k + 1, _, by go_num, by omega, rfl, by rw [ByteArray.size_append]; have : (⟨#[32, 9, 13, 10]⟩ : ByteArray).size = 4 := rfl; omega, okBlank_add HX.out⟩
      case measure => simp [intOf]; omega
    · have f1 := tr_blank HX.out.2
      have f2 := tr_middle (s := s) HX.out.2
      have z1 : (x ++ ⟨#[120]⟩ ++ s ++ ⟨#[121]⟩ ++ x).size ≤ 1000000 := by
        simp only [ByteArray.size_append]
        have e1 : (⟨#[120]⟩ : ByteArray).size = 1 := rfl
        have e2 : (⟨#[121]⟩ : ByteArray).size = 1 := rfl
        omega
      go_wp2_with (first | (go_at_call 8; refine (awake_any _).mono ?_; rintro e w2 ⟨rfl, hb2⟩) | (go_at_call 9; refine (trim_tr _ (by first | with_reducible assumption | omega) _).mono ?_; rintro e w' ⟨rfl, rfl⟩))
      go_ret
      exact ⟨rfl, hb2⟩
end Go.Proofs.Ytglffonjhodmdaa
