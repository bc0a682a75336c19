/- The walk of CharsNames: true for every string and every byte. -/
import Derived.Test.YtglffonjhodmdaaG
import Derived.Deep.DeepCutAuto
import Derived.Deep.CutBlock
namespace Go.Proofs.Ytglffonjhodmdaa
open Go.RowKit

def nm (s : ByteArray) : Bool := nameL (LL s)
def lo (s : ByteArray) : ByteArray := ofL (lowL (LL s))
theorem name_nm (s : ByteArray) (hs : s.size ≤ 1000000) (w : World) : Calls Try.prog 11 #[.string s] w fun e w' => e = .returned (.bool (nm s)) ∧ w' = w := name_any s hs w
theorem lower_lo (s : ByteArray) (hs : s.size ≤ 1000000) (w : World) : Calls Try.prog 12 #[.string s] w fun e w' => e = .returned (.string (lo s)) ∧ Below w.heap.size w w' := lower_any s hs w
theorem nm_more (s : ByteArray) (u : UInt8) (h : nm s = true) : nm (s ++ ⟨#[u]⟩) = wiI (u.toNat : Int) := by
  unfold nm at h ⊢
  rw [LL_app]
  cases e : LL s with
  | nil => rw [e] at h; cases h
  | cons c t =>
    rw [e] at h
    simp only [nameL, Bool.and_eq_true] at h
    have e2 : LL (⟨#[u]⟩ : ByteArray) = [u] := rfl
    rw [e2]
    simp [nameL, h.1, h.2, wiU]
theorem nm_one (s : ByteArray) : nm ((⟨#[49]⟩ : ByteArray) ++ s) = false := by
  unfold nm
  rw [LL_app]
  have e2 : LL (⟨#[49]⟩ : ByteArray) = [49] := rfl
  rw [e2]
  rfl
theorem wi_no {c : Int} (h : c < 45 ∨ c = 47 ∨ (59 ≤ c ∧ c ≤ 64) ∨ (91 ≤ c ∧ c ≤ 94) ∨ c = 96 ∨ 122 < c) : wiI c = false := by
  rw [Bool.eq_false_iff]
  intro hc
  simp [wiI, leI, dgI] at hc
  omega
theorem wi_yes {c : Int} (h : c = 45 ∨ c = 46 ∨ (48 ≤ c ∧ c ≤ 57) ∨ c = 58 ∨ (65 ≤ c ∧ c ≤ 90) ∨ c = 95 ∨ (97 ≤ c ∧ c ≤ 122)) : wiI c = true := by
  simp [wiI, leI, dgI]
  omega
theorem nm_empty : nm (⟨#[]⟩ : ByteArray) = false := rfl
theorem lo_size (s : ByteArray) : (lo s).size = s.size := by rw [← LL_len, ← LL_len, lo, LL_ofL, lowL, List.length_map]
theorem loU_loU (c : UInt8) : loU (loU c) = loU c := by
  by_cases h : 65 ≤ c.toNat ∧ c.toNat ≤ 90
  · have := loU_yes2 h
    exact loU_no (by omega)
  · rw [loU_no h, loU_no h]
theorem lo_lo (s : ByteArray) : lo (lo s) = lo s := by
  refine LL_ext ?_
  rw [lo, LL_ofL, lo, LL_ofL, lowL, lowL, List.map_map]
  congr 1
  funext c
  exact loU_loU c

set_option maxHeartbeats 1000000 in
set_option maxRecDepth 100000 in
theorem names_u (s : ByteArray) (u : UInt8) (w0 : s.size ≤ maxLen) (w : World) :
    Calls Try.prog 4 #[.string s, .int .u8 (u.toNat : Int)] w fun e w' => e = .returned (.bool true) ∧ Below w.heap.size w w' := by
  unfold maxLen at w0
  by_cases h1 : 200 < s.size
  · have h1' : 200 < (s.size : Int) := by omega
    go_enter Try.func4, Try.ntmps4
    go_wp2_with (go_at_call 8; refine (awake_any _).mono ?_; rintro e w2 ⟨rfl, hb2⟩)
    go_ret
    exact ⟨rfl, hb2⟩
  have h1' : (s.size : Int) ≤ 200 := by omega
  clear h1
  have hc : (w.alloc (.cells #[.int .u8 (u.toNat : Int)] 5)).cell? ⟨w.heap.size, 0, none⟩ = some (.int .u8 (u.toNat : Int)) := by simp
  have kb := run_convert_bytes_back (P := Try.prog) (w.alloc (.cells #[.int .u8 (u.toNat : Int)] 5)) 26 9 5 ⟨w.heap.size, 0, none⟩ 1 [u] Try.underlying26 Try.underlying5 Try.underlying9 (by
    intro j hj
    have : j = 0 := by simpa using hj
    subst this
    simp [Addr.add])
  have kb' : (convert 26 9 (.slice (some ⟨w.heap.size, 0, none⟩) 1 1)).run Try.prog (w.alloc (.cells #[.int .u8 (u.toNat : Int)] 5)) = .ok (.string ⟨#[u]⟩) (w.alloc (.cells #[.int .u8 (u.toNat : Int)] 5)) := kb
  clear kb
  go_enter Try.func4, Try.ntmps4
  go_upto_region 4 with (fail)
  go_cut [6] (fun v wc => v = .bool (wiI (u.toNat : Int)) ∧ wc = w.alloc (.cells #[.int .u8 (u.toNat : Int)] 5))
  case first =>
    obtain ⟨c, hcu⟩ : ∃ c : Int, (u.toNat : Int) = c := ⟨_, rfl⟩
    simp only [hcu] at *
    have hr : c < 45 ∨ c = 45 ∨ c = 46 ∨ c = 47 ∨ (48 ≤ c ∧ c ≤ 57) ∨ c = 58 ∨ (59 ≤ c ∧ c ≤ 64) ∨ (65 ≤ c ∧ c ≤ 90) ∨ (91 ≤ c ∧ c ≤ 94) ∨ c = 95 ∨ c = 96 ∨ (97 ≤ c ∧ c ≤ 122) ∨ 122 < c := by omega
    rcases hr with h | rfl | rfl | rfl | h | rfl | h | h | h | rfl | rfl | h | h
    all_goals
      go_wp2
      go_meet
      case rel => exact ⟨by first | rfl | (rw [wi_no (by omega)]; done) | (rw [wi_yes (by omega)]; done) | (rw [wi_no (by omega)]; simp; omega) | (rw [wi_yes (by omega)]; simp; omega), rfl⟩
  case rest =>
    obtain ⟨rfl, rfl⟩ := hcut
    have z1 : (s ++ ⟨#[u]⟩).size ≤ 1000000 := by rw [ByteArray.size_append]; have : (⟨#[u]⟩ : ByteArray).size = 1 := rfl; omega
    have z2 : ((⟨#[49]⟩ : ByteArray) ++ s).size ≤ 1000000 := by rw [ByteArray.size_append]; have : (⟨#[49]⟩ : ByteArray).size = 1 := rfl; omega
    have f1 := nm_one s
    have f2 := nm_empty
    have f3 : ((lo s).size : Int) = (s.size : Int) := by rw [lo_size]
    have F4 := Lib.hid (lo_size s)
    have f5 := lo_lo s
    rcases Bool.eq_false_or_eq_true (nm s) with hn | hn
    · have hm := nm_more s u hn
      go_wp2_with (first | (go_at_call 8; refine (awake_any _).mono ?_; rintro e w2 ⟨rfl, hb2⟩) | (go_at_call 11; refine (name_nm _ (by first | with_reducible assumption | omega | decide) _).mono ?_; rintro e w' ⟨rfl, rfl⟩) | (go_at_call 12; refine (lower_lo _ (by first | omega | (rw [F4.out]; omega)) _).mono ?_; rintro e w3 ⟨rfl, hb3⟩))
      go_ret
      exact ⟨rfl, by repeat (first | (with_reducible exact Below.refl _ _) | (with_reducible assumption) | (refine bthen ?_ (by with_reducible assumption)) | (refine Below.alloc ?_ (Nat.le_refl _) _))⟩
    · go_wp2_with (first | (go_at_call 8; refine (awake_any _).mono ?_; rintro e w2 ⟨rfl, hb2⟩) | (go_at_call 11; refine (name_nm _ (by first | with_reducible assumption | omega | decide) _).mono ?_; rintro e w' ⟨rfl, rfl⟩) | (go_at_call 12; refine (lower_lo _ (by first | omega | (rw [F4.out]; omega)) _).mono ?_; rintro e w3 ⟨rfl, hb3⟩))
      go_ret
      exact ⟨rfl, by repeat (first | (with_reducible exact Below.refl _ _) | (with_reducible assumption) | (refine bthen ?_ (by with_reducible assumption)) | (refine Below.alloc ?_ (Nat.le_refl _) _))⟩

theorem names_any (s : ByteArray) (c : Int) (w0 : s.size ≤ maxLen) (w1 : (Lit.int .u8 c).wf = true) (w : World) :
    Calls Try.prog 4 #[.string s, .int .u8 c] w fun e w' => e = .returned (.bool true) ∧ Below w.heap.size w w' := by
  have hb : 0 ≤ c ∧ c ≤ 255 := by
    simp [Lit.wf, IntKind.min, IntKind.max, IntKind.signed, IntKind.bits] at w1
    omega
  obtain ⟨u, rfl⟩ : ∃ u : UInt8, (u.toNat : Int) = c := ⟨UInt8.ofNat c.toNat, by rw [UInt8.toNat_ofNat']; omega⟩
  exact names_u s u w0 w
end Go.Proofs.Ytglffonjhodmdaa
