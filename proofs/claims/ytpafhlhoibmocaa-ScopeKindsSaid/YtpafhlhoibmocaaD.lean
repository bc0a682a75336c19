/- Plain facts on what comes of scopes, and the contract of newelhelp.In over strings (a slice of at most 1000 that can be read). -/
import Derived.Test.YtpafhlhoibmocaaC
import Derived.Deep.LoopGhost
namespace Go.Proofs.Ytpafhlhoibmocaa
open Go.RowKit

/-! ### plain facts -/
theorem dM_false {a b : ByteArray} (h : (deriveM a b).2 = false) : (deriveM a b).1 = bEmpty := by
  unfold deriveM at h ⊢
  split at h
  · split at h <;> simp at h
  · rename_i hc; rw [if_neg hc]
theorem dM_true {a b : ByteArray} (h : (deriveM a b).2 = true) : (eqC b || eqR b) = true ∧ isB a = true ∧ (deriveM a b).1 = if eqC a then b else a := by
  unfold deriveM at h ⊢
  split at h
  · rename_i hc
    rw [if_pos hc]
    simp only [Bool.and_eq_true] at hc
    refine ⟨hc.1, hc.2, ?_⟩
    split <;> rfl
  · simp at h
theorem isB_C {a : ByteArray} (h : eqC a = true) : isB a = true := by simp [isB, h]
theorem isB_CR {a : ByteArray} (h : (eqC a || eqR a) = true) : isB a = true := by simp [isB, h]
theorem narrows_in {a b : ByteArray} (h : (deriveM a b).2 = true) : isB (deriveM a b).1 = true ∧ (inM 2 (deriveM a b).1 = true → inM 2 a = true) ∧ (inM 3 (deriveM a b).1 = true → inM 3 a = true) ∧ (inM 4 (deriveM a b).1 = true → inM 4 a = true) := by
  obtain ⟨h1, h2, h3⟩ := dM_true h
  rw [h3]
  split
  · rename_i hc
    refine ⟨isB_CR h1, fun _ => ?_, fun _ => ?_, fun _ => h2⟩
    · show (eqC a || eqP a) = true; simp [hc]
    · show (eqC a || eqR a) = true; simp [hc]
  · exact ⟨h2, id, id, id⟩
theorem narrows_three {a b c : ByteArray} (h : (deriveM a b).2 = true) :
    (deriveM (deriveM a b).1 c).2 = ((deriveM b c).2 && (deriveM a (deriveM b c).1).2) ∧ ((deriveM (deriveM a b).1 c).2 = true → (deriveM (deriveM a b).1 c).1 = (deriveM a (deriveM b c).1).1) := by
  obtain ⟨h1, h2, h3⟩ := dM_true h
  have hb : isB b = true := isB_CR h1
  rw [h3]
  rcases Bool.eq_false_or_eq_true (eqC c || eqR c) with hc | hc
  · rcases Bool.eq_false_or_eq_true (eqC a) with ha | ha <;> rcases Bool.eq_false_or_eq_true (eqC b) with hbc | hbc
    · rw [if_pos ha, derive_1 hc hb hbc]; simp only []; rw [derive_1 hc h2 ha]; simp
    · rw [if_pos ha, derive_2 hc hb hbc]; simp only []; rw [derive_1 h1 h2 ha]; simp
    · rw [if_neg (by simp [ha]), derive_1 hc hb hbc]; simp only []; rw [derive_2 hc h2 ha]; simp
    · rw [if_neg (by simp [ha]), derive_2 hc hb hbc]; simp only []; rw [derive_2 h1 h2 ha, derive_2 hc h2 ha]; simp
  · have e1 : ∀ x, deriveM x c = (bEmpty, false) := fun x => derive_4 hc
    rw [e1, e1]; simp
theorem empty_tl : bEmpty.toList = [] := by rw [ByteArray.toList_eq]; rfl

set_option maxHeartbeats 400000 in
theorem In_any (s : ByteArray) (ad : Addr) (c : Nat) (l : List ByteArray) (w : World) (hl : ∀ j, j < l.length → w.cell? (ad.add j) = some (.string (l.getD j default))) (hm : l.length ≤ 1000) :
    Calls Try.prog 14 #[.slice (some ad) l.length c, .string s] w fun e w' => e = .returned (.bool (amongB s l)) ∧ w' = w := by
  have HL := Lib.hid hl
  clear hl
  go_enter Try.func14, Try.ntmps14
  go_wp2
  go_loop [5] (fun i => ∃ j : Nat, j ≤ l.length ∧ i = .int .i64 j ∧ Hid (amongB s l = amongB s (l.drop j))) (fun i => l.length - (intOf i).toNat)
  case atStart => exact ⟨0, by omega, rfl, rfl⟩
  case round =>
    obtain ⟨j, hj, rfl, HS⟩ := hrel
    by_cases hlt : j < l.length
    · have hc := HL.out j hlt
      have hd : l.drop j = l.getD j default :: l.drop (j + 1) := by
        rw [List.drop_eq_getElem_cons hlt]; simp [List.getD_eq_getElem?_getD, hlt]
      have HD := Lib.hid hd
      clear hd
      generalize l.getD j default = x at hc HD
      by_cases hx : (x.toList == s.toList) = true
      · go_wp2
        go_ret
        exact ⟨by rw [HS.out, HD.out]; simp [amongB, hx], rfl⟩
      · have hx' : (x.toList == s.toList) = false := by simpa using hx
        clear hx
        go_wp2
        go_round
        case rel => exact ⟨j + 1, by omega, by go_num, by show amongB s l = _; rw [HS.out, HD.out]; simp [amongB, hx']⟩
        case measure => simp [intOf]; omega
    · go_wp2
      go_ret
      exact ⟨by rw [HS.out, List.drop_eq_nil_of_le (by omega)]; rfl, rfl⟩
end Go.Proofs.Ytpafhlhoibmocaa
