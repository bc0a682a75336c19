/- The contract of scope.among: it tells whether a string is among those of a slice that can be read; any slice, no condition beyond that. -/
import Derived.Test.YtpafhlhoibmocaaRows
import Derived.WalkKit
import Derived.WalkSpells
import Derived.WalkLawsBesides
import Derived.ScopeJumps
import Derived.Lib.Hide
namespace Go.Proofs.Ytpafhlhoibmocaa
open Go.RowKit

theorem wp_again {P : Program} {a : Act} {w : World} {Q : Exit → Act → World → Prop} {body : Code} (l : Nat) (J : Act → World → Prop) (μ : Act → World → Nat)
    (h0 : J a w) (pass : ∀ a w, J a w → body.wp P (Exit.jump l (fun a' w' => J a' w' ∧ μ a' w' < μ a w) Q) a w) : (Code.scope ((Code.label l).seq body)).wp P Q a w := by
  refine wp_scope_jumps l J μ (by simp [findLabel]; rfl) ?_ ?_
  · refine wp_seq (wp_label ?_)
    refine wp_mono (pass a w h0) ?_
    intro e a' w' h
    cases e <;> simp only [Exit.jump] at h ⊢ <;> first | exact h | exact ⟨h.1, h.2.1⟩
  · intro a w h
    exact wp_seq (wp_skip (pass a w h))

def ReadsStr (w : World) (A : Option Addr) (l : List ByteArray) : Prop :=
  0 < l.length → ∃ ad, A = some ad ∧ ∀ j, j < l.length → w.cell? (ad.add j) = some (.string (l.getD j default))

def amongB (s : ByteArray) (l : List ByteArray) : Bool := l.any (fun x => x.toList == s.toList)

def AmongJ (s : ByteArray) (l : List ByteArray) (w : World) (a' : Act) (w' : World) : Prop :=
  w' = w ∧ ∃ (A' : Option Addr) (l' : List ByteArray) (c' : Nat) (u5 u6 u7 u8 u9 u10 u11 u12 u13 u14 : Value), a' = { tmps := #[.string s, .slice A' l'.length c', undef, undef, .bool false, u5, u6, u7, u8, u9, u10, u11, u12, u13, u14], defers := [] } ∧ ReadsStr w A' l' ∧ l'.length ≤ c' ∧ amongB s l = amongB s l'
def lenAt (k : Nat) (a : Act) : Nat := match a.tmps.getD k undef with | .slice _ n _ => n | _ => 0

theorem ReadsStr.tail {w : World} {ad : Addr} {x : ByteArray} {t : List ByteArray} (h : ∀ j, j < (x :: t).length → w.cell? (ad.add j) = some (.string ((x :: t).getD j default))) :
    ∀ A, (A = some { ad with off := ad.off + 1, spot := none } ∨ t = []) → ReadsStr w A t := by
  intro A hA hp
  rcases hA with rfl | rfl
  · refine ⟨_, rfl, fun j hj => ?_⟩
    have := h (j + 1) (by simp; omega)
    have e : (Addr.add { ad with off := ad.off + 1, spot := none } j) = ad.add (j + 1) := by
      have := Addr.add_add ad 1 j
      rw [Nat.add_comm 1 j] at this
      rw [← this]; rfl
    rw [e, this]; rfl
  · simp at hp

set_option maxHeartbeats 400000 in
theorem among_any (s : ByteArray) (A : Option Addr) (c : Nat) (l : List ByteArray) (w : World) (hl : ReadsStr w A l) (hc : l.length ≤ c) :
    Calls Try.prog 15 #[.string s, .slice A l.length c] w fun e w' => e = .returned (.bool (amongB s l)) ∧ w' = w := by
  go_enter Try.func15, Try.ntmps15
  go_wp2
  refine wp_again 0 (AmongJ s l w) (fun a' _ => lenAt 1 a') ?_ ?_
  · exact ⟨rfl, A, l, c, _, _, _, _, _, _, _, _, _, _, rfl, hl, hc, rfl⟩
  · rintro a' w' ⟨rfl, A', l', c', u5, u6, u7, u8, u9, u10, u11, u12, u13, u14, rfl, hl', hc', hs⟩
    have HS := Lib.hid hs
    clear hs
    cases l' with
    | nil =>
      go_wp2
      simp only [Exit.jump]
      go_ret
      exact ⟨by rw [HS.out]; rfl, rfl⟩
    | cons x t =>
      obtain ⟨ad, rfl, hcell⟩ := hl' (by simp)
      have hc0 : w'.cell? ad = some (.string x) := by have := hcell 0 (by simp); rw [Addr.add_zero'] at this; exact this
      have HT := Lib.hid (ReadsStr.tail hcell)
      clear hcell hl'
      simp only [List.length_cons] at hc'
      by_cases hx : (x.toList == s.toList) = true
      · go_wp2
        simp only [Exit.jump]
        go_ret
        exact ⟨by rw [HS.out]; simp [amongB, hx], rfl⟩
      · have hx' : (x.toList == s.toList) = false := by simpa using hx
        clear hx
        by_cases h1 : c' = 1
        · subst h1
          have ht : t = [] := List.eq_nil_of_length_eq_zero (by omega)
          have HT0 := Lib.hid ht
          clear ht
          go_wp2
          go_step3
          refine ⟨rfl, ⟨rfl, some ad, [], 0, _, _, _, _, _, _, _, _, _, _, rfl, fun h => by simp at h, by simp, ?_⟩, by simp [lenAt]⟩
          rw [HS.out, HT0.out]; simp [amongB, hx']
        · have h1' : (c' == 1) = false := by simpa using h1
          go_wp2
          go_step3
          refine ⟨rfl, ⟨rfl, _, t, c' - 1, _, _, _, _, _, _, _, _, _, _, rfl, HT.out _ (.inl rfl), by omega, ?_⟩, by simp [lenAt]⟩
          rw [HS.out]; simp [amongB, hx']
end Go.Proofs.Ytpafhlhoibmocaa
