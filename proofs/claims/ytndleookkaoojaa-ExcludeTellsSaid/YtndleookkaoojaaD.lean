/- The contracts of exclude.Add and of the reference's Add: the one plain function for both; lists of at most 1000 that can be read. -/
import Derived.Test.YtndleookkaoojaaC
namespace Go.Proofs.Ytndleookkaoojaa
open Go.RowKit

theorem OwnsEx.below {w w' : World} {base : Nat} {v : Value} {l : List Ex} (h : OwnsEx w base v l) (hb : Below w.heap.size w w') : OwnsEx w' base v l :=
  World.ownsRow.kept h ⟨hb.os, hb.tape, hb.output, hb.size, fun i hi _ => hb.block i hi⟩ (row := none) (by cases v.ownBlock <;> simp)
theorem OwnsEx.alloc {w : World} {base : Nat} {v : Value} {l : List Ex} (h : OwnsEx w base v l) (o : Obj) : OwnsEx (w.alloc o) base v l := h.below ((Below.refl _ _).alloc (Nat.le_refl _) _)
theorem ReadsEx.tail {w : World} {ad : Addr} {x : Ex} {t : List Ex} (h : ∀ j, j < (x :: t).length → PairAt w (ad.add (j * 2)) ((x :: t).getD j exD)) :
    ∀ A, (A = some { ad with off := ad.off + 2, spot := none } ∨ t = []) → ReadsEx w A t := by
  intro A hA hp
  rcases hA with rfl | rfl
  · refine ⟨_, rfl, fun j hj => ?_⟩
    have := h (j + 1) (by simp; omega)
    have e : (Addr.add { ad with off := ad.off + 2, spot := none } (j * 2)) = ad.add ((j + 1) * 2) := by
      have h2 := add_of_add ad 2 (j * 2)
      rw [show (j + 1) * 2 = 2 + j * 2 by omega, ← h2]; rfl
    rw [e]
    exact this
  · simp at hp
theorem reads_one (w : World) (x : Ex) : ReadsEx (w.alloc (.cells #[.string x.1, .string x.2] 26)) (some ⟨w.heap.size, 0, none⟩) [x] := by
  intro _
  refine ⟨_, rfl, fun j hj => ?_⟩
  have : j = 0 := by simpa using hj
  subst this
  exact ⟨by simp [Addr.add], by simp [Addr.add]⟩

def addM (out : List Ex) : List Ex → List Ex
  | [] => out
  | x :: t => addM (if out.any (fun y => eqB x y) then out else out ++ [x]) t
theorem eqB_comm (x y : Ex) : eqB x y = eqB y x := by
  unfold eqB
  rw [BEq.comm (a := x.1.toList), BEq.comm (a := x.2.toList)]

def AddJ (l m : List Ex) (v0 : Value) (w : World) (a' : Act) (w' : World) : Prop :=
  ∃ (A' : Option Addr) (m' : List Ex) (c' : Nat) (v : Value) (out : List Ex) (s1 u6 u7 u8 u9 u10 u11 u12 u13 u14 u15 u16 u17 u18 u19 u20 u21 u22 u23 u24 u25 : Value),
    a' = { tmps := #[v0, .slice A' m'.length c', s1, undef, .slice none 0 0, v, u6, u7, u8, u9, u10, u11, u12, u13, u14, u15, u16, u17, u18, u19, u20, u21, u22, u23, u24, u25], defers := [] } ∧
    Below w.heap.size w w' ∧ OwnsEx w' w.heap.size v out ∧ ReadsEx w A' m' ∧ m'.length ≤ c' ∧ out.length + m'.length ≤ 2000 ∧ addM l m = addM out m'
def lenAt (k : Nat) (a : Act) : Nat := match a.tmps.getD k undef with | .slice _ n _ => n | _ => 0

theorem wp_scope_label {P : Program} {a : Act} {w : World} {Q : Exit → Act → World → Prop} {c body : Code} (l : Nat) (J : Act → World → Prop) (μ : Act → World → Nat)
    (hf : findLabel c l = some (Code.skip.seq body))
    (pass : ∀ a w, J a w → body.wp P (Exit.jump l (fun a' w' => J a' w' ∧ μ a' w' < μ a w) Q) a w)
    (first : Hid (∀ a w, J a w → body.wp P (Exit.jump l J Q) a w) → c.wp P (Exit.jump l J Q) a w) : (Code.scope c).wp P Q a w := by
  refine wp_scope_jumps l J μ hf (first ?_) ?_
  · intro a w h0
    refine wp_mono (pass a w h0) ?_
    intro e a' w' h
    cases e <;> simp only [Exit.jump] at h ⊢ <;> first | exact h | exact ⟨h.1, h.2.1⟩
  · intro a w h
    exact wp_seq (wp_skip (pass a w h))

def AddPost (l m : List Ex) (w : World) (e : Ending) (w' : World) : Prop := ∃ v, e = .returned v ∧ OwnsEx w' w.heap.size v (addM l m) ∧ Below w.heap.size w w'

set_option maxHeartbeats 400000 in
theorem add_any (A B : Option Addr) (c d : Nat) (l m : List Ex) (w : World) (hn : l.length ≤ 1000) (hn2 : m.length ≤ 1000) (hd : m.length ≤ d) (hl : ReadsEx w A l) (hm : ReadsEx w B m) :
    Calls Try.prog 11 #[.slice A l.length c, .slice B m.length d] w (AddPost l m w) := by
  have HL := Lib.hid hl
  have HM := Lib.hid hm
  clear hl hm
  go_enter Try.func11, Try.ntmps11
  go_wp2_with fail
  refine wp_scope_label 0 (AddJ l m (.slice A l.length c) w) (fun a' _ => lenAt 1 a') rfl ?_ (fun hlab => ?_)
  · rintro a' w' ⟨A', m', c', v, out, s1, u6, u7, u8, u9, u10, u11, u12, u13, u14, u15, u16, u17, u18, u19, u20, u21, u22, u23, u24, u25, rfl, hb, ho, hr, hc', hsz, hs⟩
    have HS := Lib.hid hs
    have HO := Lib.hid ho
    clear hs ho
    cases m' with
    | nil =>
      go_wp2_with fail
      simp only [Exit.jump]
      go_ret
      exact ⟨_, rfl, by rw [HS.out]; exact HO.out, hb⟩
    | cons x t =>
      obtain ⟨Ao, co, rfl, hro⟩ := HO.out.slice
      obtain ⟨ad, rfl, hcell⟩ := hr.below hb (by simp)
      obtain ⟨hc1, hc2⟩ : PairAt w' ad x := by have := hcell 0 (by simp); rw [Nat.zero_mul, Addr.add_zero'] at this; exact this
      obtain ⟨ad0, h0, hcell0⟩ := hr (by simp)
      injection h0 with h0
      subst h0
      have HT := Lib.hid (ReadsEx.tail hcell0)
      have HP : Hid (PairAt w' ad x) := Lib.hid ⟨hc1, hc2⟩
      have HR := Lib.hid hro
      clear hcell hcell0 hr hro
      simp only [List.length_cons] at hc' hsz
      rcases Bool.eq_false_or_eq_true (out.any (fun y => eqB x y)) with h1 | h1
      · have HA : Hid (addM out (x :: t) = addM out t) := by show _ = _; rw [addM, h1]; rfl
        by_cases hc1' : c' = 1
        · subst hc1'
          have ht : t = [] := List.eq_nil_of_length_eq_zero (by omega)
          have HT0 := Lib.hid ht
          clear ht
          go_wp2_with (go_at_call 20; refine (contains_any Ao co out x _ (by omega) HR.out).mono ?_; rintro e w2 ⟨rfl, hb2⟩)
          go_step3
          refine ⟨rfl, ⟨some ad, [], 0, _, out, _, _, _, _, _, _, _, _, _, _, _, _, _, _, _, _, _, _, _, _, _, rfl, bthen hb hb2, HO.out.below hb2, fun h => by simp at h, by simp, by simp; omega, ?_⟩, by simp [lenAt]⟩
          rw [HS.out, HA.out, HT0.out]
        · have h1' : (c' == 1) = false := by simpa using hc1'
          go_wp2_with (go_at_call 20; refine (contains_any Ao co out x _ (by omega) HR.out).mono ?_; rintro e w2 ⟨rfl, hb2⟩)
          go_step3
          refine ⟨rfl, ⟨_, t, c' - 1, _, out, _, _, _, _, _, _, _, _, _, _, _, _, _, _, _, _, _, _, _, _, _, rfl, bthen hb hb2, HO.out.below hb2, HT.out _ (.inl rfl), by omega, by omega, ?_⟩, by simp [lenAt]⟩
          rw [HS.out, HA.out]
      · have HA : Hid (addM out (x :: t) = addM (out ++ [x]) t) := by show _ = _; rw [addM, h1]; rfl
        by_cases hc1' : c' = 1
        · subst hc1'
          have ht : t = [] := List.eq_nil_of_length_eq_zero (by omega)
          have HT0 := Lib.hid ht
          clear ht
          go_wp2_with (first | (go_at_call 20; refine (contains_any Ao co out x _ (by omega) HR.out).mono ?_; rintro e w2 ⟨rfl, hb2⟩; obtain ⟨hd1, hd2⟩ := HP.out.below hb2 HP.out.lt) | (at_builtin; refine app_ex rfl (.tmp 18) (.tmp 22) rfl w.heap.size _ out [x] (some ⟨_, 0, none⟩) 1 rfl rfl ((HO.out.below hb2).alloc _) (reads_one _ _) (Below.alloc (bthen hb hb2) (bthen hb hb2).size _) (by have := (bthen hb hb2).size; simp; omega) (by simp; omega) ?_; intro v' w3 ho' hb' hB' hg'))
          go_step3
          refine ⟨rfl, ⟨some ad, [], 0, _, out ++ [x], _, _, _, _, _, _, _, _, _, _, _, _, _, _, _, _, _, _, _, _, _, rfl, hb', ho', fun h => by simp at h, by simp, by simp; omega, ?_⟩, by simp [lenAt]⟩
          rw [HS.out, HA.out, HT0.out]
        · have h1' : (c' == 1) = false := by simpa using hc1'
          go_wp2_with (first | (go_at_call 20; refine (contains_any Ao co out x _ (by omega) HR.out).mono ?_; rintro e w2 ⟨rfl, hb2⟩; obtain ⟨hd1, hd2⟩ := HP.out.below hb2 HP.out.lt) | (at_builtin; refine app_ex rfl (.tmp 18) (.tmp 22) rfl w.heap.size _ out [x] (some ⟨_, 0, none⟩) 1 rfl rfl ((HO.out.below hb2).alloc _) (reads_one _ _) (Below.alloc (bthen hb hb2) (bthen hb hb2).size _) (by have := (bthen hb hb2).size; simp; omega) (by simp; omega) ?_; intro v' w3 ho' hb' hB' hg'))
          go_step3
          refine ⟨rfl, ⟨_, t, c' - 1, _, out ++ [x], _, _, _, _, _, _, _, _, _, _, _, _, _, _, _, _, _, _, _, _, _, rfl, hb', ho', HT.out _ (.inl rfl), by omega, by simp; omega, ?_⟩, by simp [lenAt]⟩
          rw [HS.out, HA.out]
  · go_wp2_with (go_at_call 19; refine (clone_any A c l _ (by omega) HL.out).mono ?_; rintro e w1 ⟨v, rfl, ho, hb⟩)
    refine wp_label ?_
    simp only [Exit.then]
    apply_assumption
    exact hlab.out _ _ ⟨B, m, d, v, l, _, _, _, _, _, _, _, _, _, _, _, _, _, _, _, _, _, _, _, _, _, rfl, hb, ho, HM.out, hd, by omega, rfl⟩

theorem any_comm (out : List Ex) (x : Ex) : out.any (fun y => eqB y x) = out.any (fun y => eqB x y) := by
  congr 1; funext y; exact eqB_comm y x
theorem own_nil (w : World) (base : Nat) : OwnsEx w base (.slice none 0 0) [] := ⟨rfl, .inl ⟨rfl, rfl⟩⟩

set_option maxHeartbeats 400000 in
theorem radd_any (A B : Option Addr) (c d : Nat) (l m : List Ex) (w : World) (hn : l.length ≤ 1000) (hn2 : m.length ≤ 1000) (hl : ReadsEx w A l) (hm : ReadsEx w B m) :
    Calls Try.prog 12 #[.slice A l.length c, .slice B m.length d] w (AddPost l m w) := by
  have HL := Lib.hid hl
  have HM := Lib.hid hm
  clear hl hm
  go_enter Try.func12, Try.ntmps12
  go_wp2_with (at_builtin; refine app_ex rfl (.const (.slice none 0 0)) (.tmp 7) rfl w.heap.size _ [] l A c rfl rfl (own_nil _ _) HL.out (Below.refl _ _) (Nat.le_refl _) (by simp; omega) ?_; intro v' w3 ho' hb' hB' hg')
  have HO := Lib.hid ho'
  clear hg' ho'
  go_loopw [5, 6] (fun v i wr => ∃ (k : Nat) (out : List Ex), i = .int .i64 k ∧ k ≤ m.length ∧ Below w.heap.size w wr ∧ Hid (OwnsEx wr w.heap.size v out) ∧ out.length ≤ l.length + k ∧ Hid (addM l m = addM out (m.drop k))) (fun _ i _ => m.length - (intOf i).toNat)
  case atStart => exact ⟨0, l, rfl, by omega, hb', HO, by omega, rfl⟩
  case round =>
    obtain ⟨k, out, rfl, hk, hb, HV, ho, HS⟩ := hrel
    clear hb' HO
    by_cases hlt : k < m.length
    · obtain ⟨Ao, co, hv, hro⟩ := HV.out.slice
      subst hv
      obtain ⟨bd, rfl, hc⟩ := (HM.out.below hb) (by omega)
      obtain ⟨hc1, hc2⟩ := hc k hlt
      have HD := Lib.hid (drop_at m exD k hlt)
      have HP := Lib.hid (hc k hlt)
      have HR := Lib.hid hro
      clear hc hro
      generalize m.getD k exD = x at hc1 hc2 HD HP
      rcases Bool.eq_false_or_eq_true (out.any (fun y => eqB y x)) with h1 | h1
      · have HA : Hid (addM out (m.drop k) = addM out (m.drop (k + 1))) := by show _ = _; rw [HD.out, addM, ← any_comm, h1]; rfl
        go_wp2_with (go_at_call 21; refine (In_any Ao co out x _ (by omega) HR.out).mono ?_; rintro e w2 ⟨rfl, hb2⟩; obtain ⟨hd1, hd2⟩ := HP.out.below hb2 HP.out.lt)
        go_roundw
        case rel => exact ⟨k + 1, out, by go_num, by omega, bthen hb hb2, HV.out.below hb2, by omega, by show _ = _; rw [HS.out, HA.out]⟩
        case measure => simp [intOf]; omega
      · have HA : Hid (addM out (m.drop k) = addM (out ++ [x]) (m.drop (k + 1))) := by show _ = _; rw [HD.out, addM, ← any_comm, h1]; rfl
        go_wp2_with (first | (go_at_call 21; refine (In_any Ao co out x _ (by omega) HR.out).mono ?_; rintro e w2 ⟨rfl, hb2⟩; obtain ⟨hd1, hd2⟩ := HP.out.below hb2 HP.out.lt) | (at_builtin; refine app_ex rfl (.tmp 22) (.tmp 27) rfl w.heap.size _ out [x] (some ⟨_, 0, none⟩) 1 rfl rfl ((HV.out.below hb2).alloc _) (reads_one _ _) (Below.alloc (bthen hb hb2) (bthen hb hb2).size _) (by have := (bthen hb hb2).size; simp; omega) (by simp; omega) ?_; intro v' w3 ho' hb' hB' hg'))
        go_roundw
        case rel => exact ⟨k + 1, out ++ [x], by go_num, by omega, hb', ho', by simp; omega, by show _ = _; rw [HS.out, HA.out]⟩
        case measure => simp [intOf]; omega
    · go_wp2_with fail
      go_ret
      exact ⟨_, rfl, by rw [HS.out, List.drop_eq_nil_of_le (by omega)]; exact HV.out, hb⟩
end Go.Proofs.Ytndleookkaoojaa
