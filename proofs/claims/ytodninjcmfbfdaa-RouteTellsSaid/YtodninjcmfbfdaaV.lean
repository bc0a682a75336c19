/- The contracts of Own and of Kept for rows of ints. -/
import Derived.Test.YtodninjcmfbfdaaF
import Derived.Laws.MakeOwn
namespace Go.Proofs.Ytodninjcmfbfdaa
open Go.RowKit

theorem app_fit {ops : Array Oper} {rest : List Oper} {o : Oper} {a : Act} {Q : Exit → Act → World → Prop} {W : World} (hgd : o.guard = none) (s x : Operand)
    (ho : o.op = .call { callee := .builtin .append, args := #[s, x], argTypes := #[22, 22] })
    (base g cap : Nat) (m : List Int) (A : Option Addr) (c : Nat) (hs : a.eval s = .slice (some ⟨g, 0, none⟩) 0 cap) (hx : a.eval x = .slice A m.length c)
    (hown : W.ownsRow base 3 1 (.slice (some ⟨g, 0, none⟩) 0 cap) 0 []) (hr : ReadsI W A m) (hm : m.length ≤ cap)
    (h : ∀ w', w'.ownsRow base 3 1 (.slice (some ⟨g, 0, none⟩) m.length cap) m.length (iv m) → W.grownBy w' (some g) → wpList Try.prog ops Q rest (a.put o.dst (.slice (some ⟨g, 0, none⟩) m.length cap)) w') :
    wpList Try.prog ops Q (o :: rest) a W := by
  obtain ⟨i0, hi, hz0, hz1, hz2⟩ := info_parts int_info
  have hr' := reads_of_i hr
  cases A with
  | none =>
    have h0 : m = [] := by
      cases m with
      | nil => rfl
      | cons x t => obtain ⟨ad, h, _⟩ := hr (by simp); cases h
    subst h0
    refine wpList_plain hgd fun K hK' => ?_
    have hrun := run_append_of_nil (P := Try.prog) W base 22 o.type 3 i0 1 Try.underlying22 hi _ 0 [] hown c
    unfold Oper.wp
    simp only [List.length_nil] at hx
    simp [execOp, ho, resolve, invoke, builtin, hs, hx, hrun, Result.andThen]
    exact hK' _ _ (h W hown (World.grownBy.refl W _))
  | some ad =>
    refine wpList_append_fits W hgd s x 22 ho base 3 i0 1 Try.underlying22 hi hz1 g 0 cap [] hs hown ad m.length c (iv m) hx (by simp [iv]) ?_ (iv_one m) (by omega) ?_
    · intro j u hu
      rcases Nat.eq_zero_or_pos m.length with h0 | h0
      · have : m = [] := List.eq_nil_of_length_eq_zero h0
        subst this; simp [iv] at hu
      · obtain ⟨ad', h1, _, h2⟩ := hr'.2 h0
        injection h1 with h1; subst h1
        exact h2 j u hu
    · intro w' h1 h2
      simp only [Nat.zero_add, List.nil_append] at h1
      have := h w' h1 h2
      simpa only [Nat.zero_add] using this

theorem run_make_rowN {P : Program} (t e : TypeId) (i : TypeInfo) (z : Value) (ht : P.underlying t = some (.slice e)) (hi : P.info? e = some i) (hz : i.zero = some z)
    (kl kc : IntKind) (n c : Nat) (hnc : n ≤ c) (hbytes : i.bytes * c ≤ 281474976710656) (h63 : c ≤ 9223372036854775807) (w : World) :
    (Instr.makeSlice t (.int kl (n : Int)) (.int kc (c : Int))).run P w = .ok (.slice (some ⟨w.heap.size, 0, none⟩) n c) (w.alloc (.cells (madeCells z.cells (c * i.size)) e)) := by
  have hb : (i.bytes : Int) * (c : Int) ≤ 281474976710656 := by
    have h : ((i.bytes * c : Nat) : Int) ≤ 281474976710656 := by omega
    rwa [Int.natCast_mul] at h
  have hr := run_make (P := P) w t e i z ht hi hz kl kc n c (by omega) (by omega) hb (by omega)
  simp only [Int.toNat_natCast] at hr
  exact hr
theorem make_int (n : Nat) (hn : n ≤ 100000) (W : World) : (Instr.makeSlice 22 (.int .i64 0) (.int .i64 ((n : Int) + 3))).run Try.prog W = .ok (.slice (some ⟨W.heap.size, 0, none⟩) 0 (n + 3)) (W.alloc (.cells (madeCells #[.int .i64 0] (n + 3)) 3)) := by
  obtain ⟨i0, hi, hz0, hz1, hz2⟩ := info_parts int_info
  have h := run_make_rowN (P := Try.prog) 22 3 i0 _ Try.underlying22 hi hz0 .i64 .i64 0 (n + 3) (by omega) (by rw [hz2]; omega) (by omega) W
  rw [hz1, Nat.mul_one] at h
  exact h

/-- A row of n ints in block B that may be written; the first i of them hold F's. -/
def FillI (wr : World) (B n i : Nat) (F : List Int) : Prop :=
  B < wr.heap.size ∧ (∀ j, j < i → wr.cell? ⟨B, j, none⟩ = some (.int .i64 (F.getD j 0))) ∧ (∀ p, p < n → (∃ u, wr.cell? ⟨B, p, none⟩ = some u) ∧ wr.frozen? ⟨B, p, none⟩ = false)
theorem FillI.put {wr : World} {B n i : Nat} {F : List Int} (h : FillI wr B n i F) (hi : i < n) (f : Int) (hf : F.getD i 0 = f) :
    FillI (wr.setCell ⟨B, i, none⟩ (.int .i64 f)) B n (i + 1) F := by
  obtain ⟨hB, h1, h2⟩ := h
  obtain ⟨⟨u1, hu1⟩, _⟩ := h2 i hi
  refine ⟨by simpa [World.setCell] using hB, fun j hj => ?_, fun p hp => ⟨?_, by rw [World.frozen?_setCell]; exact (h2 p hp).2⟩⟩
  · by_cases hji : j = i
    · subst hji
      rw [hf]
      exact World.cell?_setCell_same _ _ _ hu1
    · have e1 : (⟨B, i, none⟩ : Addr) ≠ ⟨B, j, none⟩ := by intro e; injection e with _ e2; omega
      rw [World.cell?_setCell_other _ _ _ _ e1]; exact h1 j (by omega)
  · by_cases hp1 : p = i
    · subst hp1
      exact ⟨_, World.cell?_setCell_same _ _ _ hu1⟩
    · obtain ⟨⟨u, hu⟩, _⟩ := h2 p hp
      exact ⟨u, by rw [World.cell?_setCell_other _ _ _ _ (by intro e; injection e with _ e2; omega)]; exact hu⟩
theorem add_lit (B j : Nat) : (Addr.add ⟨B, 0, none⟩ j) = ⟨B, j, none⟩ := by unfold Addr.add; split <;> simp_all
theorem FillI.start {wr : World} {base B cap : Nat} {l : List Int} (F : List Int) (h : wr.ownsRow base 3 1 (.slice (some ⟨B, 0, none⟩) l.length cap) l.length (iv l)) (hF : ∀ j, j < l.length → F.getD j 0 = l.getD j 0) : FillI wr B cap l.length F := by
  have hr := readsI_of (Reads.of_own h)
  rcases h.2 with ⟨h0, _⟩ | ⟨g', cap', cur, h0, hb, hh, hc1, hc2, hc3, _⟩
  · cases h0
  · injection h0 with e1 e2 e3
    injection e1 with e1
    injection e1 with e1
    subst e1 e3
    have hlt : B < wr.heap.size := by
      rcases Nat.lt_or_ge B wr.heap.size with hlt | hge
      · exact hlt
      · rw [Array.getElem?_eq_none hge] at hh; cases hh
    refine ⟨hlt, fun j hj => ?_, fun p hp => ⟨?_, ?_⟩⟩
    · rw [hF j hj]
      obtain ⟨ad, e, hc⟩ := hr (by omega)
      injection e with e
      subst e
      have := hc j hj
      rw [add_lit] at this
      exact this
    · have : p < cur.size := by rw [hc3]; omega
      exact ⟨cur[p], by rw [cell_of_row wr B p cur 3 (0, 0) hh]; simp [this]⟩
    · simp [World.frozen?, hh]
def fillL (l : List Int) (f : Int) : List Int := l ++ [f, f, f]
theorem fillL_lo (l : List Int) (f : Int) (j : Nat) (h : j < l.length) : (fillL l f).getD j 0 = l.getD j 0 := by
  simp only [fillL, List.getD_eq_getElem?_getD]
  rw [List.getElem?_append_left h]
theorem fillL_hi (l : List Int) (f : Int) (j : Nat) (h : l.length ≤ j) (h2 : j < l.length + 3) : (fillL l f).getD j 0 = f := by
  simp only [fillL, List.getD_eq_getElem?_getD]
  rw [List.getElem?_append_right h]
  obtain h | h | h : j - l.length = 0 ∨ j - l.length = 1 ∨ j - l.length = 2 := by omega
  all_goals rw [h]; rfl
def OwnPost (l : List Int) (f : Int) (w : World) (e : Ending) (w' : World) : Prop :=
  ∃ B, e = .returned (.slice (some ⟨B, 0, none⟩) l.length (l.length + 3)) ∧ ReadsI w' (some ⟨B, 0, none⟩) (fillL l f) ∧ Below w.heap.size w w'

set_option maxHeartbeats 400000 in
theorem own_any (A : Option Addr) (c : Nat) (l : List Int) (f : Int) (w : World) (hn : l.length ≤ 1000) (hl : ReadsI w A l) :
    Calls Try.prog 9 #[.slice A l.length c, .int .i64 f] w (OwnPost l f w) := by
  have HL := Lib.hid hl
  have hmk := make_int l.length (by omega)
  have HO : Hid ((w.alloc (.cells (madeCells #[.int .i64 0] (l.length + 3)) 3)).ownsRow w.heap.size 3 1 (.slice (some ⟨w.heap.size, 0, none⟩) 0 (l.length + 3)) 0 []) := by
    refine ⟨rfl, .inr ⟨w.heap.size, l.length + 3, madeCells #[.int .i64 0] (l.length + 3), rfl, Nat.le_refl _, ?_, by omega, by unfold maxLen; omega, by rw [size_madeCells]; simp, by simp⟩⟩
    have := heap_alloc_new w (.cells (madeCells #[.int .i64 0] (l.length + 3)) 3)
    simpa using this
  clear hl
  go_enter Try.func9, Try.ntmps9
  go_wp2_with (at_builtin; refine app_fit rfl (.tmp 12) (.tmp 13) rfl w.heap.size w.heap.size (l.length + 3) l A c rfl rfl HO.out (HL.out.below (balloc (Below.refl _ _) _)) (by omega) ?_; intro w3 ho3 hg3)
  have hb3 : Below w.heap.size w w3 := ((Below.refl _ _).alloc (Nat.le_refl _) _).grown hg3 (by simp) (fun k hk => by injection hk with hk; omega)
  have hfr := Lib.hid (FillI.start (fillL l f) ho3 (fillL_lo l f))
  clear hg3 ho3 hmk HO HL
  go_loopw [7] (fun v wr => ∃ k : Nat, v = .int .i64 k ∧ l.length ≤ k ∧ k ≤ l.length + 3 ∧ Below w.heap.size w wr ∧ Hid (FillI wr w.heap.size (l.length + 3) k (fillL l f))) (fun v _ => l.length + 3 - (intOf v).toNat)
  case atStart => exact ⟨l.length, rfl, by omega, by omega, hb3, hfr⟩
  case round =>
    obtain ⟨k, rfl, hk0, hk, hb, HF⟩ := hrel
    clear hb3 hfr
    by_cases hlt : k < l.length + 3
    · obtain ⟨⟨u1, hu1⟩, hz1⟩ := HF.out.2.2 k (by omega)
      have HV := Lib.hid (fillL_hi l f k hk0 hlt)
      go_wp2_with fail
      go_roundw
      case rel => exact ⟨k + 1, by go_num, by omega, by omega, hb.setCell (by simp) _, HF.out.put hlt f HV.out⟩
      case measure => simp [intOf]; omega
    · have ek : k = l.length + 3 := by omega
      have HR : Hid (ReadsI wr (some ⟨w.heap.size, 0, none⟩) (fillL l f)) := by
        intro _
        refine ⟨_, rfl, fun j hj => ?_⟩
        have hj' : j < l.length + 3 := by simpa [fillL] using hj
        have := HF.out.2.1 j (by omega)
        rw [add_lit]; exact this
      clear ek
      go_wp2_with fail
      go_ret
      exact ⟨_, rfl, HR.out, hb⟩

theorem reads_take {w : World} {A : Option Addr} {l m : List Int} (h : ReadsI w A (l ++ m)) : ReadsI w A l := by
  intro hn
  obtain ⟨ad, e, hc⟩ := h (by simp; omega)
  refine ⟨ad, e, fun j hj => ?_⟩
  have := hc j (by simp; omega)
  have e2 : (l ++ m).getD j 0 = l.getD j 0 := by
    simp only [List.getD_eq_getElem?_getD]
    rw [List.getElem?_append_left hj]
  rw [e2] at this
  exact this

set_option maxHeartbeats 400000 in
theorem kept_any (B : Nat) (A : Option Addr) (c : Nat) (l : List Int) (f : Int) (w : World) (hn : l.length ≤ 1000) (ho : ReadsI w (some ⟨B, 0, none⟩) (fillL l f)) (hl : ReadsI w A l) (hs : sameB l l = true) :
    Calls Try.prog 17 #[.slice (some ⟨B, 0, none⟩) l.length (l.length + 3), .slice A l.length c, .int .i64 f] w fun e w' => e = .returned (.bool true) ∧ Below w.heap.size w w' := by
  have HO := Lib.hid ho
  have HL := Lib.hid hl
  have HP := Lib.hid (plain_any (some ⟨B, 0, none⟩) A (l.length + 3) c l l w (by omega) (reads_take ho) hl)
  rw [hs] at HP
  clear hl ho hs
  go_enter Try.func17, Try.ntmps17
  go_wp2_with (go_at_call 14; refine HP.out.mono ?_; rintro e w1 ⟨rfl, hb1⟩)
  go_loopw [8] (fun v wr => ∃ k : Nat, v = .int .i64 k ∧ l.length ≤ k ∧ k ≤ l.length + 3 ∧ Below w.heap.size w wr) (fun v _ => l.length + 3 - (intOf v).toNat)
  case atStart => exact ⟨l.length, rfl, by omega, by omega, hb1⟩
  case round =>
    obtain ⟨k, rfl, hk0, hk, hb⟩ := hrel
    by_cases hlt : k < l.length + 3
    · have hq : wr.cell? ⟨B, k, none⟩ = some (.int .i64 f) := by
        obtain ⟨ad, e, hc⟩ := (HO.out.below hb) (by simp [fillL])
        injection e with e
        subst e
        have := hc k (by simp [fillL]; omega)
        rw [fillL_hi l f k hk0 hlt, add_lit] at this
        exact this
      go_wp2_with fail
      go_roundw
      case rel => exact ⟨k + 1, by go_num, by omega, by omega, by (first | exact hb | exact bdrewN hb _ | exact bdrew hb)⟩
      case measure => simp [intOf]; omega
    · go_wp2_with fail
      go_ret
      exact ⟨rfl, hb⟩
end Go.Proofs.Ytodninjcmfbfdaa
