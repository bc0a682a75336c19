/- The contracts of the reference's Hit, and of newelhelp.Own and Kept at api.Excluded; lists of at most 1000 that can be read. -/
import Derived.Test.YtndleookkaoojaaD
import Derived.Laws.MakeOwn
namespace Go.Proofs.Ytndleookkaoojaa
open Go.RowKit

set_option maxHeartbeats 1000000 in
theorem rhit_any (A : Option Addr) (c : Nat) (l : List Ex) (g m : ByteArray) (w : World) (hn : l.length ≤ 100000) (hl : ReadsEx w A l) :
    Calls Try.prog 9 #[.slice A l.length c, .string g, .string m] w fun e w' => e = .returned (.bool (l.any (fun x => hitB x g m))) ∧ w' = w := by
  have HL := Lib.hid hl
  clear hl
  go_enter Try.func9, Try.ntmps9
  go_wp2_with fail
  go_loop [7] (fun v => ∃ k : Nat, v = .int .i64 k ∧ k ≤ l.length ∧ Hid (l.any (fun x => hitB x g m) = (l.drop k).any (fun x => hitB x g m))) (fun v => l.length - (intOf v).toNat)
  case atStart => exact ⟨0, rfl, by omega, rfl⟩
  case round =>
    obtain ⟨k, rfl, hk, HK⟩ := hrel
    by_cases hlt : k < l.length
    · obtain ⟨ad, rfl, hc⟩ := HL.out (by omega)
      obtain ⟨hc1, hc2⟩ := hc k hlt
      have HD := Lib.hid (drop_at l exD k hlt)
      clear hc
      generalize l.getD k exD = x at hc1 hc2 HD
      have HX : Hid ((l.drop k).any (fun x => hitB x g m) = (((x.1.toList == [42] || x.1.toList == g.toList) && (x.2.toList == [42] || x.2.toList == m.toList)) || (l.drop (k + 1)).any (fun x => hitB x g m))) := by show _ = _; rw [HD.out]; rfl
      rcases Bool.eq_false_or_eq_true (x.1.toList == [42]) with h1 | h1 <;> rcases Bool.eq_false_or_eq_true (x.1.toList == g.toList) with h2 | h2 <;> rcases Bool.eq_false_or_eq_true (x.2.toList == [42]) with h3 | h3 <;> rcases Bool.eq_false_or_eq_true (x.2.toList == m.toList) with h4 | h4
      all_goals
        go_wp2_with fail
        first
        | (go_ret
           exact ⟨by rw [HK.out, HX.out, h1, h2, h3, h4]; simp, rfl⟩)
        | (go_round
           case rel => exact ⟨k + 1, by go_num, by omega, by show _ = _; rw [HK.out, HX.out, h1, h2, h3, h4]; rfl⟩
           case measure => simp [intOf]; omega)
    · go_wp2_with fail
      go_ret
      exact ⟨by rw [HK.out, List.drop_eq_nil_of_le (by omega)]; rfl, rfl⟩

theorem app_fit {ops : Array Oper} {rest : List Oper} {o : Oper} {a : Act} {Q : Exit → Act → World → Prop} {W : World} (hgd : o.guard = none) (s x : Operand)
    (ho : o.op = .call { callee := .builtin .append, args := #[s, x], argTypes := #[22, 22] })
    (base g cap : Nat) (m : List Ex) (A : Option Addr) (c : Nat) (hs : a.eval s = .slice (some ⟨g, 0, none⟩) 0 cap) (hx : a.eval x = .slice A m.length c)
    (hown : W.ownsRow base 26 2 (.slice (some ⟨g, 0, none⟩) 0 cap) 0 []) (hr : ReadsEx W A m) (hm : m.length ≤ cap)
    (h : ∀ w', w'.ownsRow base 26 2 (.slice (some ⟨g, 0, none⟩) m.length cap) m.length (cellsOf m) → W.grownBy w' (some g) → wpList Try.prog ops Q rest (a.put o.dst (.slice (some ⟨g, 0, none⟩) m.length cap)) w') :
    wpList Try.prog ops Q (o :: rest) a W := by
  obtain ⟨i0, hi, hz0, hz1, hz2⟩ := info_parts ex_info
  have hr' := reads_of hr
  cases A with
  | none =>
    have h0 : m = [] := by
      cases m with
      | nil => rfl
      | cons x t => obtain ⟨ad, h, _⟩ := hr (by simp); cases h
    subst h0
    refine wpList_plain hgd fun K hK' => ?_
    have hrun := run_append_of_nil (P := Try.prog) W base 22 o.type 26 i0 2 Try.underlying22 hi _ 0 [] hown c
    unfold Oper.wp
    simp only [List.length_nil] at hx
    simp [execOp, ho, resolve, invoke, builtin, hs, hx, hrun, Result.andThen]
    exact hK' _ _ (h W hown (World.grownBy.refl W _))
  | some ad =>
    refine wpList_append_fits W hgd s x 22 ho base 26 i0 2 Try.underlying22 hi hz1 g 0 cap [] hs hown ad m.length c (cellsOf m) hx (cellsOf_len m) ?_ (cellsOf_one m) (by omega) ?_
    · intro j u hu
      rcases Nat.eq_zero_or_pos m.length with h0 | h0
      · have : m = [] := List.eq_nil_of_length_eq_zero h0
        subst this; simp [cellsOf] at hu
      · obtain ⟨ad', h1, _, h2⟩ := hr'.2 h0
        injection h1 with h1; subst h1
        exact h2 j u hu
    · intro w' h1 h2
      simp only [Nat.zero_add, List.nil_append] at h1
      have := h w' h1 h2
      simpa only [Nat.zero_add] using this

theorem run_make_rowN {P : Program} (t e : TypeId) (i : TypeInfo) (z : Value) (ht : P.underlying t = some (.slice e)) (hi : P.info? e = some i) (hz : i.zero = some z)
    (kl kc : IntKind) (n c : Nat) (hnc : n ≤ c) (hbytes : i.bytes * c ≤ 281474976710656) (h63 : c ≤ 9223372036854775807) (w : World) :
    (Instr.makeSlice t (.int kl (n : Int)) (.int kc (c : Int))).run P w = .ok (.slice (some ⟨w.heap.size, 0, none⟩) n c) (w.alloc (.cells (madeCells z.cells (c * i.size)) e)) := by
  have hb : (i.bytes : Int) * (c : Int) ≤ 281474976710656 := by
    have h : ((i.bytes * c : Nat) : Int) ≤ 281474976710656 := by omega
    rwa [Int.natCast_mul] at h
  have hr := run_make (P := P) w t e i z ht hi hz kl kc n c (by omega) (by omega) hb (by omega)
  simp only [Int.toNat_natCast] at hr
  exact hr
theorem make_ex (n : Nat) (hn : n ≤ 100000) (W : World) : (Instr.makeSlice 22 (.int .i64 0) (.int .i64 ((n : Int) + 3))).run Try.prog W = .ok (.slice (some ⟨W.heap.size, 0, none⟩) 0 (n + 3)) (W.alloc (.cells (madeCells #[.string ByteArray.empty, .string ByteArray.empty] ((n + 3) * 2)) 26)) := by
  obtain ⟨i0, hi, hz0, hz1, hz2⟩ := info_parts ex_info
  have h := run_make_rowN (P := Try.prog) 22 26 i0 _ Try.underlying22 hi hz0 .i64 .i64 0 (n + 3) (by omega) (by rw [hz2]; omega) (by omega) W
  rw [hz1] at h
  exact h

/-- A row of n places of Excluded in block B that may be written; the first i of them hold F's. -/
def FillR (wr : World) (B n i : Nat) (F : List Ex) : Prop :=
  B < wr.heap.size ∧ (∀ j, j < i → PairAt wr ⟨B, j * 2, none⟩ (F.getD j exD)) ∧ (∀ p, p < n * 2 → (∃ u, wr.cell? ⟨B, p, none⟩ = some u) ∧ wr.frozen? ⟨B, p, none⟩ = false)
theorem PairAt.far {w : World} {p q : Addr} {x : Ex} (h : PairAt w p x) (hne : q.block ≠ p.block) (u : Value) : PairAt (w.setCell q u) p x :=
  ⟨(World.cell?_setCell_other _ _ _ _ (by intro e; rw [e] at hne; exact hne rfl)).trans h.1, (World.cell?_setCell_other _ _ _ _ (by intro e; rw [e] at hne; exact hne rfl)).trans h.2⟩
theorem FillR.put {wr : World} {B n i : Nat} {F : List Ex} (h : FillR wr B n i F) (hi : i < n) (f : Ex) (hf : F.getD i exD = f) :
    FillR ((wr.setCell ⟨B, i * 2, none⟩ (.string f.1)).setCell ⟨B, i * 2 + 1, none⟩ (.string f.2)) B n (i + 1) F := by
  obtain ⟨hB, h1, h2⟩ := h
  have hne : (⟨B, i * 2 + 1, none⟩ : Addr) ≠ ⟨B, i * 2, none⟩ := by intro e; injection e with _ e2; omega
  have hne2 : (⟨B, i * 2, none⟩ : Addr) ≠ ⟨B, i * 2 + 1, none⟩ := fun e => hne e.symm
  obtain ⟨⟨u1, hu1⟩, _⟩ := h2 (i * 2) (by omega)
  obtain ⟨⟨u2, hu2⟩, _⟩ := h2 (i * 2 + 1) (by omega)
  refine ⟨by simpa [World.setCell] using hB, fun j hj => ?_, fun p hp => ⟨?_, by rw [World.frozen?_setCell, World.frozen?_setCell]; exact (h2 p hp).2⟩⟩
  · by_cases hji : j = i
    · subst hji
      rw [hf]
      refine ⟨?_, ?_⟩
      · rw [World.cell?_setCell_other _ _ _ _ hne]
        exact World.cell?_setCell_same _ _ _ hu1
      · exact World.cell?_setCell_same _ _ _ ((World.cell?_setCell_other _ _ _ _ hne2).trans hu2)
    · have := h1 j (by omega)
      have e1 : (⟨B, i * 2 + 1, none⟩ : Addr) ≠ ⟨B, j * 2, none⟩ := by intro e; injection e with _ e2; omega
      have e2 : (⟨B, i * 2, none⟩ : Addr) ≠ ⟨B, j * 2, none⟩ := by intro e; injection e with _ e2; omega
      have e3 : (⟨B, i * 2 + 1, none⟩ : Addr) ≠ ⟨B, j * 2 + 1, none⟩ := by intro e; injection e with _ e2; omega
      have e4 : (⟨B, i * 2, none⟩ : Addr) ≠ ⟨B, j * 2 + 1, none⟩ := by intro e; injection e with _ e2; omega
      exact ⟨by rw [World.cell?_setCell_other _ _ _ _ e1, World.cell?_setCell_other _ _ _ _ e2]; exact this.1, by rw [World.cell?_setCell_other _ _ _ _ e3, World.cell?_setCell_other _ _ _ _ e4]; exact this.2⟩
  · by_cases hp2 : p = i * 2 + 1
    · subst hp2
      exact ⟨_, World.cell?_setCell_same _ _ _ ((World.cell?_setCell_other _ _ _ _ hne2).trans hu2)⟩
    · by_cases hp1 : p = i * 2
      · subst hp1
        exact ⟨_, (World.cell?_setCell_other _ _ _ _ hne).trans (World.cell?_setCell_same _ _ _ hu1)⟩
      · obtain ⟨⟨u, hu⟩, _⟩ := h2 p hp
        exact ⟨u, by rw [World.cell?_setCell_other _ _ _ _ (by intro e; injection e with _ e2; omega), World.cell?_setCell_other _ _ _ _ (by intro e; injection e with _ e2; omega)]; exact hu⟩
theorem FillR.start {wr : World} {base B cap : Nat} {l : List Ex} (F : List Ex) (h : wr.ownsRow base 26 2 (.slice (some ⟨B, 0, none⟩) l.length cap) l.length (cellsOf l)) (hF : ∀ j, j < l.length → F.getD j exD = l.getD j exD) : FillR wr B cap l.length F := by
  have hr := readsEx_of (Reads.of_own h)
  rcases h.2 with ⟨h0, _⟩ | ⟨g', cap', cur, h0, hb, hh, hc1, hc2, hc3, _⟩
  · cases h0
  · injection h0 with e1 e2 e3
    injection e1 with e1
    injection e1 with e1
    subst e1 e3
    have hlt : B < wr.heap.size := by
      rcases Nat.lt_or_ge B wr.heap.size with hlt | hge
      · exact hlt
      · rw [Array.getElem?_eq_none hge] at hh; cases hh
    refine ⟨hlt, fun j hj => ?_, fun p hp => ⟨?_, ?_⟩⟩
    · rw [hF j hj]
      obtain ⟨ad, e, hc⟩ := hr (by omega)
      injection e with e
      subst e
      have := hc j hj
      have ea : (Addr.add ⟨B, 0, none⟩ (j * 2)) = ⟨B, j * 2, none⟩ := by unfold Addr.add; split <;> simp_all
      rw [ea] at this
      exact this
    · have : p < cur.size := by rw [hc3]; exact hp
      exact ⟨cur[p], by rw [cell_of_row wr B p cur 26 (0, 0) hh]; simp [this]⟩
    · simp [World.frozen?, hh]
def fillL (l : List Ex) (f : Ex) : List Ex := l ++ [f, f, f]
theorem fillL_lo (l : List Ex) (f : Ex) (j : Nat) (h : j < l.length) : (fillL l f).getD j exD = l.getD j exD := by
  simp only [fillL, List.getD_eq_getElem?_getD]
  rw [List.getElem?_append_left h]
theorem fillL_hi (l : List Ex) (f : Ex) (j : Nat) (h : l.length ≤ j) (h2 : j < l.length + 3) : (fillL l f).getD j exD = f := by
  simp only [fillL, List.getD_eq_getElem?_getD]
  rw [List.getElem?_append_right h]
  obtain h | h | h : j - l.length = 0 ∨ j - l.length = 1 ∨ j - l.length = 2 := by omega
  all_goals rw [h]; rfl
def OwnPost (l : List Ex) (f : Ex) (w : World) (e : Ending) (w' : World) : Prop :=
  ∃ B, e = .returned (.slice (some ⟨B, 0, none⟩) l.length (l.length + 3)) ∧ ReadsEx w' (some ⟨B, 0, none⟩) (fillL l f) ∧ Below w.heap.size w w'

set_option maxHeartbeats 400000 in
theorem own_any (A : Option Addr) (c : Nat) (l : List Ex) (f : Ex) (w : World) (hn : l.length ≤ 1000) (hl : ReadsEx w A l) :
    Calls Try.prog 7 #[.slice A l.length c, .agg #[.string f.1, .string f.2]] w (OwnPost l f w) := by
  have HL := Lib.hid hl
  have hmk := make_ex l.length (by omega)
  have HO : Hid (((w.alloc (.cells #[.string f.1, .string f.2] 26)).alloc (.cells (madeCells #[.string ByteArray.empty, .string ByteArray.empty] ((l.length + 3) * 2)) 26)).ownsRow (w.heap.size + 1) 26 2 (.slice (some ⟨w.heap.size + 1, 0, none⟩) 0 (l.length + 3)) 0 []) := by
    refine ⟨rfl, .inr ⟨w.heap.size + 1, l.length + 3, madeCells #[.string ByteArray.empty, .string ByteArray.empty] ((l.length + 3) * 2), rfl, Nat.le_refl _, ?_, by omega, by unfold maxLen; omega, by rw [size_madeCells], by simp⟩⟩
    have := heap_alloc_new (w.alloc (.cells #[.string f.1, .string f.2] 26)) (.cells (madeCells #[.string ByteArray.empty, .string ByteArray.empty] ((l.length + 3) * 2)) 26)
    simpa using this
  clear hl
  go_enter Try.func7, Try.ntmps7
  go_wp2_with (at_builtin; refine app_fit rfl (.tmp 12) (.tmp 13) rfl (w.heap.size + 1) (w.heap.size + 1) (l.length + 3) l A c rfl rfl HO.out (reads_alloc (reads_alloc HL.out _) _) (by omega) ?_; intro w3 ho3 hg3)
  have hb3 : Below w.heap.size w w3 := (((Below.refl _ _).alloc (Nat.le_refl _) _).alloc (by simp) _).grown hg3 (by simp; omega) (fun k hk => by injection hk with hk; omega)
  have hbox : PairAt w3 ⟨w.heap.size, 0, none⟩ f := by
    have hblk : ∀ q : Addr, q.block = w.heap.size → w3.cell? q = ((w.alloc (.cells #[.string f.1, .string f.2] 26)).alloc (.cells (madeCells #[.string ByteArray.empty, .string ByteArray.empty] ((l.length + 3) * 2)) 26)).cell? q := fun q hq =>
      World.cell?_of_block (hg3.block q.block (by rw [hq]; simp; omega) (by rw [hq]; intro e; injection e with e; omega))
    refine ⟨?_, ?_⟩
    · rw [hblk _ rfl, World.cell?_alloc_lt _ _ _ (by simp)]; simp
    · rw [hblk _ rfl, World.cell?_alloc_lt _ _ _ (by simp)]; simp
  have hfr := Lib.hid (FillR.start (fillL l f) ho3 (fillL_lo l f))
  have HBX := Lib.hid hbox
  clear hg3 ho3 hmk HO hbox HL
  go_loopw [7] (fun v wr => ∃ k : Nat, v = .int .i64 k ∧ l.length ≤ k ∧ k ≤ l.length + 3 ∧ Below w.heap.size w wr ∧ Hid (FillR wr (w.heap.size + 1) (l.length + 3) k (fillL l f)) ∧ Hid (PairAt wr ⟨w.heap.size, 0, none⟩ f)) (fun v _ => l.length + 3 - (intOf v).toNat)
  case atStart => exact ⟨l.length, rfl, by omega, by omega, hb3, hfr, HBX⟩
  case round =>
    obtain ⟨k, rfl, hk0, hk, hb, HF, HP⟩ := hrel
    clear hb3 hfr HBX
    by_cases hlt : k < l.length + 3
    · obtain ⟨hp1, hp2⟩ := HP.out
      obtain ⟨⟨u1, hu1⟩, hz1⟩ := HF.out.2.2 (k * 2) (by omega)
      obtain ⟨⟨u2, hu2⟩, hz2⟩ := HF.out.2.2 (k * 2 + 1) (by omega)
      have HV := Lib.hid (fillL_hi l f k hk0 hlt)
      go_wp2_with fail
      go_roundw
      case rel => exact ⟨k + 1, by go_num, by omega, by omega, (hb.setCell (by simp) _).setCell (by simp) _, HF.out.put hlt f HV.out, (HP.out.far (by simp) _).far (by simp) _⟩
      case measure => simp [intOf]; omega
    · have ek : k = l.length + 3 := by omega
      have HR : Hid (ReadsEx wr (some ⟨w.heap.size + 1, 0, none⟩) (fillL l f)) := by
        intro _
        refine ⟨_, rfl, fun j hj => ?_⟩
        have hj' : j < l.length + 3 := by simpa [fillL] using hj
        have := HF.out.2.1 j (by omega)
        have ea : (Addr.add ⟨w.heap.size + 1, 0, none⟩ (j * 2)) = ⟨w.heap.size + 1, j * 2, none⟩ := by unfold Addr.add; split <;> simp_all
        rw [ea]; exact this
      clear ek
      go_wp2_with fail
      go_ret
      exact ⟨_, rfl, HR.out, hb⟩

/-- Like lists. -/
def keptB (o l : List Ex) : Bool := sameB o l
theorem reads_take {w : World} {A : Option Addr} {l m : List Ex} (h : ReadsEx w A (l ++ m)) : ReadsEx w A l := by
  intro hn
  obtain ⟨ad, e, hc⟩ := h (by simp; omega)
  refine ⟨ad, e, fun j hj => ?_⟩
  have := hc j (by simp; omega)
  have e2 : (l ++ m).getD j exD = l.getD j exD := by
    simp only [List.getD_eq_getElem?_getD]
    rw [List.getElem?_append_left hj]
  rw [e2] at this
  exact this

set_option maxHeartbeats 400000 in
theorem kept_any (B : Nat) (A : Option Addr) (c : Nat) (l : List Ex) (f : Ex) (w : World) (hn : l.length ≤ 1000) (ho : ReadsEx w (some ⟨B, 0, none⟩) (fillL l f)) (hl : ReadsEx w A l) (hs : sameB l l = true) :
    Calls Try.prog 13 #[.slice (some ⟨B, 0, none⟩) l.length (l.length + 3), .slice A l.length c, .agg #[.string f.1, .string f.2]] w fun e w' => e = .returned (.bool true) ∧ Below w.heap.size w w' := by
  have HO := Lib.hid (reads_alloc ho (.cells #[.string f.1, .string f.2] 26))
  have HL := Lib.hid (reads_alloc hl (.cells #[.string f.1, .string f.2] 26))
  have HS := Lib.hid hs
  have hb0 : Below w.heap.size w (w.alloc (.cells #[.string f.1, .string f.2] 26)) := (Below.refl _ _).alloc (Nat.le_refl _) _
  have hz0 : w.heap.size < (w.alloc (.cells #[.string f.1, .string f.2] 26)).heap.size := by simp
  have hx0 : PairAt (w.alloc (.cells #[.string f.1, .string f.2] 26)) ⟨w.heap.size, 0, none⟩ f := ⟨by simp, by simp⟩
  have HX := Lib.hid hx0
  have HZ := Lib.hid hz0
  clear hl ho hs hx0 hz0
  go_enter Try.func13, Try.ntmps13
  go_wp2_with fail
  generalize w.alloc (.cells #[.string f.1, .string f.2] 26) = W at *
  go_wp2_with (go_at_call 10; refine (plain_any (some ⟨B, 0, none⟩) A (l.length + 3) c l l _ (by omega) (by omega) (reads_take HO.out) HL.out).mono ?_; rw [HS.out]; rintro e w1 ⟨rfl, hb1⟩)
  go_loopw [8] (fun v wr => ∃ k : Nat, v = .int .i64 k ∧ l.length ≤ k ∧ k ≤ l.length + 3 ∧ Below W.heap.size W wr) (fun v _ => l.length + 3 - (intOf v).toNat)
  case atStart => exact ⟨l.length, rfl, by omega, by omega, hb1⟩
  case round =>
    obtain ⟨k, rfl, hk0, hk, hb⟩ := hrel
    by_cases hlt : k < l.length + 3
    · obtain ⟨hp1, hp2⟩ := HX.out.below hb HZ.out
      have hq : PairAt wr ⟨B, k * 2, none⟩ f := by
        obtain ⟨ad, e, hc⟩ := (HO.out.below hb) (by simp [fillL])
        injection e with e
        subst e
        have := hc k (by simp [fillL]; omega)
        rw [fillL_hi l f k hk0 hlt] at this
        have ea : (Addr.add ⟨B, 0, none⟩ (k * 2)) = ⟨B, k * 2, none⟩ := by unfold Addr.add; split <;> simp_all
        rw [ea] at this
        exact this
      obtain ⟨hq1, hq2⟩ := hq
      go_wp2_with fail
      go_quiet (fail)
      go_wp2_with fail
      go_roundw
      case rel => exact ⟨k + 1, by go_num, by omega, by omega, bdrewN hb _⟩
      case measure => simp [intOf]; omega
    · go_wp2_with fail
      go_ret
      exact ⟨rfl, bthen hb0 hb⟩
end Go.Proofs.Ytndleookkaoojaa
