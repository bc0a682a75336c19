/- Rows of ints of the call's own; the contract of slices.SortStableFunc where there are fewer than twenty. -/
import Derived.Test.YtodninjcmfbfdaaE
namespace Go.Proofs.Ytodninjcmfbfdaa
open Go.RowKit

def iv (l : List Int) : List Value := l.map fun x => .int .i64 x
theorem iv_one (l : List Int) : ∀ u ∈ iv l, u.oneCell' = true := by
  intro u hu
  simp only [iv, List.mem_map] at hu
  obtain ⟨x, _, rfl⟩ := hu
  rfl
theorem iv_at (l : List Int) (j : Nat) (h : j < l.length) : (iv l)[j]? = some (.int .i64 (l.getD j 0)) := by
  simp [iv, List.getD_eq_getElem?_getD, h]
theorem reads_of_i {w : World} {A : Option Addr} {l : List Int} (h : ReadsI w A l) : Reads w w.heap.size 1 A l.length (iv l) := by
  refine ⟨by simp [iv], fun hn => ?_⟩
  obtain ⟨ad, rfl, hc⟩ := h hn
  refine ⟨ad, rfl, ReadsI.lt h hn, fun j u hu => ?_⟩
  have hj : j < l.length := by have := (List.getElem?_eq_some_iff.1 hu).1; simpa [iv] using this
  rw [iv_at l j hj] at hu
  injection hu with hu
  subst hu
  exact hc j hj
theorem readsI_of {w : World} {B : Nat} {A : Option Addr} {l : List Int} (h : Reads w B 1 A l.length (iv l)) : ReadsI w A l := by
  intro hn
  obtain ⟨ad, rfl, _, hc⟩ := h.2 hn
  exact ⟨ad, rfl, fun j hj => hc j _ (iv_at l j hj)⟩
def OwnsI (w : World) (base : Nat) (v : Value) (l : List Int) : Prop := w.ownsRow base 3 1 v l.length (iv l)
theorem OwnsI.nil (w : World) (base : Nat) : OwnsI w base (.slice none 0 0) [] := ⟨rfl, .inl ⟨rfl, rfl⟩⟩
theorem OwnsI.below {w w' : World} {base : Nat} {v : Value} {l : List Int} (h : OwnsI w base v l) (hb : Below w.heap.size w w') : OwnsI w' base v l :=
  World.ownsRow.kept h ⟨hb.os, hb.tape, hb.output, hb.size, fun i hi _ => hb.block i hi⟩ (row := none) (by cases v.ownBlock <;> simp)
theorem OwnsI.slice {w : World} {base : Nat} {v : Value} {l : List Int} (h : OwnsI w base v l) : ∃ A c, v = .slice A l.length c ∧ ReadsI w A l := by
  rcases h.2 with ⟨rfl, h0⟩ | ⟨g, cap, cur, rfl, _⟩
  · exact ⟨none, 0, by rw [h0], fun hn => by omega⟩
  · exact ⟨_, cap, rfl, readsI_of (Reads.of_own h)⟩
theorem int_info : (Try.prog.info? 3).map (fun i => (i.zero, i.size, i.bytes)) = some (some (.int .i64 0), 1, 8) := by kernel_rfl
theorem app_i' {o : Oper} {a : Act} {K : Act → World → Prop} {Q : Exit → Act → World → Prop} {w0 W : World} (s x : Operand)
    (ho : o.op = .call { callee := .builtin .append, args := #[s, x], argTypes := #[22, 22] })
    (base : Nat) (v : Value) (l m : List Int) (A : Option Addr) (c : Nat) (hs : a.eval s = v) (hx : a.eval x = .slice A m.length c)
    (hown : OwnsI W base v l) (hr : ReadsI W A m) (hb : Below base w0 W) (hB : base ≤ W.heap.size) (hn : l.length + m.length ≤ 100000)
    (h : ∀ v' w', OwnsI w' base v' (l ++ m) → Below base w0 w' → base ≤ w'.heap.size → W.grownBy w' v.ownBlock → K (a.put o.dst v') w') :
    o.wp Try.prog a W K Q := by
  obtain ⟨i0, hi, hz0, hz1, hz2⟩ := info_parts int_info
  refine wp_append_any W s x 22 ho base 3 i0 _ 1 8 Try.underlying22 hi hz0 hz1 hz2 rfl (by decide) v l.length (iv l) hs hown W.heap.size A m.length c (iv m) hx (reads_of_i hr) (iv_one m) ?_ ?_ hB ?_
  · unfold maxLen; omega
  · omega
  · intro v' w' h1 h2 _
    refine h v' w' (by unfold OwnsI; rw [List.length_append, show iv (l ++ m) = iv l ++ iv m by simp [iv]]; exact h1) (hb.grown h2 hB (base_of_own hown)) (Nat.le_trans hB h2.size) h2
theorem app_i {ops : Array Oper} {rest : List Oper} {o : Oper} {a : Act} {Q : Exit → Act → World → Prop} {w0 W : World} (hgd : o.guard = none) (s x : Operand)
    (ho : o.op = .call { callee := .builtin .append, args := #[s, x], argTypes := #[22, 22] })
    (base : Nat) (v : Value) (l m : List Int) (A : Option Addr) (c : Nat) (hs : a.eval s = v) (hx : a.eval x = .slice A m.length c)
    (hown : OwnsI W base v l) (hr : ReadsI W A m) (hb : Below base w0 W) (hB : base ≤ W.heap.size) (hn : l.length + m.length ≤ 100000)
    (h : ∀ v' w', OwnsI w' base v' (l ++ m) → Below base w0 w' → base ≤ w'.heap.size → W.grownBy w' v.ownBlock → wpList Try.prog ops Q rest (a.put o.dst v') w') :
    wpList Try.prog ops Q (o :: rest) a W :=
  wpList_plain hgd fun _ hK => app_i' s x ho base v l m A c hs hx hown hr hb hB hn fun v' w' h1 h2 h3 h4 => hK _ _ (h v' w' h1 h2 h3 h4)
theorem box_i (w : World) (x : Int) : ReadsI (w.alloc (.cells #[.int .i64 x] 3)) (some ⟨w.heap.size, 0, none⟩) [x] := fun _ => by
  refine ⟨_, rfl, fun j hj => ?_⟩
  have : j = 0 := by have : j < 1 := hj; omega
  subst this
  simp [Addr.add]

/-! ### the sort -/
theorem ins_nil (B : Nat) (W : World) : Calls Try.prog 29 #[.slice none 0 0, .int .i64 0, .int .i64 0, fv B] W fun e w' => e = .returned (.tuple #[]) ∧ w' = W := by
  go_enter Try.func29, Try.ntmps29
  go_wp2
  refine wp_loop_rounds 1 ?_
  rw [rounds_succ]
  go_wp2
  go_end0
  exact ⟨rfl, rfl⟩
theorem stab_nil (B : Nat) (W : World) : Calls Try.prog 26 #[.slice none 0 0, .int .i64 0, fv B] W fun e w' => e = .returned (.tuple #[]) ∧ w' = W := by
  go_enter Try.func26, Try.ntmps26
  go_wp2
  refine wp_loop_rounds 1 ?_
  rw [rounds_succ]
  go_wp2_with (go_at_call 29; refine (ins_nil B _).mono ?_; rintro e w' ⟨rfl, rfl⟩)
  refine wp_loop_rounds 1 ?_
  rw [rounds_succ]
  go_wp2
  go_end0
  exact ⟨rfl, rfl⟩
theorem sort_nil (B : Nat) (W : World) : Calls Try.prog 21 #[.slice none 0 0, fv B] W fun e w' => e = .returned (.tuple #[]) ∧ w' = W := by
  go_enter Try.func21, Try.ntmps21
  go_wp2_with (go_at_call 26; refine (stab_nil B _).mono ?_; rintro e w' ⟨rfl, rfl⟩)
  go_end0
  exact ⟨rfl, rfl⟩

/-- What the sort of a row of n leaves. -/
def SortPost (w1 : World) (D : Nat) (ls : List (List Int)) (p : Row) (e : Ending) (w' : World) : Prop :=
  e = .returned (.tuple #[]) ∧ ∃ p', St w1 D ls.length w' p' ∧ Mv 0 ls.length p p' ∧ SortedT (ltW ls) 0 ls.length p'
set_option maxHeartbeats 1000000 in
theorem stab_lt {w1 : World} {B D : Nat} {A : Option Addr} {c : Nat} {ls : List (List Int)} (C : Ctx w1 B D A c ls) (cap : Nat) (h20 : ls.length < 20) (p : Row) (W : World) (hS : St w1 D ls.length W p)
    (hv : ∀ j, j < ls.length → p j < ls.length) (hasc : ∀ k l, k < l → l < ls.length → p k < p l) :
    Calls Try.prog 26 #[.slice (some ⟨D, 0, none⟩) ls.length cap, .int .i64 ls.length, fv B] W (SortPost w1 D ls p) := by
  have HI := Lib.hid (ins_any C cap 0 ls.length (Nat.zero_le _) (Nat.le_refl _) p W hS hv (fun k l _ h2 h3 => hasc k l h2 h3))
  have h21 : (ls.length : Int) < 20 := by omega
  have h22 : ¬ (20 : Int) ≤ (ls.length : Int) := by omega
  have h23 : ¬ (20 : Int) < (ls.length : Int) := by omega
  clear C hS hv hasc
  go_enter Try.func26, Try.ntmps26
  go_wp2
  refine wp_loop_rounds 1 ?_
  rw [rounds_succ]
  go_wp2_with (go_at_call 29; refine HI.out.mono ?_; rintro e w' ⟨rfl, hp⟩)
  refine wp_loop_rounds 1 ?_
  rw [rounds_succ]
  go_wp2
  go_end0
  exact ⟨rfl, hp⟩
theorem sort_of {w1 : World} {B D : Nat} {ls : List (List Int)} {cap : Nat} {p : Row} {W : World} (h : Calls Try.prog 26 #[.slice (some ⟨D, 0, none⟩) ls.length cap, .int .i64 ls.length, fv B] W (SortPost w1 D ls p)) :
    Calls Try.prog 21 #[.slice (some ⟨D, 0, none⟩) ls.length cap, fv B] W (SortPost w1 D ls p) := by
  have HI := Lib.hid h
  clear h
  go_enter Try.func21, Try.ntmps21
  go_wp2_with (go_at_call 26; refine HI.out.mono ?_; rintro e w' ⟨rfl, hp⟩)
  go_end0
  exact ⟨rfl, hp⟩
end Go.Proofs.Ytodninjcmfbfdaa
