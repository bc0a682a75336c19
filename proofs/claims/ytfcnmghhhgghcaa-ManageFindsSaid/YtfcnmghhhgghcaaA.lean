/- Lists of api.Excluded in memory; the contracts of slices.Clone and of newelhelp.Same and Plain over them; lists that can be read. -/
import Derived.Test.YtfcnmghhhgghcaaRows
import Derived.WalkKit
import Derived.WalkSpells
import Derived.WalkLawsBesides
import Derived.ScopeJumps
import Derived.Lib.Hide
import Derived.Deep.QuietTactic
import Derived.BigQuiet
import Derived.StillTailTactics
import Derived.Laws.OwnMore
import Derived.Deep.AppendLies
import Derived.Deep.Draws
import Derived.Maps.AppendAt
import Derived.RegionTactic
import Derived.OwnWalk
namespace Go.Proofs.Ytfcnmghhhgghcaa
open Go.RowKit

abbrev Ex := ByteArray × ByteArray
def exD : Ex := (⟨#[]⟩, ⟨#[]⟩)
def PairAt (w : World) (p : Addr) (x : Ex) : Prop := w.cell? p = some (.string x.1) ∧ w.cell? { block := p.block, off := p.off + 1 } = some (.string x.2)
def ReadsEx (w : World) (A : Option Addr) (l : List Ex) : Prop :=
  0 < l.length → ∃ ad, A = some ad ∧ ∀ j, j < l.length → PairAt w (ad.add (j * 2)) (l.getD j exD)
theorem PairAt.lt {w : World} {p : Addr} {x : Ex} (h : PairAt w p x) : p.block < w.heap.size := World.block_lt_of_cell? _ _ h.1
theorem PairAt.below {w w' : World} {p : Addr} {x : Ex} {B : Nat} (h : PairAt w p x) (hb : Below B w w') (hB : p.block < B) : PairAt w' p x :=
  ⟨(hb.cell hB).trans h.1, (hb.cell (p := { block := p.block, off := p.off + 1 }) hB).trans h.2⟩
theorem ReadsEx.below {w w' : World} {A : Option Addr} {l : List Ex} (h : ReadsEx w A l) (hb : Below w.heap.size w w') : ReadsEx w' A l := fun hn => by
  obtain ⟨ad, e, hc⟩ := h hn
  exact ⟨ad, e, fun j hj => (hc j hj).below hb (hc j hj).lt⟩
theorem bthen {w w1 w2 : World} (h : Below w.heap.size w w1) (k : Below w1.heap.size w1 w2) : Below w.heap.size w w2 := h.trans (k.mono h.size)
theorem bdrewN {B : Nat} {a w : World} (h : Below B a w) (n : Nat) : Below B a (w.drewN n) := ⟨h.os, h.tape, h.output, h.size, h.block⟩
theorem drop_at {α : Type} (l : List α) (d : α) (k : Nat) (h : k < l.length) : l.drop k = l.getD k d :: l.drop (k + 1) := by
  rw [List.drop_eq_getElem_cons h]; simp [List.getD_eq_getElem?_getD, h]

def eqB (x y : Ex) : Bool := x.1.toList == y.1.toList && x.2.toList == y.2.toList

set_option maxHeartbeats 400000 in
theorem eq1_any (x y : Ex) (w : World) : Calls Try.prog 23 #[.agg #[.string x.1, .string x.2], .agg #[.string y.1, .string y.2]] w fun e w' => e = .returned (.bool (eqB x y)) ∧ Below w.heap.size w w' := by
  have H : Hid (eqB x y = (x.1.toList == y.1.toList && x.2.toList == y.2.toList)) := Lib.hid rfl
  rcases Bool.eq_false_or_eq_true (x.1.toList == y.1.toList) with h1 | h1 <;> rcases Bool.eq_false_or_eq_true (x.2.toList == y.2.toList) with h2 | h2
  all_goals
    go_enter Try.func23, Try.ntmps23
    go_wp2
    go_ret
    exact ⟨by rw [H.out, h1, h2]; rfl, ((Below.refl _ _).alloc (Nat.le_refl _) _).alloc (by simp) _⟩

/-- Two lists alike, one by one. -/
def sameB : List Ex → List Ex → Bool
  | [], [] => true
  | x :: l, y :: m => eqB x y && sameB l m
  | _, _ => false
theorem sameB_len {l m : List Ex} (h : l.length ≠ m.length) : sameB l m = false := by
  induction l generalizing m with
  | nil => cases m <;> simp [sameB] at h ⊢
  | cons x l ih => cases m with
    | nil => rfl
    | cons y m => simp only [sameB]; rw [ih (by simpa using h), Bool.and_false]

set_option maxHeartbeats 400000 in
theorem same_any (A B : Option Addr) (c d : Nat) (l m : List Ex) (w : World) (hn : l.length ≤ 4398046511104) (_hn2 : m.length ≤ 4398046511104) (hl : ReadsEx w A l) (hm : ReadsEx w B m) :
    Calls Try.prog 22 #[.slice A l.length c, .slice B m.length d, .func (.func 23) #[] #[]] w fun e w' => e = .returned (.bool (sameB l m)) ∧ Below w.heap.size w w' := by
  have HL := Lib.hid hl
  have HM := Lib.hid hm
  clear hl hm
  by_cases hlen : l.length = m.length
  · have HN := Lib.hid hlen
    have hne : ((l.length : Int) != (m.length : Int)) = false := by simp [hlen]
    clear hlen
    go_enter Try.func22, Try.ntmps22
    go_wp2_with fail
    go_loopw [7] (fun v wr => ∃ k : Nat, v = .int .i64 k ∧ k ≤ l.length ∧ Below w.heap.size w wr ∧ Hid (sameB l m = sameB (l.drop k) (m.drop k))) (fun v _ => l.length - (intOf v).toNat)
    case atStart => exact ⟨0, rfl, by omega, Below.refl _ _, rfl⟩
    case round =>
      obtain ⟨k, rfl, hk, hb, HK⟩ := hrel
      by_cases hlt : k < l.length
      · obtain ⟨ad, rfl, hc⟩ := (HL.out.below hb) (by omega)
        obtain ⟨hc1, hc2⟩ := hc k hlt
        obtain ⟨bd, rfl, hc'⟩ := (HM.out.below hb) (by have := HN.out; omega)
        have hltm : k < m.length := by have := HN.out; omega
        obtain ⟨hc3, hc4⟩ := hc' k hltm
        have HD := Lib.hid (drop_at l exD k hlt)
        have HD2 := Lib.hid (drop_at m exD k hltm)
        clear hc hc'
        generalize l.getD k exD = x at hc1 hc2 HD
        generalize m.getD k exD = y at hc3 hc4 HD2
        have HE : Hid (sameB (l.drop k) (m.drop k) = (eqB x y && sameB (l.drop (k + 1)) (m.drop (k + 1)))) := by show _ = _; rw [HD.out, HD2.out]; rfl
        rcases Bool.eq_false_or_eq_true (eqB x y) with h1 | h1
        · go_wp2_with fail
          go_still_tail 9, (by kernel_rfl)
          change wpList _ _ _ _ _ wr.drew
          go_wp2_with (go_at_call 23; refine (eq1_any x y _).mono ?_; rintro e w' ⟨rfl, hb'⟩)
          go_roundw
          case rel => exact ⟨k + 1, by go_num, by omega, bthen (bdrewN hb 1) hb', by show _ = _; rw [HK.out, HE.out, h1]; rfl⟩
          case measure => simp [intOf]; omega
        · go_wp2_with fail
          go_still_tail 9, (by kernel_rfl)
          change wpList _ _ _ _ _ wr.drew
          go_wp2_with (go_at_call 23; refine (eq1_any x y _).mono ?_; rintro e w' ⟨rfl, hb'⟩)
          go_ret
          exact ⟨by rw [HK.out, HE.out, h1]; rfl, bthen (bdrewN hb 1) hb'⟩
      · go_wp2_with fail
        go_ret
        exact ⟨by rw [HK.out, List.drop_eq_nil_of_le (by omega), List.drop_eq_nil_of_le (by have := HN.out; omega)]; rfl, hb⟩
  · have hne : ((l.length : Int) != (m.length : Int)) = true := by simp; omega
    have H := Lib.hid (sameB_len hlen)
    clear hlen
    go_enter Try.func22, Try.ntmps22
    go_wp2_with fail
    go_ret
    exact ⟨by rw [H.out]; rfl, Below.refl _ _⟩

set_option maxHeartbeats 400000 in
theorem plain_any (A B : Option Addr) (c d : Nat) (l m : List Ex) (w : World) (hn : l.length ≤ 4398046511104) (hn2 : m.length ≤ 4398046511104) (hl : ReadsEx w A l) (hm : ReadsEx w B m) :
    Calls Try.prog 19 #[.slice A l.length c, .slice B m.length d] w fun e w' => e = .returned (.bool (sameB l m)) ∧ Below w.heap.size w w' := by
  have HL := Lib.hid hl
  have HM := Lib.hid hm
  clear hl hm
  go_enter Try.func19, Try.ntmps19
  go_wp2_with (go_at_call 22; refine (same_any A B c d l m _ hn hn2 HL.out HM.out).mono ?_; rintro e w' ⟨rfl, hb⟩)
  go_ret
  exact ⟨rfl, hb⟩
theorem reads_alloc {w : World} {A : Option Addr} {l : List Ex} (h : ReadsEx w A l) (o : Obj) : ReadsEx (w.alloc o) A l := h.below ((Below.refl _ _).alloc (Nat.le_refl _) _)
theorem block_of_add (a : Addr) (n : Nat) : (a.add n).block = a.block := by unfold Addr.add; split <;> rfl
theorem add_of_add (a : Addr) (i j : Nat) : (a.add i).add j = a.add (i + j) := by
  unfold Addr.add
  by_cases hi : i = 0 <;> by_cases hj : j = 0 <;> simp [hi, hj, Nat.add_assoc]

def Reads (w : World) (B size : Nat) (A : Option Addr) (n : Nat) (xs : List Value) : Prop :=
  xs.length = n * size ∧ (0 < n → ∃ ad, A = some ad ∧ ad.block < B ∧ ∀ j u, xs[j]? = some u → w.cell? (ad.add j) = some u)

section
variable {w w' : World} {B B' size n : Nat} {A : Option Addr} {xs : List Value}
theorem Reads.none_ : Reads w B size A 0 [] := ⟨by simp, fun h => absurd h (by omega)⟩
theorem Reads.at_ {k : Nat} (h : Reads w B 1 A n xs) (hk : k < n) : ∃ ad u, A = some ad ∧ ad.block < B ∧ xs[k]? = some u ∧ w.cell? (ad.add k) = some u := by
  obtain ⟨ad, e, hb, hc⟩ := h.2 (by omega)
  have hl : k < xs.length := by have := h.1; omega
  exact ⟨ad, xs[k], e, hb, List.getElem?_eq_getElem hl, hc k _ (List.getElem?_eq_getElem hl)⟩
theorem Reads.keep (h : Reads w B size A n xs) (hk : ∀ p : Addr, p.block < B → w'.cell? p = w.cell? p) : Reads w' B size A n xs :=
  ⟨h.1, fun hn => by
    obtain ⟨ad, e, hb, hc⟩ := h.2 hn
    exact ⟨ad, e, hb, fun j u hu => (hk _ (by rw [block_of_add]; exact hb)).trans (hc j u hu)⟩⟩
theorem Reads.more (h : Reads w B size A n xs) (hB : B ≤ B') : Reads w B' size A n xs :=
  ⟨h.1, fun hn => by
    obtain ⟨ad, e, hb, hc⟩ := h.2 hn
    exact ⟨ad, e, by omega, hc⟩⟩
theorem Reads.below (h : Reads w B size A n xs) (hb : Below B w w') : Reads w' B size A n xs := h.keep fun _ hp => hb.cell hp
theorem Reads.drew (h : Reads w B size A n xs) : Reads w.drew B size A n xs := h
theorem Reads.drewN (h : Reads w B size A n xs) (k : Nat) : Reads (w.drewN k) B size A n xs := h
theorem Reads.alloc (h : Reads w B size A n xs) (hB : B ≤ w.heap.size) (o : Obj) : Reads (w.alloc o) B size A n xs := h.keep fun p hp => World.cell?_alloc_lt w o p (by omega)
theorem Reads.setCell (h : Reads w B size A n xs) {p : Addr} (hB : B ≤ p.block) (u : Value) : Reads (w.setCell p u) B size A n xs :=
  h.keep fun q hq => World.cell?_setCell_other w p q u (fun e => by subst e; omega)
theorem Reads.grown (h : Reads w B size A n xs) {row : Option Nat} (hg : w.grownBy w' row) (hB : B ≤ w.heap.size) (hr : ∀ g, row = some g → B ≤ g) : Reads w' B size A n xs :=
  h.keep fun p hp => World.cell?_of_block (hg.block p.block (by omega) (fun e => by have := hr _ e.symm; omega))
theorem Reads.cut (h : Reads w B size A n xs) {k cap : Nat} (hk : k ≤ n) (hc : n ≤ cap) :
    Reads w B size (if cap = k then A else A.map (·.add (k * size))) (n - k) (xs.drop (k * size)) := by
  refine ⟨by rw [List.length_drop, h.1, Nat.sub_mul], fun hn => ?_⟩
  obtain ⟨ad, rfl, hb, hcell⟩ := h.2 (by omega)
  rw [if_neg (by omega)]
  refine ⟨ad.add (k * size), rfl, by rw [block_of_add]; exact hb, fun j u hu => ?_⟩
  rw [add_of_add]
  exact hcell _ u (by rw [← hu, List.getElem?_drop])
theorem Reads.of_own {base : Nat} {e : TypeId} {c : Nat} (h : w.ownsRow base e size (.slice A n c) n xs) : Reads w w.heap.size size A n xs := by
  refine ⟨h.1, fun hn => ?_⟩
  obtain ⟨g, cap, hv, _, hlt⟩ := h.form hn
  have hA : A = some ⟨g, 0, none⟩ := by injection hv
  subst hA
  exact ⟨_, rfl, hlt, h.cells (g := g) rfl⟩
end

section
variable {P : Program} (w : World)

theorem run_append_of_nil (base : Nat) (t ty e : TypeId) (i : TypeInfo) (size : Nat) (ht : P.underlying t = some (.slice e)) (hi : P.info? e = some i)
    (v : Value) (n : Nat) (xs : List Value) (hown : w.ownsRow base e size v n xs) (c : Nat) : (Builtin.append_ #[t, t] ty #[v, .slice none 0 c]).run P w = .ok v w := by
  rcases hown.2 with ⟨rfl, rfl⟩ | ⟨g, cap, cur, rfl, _, _, hnc, _⟩
  · simp [Builtin.append_, run_underlying ht, sizeOf, typeInfo, hi, Builtin.lenOf, Builtin.firstCells]
  · simp [Builtin.append_, run_underlying ht, sizeOf, typeInfo, hi, Builtin.lenOf, Builtin.firstCells, hnc, storeCells]

theorem run_append_any (base : Nat) (t ty e : TypeId) (i : TypeInfo) (z : Value) (size bytes : Nat) (ht : P.underlying t = some (.slice e)) (hi : P.info? e = some i) (hz : i.zero = some z)
    (hsize : i.size = size) (hby : i.bytes = bytes) (hzs : z.cells.size = size) (hsz : 0 < size)
    (v : Value) (n : Nat) (xs : List Value) (hown : w.ownsRow base e size v n xs)
    (B : Nat) (A : Option Addr) (m c : Nat) (news : List Value) (hr : Reads w B size A m news) (h1 : ∀ u ∈ news, u.oneCell' = true)
    (h63 : n + m ≤ maxLen) (hbytes : (n + m) * bytes ≤ 140737488355328) (hbase : base ≤ w.heap.size) :
    ∃ v' w', (Builtin.append_ #[t, t] ty #[v, .slice A m c]).run P w = .ok v' w' ∧ w'.ownsRow base e size v' (n + m) (xs ++ news) ∧ w.grownBy w' v.ownBlock ∧
      (v'.ownBlock = v.ownBlock ∨ v'.ownBlock = some w.heap.size) := by
  rcases A with _ | ad
  · have hm : m = 0 := by
      rcases Nat.eq_zero_or_pos m with h0 | h0
      · exact h0
      · obtain ⟨ad, h, _⟩ := hr.2 h0
        cases h
    subst hm
    have hn : news = [] := List.eq_nil_of_length_eq_zero (by simpa using hr.1)
    subst hn
    exact ⟨v, w, run_append_of_nil w base t ty e i size ht hi v n xs hown c, by simpa using hown, World.grownBy.refl w _, .inl rfl⟩
  · have hcells : ∀ j u, news[j]? = some u → w.cell? (ad.add j) = some u := by
      intro j u hu
      rcases Nat.eq_zero_or_pos m with h0 | h0
      · subst h0
        have hn : news = [] := List.eq_nil_of_length_eq_zero (by simpa using hr.1)
        subst hn
        simp at hu
      · obtain ⟨ad', h, _, hc⟩ := hr.2 h0
        injection h with h
        subst h
        exact hc j u hu
    obtain ⟨v', w', hrun, h2, h3, _, h5⟩ := run_append_own_at (P := P) w base t ty e i z size bytes ht hi hz hsize hby hzs hsz v n xs hown ad m c news hr.1 hcells h1 h63 hbytes hbase
    exact ⟨v', w', hrun, h2, h3, h5⟩

theorem wp_append_any {o : Oper} {a : Act} {K : Act → World → Prop} {Q : Exit → Act → World → Prop} (s x : Operand) (t : TypeId)
    (ho : o.op = .call { callee := .builtin .append, args := #[s, x], argTypes := #[t, t] })
    (base : Nat) (e : TypeId) (i : TypeInfo) (z : Value) (size bytes : Nat) (ht : P.underlying t = some (.slice e)) (hi : P.info? e = some i) (hz : i.zero = some z)
    (hsize : i.size = size) (hby : i.bytes = bytes) (hzs : z.cells.size = size) (hsz : 0 < size)
    (v : Value) (n : Nat) (xs : List Value) (hs : a.eval s = v) (hown : w.ownsRow base e size v n xs)
    (B : Nat) (A : Option Addr) (m c : Nat) (news : List Value) (hx : a.eval x = .slice A m c) (hr : Reads w B size A m news) (h1 : ∀ u ∈ news, u.oneCell' = true)
    (h63 : n + m ≤ maxLen) (hbytes : (n + m) * bytes ≤ 140737488355328) (hbase : base ≤ w.heap.size)
    (h : ∀ v' w', w'.ownsRow base e size v' (n + m) (xs ++ news) → w.grownBy w' v.ownBlock → (v'.ownBlock = v.ownBlock ∨ v'.ownBlock = some w.heap.size) → K (a.put o.dst v') w') : o.wp P a w K Q := by
  obtain ⟨v', w', hrun, h2, h3, h4⟩ := run_append_any (P := P) w base t o.type e i z size bytes ht hi hz hsize hby hzs hsz v n xs hown B A m c news hr h1 h63 hbytes hbase
  unfold Oper.wp execOp
  simp only [ho, resolve, invoke, builtin, Sem.run_bind, Sem.run_pure, Result.andThen_ok, List.map_toArray, List.map_cons, List.map_nil, hs, hx, hrun]
  exact h v' w' h2 h3 h4

theorem wpList_append_any {ops : Array Oper} {rest : List Oper} {o : Oper} {a : Act} {Q : Exit → Act → World → Prop} (hgd : o.guard = none) (s x : Operand) (t : TypeId)
    (ho : o.op = .call { callee := .builtin .append, args := #[s, x], argTypes := #[t, t] })
    (base : Nat) (e : TypeId) (i : TypeInfo) (z : Value) (size bytes : Nat) (ht : P.underlying t = some (.slice e)) (hi : P.info? e = some i) (hz : i.zero = some z)
    (hsize : i.size = size) (hby : i.bytes = bytes) (hzs : z.cells.size = size) (hsz : 0 < size)
    (v : Value) (n : Nat) (xs : List Value) (hs : a.eval s = v) (hown : w.ownsRow base e size v n xs)
    (B : Nat) (A : Option Addr) (m c : Nat) (news : List Value) (hx : a.eval x = .slice A m c) (hr : Reads w B size A m news) (h1 : ∀ u ∈ news, u.oneCell' = true)
    (h63 : n + m ≤ maxLen) (hbytes : (n + m) * bytes ≤ 140737488355328) (hbase : base ≤ w.heap.size)
    (h : ∀ v' w', w'.ownsRow base e size v' (n + m) (xs ++ news) → w.grownBy w' v.ownBlock → (v'.ownBlock = v.ownBlock ∨ v'.ownBlock = some w.heap.size) → wpList P ops Q rest (a.put o.dst v') w') : wpList P ops Q (o :: rest) a w :=
  wpList_plain hgd fun _ hK => wp_append_any w s x t ho base e i z size bytes ht hi hz hsize hby hzs hsz v n xs hs hown B A m c news hx hr h1 h63 hbytes hbase fun v' w' h2 h3 h4 => hK _ _ (h v' w' h2 h3 h4)

end

/-! ### lists of Excluded as cells -/
def cellsOf (l : List Ex) : List Value := l.flatMap fun x => [.string x.1, .string x.2]
theorem cellsOf_nil : cellsOf [] = [] := rfl
theorem cellsOf_cons (x : Ex) (l : List Ex) : cellsOf (x :: l) = .string x.1 :: .string x.2 :: cellsOf l := rfl
theorem cellsOf_app (l m : List Ex) : cellsOf (l ++ m) = cellsOf l ++ cellsOf m := by simp [cellsOf]
theorem cellsOf_len (l : List Ex) : (cellsOf l).length = l.length * 2 := by
  induction l with
  | nil => rfl
  | cons x l ih => rw [cellsOf_cons]; simp [ih]; omega
theorem cellsOf_at (l : List Ex) (j : Nat) (h : j < l.length) : (cellsOf l)[j * 2]? = some (.string (l.getD j exD).1) ∧ (cellsOf l)[j * 2 + 1]? = some (.string (l.getD j exD).2) := by
  induction l generalizing j with
  | nil => simp at h
  | cons x l ih =>
    rw [cellsOf_cons]
    cases j with
    | zero => exact ⟨rfl, rfl⟩
    | succ j =>
      have := ih j (by simpa using h)
      have e : (j + 1) * 2 = j * 2 + 2 := by omega
      rw [e]
      exact this
theorem cellsOf_one (l : List Ex) : ∀ u ∈ cellsOf l, u.oneCell' = true := by
  intro u hu
  simp only [cellsOf, List.mem_flatMap] at hu
  obtain ⟨x, _, hx⟩ := hu
  simp at hx
  rcases hx with rfl | rfl <;> rfl
theorem readsEx_of {w : World} {B : Nat} {A : Option Addr} {l : List Ex} (h : Reads w B 2 A l.length (cellsOf l)) : ReadsEx w A l := by
  intro hn
  obtain ⟨ad, rfl, _, hc⟩ := h.2 hn
  refine ⟨ad, rfl, fun j hj => ?_⟩
  obtain ⟨h1, h2⟩ := cellsOf_at l j hj
  refine ⟨hc _ _ h1, ?_⟩
  have := hc _ _ h2
  rw [← add_of_add, Addr.add_succ'] at this
  exact this
theorem reads_of {w : World} {A : Option Addr} {l : List Ex} (h : ReadsEx w A l) : Reads w w.heap.size 2 A l.length (cellsOf l) := by
  refine ⟨cellsOf_len l, fun hn => ?_⟩
  obtain ⟨ad, rfl, hc⟩ := h hn
  refine ⟨ad, rfl, by have := (hc 0 hn).lt; rw [block_of_add] at this; exact this, fun j u hu => ?_⟩
  have hj : j < l.length * 2 := by have := (List.getElem?_eq_some_iff.1 hu).1; rw [cellsOf_len] at this; exact this
  obtain ⟨i, rfl | rfl⟩ : ∃ i, j = i * 2 ∨ j = i * 2 + 1 := ⟨j / 2, by omega⟩
  · have h1 := (cellsOf_at l i (by omega)).1
    rw [h1] at hu; injection hu with hu; subst hu
    exact (hc i (by omega)).1
  · have h1 := (cellsOf_at l i (by omega)).2
    rw [h1] at hu; injection hu with hu; subst hu
    have := (hc i (by omega)).2
    rw [← add_of_add, Addr.add_succ']
    exact this
def OwnsEx (w : World) (base : Nat) (v : Value) (l : List Ex) : Prop := w.ownsRow base 37 2 v l.length (cellsOf l)
theorem OwnsEx.slice {w : World} {base : Nat} {v : Value} {l : List Ex} (h : OwnsEx w base v l) : ∃ A c, v = .slice A l.length c ∧ ReadsEx w A l := by
  rcases h.2 with ⟨rfl, h0⟩ | ⟨g, cap, cur, rfl, _⟩
  · exact ⟨none, 0, by rw [h0], fun hn => by omega⟩
  · exact ⟨_, cap, rfl, readsEx_of (Reads.of_own h)⟩
theorem ex_info : (Try.prog.info? 37).map (fun i => (i.zero, i.size, i.bytes)) = some (some (.agg #[.string ByteArray.empty, .string ByteArray.empty]), 2, 32) := by kernel_rfl
theorem base_of_own {w : World} {base : Nat} {e : TypeId} {size n : Nat} {v : Value} {xs : List Value} (h : w.ownsRow base e size v n xs) (k : Nat) (hk : v.ownBlock = some k) : base ≤ k := by
  rcases h.2 with ⟨rfl, _⟩ | ⟨g, cap, cur, rfl, hb, _⟩
  · simp [Value.ownBlock] at hk
  · have : g = k := by simpa [Value.ownBlock] using hk
    omega

/-- append(out, xs...): onto a row of the call's own. -/
theorem app_ex {ops : Array Oper} {rest : List Oper} {o : Oper} {a : Act} {Q : Exit → Act → World → Prop} {w0 W : World} (hgd : o.guard = none) (s x : Operand)
    (ho : o.op = .call { callee := .builtin .append, args := #[s, x], argTypes := #[22, 22] })
    (base : Nat) (v : Value) (l m : List Ex) (A : Option Addr) (c : Nat) (hs : a.eval s = v) (hx : a.eval x = .slice A m.length c)
    (hown : OwnsEx W base v l) (hr : ReadsEx W A m) (hb : Below base w0 W) (hB : base ≤ W.heap.size) (hn : l.length + m.length ≤ 4398046511104)
    (h : ∀ v' w', OwnsEx w' base v' (l ++ m) → Below base w0 w' → base ≤ w'.heap.size → W.grownBy w' v.ownBlock → wpList Try.prog ops Q rest (a.put o.dst v') w') :
    wpList Try.prog ops Q (o :: rest) a W := by
  obtain ⟨i0, hi, hz0, hz1, hz2⟩ := info_parts ex_info
  refine wpList_append_any W hgd s x 22 ho base 37 i0 _ 2 32 Try.underlying22 hi hz0 hz1 hz2 rfl (by decide) v l.length (cellsOf l) hs hown W.heap.size A m.length c (cellsOf m) hx (reads_of hr) (cellsOf_one m) ?_ ?_ hB ?_
  · unfold maxLen; omega
  · omega
  · intro v' w' h1 h2 _
    refine h v' w' (by unfold OwnsEx; rw [List.length_append, cellsOf_app]; exact h1) (hb.grown h2 hB (base_of_own hown)) (Nat.le_trans hB h2.size) h2

set_option maxHeartbeats 400000 in
theorem clone_any (A : Option Addr) (c : Nat) (l : List Ex) (w : World) (hn : l.length ≤ 4398046511104) (hl : ReadsEx w A l) :
    Calls Try.prog 16 #[.slice A l.length c] w fun e w' => ∃ v, e = .returned v ∧ OwnsEx w' w.heap.size v l ∧ Below w.heap.size w w' := by
  have HL := Lib.hid hl
  have he := fun W => Lib.run_eql_slice_nil (P := Try.prog) W 22 37 A l.length c 0 0 Try.underlying22
  clear hl
  cases A with
  | none =>
    have h0 : l = [] := by
      cases l with
      | nil => rfl
      | cons x t => obtain ⟨ad, h, _⟩ := HL.out (by simp); cases h
    have H0 := Lib.hid h0
    clear h0
    go_enter Try.func16, Try.ntmps16
    go_wp2_with fail
    go_ret
    exact ⟨_, rfl, by rw [H0.out]; exact ⟨rfl, .inl ⟨rfl, rfl⟩⟩, Below.refl _ _⟩
  | some ad =>
    have HO : Hid (OwnsEx (w.alloc (.cells #[] 37)) w.heap.size (.slice (some ⟨w.heap.size, 0, none⟩) 0 0) []) := Lib.hid (World.ownsRow_lit w #[] 0 (Nat.le_refl _) (by decide) rfl)
    go_enter Try.func16, Try.ntmps16
    go_wp2_with (at_builtin; refine app_ex rfl (.tmp 5) (.tmp 6) rfl w.heap.size _ [] l (some ad) c rfl rfl HO.out (reads_alloc HL.out _) ((Below.refl _ _).alloc (Nat.le_refl _) _) (by simp) (by simp; omega) ?_; intro v' w' ho hb hB hg)
    go_ret
    exact ⟨_, rfl, ho, hb⟩
theorem OwnsEx.below {w w' : World} {base : Nat} {v : Value} {l : List Ex} (h : OwnsEx w base v l) (hb : Below w.heap.size w w') : OwnsEx w' base v l :=
  World.ownsRow.kept h ⟨hb.os, hb.tape, hb.output, hb.size, fun i hi _ => hb.block i hi⟩ (row := none) (by cases v.ownBlock <;> simp)
theorem OwnsEx.alloc {w : World} {base : Nat} {v : Value} {l : List Ex} (h : OwnsEx w base v l) (o : Obj) : OwnsEx (w.alloc o) base v l := h.below ((Below.refl _ _).alloc (Nat.le_refl _) _)
theorem balloc {w W : World} (h : Below w.heap.size w W) (o : Obj) : Below w.heap.size w (W.alloc o) := h.alloc h.size o
theorem sameB_self : ∀ l : List Ex, sameB l l = true
  | [] => rfl
  | x :: t => by simp only [sameB, sameB_self t, eqB]; simp
theorem reads_nil (w : World) : ReadsEx w none [] := fun h => by simp at h

end Go.Proofs.Ytfcnmghhhgghcaa
