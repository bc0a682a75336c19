/- The contracts of chars.Lower and of the reference's Lower; for every string of at most 1000000 bytes. -/
import Derived.Test.YtglffonjhodmdaaC
import Derived.Laws.IdiomStrings
namespace Go.Proofs.Ytglffonjhodmdaa
open Go.RowKit

def loU (c : UInt8) : UInt8 := if 65 ≤ c.toNat ∧ c.toNat ≤ 90 then c + 32 else c
def lowL (l : List UInt8) : List UInt8 := l.map loU
def loAt (l : List UInt8) (k j : Nat) : UInt8 := if j < k then loU (l.getD j 0) else l.getD j 0
def RowB (wr : World) (B : Nat) (l : List UInt8) (k : Nat) : Prop :=
  B < wr.heap.size ∧ ∀ j, j < l.length → wr.cell? ⟨B, j, none⟩ = some (.int .u8 ((loAt l k j).toNat : Int)) ∧ wr.frozen? ⟨B, j, none⟩ = false

theorem loU_yes {c : UInt8} (h : 65 ≤ c.toNat ∧ c.toNat ≤ 90) : ((loU c).toNat : Int) = (c.toNat : Int) - 65 + 97 := by
  unfold loU
  rw [if_pos h, UInt8.toNat_add]
  have : (32 : UInt8).toNat = 32 := rfl
  omega
theorem loU_yes2 {c : UInt8} (h : 65 ≤ c.toNat ∧ c.toNat ≤ 90) : ((loU c).toNat : Int) = (c.toNat : Int) + 32 := by
  rw [loU_yes h]; omega
theorem loU_no {c : UInt8} (h : ¬ (65 ≤ c.toNat ∧ c.toNat ≤ 90)) : loU c = c := by
  unfold loU
  rw [if_neg h]

theorem bytesRow_size (s : ByteArray) (cap : Nat) : s.size ≤ (bytesRow s cap).size := by
  simp only [bytesRow, Array.size_append, Array.size_map]
  exact Nat.le_add_right _ _
theorem RowB.new (w : World) (s : ByteArray) (cap : Nat) (fr : Nat × Nat) (hf : s.size ≤ fr.1) : RowB (w.alloc (.cells (bytesRow s cap) 5 fr)).drew w.heap.size (LL s) 0 := by
  refine ⟨by simp [World.drew], fun j hj => ⟨?_, ?_⟩⟩
  · have hj' : j < s.size := by rw [LL_len] at hj; exact hj
    have e : (w.alloc (.cells (bytesRow s cap) 5 fr)).drew.cell? ⟨w.heap.size, j, none⟩ = (w.alloc (.cells (bytesRow s cap) 5 fr)).cell? ⟨w.heap.size, j, none⟩ := rfl
    rw [e, World.cell?_alloc_mark]
    simp [bytesRow, loAt, LL, hj', Array.getElem?_append, List.getD_eq_getElem?_getD]
  · have hj' : j < s.size := by rw [LL_len] at hj; exact hj
    have hb : (w.alloc (.cells (bytesRow s cap) 5 fr)).drew.heap[w.heap.size]? = some (.cells (bytesRow s cap) 5 fr) := by
      show (w.heap.push _)[w.heap.size]? = _
      simp
    obtain ⟨lo, hi⟩ := fr
    unfold World.frozen?
    rw [show ((⟨w.heap.size, j, none⟩ : Addr).block) = w.heap.size from rfl, hb]
    simp only [Bool.and_eq_false_iff, decide_eq_false_iff_not]
    exact .inl (by simp at hf ⊢; omega)
theorem RowB.skip {wr : World} {B : Nat} {l : List UInt8} {k : Nat} (h : RowB wr B l k) (hk : k < l.length) (hc : loU (l.getD k 0) = l.getD k 0) : RowB wr B l (k + 1) := by
  refine ⟨h.1, fun j hj => ⟨?_, (h.2 j hj).2⟩⟩
  rw [(h.2 j hj).1]
  unfold loAt
  by_cases hjk : j = k
  · subst hjk; rw [if_neg (by omega), if_pos (by omega), hc]
  · by_cases hlt : j < k
    · rw [if_pos hlt, if_pos (by omega)]
    · rw [if_neg hlt, if_neg (by omega)]
theorem RowB.put {wr : World} {B : Nat} {l : List UInt8} {k : Nat} (h : RowB wr B l k) (hk : k < l.length) (x : Int) (hx : x = ((loU (l.getD k 0)).toNat : Int)) : RowB (wr.setCell ⟨B, k, none⟩ (.int .u8 x)) B l (k + 1) := by
  refine ⟨by simpa [World.setCell] using h.1, fun j hj => ⟨?_, by rw [World.frozen?_setCell]; exact (h.2 j hj).2⟩⟩
  by_cases hjk : j = k
  · subst hjk
    rw [World.cell?_setCell_same _ _ _ (h.2 j hj).1, hx]
    unfold loAt
    rw [if_pos (by omega)]
  · rw [World.cell?_setCell_other _ _ _ _ (by intro e; injection e with _ e2; omega), (h.2 j hj).1]
    unfold loAt
    by_cases hlt : j < k
    · rw [if_pos hlt, if_pos (by omega)]
    · rw [if_neg hlt, if_neg (by omega)]

set_option maxHeartbeats 400000 in
theorem lower_any (s : ByteArray) (hs : s.size ≤ 1000000) (w : World) : Calls Try.prog 12 #[.string s] w fun e w' => e = .returned (.string (ofL (lowL (LL s)))) ∧ Below w.heap.size w w' := by
  have kc := fun W => run_bytes_of_string (P := Try.prog) W 9 26 5 s Try.underlying9 Try.underlying26 Try.underlying5
  have hl : (LL s).length = s.size := LL_len s
  have HL := Lib.hid hl
  clear hl
  go_enter Try.func12, Try.ntmps12
  go_wp2
  have hrow := RowB.new w s (grownCap w s.size 0 5) ((bytesRow s (grownCap w s.size 0 5)).size, (bytesRow s (grownCap w s.size 0 5)).size + 1) (bytesRow_size _ _)
  have hbel : Below w.heap.size w (w.alloc (Obj.cells (bytesRow s (grownCap w s.size 0 5)) 5 ((bytesRow s (grownCap w s.size 0 5)).size, (bytesRow s (grownCap w s.size 0 5)).size + 1))).drew := ((Below.refl _ _).alloc (Nat.le_refl _) _).drew
  generalize (w.alloc (Obj.cells (bytesRow s (grownCap w s.size 0 5)) 5 ((bytesRow s (grownCap w s.size 0 5)).size, (bytesRow s (grownCap w s.size 0 5)).size + 1))).drew = W1 at *
  have HR := Lib.hid hrow
  clear hrow kc
  go_loopw [10] (fun v wr => ∃ k : Nat, v = .int .i64 k ∧ k ≤ s.size ∧ Below w.heap.size w wr ∧ Hid (RowB wr w.heap.size (LL s) k)) (fun v _ => s.size - (intOf v).toNat)
  case atStart => exact ⟨0, rfl, by omega, hbel, HR⟩
  case round =>
    obtain ⟨k, rfl, hk, hb, HK⟩ := hrel
    clear hbel HR
    by_cases hlt : k < s.size
    · have hcell : wr.cell? ⟨w.heap.size, k, none⟩ = some (.int .u8 (((LL s).getD k 0).toNat : Int)) := by
        rw [(HK.out.2 k (by rw [HL.out]; exact hlt)).1]; unfold loAt; rw [if_neg (by omega)]
      have hfr := (HK.out.2 k (by rw [HL.out]; exact hlt)).2
      have hz : ((((LL s).getD k 0).toNat : Nat) : Int) ≤ 255 := by have := ((LL s).getD k 0).toNat_lt; omega
      generalize hcc : (LL s).getD k 0 = c at hcell hz
      have HC := Lib.hid hcc
      clear hcc
      by_cases h1 : 65 ≤ c.toNat <;> by_cases h2 : c.toNat ≤ 90
      · have HV := Lib.hid (loU_yes ⟨h1, h2⟩)
        go_wp2
        go_roundw
        case rel => exact ⟨k + 1, by go_num, by omega, hb.setCell (Nat.le_refl _) _, HK.out.put (by rw [HL.out]; exact hlt) _ (by rw [HC.out, HV.out])⟩
        case measure => simp [intOf]; omega
      · have HV := Lib.hid (loU_no (c := c) (by omega))
        go_wp2
        go_roundw
        case rel => exact ⟨k + 1, by go_num, by omega, hb, HK.out.skip (by rw [HL.out]; exact hlt) (by rw [HC.out, HV.out])⟩
        case measure => simp [intOf]; omega
      · have HV := Lib.hid (loU_no (c := c) (by omega))
        go_wp2
        go_roundw
        case rel => exact ⟨k + 1, by go_num, by omega, hb, HK.out.skip (by rw [HL.out]; exact hlt) (by rw [HC.out, HV.out])⟩
        case measure => simp [intOf]; omega
      · omega
    · have ek : k = s.size := by omega
      have hlen : (lowL (LL s)).length = s.size := by simp [lowL, HL.out]
      have kb := fun cap => run_convert_bytes_back (P := Try.prog) wr 26 9 5 ⟨w.heap.size, 0, none⟩ cap (lowL (LL s)) Try.underlying26 Try.underlying5 Try.underlying9 (by
        intro j hj
        have hj' : j < (LL s).length := by rw [HL.out, ← hlen]; exact hj
        have e : (Addr.add ⟨w.heap.size, 0, none⟩ j) = ⟨w.heap.size, j, none⟩ := by unfold Addr.add; split <;> simp_all
        rw [e, (HK.out.2 j hj').1]
        unfold loAt
        rw [if_pos (by rw [ek, ← HL.out]; exact hj')]
        simp [lowL, List.getD_eq_getElem?_getD, hj'])
      rw [hlen] at kb
      clear ek hlen
      go_wp2
      go_ret
      exact ⟨rfl, hb⟩

/-- A byte appended to a row of the call's own. -/
theorem conv_own {P : Program} {w : World} {base n : Nat} {src dst e : TypeId} {v : Value} (l : List UInt8) (hs : P.underlying src = some (.slice e)) (he : P.underlying e = some (.int .u8)) (hd : P.underlying dst = some .string)
    (h : w.ownsRow base e 1 v n (l.map fun c => Value.int .u8 (c.toNat : Int))) : (convert src dst v).run P w = .ok (.string ⟨l.toArray⟩) w := by
  have hl : l.length = n := by have := h.1; simpa using this
  rcases h.2 with ⟨rfl, rfl⟩ | ⟨g, cap, cur, rfl, _⟩
  · have : l = [] := List.eq_nil_of_length_eq_zero hl
    subst this
    exact run_convert_bytes_nil w src e hs he 0 0 dst hd
  · subst hl
    refine run_convert_bytes_back w src dst e _ cap l hs he hd (fun j hj => ?_)
    exact h.cells (g := g) rfl j _ (by simp [hj])

theorem byte_info : (Try.prog.info? 5).map (fun i => (i.zero, i.size, i.bytes)) = some (some (.int .u8 0), 1, 1) := by kernel_rfl
theorem base_of_own {w : World} {base : Nat} {e : TypeId} {size n : Nat} {v : Value} {xs : List Value} (h : w.ownsRow base e size v n xs) (k : Nat) (hk : v.ownBlock = some k) : base ≤ k := by
  rcases h.2 with ⟨rfl, _⟩ | ⟨g, cap, cur, rfl, hb, _⟩
  · simp [Value.ownBlock] at hk
  · have : g = k := by simpa [Value.ownBlock] using hk
    omega
theorem app_byte {ops : Array Oper} {rest : List Oper} {o : Oper} {a : Act} {Q : Exit → Act → World → Prop} {w0 W : World} (hgd : o.guard = none) (s x : Operand)
    (ho : o.op = .call { callee := .builtin .append, args := #[s, x], argTypes := #[26, 26] })
    (base : Nat) (v : Value) (n : Nat) (xs : List Value) (c : Int) (hs : a.eval s = v) (hx : a.eval x = .slice (some ⟨W.heap.size, 0, none⟩) 1 1)
    (hown : W.ownsRow base 5 1 v n xs) (hb : Below base w0 W) (hB : base ≤ W.heap.size) (hn : n ≤ 2000000)
    (h : ∀ v' w', w'.ownsRow base 5 1 v' (n + 1) (xs ++ [.int .u8 c]) → Below base w0 w' → base ≤ w'.heap.size → wpList Try.prog ops Q rest (a.put o.dst v') w') :
    wpList Try.prog ops Q (o :: rest) a (W.alloc (.cells #[.int .u8 c] 5)) := by
  obtain ⟨i0, hi, hz0, hz1, hz2⟩ := info_parts byte_info
  refine wpList_append_own _ hgd s x 26 ho base 5 i0 (.int .u8 0) 1 1 Try.underlying26 hi hz0 hz1 hz2 rfl (by decide) v n xs hs (hown.alloc _) ⟨W.heap.size, 0, none⟩ 1 1 [.int .u8 c] hx rfl ?_ ?_ ?_ ?_ ?_ ?_
  · intro j u hj
    have hj0 : j = 0 := by
      rcases j with _ | j
      · rfl
      · simp at hj
    subst hj0
    simp at hj
    subst hj
    simp [Addr.add]
  · simp [Value.oneCell']
  · unfold maxLen; omega
  · omega
  · simp; omega
  · intro v' w' h1 h2 _
    have hb' : Below base w0 w' := (hb.alloc hB _).grown h2 (by simp; omega) (base_of_own hown)
    refine h v' w' h1 hb' ?_
    have := h2.size
    simp at this
    omega

set_option maxHeartbeats 400000 in
theorem rlower_any (s : ByteArray) (hs : s.size ≤ 1000000) (w : World) : Calls Try.prog 20 #[.string s] w fun e w' => e = .returned (.string (ofL (lowL (LL s)))) ∧ Below w.heap.size w w' := by
  have HL := Lib.hid (LL_len s)
  go_enter Try.func20, Try.ntmps20
  go_wp2
  go_loopw [3, 4] (fun o v wr => ∃ k : Nat, v = .int .i64 k ∧ k ≤ s.size ∧ Below w.heap.size w wr ∧ Hid (wr.ownsRow w.heap.size 5 1 o k (((LL s).take k).map fun c => Value.int .u8 ((loU c).toNat : Int)))) (fun _ v _ => s.size - (intOf v).toNat)
  case atStart => exact ⟨0, rfl, by omega, Below.refl _ _, Lib.hid ⟨by simp, .inl ⟨rfl, rfl⟩⟩⟩
  case round =>
    obtain ⟨k, rfl, hk, hb, HK⟩ := hrel
    by_cases hlt : k < s.size
    · have hz : ((s[k].toNat : Nat) : Int) ≤ 255 := by have := s[k].toNat_lt; omega
      have HT := Lib.hid (take_snoc_at hlt)
      by_cases h1 : 65 ≤ s[k].toNat <;> by_cases h2 : s[k].toNat ≤ 90
      · have HV := Lib.hid (loU_yes2 ⟨h1, h2⟩)
        go_wp2_with (at_builtin; refine app_byte rfl (.tmp 23) (.tmp 25) rfl w.heap.size u3 k _ _ rfl rfl HK.out hb hb.size (by omega) ?_; intro o' w' ho' hb' hB')
        go_roundw
        case rel => exact ⟨k + 1, by go_num, by omega, hb', by show World.ownsRow _ _ _ _ _ _ _; rw [HT.out]; simpa [HV.out] using ho'⟩
        case measure => simp [intOf]; omega
      · have HV := Lib.hid (loU_no (c := s[k]) (by omega))
        go_wp2_with (at_builtin; refine app_byte rfl (.tmp 23) (.tmp 25) rfl w.heap.size u3 k _ _ rfl rfl HK.out hb hb.size (by omega) ?_; intro o' w' ho' hb' hB')
        go_roundw
        case rel => exact ⟨k + 1, by go_num, by omega, hb', by show World.ownsRow _ _ _ _ _ _ _; rw [HT.out]; simpa [HV.out] using ho'⟩
        case measure => simp [intOf]; omega
      · have HV := Lib.hid (loU_no (c := s[k]) (by omega))
        go_wp2_with (at_builtin; refine app_byte rfl (.tmp 23) (.tmp 25) rfl w.heap.size u3 k _ _ rfl rfl HK.out hb hb.size (by omega) ?_; intro o' w' ho' hb' hB')
        go_roundw
        case rel => exact ⟨k + 1, by go_num, by omega, hb', by show World.ownsRow _ _ _ _ _ _ _; rw [HT.out]; simpa [HV.out] using ho'⟩
        case measure => simp [intOf]; omega
      · omega
    · have kb := conv_own (P := Try.prog) (src := 26) (dst := 9) (e := 5) (lowL (LL s)) Try.underlying26 Try.underlying5 Try.underlying9 (by
        have h := HK.out
        rw [List.take_of_length_le (by rw [HL.out]; omega)] at h
        rw [lowL, List.map_map]
        exact h)
      go_wp2
      go_ret
      exact ⟨rfl, hb⟩
end Go.Proofs.Ytglffonjhodmdaa
