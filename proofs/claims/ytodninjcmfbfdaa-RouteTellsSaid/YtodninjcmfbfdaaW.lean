/- The contract of the reference's Order. -/
import Derived.Test.YtodninjcmfbfdaaG
import Derived.Test.YtodninjcmfbfdaaN
import Derived.Deep.CutBlock
import Derived.Deep.DeepCutAuto
import Derived.Deep.RegionHeld3
namespace Go.Proofs.Ytodninjcmfbfdaa
open Go.RowKit

/-- The first i ways in order. -/
structure RefO (ls : List (List Int)) (i : Nat) (out : List Nat) : Prop where
  len : out.length = i
  lt : ∀ x ∈ out, x < i
  all : ∀ x, x < i → x ∈ out
  srt : out.Pairwise (TT (ltW ls))
def iL (out : List Nat) : List Int := out.map (fun x : Nat => (x : Int))
theorem iL_len (out : List Nat) : (iL out).length = out.length := by simp [iL]
theorem iL_at (out : List Nat) (j : Nat) (h : j < out.length) : (iL out).getD j 0 = ((out.getD j 0 : Nat) : Int) := by
  simp [iL, List.getD_eq_getElem?_getD, h]
def ins (out : List Nat) (i k : Nat) : List Nat := (out.take k ++ [i]) ++ out.drop k
theorem iL_ins (out : List Nat) (i k : Nat) : iL (ins out i k) = (([] ++ (iL out).take k) ++ [(i : Int)]) ++ (iL out).drop k := by
  simp [iL, ins]
theorem RefO.nil (ls : List (List Int)) : RefO ls 0 [] := ⟨rfl, fun x h => (by cases h), fun x h => (by omega), List.Pairwise.nil⟩
theorem RefO.step {ls : List (List Int)} {i k : Nat} {out : List Nat} (h : RefO ls i out) (hk : k ≤ i) (h1 : ∀ j, k ≤ j → j < i → ltW ls i (out.getD j 0) = true) (h2 : k = 0 ∨ ltW ls i (out.getD (k - 1) 0) = false) : RefO ls (i + 1) (ins out i k) := by
  have hmem : ∀ j, (hj : j < out.length) → out.getD j 0 = out[j] := fun j hj => by simp [List.getD_eq_getElem?_getD, hj]
  have hlo : ∀ a ∈ out.take k, TT (ltW ls) a i := fun a ha => by
    obtain ⟨j, hj, rfl⟩ := List.getElem_of_mem ha
    have hjk : j < k := by have := hj; rw [List.length_take] at this; omega
    have hjo : j < out.length := by rw [h.len]; omega
    have hko : k - 1 < out.length := by rw [h.len]; omega
    rw [List.getElem_take]
    have hb : ltW ls i out[k - 1] = false := by
      rcases h2 with h2 | h2
      · omega
      · rwa [hmem _ hko] at h2
    have hbi : TT (ltW ls) out[k - 1] i := Or.inr ⟨hb, h.lt _ (List.getElem_mem hko)⟩
    by_cases e : j = k - 1
    · subst e; exact hbi
    · exact TT.trans (weak_ways ls) (List.pairwise_iff_getElem.1 h.srt j (k - 1) hjo hko (by omega)) hbi
  have hhi : ∀ b ∈ out.drop k, TT (ltW ls) i b := fun b hb => by
    obtain ⟨j, hj, rfl⟩ := List.getElem_of_mem hb
    have hjo : k + j < out.length := by have := hj; rw [List.length_drop] at this; omega
    rw [List.getElem_drop]
    have := h1 (k + j) (by omega) (by rw [h.len] at hjo; omega)
    rw [hmem _ hjo] at this
    exact Or.inl this
  refine ⟨?_, ?_, ?_, ?_⟩
  · have := h.len
    simp only [ins, List.length_append, List.length_take, List.length_drop, List.length_singleton]
    omega
  · intro x hx
    simp only [ins, List.mem_append, List.mem_singleton] at hx
    rcases hx with (hx | hx) | hx
    · have := h.lt x (List.mem_of_mem_take hx); omega
    · omega
    · have := h.lt x (List.mem_of_mem_drop hx); omega
  · intro x hx
    simp only [ins, List.mem_append, List.mem_singleton]
    by_cases e : x = i
    · exact Or.inl (Or.inr e)
    · have := h.all x (by omega)
      rw [← List.take_append_drop k out, List.mem_append] at this
      rcases this with g | g
      · exact Or.inl (Or.inl g)
      · exact Or.inr g
  · rw [ins, List.pairwise_append]
    refine ⟨?_, h.srt.sublist (List.drop_sublist _ _), ?_⟩
    · rw [List.pairwise_append]
      refine ⟨h.srt.sublist (List.take_sublist _ _), List.pairwise_singleton _ _, fun a ha b hb => ?_⟩
      simp only [List.mem_singleton] at hb
      subst hb
      exact hlo a ha
    · intro a ha b hb
      rw [List.mem_append, List.mem_singleton] at ha
      rcases ha with ha | rfl
      · exact TT.trans (weak_ways ls) (hlo a ha) (hhi b hb)
      · exact hhi b hb
theorem RefO.row {ls : List (List Int)} {out : List Nat} {o : Row} (h : RefO ls ls.length out) (ho : Mv 0 ls.length id o) (so : SortedT (ltW ls) 0 ls.length o) : iL out = ordL ls.length o := by
  have hmem : ∀ j, (hj : j < out.length) → out.getD j 0 = out[j] := fun j hj => by simp [List.getD_eq_getElem?_getD, hj]
  have key := same_row (weak_ways ls) (p := fun j => out.getD j 0) (o := o) (n := ls.length) (fun k l _ h2 h3 => by
    show TT (ltW ls) (out.getD k 0) (out.getD l 0)
    rw [hmem k (by rw [h.len]; omega), hmem l (by rw [h.len]; omega)]
    exact List.pairwise_iff_getElem.1 h.srt k l _ _ h2) so
    (fun k hk => by
      have hko : k < out.length := by rw [h.len]; exact hk
      obtain ⟨m, _, h1, h2⟩ := ho.to (out.getD k 0) (Nat.zero_le _) (by rw [hmem k hko]; exact h.lt _ (List.getElem_mem hko))
      exact ⟨m, h1, h2⟩)
    (fun k hk => by
      have hv : o k < ls.length := ho.val (Nat.le_refl _) (fun _ h => h) k hk
      obtain ⟨m, hm, e⟩ := List.getElem_of_mem (h.all _ hv)
      exact ⟨m, by rw [h.len] at hm; exact hm, by show out.getD m 0 = _; rw [hmem m hm, e]⟩)
  refine List.ext_getElem (by rw [iL_len, ordL_len, h.len]) fun j h1 h2 => ?_
  have hj : j < ls.length := by rw [ordL_len] at h2; exact h2
  have e1 := iL_at out j (by rw [h.len]; exact hj)
  have e2 := ordL_at ls.length o j hj
  have e3 : (iL out).getD j 0 = (iL out)[j] := by simp [List.getD_eq_getElem?_getD, h1]
  have e4 : (ordL ls.length o).getD j 0 = (ordL ls.length o)[j] := by simp [List.getD_eq_getElem?_getD, h2]
  rw [← e3, ← e4, e1, e2]
  have := key j hj
  show ((out.getD j 0 : Nat) : Int) = _
  rw [show out.getD j 0 = o j from this]

def ROrdPost (ls : List (List Int)) (w : World) (e : Ending) (w' : World) : Prop :=
  ∃ (A : Option Addr) (k : Nat) (out : List Nat), e = .returned (.slice A ls.length k) ∧ RefO ls ls.length out ∧ ReadsI w' A (iL out) ∧ Below w.heap.size w w'
theorem reads_takeI {w : World} {A : Option Addr} {l : List Int} (h : ReadsI w A l) (k : Nat) (hk : k ≤ l.length) : ReadsI w A (l.take k) := by
  intro hn
  rw [List.length_take] at hn
  obtain ⟨ad, e, hc⟩ := h (by omega)
  refine ⟨ad, e, fun j hj => ?_⟩
  rw [List.length_take] at hj
  have := hc j (by omega)
  have e2 : (l.take k).getD j 0 = l.getD j 0 := by
    simp only [List.getD_eq_getElem?_getD]
    rw [List.getElem?_take_of_lt (by omega)]
  rw [e2]; exact this
theorem reads_dropI {w : World} {A : Option Addr} {l : List Int} (h : ReadsI w A l) (k c : Nat) (hk : k ≤ l.length) (hc : l.length ≤ c) : ReadsI w (if c = k then A else A.map (·.add k)) (l.drop k) := by
  intro hn
  rw [List.length_drop] at hn
  obtain ⟨ad, rfl, hcell⟩ := h (by omega)
  rw [if_neg (by omega)]
  refine ⟨ad.add k, rfl, fun j hj => ?_⟩
  rw [List.length_drop] at hj
  rw [add_of_add]
  have := hcell (k + j) (by omega)
  have e2 : (l.drop k).getD j 0 = l.getD (k + j) 0 := by
    simp only [List.getD_eq_getElem?_getD]
    rw [List.getElem?_drop]
  rw [e2]; exact this

theorem sl_lo (A : Option Addr) (k c : Nat) : sliced A 0 k c 1 = .slice A k c := by
  unfold sliced
  by_cases h : c = 0
  · rw [if_pos h]; rfl
  · rw [if_neg h]; cases A <;> simp [Addr.add]
theorem sl_hi (A : Option Addr) (i k c : Nat) : sliced A k i c 1 = .slice (if c = k then A else A.map (·.add k)) (i - k) (c - k) := by
  unfold sliced
  rw [Nat.mul_one]
theorem OwnsI.slice' {w : World} {base : Nat} {v : Value} {l : List Int} (h : OwnsI w base v l) : ∃ A c, v = .slice A l.length c ∧ l.length ≤ c ∧ ReadsI w A l := by
  rcases h.2 with ⟨rfl, h0⟩ | ⟨g, cap, cur, rfl, _, _, hc, _⟩
  · exact ⟨none, 0, by rw [h0], by omega, fun hn => by omega⟩
  · exact ⟨_, cap, rfl, hc, readsI_of (Reads.of_own h)⟩

set_option maxHeartbeats 2000000 in
set_option maxRecDepth 100000 in
theorem rorder_any (A : Option Addr) (c : Nat) (ls : List (List Int)) (w : World) (hl : ReadsW w A ls) (hfew : ∀ x ∈ ls, x.length ≤ 39) (hlen : ls.length ≤ 39) :
    Calls Try.prog 16 #[.slice A ls.length c] w (ROrdPost ls w) := by
  have HL := Lib.hid hl
  have HF := Lib.hid hfew
  clear hl hfew
  go_enter Try.func16, Try.ntmps16
  go_wp2_with fail
  go_loopw [3, 4] (fun v3 v4 wr => ∃ (i k3 : Nat) (A3 : Option Addr) (out : List Nat), v3 = .slice A3 i k3 ∧ v4 = .int .i64 i ∧ i ≤ ls.length ∧ i ≤ k3 ∧ Hid (RefO ls i out) ∧ Hid (ReadsI wr A3 (iL out)) ∧ Hid (Below w.heap.size w wr)) (fun _ v4 _ => ls.length - (intOf v4).toNat)
  case atStart => exact ⟨0, 0, none, [], rfl, rfl, by omega, Nat.le_refl _, Lib.hid (RefO.nil ls), Lib.hid (readsI_nil _ _), Lib.hid (Below.refl _ _)⟩
  case round =>
    obtain ⟨i, k3, A3, out, rfl, rfl, hi, hi3, HO, HR, HB⟩ := hrel
    by_cases hlt : i < ls.length
    · have hlt0 : (i : Int) < (ls.length : Int) := by omega
      go_upto_block 2 with fail
      go_cut [5] (fun v5 wx => ∃ k : Nat, v5 = .int .i64 k ∧ k ≤ i ∧ Hid (∀ j, k ≤ j → j < i → ltW ls i (out.getD j 0) = true) ∧ Hid (k = 0 ∨ ltW ls i (out.getD (k - 1) 0) = false) ∧ Hid (Below wr.heap.size wr wx))
      case first =>
        go_wp2_with fail
        go_loopw [5] (fun v wz => ∃ k : Nat, v = .int .i64 k ∧ k ≤ i ∧ Hid (∀ j, k ≤ j → j < i → ltW ls i (out.getD j 0) = true) ∧ Hid (Below wr.heap.size wr wz)) (fun v _ => (intOf v).toNat)
        case atStart => exact ⟨i, rfl, Nat.le_refl _, Lib.hid (fun j h1 h2 => by omega), Lib.hid (Below.refl _ _)⟩
        case round =>
          obtain ⟨k, rfl, hk, HI, HBK⟩ := hrel
          by_cases h0 : k = 0
          · subst h0
            go_upto_region 6 with (fail)
            go_cut [30] (fun v wq => v = .bool false ∧ Below wr.heap.size wr wq)
            case first =>
              go_big_region
              all_goals
                simp only [Exit.then]
                apply_assumption
                refine Met.intro ?_
                apply_assumption
                (repeat apply Exists.intro)
                refine ⟨⟨rfl, bdrew (Below.refl _ _)⟩, rfl⟩
            case rest =>
              obtain ⟨rfl, hbq⟩ := hcut
              have HBQ := Lib.hid (bthen HBK.out hbq)
              clear hbq
              go_wp2_with fail
              go_meet
              exact ⟨0, rfl, Nat.zero_le _, HI, Lib.hid (Or.inl rfl), HBQ⟩
          · obtain ⟨kp, rfl⟩ : ∃ kp, k = kp + 1 := ⟨k - 1, by omega⟩
            have hol := iL_len out
            have hoi := HO.out.len
            have hrl := (HL.out.below HB.out).below HBK.out
            obtain ⟨wd, rfl, hwc⟩ := hrl (by omega)
            obtain ⟨ad, rfl, hrc⟩ := (HR.out.below HBK.out) (by omega)
            have cx := hrc kp (by omega)
            rw [iL_at out kp (by omega)] at cx
            have hox : out.getD kp 0 < ls.length := by
              have hkl : kp < out.length := by omega
              have := HO.out.lt _ (List.getElem_mem hkl)
              have e : out.getD kp 0 = out[kp] := by simp [List.getD_eq_getElem?_getD, hkl]
              rw [e]; omega
            obtain ⟨X, kx, wx, rx⟩ := hwc i hlt
            obtain ⟨Y, ky, wy, ry⟩ := hwc (out.getD kp 0) hox
            have hlx := getD_le HF.out i
            have hly := getD_le HF.out (out.getD kp 0)
            have hltw : rbefB (ls.getD i []) (ls.getD (out.getD kp 0) []) = ltW ls i (out.getD kp 0) := rbefB_eq _ _
            have HRX := Lib.hid rx
            have HRY := Lib.hid ry
            have HBF := Lib.hid (fun w' hb' => rbefore_any X Y kx ky _ _ w' (by omega) (by omega) (HRX.out.below hb') (HRY.out.below hb'))
            rw [hltw] at HBF
            have HI1 : Hid (ltW ls i (out.getD kp 0) = true → ∀ j, kp ≤ j → j < i → ltW ls i (out.getD j 0) = true) := Lib.hid (fun hb j h1 h2 => by
              by_cases e : j = kp
              · rw [e]; exact hb
              · exact HI.out j (by omega) h2)
            have HE1 : Hid (ltW ls i (out.getD kp 0) = false → kp + 1 = 0 ∨ ltW ls i (out.getD (kp + 1 - 1) 0) = false) := Lib.hid (fun hb => Or.inr hb)
            have HCX := Lib.hid cx
            have HWX := Lib.hid wx
            have HWY := Lib.hid wy
            have CX : ∀ w', Below wr.heap.size wr w' → w'.cell? (ad.add kp) = some (.int .i64 (out.getD kp 0 : Nat)) ∧ w'.cell? (wd.add i) = some (.slice X (ls.getD i []).length kx) ∧ w'.cell? (wd.add (out.getD kp 0)) = some (.slice Y (ls.getD (out.getD kp 0) []).length ky) := fun w' hb' => ⟨(hb'.cell (World.block_lt_of_cell? _ _ HCX.out)).trans HCX.out, (hb'.cell (World.block_lt_of_cell? _ _ HWX.out)).trans HWX.out, (hb'.cell (World.block_lt_of_cell? _ _ HWY.out)).trans HWY.out⟩
            have hks : kp ≤ 1000 := by omega
            have hwp := wrap_small kp hks
            have hi0 : (0 : Int) ≤ (i : Int) := by omega
            have hx0 : (0 : Int) ≤ (out.getD kp 0 : Nat) := by omega
            have hx1 : ((out.getD kp 0 : Nat) : Int) < (ls.length : Int) := by omega
            have hp0 : (0 : Int) ≤ (kp : Int) := by omega
            have hp1 : (kp : Int) < (i : Int) := by omega
            have hj0 : (0 : Int) < (kp : Int) + 1 := by omega
            generalize ltW ls i (out.getD kp 0) = b at *
            generalize out.getD kp 0 = ox at *
            generalize ls.getD i [] = lx at *
            generalize ls.getD ox [] = ly at *
            clear hrl hwc hrc cx wx wy rx ry hlx hly hltw hol hoi HCX HWX HWY HRX HRY
            go_upto_region 6 with (fail)
            go_cut [30] (fun v wq => v = .bool b ∧ Below wr.heap.size wr wq)
            case first =>
              go_region_held3 (fun w' => Below wr.heap.size wr w') ((repeat (first | (with_reducible exact Below.refl _ _) | (with_reducible assumption) | (refine bthen ?_ (by with_reducible assumption)) | (refine balloc ?_ _) | (refine bdrew ?_)))) ((go_at_call 13; refine (HBF.out _ (by with_reducible assumption)).mono ?_; rintro e wb ⟨rfl, hbb⟩))
              simp only [Exit.then]
              apply_assumption
              refine Met.intro ?_
              apply_assumption
              (repeat apply Exists.intro)
              refine ⟨⟨?_, ?_⟩, rfl⟩
              · rfl
              · with_reducible assumption
            case rest =>
              obtain ⟨rfl, hbq⟩ := hcut
              have HBQ := Lib.hid (bthen HBK.out hbq)
              clear hbq CX
              rcases b with _ | _
              · have HE2 := Lib.hid (HE1.out rfl)
                clear HE1 HI1
                go_wp2_with fail
                go_meet
                exact ⟨kp + 1, rfl, hk, HI, HE2, HBQ⟩
              · have HI2 := Lib.hid (HI1.out rfl)
                clear HE1 HI1
                go_wp2_with fail
                go_roundw
                case rel => exact ⟨kp, by go_num, by omega, HI2, HBQ⟩
                case measure => simp [intOf]
      case rest =>
        obtain ⟨k, rfl, hk, HI, HE, HBX⟩ := hcut
        have hoi := HO.out.len
        have HR2 := Lib.hid (HR.out.below HBX.out)
        have HN : Hid (RefO ls (i + 1) (ins out i k)) := Lib.hid (HO.out.step hk HI.out HE.out)
        have HB2 := Lib.hid (bthen HB.out HBX.out)
        have hk0 : (0 : Int) ≤ (k : Int) := by omega
        have hk1 : (k : Int) ≤ (k3 : Int) := by omega
        have hk2 : (k : Int) ≤ (i : Int) := by omega
        clear HI HE HBX
        go_upto_region 8 with (fail)
        refine wp_region_held (S := fun _ => True) (by kernel_rfl) ?_
        change wpAnyH _ _ _ _ _ _ _ _ wc.drew
        have hbd : Below wc.heap.size wc wc.drew := bdrew (Below.refl _ _)
        have HRD := Lib.hid (HR2.out.below hbd)
        have HB3 := Lib.hid (bthen HB2.out hbd)
        clear hbd HR2 HB2 HR HB HL HF
        generalize wc.drew = W at *
        refine wpAnyH_take (i := 0) (oi := ?oi1) (v := ?v1) ?hi1 (by kernel_rfl) ?hf1 ?hr1 ?hQ1 ?hy1 trivial ?rest1
        case hi1 => (conv => (lhs; whnf; arg 1; whnf))
        case hf1 => kernel_rfl
        case hr1 => kernel_rfl
        case hQ1 => exact fun _ _ _ h => h
        case hy1 => (refine Or.inl ⟨by kernel_rfl, ?_⟩; intro w' _; go_simp; try with_reducible rfl)
        try simp only [Act.put, List.setIfInBounds_toArray, List.set_cons_zero, List.set_cons_succ]
        refine wpAnyH_take (i := 1) (oi := ?oi2) (v := ?v2) ?hi2 (by kernel_rfl) ?hf2 ?hr2 ?hQ2 ?hy2 trivial ?rest2
        case hi2 => (conv => (lhs; whnf; arg 1; whnf))
        case hf2 => kernel_rfl
        case hr2 => kernel_rfl
        case hQ2 => exact fun _ _ _ h => h
        case hy2 => (refine Or.inl ⟨by kernel_rfl, ?_⟩; intro w' _; go_simp; try with_reducible rfl)
        try simp only [Act.put, List.setIfInBounds_toArray, List.set_cons_zero, List.set_cons_succ]
        refine wpAnyH_take (i := 2) (oi := ?oi3) (v := .slice A3 k k3) ?hi3 (by kernel_rfl) ?hf3 ?hr3 ?hQ3 ?hy3 trivial ?rest3
        case hi3 => (conv => (lhs; whnf; arg 1; whnf))
        case hf3 => kernel_rfl
        case hr3 => kernel_rfl
        case hQ3 => exact fun _ _ _ h => h
        case hy3 => (refine Or.inl ⟨by kernel_rfl, ?_⟩; intro w' _; (go_simp; try exact sl_lo A3 k k3))
        try simp only [Act.put, List.setIfInBounds_toArray, List.set_cons_zero, List.set_cons_succ]
        refine wpAnyH_take (i := 4) (oi := ?oi4) (v := ?v4) ?hi4 (by kernel_rfl) ?hf4 ?hr4 ?hQ4 ?hy4 trivial ?rest4
        case hi4 => (conv => (lhs; whnf; arg 1; whnf))
        case hf4 => kernel_rfl
        case hr4 => kernel_rfl
        case hQ4 => exact fun _ _ _ h => h
        case hy4 => (refine Or.inl ⟨by kernel_rfl, ?_⟩; intro w' _; go_simp; try with_reducible rfl)
        try simp only [Act.put, List.setIfInBounds_toArray, List.set_cons_zero, List.set_cons_succ]
        refine wpAnyH_take (i := 7) (oi := ?oi5) (v := ?v5) ?hi5 (by kernel_rfl) ?hf5 ?hr5 ?hQ5 ?hy5 trivial ?rest5
        case hi5 => (conv => (lhs; whnf; arg 1; whnf))
        case hf5 => kernel_rfl
        case hr5 => kernel_rfl
        case hQ5 => exact fun _ _ _ h => h
        case hy5 => (refine Or.inl ⟨by kernel_rfl, ?_⟩; intro w' _; go_simp; try with_reducible rfl)
        try simp only [Act.put, List.setIfInBounds_toArray, List.set_cons_zero, List.set_cons_succ]
        refine wpAnyH_take (i := 8) (oi := ?oi6) (v := ?v6) ?hi6 (by kernel_rfl) ?hf6 ?hr6 ?hQ6 ?hy6 trivial ?rest6
        case hi6 => (conv => (lhs; whnf; arg 1; whnf))
        case hf6 => kernel_rfl
        case hr6 => kernel_rfl
        case hQ6 => exact fun _ _ _ h => h
        case hy6 => (refine Or.inl ⟨by kernel_rfl, ?_⟩; intro w' _; go_simp; try with_reducible rfl)
        try simp only [Act.put, List.setIfInBounds_toArray, List.set_cons_zero, List.set_cons_succ]
        refine wpAnyH_take (i := 9) (oi := ?oi7) (v := .slice (if k3 = k then A3 else A3.map (·.add k)) (i - k) (k3 - k)) ?hi7 (by kernel_rfl) ?hf7 ?hr7 ?hQ7 ?hy7 trivial ?rest7
        case hi7 => (conv => (lhs; whnf; arg 1; whnf))
        case hf7 => kernel_rfl
        case hr7 => kernel_rfl
        case hQ7 => exact fun _ _ _ h => h
        case hy7 => (refine Or.inl ⟨by kernel_rfl, ?_⟩; intro w' _; (go_simp; try exact sl_hi A3 i k k3))
        try simp only [Act.put, List.setIfInBounds_toArray, List.set_cons_zero, List.set_cons_succ]
        have hll := iL_len out
        have hkl : ((iL out).take k).length = k := by rw [List.length_take]; omega
        have hdl : ((iL out).drop k).length = i - k := by rw [List.length_drop]; omega
        refine wpAnyH_ready (rs := [3, 5]) (by kernel_rfl) (by simp) ?_
        refine AllReadyH.cons (o := ?oA) ?hoA ?stepA (AllReadyH.cons (o := ?oB) ?hoB ?stepB AllReadyH.nil)
        case hoA => (conv => (lhs; whnf; arg 1; whnf))
        case hoB => (conv => (lhs; whnf; arg 1; whnf))
        case stepA =>
          intro K hK
          rw [if_pos (by kernel_rfl)]
          refine app_i' (.const (.slice none 0 0)) (.tmp 35) rfl W.heap.size (w0 := W) _ [] ((iL out).take k) A3 k3 rfl (by rw [hkl]; rfl) (OwnsI.nil _ _) (reads_takeI HRD.out k (by omega)) (Below.refl _ _) (Nat.le_refl _) (by rw [hkl]; simp; omega) ?_
          intro v1 W1 ho1 hb1 hB1 hg1
          refine hK.out _ _ trivial (fun _ => ?_)
          clear hK
          try simp only [Act.put, List.setIfInBounds_toArray, List.set_cons_zero, List.set_cons_succ]
          refine wpAnyH_ready (rs := [5]) (by kernel_rfl) (by simp) ?_
          refine AllReadyH.cons (o := ?oA5) ?hoA5 ?stepA5 AllReadyH.nil
          case hoA5 => (conv => (lhs; whnf; arg 1; whnf))
          intro K hK
          go_simp
          refine hK.out _ _ trivial (fun _ => ?_)
          clear hK
          try simp only [Act.put, List.setIfInBounds_toArray, List.set_cons_zero, List.set_cons_succ]
          refine wpAnyH_ready (rs := [6]) (by kernel_rfl) (by simp) ?_
          refine AllReadyH.cons (o := ?oA6) ?hoA6 ?stepA6 AllReadyH.nil
          case hoA6 => (conv => (lhs; whnf; arg 1; whnf))
          intro K hK
          rw [if_pos (by kernel_rfl)]
          refine app_i' (.tmp 36) (.tmp 38) rfl W.heap.size (w0 := W) v1 _ [(i : Int)] (some ⟨W1.heap.size, 0, none⟩) 1 rfl rfl (ho1.below (balloc (Below.refl _ _) _)) (box_i W1 i) (hb1.alloc hB1 _) (by simp; omega) (by simp; omega) ?_
          intro v2 W2 ho2 hb2 hB2 hg2
          refine hK.out _ _ trivial (fun _ => ?_)
          clear hK
          try simp only [Act.put, List.setIfInBounds_toArray, List.set_cons_zero, List.set_cons_succ]
          refine wpAnyH_ready (rs := [10]) (by kernel_rfl) (by simp) ?_
          refine AllReadyH.cons (o := ?oA10) ?hoA10 ?stepA10 AllReadyH.nil
          case hoA10 => (conv => (lhs; whnf; arg 1; whnf))
          intro K hK
          rw [if_pos (by kernel_rfl)]
          refine app_i' (.tmp 39) (.tmp 42) rfl W.heap.size (w0 := W) v2 _ ((iL out).drop k) (if k3 = k then A3 else A3.map (·.add k)) (k3 - k) rfl (by rw [hdl]; rfl) ho2 (reads_dropI (HRD.out.below hb2) k k3 (by omega) (by omega)) hb2 hB2 (by simp; omega) ?_
          intro v3 W3 ho3 hb3 hB3 hg3
          refine hK.out _ _ trivial (fun _ => ?_)
          clear hK
          try simp only [Act.put, List.setIfInBounds_toArray, List.set_cons_zero, List.set_cons_succ]
          obtain ⟨A', k', rfl, hkk, hr'⟩ := ho3.slice'
          rw [← iL_ins] at hkk hr'
          rw [← iL_ins, iL_len, HN.out.len]
          rw [iL_len, HN.out.len] at hkk
          have HRF := Lib.hid hr'
          have HBF := Lib.hid (bthen HB3.out hb3)
          refine wpAnyH_take (i := 11) (oi := ?oi102) (v := ?v102) ?hi102 (by kernel_rfl) ?hf102 ?hr102 ?hQ102 ?hy102 trivial ?rest102
          case hi102 => (conv => (lhs; whnf; arg 1; whnf))
          case hf102 => kernel_rfl
          case hr102 => kernel_rfl
          case hQ102 => exact fun _ _ _ h => h
          case hy102 => (refine Or.inl ⟨by kernel_rfl, ?_⟩; intro w' _; go_simp; try with_reducible rfl)
          try simp only [Act.put, List.setIfInBounds_toArray, List.set_cons_zero, List.set_cons_succ]
          refine wpAnyH_done (by kernel_rfl) ?_ _
          try simp only [Exit.then]
          clear HO hr' HB3 HRD
          go_wp2_with fail
          go_roundw
          case rel => exact ⟨i + 1, k', A', ins out i k, rfl, by go_num, by omega, hkk, HN, HRF, HBF⟩
          case measure => simp [intOf]; omega
        case stepB =>
          intro K hK
          go_simp
          refine hK.out _ _ trivial (fun _ => ?_)
          clear hK
          try simp only [Act.put, List.setIfInBounds_toArray, List.set_cons_zero, List.set_cons_succ]
          have hbA : Below W.heap.size W (W.alloc (.cells #[.int .i64 (i : Int)] 3)) := balloc (Below.refl _ _) _
          have HBX := Lib.hid (box_i W (i : Int))
          have HRA := Lib.hid (HRD.out.below hbA)
          have HBA := Lib.hid hbA
          clear hbA
          generalize W.alloc (.cells #[.int .i64 (i : Int)] 3) = U at *
          refine wpAnyH_ready (rs := [3]) (by kernel_rfl) (by simp) ?_
          refine AllReadyH.cons (o := ?oB3) ?hoB3 ?stepB3 AllReadyH.nil
          case hoB3 => (conv => (lhs; whnf; arg 1; whnf))
          intro K hK
          rw [if_pos (by kernel_rfl)]
          refine app_i' (.const (.slice none 0 0)) (.tmp 35) rfl U.heap.size (w0 := U) _ [] ((iL out).take k) A3 k3 rfl (by rw [hkl]; rfl) (OwnsI.nil _ _) (reads_takeI HRA.out k (by omega)) (Below.refl _ _) (Nat.le_refl _) (by rw [hkl]; simp; omega) ?_
          intro v1 W1 ho1 hb1 hB1 hg1
          refine hK.out _ _ trivial (fun _ => ?_)
          clear hK
          try simp only [Act.put, List.setIfInBounds_toArray, List.set_cons_zero, List.set_cons_succ]
          refine wpAnyH_ready (rs := [6]) (by kernel_rfl) (by simp) ?_
          refine AllReadyH.cons (o := ?oB6) ?hoB6 ?stepB6 AllReadyH.nil
          case hoB6 => (conv => (lhs; whnf; arg 1; whnf))
          intro K hK
          rw [if_pos (by kernel_rfl)]
          refine app_i' (.tmp 36) (.tmp 38) rfl U.heap.size (w0 := U) v1 _ [(i : Int)] (some ⟨W.heap.size, 0, none⟩) 1 rfl rfl ho1 (HBX.out.below hb1) hb1 hB1 (by simp; omega) ?_
          intro v2 W2 ho2 hb2 hB2 hg2
          refine hK.out _ _ trivial (fun _ => ?_)
          clear hK
          try simp only [Act.put, List.setIfInBounds_toArray, List.set_cons_zero, List.set_cons_succ]
          refine wpAnyH_ready (rs := [10]) (by kernel_rfl) (by simp) ?_
          refine AllReadyH.cons (o := ?oB10) ?hoB10 ?stepB10 AllReadyH.nil
          case hoB10 => (conv => (lhs; whnf; arg 1; whnf))
          intro K hK
          rw [if_pos (by kernel_rfl)]
          refine app_i' (.tmp 39) (.tmp 42) rfl U.heap.size (w0 := U) v2 _ ((iL out).drop k) (if k3 = k then A3 else A3.map (·.add k)) (k3 - k) rfl (by rw [hdl]; rfl) ho2 (reads_dropI (HRA.out.below hb2) k k3 (by omega) (by omega)) hb2 hB2 (by simp; omega) ?_
          intro v3 W3 ho3 hb3 hB3 hg3
          refine hK.out _ _ trivial (fun _ => ?_)
          clear hK
          try simp only [Act.put, List.setIfInBounds_toArray, List.set_cons_zero, List.set_cons_succ]
          obtain ⟨A', k', rfl, hkk, hr'⟩ := ho3.slice'
          rw [← iL_ins] at hkk hr'
          rw [← iL_ins, iL_len, HN.out.len]
          rw [iL_len, HN.out.len] at hkk
          have HRF := Lib.hid hr'
          have HBF := Lib.hid (bthen HB3.out (bthen HBA.out hb3))
          refine wpAnyH_take (i := 11) (oi := ?oi104) (v := ?v104) ?hi104 (by kernel_rfl) ?hf104 ?hr104 ?hQ104 ?hy104 trivial ?rest104
          case hi104 => (conv => (lhs; whnf; arg 1; whnf))
          case hf104 => kernel_rfl
          case hr104 => kernel_rfl
          case hQ104 => exact fun _ _ _ h => h
          case hy104 => (refine Or.inl ⟨by kernel_rfl, ?_⟩; intro w' _; go_simp; try with_reducible rfl)
          try simp only [Act.put, List.setIfInBounds_toArray, List.set_cons_zero, List.set_cons_succ]
          refine wpAnyH_done (by kernel_rfl) ?_ _
          try simp only [Exit.then]
          clear HO hr' HB3 HRD
          go_wp2_with fail
          go_roundw
          case rel => exact ⟨i + 1, k', A', ins out i k, rfl, by go_num, by omega, hkk, HN, HRF, HBF⟩
          case measure => simp [intOf]; omega
    · obtain rfl : i = ls.length := by omega
      go_wp2_with fail
      go_ret
      exact ⟨_, _, out, rfl, HO.out, HR.out, HB.out⟩
end Go.Proofs.Ytodninjcmfbfdaa
