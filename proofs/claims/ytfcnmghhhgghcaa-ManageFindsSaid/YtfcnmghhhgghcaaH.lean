/- An operation that later ones wait for may be taken first: the condition on the world is asked for only while the guard is still to come. -/
import Derived.OrdersHeld
import Derived.RegionTactic
namespace Go.Proofs.Ytfcnmghhhgghcaa
open Go

section
variable {P : Program} {ops : Array Oper} {Q : Exit → Act → World → Prop} {md : Region.Mode} {S : World → Prop} {g : Nat}

/-- Every order, and S stands behind each step while number g is still to come. -/
def wpAnyG (P : Program) (md : Region.Mode) (ops : Array Oper) (Q : Exit → Act → World → Prop) (S : World → Prop) (g : Nat) : Nat → Array Bool → Act → World → Prop
  | 0, listed, a, w => Region.ready md ops listed = [] ∧ Q .normal a w
  | fuel + 1, listed, a, w =>
    (Region.ready md ops listed = [] → Q .normal a w) ∧
    ∀ i ∈ Region.ready md ops listed, wpOp P ops Q i (fun a' w' => ((listed.setIfInBounds i true).getD g true = false → S w') ∧ wpAnyG P md ops Q S g fuel (listed.setIfInBounds i true) a' w') a w

theorem wpAny_of_guarded : ∀ (fuel : Nat) (listed : Array Bool) (a : Act) (w : World), wpAnyG P md ops Q S g fuel listed a w → wpAny P md ops Q fuel listed a w
  | 0, _, _, _, h => h
  | fuel + 1, _, _, _, h => ⟨h.1, fun i hi => wpOp_mono (fun a' w' h' => wpAny_of_guarded fuel _ a' w' h'.2) (h.2 i hi)⟩

/-- Number g waits for number i. -/
def waitsFor (md : Region.Mode) (ops : Array Oper) (g i : Nat) : Bool :=
  match ops[g]? with
  | some og => og.after.any fun e => Region.binds md e && e.on == i
  | none => false

theorem waits_not_ready {i : Nat} {listed : Array Bool} (hw : waitsFor md ops g i = true) (hl : listed.getD i false = false) : g ∉ Region.ready md ops listed := by
  intro hg
  obtain ⟨_, og, hog, hall⟩ := mem_ready.1 hg
  simp only [waitsFor, hog] at hw
  obtain ⟨e, he, hb⟩ := Array.any_eq_true'.1 hw
  simp only [Bool.and_eq_true, beq_iff_eq] at hb
  have := hall e he hb.1
  rw [hb.2, hl] at this
  cases this

/-- Each of the list waits for the one ahead of it. -/
def pathOk (md : Region.Mode) (ops : Array Oper) : List Nat → Bool
  | a :: b :: r => waitsFor md ops b a && pathOk md ops (b :: r)
  | _ => true

theorem path_not_ready {listed : Array Bool} : ∀ (path : List Nat) (i : Nat), pathOk md ops (i :: path) = true → listed.getD i false = false → (∀ k ∈ path, listed.getD k false = false) → ∀ k ∈ path, k ∉ Region.ready md ops listed
  | [], _, _, _, _, k, hk => by cases hk
  | b :: r, i, hp, hi, hun, k, hk => by
    simp only [pathOk, Bool.and_eq_true] at hp
    rcases List.mem_cons.1 hk with rfl | hk
    · exact waits_not_ready hp.1 hi
    · exact path_not_ready r b hp.2 (hun b (by simp)) (fun k hk => hun k (by simp [hk])) k hk

theorem getD_false_of_true {listed : Array Bool} {i : Nat} (h : listed.getD i true = false) : listed.getD i false = false := by
  rcases Nat.lt_or_ge i listed.size with h' | h'
  · simp [h'] at h ⊢; exact h
  · simp [Array.getElem?_eq_none h'] at h

theorem wpAnyG_first {i : Nat} {oi : Oper} {v : Value} {path : List Nat} (hi : ops[i]? = some oi) (hsel : ∀ (j : Nat) (o : Oper) cs b, ops[j]? = some o → o.op ≠ .select cs b)
    (hQ : ∀ c a w, Q (.panic c) (a.put oi.dst v) w → Q (.panic c) a w) (hpath : pathOk md ops (i :: path) = true) (hgp : g ∈ path) (hip : i ∉ path) :
    ∀ (fuel : Nat) (listed : Array Bool) (a : Act) (w : World),
      (∀ j oj, ops[j]? = some oj → j ≠ i → listed.getD j true = false → (∀ e ∈ oj.after, Region.binds md e = true → e.on ≠ i) → oi.apart ops oj = true) →
      i ∈ Region.ready md ops listed → (∀ k ∈ path, listed.getD k true = false) → YieldsIf P ops S oi v a → S w →
      wpAnyG P md ops Q S g fuel (listed.setIfInBounds i true) (a.put oi.dst v) w → wpAnyG P md ops Q S g (fuel + 1) listed a w := by
  intro fuel
  induction fuel with
  | zero =>
    intro listed a w _ hr hgl hy hS H
    refine ⟨fun h => (by rw [h] at hr; cases hr), fun j hj => ?_⟩
    by_cases hji : j = i
    · subst hji; exact hy.wpOp hi hS ⟨fun _ => hS, H⟩
    · have := ready_mono hj hji
      rw [H.1] at this
      cases this
  | succ fuel ih =>
    intro listed a w hfree hr hgl hy hS H
    refine ⟨fun h => (by rw [h] at hr; cases hr), fun j hj => ?_⟩
    by_cases hji : j = i
    · subst hji; exact hy.wpOp hi hS ⟨fun _ => hS, H⟩
    · have h1 := H.2 j (ready_mono hj hji)
      obtain ⟨hjun, oj, hoj, hall⟩ := mem_ready.1 hj
      have hil : listed.getD i false = false := getD_false_of_true (mem_ready.1 hr).1
      have hnot : ∀ e ∈ oj.after, Region.binds md e = true → e.on ≠ i := fun e he hb heq => by
        have h1 := hall e he hb
        rw [heq, hil] at h1
        cases h1
      have hjp : j ∉ path := fun h => path_not_ready path i hpath hil (fun k hk => getD_false_of_true (hgl k hk)) j h hj
      have hkj : ∀ k ∈ path, j ≠ k := fun k hk h => hjp (h ▸ hk)
      have hki : ∀ k ∈ path, i ≠ k := fun k hk h => hip (h ▸ hk)
      have hgl1 : ∀ k ∈ path, (listed.setIfInBounds j true).getD k true = false := fun k hk => by rw [getD_set_ne true (hkj k hk)]; exact hgl k hk
      have hgl2 : ((listed.setIfInBounds i true).setIfInBounds j true).getD g true = false := by
        rw [getD_set_ne true (hkj g hgp), getD_set_ne true (hki g hgp)]; exact hgl g hgp
      have h2 := wpOp_putIf hoj (hfree j oj hoj hji hjun hnot) (fun cs b => hsel i oi cs b hi) (fun cs b => hsel j oj cs b hoj) hQ hy h1
      have hfree' : ∀ k ok, ops[k]? = some ok → k ≠ i → (listed.setIfInBounds j true).getD k true = false →
          (∀ e ∈ ok.after, Region.binds md e = true → e.on ≠ i) → oi.apart ops ok = true := fun k ok hk hki hun hno => by
        refine hfree k ok hk hki ?_ hno
        by_cases hjk : j = k
        · subst hjk; exact hjun
        · rw [getD_set_ne true hjk] at hun; exact hun
      refine wpOp_mono (fun a' w' h3 => ⟨fun _ => h3.2.1 hgl2, ih (listed.setIfInBounds j true) a' w' hfree' (ready_mono hr (Ne.symm hji)) hgl1 h3.1 (h3.2.1 hgl2) ?_⟩) h2
      rw [Array.setIfInBounds_comm _ _ hji]
      exact h3.2.2

theorem wpAnyG_take {i : Nat} {oi : Oper} {v : Value} {fuel : Nat} {listed : Array Bool} {a : Act} {w : World} (path : List Nat) (hi : ops[i]? = some oi)
    (hs : Region.noSelect ops = true) (hf : Region.free md ops listed i = true) (hr : (Region.ready md ops listed).contains i = true)
    (hwait : (pathOk md ops (i :: path) && path.contains g && !path.contains i && path.all fun k => !listed.getD k true) = true)
    (hQ : ∀ c a w, Q (.panic c) (a.put oi.dst v) w → Q (.panic c) a w) (hy : YieldsIf P ops S oi v a) (hS : S w)
    (h : wpAnyG P md ops Q S g fuel (listed.setIfInBounds i true) (a.put oi.dst v) w) : wpAnyG P md ops Q S g (fuel + 1) listed a w := by
  simp only [Bool.and_eq_true, Bool.not_eq_true', List.all_eq_true] at hwait
  exact wpAnyG_first hi (Region.noSelect_spec hs) hQ hwait.1.1.1 (by simpa using hwait.1.1.2) (by simpa using hwait.1.2) fuel listed a w (Region.free_spec hi hf) (by simpa using hr) hwait.2 hy hS h

def AllReadyG (P : Program) (md : Region.Mode) (ops : Array Oper) (Q : Exit → Act → World → Prop) (S : World → Prop) (g : Nat) (fuel : Nat) (listed : Array Bool) (a : Act) (w : World) (rs : List Nat) : Prop :=
  ∀ i ∈ rs, wpOp P ops Q i (fun a' w' => ((listed.setIfInBounds i true).getD g true = false → S w') ∧ wpAnyG P md ops Q S g fuel (listed.setIfInBounds i true) a' w') a w

theorem AllReadyG.nil {fuel : Nat} {listed : Array Bool} {a : Act} {w : World} : AllReadyG P md ops Q S g fuel listed a w [] := fun _ h => by cases h

theorem AllReadyG.cons {fuel : Nat} {listed : Array Bool} {a : Act} {w : World} {i : Nat} {o : Oper} {rs : List Nat} (ho : ops[i]? = some o)
    (h : ∀ K' : Act → World → Prop, (∀ a' w', ((listed.setIfInBounds i true).getD g true = false → S w') → wpAnyG P md ops Q S g fuel (listed.setIfInBounds i true) a' w' → K' a' w') → if Region.wanted o (yielded ops a.tmps) = true then Oper.wp P o a w K' Q else K' (a.put o.dst undef) w)
    (hs : AllReadyG P md ops Q S g fuel listed a w rs) : AllReadyG P md ops Q S g fuel listed a w (i :: rs) := fun j hj => by
  rcases List.mem_cons.1 hj with rfl | hj
  · exact wpOp_step ho (fun K' hK => h K' (fun a' w' h1 h2 => hK a' w' ⟨h1, h2⟩))
  · exact hs j hj

theorem wpAnyG_ready {rs : List Nat} {fuel : Nat} {listed : Array Bool} {a : Act} {w : World} (hr : Region.ready md ops listed = rs) (hne : rs ≠ [])
    (h : AllReadyG P md ops Q S g fuel listed a w rs) : wpAnyG P md ops Q S g (fuel + 1) listed a w :=
  ⟨fun h0 => absurd (hr ▸ h0) hne, hr ▸ h⟩

theorem wpAnyG_done {listed : Array Bool} {a : Act} {w : World} (hr : Region.ready md ops listed = []) (h : Q .normal a w) :
    ∀ fuel, wpAnyG P md ops Q S g fuel listed a w
  | 0 => ⟨hr, h⟩
  | _ + 1 => ⟨fun _ => h, by rw [hr]; simp⟩

/-- The beginning. -/
theorem wp_region_guarded {id : Nat} {a : Act} {w : World} (S : World → Prop) (g : Nat) (hm : P.follows .mixedOrders = true)
    (h : wpAnyG P .any ops Q S g ops.size (Array.replicate ops.size false) a (World.drew w)) : (Code.region id ops true).wp P Q a w :=
  wp_region_any hm (wpAny_of_guarded _ _ _ _ h)
end

end Go.Proofs.Ytfcnmghhhgghcaa
