/-
  Plan2: as Plan, for a region whose LAST operation (number f) breaks the condition S: a store to a cell that the region loads. All operations that read under S lie on f's way. No condition beyond those stated.
-/
import Derived.Test.YtpfkmklhfafkiaaPlan
namespace Go.Proofs.Ytpfkmklhfafkiaa
open Go.RowKit
section
variable {P : Program} {ops : Array Oper} {Q : Exit → Act → World → Prop} {md : Region.Mode} {S : World → Prop} {f : Nat}
/-- what is listed has what it waits for listed -/
def Down (md : Region.Mode) (ops : Array Oper) (L : Array Bool) : Prop := ∀ j o, ops[j]? = some o → L.getD j false = true → ∀ e ∈ o.after, Region.binds md e = true → L.getD e.on false = true
theorem Down.set {L : Array Bool} {i : Nat} (h : Down md ops L) (hr : i ∈ Region.ready md ops L) : Down md ops (L.setIfInBounds i true) := by
  intro j o ho hl e he hb
  by_cases hji : i = j
  · subst hji
    obtain ⟨_, o', ho', hall⟩ := mem_ready.1 hr
    rw [ho] at ho'; cases ho'
    exact getD_set_true (hall e he hb)
  · rw [getD_set_ne false hji] at hl
    exact getD_set_true (h j o ho hl e he hb)
def reachB (md : Region.Mode) (ops : Array Oper) : Nat → Nat → Nat → Bool
  | 0, g, i => g == i
  | n + 1, g, i => g == i || (match ops[g]? with | none => false | some o => o.after.any fun e => Region.binds md e && reachB md ops n e.on i)
theorem reach_listed {L : Array Bool} (h : Down md ops L) : ∀ (n g i : Nat), reachB md ops n g i = true → L.getD g false = true → L.getD i false = true
  | 0, g, i, hr, hg => by simp only [reachB, beq_iff_eq] at hr; subst hr; exact hg
  | n + 1, g, i, hr, hg => by
    simp only [reachB, Bool.or_eq_true, beq_iff_eq] at hr
    rcases hr with hr | hr
    · subst hr; exact hg
    · cases ho : ops[g]? with
      | none => rw [ho] at hr; cases hr
      | some o =>
        rw [ho] at hr
        obtain ⟨e, he, hb⟩ := Array.any_eq_true'.1 hr
        rw [Bool.and_eq_true] at hb
        exact reach_listed h n e.on i hb.2 (h g o ho hg e he hb.1)
def CF (f : Nat) (S : World → Prop) (L : Array Bool) (w : World) : Prop := L.getD f false = true ∨ S w
def wpAnyF (P : Program) (md : Region.Mode) (ops : Array Oper) (Q : Exit → Act → World → Prop) (S : World → Prop) (f : Nat) : Nat → Array Bool → Act → World → Prop
  | 0, listed, a, w => Region.ready md ops listed = [] ∧ Q .normal a w
  | fuel + 1, listed, a, w =>
    (Region.ready md ops listed = [] → Q .normal a w) ∧
    ∀ i ∈ Region.ready md ops listed, wpOp P ops Q i (fun a' w' => CF f S (listed.setIfInBounds i true) w' ∧ wpAnyF P md ops Q S f fuel (listed.setIfInBounds i true) a' w') a w
theorem wpAny_of_F : ∀ (fuel : Nat) (listed : Array Bool) (a : Act) (w : World), wpAnyF P md ops Q S f fuel listed a w → wpAny P md ops Q fuel listed a w
  | 0, _, _, _, h => h
  | fuel + 1, _, _, _, h => ⟨h.1, fun i hi => wpOp_mono (fun a' w' h' => wpAny_of_F fuel _ a' w' h'.2) (h.2 i hi)⟩
theorem listed_true {L : Array Bool} {i : Nat} (h : L.getD i true = false) : L.getD i false = false := by
  rw [Array.getD_eq_getD_getElem?] at h ⊢
  cases hi : L[i]? with
  | none => rfl
  | some b => rw [hi] at h; exact h
theorem wpAnyF_first {i : Nat} {oi : Oper} {v : Value} (hi : ops[i]? = some oi) (hsel : ∀ (j : Nat) (o : Oper) cs b, ops[j]? = some o → o.op ≠ .select cs b)
    (hQ : ∀ c a w, Q (.panic c) (a.put oi.dst v) w → Q (.panic c) a w) (hfi : f ≠ i) (hdep : ∀ L, Down md ops L → L.getD f false = true → L.getD i false = true) :
    ∀ (fuel : Nat) (listed : Array Bool) (a : Act) (w : World),
      (∀ j oj, ops[j]? = some oj → j ≠ i → listed.getD j true = false → (∀ e ∈ oj.after, Region.binds md e = true → e.on ≠ i) → oi.apart ops oj = true) →
      i ∈ Region.ready md ops listed → YieldsIf P ops S oi v a → Down md ops listed → CF f S listed w →
      wpAnyF P md ops Q S f fuel (listed.setIfInBounds i true) (a.put oi.dst v) w → wpAnyF P md ops Q S f (fuel + 1) listed a w := by
  have hSw : ∀ (listed : Array Bool) (w : World), i ∈ Region.ready md ops listed → Down md ops listed → CF f S listed w → S w := fun listed w hr hd hc => by
    rcases hc with hc | hc
    · have h1 := hdep listed hd hc
      have h2 := listed_true (mem_ready.1 hr).1
      rw [h1] at h2; cases h2
    · exact hc
  have hset : ∀ (listed : Array Bool) (w : World), CF f S (listed.setIfInBounds i true) w ↔ CF f S listed w := fun listed w => by
    unfold CF; rw [getD_set_ne false (Ne.symm hfi)]
  intro fuel
  induction fuel with
  | zero =>
    intro listed a w _ hr hy hd hc H
    refine ⟨fun h => (by rw [h] at hr; cases hr), fun j hj => ?_⟩
    by_cases hji : j = i
    · subst hji; exact hy.wpOp hi (hSw _ _ hr hd hc) ⟨(hset _ _).2 hc, H⟩
    · have := ready_mono hj hji
      rw [H.1] at this
      cases this
  | succ fuel ih =>
    intro listed a w hfree hr hy hd hc H
    refine ⟨fun h => (by rw [h] at hr; cases hr), fun j hj => ?_⟩
    by_cases hji : j = i
    · subst hji; exact hy.wpOp hi (hSw _ _ hr hd hc) ⟨(hset _ _).2 hc, H⟩
    · have h1 := H.2 j (ready_mono hj hji)
      obtain ⟨hjun, oj, hoj, hall⟩ := mem_ready.1 hj
      have hnot : ∀ e ∈ oj.after, Region.binds md e = true → e.on ≠ i := fun e he hb heq => by
        have h1 := hall e he hb
        have h0 := listed_true (mem_ready.1 hr).1
        rw [heq, h0] at h1
        cases h1
      have h2 := wpOp_putIf hoj (hfree j oj hoj hji hjun hnot) (fun cs b => hsel i oi cs b hi) (fun cs b => hsel j oj cs b hoj) hQ hy h1
      have hfree' : ∀ k ok, ops[k]? = some ok → k ≠ i → (listed.setIfInBounds j true).getD k true = false →
          (∀ e ∈ ok.after, Region.binds md e = true → e.on ≠ i) → oi.apart ops ok = true := fun k ok hk hki hun hno => by
        refine hfree k ok hk hki ?_ hno
        by_cases hjk : j = k
        · subst hjk; exact hjun
        · rw [getD_set_ne true hjk] at hun; exact hun
      refine wpOp_mono (fun a' w' h3 => ?_) h2
      rw [Array.setIfInBounds_comm _ _ (Ne.symm hji)] at h3
      have hc' := (hset _ _).1 h3.2.1
      exact ⟨hc', ih (listed.setIfInBounds j true) a' w' hfree' (ready_mono hr (Ne.symm hji)) h3.1 (hd.set hj) hc' h3.2.2⟩
def planBF (md : Region.Mode) (ops : Array Oper) (f : Nat) : List (Nat × Bool) → Array Bool → Bool
  | [], listed => (Region.ready md ops listed).isEmpty
  | (i, false) :: r, listed => (Region.ready md ops listed).contains i && Region.free md ops listed i && !(f == i) && reachB md ops 16 f i && planBF md ops f r (listed.setIfInBounds i true)
  | (i, true) :: r, listed => decide (Region.ready md ops listed = [i]) && planBF md ops f r (listed.setIfInBounds i true)
def planOKF (md : Region.Mode) (ops : Array Oper) (f : Nat) (plan : List (Nat × Bool)) : Bool :=
  Region.noSelect ops && decide (plan.length = ops.size) && planBF md ops f plan (Array.replicate ops.size false)
def wpPlanF (P : Program) (ops : Array Oper) (S : World → Prop) (f : Nat) (Q : Exit → Act → World → Prop) : List (Nat × Bool) → Act → World → Prop
  | [], a, w => Q .normal a w
  | (i, false) :: r, a, w => ∃ o v, ops[i]? = some o ∧ YieldsIf P ops S o v a ∧ wpPlanF P ops S f Q r (a.put o.dst v) w
  | (i, true) :: r, a, w => wpOp P ops Q i (fun a' w' => (i = f ∨ S w') ∧ wpPlanF P ops S f Q r a' w') a w
theorem wpPlanF_held (hs : Region.noSelect ops = true) (hQ : ∀ c a d v w, Q (.panic c) (a.put d v) w → Q (.panic c) a w) (hf : f < ops.size) :
    ∀ (plan : List (Nat × Bool)) (listed : Array Bool) (a : Act) (w : World), listed.size = ops.size → planBF md ops f plan listed = true → Down md ops listed → CF f S listed w → wpPlanF P ops S f Q plan a w → wpAnyF P md ops Q S f plan.length listed a w
  | [], listed, a, w, _, hB, _, _, h => ⟨by simpa [planBF] using hB, h⟩
  | (i, false) :: r, listed, a, w, hz, hB, hd, hc, h => by
    simp only [planBF, Bool.and_eq_true, Bool.not_eq_true', beq_eq_false_iff_ne] at hB
    obtain ⟨o, v, hi, hy, h⟩ := h
    have hr : i ∈ Region.ready md ops listed := by simpa using hB.1.1.1.1
    exact wpAnyF_first hi (Region.noSelect_spec hs) (fun c a w => hQ c a _ _ w) hB.1.1.2 (fun L hL hf => reach_listed hL 16 f i hB.1.2 hf) _ listed a w (Region.free_spec hi hB.1.1.1.2) hr hy hd hc
      (wpPlanF_held hs hQ hf r _ _ _ (by simpa using hz) hB.2 (hd.set hr) (by unfold CF at hc ⊢; rw [getD_set_ne false (Ne.symm hB.1.1.2)]; exact hc) h)
  | (i, true) :: r, listed, a, w, hz, hB, hd, hc, h => by
    simp only [planBF, Bool.and_eq_true, decide_eq_true_eq] at hB
    show wpAnyF P md ops Q S f (r.length + 1) listed a w
    refine ⟨fun h0 => (by rw [hB.1] at h0; cases h0), fun j hj => ?_⟩
    have hj' := hj
    rw [hB.1] at hj
    have e : j = i := by simpa using hj
    subst e
    refine wpOp_mono (fun a' w' h' => ?_) h
    have hc' : CF f S (listed.setIfInBounds j true) w' := by
      rcases h'.1 with h1 | h1
      · subst h1
        left
        rw [Array.getD_eq_getD_getElem?, Array.getElem?_setIfInBounds_self_of_lt (by omega)]; rfl
      · exact .inr h1
    exact ⟨hc', wpPlanF_held hs hQ hf r _ _ _ (by simpa using hz) hB.2 (hd.set hj') hc' h'.2⟩
theorem down_start (n : Nat) : Down md ops (Array.replicate n false) := by
  intro j o _ hl
  rw [Array.getD_eq_getD_getElem?, Array.getElem?_replicate] at hl
  split at hl <;> simp at hl
/-- the beginning -/
theorem wp_region_planF {id : Nat} {a : Act} {w : World} {l : List Oper} (f : Nat) (plan : List (Nat × Bool)) (S : World → Prop) (hm : P.follows .mixedOrders = true) (hB : (planOKF .any l.toArray f plan && decide (f < l.length)) = true) (hS : S w.drew)
    (h : wpPlanF P l.toArray S f (NoPanic Q) plan a w.drew) : (Code.region id l.toArray true).wp P Q a w := by
  simp only [planOKF, Bool.and_eq_true, decide_eq_true_eq] at hB
  refine wp_region_noPanic (wp_region_any hm (wpAny_of_F (S := S) (f := f) _ _ _ _ ?_))
  have := wpPlanF_held (md := .any) (f := f) (S := S) hB.1.1.1 (Q := NoPanic Q) (fun c a d v w h => h) (by simpa using hB.2) plan _ a w.drew (by simp) hB.1.2 (down_start _) (.inr hS) h
  rw [hB.1.1.2] at this
  exact this
theorem planF_val {l : List Oper} {i : Nat} {o : Oper} {v : Value} {r : List (Nat × Bool)} {a : Act} {w : World} (hi : nthO l i = some o) (hw : Region.wanted o (yielded l.toArray a.tmps) = true)
    (hrun : ∀ w', S w' → (execOp a.eval o).run P w' = .ok (.value v) w') (h : wpPlanF P l.toArray S f Q r (a.put o.dst v) w) : wpPlanF P l.toArray S f Q ((i, false) :: r) a w :=
  ⟨o, v, by rw [List.getElem?_toArray, ← nthO_eq]; exact hi, .inl ⟨hw, hrun⟩, h⟩
theorem planF_skip {l : List Oper} {i : Nat} {o : Oper} {r : List (Nat × Bool)} {a : Act} {w : World} (hi : nthO l i = some o) (hw : Region.wanted o (yielded l.toArray a.tmps) = false)
    (h : wpPlanF P l.toArray S f Q r (a.put o.dst undef) w) : wpPlanF P l.toArray S f Q ((i, false) :: r) a w :=
  ⟨o, undef, by rw [List.getElem?_toArray, ← nthO_eq]; exact hi, .inr ⟨hw, rfl⟩, h⟩
theorem planF_nil {a : Act} {w : World} (h : Q .normal a w) : wpPlanF P ops S f (NoPanic Q) [] a w := h
theorem planF_do {l : List Oper} {i : Nat} {o : Oper} {r : List (Nat × Bool)} {a : Act} {w : World} (hi' : nthO l i = some o)
    (h : ∀ K : Act → World → Prop, (∀ a' w', (i = f ∨ S w') → wpPlanF P l.toArray S f Q r a' w' → K a' w') → wpList P l.toArray (Exit.then K Q) [o] a w) : wpPlanF P l.toArray S f Q ((i, true) :: r) a w := by
  have hi : l.toArray[i]? = some o := by rw [List.getElem?_toArray, ← nthO_eq]; exact hi'
  have h0 := h _ (fun a' w' h1 h2 => (⟨h1, h2⟩ : (i = f ∨ S w') ∧ wpPlanF P l.toArray S f Q r a' w'))
  show wpOp P l.toArray Q i _ a w
  unfold wpOp
  rw [hi]
  simp only [wpList] at h0 ⊢
  split
  · rename_i hw
    rw [if_pos hw] at h0
    rcases h0 with h0 | ⟨h0, a1, w1, h1⟩
    · exact .inl (Oper.wp_post (fun _ _ _ h => h) (fun ⟨a, w, h⟩ => ⟨a, w, h⟩) h0)
    · exact .inr ⟨h0, a1, w1, h1⟩
  · rename_i hw
    rw [if_neg hw] at h0
    exact h0
end
end Go.Proofs.Ytpfkmklhfafkiaa
