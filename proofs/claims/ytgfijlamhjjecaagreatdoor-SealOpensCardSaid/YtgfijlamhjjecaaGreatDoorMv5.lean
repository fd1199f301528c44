/-
  Texts Plan2, ShaC, ShaD, EdiW, WrapP, one behind the other. No condition beyond those stated in each.
-/
import Derived.Test.YtgfijlamhjjecaaGreatDoorMv1
import Derived.Test.YtgfijlamhjjecaaGreatDoorMv4
import Derived.Deep.CutBlock
import Derived.Lib.ItoaNum
import Derived.Lib.ParseIntBCases
namespace Go.Proofs.YtgfijlamhjjecaaGreatDoor
open Go.RowKit
section
variable {P : Program} {ops : Array Oper} {Q : Exit → Act → World → Prop} {md : Region.Mode} {S : World → Prop} {f : Nat}
def Down (md : Region.Mode) (ops : Array Oper) (L : Array Bool) : Prop := ∀ j o, ops[j]? = some o → L.getD j false = true → ∀ e ∈ o.after, Region.binds md e = true → L.getD e.on false = true
theorem Down.set {L : Array Bool} {i : Nat} (h : Down md ops L) (hr : i ∈ Region.ready md ops L) : Down md ops (L.setIfInBounds i true) := by
 intro j o ho hl e he hb
 by_cases hji : i = j
 · subst hji
   obtain ⟨_, o', ho', hall⟩ := mem_ready.1 hr
   rw [ho] at ho'; cases ho'
   exact getD_set_true (hall e he hb)
 · rw [getD_set_ne false hji] at hl
   exact getD_set_true (h j o ho hl e he hb)
def reachB (md : Region.Mode) (ops : Array Oper) : Nat → Nat → Nat → Bool
 | 0, g, i => g == i
 | n + 1, g, i => g == i || (match ops[g]? with | none => false | some o => o.after.any fun e => Region.binds md e && reachB md ops n e.on i)
theorem reach_listed {L : Array Bool} (h : Down md ops L) : ∀ (n g i : Nat), reachB md ops n g i = true → L.getD g false = true → L.getD i false = true
 | 0, g, i, hr, hg => by simp only [reachB, beq_iff_eq] at hr; subst hr; exact hg
 | n + 1, g, i, hr, hg => by
   simp only [reachB, Bool.or_eq_true, beq_iff_eq] at hr
   rcases hr with hr | hr
   · subst hr; exact hg
   · cases ho : ops[g]? with
     | none => rw [ho] at hr; cases hr
     | some o =>
       rw [ho] at hr
       obtain ⟨e, he, hb⟩ := Array.any_eq_true'.1 hr
       rw [Bool.and_eq_true] at hb
       exact reach_listed h n e.on i hb.2 (h g o ho hg e he hb.1)
def CF (f : Nat) (S : World → Prop) (L : Array Bool) (w : World) : Prop := L.getD f false = true ∨ S w
def wpAnyF (P : Program) (md : Region.Mode) (ops : Array Oper) (Q : Exit → Act → World → Prop) (S : World → Prop) (f : Nat) : Nat → Array Bool → Act → World → Prop
 | 0, listed, a, w => Region.ready md ops listed = [] ∧ Q .normal a w
 | fuel + 1, listed, a, w =>
   (Region.ready md ops listed = [] → Q .normal a w) ∧
   ∀ i ∈ Region.ready md ops listed, wpOp P ops Q i (fun a' w' => CF f S (listed.setIfInBounds i true) w' ∧ wpAnyF P md ops Q S f fuel (listed.setIfInBounds i true) a' w') a w
theorem wpAny_of_F : ∀ (fuel : Nat) (listed : Array Bool) (a : Act) (w : World), wpAnyF P md ops Q S f fuel listed a w → wpAny P md ops Q fuel listed a w
 | 0, _, _, _, h => h
 | fuel + 1, _, _, _, h => ⟨h.1, fun i hi => wpOp_mono (fun a' w' h' => wpAny_of_F fuel _ a' w' h'.2) (h.2 i hi)⟩
theorem listed_true {L : Array Bool} {i : Nat} (h : L.getD i true = false) : L.getD i false = false := by
 rw [Array.getD_eq_getD_getElem?] at h ⊢
 cases hi : L[i]? with
 | none => rfl
 | some b => rw [hi] at h; exact h
theorem wpAnyF_first {i : Nat} {oi : Oper} {v : Value} (hi : ops[i]? = some oi) (hsel : ∀ (j : Nat) (o : Oper) cs b, ops[j]? = some o → o.op ≠ .select cs b)
  (hQ : ∀ c a w, Q (.panic c) (a.put oi.dst v) w → Q (.panic c) a w) (hfi : f ≠ i) (hdep : ∀ L, Down md ops L → L.getD f false = true → L.getD i false = true) :
  ∀ (fuel : Nat) (listed : Array Bool) (a : Act) (w : World),
    (∀ j oj, ops[j]? = some oj → j ≠ i → listed.getD j true = false → (∀ e ∈ oj.after, Region.binds md e = true → e.on ≠ i) → oi.apart ops oj = true) →
    i ∈ Region.ready md ops listed → YieldsIf P ops S oi v a → Down md ops listed → CF f S listed w →
    wpAnyF P md ops Q S f fuel (listed.setIfInBounds i true) (a.put oi.dst v) w → wpAnyF P md ops Q S f (fuel + 1) listed a w := by
 have hSw : ∀ (listed : Array Bool) (w : World), i ∈ Region.ready md ops listed → Down md ops listed → CF f S listed w → S w := fun listed w hr hd hc => by
  rcases hc with hc | hc
  · have h1 := hdep listed hd hc
    have h2 := listed_true (mem_ready.1 hr).1
    rw [h1] at h2; cases h2
  · exact hc
 have hset : ∀ (listed : Array Bool) (w : World), CF f S (listed.setIfInBounds i true) w ↔ CF f S listed w := fun listed w => by
  unfold CF; rw [getD_set_ne false (Ne.symm hfi)]
 intro fuel
 induction fuel with
 | zero =>
   intro listed a w _ hr hy hd hc H
   refine ⟨fun h => (by rw [h] at hr; cases hr), fun j hj => ?_⟩
   by_cases hji : j = i
   · subst hji; exact hy.wpOp hi (hSw _ _ hr hd hc) ⟨(hset _ _).2 hc, H⟩
   · have := ready_mono hj hji
     rw [H.1] at this
     cases this
 | succ fuel ih =>
   intro listed a w hfree hr hy hd hc H
   refine ⟨fun h => (by rw [h] at hr; cases hr), fun j hj => ?_⟩
   by_cases hji : j = i
   · subst hji; exact hy.wpOp hi (hSw _ _ hr hd hc) ⟨(hset _ _).2 hc, H⟩
   · have h1 := H.2 j (ready_mono hj hji)
     obtain ⟨hjun, oj, hoj, hall⟩ := mem_ready.1 hj
     have hnot : ∀ e ∈ oj.after, Region.binds md e = true → e.on ≠ i := fun e he hb heq => by
      have h1 := hall e he hb
      have h0 := listed_true (mem_ready.1 hr).1
      rw [heq, h0] at h1
      cases h1
     have h2 := wpOp_putIf hoj (hfree j oj hoj hji hjun hnot) (fun cs b => hsel i oi cs b hi) (fun cs b => hsel j oj cs b hoj) hQ hy h1
     have hfree' : ∀ k ok, ops[k]? = some ok → k ≠ i → (listed.setIfInBounds j true).getD k true = false →
       (∀ e ∈ ok.after, Region.binds md e = true → e.on ≠ i) → oi.apart ops ok = true := fun k ok hk hki hun hno => by
      refine hfree k ok hk hki ?_ hno
      by_cases hjk : j = k
      · subst hjk; exact hjun
      · rw [getD_set_ne true hjk] at hun; exact hun
     refine wpOp_mono (fun a' w' h3 => ?_) h2
     rw [Array.setIfInBounds_comm _ _ (Ne.symm hji)] at h3
     have hc' := (hset _ _).1 h3.2.1
     exact ⟨hc', ih (listed.setIfInBounds j true) a' w' hfree' (ready_mono hr (Ne.symm hji)) h3.1 (hd.set hj) hc' h3.2.2⟩
def planBF (md : Region.Mode) (ops : Array Oper) (f : Nat) : List (Nat × Bool) → Array Bool → Bool
 | [], listed => (Region.ready md ops listed).isEmpty
 | (i, false) :: r, listed => (Region.ready md ops listed).contains i && Region.free md ops listed i && !(f == i) && reachB md ops 16 f i && planBF md ops f r (listed.setIfInBounds i true)
 | (i, true) :: r, listed => decide (Region.ready md ops listed = [i]) && planBF md ops f r (listed.setIfInBounds i true)
def planOKF (md : Region.Mode) (ops : Array Oper) (f : Nat) (plan : List (Nat × Bool)) : Bool :=
 Region.noSelect ops && decide (plan.length = ops.size) && planBF md ops f plan (Array.replicate ops.size false)
def wpPlanF (P : Program) (ops : Array Oper) (S : World → Prop) (f : Nat) (Q : Exit → Act → World → Prop) : List (Nat × Bool) → Act → World → Prop
 | [], a, w => Q .normal a w
 | (i, false) :: r, a, w => ∃ o v, ops[i]? = some o ∧ YieldsIf P ops S o v a ∧ wpPlanF P ops S f Q r (a.put o.dst v) w
 | (i, true) :: r, a, w => wpOp P ops Q i (fun a' w' => (i = f ∨ S w') ∧ wpPlanF P ops S f Q r a' w') a w
theorem wpPlanF_held (hs : Region.noSelect ops = true) (hQ : ∀ c a d v w, Q (.panic c) (a.put d v) w → Q (.panic c) a w) (hf : f < ops.size) :
  ∀ (plan : List (Nat × Bool)) (listed : Array Bool) (a : Act) (w : World), listed.size = ops.size → planBF md ops f plan listed = true → Down md ops listed → CF f S listed w → wpPlanF P ops S f Q plan a w → wpAnyF P md ops Q S f plan.length listed a w
 | [], listed, a, w, _, hB, _, _, h => ⟨by simpa [planBF] using hB, h⟩
 | (i, false) :: r, listed, a, w, hz, hB, hd, hc, h => by
   simp only [planBF, Bool.and_eq_true, Bool.not_eq_true', beq_eq_false_iff_ne] at hB
   obtain ⟨o, v, hi, hy, h⟩ := h
   have hr : i ∈ Region.ready md ops listed := by simpa using hB.1.1.1.1
   exact wpAnyF_first hi (Region.noSelect_spec hs) (fun c a w => hQ c a _ _ w) hB.1.1.2 (fun L hL hf => reach_listed hL 16 f i hB.1.2 hf) _ listed a w (Region.free_spec hi hB.1.1.1.2) hr hy hd hc
    (wpPlanF_held hs hQ hf r _ _ _ (by simpa using hz) hB.2 (hd.set hr) (by unfold CF at hc ⊢; rw [getD_set_ne false (Ne.symm hB.1.1.2)]; exact hc) h)
 | (i, true) :: r, listed, a, w, hz, hB, hd, hc, h => by
   simp only [planBF, Bool.and_eq_true, decide_eq_true_eq] at hB
   show wpAnyF P md ops Q S f (r.length + 1) listed a w
   refine ⟨fun h0 => (by rw [hB.1] at h0; cases h0), fun j hj => ?_⟩
   have hj' := hj
   rw [hB.1] at hj
   have e : j = i := by simpa using hj
   subst e
   refine wpOp_mono (fun a' w' h' => ?_) h
   have hc' : CF f S (listed.setIfInBounds j true) w' := by
    rcases h'.1 with h1 | h1
    · subst h1
      left
      rw [Array.getD_eq_getD_getElem?, Array.getElem?_setIfInBounds_self_of_lt (by omega)]; rfl
    · exact .inr h1
   exact ⟨hc', wpPlanF_held hs hQ hf r _ _ _ (by simpa using hz) hB.2 (hd.set hj') hc' h'.2⟩
theorem down_start (n : Nat) : Down md ops (Array.replicate n false) := by
 intro j o _ hl
 rw [Array.getD_eq_getD_getElem?, Array.getElem?_replicate] at hl
 split at hl <;> simp at hl
theorem wp_region_planF {id : Nat} {a : Act} {w : World} {l : List Oper} (f : Nat) (plan : List (Nat × Bool)) (S : World → Prop) (hm : P.follows .mixedOrders = true) (hB : (planOKF .any l.toArray f plan && decide (f < l.length)) = true) (hS : S w.drew)
  (h : wpPlanF P l.toArray S f (NoPanic Q) plan a w.drew) : (Code.region id l.toArray true).wp P Q a w := by
 simp only [planOKF, Bool.and_eq_true, decide_eq_true_eq] at hB
 refine wp_region_noPanic (wp_region_any hm (wpAny_of_F (S := S) (f := f) _ _ _ _ ?_))
 have := wpPlanF_held (md := .any) (f := f) (S := S) hB.1.1.1 (Q := NoPanic Q) (fun c a d v w h => h) (by simpa using hB.2) plan _ a w.drew (by simp) hB.1.2 (down_start _) (.inr hS) h
 rw [hB.1.1.2] at this
 exact this
theorem planF_val {l : List Oper} {i : Nat} {o : Oper} {v : Value} {r : List (Nat × Bool)} {a : Act} {w : World} (hi : nthO l i = some o) (hw : Region.wanted o (yielded l.toArray a.tmps) = true)
  (hrun : ∀ w', S w' → (execOp a.eval o).run P w' = .ok (.value v) w') (h : wpPlanF P l.toArray S f Q r (a.put o.dst v) w) : wpPlanF P l.toArray S f Q ((i, false) :: r) a w :=
 ⟨o, v, by rw [List.getElem?_toArray, ← nthO_eq]; exact hi, .inl ⟨hw, hrun⟩, h⟩
theorem planF_nil {a : Act} {w : World} (h : Q .normal a w) : wpPlanF P ops S f (NoPanic Q) [] a w := h
theorem planF_do {l : List Oper} {i : Nat} {o : Oper} {r : List (Nat × Bool)} {a : Act} {w : World} (hi' : nthO l i = some o)
  (h : ∀ K : Act → World → Prop, (∀ a' w', (i = f ∨ S w') → wpPlanF P l.toArray S f Q r a' w' → K a' w') → wpList P l.toArray (Exit.then K Q) [o] a w) : wpPlanF P l.toArray S f Q ((i, true) :: r) a w := by
 have hi : l.toArray[i]? = some o := by rw [List.getElem?_toArray, ← nthO_eq]; exact hi'
 have h0 := h _ (fun a' w' h1 h2 => (⟨h1, h2⟩ : (i = f ∨ S w') ∧ wpPlanF P l.toArray S f Q r a' w'))
 show wpOp P l.toArray Q i _ a w
 unfold wpOp
 rw [hi]
 simp only [wpList] at h0 ⊢
 split
 · rename_i hw
   rw [if_pos hw] at h0
   rcases h0 with h0 | ⟨h0, a1, w1, h1⟩
   · exact .inl (Oper.wp_post (fun _ _ _ h => h) (fun ⟨a, w, h⟩ => ⟨a, w, h⟩) h0)
   · exact .inr ⟨h0, a1, w1, h1⟩
 · rename_i hw
   rw [if_neg hw] at h0
   exact h0
end
structure VarsK (w : World) : Prop where
 c : ∀ i k : Nat, shaK[i]? = some k → w.cell? ⟨0, i, none⟩ = some (.int .u32 (k : Int))
theorem VarsK.fr {F : List Nat} {w w' : World} (h : VarsK w) (hf : Fr F w w') (hF : 0 ∉ F) : VarsK w' :=
 ⟨fun i k hk => by
  have h1 := h.c i k hk
  exact (World.cell?_of_block (a := ⟨0, i, none⟩) (hf.block _ (cell_lt' h1) hF)).trans h1⟩
theorem wpList_alloc_cells {P : Program} {ops : Array Oper} {rest : List Oper} {o : Oper} {a : Act} {w : World} {Q : Exit → Act → World → Prop} (hgd : o.guard = none) (ty : TypeId) (ho : o.op = .alloc ty) (cs : Array Value) (hz : ∀ w, (zeroValue ty).run P w = .ok (.agg cs) w)
  (h : wpList P ops Q rest (a.put o.dst (.pointer (some ⟨w.heap.size, 0, none⟩))) (w.alloc (.cells cs ty))) : wpList P ops Q (o :: rest) a w := by
 refine wpList_val (v := .pointer (some ⟨w.heap.size, 0, none⟩)) (w' := w.alloc (.cells cs ty)) hgd ?_ h
 unfold execOp
 simp only [ho, Instr.alloc, Sem.run_bind, hz, Result.andThen_ok, newVar, newRow, newObj, Sem.run, Value.cells, Sem.run_pure]
 rfl
def pad64 (l : List Nat) : List Value := (l ++ List.replicate (64 - l.length) 0).map uv
theorem pad64_set {l : List Nat} (h : l.length < 64) (x : Nat) : (pad64 l).set l.length (uv x) = pad64 (l ++ [x]) := by
 unfold pad64
 rw [← List.map_set, List.set_append_right _ _ (Nat.le_refl _), Nat.sub_self, List.length_append, List.length_singleton, show 64 - l.length = (64 - (l.length + 1)) + 1 by omega, List.replicate_succ, List.set_cons_zero, List.append_assoc]
 rfl
theorem pad64_get {l : List Nat} {j x : Nat} (h : l[j]? = some x) : (pad64 l)[j]? = some (uv x) := by
 unfold pad64
 rw [List.getElem?_map, List.getElem?_append_left (List.getElem?_eq_some_iff.1 h).1, h]; rfl
theorem pad64_cell {l : List Nat} {w : World} {b j x : Nat} {t : TypeId} (hb : w.heap[b]? = some (.cells (pad64 l).toArray t (0, 0))) (h : l[j]? = some x) : w.cell? ⟨b, j, none⟩ = some (.int .u32 (x : Int)) := by
 rw [cell_of_row w b j _ _ _ hb, List.getElem?_toArray]; exact pad64_get h
theorem pad64_store {w : World} {B k : Nat} {l : List Nat} {t : TypeId} (h : w.heap[B]? = some (.cells (pad64 l).toArray t (0, 0))) (hl : l.length = k) (hk : k < 64) (x : Nat) : (w.setCell ⟨B, k, none⟩ (.int .u32 (x : Int))).heap[B]? = some (.cells (pad64 (l ++ [x])).toArray t (0, 0)) := by
 rw [heap_setCell_same w B k _ _ _ h, List.setIfInBounds_toArray]
 subst hl
 rw [show (Value.int .u32 (x : Int)) = uv x from rfl, pad64_set hk]
theorem pad64_zero {w : World} {B k : Nat} {l : List Nat} {t : TypeId} (h : w.heap[B]? = some (.cells (pad64 l).toArray t (0, 0))) (hl : l.length = k) (hk : k < 64) : w.cell? ⟨B, k, none⟩ = some (.int .u32 0) := by
 rw [cell_of_row w B k _ _ _ h, List.getElem?_toArray]
 unfold pad64
 rw [List.getElem?_map, List.getElem?_append_right (by rw [hl]; exact Nat.le_refl _), hl, Nat.sub_self, List.getElem?_replicate, if_pos (by omega)]; rfl
def plusL (s v : V8) (j : Nat) : List Nat := (List.range 8).map fun i => if i < j then add32 (s.l.getD i 0) (v.l.getD i 0) else s.l.getD i 0
theorem plusL_zero (s v : V8) : plusL s v 0 = s.l := rfl
theorem plusL_set (s v : V8) (lv nv : Value) {j : Nat} (hj : j < 8) : ((plusL s v j).map uv ++ [lv, nv]).set j (uv (add32 (s.l.getD j 0) (v.l.getD j 0))) = (plusL s v (j + 1)).map uv ++ [lv, nv] := by
 have h : j = 0 ∨ j = 1 ∨ j = 2 ∨ j = 3 ∨ j = 4 ∨ j = 5 ∨ j = 6 ∨ j = 7 := by omega
 rcases h with rfl | rfl | rfl | rfl | rfl | rfl | rfl | rfl <;> rfl
theorem plusL_get (s v : V8) (lv nv : Value) {j : Nat} (hj : j < 8) : ((plusL s v j).map uv ++ [lv, nv])[j]? = some (uv (s.l.getD j 0)) := by
 have h : j = 0 ∨ j = 1 ∨ j = 2 ∨ j = 3 ∨ j = 4 ∨ j = 5 ∨ j = 6 ∨ j = 7 := by omega
 rcases h with rfl | rfl | rfl | rfl | rfl | rfl | rfl | rfl <;> rfl
theorem w8_get (v : V8) {j : Nat} (hj : j < 8) : (W8c v)[j]? = some (uv (v.l.getD j 0)) := by
 have h : j = 0 ∨ j = 1 ∨ j = 2 ∨ j = 3 ∨ j = 4 ∨ j = 5 ∨ j = 6 ∨ j = 7 := by omega
 rcases h with rfl | rfl | rfl | rfl | rfl | rfl | rfl | rfl <;> rfl
theorem shaK_get {k : Nat} (h : k < 64) : shaK[k]? = some (shaK.getD k 0) := by
 rw [List.getD_eq_getElem?_getD, List.getElem?_eq_getElem (by show k < 64; exact h)]; rfl
theorem zero64 : ∀ w, (zeroValue 224).run Tryz.prog w = .ok (.agg (pad64 []).toArray) w := fun _ => by kernel_rfl
set_option maxRecDepth 100000 in
set_option maxHeartbeats 4000000 in
theorem mix_any (s : V8) (hs : s.ok) (blk : Str) (hl : blk.length = 64) (hb bb bo cap : Nat) (lv nv : Value) (w : World) (hH : w.heap[hb]? = some (.cells (W8c s ++ [lv, nv]).toArray 229 (0, 0)))
  (hB : ∀ i c, blk[i]? = some c → w.cell? ⟨bb, bo + i, none⟩ = some (bv c)) (hK : VarsK w) :
  Calls Tryz.prog 150 #[.pointer (some ⟨hb, 0, none⟩), .slice (some ⟨bb, bo, none⟩) 64 cap] w fun e w' => e = .returned (.tuple #[]) ∧ w'.heap[hb]? = some (.cells (W8c (mixN s blk) ++ [lv, nv]).toArray 229 (0, 0)) ∧ Fr [hb] w w' := by
 obtain ⟨B, hB0⟩ : ∃ B, w.heap.size = B := ⟨_, rfl⟩
 have HBQ := Lib.hid hB0
 have HH := Lib.hid hH
 have HBY := Lib.hid hB
 have HK := Lib.hid hK
 have HS := Lib.hid hs
 have HL := Lib.hid hl
 clear hB0 hH hB hK hs hl
 go_enter Tryz.func150, Tryz.ntmps150
 go_upto_region 1 with ((with_reducible refine wpList_at (.alloc 224) rfl ?_); refine wpList_alloc_cells rfl _ rfl _ zero64 ?_)
 obtain ⟨w1, hw1⟩ : ∃ u, w.alloc (.cells (pad64 []).toArray 224) = u := ⟨_, rfl⟩
 rw [hw1, HBQ.out]
 have HW1 : Hid (w1.heap[B]? = some (.cells (pad64 []).toArray 224 (0, 0))) := Lib.hid (by rw [← hw1, ← HBQ.out]; exact heap_alloc_new _ _)
 have HB1 : Hid (Below B w w1) := Lib.hid (by rw [← hw1, ← HBQ.out]; exact (Below.refl _ _).alloc (Nat.le_refl _) _)
 have HZ1 : Hid (w1.heap.size = B + 1) := Lib.hid (by rw [← hw1, ← HBQ.out]; simp)
 clear hw1
 go_upto_block 0 with fail
 go_cut [] from 13 to 51 (fun wr => Hid (wr.heap[B]? = some (.cells (pad64 (words16 blk)).toArray 224 (0, 0))) ∧ Hid (Below B w wr) ∧ Hid (wr.heap.size = B + 1))
 case first => as_aux_lemma =>
  go_wp2_with fail
  go_loopw [13] (fun i wr => ∃ k : Nat, k ≤ 16 ∧ i = .int .i64 (k : Int) ∧ Hid (wr.heap[B]? = some (.cells (pad64 ((words16 blk).take k)).toArray 224 (0, 0))) ∧ Hid (Below B w wr) ∧ Hid (wr.heap.size = B + 1)) (fun i _ => 16 - (intOf i).toNat)
  case atStart => exact ⟨0, Nat.zero_le _, rfl, HW1, HB1, HZ1⟩
  case round =>
   obtain ⟨k, hk, rfl, HWR, HBR, HZR⟩ := hrel
   by_cases hlt : k < 16
   · have b1 : (0 : Int) ≤ k := by omega
     have b2 : (k : Int) < 16 := by omega
     have b3 : (k : Int) < 64 := by omega
     have g1 : IntKind.i64.wrap (4 * (k : Int)) = 4 * (k : Int) := IntWalk.i64_in _ (by omega)
     have g2 : IntKind.i64.wrap (4 * (k : Int) + 1) = 4 * (k : Int) + 1 := IntWalk.i64_in _ (by omega)
     have g3 : IntKind.i64.wrap (4 * (k : Int) + 2) = 4 * (k : Int) + 2 := IntWalk.i64_in _ (by omega)
     have g4 : IntKind.i64.wrap (4 * (k : Int) + 3) = 4 * (k : Int) + 3 := IntWalk.i64_in _ (by omega)
     obtain ⟨x0, h0⟩ : ∃ c, blk[4 * k]? = some c := ⟨_, List.getElem?_eq_getElem (by rw [HL.out]; omega)⟩
     obtain ⟨x1, h1⟩ : ∃ c, blk[4 * k + 1]? = some c := ⟨_, List.getElem?_eq_getElem (by rw [HL.out]; omega)⟩
     obtain ⟨x2, h2⟩ : ∃ c, blk[4 * k + 2]? = some c := ⟨_, List.getElem?_eq_getElem (by rw [HL.out]; omega)⟩
     obtain ⟨x3, h3⟩ : ∃ c, blk[4 * k + 3]? = some c := ⟨_, List.getElem?_eq_getElem (by rw [HL.out]; omega)⟩
     have c0 : wr.cell? ⟨bb, bo + 4 * k, none⟩ = some (.int .u8 (x0.toNat : Int)) := by
      have := HBY.out _ _ h0
      exact (HBR.out.cell (p := ⟨bb, bo + 4 * k, none⟩) (by rw [← HBQ.out]; exact cell_lt' this)).trans this
     obtain ⟨y0, hy0⟩ : ∃ u, x0.toNat = u := ⟨_, rfl⟩
     have yl0 : y0 < 256 := by rw [← hy0]; exact x0.toNat_lt
     rw [hy0] at c0
     have w0 : IntKind.u32.wrap (y0 : Int) = (y0 : Int) := IntWalk.u32_in _ (by omega)
     have c1 : wr.cell? ⟨bb, bo + (4 * k + 1), none⟩ = some (.int .u8 (x1.toNat : Int)) := by
      have := HBY.out _ _ h1
      exact (HBR.out.cell (p := ⟨bb, bo + (4 * k + 1), none⟩) (by rw [← HBQ.out]; exact cell_lt' this)).trans this
     obtain ⟨y1, hy1⟩ : ∃ u, x1.toNat = u := ⟨_, rfl⟩
     have yl1 : y1 < 256 := by rw [← hy1]; exact x1.toNat_lt
     rw [hy1] at c1
     have w1 : IntKind.u32.wrap (y1 : Int) = (y1 : Int) := IntWalk.u32_in _ (by omega)
     have c2 : wr.cell? ⟨bb, bo + (4 * k + 2), none⟩ = some (.int .u8 (x2.toNat : Int)) := by
      have := HBY.out _ _ h2
      exact (HBR.out.cell (p := ⟨bb, bo + (4 * k + 2), none⟩) (by rw [← HBQ.out]; exact cell_lt' this)).trans this
     obtain ⟨y2, hy2⟩ : ∃ u, x2.toNat = u := ⟨_, rfl⟩
     have yl2 : y2 < 256 := by rw [← hy2]; exact x2.toNat_lt
     rw [hy2] at c2
     have w2 : IntKind.u32.wrap (y2 : Int) = (y2 : Int) := IntWalk.u32_in _ (by omega)
     have c3 : wr.cell? ⟨bb, bo + (4 * k + 3), none⟩ = some (.int .u8 (x3.toNat : Int)) := by
      have := HBY.out _ _ h3
      exact (HBR.out.cell (p := ⟨bb, bo + (4 * k + 3), none⟩) (by rw [← HBQ.out]; exact cell_lt' this)).trans this
     obtain ⟨y3, hy3⟩ : ∃ u, x3.toNat = u := ⟨_, rfl⟩
     have yl3 : y3 < 256 := by rw [← hy3]; exact x3.toNat_lt
     rw [hy3] at c3
     have w3 : IntKind.u32.wrap (y3 : Int) = (y3 : Int) := IntWalk.u32_in _ (by omega)
     have n0 : (4 * (k : Int)).toNat = 4 * k := by omega
     have n1 : (4 * (k : Int) + 1).toNat = 4 * k + 1 := by omega
     have n2 : (4 * (k : Int) + 2).toNat = 4 * k + 2 := by omega
     have n3 : (4 * (k : Int) + 3).toNat = 4 * k + 3 := by omega
     have l0 : 4 * (k : Int) < 64 := by omega
     have l1 : 4 * (k : Int) + 1 < 64 := by omega
     have l2 : 4 * (k : Int) + 2 < 64 := by omega
     have l3 : 4 * (k : Int) + 3 < 64 := by omega
     have m0 : (0 : Int) ≤ 4 * (k : Int) := by omega
     have m1 : (0 : Int) ≤ 4 * (k : Int) + 1 := by omega
     have m2 : (0 : Int) ≤ 4 * (k : Int) + 2 := by omega
     have m3 : (0 : Int) ≤ 4 * (k : Int) + 3 := by omega
     obtain ⟨z0, hz0⟩ : ∃ u, y0 * 16777216 = u := ⟨_, rfl⟩
     obtain ⟨z1, hz1⟩ : ∃ u, y1 * 65536 = u := ⟨_, rfl⟩
     obtain ⟨z2, hz2⟩ : ∃ u, y2 * 256 = u := ⟨_, rfl⟩
     have s0 : IntKind.u32.wrap ((y0 : Int) * 16777216) = (z0 : Int) := by rw [IntWalk.u32_in _ (by omega)]; omega
     have s1 : IntKind.u32.wrap ((y1 : Int) * 65536) = (z1 : Int) := by rw [IntWalk.u32_in _ (by omega)]; omega
     have s2 : IntKind.u32.wrap ((y2 : Int) * 256) = (z2 : Int) := by rw [IntWalk.u32_in _ (by omega)]; omega
     have o1 : bits .or .u32 (z0 : Int) (z1 : Int) = ((z0 + z1 : Nat) : Int) := by rw [u32_or_nat _ _ (by omega) (by omega), nat_join 24 z0 z1 (by omega) (by omega)]
     obtain ⟨q1, hq1⟩ : ∃ u, z0 + z1 = u := ⟨_, rfl⟩
     rw [hq1] at o1
     have o2 : bits .or .u32 (q1 : Int) (z2 : Int) = ((q1 + z2 : Nat) : Int) := by rw [u32_or_nat _ _ (by omega) (by omega), nat_join 16 q1 z2 (by omega) (by omega)]
     obtain ⟨q2, hq2⟩ : ∃ u, q1 + z2 = u := ⟨_, rfl⟩
     rw [hq2] at o2
     have o3 : bits .or .u32 (q2 : Int) (y3 : Int) = ((q2 + y3 : Nat) : Int) := by rw [u32_or_nat _ _ (by omega) (by omega), nat_join 8 q2 y3 (by omega) (by omega)]
     obtain ⟨q3, hq3⟩ : ∃ u, q2 + y3 = u := ⟨_, rfl⟩
     rw [hq3] at o3
     have HQ3 : Hid (word4 blk k = q3) := Lib.hid (by
      unfold word4
      simp only [List.getD_eq_getElem?_getD, h0, h1, h2, h3, Option.getD_some]
      rw [hy0, hy1, hy2, hy3, hz0, hz1, hz2, hq1, hq2, hq3])
     have HTK : Hid ((words16 blk).take k ++ [q3] = (words16 blk).take (k + 1)) := Lib.hid (by
      have e : (words16 blk)[k]? = some q3 := by simp [words16, hlt, HQ3.out]
      rw [List.take_add_one, e]; rfl)
     have hlen : ((words16 blk).take k).length = k := by rw [List.length_take, words16_len]; omega
     have HLN := Lib.hid hlen
     have hfz : wr.frozen? ⟨B, k, none⟩ = false := frozen_of_row wr B k _ _ HWR.out
     have hcz : wr.cell? ⟨B, k, none⟩ = some (.int .u32 0) := pad64_zero HWR.out hlen (by omega)
     clear h0 h1 h2 h3 hy0 hy1 hy2 hy3 hz0 hz1 hz2 hq1 hq2 hq3 hlen yl0 yl1 yl2 yl3
     go_upto_region 4 with fail
     go_still_tail 35, (by kernel_rfl)
     go_wp2_with fail
     go_roundw
     case rel => exact ⟨k + 1, by omega, by go_num, Lib.hid (by rw [← HTK.out]; exact pad64_store HWR.out HLN.out (by omega) q3), Lib.hid (HBR.out.setCell (Nat.le_refl _) _).drew, Lib.hid (by simp [HZR.out])⟩
     case measure => simp [intOf]; omega
   · obtain rfl : k = 16 := by omega
     go_wp2_with fail
     go_meet
     case rel => exact ⟨by rw [List.take_of_length_le (by rw [words16_len]; omega)] at HWR; exact HWR, HBR, HZR⟩
 case rest =>
  obtain ⟨HW2, HB2, HZ2⟩ := hcut
  obtain ⟨w2, hw2⟩ : ∃ u, u = wc := ⟨_, rfl⟩
  rw [← hw2] at HW2 HB2 HZ2 ⊢
  clear hw2 HW1 HB1 HZ1
  go_upto_block 2 with fail
  go_cut [] from 52 to 92 (fun wr => Hid (wr.heap[B]? = some (.cells (pad64 (wext (words16 blk) 48)).toArray 224 (0, 0))) ∧ Hid (Below B w wr) ∧ Hid (wr.heap.size = B + 1))
  case first => as_aux_lemma =>
   go_wp2_with fail
   go_loopw [6] (fun i wr => ∃ n : Nat, 16 ≤ n ∧ n ≤ 64 ∧ i = .int .i64 (n : Int) ∧ Hid (wr.heap[B]? = some (.cells (pad64 (wext (words16 blk) (n - 16))).toArray 224 (0, 0))) ∧ Hid (Below B w wr) ∧ Hid (wr.heap.size = B + 1)) (fun i _ => 64 - (intOf i).toNat)
   case atStart => exact ⟨16, Nat.le_refl _, by omega, rfl, HW2, HB2, HZ2⟩
   case round =>
    obtain ⟨n, hn0, hn, rfl, HWR, HBR, HZR⟩ := hrel
    by_cases hlt : n < 64
    · have b1 : (0 : Int) ≤ n := by omega
      have b2 : (n : Int) < 64 := by omega
      obtain ⟨m16, h16⟩ : ∃ m, n - 16 = m := ⟨_, rfl⟩
      obtain ⟨m15, h15⟩ : ∃ m, n - 15 = m := ⟨_, rfl⟩
      obtain ⟨m7, h7⟩ : ∃ m, n - 7 = m := ⟨_, rfl⟩
      obtain ⟨m2, h2⟩ : ∃ m, n - 2 = m := ⟨_, rfl⟩
      have g16 : IntKind.i64.wrap ((n : Int) - 16) = (m16 : Int) := by rw [IntWalk.i64_in _ (by omega)]; omega
      have g15 : IntKind.i64.wrap ((n : Int) - 15) = (m15 : Int) := by rw [IntWalk.i64_in _ (by omega)]; omega
      have g7 : IntKind.i64.wrap ((n : Int) - 7) = (m7 : Int) := by rw [IntWalk.i64_in _ (by omega)]; omega
      have g2 : IntKind.i64.wrap ((n : Int) - 2) = (m2 : Int) := by rw [IntWalk.i64_in _ (by omega)]; omega
      have l16 : (m16 : Int) < 64 := by omega
      have l15 : (m15 : Int) < 64 := by omega
      have l7 : (m7 : Int) < 64 := by omega
      have l2 : (m2 : Int) < 64 := by omega
      obtain ⟨l, hl⟩ : ∃ l, wext (words16 blk) (n - 16) = l := ⟨_, rfl⟩
      have hlen : l.length = n := by rw [← hl, wext_len (words16_len blk)]; omega
      have hwd : Wds l := by rw [← hl]; exact wext_wds (words16_wds blk) _
      have hnx : l ++ [wnext l n] = wext (words16 blk) (n + 1 - 16) := by
       rw [show n + 1 - 16 = (n - 16) + 1 by omega]
       unfold wext
       rw [hl, show 16 + (n - 16) = n by omega]
      rw [hl] at HWR
      obtain ⟨xa, ha⟩ : ∃ c, l[m16]? = some c := ⟨_, List.getElem?_eq_getElem (by omega)⟩
      obtain ⟨xb, hb'⟩ : ∃ c, l[m15]? = some c := ⟨_, List.getElem?_eq_getElem (by omega)⟩
      obtain ⟨xc, hc⟩ : ∃ c, l[m7]? = some c := ⟨_, List.getElem?_eq_getElem (by omega)⟩
      obtain ⟨xd, hd⟩ : ∃ c, l[m2]? = some c := ⟨_, List.getElem?_eq_getElem (by omega)⟩
      have lb : xb < 4294967296 := hwd _ (List.mem_of_getElem? hb')
      have ld : xd < 4294967296 := hwd _ (List.mem_of_getElem? hd)
      have HNX : Hid (add32 (add32 (add32 xa xc) (smlS0 xb)) (smlS1 xd) = wnext l n) := Lib.hid (by
       unfold wnext
       rw [h16, h15, h7, h2]
       simp only [List.getD_eq_getElem?_getD, ha, hb', hc, hd, Option.getD_some])
      have HCA : Hid (∀ u : World, u.heap[B]? = some (.cells (pad64 l).toArray 224 (0, 0)) → u.cell? ⟨B, m16, none⟩ = some (.int .u32 (xa : Int)) ∧ u.cell? ⟨B, m7, none⟩ = some (.int .u32 (xc : Int))) := Lib.hid (fun u hu => ⟨pad64_cell hu ha, pad64_cell hu hc⟩)
      have c15 := pad64_cell HWR.out hb'
      have c2 := pad64_cell HWR.out hd
      have t1 := fun w => turn_any xb 7 7 rfl (by decide) lb w
      have t2 := fun w => turn_any xb 18 18 rfl (by decide) lb w
      have t3 := fun w => turn_any xd 17 17 rfl (by decide) ld w
      have t4 := fun w => turn_any xd 19 19 rfl (by decide) ld w
      have r1 := rotN_lt (n := 7) lb
      have r2 := rotN_lt (n := 18) lb
      have r3 := rotN_lt (n := 17) ld
      have r4 := rotN_lt (n := 19) ld
      obtain ⟨p1, hp1⟩ : ∃ u, rotN xb 7 = u := ⟨_, rfl⟩
      obtain ⟨p2, hp2⟩ : ∃ u, rotN xb 18 = u := ⟨_, rfl⟩
      obtain ⟨p3, hp3⟩ : ∃ u, rotN xd 17 = u := ⟨_, rfl⟩
      obtain ⟨p4, hp4⟩ : ∃ u, rotN xd 19 = u := ⟨_, rfl⟩
      rw [hp1] at t1 r1
      rw [hp2] at t2 r2
      rw [hp3] at t3 r3
      rw [hp4] at t4 r4
      have T1 := Lib.hid t1
      have T2 := Lib.hid t2
      have T3 := Lib.hid t3
      have T4 := Lib.hid t4
      have s1 := xor_bits r1 r2
      have s1l := xor_lt32 r1 r2
      obtain ⟨q1, hq1⟩ : ∃ u, p1 ^^^ p2 = u := ⟨_, rfl⟩
      rw [hq1] at s1 s1l
      obtain ⟨v1, hv1⟩ : ∃ u, xb / 8 = u := ⟨_, rfl⟩
      have e1 : (xb : Int) / 8 = (v1 : Int) := by omega
      have s2 := xor_bits s1l (show v1 < 4294967296 by omega)
      obtain ⟨q2, hq2⟩ : ∃ u, q1 ^^^ v1 = u := ⟨_, rfl⟩
      rw [hq2] at s2
      have s3 := xor_bits r3 r4
      have s3l := xor_lt32 r3 r4
      obtain ⟨q3, hq3⟩ : ∃ u, p3 ^^^ p4 = u := ⟨_, rfl⟩
      rw [hq3] at s3 s3l
      obtain ⟨v2, hv2⟩ : ∃ u, xd / 1024 = u := ⟨_, rfl⟩
      have e2 : (xd : Int) / 1024 = (v2 : Int) := by omega
      have s4 := xor_bits s3l (show v2 < 4294967296 by omega)
      obtain ⟨q4, hq4⟩ : ∃ u, q3 ^^^ v2 = u := ⟨_, rfl⟩
      rw [hq4] at s4
      have a1 := add_bits xa xc
      obtain ⟨y1, hy1⟩ : ∃ u, add32 xa xc = u := ⟨_, rfl⟩
      rw [hy1] at a1
      have a2 := add_bits y1 q2
      obtain ⟨y2, hy2⟩ : ∃ u, add32 y1 q2 = u := ⟨_, rfl⟩
      rw [hy2] at a2
      have a3 := add_bits y2 q4
      obtain ⟨y3, hy3⟩ : ∃ u, add32 y2 q4 = u := ⟨_, rfl⟩
      rw [hy3] at a3
      have HY : Hid (l ++ [y3] = wext (words16 blk) (n + 1 - 16)) := Lib.hid (by
       rw [← hnx, ← HNX.out]
       unfold smlS0 smlS1
       rw [hp1, hp2, hq1, hv1, hq2, hp3, hp4, hq3, hv2, hq4, hy1, hy2, hy3])
      have HLE := Lib.hid hlen
      clear t1 t2 t3 t4 r1 r2 r3 r4 hp1 hp2 hp3 hp4 hq1 hq2 hq3 hq4 hv1 hv2 hy1 hy2 hy3 s1l s3l ha hb' hc hd hl hlen hwd hnx h16 h15 h7 h2 lb ld
      go_upto_region 9 with fail
      go_quiet (fail)
      generalize hw3 : wr.drewN _ = w3
      have HW3 : Hid (w3.heap[B]? = some (.cells (pad64 l).toArray 224 (0, 0))) := Lib.hid (by rw [← hw3]; exact HWR.out)
      have HB3 : Hid (Below B w w3) := Lib.hid (by rw [← hw3]; exact below_drewN HBR.out _)
      have HZ3 : Hid (w3.heap.size = B + 1) := Lib.hid (by rw [← hw3]; exact HZR.out)
      clear hw3 c15 c2
      go_upto_region 10 with fail
      refine wp_region_planF 29 [(0, false), (1, false), (2, false), (3, false), (4, false), (5, false), (6, false), (7, false), (8, false), (9, false), (10, false), (12, false), (15, false), (16, false), (19, false), (21, false), (24, false), (25, false), (11, true), (13, true), (14, false), (17, false), (18, false), (20, true), (22, true), (23, false), (26, false), (27, false), (28, false), (29, true)] (fun u => u.cell? ⟨B, m16, none⟩ = some (.int .u32 (xa : Int)) ∧ u.cell? ⟨B, m7, none⟩ = some (.int .u32 (xc : Int))) (by kernel_rfl) (by kernel_rfl) (HCA.out _ HW3.out) ?_
      iterate 18 (refine' planF_val rfl rfl (fun w' hS => ?_) ?_; rotate_left; (focus (first | (obtain ⟨hS1, hS2⟩ := hS; go_simp; rfl) | (obtain ⟨hS1, hS2⟩ := hS; go_simp; done) | rfl)); simp only [Act.put, List.setIfInBounds_toArray, List.set_cons_zero, List.set_cons_succ])
      refine planF_do rfl (fun K hK => ?_)
      go_wp2_with (go_at_call 169; refine (T1.out _).mono ?_; rintro e wa1 ⟨rfl, dr, hdr⟩; have HA1 : Hid (wa1.heap = w3.heap) := Lib.hid (by rw [hdr]; rfl); have HX1 : Hid (Below B w wa1) := Lib.hid (by rw [hdr]; exact below_drewN HB3.out.drew dr); clear hdr)
      refine hK _ _ (.inr (HCA.out _ (by rw [HA1.out]; exact HW3.out))) ?_
      clear hK K
      refine planF_do rfl (fun K hK => ?_)
      go_wp2_with (go_at_call 169; refine (T2.out _).mono ?_; rintro e wa2 ⟨rfl, dr, hdr⟩; have HA2 : Hid (wa2.heap = w3.heap) := Lib.hid (by rw [hdr]; exact HA1.out); have HX2 : Hid (Below B w wa2) := Lib.hid (by rw [hdr]; exact below_drewN HX1.out dr); clear hdr)
      refine hK _ _ (.inr (HCA.out _ (by rw [HA2.out]; exact HW3.out))) ?_
      clear hK K
      iterate 3 (refine' planF_val rfl rfl (fun w' hS => ?_) ?_; rotate_left; (focus (first | (obtain ⟨hS1, hS2⟩ := hS; go_simp; rfl) | (obtain ⟨hS1, hS2⟩ := hS; go_simp; done) | rfl)); simp only [Act.put, List.setIfInBounds_toArray, List.set_cons_zero, List.set_cons_succ])
      refine planF_do rfl (fun K hK => ?_)
      go_wp2_with (go_at_call 169; refine (T3.out _).mono ?_; rintro e wa3 ⟨rfl, dr, hdr⟩; have HA3 : Hid (wa3.heap = w3.heap) := Lib.hid (by rw [hdr]; exact HA2.out); have HX3 : Hid (Below B w wa3) := Lib.hid (by rw [hdr]; exact below_drewN HX2.out dr); clear hdr)
      refine hK _ _ (.inr (HCA.out _ (by rw [HA3.out]; exact HW3.out))) ?_
      clear hK K
      refine planF_do rfl (fun K hK => ?_)
      go_wp2_with (go_at_call 169; refine (T4.out _).mono ?_; rintro e wa4 ⟨rfl, dr, hdr⟩; have HA4 : Hid (wa4.heap = w3.heap) := Lib.hid (by rw [hdr]; exact HA3.out); have HX4 : Hid (Below B w wa4) := Lib.hid (by rw [hdr]; exact below_drewN HX3.out dr); clear hdr)
      refine hK _ _ (.inr (HCA.out _ (by rw [HA4.out]; exact HW3.out))) ?_
      clear hK K
      iterate 4 (refine' planF_val rfl rfl (fun w' hS => ?_) ?_; rotate_left; (focus (first | (obtain ⟨hS1, hS2⟩ := hS; go_simp; rfl) | (obtain ⟨hS1, hS2⟩ := hS; go_simp; done) | rfl)); simp only [Act.put, List.setIfInBounds_toArray, List.set_cons_zero, List.set_cons_succ])
      have HW4 : Hid (wa4.heap[B]? = some (.cells (pad64 l).toArray 224 (0, 0))) := Lib.hid (by rw [HA4.out]; exact HW3.out)
      have hfz : wa4.frozen? ⟨B, n, none⟩ = false := frozen_of_row wa4 B n _ _ HW4.out
      have hcz : wa4.cell? ⟨B, n, none⟩ = some (.int .u32 0) := pad64_zero HW4.out HLE.out (by omega)
      refine planF_do rfl (fun K hK => ?_)
      go_wp2_with fail
      refine hK _ _ (.inl trivial) ?_
      clear hK K
      refine planF_nil ?_
      go_wp2_with fail
      go_roundw
      case rel => exact ⟨n + 1, by omega, by omega, by go_num, Lib.hid (by rw [← HY.out]; exact pad64_store HW4.out HLE.out (by omega) y3), Lib.hid (HX4.out.setCell (Nat.le_refl _) _), Lib.hid (by simp [HA4.out, HZ3.out])⟩
      case measure => simp [intOf]; omega
    · obtain rfl : n = 64 := by omega
      go_wp2_with fail
      go_meet
      case rel => exact ⟨HWR, HBR, HZR⟩
  case rest =>
   obtain ⟨HW3, HB3, HZ3⟩ := hcut
   obtain ⟨w3, hw3⟩ : ∃ u, u = wc := ⟨_, rfl⟩
   rw [← hw3] at HW3 HB3 HZ3 ⊢
   clear hw3 HW2 HB2 HZ2
   have hlt : hb < B := by rw [← HBQ.out]; exact (Array.getElem?_eq_some_iff.1 HH.out).1
   have HHB := Lib.hid hlt
   have HH3 : Hid (w3.heap[hb]? = some (.cells (W8c s ++ [lv, nv]).toArray 229 (0, 0))) := Lib.hid ((HB3.out.block hb hlt).trans HH.out)
   have HKB : Hid (0 < B) := Lib.hid (by rw [← HBQ.out]; exact cell_lt' (HK.out.c 0 _ rfl))
   clear hlt
   obtain ⟨c0, c1, c2, c3, c4, c5, c6, c7⟩ : w3.cell? ⟨hb, 0, none⟩ = some (.int .u32 (s.a : Int)) ∧ w3.cell? ⟨hb, 1, none⟩ = some (.int .u32 (s.b : Int)) ∧ w3.cell? ⟨hb, 2, none⟩ = some (.int .u32 (s.c : Int)) ∧ w3.cell? ⟨hb, 3, none⟩ = some (.int .u32 (s.d : Int)) ∧ w3.cell? ⟨hb, 4, none⟩ = some (.int .u32 (s.e : Int)) ∧ w3.cell? ⟨hb, 5, none⟩ = some (.int .u32 (s.f : Int)) ∧ w3.cell? ⟨hb, 6, none⟩ = some (.int .u32 (s.g : Int)) ∧ w3.cell? ⟨hb, 7, none⟩ = some (.int .u32 (s.h : Int)) :=
    ⟨cell_of_row w3 hb 0 _ _ _ HH3.out, cell_of_row w3 hb 1 _ _ _ HH3.out, cell_of_row w3 hb 2 _ _ _ HH3.out, cell_of_row w3 hb 3 _ _ _ HH3.out, cell_of_row w3 hb 4 _ _ _ HH3.out, cell_of_row w3 hb 5 _ _ _ HH3.out, cell_of_row w3 hb 6 _ _ _ HH3.out, cell_of_row w3 hb 7 _ _ _ HH3.out⟩
   go_upto_region 13 with fail
   rw [HZ3.out]
   obtain ⟨w4, hw4⟩ : ∃ u, w3.alloc (.cells #[.int .u32 (s.a : Int), .int .u32 (s.b : Int), .int .u32 (s.c : Int), .int .u32 (s.d : Int), .int .u32 (s.e : Int), .int .u32 (s.f : Int), .int .u32 (s.g : Int), .int .u32 (s.h : Int)] 189) = u := ⟨_, rfl⟩
   rw [hw4]
   have HV4 : Hid (w4.heap[B + 1]? = some (.cells (W8c s).toArray 189 (0, 0))) := Lib.hid (by rw [← hw4, ← HZ3.out]; exact heap_alloc_new _ _)
   have HU4 : Hid (Below (B + 1) w3 w4) := Lib.hid (by rw [← hw4, ← HZ3.out]; exact (Below.refl _ _).alloc (Nat.le_refl _) _)
   have HW4 : Hid (w4.heap[B]? = some (.cells (pad64 (wext (words16 blk) 48)).toArray 224 (0, 0))) := Lib.hid ((HU4.out.block B (Nat.lt_succ_self B)).trans HW3.out)
   have HB4 : Hid (Below B w w4) := Lib.hid (HB3.out.trans (HU4.out.mono (Nat.le_succ B)))
   have HH4 : Hid (w4.heap[hb]? = some (.cells (W8c s ++ [lv, nv]).toArray 229 (0, 0))) := Lib.hid ((HU4.out.block hb (Nat.lt_succ_of_lt HHB.out)).trans HH3.out)
   have HZ4 : Hid (w4.heap.size = B + 2) := Lib.hid (by rw [← hw4]; simp [HZ3.out])
   clear hw4 c0 c1 c2 c3 c4 c5 c6 c7 HW3 HB3 HZ3 HH3
   go_upto_block 4 with fail
   go_cut [] from 98 to 104 (fun wr => Hid (wr.heap[B + 1]? = some (.cells (W8c (rnds s (wext (words16 blk) 48) 64)).toArray 189 (0, 0))) ∧ Hid (Fr [B + 1] w4 wr))
   case first => as_aux_lemma =>
    go_wp2_with fail
    go_loopw [98] (fun i wr => ∃ k : Nat, k ≤ 64 ∧ i = .int .i64 (k : Int) ∧ Hid (wr.heap[B + 1]? = some (.cells (W8c (rnds s (wext (words16 blk) 48) k)).toArray 189 (0, 0))) ∧ Hid (Fr [B + 1] w4 wr)) (fun i _ => 64 - (intOf i).toNat)
    case atStart => exact ⟨0, Nat.zero_le _, rfl, HV4, Lib.hid (Fr.refl _ _)⟩
    case round =>
     obtain ⟨k, hk, rfl, HVR, HFR⟩ := hrel
     by_cases hlt : k < 64
     · have b1 : (0 : Int) ≤ k := by omega
       have b2 : (k : Int) < 64 := by omega
       obtain ⟨x, hx⟩ : ∃ x, (wext (words16 blk) 48)[k]? = some x := ⟨_, List.getElem?_eq_getElem (by rw [wext_len (words16_len blk)]; omega)⟩
       have hxd : (wext (words16 blk) 48).getD k 0 = x := by rw [List.getD_eq_getElem?_getD, hx]; rfl
       have HWR : wr.cell? ⟨B, k, none⟩ = some (.int .u32 (x : Int)) := pad64_cell ((HFR.out.block B (by rw [HZ4.out]; omega) (by simp)).trans HW4.out) hx
       have HKR : wr.cell? ⟨0, k, none⟩ = some (.int .u32 ((shaK.getD k 0 : Nat) : Int)) := by
        have h1 := HK.out.c k _ (shaK_get hlt)
        have h2 := (HB4.out.cell (p := ⟨0, k, none⟩) HKB.out).trans h1
        exact (World.cell?_of_block (a := ⟨0, k, none⟩) (HFR.out.block 0 (by rw [HZ4.out]; have := HKB.out; omega) (by have := HKB.out; rw [List.mem_singleton]; omega))).trans h2
       have HRD := Lib.hid (round_any (rnds s (wext (words16 blk) 48) k) (rnds_ok HS.out _ k) (shaK.getD k 0) x k hlt (B + 1) B wr HVR.out HKR HWR)
       have HNX : Hid (rnd (rnds s (wext (words16 blk) 48) k) (shaK.getD k 0) x = rnds s (wext (words16 blk) 48) (k + 1)) := Lib.hid (by rw [← hxd]; rfl)
       clear hx hxd HWR HKR
       go_wp2_with (go_at_call 170; refine HRD.out.mono ?_; rintro e w6 ⟨rfl, hV, hF⟩; have HV6 : Hid (w6.heap[B + 1]? = some (.cells (W8c (rnds s (wext (words16 blk) 48) (k + 1))).toArray 189 (0, 0))) := Lib.hid (by rw [← HNX.out]; exact hV); have HF6 : Hid (Fr [B + 1] w4 w6) := Lib.hid (HFR.out.trans hF); clear hV hF)
       go_roundw
       case rel => exact ⟨k + 1, by omega, by go_num, HV6, HF6⟩
       case measure => simp [intOf]; omega
     · obtain rfl : k = 64 := by omega
       go_wp2_with fail
       go_meet
       case rel => exact ⟨HVR, HFR⟩
   case rest =>
    obtain ⟨HV5, HF5⟩ := hcut
    obtain ⟨w5, hw5⟩ : ∃ u, u = wc := ⟨_, rfl⟩
    rw [← hw5] at HV5 HF5 ⊢
    clear hw5
    obtain ⟨v, hv⟩ : ∃ v, rnds s (wext (words16 blk) 48) 64 = v := ⟨_, rfl⟩
    rw [hv] at HV5
    have HMX : Hid (plus8 s v = mixN s blk) := Lib.hid (by rw [← hv]; rfl)
    have HH5 : Hid (w5.heap[hb]? = some (.cells ((plusL s v 0).map uv ++ [lv, nv]).toArray 229 (0, 0))) := Lib.hid ((HF5.out.block hb (by rw [HZ4.out]; have := HHB.out; omega) (by have := HHB.out; simp; omega)).trans HH4.out)
    have HFW : Hid (Fr [hb] w w5) := Lib.hid (by
     have h1 : Fr [hb] w w4 := Below.fr HB4.out (by rw [HBQ.out]; exact Nat.le_refl _) _
     exact h1.then_new HF5.out (fun g hg => .inr (by rw [List.mem_singleton] at hg; rw [HBQ.out]; omega)))
    have HZ5 : Hid (B + 1 < w5.heap.size) := Lib.hid (Array.getElem?_eq_some_iff.1 HV5.out).1
    clear hv HW4 HB4 HH4 HV4 HF5 HZ4 HU4
    go_wp2_with fail
    go_loopw [105] (fun i wr => ∃ j : Nat, j ≤ 8 ∧ i = .int .i64 (j : Int) ∧ Hid (wr.heap[hb]? = some (.cells ((plusL s v j).map uv ++ [lv, nv]).toArray 229 (0, 0))) ∧ Hid (Fr [hb] w5 wr)) (fun i _ => 8 - (intOf i).toNat)
    case atStart => exact ⟨0, Nat.zero_le _, rfl, HH5, Lib.hid (Fr.refl _ _)⟩
    case round =>
     obtain ⟨j, hj, rfl, HHR, HFR⟩ := hrel
     by_cases hlt : j < 8
     · have b1 : (0 : Int) ≤ j := by omega
       have b2 : (j : Int) < 8 := by omega
       obtain ⟨x, hx⟩ : ∃ x, s.l.getD j 0 = x := ⟨_, rfl⟩
       obtain ⟨y, hy⟩ : ∃ y, v.l.getD j 0 = y := ⟨_, rfl⟩
       have c1 : wr.cell? ⟨hb, j, none⟩ = some (.int .u32 (x : Int)) := by
        rw [cell_of_row wr hb j _ _ _ HHR.out, List.getElem?_toArray, plusL_get s v lv nv hlt, hx]; rfl
       have c2 : wr.cell? ⟨B + 1, j, none⟩ = some (.int .u32 (y : Int)) := by
        rw [cell_of_row wr (B + 1) j _ _ _ ((HFR.out.block (B + 1) HZ5.out (by have := HHB.out; rw [List.mem_singleton]; omega)).trans HV5.out), List.getElem?_toArray, w8_get v hlt, hy]; rfl
       have f1 : wr.frozen? ⟨hb, j, none⟩ = false := frozen_of_row wr hb j _ _ HHR.out
       have s1 := add_bits x y
       obtain ⟨z, hz⟩ : ∃ z, add32 x y = z := ⟨_, rfl⟩
       rw [hz] at s1
       have HST : Hid (∀ u : World, u.heap[hb]? = some (.cells ((plusL s v j).map uv ++ [lv, nv]).toArray 229 (0, 0)) → (u.setCell ⟨hb, j, none⟩ (.int .u32 (z : Int))).heap[hb]? = some (.cells ((plusL s v (j + 1)).map uv ++ [lv, nv]).toArray 229 (0, 0))) := Lib.hid (fun u hu => by
        rw [heap_setCell_same u hb j _ _ _ hu, List.setIfInBounds_toArray, ← plusL_set s v lv nv hlt, hx, hy, hz]; rfl)
       clear hx hy hz
       go_upto_region 21 with fail
       go_still_tail 13, (by kernel_rfl)
       go_wp2_with fail
       go_roundw
       case rel => exact ⟨j + 1, by omega, by go_num, Lib.hid (HST.out _ HHR.out), Lib.hid (HFR.out.trans ((Fr.setCell _ (by simp) _).trans (Fr.drew _ _)))⟩
       case measure => simp [intOf]; omega
     · obtain rfl : j = 8 := by omega
       go_wp2_with fail
       go_end0
       refine ⟨rfl, ?_, HFW.out.trans HFR.out⟩
       rw [← HMX.out]
       exact HHR.out
structure HashAt (w : World) (hb : Nat) (L : Option Nat) (msg : Str) : Prop where
 ex : ∃ lv, w.heap[hb]? = some (.cells (W8c (shaW msg) ++ [lv, .int .u64 (msg.length : Int)]).toArray 229 (0, 0)) ∧ OwnS w 0 lv (shaL msg) ∧ lv.ownBlock = L
 ne : L ≠ some hb
theorem HashAt.lt {w : World} {hb : Nat} {L : Option Nat} {msg : Str} (h : HashAt w hb L msg) : hb < w.heap.size := by
 obtain ⟨lv, h1, _⟩ := h.ex
 exact (Array.getElem?_eq_some_iff.1 h1).1
theorem HashAt.fr {w w' : World} {hb : Nat} {L : Option Nat} {msg : Str} {F : List Nat} (h : HashAt w hb L msg) (hf : Fr F w w') (h1 : hb ∉ F) (h2 : ∀ k, L = some k → k ∉ F) : HashAt w' hb L msg := by
 obtain ⟨lv, a, b, c⟩ := h.ex
 refine ⟨⟨lv, (hf.block hb h.lt h1).trans a, own_cong b (fun k hk => ?_), c⟩, h.ne⟩
 exact hf.block k (own_lt b hk).2 (h2 k (by rw [← c]; exact hk))
theorem wp_app_bytes {ops : Array Oper} {rest : List Oper} {o : Oper} {a : Act} {Q : Exit → Act → World → Prop} (hgd : o.guard = none) (s x : Operand)
  (ho : o.op = .call { callee := .builtin .append, args := #[s, x], argTypes := #[72, 72] })
  {w : World} {B : Nat} {v src : Value} {l e : Str} {T : Nat → Prop} (hs : a.eval s = v) (hx : a.eval x = src) (hown : OwnS w B v l) (hco : RowAt T w src (e.map bv)) (hl : l.length + e.length ≤ 140737488355328) (hB : B ≤ w.heap.size)
  (h : ∀ v' w', OwnS w' B v' (l ++ e) → w.grownBy w' v.ownBlock → (v'.ownBlock = v.ownBlock ∨ v'.ownBlock = some w.heap.size) → wpList Tryz.prog ops Q rest (a.put o.dst v') w') :
  wpList Tryz.prog ops Q (o :: rest) a w := by
 obtain ⟨i0, hi, hz0, hz1, hz2⟩ := info_parts einfo_u8
 obtain ⟨ao, cap, rfl, h1, h2, h3, h4⟩ := hco
 rw [List.length_map] at h1 hx
 have hj : ∀ (v' : Value) (w' : World), w'.ownsRow B 5 1 v' (l.length + e.length) (l.map bv ++ e.map bv) → OwnS w' B v' (l ++ e) := fun v' w' h0 => by
  unfold OwnS
  rw [List.length_append, List.map_append]; exact h0
 cases ao with
 | none =>
   have hc := h3 rfl
   have hz : e.length = 0 := by omega
   have he := List.length_eq_zero_iff.1 hz
   subst he
   subst hc
   exact wpList_append_own_none hgd s x 72 ho B 5 i0 1 Tryz.underlying72 hi v l.length (l.map bv) hs hown hx (h v w (hj v w (by have h0 := hown; unfold OwnS at h0; simpa using h0)) ⟨rfl, rfl, rfl, Nat.le_refl _, fun _ _ _ => rfl⟩ (.inl rfl))
 | some ad =>
   refine wpList_append_own_at _ hgd s x 72 ho B 5 i0 (.int .u8 0) 1 1 Tryz.underlying72 hi hz0 hz1 hz2 rfl (by decide) v l.length (l.map bv) hs hown ad e.length cap (e.map bv) hx (by simp) (fun j u hu => ?_) (by simp [Value.oneCell', bv]) (by unfold maxLen; omega) (by omega) hB ?_
   · obtain ⟨b, off, rb, _, hc⟩ := h4 (by intro e0; rw [e0] at hu; simp at hu)
     cases rb
     rw [Addr.add_mid]; exact hc j u hu
   · intro v' w' g1 g2 _ g4
     exact h v' w' (hj v' w' g1) g2 g4
set_option maxHeartbeats 2000000 in
theorem hnew_any (w : World) : Calls Tryz.prog 112 #[] w fun e w' => e = .returned (.pointer (some ⟨w.heap.size, 0, none⟩)) ∧ HashAt w' w.heap.size none [] ∧ Below w.heap.size w w' := by
 go_enter Tryz.func112, Tryz.ntmps112
 go_wp2_with fail
 go_ret
 refine ⟨rfl, ⟨⟨.slice none 0 0, heap_alloc_new _ _, OwnS.nil _ _, rfl⟩, by simp⟩, (Below.refl _ _).alloc (Nat.le_refl _) _⟩
theorem OwnS.base {w : World} {B : Nat} {v : Value} {l : Str} (h : OwnS w B v l) : OwnS w 0 v l := by
 obtain ⟨a, b | ⟨g, cap, cur, r, _, hh⟩⟩ := h
 · exact ⟨a, .inl b⟩
 · exact ⟨a, .inr ⟨g, cap, cur, r, Nat.zero_le _, hh⟩⟩
theorem own_block {w : World} {B k : Nat} {v : Value} {l : Str} (h : OwnS w B v l) (hk : v.ownBlock = some k) : B ≤ k := (own_lt h hk).1
theorem OwnS.row {w : World} {B : Nat} {v : Value} {l : Str} (h : OwnS w B v l) : RowAt (fun k => v.ownBlock = some k) w v (l.map bv) := by
 have h0 := h
 obtain ⟨hlen, ⟨rfl, h2⟩ | ⟨g, cap, cur, rfl, hg, hh, hc1, hc2, hs, ht⟩⟩ := h
 · have : l = [] := List.length_eq_zero_iff.1 h2
   subst this
   exact ⟨none, 0, rfl, Nat.zero_le _, by unfold maxLen; omega, fun _ => rfl, fun h => absurd rfl h⟩
 · refine ⟨some ⟨g, 0, none⟩, cap, by rw [List.length_map], by rw [List.length_map]; exact hc1, hc2, (fun e => by cases e), fun _ => ⟨g, 0, rfl, rfl, fun i x hi => ?_⟩⟩
   have := World.ownsRow.cells h0 (g := g) rfl i x hi
   rw [Addr.add_mid] at this
   exact this
theorem hash_row {w : World} {hb : Nat} {v : V8} {lv nv : Value} (h : w.heap[hb]? = some (.cells (W8c v ++ [lv, nv]).toArray 229 (0, 0))) : w.cell? ⟨hb, 8, none⟩ = some lv ∧ w.cell? ⟨hb, 9, none⟩ = some nv ∧ w.frozen? ⟨hb, 8, none⟩ = false ∧ w.frozen? ⟨hb, 9, none⟩ = false :=
 ⟨cell_of_row w hb 8 _ _ _ h, cell_of_row w hb 9 _ _ _ h, frozen_of_row w hb 8 _ _ h, frozen_of_row w hb 9 _ _ h⟩
theorem hash_set8 {w : World} {hb : Nat} {v : V8} {lv nv : Value} (h : w.heap[hb]? = some (.cells (W8c v ++ [lv, nv]).toArray 229 (0, 0))) (x : Value) : (w.setCell ⟨hb, 8, none⟩ x).heap[hb]? = some (.cells (W8c v ++ [x, nv]).toArray 229 (0, 0)) := heap_setCell_same w hb 8 _ _ _ h
theorem hash_set9 {w : World} {hb : Nat} {v : V8} {lv nv : Value} (h : w.heap[hb]? = some (.cells (W8c v ++ [lv, nv]).toArray 229 (0, 0))) (x : Value) : (w.setCell ⟨hb, 9, none⟩ x).heap[hb]? = some (.cells (W8c v ++ [lv, x]).toArray 229 (0, 0)) := heap_setCell_same w hb 9 _ _ _ h
def HWriteQ (hb : Nat) (L : Option Nat) (msg : Str) (w : World) (e : Ending) (w' : World) : Prop :=
 e = .returned (.tuple #[]) ∧ ∃ L', HashAt w' hb L' msg ∧ (∀ k, L' = some k → w.heap.size ≤ k) ∧ Fr (hb :: L.toList) w w'
set_option maxRecDepth 100000 in
set_option maxHeartbeats 8000000 in
theorem hwrite_any {T : Nat → Prop} (hb : Nat) (L : Option Nat) (msg bs : Str) (src : Value) (w : World) (h : HashAt w hb L msg) (hs : RowAt T w src (bs.map bv)) (hT : ∀ k, T k → k ≠ hb) (hK : VarsK w) (hg : 0 ∉ hb :: L.toList) (hl : msg.length + bs.length ≤ 70368744177664) :
  Calls Tryz.prog 113 #[.pointer (some ⟨hb, 0, none⟩), src] w fun e w' => HWriteQ hb L (msg ++ bs) w e w' := by
 obtain ⟨⟨lv, hH, hO, hLb⟩, hne⟩ := h
 obtain ⟨so, sc, rfl, sc1, sc2, sc3, sc4⟩ := id hs
 rw [List.length_map] at sc1 hs ⊢
 obtain ⟨ml, hml⟩ : ∃ m, msg.length = m := ⟨_, rfl⟩
 obtain ⟨bl, hbl⟩ : ∃ m, bs.length = m := ⟨_, rfl⟩
 obtain ⟨r, hr⟩ : ∃ r, shaL msg ++ bs = r := ⟨_, rfl⟩
 have hrl : r.length ≤ bl + 63 := by rw [← hr, List.length_append, shaL_len]; omega
 obtain ⟨rl, hrle⟩ : ∃ n, r.length = n := ⟨_, rfl⟩
 rw [hrle] at hrl
 have HRL := Lib.hid hrle
 clear hrle
 rw [hml] at hH hl
 rw [hbl] at hl hs sc1 ⊢
 unfold maxLen at sc2
 have g1 : IntKind.u64.wrap (bl : Int) = (bl : Int) := IntWalk.u64_in _ (by omega)
 have g2 : IntKind.u64.wrap ((ml : Int) + (bl : Int)) = ((ml + bl : Nat) : Int) := by rw [IntWalk.u64_in _ (by omega)]; rfl
 obtain ⟨tl, htl⟩ : ∃ t, ml + bl = t := ⟨_, rfl⟩
 rw [htl] at g2
 obtain ⟨s, hs8⟩ : ∃ s, shaW msg = s := ⟨_, rfl⟩
 rw [hs8] at hH
 obtain ⟨c8, c9, f8, f9⟩ := hash_row hH
 have HH := Lib.hid hH
 have HO := Lib.hid hO
 have HS := Lib.hid hs
 have HK := Lib.hid hK
 have HLB := Lib.hid hLb
 have HNE := Lib.hid hne
 have HG := Lib.hid hg
 have HT := Lib.hid hT
 have HSOK : Hid s.ok := Lib.hid (by rw [← hs8]; exact mixB_ok V8i_ok _ _)
 have HML := Lib.hid hml
 have HBL := Lib.hid hbl
 have HR := Lib.hid hr
 have HTL := Lib.hid htl
 have HS8 := Lib.hid hs8
 clear hH hO hs hK hLb hne hg hT hml hbl hr htl hs8 sc3 sc4
 go_enter Tryz.func113, Tryz.ntmps113
 go_upto_region 2 with fail
 obtain ⟨w1, hw1⟩ : ∃ u, w.setCell ⟨hb, 9, none⟩ (.int .u64 (tl : Int)) = u := ⟨_, rfl⟩
 rw [hw1]
 have HH1 : Hid (w1.heap[hb]? = some (.cells (W8c s ++ [lv, .int .u64 (tl : Int)]).toArray 229 (0, 0))) := Lib.hid (by rw [← hw1]; exact hash_set9 HH.out _)
 have HF1 : Hid (Fr [hb] w w1) := Lib.hid (by rw [← hw1]; exact Fr.setCell _ (by simp) _)
 have HZ1 : Hid (w1.heap.size = w.heap.size) := Lib.hid (by rw [← hw1]; simp)
 clear hw1 c8 c9 f8 f9 g1 g2
 obtain ⟨c8, c9, f8, f9⟩ := hash_row HH1.out
 have HO1 : Hid (OwnS w1 0 lv (shaL msg)) := Lib.hid (own_cong HO.out (fun k hk => HF1.out.block k (own_lt HO.out hk).2 (by rw [List.mem_singleton]; rintro rfl; exact HNE.out (HLB.out.symm.trans hk))))
 have HS1 : Hid (RowAt T w1 (.slice so bl sc) (bs.map bv)) := Lib.hid (HS.out.cong (fun _ h => h) (fun k hk => by
  by_cases hkz : k < w.heap.size
  · exact HF1.out.block k hkz (by rw [List.mem_singleton]; exact HT.out k hk)
  · rw [Array.getElem?_eq_none (by rw [HZ1.out]; omega), Array.getElem?_eq_none (by omega)]))
 go_upto_region 3 with (at_builtin; go_loud (refine wp_app_bytes (T := T) (v := lv) (src := .slice so bl sc) rfl _ _ rfl (B := 0) rfl rfl HO1.out HS1.out ?c1 (Nat.zero_le _) ?_; (case c1 => rw [shaL_len, HBL.out]; omega); intro v2 w2 hO2 hgr hnew; rw [HR.out] at hO2; obtain ⟨va, vc, rfl⟩ := OwnS.form hO2; rw [HRL.out] at hO2; rw [HRL.out]; rw [HRL.out] at hnew; have HO2 := Lib.hid hO2; have HGR := Lib.hid hgr; have HNW := Lib.hid hnew; clear hO2 hgr hnew; have HF2 : Hid (Fr L.toList w1 w2) := Lib.hid (grownBy.fr HGR.out _ (fun k hk => .inl (by rw [← HLB.out, hk]; simp))); have HH2 : Hid (w2.heap[hb]? = some (.cells (W8c s ++ [lv, .int .u64 (tl : Int)]).toArray 229 (0, 0))) := Lib.hid ((HF2.out.block hb (by rw [HZ1.out]; exact (Array.getElem?_eq_some_iff.1 HH.out).1) (by have := HNE.out; simpa using this)).trans HH1.out); clear c8 c9 f8 f9; obtain ⟨c8, c9, f8, f9⟩ := hash_row HH2.out))
 obtain ⟨w3, hw3⟩ : ∃ u, w2.setCell ⟨hb, 8, none⟩ (.slice va rl vc) = u := ⟨_, rfl⟩
 rw [hw3]
 have HH3 : Hid (w3.heap[hb]? = some (.cells (W8c s ++ [Value.slice va rl vc, Value.int .u64 (tl : Int)]).toArray 229 (0, 0))) := Lib.hid (by rw [← hw3]; exact hash_set8 HH2.out _)
 have HF3 : Hid (Fr (hb :: L.toList) w w3) := Lib.hid (by
  rw [← hw3]
  exact ((HF1.out.mono (fun k hk => .inl (by simp at hk; simp [hk]))).trans (HF2.out.mono (fun k hk => .inl (by simp at hk; simp [hk])))).trans (Fr.setCell _ (by simp) _))
 have HR3 : Hid (RowAt (fun k => k ≠ hb) w3 (.slice va rl vc) (r.map bv)) := Lib.hid (HO2.out.row.cong (fun k hk => by
   rcases HNW.out with h | h
   · rw [h, HLB.out] at hk; rintro rfl; exact HNE.out hk
   · rw [h] at hk; have := Option.some.inj hk; have h2 := (Array.getElem?_eq_some_iff.1 HH1.out).1; omega) (fun k hk => by
   rw [← hw3]
   refine heap_setCell_other _ _ _ _ (show k ≠ hb from ?_)
   rcases HNW.out with h | h
   · rw [h, HLB.out] at hk; rintro rfl; exact HNE.out hk
   · rw [h] at hk; have := Option.some.inj hk; have h2 := (Array.getElem?_eq_some_iff.1 HH1.out).1; omega))
 have HHL : Hid (hb < w3.heap.size ∧ w.heap.size ≤ w3.heap.size) := Lib.hid ⟨(Array.getElem?_eq_some_iff.1 HH3.out).1, HF3.out.size⟩
 have HK3 : Hid (VarsK w3) := Lib.hid (HK.out.fr HF3.out HG.out)
 clear hw3 c8 c9 f8 f9 HH1 HF1 HZ1 HO1 HS1 HO2 HGR HNW HF2 HH2
 go_wp2_with fail
 go_loopg [] (rl / 64) (fun g wr => ∃ (k : Nat) (ao : Option Addr) (ck : Nat), 64 * k ≤ rl ∧ g = rl / 64 - k ∧ Hid (wr.heap[hb]? = some (.cells (W8c (mixB s r k) ++ [Value.slice ao (rl - 64 * k) ck, Value.int .u64 (tl : Int)]).toArray 229 (0, 0))) ∧ Hid (RowAt (fun k => k ≠ hb) wr (.slice ao (rl - 64 * k) ck) ((r.drop (64 * k)).map bv)) ∧ Hid (Fr [hb] w3 wr))
 case atStart => exact ⟨0, va, vc, Nat.zero_le _, rfl, HH3, HR3, Lib.hid (Fr.refl _ _)⟩
 case round =>
  obtain ⟨k, ao, ck, hk, hg, HHR, HRR, HFR⟩ := hrel
  obtain ⟨m, hm⟩ : ∃ m, rl - 64 * k = m := ⟨_, rfl⟩
  rw [hm] at HHR HRR
  obtain ⟨c8, c9, f8, f9⟩ := hash_row HHR.out
  obtain ⟨q, hq⟩ : ∃ q, mixB s r k = q := ⟨_, rfl⟩
  obtain ⟨d, hd⟩ : ∃ d, r.drop (64 * k) = d := ⟨_, rfl⟩
  have hdl : d.length = m := by rw [← hd, List.length_drop, HRL.out, hm]
  rw [hq] at HHR
  rw [hd] at HRR
  have HQOK : Hid q.ok := Lib.hid (by rw [← hq]; exact mixB_ok HSOK.out _ _)
  by_cases hge : 64 ≤ m
  · have b1 : (64 : Int) ≤ (m : Int) := by omega
    obtain ⟨ao', ck', e1, e2, e3, e4, e5⟩ := id HRR.out
    injection e1 with h1 h2 h3
    subst h1 h3
    clear h2
    rw [List.length_map, hdl] at e2
    unfold maxLen at e3
    obtain ⟨gb, off, rfl, hgb, hcell⟩ := e5 (by intro e; rw [List.map_eq_nil_iff] at e; rw [e] at hdl; simp at hdl; omega)
    have HCELL := Lib.hid hcell
    have HMX := Lib.hid (mix_any q HQOK.out (d.take 64) (by rw [List.length_take, hdl]; omega) hb gb off ck (Value.slice (some ⟨gb, off, none⟩) m ck) (Value.int .u64 (tl : Int)) wr HHR.out (fun i c hi => by
     refine hcell i _ ?_
     rw [List.getElem?_map]
     have h1 := (List.getElem?_eq_some_iff.1 hi).1
     rw [List.length_take] at h1
     rw [List.getElem?_take_of_lt (by omega)] at hi
     rw [hi]; rfl) (HK3.out.fr HFR.out (by have := HG.out; rw [List.mem_singleton]; intro e; exact this (by rw [e]; simp))))
    have HNX : Hid (mixN q (d.take 64) = mixB s r (k + 1)) := Lib.hid (by rw [← hq, ← hd]; rfl)
    have HD := Lib.hid hd
    have HDL := Lib.hid hdl
    have HM := Lib.hid hm
    have b2 : (64 : Int) ≤ (ck : Int) := by omega
    have b3 : 64 ≤ ck := by omega
    clear hq hd hdl hm hcell e4 e5
    go_upto_region 5 with (go_at_call 150; refine HMX.out.mono ?_; rintro e w5 ⟨rfl, hh, hf⟩; rw [HNX.out] at hh; have HH5 := Lib.hid hh; have HF5 : Hid (Fr [hb] w3 w5) := Lib.hid (HFR.out.trans hf); have HRR5 : Hid (∀ i x, (d.map bv)[i]? = some x → w5.cell? ⟨gb, off + i, none⟩ = some x) := Lib.hid (fun i x hx => (World.cell?_of_block (a := ⟨gb, off + i, none⟩) (hf.block gb (cell_lt' (HCELL.out i x hx)) (by rw [List.mem_singleton]; exact hgb))).trans (HCELL.out i x hx)); clear hh hf c8 c9 f8 f9; obtain ⟨c8, c9, f8, f9⟩ := hash_row HH5.out)
    have HRW : Hid (∀ (a2 : Option Addr) (c2 : Nat), (64 < m → a2 = some ⟨gb, off + 64, none⟩ ∧ c2 = ck - 64) → a2 ≠ none → m - 64 ≤ c2 → c2 ≤ ck → RowAt (fun k => k ≠ hb) (w5.setCell ⟨hb, 8, none⟩ (.slice a2 (m - 64) c2)) (.slice a2 (rl - 64 * (k + 1)) c2) ((r.drop (64 * (k + 1))).map bv)) := Lib.hid (by
     intro a2 c2 h1 h0 h2 h3
     have hm' : rl - 64 * (k + 1) = m - 64 := by have := HM.out; omega
     have hd' : r.drop (64 * (k + 1)) = d.drop 64 := by rw [← HD.out, List.drop_drop]; congr 1
     have hl' : (d.drop 64).length = m - 64 := by rw [List.length_drop, HDL.out]
     rw [hm', hd']
     refine ⟨a2, c2, by rw [List.length_map, hl'], by rw [List.length_map, hl']; exact h2, by unfold maxLen; omega, fun e => absurd e h0, fun hne => ?_⟩
     have hlt : 64 < m := by
      rcases Nat.lt_or_ge 64 m with h | h
      · exact h
      · exfalso; apply hne; rw [List.map_eq_nil_iff]; exact List.length_eq_zero_iff.1 (by rw [hl']; omega)
     refine ⟨gb, off + 64, (h1 hlt).1, hgb, fun i x hx => ?_⟩
     rw [List.map_drop, List.getElem?_drop] at hx
     have := HRR5.out _ _ hx
     rw [show off + 64 + i = off + (64 + i) by omega]
     exact (World.cell?_of_block (a := ⟨gb, off + (64 + i), none⟩) (heap_setCell_other _ _ _ _ (show gb ≠ hb from hgb))).trans this)
    have HML2 : Hid (rl - 64 * (k + 1) = m - 64) := Lib.hid (by have := HM.out; omega)
    have HKK : Hid (64 * (k + 1) ≤ rl) := Lib.hid (by have := HM.out; omega)
    by_cases hck : ck = 64
    · obtain rfl : m = 64 := by omega
      subst hck
      go_wp2_with fail
      go_roundg (rl / 64 - (k + 1))
      case rel => exact ⟨k + 1, _, 0, HKK.out, rfl, Lib.hid (by rw [HML2.out]; exact hash_set8 HH5.out _), Lib.hid (HRW.out _ 0 (fun h => absurd h (by omega)) (by simp) (by omega) (by omega)), Lib.hid (HF5.out.trans (Fr.setCell _ (by simp) _))⟩
      case measure => rw [hg]; have := HKK.out; omega
    · have b4 : (ck : Int) ≠ 64 := by omega
      go_wp2_with fail
      go_roundg (rl / 64 - (k + 1))
      case rel => exact ⟨k + 1, _, ck - 64, HKK.out, rfl, Lib.hid (by rw [HML2.out]; exact hash_set8 HH5.out _), Lib.hid (HRW.out _ (ck - 64) (fun _ => ⟨rfl, rfl⟩) (by simp) (by omega) (by omega)), Lib.hid (HF5.out.trans (Fr.setCell _ (by simp) _))⟩
      case measure => rw [hg]; have := HKK.out; omega
  · have b1 : decide ((64 : Int) ≤ (m : Int)) = false := by rw [decide_eq_false_iff_not]; omega
    have HD := Lib.hid hd
    have HDL := Lib.hid hdl
    have HQ := Lib.hid hq
    have HKE : Hid (rl / 64 = k) := Lib.hid (by omega)
    clear hd hdl hq hm
    go_wp2_with (at_builtin; go_loud (refine wp_app_bytes (T := fun k => k ≠ hb) (v := .slice none 0 0) (src := .slice ao m ck) (l := []) (e := d) rfl _ _ rfl (B := wr.heap.size) rfl rfl (OwnS.nil _ _) HRR.out ?d1 (Nat.le_refl _) ?_; (case d1 => rw [HDL.out, List.length_nil]; omega); intro v6 w6 hO6 hgr _; rw [List.nil_append] at hO6; obtain ⟨xa, xc, rfl⟩ := OwnS.form hO6; have HO6 := Lib.hid hO6; have HF6 : Hid (Fr [] wr w6) := Lib.hid (grownBy.fr hgr _ (fun k hk => by cases hk)); have HH6 : Hid (w6.heap[hb]? = some (.cells (W8c q ++ [Value.slice ao m ck, Value.int .u64 (tl : Int)]).toArray 229 (0, 0))) := Lib.hid ((HF6.out.block hb (Array.getElem?_eq_some_iff.1 HHR.out).1 (by simp)).trans HHR.out); clear hO6 hgr c8 c9 f8 f9; obtain ⟨c8, c9, f8, f9⟩ := hash_row HH6.out))
    go_end0
    have HQ2 : shaW (msg ++ bs) = q := by rw [shaW_app, HS8.out, HR.out, HRL.out, HKE.out, HQ.out]
    have HD2 : shaL (msg ++ bs) = d := by rw [shaL_app, HR.out, HRL.out, HKE.out, HD.out]
    have HL2 : ((msg ++ bs).length : Int) = (tl : Int) := by rw [List.length_append, HML.out, HBL.out, HTL.out]
    have hzz : wr.heap.size ≥ w.heap.size := Nat.le_trans HF3.out.size HFR.out.size
    have hnb : ∀ k, (Value.slice xa d.length xc).ownBlock = some k → w.heap.size ≤ k := fun k hk => Nat.le_trans hzz (own_block HO6.out hk)
    refine ⟨rfl, (Value.slice xa d.length xc).ownBlock, ⟨⟨_, by rw [HQ2, HL2]; exact hash_set8 HH6.out _, ?_, rfl⟩, fun e => ?_⟩, hnb, ?_⟩
    · rw [HD2]
      exact own_cong HO6.out.base (fun k hk => heap_setCell_other _ _ _ _ (show k ≠ hb from fun e => by
       have h1 := own_block HO6.out hk
       have h2 := (Array.getElem?_eq_some_iff.1 HHR.out).1
       omega))
    · have h1 := hnb hb e
      have h2 := (Array.getElem?_eq_some_iff.1 HH.out).1
      omega
    · refine (HF3.out.trans (HFR.out.mono (fun j hj => .inl (by simp at hj; simp [hj])))).trans ((HF6.out.mono (fun j hj => by cases hj)).trans (Fr.setCell _ (by simp) _))
end Go.Proofs.YtgfijlamhjjecaaGreatDoor
namespace Go.Proofs.YtgfijlamhjjecaaGreatDoor
def curT (t : Str) (es : List (List Str)) (cs : List Str) (p : Str) : Str := t ++ (es ++ [cs ++ [p]]).flatMap (fun e => 43 :: elemT e)
def textE : EC → Str
 | .btw l => printT l
 | .tag l t => printT l ++ t
 | .bhd l t => printT l ++ t
 | .cmp l t es cs p => printT l ++ curT t es cs p
 | .rel l t es cs p => printT l ++ curT t es cs p ++ [63]
def okE : EC → Prop
 | .btw l => okL l
 | .tag l t => okL l ∧ l.length < 64 ∧ t.length < 3 ∧ ∀ c ∈ t, tagB c = true
 | .bhd l t => okL l ∧ l.length < 64 ∧ okT t
 | .cmp l t es cs p => okL l ∧ l.length < 64 ∧ okT t ∧ es.length < 16 ∧ (∀ e ∈ es, okEl e) ∧ cs.length < 8 ∧ (∀ q ∈ cs, okP q) ∧ okP p
 | .rel l t es cs p => okL l ∧ l.length < 64 ∧ okT t ∧ es.length < 16 ∧ (∀ e ∈ es, okEl e) ∧ cs.length < 8 ∧ (∀ q ∈ cs, okP q) ∧ okP p
theorem joinB_snoc (s : UInt8) : ∀ (l : List Str) (a : Str), l ≠ [] → joinB s (l ++ [a]) = joinB s l ++ s :: a
 | [], _, h => absurd rfl h
 | [x], a, _ => by simp [joinB]
 | x :: y :: l, a, _ => by
   have ih := joinB_snoc s (y :: l) a (by simp)
   simp only [List.cons_append] at ih ⊢
   rw [joinB, ih, joinB, List.append_assoc]; rfl
theorem elemT_snoc (cs : List Str) (p : Str) (h : cs ≠ []) : elemT (cs ++ [p]) = elemT cs ++ 58 :: compT p := by
 unfold elemT
 rw [List.map_append, List.map_singleton, joinB_snoc _ _ _ (by simpa using h)]
theorem compT_snoc (p : Str) (c : UInt8) : compT (p ++ [c]) = compT p ++ escB c := by simp [compT]
theorem elemT_put (cs : List Str) (p : Str) (c : UInt8) : elemT (cs ++ [p ++ [c]]) = elemT (cs ++ [p]) ++ escB c := by
 by_cases h : cs = []
 · subst h; simp [elemT, joinB, compT_snoc]
 · rw [elemT_snoc _ _ h, elemT_snoc _ _ h, compT_snoc]; simp
theorem curT_put (t : Str) (es : List (List Str)) (cs : List Str) (p : Str) (c : UInt8) : curT t es cs (p ++ [c]) = curT t es cs p ++ escB c := by
 unfold curT
 rw [List.flatMap_append, List.flatMap_append, List.flatMap_singleton, List.flatMap_singleton, elemT_put]; simp
theorem curT_comp (t : Str) (es : List (List Str)) (cs : List Str) (p : Str) : curT t es (cs ++ [p]) [] = curT t es cs p ++ [58] := by
 unfold curT
 rw [List.flatMap_append, List.flatMap_append, List.flatMap_singleton, List.flatMap_singleton, elemT_snoc _ _ (by simp)]; simp [compT]
theorem curT_elem (t : Str) (es : List (List Str)) (cs : List Str) (p : Str) : curT t (es ++ [cs ++ [p]]) [] [] = curT t es cs p ++ [43] := by
 unfold curT
 rw [List.flatMap_append]; simp [elemT, joinB, compT]
theorem printT_snoc (l : List Seg) (s : Seg) : printT (l ++ [s]) = printT l ++ segT s := by simp [printT]
theorem okP_put {p : Str} {c : UInt8} (h : okP p) (hc : okB c) (hl : p.length ≠ 256) : okP (p ++ [c]) := by
 refine ⟨by have := h.1; simp; omega, fun x hx => ?_⟩
 rw [List.mem_append, List.mem_singleton] at hx
 rcases hx with hx | rfl
 · exact h.2 x hx
 · exact hc
theorem okL_snoc {l : List Seg} {s : Seg} (h : okL l) (hl : l.length < 64) (hs : okS s) : okL (l ++ [s]) := by
 refine ⟨by simp; omega, fun x hx => ?_⟩
 rw [List.mem_append, List.mem_singleton] at hx
 rcases hx with hx | rfl
 · exact h.2 x hx
 · exact hs
theorem mem_snoc {α : Type} {P : α → Prop} {l : List α} {a : α} (h : ∀ x ∈ l, P x) (ha : P a) : ∀ x ∈ l ++ [a], P x := fun x hx => by
 rw [List.mem_append, List.mem_singleton] at hx
 rcases hx with hx | rfl
 · exact h x hx
 · exact ha
theorem okEl_snoc {cs : List Str} {p : Str} (h1 : cs.length < 8) (h2 : ∀ q ∈ cs, okP q) (h3 : okP p) : okEl (cs ++ [p]) := ⟨by simp, by simp; omega, mem_snoc h2 h3⟩
theorem okP_nil : okP [] := ⟨by simp, by simp⟩
theorem tagS_text {l : List Seg} {t : Str} {c : UInt8} {s : EC} (h : tagS l t c = .ok s) (hl : okL l) (hn : l.length < 64) (ht : t.length < 3) (hc : ∀ x ∈ t, tagB x = true) : textE s = printT l ++ t ++ [c] ∧ okE s := by
 unfold tagS at h
 split at h
 · cases h
 · rename_i hb
   rw [Bool.not_eq_false] at hb
   split at h
   · cases h; exact ⟨by simp [textE], hl, hn, by simp; omega, mem_snoc hc hb⟩
   · cases h; exact ⟨by simp [textE], hl, hn, by simp; omega, mem_snoc hc hb⟩
theorem putS_text {l : List Seg} {t : Str} {es : List (List Str)} {cs : List Str} {p : Str} {c : UInt8} {s : EC} (h : putS l t es cs p c = .ok s) (ho : okE (.cmp l t es cs p)) (hc : okB c) : textE s = printT l ++ curT t es cs p ++ escB c ∧ okE s := by
 unfold putS at h
 obtain ⟨h1, h2, h3, h4, h5, h6, h7, h8⟩ := ho
 split at h
 · cases h
 · cases h
   exact ⟨by simp [textE, curT_put], h1, h2, h3, h4, h5, h6, h7, okP_put h8 hc (by assumption)⟩
theorem signB_ok {c : UInt8} (h : signB c = true) : okB c := by
 unfold signB at h
 simp only [Bool.or_eq_true, beq_iff_eq] at h
 unfold okB
 rcases h with ((rfl | rfl) | rfl) | rfl <;> decide
theorem signB_no {c : UInt8} (h : signB c = true) (h1 : c ≠ 63) (h2 : c ≠ 39) (h3 : c ≠ 43) : c = 58 := by
 unfold signB at h
 simp only [Bool.or_eq_true, beq_iff_eq] at h
 rcases h with ((rfl | rfl) | rfl) | rfl
 · exact absurd rfl h3
 · rfl
 · exact absurd rfl h2
 · exact absurd rfl h1
theorem step_text {s s' : EC} {c : UInt8} (h : stepE s c = .ok s') (ho : okE s) : textE s' = textE s ++ (if c = 10 then [] else [c]) ∧ okE s' := by
 cases s with
 | btw l =>
   simp only [stepE] at h
   split at h
   · rename_i h10
     cases h
     rw [if_pos h10.1]; exact ⟨by simp, ho⟩
   · split at h
     · cases h
     · have hn : l.length < 64 := by have := ho.1; omega
       have hb : c ≠ 10 := by
        rintro rfl
        unfold tagS at h
        rw [if_pos (by decide)] at h
        cases h
       obtain ⟨e1, e2⟩ := tagS_text h ho hn (by simp) (by simp)
       rw [if_neg hb]
       exact ⟨by rw [e1]; simp [textE], e2⟩
 | tag l t =>
   obtain ⟨h1, h2, h3, h4⟩ := ho
   have hb : c ≠ 10 := by
    rintro rfl
    simp only [stepE] at h
    unfold tagS at h
    rw [if_pos (by decide)] at h
    cases h
   rw [if_neg hb]
   exact tagS_text h h1 h2 h3 h4
 | bhd l t =>
   obtain ⟨h1, h2, h3⟩ := ho
   simp only [stepE] at h
   split at h
   · rename_i hc
     cases h
     subst hc
     rw [if_neg (by decide)]
     exact ⟨by simp [textE, printT_snoc, segT], okL_snoc h1 h2 ⟨h3, by simp, by simp⟩⟩
   · split at h
     · rename_i hc
       cases h
       subst hc
       rw [if_neg (by decide)]
       exact ⟨by simp [textE, curT, elemT, joinB, compT], h1, h2, h3, by simp, by simp, by simp, by simp, okP_nil⟩
     · cases h
 | cmp l t es cs p =>
   have ho' := ho
   obtain ⟨h1, h2, h3, h4, h5, h6, h7, h8⟩ := ho
   simp only [stepE] at h
   split at h
   · rename_i hc
     cases h; subst hc
     rw [if_neg (by decide)]
     exact ⟨rfl, ho'⟩
   · rename_i h63
     split at h
     · rename_i hs
       have hb : c ≠ 10 := by rintro rfl; exact absurd hs (by decide)
       rw [if_neg hb]
       unfold signS at h
       split at h
       · rename_i hc
         cases h; subst hc
         exact ⟨by simp [textE, printT_snoc, segT, curT], okL_snoc h1 h2 ⟨h3, by simp; omega, mem_snoc h5 (okEl_snoc h6 h7 h8)⟩⟩
       · rename_i h39
         split at h
         · rename_i hc
           subst hc
           split at h
           · cases h
           · cases h
             exact ⟨by simp [textE, curT_elem], h1, h2, h3, by simp; omega, mem_snoc h5 (okEl_snoc h6 h7 h8), by simp, by simp, okP_nil⟩
         · rename_i h43
           have := signB_no hs h63 h39 h43
           subst this
           split at h
           · cases h
           · cases h
             exact ⟨by simp [textE, curT_comp], h1, h2, h3, h4, h5, by simp; omega, mem_snoc h7 h8, okP_nil⟩
     · rename_i hs
       split at h
       · cases h
       · rename_i hr
         rw [Bool.not_eq_true] at hs
         have hb : c ≠ 10 := by rintro rfl; exact hr (by decide)
         rw [if_neg hb]
         obtain ⟨e1, e2⟩ := putS_text h ho' ⟨by omega, by omega⟩
         refine ⟨?_, e2⟩
         rw [e1]
         unfold escB
         rw [hs]; rfl
 | rel l t es cs p =>
   simp only [stepE] at h
   split at h
   · rename_i hs
     have hb : c ≠ 10 := by rintro rfl; exact absurd hs (by decide)
     rw [if_neg hb]
     obtain ⟨e1, e2⟩ := putS_text h ho (signB_ok hs)
     refine ⟨?_, e2⟩
     rw [e1]
     unfold escB
     rw [hs]; simp [textE]
   · cases h
def no10 (t : Str) : Str := t.filter (fun c => c != 10)
theorem run_text : ∀ (t : Str) (s s' : EC) (i : Nat), runE s i t = .ok s' → okE s → textE s' = textE s ++ no10 t ∧ okE s'
 | [], s, s', i, h, ho => by simp only [runE, EO.ok.injEq] at h; subst h; exact ⟨by simp [no10], ho⟩
 | c :: t, s, s', i, h, ho => by
   simp only [runE] at h
   cases hs : stepE s c with
   | err k => rw [hs] at h; cases h
   | ok s1 =>
     rw [hs] at h
     obtain ⟨e1, e2⟩ := step_text hs ho
     obtain ⟨e3, e4⟩ := run_text t s1 s' (i + 1) h e2
     refine ⟨?_, e4⟩
     rw [e3, e1, List.append_assoc]
     congr 1
     unfold no10
     rw [List.filter_cons]
     by_cases hc : c = 10
     · subst hc; simp
     · simp [hc]
theorem parse_ok {t : Str} {m : List Seg} {at_ : Nat} (h : parseE t = (m, at_, 0)) (h' : t.length ≤ 65536) : at_ = 0 ∧ runE (.btw []) 0 t = .ok (.btw m) := by
 unfold parseE at h
 rw [if_neg (by omega)] at h
 split at h
 · rename_i i k hr
   injection h with h1 h2; injection h2 with h2 h3
   subst h3
   exfalso
   have : ∀ (t : Str) (s : EC) (i j : Nat), runE s i t ≠ .err j 0 := by
    intro t
    induction t with
    | nil => intro s i j; simp [runE]
    | cons c t ih =>
      intro s i j h
      simp only [runE] at h
      cases hs : stepE s c with
      | ok s1 => rw [hs] at h; exact ih _ _ _ h
      | err k =>
        rw [hs] at h
        simp only [EO.err.injEq] at h
        obtain ⟨_, rfl⟩ := h
        have hT : ∀ l t, tagS l t c ≠ .err 0 := fun l t h => by
         unfold tagS at h; split at h
         · cases h
         · split at h <;> cases h
        have hP : ∀ l t es cs p, putS l t es cs p c ≠ .err 0 := fun l t es cs p h => by
         unfold putS at h; split at h <;> cases h
        cases s with
        | btw l => simp only [stepE] at hs; split at hs; cases hs; split at hs; cases hs; exact hT _ _ hs
        | tag l t => exact hT _ _ hs
        | bhd l t => simp only [stepE] at hs; split at hs; cases hs; split at hs <;> cases hs
        | cmp l t es cs p =>
          simp only [stepE, signS] at hs
          split at hs; cases hs; split at hs
          · split at hs; cases hs; split at hs
            · split at hs <;> cases hs
            · split at hs <;> cases hs
          · split at hs; cases hs; exact hP _ _ _ _ _ hs
        | rel l t es cs p => simp only [stepE] at hs; split at hs; exact hP _ _ _ _ _ hs; cases hs
   exact this _ _ _ _ hr
 · rename_i l hr
   injection h with h1 h2; injection h2 with h2 h3
   subst h1
   exact ⟨h2.symm, hr⟩
 · injection h with h1 h2; injection h2 with h2 h3; cases h3
theorem okE_start : okE (.btw []) := ⟨by simp, by simp⟩
theorem no10_le (t : Str) : (no10 t).length ≤ t.length := List.length_filter_le _ _
theorem print_parse {t : Str} {m : List Seg} {at_ : Nat} (h : parseE t = (m, at_, 0)) (h' : t.length ≤ 65536) : printE m = (no10 t, 0) ∧ okL m := by
 obtain ⟨_, hr⟩ := parse_ok h h'
 obtain ⟨e1, e2⟩ := run_text t _ _ 0 hr okE_start
 have e3 : printT m = no10 t := e1
 have := no10_le t
 rw [printE_ok e2 (by rw [e3]; omega), e3]
 exact ⟨rfl, e2⟩
theorem runE_err_lt : ∀ (t : Str) (s : EC) (i j : Nat) (k : Int), runE s i t = .err j k → i ≤ j ∧ j < i + t.length ∧ ∃ s', runE s i (t.take (j - i)) = .ok s'
 | [], s, i, j, k, h => by simp [runE] at h
 | c :: t, s, i, j, k, h => by
   simp only [runE] at h
   cases hs : stepE s c with
   | err k' =>
     rw [hs] at h
     simp only [EO.err.injEq] at h
     obtain ⟨rfl, rfl⟩ := h
     exact ⟨Nat.le_refl _, by simp, s, by simp [runE]⟩
   | ok s1 =>
     rw [hs] at h
     obtain ⟨h1, h2, s', h3⟩ := runE_err_lt t s1 (i + 1) j k h
     refine ⟨by omega, by simp; omega, s', ?_⟩
     rw [show j - i = (j - (i + 1)) + 1 by omega, List.take_succ_cons]
     simp only [runE, hs]
     exact h3
theorem step_err31 {s : EC} {c : UInt8} {k : Int} (h : stepE s c = .err k) : k ≠ 31 ∧ k ≠ 0 := by
 have hT : ∀ l t, tagS l t c = .err k → k ≠ 31 ∧ k ≠ 0 := fun l t h => by
  unfold tagS at h; split at h
  · cases h; decide
  · split at h <;> cases h
 have hP : ∀ l t es cs p, putS l t es cs p c = .err k → k ≠ 31 ∧ k ≠ 0 := fun l t es cs p h => by
  unfold putS at h; split at h
  · cases h; decide
  · cases h
 cases s with
 | btw l =>
   simp only [stepE] at h; split at h
   · cases h
   · split at h
     · cases h; decide
     · exact hT _ _ h
 | tag l t => exact hT _ _ h
 | bhd l t =>
   simp only [stepE] at h; split at h
   · cases h
   · split at h
     · cases h
     · cases h; decide
 | cmp l t es cs p =>
   simp only [stepE, signS] at h
   split at h
   · cases h
   · split at h
     · split at h
       · cases h
       · split at h
         · split at h
           · cases h; decide
           · cases h
         · split at h
           · cases h; decide
           · cases h
     · split at h
       · cases h; decide
       · exact hP _ _ _ _ _ h
 | rel l t es cs p =>
   simp only [stepE] at h; split at h
   · exact hP _ _ _ _ _ h
   · cases h; decide
theorem runE_err31 : ∀ (t : Str) (s : EC) (i j : Nat) (k : Int), runE s i t = .err j k → k ≠ 31 ∧ k ≠ 0
 | [], s, i, j, k, h => by simp [runE] at h
 | c :: t, s, i, j, k, h => by
   simp only [runE] at h
   cases hs : stepE s c with
   | err k' =>
     rw [hs] at h
     simp only [EO.err.injEq] at h
     obtain ⟨rfl, rfl⟩ := h
     exact step_err31 hs
   | ok s1 => rw [hs] at h; exact runE_err31 t s1 (i + 1) j k h
theorem parse_cut {t : Str} {m : List Seg} {at_ : Nat} {k : Int} (h : parseE t = (m, at_, k)) (h' : t.length ≤ 65536) (hk : k ≠ 0) : at_ ≤ t.length ∧ (k = 31 ↔ at_ = t.length) ∧ m = [] ∧
  ((∃ m', parseE (t.take at_) = (m', 0, 0)) ∨ parseE (t.take at_) = ([], at_, 31)) := by
 have hfin : ∀ s, runE (.btw []) 0 (t.take at_) = .ok s → at_ ≤ t.length → ((∃ m', parseE (t.take at_) = (m', 0, 0)) ∨ parseE (t.take at_) = ([], at_, 31)) := fun s hs hle => by
  have hlen : (t.take at_).length = at_ := by simp; omega
  unfold parseE
  rw [if_neg (by omega), hs, hlen]
  cases s with
  | btw l => exact .inl ⟨l, rfl⟩
  | tag l t => exact .inr rfl
  | bhd l t => exact .inr rfl
  | cmp l t es cs p => exact .inr rfl
  | rel l t es cs p => exact .inr rfl
 unfold parseE at h
 rw [if_neg (by omega)] at h
 split at h
 · rename_i i k' hr
   injection h with h1 h2; injection h2 with h2 h3
   subst h2; subst h3
   obtain ⟨a1, a2, s, a3⟩ := runE_err_lt _ _ _ _ _ hr
   rw [Nat.sub_zero] at a3
   obtain ⟨b1, b2⟩ := runE_err31 _ _ _ _ _ hr
   exact ⟨by omega, ⟨fun e => absurd e b1, fun e => by omega⟩, h1.symm, hfin s a3 (by omega)⟩
 · injection h with h1 h2; injection h2 with h2 h3
   exact absurd h3.symm hk
 · rename_i s hs hr
   injection h with h1 h2; injection h2 with h2 h3
   subst h2; subst h3
   exact ⟨Nat.le_refl _, ⟨fun _ => rfl, fun _ => rfl⟩, h1.symm, hfin s (by rw [List.take_length]; exact hr) (Nat.le_refl _)⟩
abbrev decT (v : Nat) : Str := Lib.decDigits v
def digB (c : UInt8) : Bool := decide (48 ≤ c.toNat) && decide (c.toNat ≤ 57)
def valW : Nat → Str → Option Nat
 | v, [] => some v
 | v, c :: r => if digB c then (if v * 10 + (c.toNat - 48) < 18446744073709551616 then valW (v * 10 + (c.toNat - 48)) r else none) else none
def numW (s : Str) : Option Nat := match s with
 | [] => none
 | c :: r => if c = 48 ∧ r ≠ [] then none else valW 0 (c :: r)
theorem valW_append : ∀ (a b : Str) (v : Nat), valW v (a ++ b) = (valW v a).bind fun u => valW u b
 | [], b, v => rfl
 | c :: a, b, v => by
   simp only [List.cons_append, valW]
   split
   · split
     · exact valW_append a b _
     · rfl
   · rfl
theorem digB_of {d : Nat} (h : d < 10) : digB (UInt8.ofNat (48 + d)) = true ∧ (UInt8.ofNat (48 + d)).toNat = 48 + d := by
 have e : (UInt8.ofNat (48 + d)).toNat = 48 + d := by rw [UInt8.toNat_ofNat']; omega
 refine ⟨?_, e⟩
 unfold digB; rw [e]; simp; omega
theorem dec_small {v : Nat} (h : v < 10) : decT v = [UInt8.ofNat (48 + v)] := Lib.decDigits_one h
theorem dec_step {v : Nat} (h : ¬ v < 10) : decT v = decT (v / 10) ++ [UInt8.ofNat (48 + v % 10)] := by
 show Lib.decDigits v = _
 rw [Lib.decDigits, dif_neg h]
theorem dec_ne (v : Nat) : decT v ≠ [] := by
 by_cases h : v < 10
 · rw [dec_small h]; simp
 · rw [dec_step h]; simp
theorem dec_digs : ∀ (v : Nat), ∀ c ∈ decT v, digB c = true := fun v => by
 induction v using Nat.strongRecOn with
 | ind v ih =>
   by_cases h : v < 10
   · rw [dec_small h]; intro c hc; rw [List.mem_singleton] at hc; subst hc; exact (digB_of h).1
   · rw [dec_step h]
     intro c hc
     rcases List.mem_append.1 hc with hc | hc
     · exact ih (v / 10) (by omega) c hc
     · rw [List.mem_singleton] at hc; subst hc; exact (digB_of (Nat.mod_lt _ (by omega))).1
theorem dec_head : ∀ (v : Nat), 0 < v → (decT v).head? ≠ some 48 := fun v => by
 induction v using Nat.strongRecOn with
 | ind v ih =>
   intro h0
   by_cases h : v < 10
   · rw [dec_small h]
     simp only [List.head?_cons, ne_eq, Option.some.injEq]
     intro e
     have := congrArg UInt8.toNat e
     rw [(digB_of h).2] at this
     have h48 : (48 : UInt8).toNat = 48 := rfl
     omega
   · rw [dec_step h]
     have := ih (v / 10) (by omega) (by omega)
     cases hd : decT (v / 10) with
     | nil => exact absurd hd (dec_ne _)
     | cons a l => rw [hd] at this; simpa using this
theorem val_dec : ∀ (v : Nat), v < 18446744073709551616 → valW 0 (decT v) = some v := fun v => by
 induction v using Nat.strongRecOn with
 | ind v ih =>
   intro hv
   by_cases h : v < 10
   · rw [dec_small h]
     obtain ⟨e1, e2⟩ := digB_of h
     simp only [valW, e1, e2, if_true]
     rw [if_pos (by omega)]
     congr 1; omega
   · rw [dec_step h, valW_append, ih (v / 10) (by omega) (by omega)]
     obtain ⟨e1, e2⟩ := digB_of (Nat.mod_lt v (by omega : 0 < 10))
     simp only [Option.bind_some, valW, e1, e2, if_true]
     rw [if_pos (by omega)]
     congr 1; omega
theorem num_dec {v : Nat} (h : v < 18446744073709551616) : numW (decT v) = some v := by
 have hv := val_dec v h
 have hh := dec_head v
 cases hd : decT v with
 | nil => exact absurd hd (dec_ne v)
 | cons c r =>
   rw [hd] at hv hh
   unfold numW
   simp only
   rw [if_neg, hv]
   rintro ⟨rfl, hr⟩
   rcases Nat.eq_zero_or_pos v with h0 | h0
   · subst h0
     rw [dec_small (by omega)] at hd
     injection hd with _ hd
     exact hr hd.symm
   · exact hh h0 (by simp)
theorem val_inj : ∀ (s : Str) (v u : Nat), 0 < v → valW v s = some u → decT u = decT v ++ s
 | [], v, u, _, h => by simp only [valW, Option.some.injEq] at h; subst h; simp
 | c :: r, v, u, h0, h => by
   simp only [valW] at h
   split at h
   · rename_i hd
     split at h
     · have h1 := val_inj r _ u (by omega) h
       have hc : 48 ≤ c.toNat ∧ c.toNat ≤ 57 := by simpa [digB] using hd
       have e : decT (v * 10 + (c.toNat - 48)) = decT v ++ [c] := by
        rw [dec_step (by omega), show (v * 10 + (c.toNat - 48)) / 10 = v by omega, show (v * 10 + (c.toNat - 48)) % 10 = c.toNat - 48 by omega]
        congr 2
        apply UInt8.toNat_inj.1
        rw [(digB_of (show c.toNat - 48 < 10 by omega)).2]; omega
       rw [h1, e, List.append_assoc]; rfl
     · cases h
   · cases h
theorem num_inj {s : Str} {v : Nat} (h : numW s = some v) : s = decT v := by
 cases s with
 | nil => cases h
 | cons c r =>
   simp only [numW] at h
   split at h
   · cases h
   · rename_i hn
     simp only [valW] at h
     split at h
     · rename_i hd
       have hc : 48 ≤ c.toNat ∧ c.toNat ≤ 57 := by simpa [digB] using hd
       rw [if_pos (by omega), Nat.zero_mul, Nat.zero_add] at h
       have e1 : decT (c.toNat - 48) = [c] := by
        rw [dec_small (by omega)]
        congr 1
        apply UInt8.toNat_inj.1
        rw [(digB_of (show c.toNat - 48 < 10 by omega)).2]; omega
       by_cases h0 : c = 48
       · have hr : r = [] := Classical.byContradiction fun hr => hn ⟨h0, hr⟩
         subst hr
         simp only [valW, Option.some.injEq] at h
         rw [← h, e1]
       · have h0' : 0 < c.toNat - 48 := by
          have : c.toNat ≠ 48 := fun e => h0 (UInt8.toNat_inj.1 e)
          omega
         rw [val_inj r _ v h0' h, e1]; rfl
     · cases h
theorem valW_lt : ∀ (s : Str) (v u : Nat), v < 18446744073709551616 → valW v s = some u → u < 18446744073709551616
 | [], v, u, hv, h => by simp only [valW, Option.some.injEq] at h; omega
 | c :: r, v, u, hv, h => by
   simp only [valW] at h
   split at h
   · split at h
     · rename_i hlt; exact valW_lt r _ u hlt h
     · cases h
   · cases h
theorem num_lt {s : Str} {v : Nat} (h : numW s = some v) : v < 18446744073709551616 := by
 cases s with
 | nil => cases h
 | cons c r =>
   simp only [numW] at h
   split at h
   · cases h
   · exact valW_lt _ 0 v (by omega) h
end Go.Proofs.YtgfijlamhjjecaaGreatDoor
