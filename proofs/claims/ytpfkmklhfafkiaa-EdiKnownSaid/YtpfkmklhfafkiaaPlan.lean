/-
  Plan: a region that draws its order, walked in ONE order that the prover names: what only reads (under a condition S on the world) is taken first, a call or a write as soon as it is the only one that may come up. No condition beyond those stated.
-/
import Derived.Test.YtpfkmklhfafkiaaBase2
import Derived.Deep.RegionHeld3
import Derived.RegionTactic
namespace Go.Proofs.Ytpfkmklhfafkiaa
open Go.RowKit
/-- a step that turns new blocks alone -/
theorem Fr.then_new {F G : List Nat} {a b c : World} (h : Fr F a b) (k : Fr G b c) (hG : ∀ g ∈ G, g ∈ F ∨ a.heap.size ≤ g) : Fr F a c :=
  ⟨k.os.trans h.os, k.tape.trans h.tape, k.output.trans h.output, Nat.le_trans h.size k.size, fun i hi hn => (k.block i (Nat.lt_of_lt_of_le hi h.size) (fun hm => by rcases hG i hm with h1 | h1; exact hn h1; omega)).trans (h.block i hi hn)⟩
theorem Fr.then_below {F : List Nat} {a b c : World} {B : Nat} (h : Fr F a b) (k : Below B b c) (hB : a.heap.size ≤ B) : Fr F a c :=
  ⟨k.os.trans h.os, k.tape.trans h.tape, k.output.trans h.output, Nat.le_trans h.size k.size, fun i hi hn => (k.block i (by omega)).trans (h.block i hi hn)⟩
theorem results_cell {fn : Func} {p : Tmp} {ty : TypeId} (h : fn.results = #[.cell p ty]) (tmps : Array Value) {P : Program} {w : World} {b off : Nat} {v : Value} (hp : tmps.getD p undef = .pointer (some ⟨b, off, none⟩)) (hv : (loadVar ty ⟨b, off, none⟩).run P w = .ok v w) :
    (results fn tmps).run P w = .ok v w := by
  rw [Array.getD_eq_getD_getElem?] at hp
  simp [results, h, hp, asAddr, hv]
theorem results_cells2 {fn : Func} {p q : Tmp} {ty uy : TypeId} (h : fn.results = #[.cell p ty, .cell q uy]) (tmps : Array Value) {P : Program} {w : World} {b off c off2 : Nat} {v u : Value} (hp : tmps.getD p undef = .pointer (some ⟨b, off, none⟩)) (hv : (loadVar ty ⟨b, off, none⟩).run P w = .ok v w)
    (hq : tmps.getD q undef = .pointer (some ⟨c, off2, none⟩)) (hu : (loadVar uy ⟨c, off2, none⟩).run P w = .ok u w) :
    (results fn tmps).run P w = .ok (.tuple #[v, u]) w := by
  rw [Array.getD_eq_getD_getElem?] at hp hq
  simp [results, h, hp, hq, asAddr, Sem.run_bind, hv, hu]
section
variable {P : Program} {ops : Array Oper} {Q : Exit → Act → World → Prop} {md : Region.Mode} {S : World → Prop}

def planB (md : Region.Mode) (ops : Array Oper) : List (Nat × Bool) → Array Bool → Bool
  | [], listed => (Region.ready md ops listed).isEmpty
  | (i, false) :: r, listed => (Region.ready md ops listed).contains i && Region.free md ops listed i && planB md ops r (listed.setIfInBounds i true)
  | (i, true) :: r, listed => decide (Region.ready md ops listed = [i]) && planB md ops r (listed.setIfInBounds i true)
def planOK (md : Region.Mode) (ops : Array Oper) (plan : List (Nat × Bool)) : Bool :=
  Region.noSelect ops && decide (plan.length = ops.size) && planB md ops plan (Array.replicate ops.size false)

/-- the walk of a plan -/
def wpPlan (P : Program) (ops : Array Oper) (S : World → Prop) (Q : Exit → Act → World → Prop) : List (Nat × Bool) → Act → World → Prop
  | [], a, w => Q .normal a w
  | (i, false) :: r, a, w => ∃ o v, ops[i]? = some o ∧ YieldsIf P ops S o v a ∧ wpPlan P ops S Q r (a.put o.dst v) w
  | (i, true) :: r, a, w => wpOp P ops Q i (fun a' w' => S w' ∧ wpPlan P ops S Q r a' w') a w

theorem wpPlan_held (hs : Region.noSelect ops = true) (hQ : ∀ c a d v w, Q (.panic c) (a.put d v) w → Q (.panic c) a w) :
    ∀ (plan : List (Nat × Bool)) (listed : Array Bool) (a : Act) (w : World), planB md ops plan listed = true → S w → wpPlan P ops S Q plan a w → wpAnyH P md ops Q S plan.length listed a w
  | [], _, _, _, hB, _, h => ⟨by simpa [planB] using hB, h⟩
  | (i, false) :: r, listed, a, w, hB, hS, h => by
    simp only [planB, Bool.and_eq_true] at hB
    obtain ⟨o, v, hi, hy, h⟩ := h
    exact wpAnyH_take hi hs hB.1.2 hB.1.1 (fun c a w => hQ c a _ _ w) hy hS (wpPlan_held hs hQ r _ _ _ hB.2 hS h)
  | (i, true) :: r, listed, a, w, hB, hS, h => by
    simp only [planB, Bool.and_eq_true, decide_eq_true_eq] at hB
    refine wpAnyH_all hB.1 (by simp) (fun j hj => ?_)
    have e : j = i := by simpa using hj
    subst e
    exact wpOp_mono (fun a' w' h' => ⟨h'.1, wpPlan_held hs hQ r _ _ _ hB.2 h'.1 h'.2⟩) h

/-- the beginning -/
theorem wp_region_plan {id : Nat} {a : Act} {w : World} {l : List Oper} (plan : List (Nat × Bool)) (S : World → Prop) (hm : P.follows .mixedOrders = true) (hB : planOK .any l.toArray plan = true) (hS : S w.drew)
    (h : wpPlan P l.toArray S (NoPanic Q) plan a w.drew) : (Code.region id l.toArray true).wp P Q a w := by
  simp only [planOK, Bool.and_eq_true, decide_eq_true_eq] at hB
  refine wp_region_noPanic (wp_region_held (S := S) hm ?_)
  have := wpPlan_held (md := .any) hB.1.1 (Q := NoPanic Q) (fun c a d v w h => h) plan _ a w.drew hB.2 hS h
  rw [hB.1.2] at this
  exact this

/-- the i-th of a list -/
def nthO : List Oper → Nat → Option Oper
  | [], _ => none
  | o :: _, 0 => some o
  | _ :: l, i + 1 => nthO l i
theorem nthO_eq : ∀ (l : List Oper) (i : Nat), nthO l i = l[i]?
  | [], _ => rfl
  | _ :: _, 0 => rfl
  | _ :: l, i + 1 => by rw [nthO, nthO_eq l i]; rfl
/-- what reads -/
theorem plan_val {l : List Oper} {i : Nat} {o : Oper} {v : Value} {r : List (Nat × Bool)} {a : Act} {w : World} (hi : nthO l i = some o) (hw : Region.wanted o (yielded l.toArray a.tmps) = true)
    (hrun : ∀ w', S w' → (execOp a.eval o).run P w' = .ok (.value v) w') (h : wpPlan P l.toArray S Q r (a.put o.dst v) w) : wpPlan P l.toArray S Q ((i, false) :: r) a w :=
  ⟨o, v, by rw [List.getElem?_toArray, ← nthO_eq]; exact hi, .inl ⟨hw, hrun⟩, h⟩
/-- what is passed over -/
theorem plan_skip {l : List Oper} {i : Nat} {o : Oper} {r : List (Nat × Bool)} {a : Act} {w : World} (hi : nthO l i = some o) (hw : Region.wanted o (yielded l.toArray a.tmps) = false)
    (h : wpPlan P l.toArray S Q r (a.put o.dst undef) w) : wpPlan P l.toArray S Q ((i, false) :: r) a w :=
  ⟨o, undef, by rw [List.getElem?_toArray, ← nthO_eq]; exact hi, .inr ⟨hw, rfl⟩, h⟩
theorem plan_nil {a : Act} {w : World} (h : Q .normal a w) : wpPlan P ops S (NoPanic Q) [] a w := h

theorem Oper.wp_post {o : Oper} {a : Act} {w : World} {K : Act → World → Prop} {Q Q' : Exit → Act → World → Prop} (h1 : ∀ c a w, Q (.panic c) a w → Q' (.panic c) a w) (h2 : LetsOut Q → LetsOut Q') (h : o.wp P a w K Q) : o.wp P a w K Q' := by
  unfold Oper.wp at *
  generalize (execOp a.eval o).run P w = r at *
  cases r with
  | ok n w' =>
    cases n <;> simp only [Oper.upon] at h ⊢ <;>
      first
        | exact h
        | exact Calls.mono h (fun e w'' he => by cases e <;> first | exact he | exact h1 _ _ _ he | exact h2 he)
  | halt x w' => cases x <;> simp only [Oper.upon] at h ⊢ <;> first | exact h | exact h1 _ _ _ h
/-- what is carried out: as a list of one operation, so that every law of lists serves -/
theorem plan_do {l : List Oper} {i : Nat} {o : Oper} {r : List (Nat × Bool)} {a : Act} {w : World} (hi' : nthO l i = some o)
    (h : ∀ K : Act → World → Prop, (∀ a' w', S w' → wpPlan P l.toArray S Q r a' w' → K a' w') → wpList P l.toArray (Exit.then K Q) [o] a w) : wpPlan P l.toArray S Q ((i, true) :: r) a w := by
  have hi : l.toArray[i]? = some o := by rw [List.getElem?_toArray, ← nthO_eq]; exact hi'
  have h0 := h _ (fun a' w' h1 h2 => (⟨h1, h2⟩ : S w' ∧ wpPlan P l.toArray S Q r a' w'))
  show wpOp P l.toArray Q i _ a w
  unfold wpOp
  rw [hi]
  simp only [wpList] at h0 ⊢
  split
  · rename_i hw
    rw [if_pos hw] at h0
    rcases h0 with h0 | ⟨h0, a1, w1, h1⟩
    · exact .inl (Oper.wp_post (fun _ _ _ h => h) (fun ⟨a, w, h⟩ => ⟨a, w, h⟩) h0)
    · exact .inr ⟨h0, a1, w1, h1⟩
  · rename_i hw
    rw [if_neg hw] at h0
    exact h0
end
end Go.Proofs.Ytpfkmklhfafkiaa
