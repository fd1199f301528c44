/-
  Texts Base, Base2, Plan, EdiP, EdiV, EdiW, WrapP, WrapL, WrapQ, one behind the other. No condition beyond those stated in each.
-/
import Derived.WalkKit
import Derived.WalkSpells
import Derived.WalkLawsBesides
import Derived.Deep.MidRow
import Derived.Deep.WholeRow
import Derived.Laws.CopyOwn
import Derived.RangeFuncRecord
import Derived.Lib.Hide
import Derived.StillTailTactics
import Derived.Maps.OwnOps
import Derived.Deep.RegionHeld3
import Derived.RegionTactic
import Derived.Lib.ItoaNum
import Derived.Lib.ParseIntBCases
namespace Go.Proofs.YtgfijlamhjjecaaGreatDoor
open Go.RowKit

abbrev Sec := Nat → UInt8
def bv (b : UInt8) : Value := .int .u8 (b.toNat : Int)
def rowL (n : Nat) (f : Sec) : List Value := (List.range n).map fun j => bv (f j)
def rowA (n : Nat) (f : Sec) : Array Value := (rowL n f).toArray
theorem rowL_length (n : Nat) (f : Sec) : (rowL n f).length = n := by simp [rowL]
theorem rowA_size (n : Nat) (f : Sec) : (rowA n f).size = n := by simp [rowA, rowL]
theorem rowL_get {n : Nat} (f : Sec) {j : Nat} (h : j < n) : (rowL n f)[j]? = some (bv (f j)) := by simp [rowL, h]
theorem rowA_get {n : Nat} (f : Sec) {j : Nat} (h : j < n) : (rowA n f)[j]? = some (bv (f j)) := by simp [rowA, rowL, h]
theorem rowL_congr {n : Nat} {f g : Sec} (h : ∀ j, j < n → f j = g j) : rowL n f = rowL n g := by
  unfold rowL; apply List.map_congr_left; intro j hj; rw [h j (by simpa using hj)]
theorem rowA_congr {n : Nat} {f g : Sec} (h : ∀ j, j < n → f j = g j) : rowA n f = rowA n g := by
  unfold rowA; rw [rowL_congr h]
theorem rowL_one {n : Nat} {f : Sec} : ∀ v ∈ rowL n f, v.oneCell' = true := by
  intro v hv; simp [rowL] at hv; obtain ⟨j, _, rfl⟩ := hv; rfl
structure Fr (F : List Nat) (w w' : World) : Prop where
  os : w'.os = w.os
  tape : w'.tape = w.tape
  output : w'.output = w.output
  size : w.heap.size ≤ w'.heap.size
  block : ∀ k, k < w.heap.size → k ∉ F → w'.heap[k]? = w.heap[k]?
theorem Fr.refl (F : List Nat) (w : World) : Fr F w w := ⟨rfl, rfl, rfl, Nat.le_refl _, fun _ _ _ => rfl⟩
theorem Fr.trans {F : List Nat} {a b c : World} (h : Fr F a b) (k : Fr F b c) : Fr F a c :=
  ⟨k.os.trans h.os, k.tape.trans h.tape, k.output.trans h.output, Nat.le_trans h.size k.size, fun i hi hn => (k.block i (Nat.lt_of_lt_of_le hi h.size) hn).trans (h.block i hi hn)⟩
theorem Fr.mono {F G : List Nat} {a b : World} (h : Fr F a b) (hs : ∀ k ∈ F, k ∈ G ∨ a.heap.size ≤ k) : Fr G a b :=
  ⟨h.os, h.tape, h.output, h.size, fun i hi hn => h.block i hi (fun hm => by rcases hs i hm with h1 | h1; exact hn h1; omega)⟩
theorem Fr.drew (F : List Nat) (w : World) : Fr F w w.drew := ⟨rfl, rfl, rfl, Nat.le_refl _, fun _ _ _ => rfl⟩
theorem Fr.drewN (F : List Nat) (w : World) (n : Nat) : Fr F w (w.drewN n) := ⟨rfl, rfl, rfl, Nat.le_refl _, fun _ _ _ => rfl⟩
theorem Fr.alloc (F : List Nat) (w : World) (o : Obj) : Fr F w (w.alloc o) :=
  ⟨rfl, rfl, rfl, by simp, fun k hk _ => Below.heap_alloc _ _ _ hk⟩
theorem Fr.setRow {F : List Nat} (w : World) {g : Nat} (hg : g ∈ F) (cs : Array Value) : Fr F w (w.setRow g cs) :=
  ⟨rfl, rfl, rfl, by simp, fun k _ hn => setRow_other w g k cs (fun e => hn (e ▸ hg))⟩
theorem Fr.setCell {F : List Nat} (w : World) {a : Addr} (hg : a.block ∈ F) (v : Value) : Fr F w (w.setCell a v) :=
  ⟨rfl, rfl, rfl, by simp, fun k _ hn => Below.heap_setCell _ _ _ _ (fun e => hn (e ▸ hg))⟩
theorem Fr.putObj {F : List Nat} (w : World) {g : Nat} (hg : g ∈ F) (o : Obj) : Fr F w (w.putObj g o) :=
  ⟨rfl, rfl, rfl, by simp [World.putObj], fun k _ hn => by simp only [World.putObj]; rw [Array.getElem?_setIfInBounds]; split; exact absurd (by simp_all) hn; rfl⟩
theorem Fr.below {w w' : World} (h : Fr [] w w') : Below w.heap.size w w' := ⟨h.os, h.tape, h.output, h.size, fun k hk => h.block k hk (by simp)⟩
theorem Fr.belowB {B : Nat} {F : List Nat} {w w' : World} (h : Fr F w w') (hB : B ≤ w.heap.size) (hF : ∀ k ∈ F, B ≤ k) : Below B w w' :=
  ⟨h.os, h.tape, h.output, h.size, fun k hk => h.block k (by omega) (fun hm => by have := hF k hm; omega)⟩
theorem Below.fr {w w' : World} {B : Nat} (h : Below B w w') (hB : w.heap.size ≤ B) (F : List Nat) : Fr F w w' := ⟨h.os, h.tape, h.output, h.size, fun k hk _ => h.block k (by omega)⟩
theorem grownBy.fr {w w' : World} {row : Option Nat} (h : w.grownBy w' row) (F : List Nat) (hr : ∀ k, row = some k → k ∈ F ∨ w.heap.size ≤ k) : Fr F w w' :=
  ⟨h.os, h.tape, h.output, h.size, fun k hk hn => h.block k hk (fun e => by rcases hr k e.symm with h1 | h1; exact hn h1; omega)⟩
theorem putObj_same {w : World} {g : Nat} (h : g < w.heap.size) (o : Obj) : (w.putObj g o).heap[g]? = some o := by
  simp [World.putObj, h]
theorem putObj_other {w : World} {g k : Nat} (h : k ≠ g) (o : Obj) : (w.putObj g o).heap[k]? = w.heap[k]? := by
  simp only [World.putObj]; rw [Array.getElem?_setIfInBounds_ne (Ne.symm h)]
theorem putObj_size (w : World) (g : Nat) (o : Obj) : (w.putObj g o).heap.size = w.heap.size := by simp [World.putObj]

abbrev Ent := Nat × Sec × Nat
def encE (e : Ent) : MapEntry := ⟨.int .i64 (e.1 : Int), .agg (rowA 64 e.2.1), e.2.2⟩
def findE : List Ent → Nat → Option Sec
  | [], _ => none
  | e :: l, i => if e.1 = i then some e.2.1 else findE l i
def cntM (M : Nat → Option Sec) : Nat → Nat
  | 0 => 0
  | n + 1 => cntM M n + if (M n).isSome then 1 else 0
def MapRep (w : World) (mb n : Nat) (M : Nat → Option Sec) : Prop :=
  ∃ (l : List Ent) (clock : Nat), w.heap[mb]? = some (.map (l.map encE).toArray clock) ∧ (∀ i, findE l i = M i) ∧ l.length = cntM M n ∧ ∀ i, n ≤ i → M i = none

section
variable {P : Program} {w : World} {mt kt et mb n : Nat} {M : Nat → Option Sec}

theorem MapRep.lt (hm : MapRep w mb n M) : mb < w.heap.size := by
  obtain ⟨l, clock, hb, r⟩ := hm; exact (Array.getElem?_eq_some_iff.1 hb).1
end
end Go.Proofs.YtgfijlamhjjecaaGreatDoor


namespace Go.Proofs.YtgfijlamhjjecaaGreatDoor
open Go.RowKit
section
variable {P : Program} {ops : Array Oper} {rest : List Oper} {o : Oper} {a : Act} {w : World} {Q : Exit → Act → World → Prop}

theorem wpList_val {v : Value} {w' : World} (hgd : o.guard = none) (hrun : (execOp a.eval o).run P w = .ok (.value v) w') (h : wpList P ops Q rest (a.put o.dst v) w') : wpList P ops Q (o :: rest) a w :=
  wpList_plain hgd fun _ hK => by unfold Oper.wp; rw [hrun]; exact hK _ _ h
theorem wpList_at (op : Op) (_ : o.op = op) (h : wpList P ops Q (o :: rest) a w) : wpList P ops Q (o :: rest) a w := h
def splF (f : Sec) (off m : Nat) (g : Sec) : Sec := fun j => if off ≤ j ∧ j < off + m then g (j - off) else f j
theorem copy_row {f g : Sec} {n off m : Nat} (h : off + m ≤ n) : ((rowA n f).toList.take off ++ rowL m g ++ (rowA n f).toList.drop (off + m)).toArray = rowA n (splF f off m g) := by
  apply Array.ext_getElem?
  intro j
  have hl : (rowA n f).toList = rowL n f := by simp [rowA]
  rw [hl, List.getElem?_toArray]
  by_cases h1 : j < off
  · rw [List.append_assoc, List.getElem?_append_left (by simp [rowL_length]; omega), List.getElem?_take_of_lt h1, rowL_get f (by omega), rowA_get _ (by omega)]
    simp only [splF]; rw [if_neg (by omega)]
  · by_cases h2 : j < off + m
    · rw [List.getElem?_append_left (by simp [rowL_length]; omega), List.getElem?_append_right (by simp [rowL_length]; omega)]
      rw [show (List.take off (rowL n f)).length = off by simp [rowL_length]; omega, rowL_get g (by omega), rowA_get _ (by omega)]
      simp only [splF]; rw [if_pos (by omega)]
    · rw [List.getElem?_append_right (by simp [rowL_length]; omega), List.getElem?_drop]
      rw [show off + m + (j - (List.take off (rowL n f) ++ rowL m g).length) = j by simp [rowL_length]; omega]
      by_cases h3 : j < n
      · rw [rowL_get f h3, rowA_get _ h3]; simp only [splF]; rw [if_neg (by omega)]
      · rw [List.getElem?_eq_none (by rw [rowL_length]; omega), Array.getElem?_eq_none (by rw [rowA_size]; omega)]
theorem run_copy_bytes (w : World) (dT sT elem : TypeId) (g off dLen dCap : Nat) (ad : Addr) (sLen sCap n m : Nat) (f h : Sec) (t : TypeId)
    (hu : P.underlying dT = some (.slice elem)) (hs : (P.info? elem).map (·.size) = some 1) (hg : w.heap[g]? = some (.cells (rowA n f) t (0, 0))) (hm : m = Nat.min sLen dLen)
    (hsrc : ∀ j v, (rowL m h)[j]? = some v → w.cell? (ad.add j) = some v) (hfit : off + m ≤ n) (ty : TypeId) :
    (Builtin.copy_ #[dT, sT] ty #[.slice (some ⟨g, off, none⟩) dLen dCap, .slice (some ad) sLen sCap]).run P w = .ok (.int .i64 (m : Int)) (w.setRow g (rowA n (splF f off m h))) := by
  have := run_copy_row (P := P) w dT sT ty elem g off dLen dCap ad sLen sCap (rowA n f) t (rowL m h) hu hs hg (by rw [rowL_length]; exact hm) hsrc (by rw [rowL_length, rowA_size]; exact hfit) rowL_one
  rw [rowL_length, copy_row hfit] at this
  exact this
theorem exec_copy {x y : Operand} {dT sT : TypeId} (ho : o.op = .call { callee := .builtin .copy, args := #[x, y], argTypes := #[dT, sT] }) {xv yv v : Value} (hx : a.eval x = xv) (hy : a.eval y = yv) {w' : World} (hr : ∀ ty, (Builtin.copy_ #[dT, sT] ty #[xv, yv]).run P w = .ok v w') :
    (execOp a.eval o).run P w = .ok (.value v) w' := by
  simp [execOp, ho, resolve, invoke, builtin, hx, hy, hr, Result.andThen]
theorem wpList_skipv {w' : World} (hgd : o.guard = none) (hrun : (execOp a.eval o).run P w = .ok .skip w') (h : wpList P ops Q rest (a.put o.dst undef) w') : wpList P ops Q (o :: rest) a w :=
  wpList_plain hgd fun _ hK => by unfold Oper.wp; rw [hrun]; exact hK _ _ h
def BytesAt (w : World) (v : Value) (m : Nat) (f : Sec) : Prop :=
  ∃ ao cap, v = .slice ao m cap ∧ m ≤ cap ∧ cap ≤ maxLen ∧ (ao = none → m = 0 ∧ cap = 0) ∧ (0 < m → ∃ b off, ao = some ⟨b, off, none⟩ ∧ w.rangeAt b off (rowL m f))
theorem rangeAt_congr {w w' : World} {b off : Nat} {cs : List Value} (h : w.rangeAt b off cs) (e : w'.heap[b]? = w.heap[b]?) : w'.rangeAt b off cs := fun j v hv => (World.cell?_of_block (a := ⟨b, off + j, none⟩) e).trans (h j v hv)
theorem rangeAt_lt {w : World} {b off m : Nat} {f : Sec} (h : w.rangeAt b off (rowL m f)) (hm : 0 < m) : b < w.heap.size := by
  have := h 0 _ (rowL_get f hm)
  exact World.block_lt_of_cell? w _ this
theorem BytesAt.fr {w w' : World} {v : Value} {m : Nat} {f : Sec} {F : List Nat} (h : BytesAt w v m f) (hf : Fr F w w') (hF : ∀ k, v.ownBlock = some k → k ∉ F) : BytesAt w' v m f := by
  obtain ⟨ao, cap, rfl, h1, h2, h3, h4⟩ := h
  refine ⟨ao, cap, rfl, h1, h2, h3, fun hm => ?_⟩
  obtain ⟨b, off, rfl, hr⟩ := h4 hm
  exact ⟨b, off, rfl, rangeAt_congr hr (hf.block b (rangeAt_lt hr hm) (hF b rfl))⟩
end
end Go.Proofs.YtgfijlamhjjecaaGreatDoor


namespace Go.Proofs.YtgfijlamhjjecaaGreatDoor
open Go.RowKit
theorem Fr.then_new {F G : List Nat} {a b c : World} (h : Fr F a b) (k : Fr G b c) (hG : ∀ g ∈ G, g ∈ F ∨ a.heap.size ≤ g) : Fr F a c :=
  ⟨k.os.trans h.os, k.tape.trans h.tape, k.output.trans h.output, Nat.le_trans h.size k.size, fun i hi hn => (k.block i (Nat.lt_of_lt_of_le hi h.size) (fun hm => by rcases hG i hm with h1 | h1; exact hn h1; omega)).trans (h.block i hi hn)⟩
theorem Fr.then_below {F : List Nat} {a b c : World} {B : Nat} (h : Fr F a b) (k : Below B b c) (hB : a.heap.size ≤ B) : Fr F a c :=
  ⟨k.os.trans h.os, k.tape.trans h.tape, k.output.trans h.output, Nat.le_trans h.size k.size, fun i hi hn => (k.block i (by omega)).trans (h.block i hi hn)⟩
theorem results_cells2 {fn : Func} {p q : Tmp} {ty uy : TypeId} (h : fn.results = #[.cell p ty, .cell q uy]) (tmps : Array Value) {P : Program} {w : World} {b off c off2 : Nat} {v u : Value} (hp : tmps.getD p undef = .pointer (some ⟨b, off, none⟩)) (hv : (loadVar ty ⟨b, off, none⟩).run P w = .ok v w)
    (hq : tmps.getD q undef = .pointer (some ⟨c, off2, none⟩)) (hu : (loadVar uy ⟨c, off2, none⟩).run P w = .ok u w) :
    (results fn tmps).run P w = .ok (.tuple #[v, u]) w := by
  rw [Array.getD_eq_getD_getElem?] at hp hq
  simp [results, h, hp, hq, asAddr, Sem.run_bind, hv, hu]
section
variable {P : Program} {ops : Array Oper} {Q : Exit → Act → World → Prop} {md : Region.Mode} {S : World → Prop}

def planB (md : Region.Mode) (ops : Array Oper) : List (Nat × Bool) → Array Bool → Bool
  | [], listed => (Region.ready md ops listed).isEmpty
  | (i, false) :: r, listed => (Region.ready md ops listed).contains i && Region.free md ops listed i && planB md ops r (listed.setIfInBounds i true)
  | (i, true) :: r, listed => decide (Region.ready md ops listed = [i]) && planB md ops r (listed.setIfInBounds i true)
def planOK (md : Region.Mode) (ops : Array Oper) (plan : List (Nat × Bool)) : Bool :=
  Region.noSelect ops && decide (plan.length = ops.size) && planB md ops plan (Array.replicate ops.size false)

def wpPlan (P : Program) (ops : Array Oper) (S : World → Prop) (Q : Exit → Act → World → Prop) : List (Nat × Bool) → Act → World → Prop
  | [], a, w => Q .normal a w
  | (i, false) :: r, a, w => ∃ o v, ops[i]? = some o ∧ YieldsIf P ops S o v a ∧ wpPlan P ops S Q r (a.put o.dst v) w
  | (i, true) :: r, a, w => wpOp P ops Q i (fun a' w' => S w' ∧ wpPlan P ops S Q r a' w') a w

theorem wpPlan_held (hs : Region.noSelect ops = true) (hQ : ∀ c a d v w, Q (.panic c) (a.put d v) w → Q (.panic c) a w) :
    ∀ (plan : List (Nat × Bool)) (listed : Array Bool) (a : Act) (w : World), planB md ops plan listed = true → S w → wpPlan P ops S Q plan a w → wpAnyH P md ops Q S plan.length listed a w
  | [], _, _, _, hB, _, h => ⟨by simpa [planB] using hB, h⟩
  | (i, false) :: r, listed, a, w, hB, hS, h => by
    simp only [planB, Bool.and_eq_true] at hB
    obtain ⟨o, v, hi, hy, h⟩ := h
    exact wpAnyH_take hi hs hB.1.2 hB.1.1 (fun c a w => hQ c a _ _ w) hy hS (wpPlan_held hs hQ r _ _ _ hB.2 hS h)
  | (i, true) :: r, listed, a, w, hB, hS, h => by
    simp only [planB, Bool.and_eq_true, decide_eq_true_eq] at hB
    refine wpAnyH_all hB.1 (by simp) (fun j hj => ?_)
    have e : j = i := by simpa using hj
    subst e
    exact wpOp_mono (fun a' w' h' => ⟨h'.1, wpPlan_held hs hQ r _ _ _ hB.2 h'.1 h'.2⟩) h

theorem wp_region_plan {id : Nat} {a : Act} {w : World} {l : List Oper} (plan : List (Nat × Bool)) (S : World → Prop) (hm : P.follows .mixedOrders = true) (hB : planOK .any l.toArray plan = true) (hS : S w.drew)
    (h : wpPlan P l.toArray S (NoPanic Q) plan a w.drew) : (Code.region id l.toArray true).wp P Q a w := by
  simp only [planOK, Bool.and_eq_true, decide_eq_true_eq] at hB
  refine wp_region_noPanic (wp_region_held (S := S) hm ?_)
  have := wpPlan_held (md := .any) hB.1.1 (Q := NoPanic Q) (fun c a d v w h => h) plan _ a w.drew hB.2 hS h
  rw [hB.1.2] at this
  exact this

def nthO : List Oper → Nat → Option Oper
  | [], _ => none
  | o :: _, 0 => some o
  | _ :: l, i + 1 => nthO l i
theorem nthO_eq : ∀ (l : List Oper) (i : Nat), nthO l i = l[i]?
  | [], _ => rfl
  | _ :: _, 0 => rfl
  | _ :: l, i + 1 => by rw [nthO, nthO_eq l i]; rfl
theorem plan_val {l : List Oper} {i : Nat} {o : Oper} {v : Value} {r : List (Nat × Bool)} {a : Act} {w : World} (hi : nthO l i = some o) (hw : Region.wanted o (yielded l.toArray a.tmps) = true)
    (hrun : ∀ w', S w' → (execOp a.eval o).run P w' = .ok (.value v) w') (h : wpPlan P l.toArray S Q r (a.put o.dst v) w) : wpPlan P l.toArray S Q ((i, false) :: r) a w :=
  ⟨o, v, by rw [List.getElem?_toArray, ← nthO_eq]; exact hi, .inl ⟨hw, hrun⟩, h⟩
theorem plan_skip {l : List Oper} {i : Nat} {o : Oper} {r : List (Nat × Bool)} {a : Act} {w : World} (hi : nthO l i = some o) (hw : Region.wanted o (yielded l.toArray a.tmps) = false)
    (h : wpPlan P l.toArray S Q r (a.put o.dst undef) w) : wpPlan P l.toArray S Q ((i, false) :: r) a w :=
  ⟨o, undef, by rw [List.getElem?_toArray, ← nthO_eq]; exact hi, .inr ⟨hw, rfl⟩, h⟩
theorem plan_nil {a : Act} {w : World} (h : Q .normal a w) : wpPlan P ops S (NoPanic Q) [] a w := h

theorem Oper.wp_post {o : Oper} {a : Act} {w : World} {K : Act → World → Prop} {Q Q' : Exit → Act → World → Prop} (h1 : ∀ c a w, Q (.panic c) a w → Q' (.panic c) a w) (h2 : LetsOut Q → LetsOut Q') (h : o.wp P a w K Q) : o.wp P a w K Q' := by
  unfold Oper.wp at *
  generalize (execOp a.eval o).run P w = r at *
  cases r with
  | ok n w' =>
    cases n <;> simp only [Oper.upon] at h ⊢ <;>
      first
        | exact h
        | exact Calls.mono h (fun e w'' he => by cases e <;> first | exact he | exact h1 _ _ _ he | exact h2 he)
  | halt x w' => cases x <;> simp only [Oper.upon] at h ⊢ <;> first | exact h | exact h1 _ _ _ h
theorem plan_do {l : List Oper} {i : Nat} {o : Oper} {r : List (Nat × Bool)} {a : Act} {w : World} (hi' : nthO l i = some o)
    (h : ∀ K : Act → World → Prop, (∀ a' w', S w' → wpPlan P l.toArray S Q r a' w' → K a' w') → wpList P l.toArray (Exit.then K Q) [o] a w) : wpPlan P l.toArray S Q ((i, true) :: r) a w := by
  have hi : l.toArray[i]? = some o := by rw [List.getElem?_toArray, ← nthO_eq]; exact hi'
  have h0 := h _ (fun a' w' h1 h2 => (⟨h1, h2⟩ : S w' ∧ wpPlan P l.toArray S Q r a' w'))
  show wpOp P l.toArray Q i _ a w
  unfold wpOp
  rw [hi]
  simp only [wpList] at h0 ⊢
  split
  · rename_i hw
    rw [if_pos hw] at h0
    rcases h0 with h0 | ⟨h0, a1, w1, h1⟩
    · exact .inl (Oper.wp_post (fun _ _ _ h => h) (fun ⟨a, w, h⟩ => ⟨a, w, h⟩) h0)
    · exact .inr ⟨h0, a1, w1, h1⟩
  · rename_i hw
    rw [if_neg hw] at h0
    exact h0
end
end Go.Proofs.YtgfijlamhjjecaaGreatDoor


namespace Go.Proofs.YtgfijlamhjjecaaGreatDoor
abbrev Str := List UInt8
structure Seg where
  tag : Str
  elems : List (List Str)
def tagB (c : UInt8) : Bool := (decide (65 ≤ c.toNat) && decide (c.toNat ≤ 90)) || (decide (48 ≤ c.toNat) && decide (c.toNat ≤ 57))
def signB (c : UInt8) : Bool := c == 43 || c == 58 || c == 39 || c == 63
inductive EC where
  | btw (l : List Seg)
  | tag (l : List Seg) (t : Str)
  | bhd (l : List Seg) (t : Str)
  | cmp (l : List Seg) (t : Str) (es : List (List Str)) (cs : List Str) (p : Str)
  | rel (l : List Seg) (t : Str) (es : List (List Str)) (cs : List Str) (p : Str)
inductive ER where
  | err (k : Int)
  | ok (c : EC)
def tagS (l : List Seg) (t : Str) (c : UInt8) : ER :=
  if tagB c = false then .err 30 else if t.length + 1 < 3 then .ok (.tag l (t ++ [c])) else .ok (.bhd l (t ++ [c]))
def putS (l : List Seg) (t : Str) (es : List (List Str)) (cs : List Str) (p : Str) (c : UInt8) : ER :=
  if p.length = 256 then .err 2 else .ok (.cmp l t es cs (p ++ [c]))
def signS (l : List Seg) (t : Str) (es : List (List Str)) (cs : List Str) (p : Str) (c : UInt8) : ER :=
  if c = 39 then .ok (.btw (l ++ [⟨t, es ++ [cs ++ [p]]⟩]))
  else if c = 43 then if es.length + 1 = 16 then .err 2 else .ok (.cmp l t (es ++ [cs ++ [p]]) [] [])
  else if cs.length + 1 = 8 then .err 2 else .ok (.cmp l t es (cs ++ [p]) [])
def stepE : EC → UInt8 → ER
  | .btw l, c => if c = 10 ∧ l ≠ [] then .ok (.btw l) else if l.length = 64 then .err 2 else tagS l [] c
  | .tag l t, c => tagS l t c
  | .bhd l t, c => if c = 39 then .ok (.btw (l ++ [⟨t, []⟩])) else if c = 43 then .ok (.cmp l t [] [] []) else .err 30
  | .cmp l t es cs p, c => if c = 63 then .ok (.rel l t es cs p) else if signB c = true then signS l t es cs p c else if c.toNat < 32 ∨ 126 < c.toNat then .err 30 else putS l t es cs p c
  | .rel l t es cs p, c => if signB c = true then putS l t es cs p c else .err 30
inductive EO where
  | err (at_ : Nat) (k : Int)
  | ok (c : EC)
def runE : EC → Nat → Str → EO
  | s, _, [] => .ok s
  | s, i, c :: r => match stepE s c with
    | .err k => .err i k
    | .ok s' => runE s' (i + 1) r
def parseE (t : Str) : List Seg × Nat × Int :=
  if 65536 < t.length then ([], 0, 2) else match runE (.btw []) 0 t with
    | .err i k => ([], i, k)
    | .ok (.btw l) => (l, 0, 0)
    | .ok _ => ([], t.length, 31)
def escB (c : UInt8) : Str := if signB c then [63, c] else [c]
def compT (p : Str) : Str := p.flatMap escB
def joinB (s : UInt8) : List Str → Str
  | [] => []
  | [a] => a
  | a :: b :: l => a ++ s :: joinB s (b :: l)
def elemT (e : List Str) : Str := joinB 58 (e.map compT)
def segT (s : Seg) : Str := s.tag ++ s.elems.flatMap (fun e => 43 :: elemT e) ++ [39]
def printT (l : List Seg) : Str := l.flatMap segT
def tagBad (t : Str) : Bool := t.length != 3 || !t.all tagB
def argP (l : List Seg) : Bool := l.any fun s => tagBad s.tag || s.elems.any fun e => e.isEmpty
def badB (c : UInt8) : Bool := decide (c.toNat < 32) || decide (126 < c.toNat)
def signP (l : List Seg) : Bool := l.any fun s => s.elems.any fun e => e.any fun p => p.any badB
def longP (l : List Seg) : Bool := decide (64 < l.length) || l.any fun s => decide (16 < s.elems.length) || s.elems.any fun e => decide (8 < e.length) || e.any fun p => decide (256 < p.length)
def printE (l : List Seg) : Str × Int :=
  if argP l then ([], 1) else if signP l then ([], 30) else if longP l || decide (65536 < (printT l).length) then ([], 2) else (printT l, 0)
end Go.Proofs.YtgfijlamhjjecaaGreatDoor


namespace Go.Proofs.YtgfijlamhjjecaaGreatDoor
def okB (c : UInt8) : Prop := 32 ≤ c.toNat ∧ c.toNat ≤ 126
def okP (p : Str) : Prop := p.length ≤ 256 ∧ ∀ c ∈ p, okB c
def okEl (e : List Str) : Prop := e ≠ [] ∧ e.length ≤ 8 ∧ ∀ p ∈ e, okP p
def okT (t : Str) : Prop := t.length = 3 ∧ ∀ c ∈ t, tagB c = true
def okS (s : Seg) : Prop := okT s.tag ∧ s.elems.length ≤ 16 ∧ ∀ e ∈ s.elems, okEl e
def okL (l : List Seg) : Prop := l.length ≤ 64 ∧ ∀ s ∈ l, okS s
theorem badB_iff (c : UInt8) : badB c = false ↔ okB c := by
  unfold badB okB; simp
theorem printE_ok {l : List Seg} : okL l → (printT l).length ≤ 65536 → printE l = (printT l, 0) := by
  intro h hl
  have h1 : argP l = false := by
    unfold argP; rw [List.any_eq_false]; intro s hs
    have := h.2 s hs
    rw [Bool.not_eq_true, Bool.or_eq_false_iff]
    refine ⟨?_, ?_⟩
    · unfold tagBad
      rw [Bool.or_eq_false_iff]
      refine ⟨by simp [this.1.1], ?_⟩
      simp only [Bool.not_eq_false', List.all_eq_true]
      exact this.1.2
    · rw [List.any_eq_false]; intro e he; have := this.2.2 e he
      cases e with
      | nil => exact absurd rfl this.1
      | cons a b => simp
  have h2 : signP l = false := by
    unfold signP; rw [List.any_eq_false]; intro s hs
    rw [Bool.not_eq_true, List.any_eq_false]; intro e he
    rw [Bool.not_eq_true, List.any_eq_false]; intro p hp
    rw [Bool.not_eq_true, List.any_eq_false]; intro c hc
    rw [Bool.not_eq_true]
    exact (badB_iff c).2 ((((h.2 s hs).2.2 e he).2.2 p hp).2 c hc)
  have h3 : longP l = false := by
    unfold longP; rw [Bool.or_eq_false_iff]; refine ⟨by have := h.1; simp; omega, ?_⟩
    rw [List.any_eq_false]; intro s hs
    rw [Bool.not_eq_true, Bool.or_eq_false_iff]; refine ⟨by have := (h.2 s hs).2.1; simp; omega, ?_⟩
    rw [List.any_eq_false]; intro e he
    rw [Bool.not_eq_true, Bool.or_eq_false_iff]; refine ⟨by have := ((h.2 s hs).2.2 e he).2.1; simp; omega, ?_⟩
    rw [List.any_eq_false]; intro p hp
    have := (((h.2 s hs).2.2 e he).2.2 p hp).1
    simp; omega
  unfold printE
  rw [h1, h2, h3]
  simp; omega
def restT (cs : List Str) : Str := cs.flatMap fun p => 58 :: compT p
theorem joinB_cons (s : UInt8) (a : Str) (l : List Str) : joinB s (a :: l) = a ++ l.flatMap (fun p => s :: p) := by
  induction l generalizing a with
  | nil => simp [joinB]
  | cons b l ih => rw [joinB, ih b]; simp
theorem elemT_cons (p : Str) (cs : List Str) : elemT (p :: cs) = compT p ++ restT cs := by
  unfold elemT restT
  rw [List.map_cons, joinB_cons, List.flatMap_map]
inductive Ends (cs : List Str) (p : Str) : List Str → Prop
  | mk : Ends cs p (cs ++ [p])
end Go.Proofs.YtgfijlamhjjecaaGreatDoor


namespace Go.Proofs.YtgfijlamhjjecaaGreatDoor
def curT (t : Str) (es : List (List Str)) (cs : List Str) (p : Str) : Str := t ++ (es ++ [cs ++ [p]]).flatMap (fun e => 43 :: elemT e)
def textE : EC → Str
  | .btw l => printT l
  | .tag l t => printT l ++ t
  | .bhd l t => printT l ++ t
  | .cmp l t es cs p => printT l ++ curT t es cs p
  | .rel l t es cs p => printT l ++ curT t es cs p ++ [63]
def okE : EC → Prop
  | .btw l => okL l
  | .tag l t => okL l ∧ l.length < 64 ∧ t.length < 3 ∧ ∀ c ∈ t, tagB c = true
  | .bhd l t => okL l ∧ l.length < 64 ∧ okT t
  | .cmp l t es cs p => okL l ∧ l.length < 64 ∧ okT t ∧ es.length < 16 ∧ (∀ e ∈ es, okEl e) ∧ cs.length < 8 ∧ (∀ q ∈ cs, okP q) ∧ okP p
  | .rel l t es cs p => okL l ∧ l.length < 64 ∧ okT t ∧ es.length < 16 ∧ (∀ e ∈ es, okEl e) ∧ cs.length < 8 ∧ (∀ q ∈ cs, okP q) ∧ okP p
theorem joinB_snoc (s : UInt8) : ∀ (l : List Str) (a : Str), l ≠ [] → joinB s (l ++ [a]) = joinB s l ++ s :: a
  | [], _, h => absurd rfl h
  | [x], a, _ => by simp [joinB]
  | x :: y :: l, a, _ => by
    have ih := joinB_snoc s (y :: l) a (by simp)
    simp only [List.cons_append] at ih ⊢
    rw [joinB, ih, joinB, List.append_assoc]; rfl
theorem elemT_snoc (cs : List Str) (p : Str) (h : cs ≠ []) : elemT (cs ++ [p]) = elemT cs ++ 58 :: compT p := by
  unfold elemT
  rw [List.map_append, List.map_singleton, joinB_snoc _ _ _ (by simpa using h)]
theorem compT_snoc (p : Str) (c : UInt8) : compT (p ++ [c]) = compT p ++ escB c := by simp [compT]
theorem elemT_put (cs : List Str) (p : Str) (c : UInt8) : elemT (cs ++ [p ++ [c]]) = elemT (cs ++ [p]) ++ escB c := by
  by_cases h : cs = []
  · subst h; simp [elemT, joinB, compT_snoc]
  · rw [elemT_snoc _ _ h, elemT_snoc _ _ h, compT_snoc]; simp
theorem curT_put (t : Str) (es : List (List Str)) (cs : List Str) (p : Str) (c : UInt8) : curT t es cs (p ++ [c]) = curT t es cs p ++ escB c := by
  unfold curT
  rw [List.flatMap_append, List.flatMap_append, List.flatMap_singleton, List.flatMap_singleton, elemT_put]; simp
theorem curT_comp (t : Str) (es : List (List Str)) (cs : List Str) (p : Str) : curT t es (cs ++ [p]) [] = curT t es cs p ++ [58] := by
  unfold curT
  rw [List.flatMap_append, List.flatMap_append, List.flatMap_singleton, List.flatMap_singleton, elemT_snoc _ _ (by simp)]; simp [compT]
theorem curT_elem (t : Str) (es : List (List Str)) (cs : List Str) (p : Str) : curT t (es ++ [cs ++ [p]]) [] [] = curT t es cs p ++ [43] := by
  unfold curT
  rw [List.flatMap_append]; simp [elemT, joinB, compT]
theorem printT_snoc (l : List Seg) (s : Seg) : printT (l ++ [s]) = printT l ++ segT s := by simp [printT]
theorem okP_put {p : Str} {c : UInt8} (h : okP p) (hc : okB c) (hl : p.length ≠ 256) : okP (p ++ [c]) := by
  refine ⟨by have := h.1; simp; omega, fun x hx => ?_⟩
  rw [List.mem_append, List.mem_singleton] at hx
  rcases hx with hx | rfl
  · exact h.2 x hx
  · exact hc
theorem okL_snoc {l : List Seg} {s : Seg} (h : okL l) (hl : l.length < 64) (hs : okS s) : okL (l ++ [s]) := by
  refine ⟨by simp; omega, fun x hx => ?_⟩
  rw [List.mem_append, List.mem_singleton] at hx
  rcases hx with hx | rfl
  · exact h.2 x hx
  · exact hs
theorem mem_snoc {α : Type} {P : α → Prop} {l : List α} {a : α} (h : ∀ x ∈ l, P x) (ha : P a) : ∀ x ∈ l ++ [a], P x := fun x hx => by
  rw [List.mem_append, List.mem_singleton] at hx
  rcases hx with hx | rfl
  · exact h x hx
  · exact ha
theorem okEl_snoc {cs : List Str} {p : Str} (h1 : cs.length < 8) (h2 : ∀ q ∈ cs, okP q) (h3 : okP p) : okEl (cs ++ [p]) := ⟨by simp, by simp; omega, mem_snoc h2 h3⟩
theorem okP_nil : okP [] := ⟨by simp, by simp⟩
theorem tagS_text {l : List Seg} {t : Str} {c : UInt8} {s : EC} (h : tagS l t c = .ok s) (hl : okL l) (hn : l.length < 64) (ht : t.length < 3) (hc : ∀ x ∈ t, tagB x = true) : textE s = printT l ++ t ++ [c] ∧ okE s := by
  unfold tagS at h
  split at h
  · cases h
  · rename_i hb
    rw [Bool.not_eq_false] at hb
    split at h
    · cases h; exact ⟨by simp [textE], hl, hn, by simp; omega, mem_snoc hc hb⟩
    · cases h; exact ⟨by simp [textE], hl, hn, by simp; omega, mem_snoc hc hb⟩
theorem putS_text {l : List Seg} {t : Str} {es : List (List Str)} {cs : List Str} {p : Str} {c : UInt8} {s : EC} (h : putS l t es cs p c = .ok s) (ho : okE (.cmp l t es cs p)) (hc : okB c) : textE s = printT l ++ curT t es cs p ++ escB c ∧ okE s := by
  unfold putS at h
  obtain ⟨h1, h2, h3, h4, h5, h6, h7, h8⟩ := ho
  split at h
  · cases h
  · cases h
    exact ⟨by simp [textE, curT_put], h1, h2, h3, h4, h5, h6, h7, okP_put h8 hc (by assumption)⟩
theorem signB_ok {c : UInt8} (h : signB c = true) : okB c := by
  unfold signB at h
  simp only [Bool.or_eq_true, beq_iff_eq] at h
  unfold okB
  rcases h with ((rfl | rfl) | rfl) | rfl <;> decide
theorem signB_no {c : UInt8} (h : signB c = true) (h1 : c ≠ 63) (h2 : c ≠ 39) (h3 : c ≠ 43) : c = 58 := by
  unfold signB at h
  simp only [Bool.or_eq_true, beq_iff_eq] at h
  rcases h with ((rfl | rfl) | rfl) | rfl
  · exact absurd rfl h3
  · rfl
  · exact absurd rfl h2
  · exact absurd rfl h1
theorem step_text {s s' : EC} {c : UInt8} (h : stepE s c = .ok s') (ho : okE s) : textE s' = textE s ++ (if c = 10 then [] else [c]) ∧ okE s' := by
  cases s with
  | btw l =>
    simp only [stepE] at h
    split at h
    · rename_i h10
      cases h
      rw [if_pos h10.1]; exact ⟨by simp, ho⟩
    · split at h
      · cases h
      · have hn : l.length < 64 := by have := ho.1; omega
        have hb : c ≠ 10 := by
          rintro rfl
          unfold tagS at h
          rw [if_pos (by decide)] at h
          cases h
        obtain ⟨e1, e2⟩ := tagS_text h ho hn (by simp) (by simp)
        rw [if_neg hb]
        exact ⟨by rw [e1]; simp [textE], e2⟩
  | tag l t =>
    obtain ⟨h1, h2, h3, h4⟩ := ho
    have hb : c ≠ 10 := by
      rintro rfl
      simp only [stepE] at h
      unfold tagS at h
      rw [if_pos (by decide)] at h
      cases h
    rw [if_neg hb]
    exact tagS_text h h1 h2 h3 h4
  | bhd l t =>
    obtain ⟨h1, h2, h3⟩ := ho
    simp only [stepE] at h
    split at h
    · rename_i hc
      cases h
      subst hc
      rw [if_neg (by decide)]
      exact ⟨by simp [textE, printT_snoc, segT], okL_snoc h1 h2 ⟨h3, by simp, by simp⟩⟩
    · split at h
      · rename_i hc
        cases h
        subst hc
        rw [if_neg (by decide)]
        exact ⟨by simp [textE, curT, elemT, joinB, compT], h1, h2, h3, by simp, by simp, by simp, by simp, okP_nil⟩
      · cases h
  | cmp l t es cs p =>
    have ho' := ho
    obtain ⟨h1, h2, h3, h4, h5, h6, h7, h8⟩ := ho
    simp only [stepE] at h
    split at h
    · rename_i hc
      cases h; subst hc
      rw [if_neg (by decide)]
      exact ⟨rfl, ho'⟩
    · rename_i h63
      split at h
      · rename_i hs
        have hb : c ≠ 10 := by rintro rfl; exact absurd hs (by decide)
        rw [if_neg hb]
        unfold signS at h
        split at h
        · rename_i hc
          cases h; subst hc
          exact ⟨by simp [textE, printT_snoc, segT, curT], okL_snoc h1 h2 ⟨h3, by simp; omega, mem_snoc h5 (okEl_snoc h6 h7 h8)⟩⟩
        · rename_i h39
          split at h
          · rename_i hc
            subst hc
            split at h
            · cases h
            · cases h
              exact ⟨by simp [textE, curT_elem], h1, h2, h3, by simp; omega, mem_snoc h5 (okEl_snoc h6 h7 h8), by simp, by simp, okP_nil⟩
          · rename_i h43
            have := signB_no hs h63 h39 h43
            subst this
            split at h
            · cases h
            · cases h
              exact ⟨by simp [textE, curT_comp], h1, h2, h3, h4, h5, by simp; omega, mem_snoc h7 h8, okP_nil⟩
      · rename_i hs
        split at h
        · cases h
        · rename_i hr
          rw [Bool.not_eq_true] at hs
          have hb : c ≠ 10 := by rintro rfl; exact hr (by decide)
          rw [if_neg hb]
          obtain ⟨e1, e2⟩ := putS_text h ho' ⟨by omega, by omega⟩
          refine ⟨?_, e2⟩
          rw [e1]
          unfold escB
          rw [hs]; rfl
  | rel l t es cs p =>
    simp only [stepE] at h
    split at h
    · rename_i hs
      have hb : c ≠ 10 := by rintro rfl; exact absurd hs (by decide)
      rw [if_neg hb]
      obtain ⟨e1, e2⟩ := putS_text h ho (signB_ok hs)
      refine ⟨?_, e2⟩
      rw [e1]
      unfold escB
      rw [hs]; simp [textE]
    · cases h
def no10 (t : Str) : Str := t.filter (fun c => c != 10)
theorem run_text : ∀ (t : Str) (s s' : EC) (i : Nat), runE s i t = .ok s' → okE s → textE s' = textE s ++ no10 t ∧ okE s'
  | [], s, s', i, h, ho => by simp only [runE, EO.ok.injEq] at h; subst h; exact ⟨by simp [no10], ho⟩
  | c :: t, s, s', i, h, ho => by
    simp only [runE] at h
    cases hs : stepE s c with
    | err k => rw [hs] at h; cases h
    | ok s1 =>
      rw [hs] at h
      obtain ⟨e1, e2⟩ := step_text hs ho
      obtain ⟨e3, e4⟩ := run_text t s1 s' (i + 1) h e2
      refine ⟨?_, e4⟩
      rw [e3, e1, List.append_assoc]
      congr 1
      unfold no10
      rw [List.filter_cons]
      by_cases hc : c = 10
      · subst hc; simp
      · simp [hc]
theorem parse_ok {t : Str} {m : List Seg} {at_ : Nat} (h : parseE t = (m, at_, 0)) (h' : t.length ≤ 65536) : at_ = 0 ∧ runE (.btw []) 0 t = .ok (.btw m) := by
  unfold parseE at h
  rw [if_neg (by omega)] at h
  split at h
  · rename_i i k hr
    injection h with h1 h2; injection h2 with h2 h3
    subst h3
    exfalso
    have : ∀ (t : Str) (s : EC) (i j : Nat), runE s i t ≠ .err j 0 := by
      intro t
      induction t with
      | nil => intro s i j; simp [runE]
      | cons c t ih =>
        intro s i j h
        simp only [runE] at h
        cases hs : stepE s c with
        | ok s1 => rw [hs] at h; exact ih _ _ _ h
        | err k =>
          rw [hs] at h
          simp only [EO.err.injEq] at h
          obtain ⟨_, rfl⟩ := h
          have hT : ∀ l t, tagS l t c ≠ .err 0 := fun l t h => by
            unfold tagS at h; split at h
            · cases h
            · split at h <;> cases h
          have hP : ∀ l t es cs p, putS l t es cs p c ≠ .err 0 := fun l t es cs p h => by
            unfold putS at h; split at h <;> cases h
          cases s with
          | btw l => simp only [stepE] at hs; split at hs; cases hs; split at hs; cases hs; exact hT _ _ hs
          | tag l t => exact hT _ _ hs
          | bhd l t => simp only [stepE] at hs; split at hs; cases hs; split at hs <;> cases hs
          | cmp l t es cs p =>
            simp only [stepE, signS] at hs
            split at hs; cases hs; split at hs
            · split at hs; cases hs; split at hs
              · split at hs <;> cases hs
              · split at hs <;> cases hs
            · split at hs; cases hs; exact hP _ _ _ _ _ hs
          | rel l t es cs p => simp only [stepE] at hs; split at hs; exact hP _ _ _ _ _ hs; cases hs
    exact this _ _ _ _ hr
  · rename_i l hr
    injection h with h1 h2; injection h2 with h2 h3
    subst h1
    exact ⟨h2.symm, hr⟩
  · injection h with h1 h2; injection h2 with h2 h3; cases h3
theorem okE_start : okE (.btw []) := ⟨by simp, by simp⟩
theorem no10_le (t : Str) : (no10 t).length ≤ t.length := List.length_filter_le _ _
theorem print_parse {t : Str} {m : List Seg} {at_ : Nat} (h : parseE t = (m, at_, 0)) (h' : t.length ≤ 65536) : printE m = (no10 t, 0) ∧ okL m := by
  obtain ⟨_, hr⟩ := parse_ok h h'
  obtain ⟨e1, e2⟩ := run_text t _ _ 0 hr okE_start
  have e3 : printT m = no10 t := e1
  have := no10_le t
  rw [printE_ok e2 (by rw [e3]; omega), e3]
  exact ⟨rfl, e2⟩
theorem runE_err_lt : ∀ (t : Str) (s : EC) (i j : Nat) (k : Int), runE s i t = .err j k → i ≤ j ∧ j < i + t.length ∧ ∃ s', runE s i (t.take (j - i)) = .ok s'
  | [], s, i, j, k, h => by simp [runE] at h
  | c :: t, s, i, j, k, h => by
    simp only [runE] at h
    cases hs : stepE s c with
    | err k' =>
      rw [hs] at h
      simp only [EO.err.injEq] at h
      obtain ⟨rfl, rfl⟩ := h
      exact ⟨Nat.le_refl _, by simp, s, by simp [runE]⟩
    | ok s1 =>
      rw [hs] at h
      obtain ⟨h1, h2, s', h3⟩ := runE_err_lt t s1 (i + 1) j k h
      refine ⟨by omega, by simp; omega, s', ?_⟩
      rw [show j - i = (j - (i + 1)) + 1 by omega, List.take_succ_cons]
      simp only [runE, hs]
      exact h3
theorem step_err31 {s : EC} {c : UInt8} {k : Int} (h : stepE s c = .err k) : k ≠ 31 ∧ k ≠ 0 := by
  have hT : ∀ l t, tagS l t c = .err k → k ≠ 31 ∧ k ≠ 0 := fun l t h => by
    unfold tagS at h; split at h
    · cases h; decide
    · split at h <;> cases h
  have hP : ∀ l t es cs p, putS l t es cs p c = .err k → k ≠ 31 ∧ k ≠ 0 := fun l t es cs p h => by
    unfold putS at h; split at h
    · cases h; decide
    · cases h
  cases s with
  | btw l =>
    simp only [stepE] at h; split at h
    · cases h
    · split at h
      · cases h; decide
      · exact hT _ _ h
  | tag l t => exact hT _ _ h
  | bhd l t =>
    simp only [stepE] at h; split at h
    · cases h
    · split at h
      · cases h
      · cases h; decide
  | cmp l t es cs p =>
    simp only [stepE, signS] at h
    split at h
    · cases h
    · split at h
      · split at h
        · cases h
        · split at h
          · split at h
            · cases h; decide
            · cases h
          · split at h
            · cases h; decide
            · cases h
      · split at h
        · cases h; decide
        · exact hP _ _ _ _ _ h
  | rel l t es cs p =>
    simp only [stepE] at h; split at h
    · exact hP _ _ _ _ _ h
    · cases h; decide
theorem runE_err31 : ∀ (t : Str) (s : EC) (i j : Nat) (k : Int), runE s i t = .err j k → k ≠ 31 ∧ k ≠ 0
  | [], s, i, j, k, h => by simp [runE] at h
  | c :: t, s, i, j, k, h => by
    simp only [runE] at h
    cases hs : stepE s c with
    | err k' =>
      rw [hs] at h
      simp only [EO.err.injEq] at h
      obtain ⟨rfl, rfl⟩ := h
      exact step_err31 hs
    | ok s1 => rw [hs] at h; exact runE_err31 t s1 (i + 1) j k h
theorem parse_cut {t : Str} {m : List Seg} {at_ : Nat} {k : Int} (h : parseE t = (m, at_, k)) (h' : t.length ≤ 65536) (hk : k ≠ 0) : at_ ≤ t.length ∧ (k = 31 ↔ at_ = t.length) ∧ m = [] ∧
    ((∃ m', parseE (t.take at_) = (m', 0, 0)) ∨ parseE (t.take at_) = ([], at_, 31)) := by
  have hfin : ∀ s, runE (.btw []) 0 (t.take at_) = .ok s → at_ ≤ t.length → ((∃ m', parseE (t.take at_) = (m', 0, 0)) ∨ parseE (t.take at_) = ([], at_, 31)) := fun s hs hle => by
    have hlen : (t.take at_).length = at_ := by simp; omega
    unfold parseE
    rw [if_neg (by omega), hs, hlen]
    cases s with
    | btw l => exact .inl ⟨l, rfl⟩
    | tag l t => exact .inr rfl
    | bhd l t => exact .inr rfl
    | cmp l t es cs p => exact .inr rfl
    | rel l t es cs p => exact .inr rfl
  unfold parseE at h
  rw [if_neg (by omega)] at h
  split at h
  · rename_i i k' hr
    injection h with h1 h2; injection h2 with h2 h3
    subst h2; subst h3
    obtain ⟨a1, a2, s, a3⟩ := runE_err_lt _ _ _ _ _ hr
    rw [Nat.sub_zero] at a3
    obtain ⟨b1, b2⟩ := runE_err31 _ _ _ _ _ hr
    exact ⟨by omega, ⟨fun e => absurd e b1, fun e => by omega⟩, h1.symm, hfin s a3 (by omega)⟩
  · injection h with h1 h2; injection h2 with h2 h3
    exact absurd h3.symm hk
  · rename_i s hs hr
    injection h with h1 h2; injection h2 with h2 h3
    subst h2; subst h3
    exact ⟨Nat.le_refl _, ⟨fun _ => rfl, fun _ => rfl⟩, h1.symm, hfin s (by rw [List.take_length]; exact hr) (Nat.le_refl _)⟩
end Go.Proofs.YtgfijlamhjjecaaGreatDoor


namespace Go.Proofs.YtgfijlamhjjecaaGreatDoor
abbrev decT (v : Nat) : Str := Lib.decDigits v
def digB (c : UInt8) : Bool := decide (48 ≤ c.toNat) && decide (c.toNat ≤ 57)
def valW : Nat → Str → Option Nat
  | v, [] => some v
  | v, c :: r => if digB c then (if v * 10 + (c.toNat - 48) < 18446744073709551616 then valW (v * 10 + (c.toNat - 48)) r else none) else none
def numW (s : Str) : Option Nat := match s with
  | [] => none
  | c :: r => if c = 48 ∧ r ≠ [] then none else valW 0 (c :: r)
theorem valW_append : ∀ (a b : Str) (v : Nat), valW v (a ++ b) = (valW v a).bind fun u => valW u b
  | [], b, v => rfl
  | c :: a, b, v => by
    simp only [List.cons_append, valW]
    split
    · split
      · exact valW_append a b _
      · rfl
    · rfl
theorem digB_of {d : Nat} (h : d < 10) : digB (UInt8.ofNat (48 + d)) = true ∧ (UInt8.ofNat (48 + d)).toNat = 48 + d := by
  have e : (UInt8.ofNat (48 + d)).toNat = 48 + d := by rw [UInt8.toNat_ofNat']; omega
  refine ⟨?_, e⟩
  unfold digB; rw [e]; simp; omega
theorem dec_small {v : Nat} (h : v < 10) : decT v = [UInt8.ofNat (48 + v)] := Lib.decDigits_one h
theorem dec_step {v : Nat} (h : ¬ v < 10) : decT v = decT (v / 10) ++ [UInt8.ofNat (48 + v % 10)] := by
  show Lib.decDigits v = _
  rw [Lib.decDigits, dif_neg h]
theorem dec_ne (v : Nat) : decT v ≠ [] := by
  by_cases h : v < 10
  · rw [dec_small h]; simp
  · rw [dec_step h]; simp
theorem dec_digs : ∀ (v : Nat), ∀ c ∈ decT v, digB c = true := fun v => by
  induction v using Nat.strongRecOn with
  | ind v ih =>
    by_cases h : v < 10
    · rw [dec_small h]; intro c hc; rw [List.mem_singleton] at hc; subst hc; exact (digB_of h).1
    · rw [dec_step h]
      intro c hc
      rcases List.mem_append.1 hc with hc | hc
      · exact ih (v / 10) (by omega) c hc
      · rw [List.mem_singleton] at hc; subst hc; exact (digB_of (Nat.mod_lt _ (by omega))).1
theorem dec_head : ∀ (v : Nat), 0 < v → (decT v).head? ≠ some 48 := fun v => by
  induction v using Nat.strongRecOn with
  | ind v ih =>
    intro h0
    by_cases h : v < 10
    · rw [dec_small h]
      simp only [List.head?_cons, ne_eq, Option.some.injEq]
      intro e
      have := congrArg UInt8.toNat e
      rw [(digB_of h).2] at this
      have h48 : (48 : UInt8).toNat = 48 := rfl
      omega
    · rw [dec_step h]
      have := ih (v / 10) (by omega) (by omega)
      cases hd : decT (v / 10) with
      | nil => exact absurd hd (dec_ne _)
      | cons a l => rw [hd] at this; simpa using this
theorem val_dec : ∀ (v : Nat), v < 18446744073709551616 → valW 0 (decT v) = some v := fun v => by
  induction v using Nat.strongRecOn with
  | ind v ih =>
    intro hv
    by_cases h : v < 10
    · rw [dec_small h]
      obtain ⟨e1, e2⟩ := digB_of h
      simp only [valW, e1, e2, if_true]
      rw [if_pos (by omega)]
      congr 1; omega
    · rw [dec_step h, valW_append, ih (v / 10) (by omega) (by omega)]
      obtain ⟨e1, e2⟩ := digB_of (Nat.mod_lt v (by omega : 0 < 10))
      simp only [Option.bind_some, valW, e1, e2, if_true]
      rw [if_pos (by omega)]
      congr 1; omega
theorem num_dec {v : Nat} (h : v < 18446744073709551616) : numW (decT v) = some v := by
  have hv := val_dec v h
  have hh := dec_head v
  cases hd : decT v with
  | nil => exact absurd hd (dec_ne v)
  | cons c r =>
    rw [hd] at hv hh
    unfold numW
    simp only
    rw [if_neg, hv]
    rintro ⟨rfl, hr⟩
    rcases Nat.eq_zero_or_pos v with h0 | h0
    · subst h0
      rw [dec_small (by omega)] at hd
      injection hd with _ hd
      exact hr hd.symm
    · exact hh h0 (by simp)
theorem val_inj : ∀ (s : Str) (v u : Nat), 0 < v → valW v s = some u → decT u = decT v ++ s
  | [], v, u, _, h => by simp only [valW, Option.some.injEq] at h; subst h; simp
  | c :: r, v, u, h0, h => by
    simp only [valW] at h
    split at h
    · rename_i hd
      split at h
      · have h1 := val_inj r _ u (by omega) h
        have hc : 48 ≤ c.toNat ∧ c.toNat ≤ 57 := by simpa [digB] using hd
        have e : decT (v * 10 + (c.toNat - 48)) = decT v ++ [c] := by
          rw [dec_step (by omega), show (v * 10 + (c.toNat - 48)) / 10 = v by omega, show (v * 10 + (c.toNat - 48)) % 10 = c.toNat - 48 by omega]
          congr 2
          apply UInt8.toNat_inj.1
          rw [(digB_of (show c.toNat - 48 < 10 by omega)).2]; omega
        rw [h1, e, List.append_assoc]; rfl
      · cases h
    · cases h
theorem num_inj {s : Str} {v : Nat} (h : numW s = some v) : s = decT v := by
  cases s with
  | nil => cases h
  | cons c r =>
    simp only [numW] at h
    split at h
    · cases h
    · rename_i hn
      simp only [valW] at h
      split at h
      · rename_i hd
        have hc : 48 ≤ c.toNat ∧ c.toNat ≤ 57 := by simpa [digB] using hd
        rw [if_pos (by omega), Nat.zero_mul, Nat.zero_add] at h
        have e1 : decT (c.toNat - 48) = [c] := by
          rw [dec_small (by omega)]
          congr 1
          apply UInt8.toNat_inj.1
          rw [(digB_of (show c.toNat - 48 < 10 by omega)).2]; omega
        by_cases h0 : c = 48
        · have hr : r = [] := Classical.byContradiction fun hr => hn ⟨h0, hr⟩
          subst hr
          simp only [valW, Option.some.injEq] at h
          rw [← h, e1]
        · have h0' : 0 < c.toNat - 48 := by
            have : c.toNat ≠ 48 := fun e => h0 (UInt8.toNat_inj.1 e)
            omega
          rw [val_inj r _ v h0' h, e1]; rfl
      · cases h
theorem valW_lt : ∀ (s : Str) (v u : Nat), v < 18446744073709551616 → valW v s = some u → u < 18446744073709551616
  | [], v, u, hv, h => by simp only [valW, Option.some.injEq] at h; omega
  | c :: r, v, u, hv, h => by
    simp only [valW] at h
    split at h
    · split at h
      · rename_i hlt; exact valW_lt r _ u hlt h
      · cases h
    · cases h
theorem num_lt {s : Str} {v : Nat} (h : numW s = some v) : v < 18446744073709551616 := by
  cases s with
  | nil => cases h
  | cons c r =>
    simp only [numW] at h
    split at h
    · cases h
    · exact valW_lt _ 0 v (by omega) h
end Go.Proofs.YtgfijlamhjjecaaGreatDoor


namespace Go.Proofs.YtgfijlamhjjecaaGreatDoor
def oneN : List Str → Option Nat
  | [s] => numW s
  | _ => none
structure WD where
  fr : Nat
  dst : Nat
  rf : Nat
  segs : List Seg
def wd0 : WD := ⟨0, 0, 0, []⟩
def unb : Str := [85, 78, 66]
def unz : Str := [85, 78, 90]
def numsL : List (List Str) → Option (List Nat)
  | [] => some []
  | e :: es => match oneN e, numsL es with
    | some v, some l => some (v :: l)
    | _, _ => none
def numsW (s : Seg) (t : Str) (n : Nat) : Option (List Nat) := if s.tag = t ∧ s.elems.length = n then numsL s.elems else none
def wrapHT (h z : Seg) (m : List Seg) : WD × Int :=
  match numsW h unb 3, numsW z unz 2 with
  | some [a, b, c], some [d, f] => if 8 ≤ a ∨ 8 ≤ b then (wd0, 40) else if d ≠ m.length then (wd0, 41) else if c ≠ f then (wd0, 42) else (⟨a, b, c, m⟩, 0)
  | _, _ => (wd0, 40)
def wrapOf (l : List Seg) : WD × Int :=
  match l with
  | [] => (wd0, 40)
  | h :: r => match r.getLast? with
    | none => (wd0, 40)
    | some z => wrapHT h z r.dropLast
def wrapParseE (t : Str) : WD × Int := if (parseE t).2.2 = 0 then wrapOf (parseE t).1 else (wd0, (parseE t).2.2)
def numSeg (t : Str) (l : List Nat) : Seg := ⟨t, l.map fun v => [decT v]⟩
def wrapL (a b c d f : Nat) (m : List Seg) : List Seg := numSeg unb [a, b, c] :: m ++ [numSeg unz [d, f]]
def wrapPrintE (x : WD) : Str × Int :=
  if 8 ≤ x.fr ∨ 8 ≤ x.dst then ([], 1) else if 62 < x.segs.length then ([], 2) else printE (wrapL x.fr x.dst x.rf x.segs.length x.rf x.segs)
theorem wrapOf_snoc (h z : Seg) (m : List Seg) : wrapOf (h :: (m ++ [z])) = wrapHT h z m := by
  unfold wrapOf
  simp
theorem numsL_len : ∀ {es : List (List Str)} {l : List Nat}, numsL es = some l → l.length = es.length
  | [], l, h => by simp [numsL] at h; subst h; rfl
  | e :: es, l, h => by
    simp only [numsL] at h
    split at h
    · rename_i v l' h1 h2
      cases h
      simp [numsL_len h2]
    · cases h
theorem oneN_inj {e : List Str} {v : Nat} (h : oneN e = some v) : e = [decT v] ∧ v < 18446744073709551616 := by
  unfold oneN at h
  split at h
  · rename_i s
    rw [num_inj h]
    exact ⟨rfl, num_lt h⟩
  · cases h
theorem numsL_inj : ∀ {es : List (List Str)} {l : List Nat}, numsL es = some l → es = l.map (fun v => [decT v]) ∧ ∀ v ∈ l, v < 18446744073709551616
  | [], l, h => by simp [numsL] at h; subst h; simp
  | e :: es, l, h => by
    simp only [numsL] at h
    split at h
    · rename_i v l' h1 h2
      cases h
      obtain ⟨e1, b1⟩ := oneN_inj h1
      obtain ⟨e2, b2⟩ := numsL_inj h2
      refine ⟨by rw [e1, e2]; rfl, fun u hu => ?_⟩
      rcases List.mem_cons.1 hu with rfl | hu
      · exact b1
      · exact b2 u hu
    · cases h
theorem numsW_inj {s : Seg} {t : Str} {n : Nat} {l : List Nat} (h : numsW s t n = some l) : s = numSeg t l ∧ l.length = n ∧ ∀ v ∈ l, v < 18446744073709551616 := by
  unfold numsW at h
  split at h
  · rename_i hc
    obtain ⟨e1, e2⟩ := numsL_inj h
    refine ⟨?_, by rw [numsL_len h]; exact hc.2, e2⟩
    cases s
    simp only at hc e1
    rw [hc.1, e1]; rfl
  · cases h
theorem wrapOf_ok {l : List Seg} {x : WD} (h : wrapOf l = (x, 0)) : l = wrapL x.fr x.dst x.rf x.segs.length x.rf x.segs ∧ x.fr < 8 ∧ x.dst < 8 ∧ x.rf < 18446744073709551616 := by
  unfold wrapOf at h
  split at h
  · cases h
  · rename_i hd r
    split at h
    · cases h
    · rename_i z hz
      have hr : r = r.dropLast ++ [z] := by
        have hne : r ≠ [] := by rintro rfl; cases hz
        have h1 := List.dropLast_concat_getLast hne
        rw [List.getLast?_eq_some_getLast hne] at hz
        cases hz
        exact h1.symm
      unfold wrapHT at h
      split at h
      · rename_i a b c d f h1 h2
        obtain ⟨e1, _, b1⟩ := numsW_inj h1
        obtain ⟨e2, _, b2⟩ := numsW_inj h2
        split at h
        · cases h
        · rename_i hab
          split at h
          · cases h
          · rename_i hdm
            split at h
            · cases h
            · rename_i hcf
              cases h
              have hdm' : d = r.dropLast.length := Classical.byContradiction fun e => hdm e
              have hcf' : c = f := Classical.byContradiction fun e => hcf e
              subst hcf'
              refine ⟨?_, by simp only; omega, by simp only; omega, b1 c (by simp)⟩
              unfold wrapL
              simp only
              rw [List.cons_append, ← hdm', ← e1, ← e2, ← hr]
      · cases h
theorem digB_okB {c : UInt8} (h : digB c = true) : okB c ∧ signB c = false := by
  unfold digB at h
  simp at h
  refine ⟨⟨by omega, by omega⟩, ?_⟩
  unfold signB
  have e : ∀ x : UInt8, (c == x) = decide (c.toNat = x.toNat) := fun x => by rw [Bool.eq_iff_iff, beq_iff_eq, decide_eq_true_eq]; exact UInt8.toNat_inj.symm
  rw [e, e, e, e]
  simp
  refine ⟨⟨⟨?_, ?_⟩, ?_⟩, ?_⟩ <;> omega
theorem dec_len : ∀ (n v : Nat), v < 10 ^ (n + 1) → (decT v).length ≤ n + 1
  | 0, v, h => by rw [dec_small (by omega)]; simp
  | n + 1, v, h => by
    by_cases hv : v < 10
    · rw [dec_small hv]; simp
    · rw [dec_step hv]
      have := dec_len n (v / 10) (by rw [Nat.pow_succ] at h; omega)
      simp; omega
theorem dec_len20 {v : Nat} (h : v < 18446744073709551616) : (decT v).length ≤ 20 := dec_len 19 v (by omega)
theorem compT_dec (v : Nat) : compT (decT v) = decT v := by
  have h := dec_digs v
  generalize decT v = l at h
  induction l with
  | nil => rfl
  | cons c l ih =>
    have h1 : compT (c :: l) = escB c ++ compT l := by simp [compT]
    rw [h1, ih (fun x hx => h x (by simp [hx]))]
    unfold escB
    rw [(digB_okB (h c (by simp))).2]
    rfl
theorem okL_mid {h z : Seg} {m : List Seg} (ho : okL (h :: m ++ [z])) : okL m ∧ m.length ≤ 62 ∧ okS h ∧ okS z := by
  obtain ⟨h1, h2⟩ := ho
  simp at h1
  exact ⟨⟨by omega, fun s hs => h2 s (by simp [hs])⟩, by omega, h2 h (by simp), h2 z (by simp)⟩
theorem elemT_dec (v : Nat) : elemT [decT v] = decT v := by
  show joinB 58 ([decT v].map compT) = _
  simp only [List.map_cons, List.map_nil, joinB]
  exact compT_dec v
theorem segT_num (t : Str) (l : List Nat) : segT (numSeg t l) = t ++ l.flatMap (fun v => 43 :: decT v) ++ [39] := by
  unfold segT numSeg
  simp only [List.flatMap_map]
  congr 2
  congr 1
  funext v
  rw [elemT_dec]
theorem printT_cons (s : Seg) (l : List Seg) : printT (s :: l) = segT s ++ printT l := by simp [printT]
theorem printT_app (l m : List Seg) : printT (l ++ m) = printT l ++ printT m := by simp [printT]
theorem printT_wrap (a b c d f : Nat) (m : List Seg) : printT (wrapL a b c d f m) = segT (numSeg unb [a, b, c]) ++ printT m ++ segT (numSeg unz [d, f]) := by
  unfold wrapL
  rw [printT_app, printT_cons, printT_cons]
  simp [printT]
theorem wrap_there {x : WD} {t : Str} (hl : t.length ≤ 65536) (h : wrapParseE t = (x, 0)) : wrapPrintE x = (no10 t, 0) := by
  unfold wrapParseE at h
  split at h
  · rename_i h0
    obtain ⟨l, i, k, hp⟩ : ∃ l i k, parseE t = (l, i, k) := ⟨_, _, _, rfl⟩
    rw [hp] at h h0
    simp only at h h0
    subst h0
    obtain ⟨e1, h1, h2, h3⟩ := wrapOf_ok h
    obtain ⟨hpr, hok⟩ := print_parse hp hl
    rw [e1] at hpr hok
    obtain ⟨hm, hn, _⟩ := okL_mid hok
    unfold wrapPrintE
    rw [if_neg (by omega), if_neg (by omega)]
    exact hpr
  · rename_i h0
    simp only [Prod.mk.injEq] at h
    exact absurd h.2 h0
def roundT (a b c d f : Nat) (s : Str) : Str := unb ++ 43 :: decT a ++ 43 :: decT b ++ 43 :: decT c ++ 39 :: s ++ unz ++ 43 :: decT d ++ 43 :: decT f ++ [39]
theorem roundT_eq (a b c d f : Nat) (m : List Seg) : printT (wrapL a b c d f m) = roundT a b c d f (printT m) := by
  rw [printT_wrap, segT_num, segT_num]
  unfold roundT
  simp
end Go.Proofs.YtgfijlamhjjecaaGreatDoor


namespace Go.Proofs.YtgfijlamhjjecaaGreatDoor
def numEnd : Lib.NumEnd Nat → Option Nat
  | .ok u => some u
  | _ => none
theorem parseM_val : ∀ (l : Str) (acc : Nat), acc < 18446744073709551616 → numEnd (Lib.parseUintM 18446744073709551615 acc l) = valW acc l
  | [], acc, _ => rfl
  | c :: r, acc, h => by
    have hD : digB c = true ↔ (48 ≤ c.toNat ∧ c.toNat ≤ 57) := by unfold digB; simp
    rw [Lib.parseUintM, valW]
    by_cases hd : 48 ≤ c.toNat ∧ c.toNat ≤ 57
    · rw [if_pos hd, if_pos (hD.2 hd)]
      by_cases h1 : 1844674407370955162 ≤ acc
      · rw [if_pos h1, if_neg (by omega)]; rfl
      · rw [if_neg h1]
        by_cases h2 : 18446744073709551615 < acc * 10 + (c.toNat - 48)
        · rw [if_pos h2, if_neg (by omega)]; rfl
        · rw [if_neg h2, if_pos (by omega)]
          exact parseM_val r _ (by omega)
    · rw [if_neg hd, if_neg (fun h => hd (hD.1 h))]; rfl
theorem num_pu {s : Str} (h0 : s ≠ []) (h1 : ¬ (s.head? = some 48 ∧ 1 < s.length)) : numEnd (Lib.parseUintB 64 s) = numW s := by
  cases s with
  | nil => exact absurd rfl h0
  | cons c r =>
    unfold Lib.parseUintB numW
    rw [if_neg (by simp)]
    have hn : ¬ (c = 48 ∧ r ≠ []) := fun ⟨a, b⟩ => h1 ⟨by simp [a], by
      have := List.length_pos_iff.2 b
      simp; omega⟩
    simp only
    rw [if_neg hn]
    exact parseM_val _ 0 (by omega)
theorem num_zero {s : Str} (h1 : s.head? = some 48 ∧ 1 < s.length) : numW s = none := by
  cases s with
  | nil => rfl
  | cons c r =>
    obtain ⟨h, hl⟩ := h1
    simp only [List.head?_cons, Option.some.injEq] at h
    unfold numW
    simp only
    rw [if_pos ⟨h, by rintro rfl; simp at hl⟩]
theorem num_plus {s : Str} (h1 : s.head? = some 43) : numW s = none := by
  cases s with
  | nil => rfl
  | cons c r =>
    simp only [List.head?_cons, Option.some.injEq] at h1
    subst h1
    unfold numW
    simp only
    rw [if_neg (fun h => absurd h.1 (by decide))]
    rfl
end Go.Proofs.YtgfijlamhjjecaaGreatDoor

