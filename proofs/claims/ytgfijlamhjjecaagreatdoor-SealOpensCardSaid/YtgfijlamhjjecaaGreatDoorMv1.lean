/-
  Texts Base, Base2, Plan, EdiP, EdiM, EdiR, EdiR2, EdiR3, EdiF, EdiX, EdiG, one behind the other. No condition beyond those stated in each.
-/
import Derived.WalkKit
import Derived.WalkSpells
import Derived.WalkLawsBesides
import Derived.Deep.MidRow
import Derived.Deep.WholeRow
import Derived.Laws.CopyOwn
import Derived.RangeFuncRecord
import Derived.Lib.Hide
import Derived.StillTailTactics
import Derived.Maps.OwnOps
import Derived.Deep.RegionHeld3
import Derived.RegionTactic
import Derived.Test.YtgfijlamhjjecaaGreatDoorProg
import Derived.Maps.AppendAt
import Derived.Laws.AppendOwnNone
import Derived.BigQuiet
import Derived.Deep.QuietTactic
import Derived.Lib.ConvBytes
import Derived.Deep.CutBlock
import Derived.Deep.CutRange
namespace Go.Proofs.YtgfijlamhjjecaaGreatDoor
open Go.RowKit
abbrev Sec := Nat → UInt8
def bv (b : UInt8) : Value := .int .u8 (b.toNat : Int)
def rowL (n : Nat) (f : Sec) : List Value := (List.range n).map fun j => bv (f j)
def rowA (n : Nat) (f : Sec) : Array Value := (rowL n f).toArray
theorem rowL_length (n : Nat) (f : Sec) : (rowL n f).length = n := by simp [rowL]
theorem rowA_size (n : Nat) (f : Sec) : (rowA n f).size = n := by simp [rowA, rowL]
theorem rowL_get {n : Nat} (f : Sec) {j : Nat} (h : j < n) : (rowL n f)[j]? = some (bv (f j)) := by simp [rowL, h]
theorem rowA_get {n : Nat} (f : Sec) {j : Nat} (h : j < n) : (rowA n f)[j]? = some (bv (f j)) := by simp [rowA, rowL, h]
theorem rowL_congr {n : Nat} {f g : Sec} (h : ∀ j, j < n → f j = g j) : rowL n f = rowL n g := by
 unfold rowL; apply List.map_congr_left; intro j hj; rw [h j (by simpa using hj)]
theorem rowA_congr {n : Nat} {f g : Sec} (h : ∀ j, j < n → f j = g j) : rowA n f = rowA n g := by
 unfold rowA; rw [rowL_congr h]
theorem rowL_one {n : Nat} {f : Sec} : ∀ v ∈ rowL n f, v.oneCell' = true := by
 intro v hv; simp [rowL] at hv; obtain ⟨j, _, rfl⟩ := hv; rfl
structure Fr (F : List Nat) (w w' : World) : Prop where
 os : w'.os = w.os
 tape : w'.tape = w.tape
 output : w'.output = w.output
 size : w.heap.size ≤ w'.heap.size
 block : ∀ k, k < w.heap.size → k ∉ F → w'.heap[k]? = w.heap[k]?
theorem Fr.refl (F : List Nat) (w : World) : Fr F w w := ⟨rfl, rfl, rfl, Nat.le_refl _, fun _ _ _ => rfl⟩
theorem Fr.trans {F : List Nat} {a b c : World} (h : Fr F a b) (k : Fr F b c) : Fr F a c :=
 ⟨k.os.trans h.os, k.tape.trans h.tape, k.output.trans h.output, Nat.le_trans h.size k.size, fun i hi hn => (k.block i (Nat.lt_of_lt_of_le hi h.size) hn).trans (h.block i hi hn)⟩
theorem Fr.mono {F G : List Nat} {a b : World} (h : Fr F a b) (hs : ∀ k ∈ F, k ∈ G ∨ a.heap.size ≤ k) : Fr G a b :=
 ⟨h.os, h.tape, h.output, h.size, fun i hi hn => h.block i hi (fun hm => by rcases hs i hm with h1 | h1; exact hn h1; omega)⟩
theorem Fr.drew (F : List Nat) (w : World) : Fr F w w.drew := ⟨rfl, rfl, rfl, Nat.le_refl _, fun _ _ _ => rfl⟩
theorem Fr.drewN (F : List Nat) (w : World) (n : Nat) : Fr F w (w.drewN n) := ⟨rfl, rfl, rfl, Nat.le_refl _, fun _ _ _ => rfl⟩
theorem Fr.alloc (F : List Nat) (w : World) (o : Obj) : Fr F w (w.alloc o) :=
 ⟨rfl, rfl, rfl, by simp, fun k hk _ => Below.heap_alloc _ _ _ hk⟩
theorem Fr.setRow {F : List Nat} (w : World) {g : Nat} (hg : g ∈ F) (cs : Array Value) : Fr F w (w.setRow g cs) :=
 ⟨rfl, rfl, rfl, by simp, fun k _ hn => setRow_other w g k cs (fun e => hn (e ▸ hg))⟩
theorem Fr.setCell {F : List Nat} (w : World) {a : Addr} (hg : a.block ∈ F) (v : Value) : Fr F w (w.setCell a v) :=
 ⟨rfl, rfl, rfl, by simp, fun k _ hn => Below.heap_setCell _ _ _ _ (fun e => hn (e ▸ hg))⟩
theorem Fr.putObj {F : List Nat} (w : World) {g : Nat} (hg : g ∈ F) (o : Obj) : Fr F w (w.putObj g o) :=
 ⟨rfl, rfl, rfl, by simp [World.putObj], fun k _ hn => by simp only [World.putObj]; rw [Array.getElem?_setIfInBounds]; split; exact absurd (by simp_all) hn; rfl⟩
theorem Fr.below {w w' : World} (h : Fr [] w w') : Below w.heap.size w w' := ⟨h.os, h.tape, h.output, h.size, fun k hk => h.block k hk (by simp)⟩
theorem Fr.belowB {B : Nat} {F : List Nat} {w w' : World} (h : Fr F w w') (hB : B ≤ w.heap.size) (hF : ∀ k ∈ F, B ≤ k) : Below B w w' :=
 ⟨h.os, h.tape, h.output, h.size, fun k hk => h.block k (by omega) (fun hm => by have := hF k hm; omega)⟩
theorem Below.fr {w w' : World} {B : Nat} (h : Below B w w') (hB : w.heap.size ≤ B) (F : List Nat) : Fr F w w' := ⟨h.os, h.tape, h.output, h.size, fun k hk _ => h.block k (by omega)⟩
theorem grownBy.fr {w w' : World} {row : Option Nat} (h : w.grownBy w' row) (F : List Nat) (hr : ∀ k, row = some k → k ∈ F ∨ w.heap.size ≤ k) : Fr F w w' :=
 ⟨h.os, h.tape, h.output, h.size, fun k hk hn => h.block k hk (fun e => by rcases hr k e.symm with h1 | h1; exact hn h1; omega)⟩
theorem putObj_same {w : World} {g : Nat} (h : g < w.heap.size) (o : Obj) : (w.putObj g o).heap[g]? = some o := by
 simp [World.putObj, h]
theorem putObj_other {w : World} {g k : Nat} (h : k ≠ g) (o : Obj) : (w.putObj g o).heap[k]? = w.heap[k]? := by
 simp only [World.putObj]; rw [Array.getElem?_setIfInBounds_ne (Ne.symm h)]
theorem putObj_size (w : World) (g : Nat) (o : Obj) : (w.putObj g o).heap.size = w.heap.size := by simp [World.putObj]
abbrev Ent := Nat × Sec × Nat
def encE (e : Ent) : MapEntry := ⟨.int .i64 (e.1 : Int), .agg (rowA 64 e.2.1), e.2.2⟩
def findE : List Ent → Nat → Option Sec
 | [], _ => none
 | e :: l, i => if e.1 = i then some e.2.1 else findE l i
def cntM (M : Nat → Option Sec) : Nat → Nat
 | 0 => 0
 | n + 1 => cntM M n + if (M n).isSome then 1 else 0
def MapRep (w : World) (mb n : Nat) (M : Nat → Option Sec) : Prop :=
 ∃ (l : List Ent) (clock : Nat), w.heap[mb]? = some (.map (l.map encE).toArray clock) ∧ (∀ i, findE l i = M i) ∧ l.length = cntM M n ∧ ∀ i, n ≤ i → M i = none
section
variable {P : Program} {w : World} {mt kt et mb n : Nat} {M : Nat → Option Sec}
theorem MapRep.lt (hm : MapRep w mb n M) : mb < w.heap.size := by
 obtain ⟨l, clock, hb, r⟩ := hm; exact (Array.getElem?_eq_some_iff.1 hb).1
end
section
variable {P : Program} {ops : Array Oper} {rest : List Oper} {o : Oper} {a : Act} {w : World} {Q : Exit → Act → World → Prop}
theorem wpList_val {v : Value} {w' : World} (hgd : o.guard = none) (hrun : (execOp a.eval o).run P w = .ok (.value v) w') (h : wpList P ops Q rest (a.put o.dst v) w') : wpList P ops Q (o :: rest) a w :=
 wpList_plain hgd fun _ hK => by unfold Oper.wp; rw [hrun]; exact hK _ _ h
theorem wpList_at (op : Op) (_ : o.op = op) (h : wpList P ops Q (o :: rest) a w) : wpList P ops Q (o :: rest) a w := h
theorem exec_lookup {mt : TypeId} {x i : Operand} (ho : o.op = .lookup mt x i true) {mv iv v : Value} (hx : a.eval x = mv) (hi : a.eval i = iv) (hr : (Instr.lookup mt mv iv true).run P w = .ok v w) :
  (execOp a.eval o).run P w = .ok (.value v) w := by
 unfold execOp
 simp only [ho, hx, hi, Sem.run_bind, hr, Result.andThen_ok, Sem.run_pure]
def splF (f : Sec) (off m : Nat) (g : Sec) : Sec := fun j => if off ≤ j ∧ j < off + m then g (j - off) else f j
theorem copy_row {f g : Sec} {n off m : Nat} (h : off + m ≤ n) : ((rowA n f).toList.take off ++ rowL m g ++ (rowA n f).toList.drop (off + m)).toArray = rowA n (splF f off m g) := by
 apply Array.ext_getElem?
 intro j
 have hl : (rowA n f).toList = rowL n f := by simp [rowA]
 rw [hl, List.getElem?_toArray]
 by_cases h1 : j < off
 · rw [List.append_assoc, List.getElem?_append_left (by simp [rowL_length]; omega), List.getElem?_take_of_lt h1, rowL_get f (by omega), rowA_get _ (by omega)]
   simp only [splF]; rw [if_neg (by omega)]
 · by_cases h2 : j < off + m
   · rw [List.getElem?_append_left (by simp [rowL_length]; omega), List.getElem?_append_right (by simp [rowL_length]; omega)]
     rw [show (List.take off (rowL n f)).length = off by simp [rowL_length]; omega, rowL_get g (by omega), rowA_get _ (by omega)]
     simp only [splF]; rw [if_pos (by omega)]
   · rw [List.getElem?_append_right (by simp [rowL_length]; omega), List.getElem?_drop]
     rw [show off + m + (j - (List.take off (rowL n f) ++ rowL m g).length) = j by simp [rowL_length]; omega]
     by_cases h3 : j < n
     · rw [rowL_get f h3, rowA_get _ h3]; simp only [splF]; rw [if_neg (by omega)]
     · rw [List.getElem?_eq_none (by rw [rowL_length]; omega), Array.getElem?_eq_none (by rw [rowA_size]; omega)]
theorem run_copy_bytes (w : World) (dT sT elem : TypeId) (g off dLen dCap : Nat) (ad : Addr) (sLen sCap n m : Nat) (f h : Sec) (t : TypeId)
  (hu : P.underlying dT = some (.slice elem)) (hs : (P.info? elem).map (·.size) = some 1) (hg : w.heap[g]? = some (.cells (rowA n f) t (0, 0))) (hm : m = Nat.min sLen dLen)
  (hsrc : ∀ j v, (rowL m h)[j]? = some v → w.cell? (ad.add j) = some v) (hfit : off + m ≤ n) (ty : TypeId) :
  (Builtin.copy_ #[dT, sT] ty #[.slice (some ⟨g, off, none⟩) dLen dCap, .slice (some ad) sLen sCap]).run P w = .ok (.int .i64 (m : Int)) (w.setRow g (rowA n (splF f off m h))) := by
 have := run_copy_row (P := P) w dT sT ty elem g off dLen dCap ad sLen sCap (rowA n f) t (rowL m h) hu hs hg (by rw [rowL_length]; exact hm) hsrc (by rw [rowL_length, rowA_size]; exact hfit) rowL_one
 rw [rowL_length, copy_row hfit] at this
 exact this
theorem exec_copy {x y : Operand} {dT sT : TypeId} (ho : o.op = .call { callee := .builtin .copy, args := #[x, y], argTypes := #[dT, sT] }) {xv yv v : Value} (hx : a.eval x = xv) (hy : a.eval y = yv) {w' : World} (hr : ∀ ty, (Builtin.copy_ #[dT, sT] ty #[xv, yv]).run P w = .ok v w') :
  (execOp a.eval o).run P w = .ok (.value v) w' := by
 simp [execOp, ho, resolve, invoke, builtin, hx, hy, hr, Result.andThen]
theorem wpList_skipv {w' : World} (hgd : o.guard = none) (hrun : (execOp a.eval o).run P w = .ok .skip w') (h : wpList P ops Q rest (a.put o.dst undef) w') : wpList P ops Q (o :: rest) a w :=
 wpList_plain hgd fun _ hK => by unfold Oper.wp; rw [hrun]; exact hK _ _ h
theorem exec_update {mt : TypeId} {x i y : Operand} (ho : o.op = .mapUpdate mt x i y) {mv iv yv : Value} (hx : a.eval x = mv) (hi : a.eval i = iv) (hy : a.eval y = yv) {w' : World} (hr : (Instr.mapUpdate mt mv iv yv).run P w = .ok () w') :
  (execOp a.eval o).run P w = .ok .skip w' := by
 unfold execOp
 simp only [ho, hx, hi, hy, Sem.run_bind, hr, Result.andThen_ok, Sem.run_pure]
theorem wpList_update_run (hgd : o.guard = none) {mt : TypeId} {x i y : Operand} (ho : o.op = .mapUpdate mt x i y) {mv iv yv : Value} (hx : a.eval x = mv) (hi : a.eval i = iv) (hy : a.eval y = yv) {w' : World} (hr : (Instr.mapUpdate mt mv iv yv).run P w = .ok () w')
  (h : wpList P ops Q rest (a.put o.dst undef) w') : wpList P ops Q (o :: rest) a w := wpList_skipv hgd (exec_update ho hx hi hy hr) h
def BytesAt (w : World) (v : Value) (m : Nat) (f : Sec) : Prop :=
 ∃ ao cap, v = .slice ao m cap ∧ m ≤ cap ∧ cap ≤ maxLen ∧ (ao = none → m = 0 ∧ cap = 0) ∧ (0 < m → ∃ b off, ao = some ⟨b, off, none⟩ ∧ w.rangeAt b off (rowL m f))
theorem rangeAt_congr {w w' : World} {b off : Nat} {cs : List Value} (h : w.rangeAt b off cs) (e : w'.heap[b]? = w.heap[b]?) : w'.rangeAt b off cs := fun j v hv => (World.cell?_of_block (a := ⟨b, off + j, none⟩) e).trans (h j v hv)
theorem rangeAt_lt {w : World} {b off m : Nat} {f : Sec} (h : w.rangeAt b off (rowL m f)) (hm : 0 < m) : b < w.heap.size := by
 have := h 0 _ (rowL_get f hm)
 exact World.block_lt_of_cell? w _ this
theorem BytesAt.fr {w w' : World} {v : Value} {m : Nat} {f : Sec} {F : List Nat} (h : BytesAt w v m f) (hf : Fr F w w') (hF : ∀ k, v.ownBlock = some k → k ∉ F) : BytesAt w' v m f := by
 obtain ⟨ao, cap, rfl, h1, h2, h3, h4⟩ := h
 refine ⟨ao, cap, rfl, h1, h2, h3, fun hm => ?_⟩
 obtain ⟨b, off, rfl, hr⟩ := h4 hm
 exact ⟨b, off, rfl, rangeAt_congr hr (hf.block b (rangeAt_lt hr hm) (hF b rfl))⟩
end
theorem Fr.then_new {F G : List Nat} {a b c : World} (h : Fr F a b) (k : Fr G b c) (hG : ∀ g ∈ G, g ∈ F ∨ a.heap.size ≤ g) : Fr F a c :=
 ⟨k.os.trans h.os, k.tape.trans h.tape, k.output.trans h.output, Nat.le_trans h.size k.size, fun i hi hn => (k.block i (Nat.lt_of_lt_of_le hi h.size) (fun hm => by rcases hG i hm with h1 | h1; exact hn h1; omega)).trans (h.block i hi hn)⟩
theorem Fr.then_below {F : List Nat} {a b c : World} {B : Nat} (h : Fr F a b) (k : Below B b c) (hB : a.heap.size ≤ B) : Fr F a c :=
 ⟨k.os.trans h.os, k.tape.trans h.tape, k.output.trans h.output, Nat.le_trans h.size k.size, fun i hi hn => (k.block i (by omega)).trans (h.block i hi hn)⟩
theorem results_cells2 {fn : Func} {p q : Tmp} {ty uy : TypeId} (h : fn.results = #[.cell p ty, .cell q uy]) (tmps : Array Value) {P : Program} {w : World} {b off c off2 : Nat} {v u : Value} (hp : tmps.getD p undef = .pointer (some ⟨b, off, none⟩)) (hv : (loadVar ty ⟨b, off, none⟩).run P w = .ok v w)
  (hq : tmps.getD q undef = .pointer (some ⟨c, off2, none⟩)) (hu : (loadVar uy ⟨c, off2, none⟩).run P w = .ok u w) :
  (results fn tmps).run P w = .ok (.tuple #[v, u]) w := by
 rw [Array.getD_eq_getD_getElem?] at hp hq
 simp [results, h, hp, hq, asAddr, Sem.run_bind, hv, hu]
section
variable {P : Program} {ops : Array Oper} {Q : Exit → Act → World → Prop} {md : Region.Mode} {S : World → Prop}
def planB (md : Region.Mode) (ops : Array Oper) : List (Nat × Bool) → Array Bool → Bool
 | [], listed => (Region.ready md ops listed).isEmpty
 | (i, false) :: r, listed => (Region.ready md ops listed).contains i && Region.free md ops listed i && planB md ops r (listed.setIfInBounds i true)
 | (i, true) :: r, listed => decide (Region.ready md ops listed = [i]) && planB md ops r (listed.setIfInBounds i true)
def planOK (md : Region.Mode) (ops : Array Oper) (plan : List (Nat × Bool)) : Bool :=
 Region.noSelect ops && decide (plan.length = ops.size) && planB md ops plan (Array.replicate ops.size false)
def wpPlan (P : Program) (ops : Array Oper) (S : World → Prop) (Q : Exit → Act → World → Prop) : List (Nat × Bool) → Act → World → Prop
 | [], a, w => Q .normal a w
 | (i, false) :: r, a, w => ∃ o v, ops[i]? = some o ∧ YieldsIf P ops S o v a ∧ wpPlan P ops S Q r (a.put o.dst v) w
 | (i, true) :: r, a, w => wpOp P ops Q i (fun a' w' => S w' ∧ wpPlan P ops S Q r a' w') a w
theorem wpPlan_held (hs : Region.noSelect ops = true) (hQ : ∀ c a d v w, Q (.panic c) (a.put d v) w → Q (.panic c) a w) :
  ∀ (plan : List (Nat × Bool)) (listed : Array Bool) (a : Act) (w : World), planB md ops plan listed = true → S w → wpPlan P ops S Q plan a w → wpAnyH P md ops Q S plan.length listed a w
 | [], _, _, _, hB, _, h => ⟨by simpa [planB] using hB, h⟩
 | (i, false) :: r, listed, a, w, hB, hS, h => by
   simp only [planB, Bool.and_eq_true] at hB
   obtain ⟨o, v, hi, hy, h⟩ := h
   exact wpAnyH_take hi hs hB.1.2 hB.1.1 (fun c a w => hQ c a _ _ w) hy hS (wpPlan_held hs hQ r _ _ _ hB.2 hS h)
 | (i, true) :: r, listed, a, w, hB, hS, h => by
   simp only [planB, Bool.and_eq_true, decide_eq_true_eq] at hB
   refine wpAnyH_all hB.1 (by simp) (fun j hj => ?_)
   have e : j = i := by simpa using hj
   subst e
   exact wpOp_mono (fun a' w' h' => ⟨h'.1, wpPlan_held hs hQ r _ _ _ hB.2 h'.1 h'.2⟩) h
theorem wp_region_plan {id : Nat} {a : Act} {w : World} {l : List Oper} (plan : List (Nat × Bool)) (S : World → Prop) (hm : P.follows .mixedOrders = true) (hB : planOK .any l.toArray plan = true) (hS : S w.drew)
  (h : wpPlan P l.toArray S (NoPanic Q) plan a w.drew) : (Code.region id l.toArray true).wp P Q a w := by
 simp only [planOK, Bool.and_eq_true, decide_eq_true_eq] at hB
 refine wp_region_noPanic (wp_region_held (S := S) hm ?_)
 have := wpPlan_held (md := .any) hB.1.1 (Q := NoPanic Q) (fun c a d v w h => h) plan _ a w.drew hB.2 hS h
 rw [hB.1.2] at this
 exact this
def nthO : List Oper → Nat → Option Oper
 | [], _ => none
 | o :: _, 0 => some o
 | _ :: l, i + 1 => nthO l i
theorem nthO_eq : ∀ (l : List Oper) (i : Nat), nthO l i = l[i]?
 | [], _ => rfl
 | _ :: _, 0 => rfl
 | _ :: l, i + 1 => by rw [nthO, nthO_eq l i]; rfl
theorem plan_val {l : List Oper} {i : Nat} {o : Oper} {v : Value} {r : List (Nat × Bool)} {a : Act} {w : World} (hi : nthO l i = some o) (hw : Region.wanted o (yielded l.toArray a.tmps) = true)
  (hrun : ∀ w', S w' → (execOp a.eval o).run P w' = .ok (.value v) w') (h : wpPlan P l.toArray S Q r (a.put o.dst v) w) : wpPlan P l.toArray S Q ((i, false) :: r) a w :=
 ⟨o, v, by rw [List.getElem?_toArray, ← nthO_eq]; exact hi, .inl ⟨hw, hrun⟩, h⟩
theorem plan_skip {l : List Oper} {i : Nat} {o : Oper} {r : List (Nat × Bool)} {a : Act} {w : World} (hi : nthO l i = some o) (hw : Region.wanted o (yielded l.toArray a.tmps) = false)
  (h : wpPlan P l.toArray S Q r (a.put o.dst undef) w) : wpPlan P l.toArray S Q ((i, false) :: r) a w :=
 ⟨o, undef, by rw [List.getElem?_toArray, ← nthO_eq]; exact hi, .inr ⟨hw, rfl⟩, h⟩
theorem plan_nil {a : Act} {w : World} (h : Q .normal a w) : wpPlan P ops S (NoPanic Q) [] a w := h
theorem Oper.wp_post {o : Oper} {a : Act} {w : World} {K : Act → World → Prop} {Q Q' : Exit → Act → World → Prop} (h1 : ∀ c a w, Q (.panic c) a w → Q' (.panic c) a w) (h2 : LetsOut Q → LetsOut Q') (h : o.wp P a w K Q) : o.wp P a w K Q' := by
 unfold Oper.wp at *
 generalize (execOp a.eval o).run P w = r at *
 cases r with
 | ok n w' =>
   cases n <;> simp only [Oper.upon] at h ⊢ <;>
    first
     | exact h
     | exact Calls.mono h (fun e w'' he => by cases e <;> first | exact he | exact h1 _ _ _ he | exact h2 he)
 | halt x w' => cases x <;> simp only [Oper.upon] at h ⊢ <;> first | exact h | exact h1 _ _ _ h
theorem plan_do {l : List Oper} {i : Nat} {o : Oper} {r : List (Nat × Bool)} {a : Act} {w : World} (hi' : nthO l i = some o)
  (h : ∀ K : Act → World → Prop, (∀ a' w', S w' → wpPlan P l.toArray S Q r a' w' → K a' w') → wpList P l.toArray (Exit.then K Q) [o] a w) : wpPlan P l.toArray S Q ((i, true) :: r) a w := by
 have hi : l.toArray[i]? = some o := by rw [List.getElem?_toArray, ← nthO_eq]; exact hi'
 have h0 := h _ (fun a' w' h1 h2 => (⟨h1, h2⟩ : S w' ∧ wpPlan P l.toArray S Q r a' w'))
 show wpOp P l.toArray Q i _ a w
 unfold wpOp
 rw [hi]
 simp only [wpList] at h0 ⊢
 split
 · rename_i hw
   rw [if_pos hw] at h0
   rcases h0 with h0 | ⟨h0, a1, w1, h1⟩
   · exact .inl (Oper.wp_post (fun _ _ _ h => h) (fun ⟨a, w, h⟩ => ⟨a, w, h⟩) h0)
   · exact .inr ⟨h0, a1, w1, h1⟩
 · rename_i hw
   rw [if_neg hw] at h0
   exact h0
end
end Go.Proofs.YtgfijlamhjjecaaGreatDoor
namespace Go.Proofs.YtgfijlamhjjecaaGreatDoor
abbrev Str := List UInt8
structure Seg where
 tag : Str
 elems : List (List Str)
def tagB (c : UInt8) : Bool := (decide (65 ≤ c.toNat) && decide (c.toNat ≤ 90)) || (decide (48 ≤ c.toNat) && decide (c.toNat ≤ 57))
def signB (c : UInt8) : Bool := c == 43 || c == 58 || c == 39 || c == 63
inductive EC where
 | btw (l : List Seg)
 | tag (l : List Seg) (t : Str)
 | bhd (l : List Seg) (t : Str)
 | cmp (l : List Seg) (t : Str) (es : List (List Str)) (cs : List Str) (p : Str)
 | rel (l : List Seg) (t : Str) (es : List (List Str)) (cs : List Str) (p : Str)
inductive ER where
 | err (k : Int)
 | ok (c : EC)
def tagS (l : List Seg) (t : Str) (c : UInt8) : ER :=
 if tagB c = false then .err 30 else if t.length + 1 < 3 then .ok (.tag l (t ++ [c])) else .ok (.bhd l (t ++ [c]))
def putS (l : List Seg) (t : Str) (es : List (List Str)) (cs : List Str) (p : Str) (c : UInt8) : ER :=
 if p.length = 256 then .err 2 else .ok (.cmp l t es cs (p ++ [c]))
def signS (l : List Seg) (t : Str) (es : List (List Str)) (cs : List Str) (p : Str) (c : UInt8) : ER :=
 if c = 39 then .ok (.btw (l ++ [⟨t, es ++ [cs ++ [p]]⟩]))
 else if c = 43 then if es.length + 1 = 16 then .err 2 else .ok (.cmp l t (es ++ [cs ++ [p]]) [] [])
 else if cs.length + 1 = 8 then .err 2 else .ok (.cmp l t es (cs ++ [p]) [])
def stepE : EC → UInt8 → ER
 | .btw l, c => if c = 10 ∧ l ≠ [] then .ok (.btw l) else if l.length = 64 then .err 2 else tagS l [] c
 | .tag l t, c => tagS l t c
 | .bhd l t, c => if c = 39 then .ok (.btw (l ++ [⟨t, []⟩])) else if c = 43 then .ok (.cmp l t [] [] []) else .err 30
 | .cmp l t es cs p, c => if c = 63 then .ok (.rel l t es cs p) else if signB c = true then signS l t es cs p c else if c.toNat < 32 ∨ 126 < c.toNat then .err 30 else putS l t es cs p c
 | .rel l t es cs p, c => if signB c = true then putS l t es cs p c else .err 30
inductive EO where
 | err (at_ : Nat) (k : Int)
 | ok (c : EC)
def runE : EC → Nat → Str → EO
 | s, _, [] => .ok s
 | s, i, c :: r => match stepE s c with
   | .err k => .err i k
   | .ok s' => runE s' (i + 1) r
def parseE (t : Str) : List Seg × Nat × Int :=
 if 65536 < t.length then ([], 0, 2) else match runE (.btw []) 0 t with
  | .err i k => ([], i, k)
  | .ok (.btw l) => (l, 0, 0)
  | .ok _ => ([], t.length, 31)
def escB (c : UInt8) : Str := if signB c then [63, c] else [c]
def compT (p : Str) : Str := p.flatMap escB
def joinB (s : UInt8) : List Str → Str
 | [] => []
 | [a] => a
 | a :: b :: l => a ++ s :: joinB s (b :: l)
def elemT (e : List Str) : Str := joinB 58 (e.map compT)
def segT (s : Seg) : Str := s.tag ++ s.elems.flatMap (fun e => 43 :: elemT e) ++ [39]
def printT (l : List Seg) : Str := l.flatMap segT
def tagBad (t : Str) : Bool := t.length != 3 || !t.all tagB
def argP (l : List Seg) : Bool := l.any fun s => tagBad s.tag || s.elems.any fun e => e.isEmpty
def badB (c : UInt8) : Bool := decide (c.toNat < 32) || decide (126 < c.toNat)
def signP (l : List Seg) : Bool := l.any fun s => s.elems.any fun e => e.any fun p => p.any badB
def longP (l : List Seg) : Bool := decide (64 < l.length) || l.any fun s => decide (16 < s.elems.length) || s.elems.any fun e => decide (8 < e.length) || e.any fun p => decide (256 < p.length)
def printE (l : List Seg) : Str × Int :=
 if argP l then ([], 1) else if signP l then ([], 30) else if longP l || decide (65536 < (printT l).length) then ([], 2) else (printT l, 0)
end Go.Proofs.YtgfijlamhjjecaaGreatDoor
namespace Go.Proofs.YtgfijlamhjjecaaGreatDoor
open Go.RowKit
theorem einfo_u8 : (Tryz.prog.info? 5).map (fun i => (i.zero, i.size, i.bytes)) = some (some (.int .u8 0), 1, 1) := by kernel_rfl
theorem einfo_str : (Tryz.prog.info? 9).map (fun i => (i.zero, i.size, i.bytes)) = some (some (.string ⟨#[]⟩), 1, 16) := by kernel_rfl
theorem einfo_strs : (Tryz.prog.info? 58).map (fun i => (i.zero, i.size, i.bytes)) = some (some (.slice none 0 0), 1, 24) := by kernel_rfl
theorem einfo_seg : (Tryz.prog.info? 94).map (fun i => (i.zero, i.size, i.bytes)) = some (some (.agg #[.string ⟨#[]⟩, .slice none 0 0]), 2, 40) := by kernel_rfl
def sv (s : Str) : Value := .string ⟨s.toArray⟩
theorem cell_lt' {w : World} {b o : Nat} {v : Value} (h : w.cell? ⟨b, o, none⟩ = some v) : b < w.heap.size := World.block_lt_of_cell? w _ h
def RowAt (S : Nat → Prop) (w : World) (v : Value) (xs : List Value) : Prop :=
 ∃ ao cap, v = .slice ao xs.length cap ∧ xs.length ≤ cap ∧ cap ≤ maxLen ∧ (ao = none → cap = 0) ∧ (xs ≠ [] → ∃ b off, ao = some ⟨b, off, none⟩ ∧ S b ∧ ∀ (i : Nat) (x : Value), xs[i]? = some x → w.cell? ⟨b, off + i, none⟩ = some x)
def CompsAt (S : Nat → Prop) (w : World) (v : Value) (cs : List Str) : Prop := RowAt S w v (cs.map sv)
def ElemsAt (S : Nat → Prop) (w : World) (v : Value) (es : List (List Str)) : Prop :=
 ∃ xs : List Value, RowAt S w v xs ∧ xs.length = es.length ∧ ∀ (i : Nat) (e : List Str) (x : Value), es[i]? = some e → xs[i]? = some x → CompsAt S w x e
def SegsAt (S : Nat → Prop) (w : World) (v : Value) (l : List Seg) : Prop :=
 ∃ (ao : Option Addr) (cap : Nat) (xs : List Value), v = .slice ao l.length cap ∧ l.length ≤ cap ∧ cap ≤ maxLen ∧ (ao = none → cap = 0) ∧ xs.length = l.length ∧ (∀ (i : Nat) (s : Seg) (x : Value), l[i]? = some s → xs[i]? = some x → ElemsAt S w x s.elems) ∧
   (l ≠ [] → ∃ b off, ao = some ⟨b, off, none⟩ ∧ S b ∧ ∀ (i : Nat) (s : Seg) (x : Value), l[i]? = some s → xs[i]? = some x → w.cell? ⟨b, off + i * 2, none⟩ = some (sv s.tag) ∧ w.cell? ⟨b, off + i * 2 + 1, none⟩ = some x)
section
variable {S T : Nat → Prop} {w w' : World} {v : Value}
theorem RowAt.cong {xs : List Value} (h : RowAt S w v xs) (hT : ∀ k, S k → T k) (e : ∀ k, S k → w'.heap[k]? = w.heap[k]?) : RowAt T w' v xs := by
 obtain ⟨ao, cap, rfl, h1, h2, h3, h4⟩ := h
 refine ⟨ao, cap, rfl, h1, h2, h3, fun hx => ?_⟩
 obtain ⟨b, off, rfl, hS, hc⟩ := h4 hx
 exact ⟨b, off, rfl, hT b hS, fun i x hi => (World.cell?_of_block (a := ⟨b, off + i, none⟩) (e b hS)).trans (hc i x hi)⟩
theorem CompsAt.cong {cs : List Str} (h : CompsAt S w v cs) (hT : ∀ k, S k → T k) (e : ∀ k, S k → w'.heap[k]? = w.heap[k]?) : CompsAt T w' v cs := RowAt.cong h hT e
theorem ElemsAt.cong {es : List (List Str)} (h : ElemsAt S w v es) (hT : ∀ k, S k → T k) (e : ∀ k, S k → w'.heap[k]? = w.heap[k]?) : ElemsAt T w' v es := by
 obtain ⟨xs, h1, h2, h3⟩ := h
 exact ⟨xs, h1.cong hT e, h2, fun i a x ha hx => (h3 i a x ha hx).cong hT e⟩
theorem SegsAt.cong {l : List Seg} (h : SegsAt S w v l) (hT : ∀ k, S k → T k) (e : ∀ k, S k → w'.heap[k]? = w.heap[k]?) : SegsAt T w' v l := by
 obtain ⟨ao, cap, xs, rfl, h1, h2, h3, h4, h5, h6⟩ := h
 refine ⟨ao, cap, xs, rfl, h1, h2, h3, h4, fun i s x hs hx => (h5 i s x hs hx).cong hT e, fun h0 => ?_⟩
 obtain ⟨b, off, rfl, hS, hc⟩ := h6 h0
 refine ⟨b, off, rfl, hT b hS, fun i s x hs hx => ?_⟩
 obtain ⟨a1, a2⟩ := hc i s x hs hx
 exact ⟨(World.cell?_of_block (a := ⟨b, off + i * 2, none⟩) (e b hS)).trans a1, (World.cell?_of_block (a := ⟨b, off + i * 2 + 1, none⟩) (e b hS)).trans a2⟩
theorem RowAt.nil (S : Nat → Prop) (w : World) : RowAt S w (.slice none 0 0) [] := ⟨none, 0, rfl, Nat.le_refl _, Nat.zero_le _, fun _ => rfl, fun h => absurd rfl h⟩
theorem ElemsAt.nil (S : Nat → Prop) (w : World) : ElemsAt S w (.slice none 0 0) [] := ⟨[], RowAt.nil S w, rfl, fun i e x h => by simp at h⟩
theorem SegsAt.nil (S : Nat → Prop) (w : World) : SegsAt S w (.slice none 0 0) [] := ⟨none, 0, [], rfl, Nat.le_refl _, Nat.zero_le _, fun _ => rfl, rfl, (fun i s x h => by simp at h), fun h => absurd rfl h⟩
end
theorem own_cong {w w' : World} {B : Nat} {e : TypeId} {s n : Nat} {v : Value} {xs : List Value} (h : w.ownsRow B e s v n xs) (he : ∀ k, v.ownBlock = some k → w'.heap[k]? = w.heap[k]?) : w'.ownsRow B e s v n xs := by
 obtain ⟨h1, h2 | ⟨g, cap, cur, rfl, hg, hh, hr⟩⟩ := h
 · exact ⟨h1, .inl h2⟩
 · exact ⟨h1, .inr ⟨g, cap, cur, rfl, hg, (he g rfl).trans hh, hr⟩⟩
theorem own_ty {w : World} {B : Nat} {e : TypeId} {s n k : Nat} {v : Value} {xs : List Value} (h : w.ownsRow B e s v n xs) (hk : v.ownBlock = some k) : ∃ C, w.heap[k]? = some (.cells C e (0, 0)) ∧ B ≤ k ∧ k < w.heap.size := by
 obtain ⟨_, ⟨rfl, _⟩ | ⟨g, cap, cur, rfl, hg, hh, _⟩⟩ := h
 · simp [Value.ownBlock] at hk
 · cases hk; exact ⟨cur, hh, hg, (Array.getElem?_eq_some_iff.1 hh).1⟩
theorem own_form {w : World} {B : Nat} {e : TypeId} {s n : Nat} {v : Value} {xs : List Value} (h : w.ownsRow B e s v n xs) (hn : 0 < n) (_hs : 0 < s) : ∃ g cap cur, v = .slice (some ⟨g, 0, none⟩) n cap ∧ B ≤ g ∧ w.heap[g]? = some (.cells cur e (0, 0)) ∧ n ≤ cap ∧ cap ≤ maxLen ∧ cur.size = cap * s ∧ ∀ j, j < n * s → cur[j]? = xs[j]? := by
 obtain ⟨h1, ⟨rfl, h0⟩ | ⟨g, cap, cur, rfl, hg, hh, hc, hm, hs', hx⟩⟩ := h
 · omega
 · refine ⟨g, cap, cur, rfl, hg, hh, hc, hm, hs', fun j hj => ?_⟩
   rw [← hx, List.getElem?_take_of_lt hj]; simp
theorem own_cell {w : World} {B : Nat} {e : TypeId} {s n g cap : Nat} {xs : List Value} (h : w.ownsRow B e s (.slice (some ⟨g, 0, none⟩) n cap) n xs) {j : Nat} {x : Value} (hj : xs[j]? = some x) : w.cell? ⟨g, j, none⟩ = some x := by
 obtain ⟨h1, ⟨h2, _⟩ | ⟨g', cap', cur, h2, hg, hh, hc, hm, hs', hx⟩⟩ := h
 · cases h2
 · cases h2
   have hlt : j < n * s := by rw [← h1]; exact (List.getElem?_eq_some_iff.1 hj).1
   rw [cell_of_row w g j _ _ _ hh]
   rw [← hx, List.getElem?_take_of_lt hlt] at hj
   simpa using hj
theorem own_frozen {w : World} {B : Nat} {e : TypeId} {s n g cap : Nat} {xs : List Value} (h : w.ownsRow B e s (.slice (some ⟨g, 0, none⟩) n cap) n xs) (j : Nat) : w.frozen? ⟨g, j, none⟩ = false := by
 obtain ⟨h1, ⟨h2, _⟩ | ⟨g', cap', cur, h2, hg, hh, hr⟩⟩ := h
 · cases h2
 · cases h2; exact frozen_of_row w g j _ _ hh
theorem own_set {w : World} {B : Nat} {e : TypeId} {s n g cap : Nat} {xs : List Value} (h : w.ownsRow B e s (.slice (some ⟨g, 0, none⟩) n cap) n xs) {j : Nat} (_hj : j < xs.length) (x : Value) : (w.setCell ⟨g, j, none⟩ x).ownsRow B e s (.slice (some ⟨g, 0, none⟩) n cap) n (xs.set j x) := by
 obtain ⟨h1, ⟨h2, _⟩ | ⟨g', cap', cur, h2, hg, hh, hc, hm, hs', hx⟩⟩ := h
 · cases h2
 · cases h2
   refine ⟨by rw [List.length_set]; exact h1, .inr ⟨g, cap, cur.setIfInBounds j x, rfl, hg, heap_setCell_same w g j _ _ _ hh, hc, hm, by simpa using hs', ?_⟩⟩
   rw [Array.toList_setIfInBounds, ← hx, List.take_set]
theorem own_rest {w : World} {B : Nat} {e : TypeId} {v : Value} {xs : List Value} (h : w.ownsRow B e 1 v xs.length xs) {S : Nat → Prop} (hS : ∀ k, v.ownBlock = some k → S k) : RowAt S w v xs := by
 have h' := h
 obtain ⟨_, ⟨rfl, h0⟩ | ⟨g, cap, cur, rfl, hg, hh, hc, hm, hs', hx⟩⟩ := h
 · exact ⟨none, 0, by rw [h0], by omega, Nat.zero_le _, fun _ => rfl, fun hne => absurd (List.length_eq_zero_iff.1 h0) hne⟩
 · exact ⟨some ⟨g, 0, none⟩, cap, rfl, hc, hm, (fun e => by cases e), fun _ => ⟨g, 0, rfl, hS g rfl, fun i x hi => by rw [Nat.zero_add]; exact own_cell h' hi⟩⟩
def OwnS (w : World) (B : Nat) (v : Value) (l : Str) : Prop := w.ownsRow B 5 1 v l.length (l.map bv)
def segCells : List Seg → List Value → List Value
 | s :: l, x :: xs => sv s.tag :: x :: segCells l xs
 | _, _ => []
theorem segCells_len : ∀ (l : List Seg) (xs : List Value), xs.length = l.length → (segCells l xs).length = l.length * 2
 | [], xs, h => by cases xs <;> simp [segCells]
 | s :: l, [], h => by simp at h
 | s :: l, x :: xs, h => by simp only [segCells, List.length_cons]; rw [segCells_len l xs (by simpa using h)]; omega
theorem segCells_app : ∀ (l m : List Seg) (xs ys : List Value), xs.length = l.length → segCells (l ++ m) (xs ++ ys) = segCells l xs ++ segCells m ys
 | [], m, xs, ys, h => by cases xs <;> simp [segCells] at h ⊢
 | s :: l, m, [], ys, h => by simp at h
 | s :: l, m, x :: xs, ys, h => by simp only [List.cons_append, segCells]; rw [segCells_app l m xs ys (by simpa using h)]
theorem segCells_get : ∀ (l : List Seg) (xs : List Value) (i : Nat) (s : Seg) (x : Value), l[i]? = some s → xs[i]? = some x → (segCells l xs)[i * 2]? = some (sv s.tag) ∧ (segCells l xs)[i * 2 + 1]? = some x
 | [], xs, i, s, x, h, _ => by simp at h
 | _ :: _, [], i, s, x, _, h => by simp at h
 | a :: l, y :: xs, 0, s, x, h1, h2 => by simp at h1 h2; subst h1; subst h2; exact ⟨rfl, rfl⟩
 | a :: l, y :: xs, i + 1, s, x, h1, h2 => by
   have h := segCells_get l xs i s x (by simpa using h1) (by simpa using h2)
   rw [show (i + 1) * 2 = i * 2 + 1 + 1 by omega]
   exact h
theorem segs_rest {w : World} {B : Nat} {v : Value} {l : List Seg} {xs : List Value} {S : Nat → Prop} (h : w.ownsRow B 94 2 v l.length (segCells l xs)) (hx : xs.length = l.length) (hS : ∀ k, v.ownBlock = some k → S k) (he : ∀ (i : Nat) (s : Seg) (x : Value), l[i]? = some s → xs[i]? = some x → ElemsAt S w x s.elems) : SegsAt S w v l := by
 have h' := h
 obtain ⟨_, ⟨rfl, h0⟩ | ⟨g, cap, cur, rfl, hg, hh, hc, hm, hs', _⟩⟩ := h
 · exact ⟨none, 0, xs, by rw [h0], by omega, Nat.zero_le _, fun _ => rfl, hx, he, fun hne => absurd (List.length_eq_zero_iff.1 h0) hne⟩
 · refine ⟨some ⟨g, 0, none⟩, cap, xs, rfl, hc, hm, (fun e => by cases e), hx, he, fun _ => ⟨g, 0, rfl, hS g rfl, fun i s x hs hxi => ?_⟩⟩
   obtain ⟨a1, a2⟩ := segCells_get l xs i s x hs hxi
   rw [Nat.zero_add]
   exact ⟨own_cell h' a1, own_cell h' a2⟩
def CompsO (S : Nat → Prop) (B : Nat) (w : World) (v : Value) (cs : List Str) : Prop := w.ownsRow B 9 1 v cs.length (cs.map sv) ∧ ∀ k, v.ownBlock = some k → S k
def ElemsO (S : Nat → Prop) (B : Nat) (w : World) (v : Value) (es : List (List Str)) : Prop :=
 ∃ ys : List Value, w.ownsRow B 58 1 v es.length ys ∧ (∀ k, v.ownBlock = some k → S k) ∧ ys.length = es.length ∧ ∀ (i : Nat) (e : List Str) (y : Value), es[i]? = some e → ys[i]? = some y → CompsO S B w y e
def SegsO (S : Nat → Prop) (B : Nat) (w : World) (v : Value) (l : List Seg) : Prop :=
 ∃ xs : List Value, w.ownsRow B 94 2 v l.length (segCells l xs) ∧ (∀ k, v.ownBlock = some k → S k) ∧ xs.length = l.length ∧ ∀ (i : Nat) (s : Seg) (x : Value), l[i]? = some s → xs[i]? = some x → ElemsO S B w x s.elems
section
variable {S T : Nat → Prop} {w w' : World} {B : Nat} {v : Value}
theorem CompsO.cong {cs : List Str} (h : CompsO S B w v cs) (hT : ∀ k, S k → T k) (e : ∀ k, S k → w'.heap[k]? = w.heap[k]?) : CompsO T B w' v cs :=
 ⟨own_cong h.1 (fun k hk => e k (h.2 k hk)), fun k hk => hT k (h.2 k hk)⟩
theorem ElemsO.cong {es : List (List Str)} (h : ElemsO S B w v es) (hT : ∀ k, S k → T k) (e : ∀ k, S k → w'.heap[k]? = w.heap[k]?) : ElemsO T B w' v es := by
 obtain ⟨ys, h1, h2, h3, h4⟩ := h
 exact ⟨ys, own_cong h1 (fun k hk => e k (h2 k hk)), fun k hk => hT k (h2 k hk), h3, fun i a x ha hx => (h4 i a x ha hx).cong hT e⟩
theorem ElemsO.nil (S : Nat → Prop) (B : Nat) (w : World) : ElemsO S B w (.slice none 0 0) [] := ⟨[], World.ownsRow_nil _ _ _ _, (fun _ hk => by simp [Value.ownBlock] at hk), rfl, fun i e x h => by simp at h⟩
theorem SegsO.nil (S : Nat → Prop) (B : Nat) (w : World) : SegsO S B w (.slice none 0 0) [] := ⟨[], World.ownsRow_nil _ _ _ _, (fun _ hk => by simp [Value.ownBlock] at hk), rfl, fun i e x h => by simp at h⟩
theorem CompsO.lies {cs : List Str} (h : CompsO S B w v cs) : CompsAt S w v cs := own_rest (by rw [List.length_map]; exact h.1) h.2
theorem ElemsO.lies {es : List (List Str)} (h : ElemsO S B w v es) : ElemsAt S w v es := by
 obtain ⟨ys, h1, h2, h3, h4⟩ := h
 exact ⟨ys, own_rest (by rw [h3]; exact h1) h2, h3, fun i e x ha hx => (h4 i e x ha hx).lies⟩
theorem SegsO.lies {l : List Seg} (h : SegsO S B w v l) : SegsAt S w v l := by
 obtain ⟨xs, h1, h2, h3, h4⟩ := h
 exact segs_rest h1 h3 h2 (fun i s x ha hx => (h4 i s x ha hx).lies)
end
theorem ty_ne {w : World} {b c : Nat} {C D : Array Value} {t u : TypeId} {f g : Nat × Nat} (h1 : w.heap[b]? = some (.cells C t f)) (h2 : w.heap[c]? = some (.cells D u g)) (h : t ≠ u) : b ≠ c := by
 intro e; subst e; rw [h1] at h2; have h3 := Option.some.inj h2; injection h3 with _ h4; exact h h4
theorem own_ne {w : World} {B B' : Nat} {e e' : TypeId} {s s' n n' : Nat} {v v' : Value} {xs xs' : List Value} (h : w.ownsRow B e s v n xs) (h' : w.ownsRow B' e' s' v' n' xs') (he : e ≠ e') {k : Nat} (hk : v.ownBlock = some k) : v'.ownBlock ≠ some k := fun hk' => by
 obtain ⟨C, h1, _⟩ := own_ty h hk
 obtain ⟨D, h2, _⟩ := own_ty h' hk'
 exact ty_ne h1 h2 he rfl
theorem own_lt {w : World} {B : Nat} {e : TypeId} {s n : Nat} {v : Value} {xs : List Value} (h : w.ownsRow B e s v n xs) {k : Nat} (hk : v.ownBlock = some k) : B ≤ k ∧ k < w.heap.size := by
 obtain ⟨_, _, a, b⟩ := own_ty h hk; exact ⟨a, b⟩
structure RA (S : Nat → Prop) (w : World) (B rb : Nat) (l : List Seg) (lv pv : Value) (xs : List Value) (p : Str) : Prop where
 hB : B ≤ rb
 r : w.heap[rb]? = some (.cells #[lv, pv] 215 (0, 0))
 hp : OwnS w B pv p
 hl : w.ownsRow B 94 2 lv l.length (segCells l xs)
 xl : xs.length = l.length
 hes : ∀ (i : Nat) (s : Seg) (x : Value), l[i]? = some s → xs[i]? = some x → ElemsO S B w x s.elems
 s1 : ∀ k, S k → B ≤ k ∧ k < w.heap.size ∧ k ≠ rb ∧ lv.ownBlock ≠ some k ∧ pv.ownBlock ≠ some k
structure RB (S : Nat → Prop) (w : World) (B rb : Nat) (l : List Seg) (t : Str) (es : List (List Str)) (cs : List Str) (p q : Str) (lv pv ev cv : Value) (xs ys : List Value) : Prop where
 hB : B ≤ rb
 r : w.heap[rb]? = some (.cells #[lv, pv] 215 (0, 0))
 hp : OwnS w B pv q
 hl : w.ownsRow B 94 2 lv (l.length + 1) (segCells l xs ++ [sv t, ev])
 xl : xs.length = l.length
 old : ∀ (i : Nat) (s : Seg) (x : Value), l[i]? = some s → xs[i]? = some x → ElemsO S B w x s.elems
 he : w.ownsRow B 58 1 ev (es.length + 1) (ys ++ [cv])
 yl : ys.length = es.length
 ye : ∀ (i : Nat) (e : List Str) (y : Value), es[i]? = some e → ys[i]? = some y → CompsO S B w y e
 hc : w.ownsRow B 9 1 cv (cs.length + 1) ((cs ++ [p]).map sv)
 s1 : ∀ k, S k → B ≤ k ∧ k < w.heap.size ∧ k ≠ rb ∧ lv.ownBlock ≠ some k ∧ pv.ownBlock ≠ some k ∧ ev.ownBlock ≠ some k ∧ cv.ownBlock ≠ some k
section
variable {S : Nat → Prop} {w w' : World} {B rb : Nat} {l : List Seg} {t : Str} {es : List (List Str)} {cs : List Str} {p q : Str} {lv pv ev cv : Value} {xs ys : List Value}
theorem RA.lt (h : RA S w B rb l lv pv xs p) : rb < w.heap.size := (Array.getElem?_eq_some_iff.1 h.r).1
theorem RB.lt (h : RB S w B rb l t es cs p q lv pv ev cv xs ys) : rb < w.heap.size := (Array.getElem?_eq_some_iff.1 h.r).1
theorem RA.c0 (h : RA S w B rb l lv pv xs p) : w.cell? ⟨rb, 0, none⟩ = some lv := by rw [cell_of_row w rb 0 _ _ _ h.r]; rfl
theorem RA.c1 (h : RA S w B rb l lv pv xs p) : w.cell? ⟨rb, 1, none⟩ = some pv := by rw [cell_of_row w rb 1 _ _ _ h.r]; rfl
theorem RA.fz (h : RA S w B rb l lv pv xs p) (j : Nat) : w.frozen? ⟨rb, j, none⟩ = false := frozen_of_row w rb j _ _ h.r
theorem RB.c0 (h : RB S w B rb l t es cs p q lv pv ev cv xs ys) : w.cell? ⟨rb, 0, none⟩ = some lv := by rw [cell_of_row w rb 0 _ _ _ h.r]; rfl
theorem RB.c1 (h : RB S w B rb l t es cs p q lv pv ev cv xs ys) : w.cell? ⟨rb, 1, none⟩ = some pv := by rw [cell_of_row w rb 1 _ _ _ h.r]; rfl
theorem RB.fz (h : RB S w B rb l t es cs p q lv pv ev cv xs ys) (j : Nat) : w.frozen? ⟨rb, j, none⟩ = false := frozen_of_row w rb j _ _ h.r
theorem own_neR {rb : Nat} {C : Array Value} {f : Nat × Nat} {e : TypeId} {s n : Nat} {v : Value} {zs : List Value} (hr : w.heap[rb]? = some (.cells C 215 f)) (h : w.ownsRow B e s v n zs) (he : e ≠ 215) : v.ownBlock ≠ some rb := fun hk => by
 obtain ⟨D, h1, _⟩ := own_ty h hk
 exact ty_ne h1 hr he rfl
theorem RA.keep (h : RA S w B rb l lv pv xs p) (hs : w.heap.size ≤ w'.heap.size) (e : ∀ k, k < w.heap.size → B ≤ k → w'.heap[k]? = w.heap[k]?) : RA S w' B rb l lv pv xs p := by
 refine ⟨h.hB, (e rb h.lt h.hB).trans h.r, own_cong h.hp (fun k hk => e k (own_lt h.hp hk).2 (own_lt h.hp hk).1), own_cong h.hl (fun k hk => e k (own_lt h.hl hk).2 (own_lt h.hl hk).1), h.xl, fun i s x a b => (h.hes i s x a b).cong (fun _ hk => hk) (fun k hk => e k (h.s1 k hk).2.1 (h.s1 k hk).1), fun k hk => ?_⟩
 obtain ⟨a, b, c⟩ := h.s1 k hk
 exact ⟨a, by omega, c⟩
theorem RB.keep (h : RB S w B rb l t es cs p q lv pv ev cv xs ys) (hs : w.heap.size ≤ w'.heap.size) (e : ∀ k, k < w.heap.size → B ≤ k → w'.heap[k]? = w.heap[k]?) : RB S w' B rb l t es cs p q lv pv ev cv xs ys := by
 refine ⟨h.hB, (e rb h.lt h.hB).trans h.r, own_cong h.hp (fun k hk => e k (own_lt h.hp hk).2 (own_lt h.hp hk).1), own_cong h.hl (fun k hk => e k (own_lt h.hl hk).2 (own_lt h.hl hk).1), h.xl, fun i s x a b => (h.old i s x a b).cong (fun _ hk => hk) (fun k hk => e k (h.s1 k hk).2.1 (h.s1 k hk).1),
   own_cong h.he (fun k hk => e k (own_lt h.he hk).2 (own_lt h.he hk).1), h.yl, fun i s x a b => (h.ye i s x a b).cong (fun _ hk => hk) (fun k hk => e k (h.s1 k hk).2.1 (h.s1 k hk).1), own_cong h.hc (fun k hk => e k (own_lt h.hc hk).2 (own_lt h.hc hk).1), fun k hk => ?_⟩
 obtain ⟨a, b, c⟩ := h.s1 k hk
 exact ⟨a, by omega, c⟩
theorem RA.fr0 (h : RA S w B rb l lv pv xs p) (hf : Fr [] w w') : RA S w' B rb l lv pv xs p := h.keep hf.size (fun k hk _ => hf.block k hk (by simp))
theorem RB.fr0 (h : RB S w B rb l t es cs p q lv pv ev cv xs ys) (hf : Fr [] w w') : RB S w' B rb l t es cs p q lv pv ev cv xs ys := h.keep hf.size (fun k hk _ => hf.block k hk (by simp))
theorem RA.part (h : RA S w B rb l lv pv xs p) : RA S (w.setCell ⟨rb, 1, none⟩ (.slice none 0 0)) B rb l lv (.slice none 0 0) xs [] := by
 have e : ∀ k, k ≠ rb → (w.setCell ⟨rb, 1, none⟩ (.slice none 0 0)).heap[k]? = w.heap[k]? := fun k hk => heap_setCell_other w _ _ _ hk
 refine ⟨h.hB, by rw [heap_setCell_same w rb 1 _ _ _ h.r]; rfl, World.ownsRow_nil _ _ _ _, own_cong h.hl (fun k hk => e k (fun e => own_neR h.r h.hl (by decide) (e ▸ hk))), h.xl, fun i s x a b => (h.hes i s x a b).cong (fun _ hk => hk) (fun k hk => e k (h.s1 k hk).2.2.1), fun k hk => ?_⟩
 obtain ⟨a, b, c, d, _⟩ := h.s1 k hk
 exact ⟨a, by simpa using b, c, d, by simp [Value.ownBlock]⟩
theorem RB.part (h : RB S w B rb l t es cs p q lv pv ev cv xs ys) : RB S (w.setCell ⟨rb, 1, none⟩ (.slice none 0 0)) B rb l t es cs p [] lv (.slice none 0 0) ev cv xs ys := by
 have e : ∀ k, k ≠ rb → (w.setCell ⟨rb, 1, none⟩ (.slice none 0 0)).heap[k]? = w.heap[k]? := fun k hk => heap_setCell_other w _ _ _ hk
 refine ⟨h.hB, by rw [heap_setCell_same w rb 1 _ _ _ h.r]; rfl, World.ownsRow_nil _ _ _ _, own_cong h.hl (fun k hk => e k (fun e => own_neR h.r h.hl (by decide) (e ▸ hk))), h.xl, fun i s x a b => (h.old i s x a b).cong (fun _ hk => hk) (fun k hk => e k (h.s1 k hk).2.2.1),
   own_cong h.he (fun k hk => e k (fun e => own_neR h.r h.he (by decide) (e ▸ hk))), h.yl, fun i s x a b => (h.ye i s x a b).cong (fun _ hk => hk) (fun k hk => e k (h.s1 k hk).2.2.1), own_cong h.hc (fun k hk => e k (fun e => own_neR h.r h.hc (by decide) (e ▸ hk))), fun k hk => ?_⟩
 obtain ⟨a, b, c, d, _, f⟩ := h.s1 k hk
 exact ⟨a, by simpa using b, c, d, by simp [Value.ownBlock], f⟩
theorem RA.newseg {w1 : World} {o : Obj} {lv' : Value} (h : RA S w B rb l lv pv xs p) (hg : (w.alloc o).grownBy w1 lv.ownBlock) (hl : w1.ownsRow B 94 2 lv' (l.length + 1) (segCells l xs ++ [sv [], .slice none 0 0])) (hk : lv'.ownBlock = lv.ownBlock ∨ lv'.ownBlock = some (w.alloc o).heap.size) :
  RA S (w1.setCell ⟨rb, 0, none⟩ lv') B rb (l ++ [⟨[], []⟩]) lv' pv (xs ++ [.slice none 0 0]) p := by
 have hsz := hg.size
 have hrb := h.lt
 have e1 : ∀ k, k < w.heap.size → lv.ownBlock ≠ some k → w1.heap[k]? = w.heap[k]? := fun k hk hn => (hg.block k (by simp; omega) (fun e => hn e.symm)).trans (Below.heap_alloc _ _ _ hk)
 have e : ∀ k, k < w.heap.size → lv.ownBlock ≠ some k → k ≠ rb → (w1.setCell ⟨rb, 0, none⟩ lv').heap[k]? = w.heap[k]? := fun k hk hn hr => (heap_setCell_other w1 _ _ _ hr).trans (e1 k hk hn)
 have nlr := own_neR h.r h.hl (by decide)
 have npr := own_neR h.r h.hp (by decide)
 simp at hsz hk
 refine ⟨h.hB, by rw [heap_setCell_same w1 rb 0 _ _ _ ((e1 rb hrb nlr).trans h.r)]; rfl, own_cong h.hp (fun k hk => e k (own_lt h.hp hk).2 (own_ne h.hp h.hl (by decide) hk) (fun e => npr (e ▸ hk))), ?_, by simp [h.xl], fun i s x a b => ?_, fun k hS => ?_⟩
 · rw [List.length_append, List.length_singleton, segCells_app _ _ _ _ h.xl]
   refine own_cong hl (fun k hk' => heap_setCell_other w1 _ _ _ (fun e => ?_))
   subst e
   rcases hk with hk | hk
   · exact nlr (hk ▸ hk')
   · rw [hk] at hk'; have := Option.some.inj hk'; omega
 · rcases Nat.lt_or_ge i l.length with hi | hi
   · rw [List.getElem?_append_left hi] at a
     rw [List.getElem?_append_left (by rw [h.xl]; exact hi)] at b
     exact (h.hes i s x a b).cong (fun _ hk => hk) (fun k hk => e k (h.s1 k hk).2.1 (h.s1 k hk).2.2.2.1 (h.s1 k hk).2.2.1)
   · rw [List.getElem?_append_right hi] at a
     rw [List.getElem?_append_right (by rw [h.xl]; exact hi), h.xl] at b
     have h0 : i - l.length = 0 := by have := (List.getElem?_eq_some_iff.1 a).1; simp at this; omega
     rw [h0] at a b
     simp at a b
     subst a; subst b
     exact ElemsO.nil _ _ _
 · obtain ⟨a, b, c, d, f⟩ := h.s1 k hS
   refine ⟨a, by simp; omega, c, fun e => ?_, f⟩
   rcases hk with hk | hk
   · exact d (hk ▸ e)
   · rw [hk] at e; have := Option.some.inj e; omega
theorem RA.fr_newseg {w1 : World} {o : Obj} {lv' : Value} (h : RA S w B rb l lv pv xs p) (hg : (w.alloc o).grownBy w1 lv.ownBlock) (hB : B ≤ w.heap.size) : Below B w (w1.setCell ⟨rb, 0, none⟩ lv') := by
 have hh := h.hB
 exact ((((Below.refl B w).alloc hB o).grown hg (by simp; omega) (fun k hk => (own_lt h.hl hk).1))).setCell hh lv'
end
section
variable {S : Nat → Prop} {w w' : World} {B rb : Nat} {l : List Seg} {t : Str} {es : List (List Str)} {cs : List Str} {p q : Str} {lv pv ev cv : Value} {xs ys : List Value}
theorem set_end {α : Type} (l : List α) (a b : α) (r : List α) : (l ++ a :: r).set l.length b = l ++ b :: r := by
 induction l with
 | nil => rfl
 | cons c l ih => simp only [List.cons_append, List.length_cons, List.set_cons_succ, ih]
theorem set_end1 {α : Type} (l : List α) (x a b : α) (r : List α) : (l ++ x :: a :: r).set (l.length + 1) b = l ++ x :: b :: r := by
 simp
theorem snoc_of {α : Type} {l : List α} {n : Nat} (h : l.length = n + 1) : ∃ l0 a, l = l0 ++ [a] ∧ l0.length = n := by
 have hne : l ≠ [] := by intro e; rw [e] at h; simp at h
 exact ⟨l.dropLast, l.getLast hne, (List.dropLast_concat_getLast hne).symm, by simp; omega⟩
theorem RA.top {s : Seg} (h : RA S w B rb (l ++ [s]) lv pv xs p) : ∃ g cap x xs0, lv = .slice (some ⟨g, 0, none⟩) (l.length + 1) cap ∧ l.length + 1 ≤ cap ∧ cap ≤ maxLen ∧ xs = xs0 ++ [x] ∧ xs0.length = l.length ∧ w.cell? ⟨g, l.length * 2, none⟩ = some (sv s.tag) ∧ w.cell? ⟨g, l.length * 2 + 1, none⟩ = some x ∧ w.frozen? ⟨g, l.length * 2, none⟩ = false ∧ w.frozen? ⟨g, l.length * 2 + 1, none⟩ = false ∧ ElemsO S B w x s.elems := by
 have hl := h.hl
 rw [List.length_append, List.length_singleton] at hl
 obtain ⟨g, cap, cur, rfl, hg, hh, hc, hm, _, _⟩ := own_form hl (by omega) (by omega)
 have hx := h.xl
 rw [List.length_append, List.length_singleton] at hx
 obtain ⟨xs0, x, rfl, hdl⟩ := snoc_of hx
 have hgx : (xs0 ++ [x])[l.length]? = some x := by rw [List.getElem?_append_right (by omega), hdl]; simp
 have key := segCells_get (l ++ [s]) (xs0 ++ [x]) l.length s x (by simp) hgx
 refine ⟨g, cap, x, xs0, rfl, hc, hm, rfl, hdl, own_cell hl key.1, own_cell hl key.2, own_frozen hl _, own_frozen hl _, h.hes l.length s _ (by simp) hgx⟩
theorem RA.settag {t t' : Str} {g cap : Nat} (h : RA S w B rb (l ++ [⟨t, []⟩]) (.slice (some ⟨g, 0, none⟩) (l.length + 1) cap) pv xs p) : RA S (w.setCell ⟨g, l.length * 2, none⟩ (sv t')) B rb (l ++ [⟨t', []⟩]) (.slice (some ⟨g, 0, none⟩) (l.length + 1) cap) pv xs p := by
 have hl := h.hl
 obtain ⟨g', cap', x, xs0, he, _, _, rfl, hx0, _⟩ := h.top
 cases he
 rw [List.length_append, List.length_singleton] at hl
 have e : ∀ k, k ≠ g → (w.setCell ⟨g, l.length * 2, none⟩ (sv t')).heap[k]? = w.heap[k]? := fun k hk => heap_setCell_other w _ _ _ hk
 have ngr : rb ≠ g := fun e => own_neR h.r hl (by decide) (by rw [e]; rfl)
 have hlen := segCells_len l xs0 hx0
 have hset := own_set hl (j := l.length * 2) (by rw [segCells_app _ _ _ _ hx0, List.length_append, hlen]; simp [segCells]) (sv t')
 have hse : (segCells (l ++ [⟨t, []⟩]) (xs0 ++ [x])).set (l.length * 2) (sv t') = segCells (l ++ [⟨t', []⟩]) (xs0 ++ [x]) := by
  rw [segCells_app _ _ _ _ hx0, segCells_app _ _ _ _ hx0, ← hlen]
  exact set_end _ _ _ _
 rw [hse] at hset
 refine ⟨h.hB, (e rb ngr).trans h.r, own_cong h.hp (fun k hk => e k (fun e => own_ne h.hp hl (by decide) hk (by rw [e]; rfl))), by rw [List.length_append, List.length_singleton]; exact hset, by simp [hx0], fun i s y a b => ?_, fun k hk => ?_⟩
 · have hes : ElemsO S B w y s.elems := by
    rcases Nat.lt_or_ge i l.length with hi | hi
    · exact h.hes i s y (by rw [List.getElem?_append_left hi] at a ⊢; exact a) b
    · have h0 : i = l.length := by have := (List.getElem?_eq_some_iff.1 a).1; simp at this; omega
      subst h0
      have := h.hes l.length ⟨t, []⟩ y (by simp) b
      simp at a
      subst a
      exact this
   exact hes.cong (fun _ hk => hk) (fun k hk => e k (fun e => (h.s1 k hk).2.2.2.1 (by rw [e]; rfl)))
 · obtain ⟨a, b, c⟩ := h.s1 k hk
   exact ⟨a, by simpa using b, c⟩
theorem RB.close (h : RB S w B rb l t es cs p q lv pv ev cv xs ys) : RA (fun k => S k ∨ ev.ownBlock = some k ∨ cv.ownBlock = some k) w B rb (l ++ [⟨t, es ++ [cs ++ [p]]⟩]) lv pv (xs ++ [ev]) q := by
 refine ⟨h.hB, h.r, h.hp, by rw [List.length_append, List.length_singleton, segCells_app _ _ _ _ h.xl]; exact h.hl, by simp [h.xl], fun i s x a b => ?_, fun k hk => ?_⟩
 · rcases Nat.lt_or_ge i l.length with hi | hi
   · rw [List.getElem?_append_left hi] at a
     rw [List.getElem?_append_left (by rw [h.xl]; exact hi)] at b
     exact (h.old i s x a b).cong (fun _ hk => .inl hk) (fun _ _ => rfl)
   · have h0 : i = l.length := by have := (List.getElem?_eq_some_iff.1 a).1; simp at this; omega
     subst h0
     rw [List.getElem?_append_right (by rw [h.xl]; exact Nat.le_refl _), h.xl, Nat.sub_self] at b
     simp at a b
     subst a; subst b
     refine ⟨ys ++ [cv], (by have := h.he; rw [List.length_append, List.length_singleton]; exact this), (fun k hk => .inr (.inl hk)), by simp [h.yl], fun i e y a b => ?_⟩
     rcases Nat.lt_or_ge i es.length with hi | hi
     · rw [List.getElem?_append_left hi] at a
       rw [List.getElem?_append_left (by rw [h.yl]; exact hi)] at b
       exact (h.ye i e y a b).cong (fun _ hk => .inl hk) (fun _ _ => rfl)
     · have h0 : i = es.length := by have := (List.getElem?_eq_some_iff.1 a).1; simp at this; omega
       subst h0
       rw [List.getElem?_append_right (by rw [h.yl]; exact Nat.le_refl _), h.yl, Nat.sub_self] at b
       simp at a b
       subst a; subst b
       exact ⟨by have := h.hc; rw [List.length_append, List.length_singleton]; exact this, fun k hk => .inr (.inr hk)⟩
 · rcases hk with hk | hk | hk
   · obtain ⟨a, b, c, d, e, _⟩ := h.s1 k hk
     exact ⟨a, b, c, d, e⟩
   · obtain ⟨a, b⟩ := own_lt h.he hk
     exact ⟨a, b, fun e => own_neR h.r h.he (by decide) (e ▸ hk), own_ne h.he h.hl (by decide) hk, own_ne h.he h.hp (by decide) hk⟩
   · obtain ⟨a, b⟩ := own_lt h.hc hk
     exact ⟨a, b, fun e => own_neR h.r h.hc (by decide) (e ▸ hk), own_ne h.hc h.hl (by decide) hk, own_ne h.hc h.hp (by decide) hk⟩
theorem RB.tops (h : RB S w B rb l t es cs p q lv pv ev cv xs ys) : ∃ g c1 b c2 d c3, lv = .slice (some ⟨g, 0, none⟩) (l.length + 1) c1 ∧ ev = .slice (some ⟨b, 0, none⟩) (es.length + 1) c2 ∧ cv = .slice (some ⟨d, 0, none⟩) (cs.length + 1) c3 ∧
  l.length + 1 ≤ c1 ∧ c1 ≤ maxLen ∧ es.length + 1 ≤ c2 ∧ c2 ≤ maxLen ∧ cs.length + 1 ≤ c3 ∧ c3 ≤ maxLen ∧
  w.cell? ⟨g, l.length * 2, none⟩ = some (sv t) ∧ w.cell? ⟨g, l.length * 2 + 1, none⟩ = some ev ∧ w.frozen? ⟨g, l.length * 2 + 1, none⟩ = false ∧ w.cell? ⟨b, es.length, none⟩ = some cv ∧ w.frozen? ⟨b, es.length, none⟩ = false ∧ w.cell? ⟨d, cs.length, none⟩ = some (sv p) ∧ w.frozen? ⟨d, cs.length, none⟩ = false := by
 have hl := h.hl
 have he := h.he
 have hc := h.hc
 obtain ⟨g, c1, cur, rfl, _, _, a1, a2, _⟩ := own_form hl (by omega) (by omega)
 obtain ⟨b, c2, cur2, rfl, _, _, b1, b2, _⟩ := own_form he (by omega) (by omega)
 obtain ⟨d, c3, cur3, rfl, _, _, d1, d2, _⟩ := own_form hc (by omega) (by omega)
 have hlen := segCells_len l xs h.xl
 refine ⟨g, c1, b, c2, d, c3, rfl, rfl, rfl, a1, a2, b1, b2, d1, d2, own_cell hl ?_, own_cell hl ?_, own_frozen hl _, own_cell he ?_, own_frozen he _, own_cell hc ?_, own_frozen hc _⟩
 · rw [List.getElem?_append_right (by omega), hlen, Nat.sub_self]; rfl
 · rw [List.getElem?_append_right (by omega), hlen, show l.length * 2 + 1 - l.length * 2 = 1 by omega]; rfl
 · rw [List.getElem?_append_right (by rw [h.yl]; exact Nat.le_refl _), h.yl, Nat.sub_self]; rfl
 · rw [List.map_append, List.getElem?_append_right (by simp), List.length_map, Nat.sub_self]; rfl
end
theorem blk_ag {w w1 : World} {o : Obj} {row : Option Nat} (hg : (w.alloc o).grownBy w1 row) {k : Nat} (hk : k < w.heap.size) (hn : row ≠ some k) : w1.heap[k]? = w.heap[k]? :=
 (hg.block k (by simp; omega) (fun e => hn e.symm)).trans (Below.heap_alloc _ _ _ hk)
theorem blk_ag2 {w w1 : World} {o o' : Obj} {row : Option Nat} (hg : ((w.alloc o).alloc o').grownBy w1 row) {k : Nat} (hk : k < w.heap.size) (hn : row ≠ some k) : w1.heap[k]? = w.heap[k]? :=
 (hg.block k (by simp; omega) (fun e => hn e.symm)).trans ((Below.heap_alloc _ _ _ (by simp; omega)).trans (Below.heap_alloc _ _ _ hk))
section
variable {S : Nat → Prop} {w w' : World} {B rb : Nat} {l : List Seg} {t : Str} {es : List (List Str)} {cs : List Str} {p q : Str} {lv pv ev cv : Value} {xs ys : List Value}
theorem RB.grow {w1 : World} {o : Obj} {pv' : Value} {q' : Str} (h : RB S w B rb l t es cs p q lv pv ev cv xs ys) (hg : (w.alloc o).grownBy w1 pv.ownBlock) (hp' : OwnS w1 B pv' q') (hk : pv'.ownBlock = pv.ownBlock ∨ pv'.ownBlock = some (w.heap.size + 1)) :
  RB S (w1.setCell ⟨rb, 1, none⟩ pv') B rb l t es cs p q' lv pv' ev cv xs ys := by
 have hsz := hg.size
 have hrb := h.lt
 have npr := own_neR h.r h.hp (by decide)
 have e : ∀ k, k < w.heap.size → pv.ownBlock ≠ some k → k ≠ rb → (w1.setCell ⟨rb, 1, none⟩ pv').heap[k]? = w.heap[k]? := fun k hk hn hr => (heap_setCell_other w1 _ _ _ hr).trans (blk_ag hg hk hn)
 simp at hsz
 have own : ∀ {T : TypeId} {s n : Nat} {v : Value} {zs : List Value}, w.ownsRow B T s v n zs → T ≠ 5 → T ≠ 215 → (w1.setCell ⟨rb, 1, none⟩ pv').ownsRow B T s v n zs := fun ho h1 h2 =>
  own_cong ho (fun k hk => e k (own_lt ho hk).2 (own_ne ho h.hp h1 hk) (fun e => own_neR h.r ho h2 (e ▸ hk)))
 refine ⟨h.hB, by rw [heap_setCell_same w1 rb 1 _ _ _ ((blk_ag hg hrb npr).trans h.r)]; rfl, own_cong hp' (fun k hk' => heap_setCell_other w1 _ _ _ (fun e => ?_)), own h.hl (by decide) (by decide), h.xl, fun i s x a b => (h.old i s x a b).cong (fun _ hk => hk) (fun k hk => e k (h.s1 k hk).2.1 (h.s1 k hk).2.2.2.2.1 (h.s1 k hk).2.2.1),
   own h.he (by decide) (by decide), h.yl, fun i s x a b => (h.ye i s x a b).cong (fun _ hk => hk) (fun k hk => e k (h.s1 k hk).2.1 (h.s1 k hk).2.2.2.2.1 (h.s1 k hk).2.2.1), own h.hc (by decide) (by decide), fun k hS => ?_⟩
 · subst e
   rcases hk with hk | hk
   · exact npr (hk ▸ hk')
   · rw [hk] at hk'; have := Option.some.inj hk'; omega
 · obtain ⟨a, b, c, d, f, g⟩ := h.s1 k hS
   refine ⟨a, by simp; omega, c, d, fun e => ?_, g⟩
   rcases hk with hk | hk
   · exact f (hk ▸ e)
   · rw [hk] at e; have := Option.some.inj e; omega
theorem RB.setlast {d c3 : Nat} {p' : Str} (h : RB S w B rb l t es cs p q lv pv ev (.slice (some ⟨d, 0, none⟩) (cs.length + 1) c3) xs ys) : RB S (w.setCell ⟨d, cs.length, none⟩ (sv p')) B rb l t es cs p' q lv pv ev (.slice (some ⟨d, 0, none⟩) (cs.length + 1) c3) xs ys := by
 have e : ∀ k, k ≠ d → (w.setCell ⟨d, cs.length, none⟩ (sv p')).heap[k]? = w.heap[k]? := fun k hk => heap_setCell_other w _ _ _ hk
 have own : ∀ {T : TypeId} {s n : Nat} {v : Value} {zs : List Value}, w.ownsRow B T s v n zs → T ≠ 9 → (w.setCell ⟨d, cs.length, none⟩ (sv p')).ownsRow B T s v n zs := fun ho h1 =>
  own_cong ho (fun k hk => e k (fun e => own_ne ho h.hc h1 hk (by rw [e]; rfl)))
 have hset := own_set h.hc (j := cs.length) (by simp) (sv p')
 have hse : ((cs ++ [p]).map sv).set cs.length (sv p') = (cs ++ [p']).map sv := by
  rw [List.map_append, List.map_append]
  have h1 := set_end (cs.map sv) (sv p) (sv p') []
  rw [List.length_map] at h1
  exact h1
 rw [hse] at hset
 refine ⟨h.hB, (e rb (fun e => own_neR h.r h.hc (by decide) (by rw [e]; rfl))).trans h.r, own h.hp (by decide), own h.hl (by decide), h.xl, fun i s x a b => (h.old i s x a b).cong (fun _ hk => hk) (fun k hk => e k (fun e => (h.s1 k hk).2.2.2.2.2.2 (by rw [e]; rfl))),
   own h.he (by decide), h.yl, fun i s x a b => (h.ye i s x a b).cong (fun _ hk => hk) (fun k hk => e k (fun e => (h.s1 k hk).2.2.2.2.2.2 (by rw [e]; rfl))), hset, fun k hS => ?_⟩
 obtain ⟨a, b, c⟩ := h.s1 k hS
 exact ⟨a, by simpa using b, c⟩
theorem RB.colon {w1 : World} {o : Obj} {b c2 : Nat} {cv' : Value} (h : RB S w B rb l t es cs p q lv pv (.slice (some ⟨b, 0, none⟩) (es.length + 1) c2) cv xs ys) (hg : (w.alloc o).grownBy w1 cv.ownBlock) (hc' : w1.ownsRow B 9 1 cv' (cs.length + 1 + 1) ((cs ++ [p]).map sv ++ [sv []])) (hk : cv'.ownBlock = cv.ownBlock ∨ cv'.ownBlock = some (w.heap.size + 1)) :
  RB S (w1.setCell ⟨b, es.length, none⟩ cv') B rb l t es (cs ++ [p]) [] q lv pv (.slice (some ⟨b, 0, none⟩) (es.length + 1) c2) cv' xs ys := by
 have hsz := hg.size
 have hrb := h.lt
 simp at hsz
 have hbl := own_lt h.he (k := b) rfl
 have ncb : cv.ownBlock ≠ some b := fun e => own_ne h.hc h.he (by decide) e rfl
 have ncr := own_neR h.r h.hc (by decide)
 have e1 : ∀ k, k < w.heap.size → cv.ownBlock ≠ some k → w1.heap[k]? = w.heap[k]? := fun k hk hn => blk_ag hg hk hn
 have e : ∀ k, k < w.heap.size → cv.ownBlock ≠ some k → k ≠ b → (w1.setCell ⟨b, es.length, none⟩ cv').heap[k]? = w.heap[k]? := fun k hk hn hr => (heap_setCell_other w1 _ _ _ hr).trans (e1 k hk hn)
 have own : ∀ {T : TypeId} {s n : Nat} {v : Value} {zs : List Value}, w.ownsRow B T s v n zs → T ≠ 9 → T ≠ 58 → (w1.setCell ⟨b, es.length, none⟩ cv').ownsRow B T s v n zs := fun ho h1 h2 =>
  own_cong ho (fun k hk => e k (own_lt ho hk).2 (own_ne ho h.hc h1 hk) (fun e => own_ne ho h.he h2 hk (by rw [e]; rfl)))
 have he1 : w1.ownsRow B 58 1 (.slice (some ⟨b, 0, none⟩) (es.length + 1) c2) (es.length + 1) (ys ++ [cv]) := own_cong h.he (fun k hk => by cases hk; exact e1 b hbl.2 ncb)
 have hset := own_set he1 (j := es.length) (by simp [h.yl]) cv'
 have hse : (ys ++ [cv]).set es.length cv' = ys ++ [cv'] := by
  have h1 := set_end ys cv cv' []
  rw [h.yl] at h1; exact h1
 rw [hse] at hset
 refine ⟨h.hB, (e rb hrb ncr (fun e => own_neR h.r h.he (by decide) (by rw [e]; rfl))).trans h.r, own h.hp (by decide) (by decide), own h.hl (by decide) (by decide), h.xl, fun i s x a b => (h.old i s x a b).cong (fun _ hk => hk) (fun k hk => e k (h.s1 k hk).2.1 (h.s1 k hk).2.2.2.2.2.2 (fun e => (h.s1 k hk).2.2.2.2.2.1 (by rw [e]; rfl))),
   hset, h.yl, fun i s x a b => (h.ye i s x a b).cong (fun _ hk => hk) (fun k hk => e k (h.s1 k hk).2.1 (h.s1 k hk).2.2.2.2.2.2 (fun e => (h.s1 k hk).2.2.2.2.2.1 (by rw [e]; rfl))), ?_, fun k hS => ?_⟩
 · rw [List.length_append, List.length_singleton, List.map_append]
   refine own_cong hc' (fun k hk' => heap_setCell_other w1 _ _ _ (fun e => ?_))
   have e' : k = b := e
   rw [e'] at hk'
   rcases hk with hk | hk
   · exact ncb (hk ▸ hk')
   · rw [hk] at hk'; have h1 := Option.some.inj hk'; omega
 · obtain ⟨a, b', c, d, f, g, i⟩ := h.s1 k hS
   refine ⟨a, by simp; omega, c, d, f, g, fun e => ?_⟩
   rcases hk with hk | hk
   · exact i (hk ▸ e)
   · rw [hk] at e; have := Option.some.inj e; omega
theorem RB.next {w1 : World} {g c1 : Nat} {ev' : Value} {o o' : Obj} (ho : o = .cells #[sv []] 9 (0, 0)) (_ho' : o' = .cells #[.slice (some ⟨w.heap.size, 0, none⟩) 1 1] 58 (0, 0)) (h : RB S w B rb l t es cs p q (.slice (some ⟨g, 0, none⟩) (l.length + 1) c1) pv ev cv xs ys) (hB : B ≤ w.heap.size) (hg : ((w.alloc o).alloc o').grownBy w1 ev.ownBlock)
  (he' : w1.ownsRow B 58 1 ev' (es.length + 1 + 1) (ys ++ [cv] ++ [.slice (some ⟨w.heap.size, 0, none⟩) 1 1])) (hk : ev'.ownBlock = ev.ownBlock ∨ ev'.ownBlock = some (w.heap.size + 2)) :
  RB (fun k => S k ∨ cv.ownBlock = some k) (w1.setCell ⟨g, l.length * 2 + 1, none⟩ ev') B rb l t (es ++ [cs ++ [p]]) [] [] q (.slice (some ⟨g, 0, none⟩) (l.length + 1) c1) pv ev' (.slice (some ⟨w.heap.size, 0, none⟩) 1 1) xs (ys ++ [cv]) := by
 have hsz := hg.size
 have hrb := h.lt
 simp at hsz
 have hgl := own_lt h.hl (k := g) rfl
 have neg : ev.ownBlock ≠ some g := fun e => own_ne h.he h.hl (by decide) e rfl
 have ner := own_neR h.r h.he (by decide)
 have e1 : ∀ k, k < w.heap.size → ev.ownBlock ≠ some k → w1.heap[k]? = w.heap[k]? := fun k hk hn => blk_ag2 hg hk hn
 have e : ∀ k, k < w.heap.size → ev.ownBlock ≠ some k → k ≠ g → (w1.setCell ⟨g, l.length * 2 + 1, none⟩ ev').heap[k]? = w.heap[k]? := fun k hk hn hr => (heap_setCell_other w1 _ _ _ hr).trans (e1 k hk hn)
 have own : ∀ {T : TypeId} {s n : Nat} {v : Value} {zs : List Value}, w.ownsRow B T s v n zs → T ≠ 58 → T ≠ 94 → (w1.setCell ⟨g, l.length * 2 + 1, none⟩ ev').ownsRow B T s v n zs := fun ho h1 h2 =>
  own_cong ho (fun k hk => e k (own_lt ho hk).2 (own_ne ho h.he h1 hk) (fun e => own_ne ho h.hl h2 hk (by rw [e]; rfl)))
 have hl1 := own_cong h.hl (w' := w1) (fun k hk => by cases hk; exact e1 g hgl.2 neg)
 have hlen := segCells_len l xs h.xl
 have hset := own_set hl1 (j := l.length * 2 + 1) (by rw [List.length_append, hlen]; show l.length * 2 + 1 < l.length * 2 + 2; omega) ev'
 have hse : (segCells l xs ++ [sv t, ev]).set (l.length * 2 + 1) ev' = segCells l xs ++ [sv t, ev'] := by
  have h1 := set_end1 (segCells l xs) (sv t) ev ev' []
  rw [hlen] at h1; exact h1
 rw [hse] at hset
 have hnew : (w1.setCell ⟨g, l.length * 2 + 1, none⟩ ev').heap[w.heap.size]? = some (.cells #[sv []] 9 (0, 0)) := by
  refine (heap_setCell_other w1 _ _ _ (by show w.heap.size ≠ g; omega)).trans ((hg.block w.heap.size (by simp; omega) (fun e => ?_)).trans ((Below.heap_alloc _ _ _ (by simp)).trans (by rw [ho]; exact heap_alloc_new _ _)))
  have := (own_lt h.he e.symm).2; omega
 have hcc : (w1.setCell ⟨g, l.length * 2 + 1, none⟩ ev').ownsRow B 9 1 (.slice (some ⟨w.heap.size, 0, none⟩) 1 1) 1 [sv []] :=
  ⟨rfl, .inr ⟨w.heap.size, 1, _, rfl, hB, hnew, Nat.le_refl _, by unfold maxLen; omega, rfl, rfl⟩⟩
 refine ⟨h.hB, (e rb hrb ner (fun e => own_neR h.r h.hl (by decide) (by rw [e]; rfl))).trans h.r, own h.hp (by decide) (by decide), hset, h.xl, fun i s x a b => (h.old i s x a b).cong (fun _ hk => .inl hk) (fun k hk => e k (h.s1 k hk).2.1 (h.s1 k hk).2.2.2.2.2.1 (fun e => (h.s1 k hk).2.2.2.1 (by rw [e]; rfl))),
   ?_, by simp [h.yl], fun i f y a b => ?_, hcc, fun k hS => ?_⟩
 · rw [List.length_append, List.length_singleton]
   refine own_cong he' (fun k hk' => heap_setCell_other w1 _ _ _ (fun e => ?_))
   have e' : k = g := e
   rw [e'] at hk'
   rcases hk with hk | hk
   · exact neg (hk ▸ hk')
   · rw [hk] at hk'; have h1 := Option.some.inj hk'; omega
 · rcases Nat.lt_or_ge i es.length with hi | hi
   · rw [List.getElem?_append_left hi] at a
     rw [List.getElem?_append_left (by rw [h.yl]; exact hi)] at b
     exact (h.ye i f y a b).cong (fun _ hk => .inl hk) (fun k hk => e k (h.s1 k hk).2.1 (h.s1 k hk).2.2.2.2.2.1 (fun e => (h.s1 k hk).2.2.2.1 (by rw [e]; rfl)))
   · have h0 : i = es.length := by have := (List.getElem?_eq_some_iff.1 a).1; simp at this; omega
     subst h0
     rw [List.getElem?_append_right (by rw [h.yl]; exact Nat.le_refl _), h.yl, Nat.sub_self] at b
     simp at a b
     subst a; subst b
     have hc2 := own h.hc (by decide) (by decide)
     exact ⟨by rw [List.length_append, List.length_singleton]; exact hc2, fun k hk => .inr hk⟩
 · rcases hS with hS | hS
   · obtain ⟨a, b', c, d, f, i, j⟩ := h.s1 k hS
     refine ⟨a, by simp; omega, c, d, f, fun e => ?_, fun e => ?_⟩
     · rcases hk with hk | hk
       · exact i (hk ▸ e)
       · rw [hk] at e; have := Option.some.inj e; omega
     · have h1 : w.heap.size = k := by simpa [Value.ownBlock] using e
       omega
   · obtain ⟨a, b'⟩ := own_lt h.hc hS
     refine ⟨a, by simp; omega, fun e => own_neR h.r h.hc (by decide) (e ▸ hS), own_ne h.hc h.hl (by decide) hS, own_ne h.hc h.hp (by decide) hS, fun e => ?_, fun e => ?_⟩
     · rcases hk with hk | hk
       · exact own_ne h.hc h.he (by decide) hS (hk ▸ e)
       · rw [hk] at e; have := Option.some.inj e; omega
     · have h1 : w.heap.size = k := by simpa [Value.ownBlock] using e
       omega
theorem RA.open {w1 : World} {g c1 : Nat} {ev' : Value} {o o' : Obj} {xs0 : List Value} (ho : o = .cells #[sv []] 9 (0, 0)) (_ho' : o' = .cells #[.slice (some ⟨w.heap.size, 0, none⟩) 1 1] 58 (0, 0)) (h : RA S w B rb (l ++ [⟨t, []⟩]) (.slice (some ⟨g, 0, none⟩) (l.length + 1) c1) pv (xs0 ++ [.slice none 0 0]) p) (hB : B ≤ w.heap.size) (hg : ((w.alloc o).alloc o').grownBy w1 none)
  (he' : w1.ownsRow B 58 1 ev' 1 [.slice (some ⟨w.heap.size, 0, none⟩) 1 1]) (hk : ev'.ownBlock = none ∨ ev'.ownBlock = some (w.heap.size + 2)) :
  RB S (w1.setCell ⟨g, l.length * 2 + 1, none⟩ ev') B rb l t [] [] [] p (.slice (some ⟨g, 0, none⟩) (l.length + 1) c1) pv ev' (.slice (some ⟨w.heap.size, 0, none⟩) 1 1) xs0 [] := by
 have hl := h.hl
 have hx0 : xs0.length = l.length := by have := h.xl; simpa using this
 rw [List.length_append, List.length_singleton, segCells_app _ _ _ _ hx0] at hl
 have hsz := hg.size
 have hrb := h.lt
 simp at hsz
 have hgl := own_lt hl (k := g) rfl
 have e1 : ∀ k, k < w.heap.size → w1.heap[k]? = w.heap[k]? := fun k hk => blk_ag2 hg hk (by simp)
 have e : ∀ k, k < w.heap.size → k ≠ g → (w1.setCell ⟨g, l.length * 2 + 1, none⟩ ev').heap[k]? = w.heap[k]? := fun k hk hr => (heap_setCell_other w1 _ _ _ hr).trans (e1 k hk)
 have hl1 := own_cong hl (w' := w1) (fun k hk => by cases hk; exact e1 g hgl.2)
 have hlen := segCells_len l xs0 hx0
 have hset := own_set hl1 (j := l.length * 2 + 1) (by rw [List.length_append, hlen]; show l.length * 2 + 1 < l.length * 2 + 2; omega) ev'
 have hse : (segCells l xs0 ++ segCells [⟨t, []⟩] [.slice none 0 0]).set (l.length * 2 + 1) ev' = segCells l xs0 ++ [sv t, ev'] := by
  have h1 := set_end1 (segCells l xs0) (sv t) (.slice none 0 0) ev' []
  rw [hlen] at h1; exact h1
 rw [hse] at hset
 have hnew : (w1.setCell ⟨g, l.length * 2 + 1, none⟩ ev').heap[w.heap.size]? = some (.cells #[sv []] 9 (0, 0)) :=
  (heap_setCell_other w1 _ _ _ (by show w.heap.size ≠ g; omega)).trans ((hg.block w.heap.size (by simp; omega) (by simp)).trans ((Below.heap_alloc _ _ _ (by simp)).trans (by rw [ho]; exact heap_alloc_new _ _)))
 have hcc : (w1.setCell ⟨g, l.length * 2 + 1, none⟩ ev').ownsRow B 9 1 (.slice (some ⟨w.heap.size, 0, none⟩) 1 1) 1 [sv []] :=
  ⟨rfl, .inr ⟨w.heap.size, 1, _, rfl, hB, hnew, Nat.le_refl _, by unfold maxLen; omega, rfl, rfl⟩⟩
 refine ⟨h.hB, (e rb hrb (fun e => own_neR h.r hl (by decide) (by rw [e]; rfl))).trans h.r, own_cong h.hp (fun k hk => e k (own_lt h.hp hk).2 (fun e => own_ne h.hp hl (by decide) hk (by rw [e]; rfl))), hset, hx0, fun i s x a b => ?_,
   ?_, rfl, fun i f y a b => by simp at a, hcc, fun k hS => ?_⟩
 · have hi : i < l.length := (List.getElem?_eq_some_iff.1 a).1
   have h1 := h.hes i s x (by rw [List.getElem?_append_left hi]; exact a) (by rw [List.getElem?_append_left (by omega)]; exact b)
   exact h1.cong (fun _ hk => hk) (fun k hk => e k (h.s1 k hk).2.1 (fun e => (h.s1 k hk).2.2.2.1 (by rw [e]; rfl)))
 · refine own_cong he' (fun k hk' => heap_setCell_other w1 _ _ _ (fun e => ?_))
   have e' : k = g := e
   rw [e'] at hk'
   rcases hk with hk | hk
   · rw [hk] at hk'; cases hk'
   · rw [hk] at hk'; have h1 := Option.some.inj hk'; omega
 · obtain ⟨a, b', c, d, f⟩ := h.s1 k hS
   refine ⟨a, by simp; omega, c, d, f, fun e => ?_, fun e => ?_⟩
   · rcases hk with hk | hk
     · rw [hk] at e; cases e
     · rw [hk] at e; have := Option.some.inj e; omega
   · have h1 : w.heap.size = k := by simpa [Value.ownBlock] using e
     omega
end
set_option maxHeartbeats 1000000 in
theorem tagged_any (c : UInt8) (w : World) : Calls Tryz.prog 134 #[.int .u8 (c.toNat : Int)] w fun e w' => e = .returned (.bool (tagB c)) ∧ w = w' := by
 have hE : tagB c = ((decide (65 ≤ c.toNat) && decide (c.toNat ≤ 90)) || (decide (48 ≤ c.toNat) && decide (c.toNat ≤ 57))) := rfl
 have HE := Lib.hid hE
 obtain ⟨n, hn⟩ : ∃ n : Nat, c.toNat = n := ⟨_, rfl⟩
 rw [hn] at HE ⊢
 clear hE hn
 by_cases h1 : 65 ≤ n
 · have d1 : decide ((65 : Int) ≤ (n : Int)) = true := by rw [decide_eq_true_eq]; omega
   by_cases h2 : n ≤ 90
   · have d2 : decide ((n : Int) ≤ 90) = true := by rw [decide_eq_true_eq]; omega
     go_enter Tryz.func134, Tryz.ntmps134
     go_wp2_with fail
     go_ret
     exact ⟨by rw [HE.out]; simp [h1, h2], rfl⟩
   · have d2 : decide ((n : Int) ≤ 90) = false := by rw [decide_eq_false_iff_not]; omega
     have d3 : decide ((48 : Int) ≤ (n : Int)) = true := by rw [decide_eq_true_eq]; omega
     have d4 : decide ((n : Int) ≤ 57) = false := by rw [decide_eq_false_iff_not]; omega
     go_enter Tryz.func134, Tryz.ntmps134
     go_wp2_with fail
     go_ret
     exact ⟨by rw [HE.out]; simp; omega, rfl⟩
 · have d1 : decide ((65 : Int) ≤ (n : Int)) = false := by rw [decide_eq_false_iff_not]; omega
   by_cases h3 : 48 ≤ n
   · have d3 : decide ((48 : Int) ≤ (n : Int)) = true := by rw [decide_eq_true_eq]; omega
     by_cases h4 : n ≤ 57
     · have d4 : decide ((n : Int) ≤ 57) = true := by rw [decide_eq_true_eq]; omega
       go_enter Tryz.func134, Tryz.ntmps134
       go_wp2_with fail
       go_ret
       exact ⟨by rw [HE.out]; simp [h3, h4], rfl⟩
     · have d4 : decide ((n : Int) ≤ 57) = false := by rw [decide_eq_false_iff_not]; omega
       go_enter Tryz.func134, Tryz.ntmps134
       go_wp2_with fail
       go_ret
       exact ⟨by rw [HE.out]; simp [h1, h4], rfl⟩
   · have d3 : decide ((48 : Int) ≤ (n : Int)) = false := by rw [decide_eq_false_iff_not]; omega
     go_enter Tryz.func134, Tryz.ntmps134
     go_wp2_with fail
     go_ret
     exact ⟨by rw [HE.out]; simp [h1, h3], rfl⟩
set_option maxHeartbeats 1000000 in
theorem top_any (rb g n cap : Nat) (w : World) (h : w.cell? ⟨rb, 0, none⟩ = some (.slice (some ⟨g, 0, none⟩) (n + 1) cap)) (hn : n + 1 ≤ cap) (hc : cap ≤ maxLen) : Calls Tryz.prog 186 #[.pointer (some ⟨rb, 0, none⟩)] w fun e w' => e = .returned (.pointer (some ⟨g, n * 2, none⟩)) ∧ w.drew = w' := by
 unfold maxLen at hc
 have hw : IntKind.i64.wrap ((n : Int) + 1 - 1) = (n : Int) := by rw [show (n : Int) + 1 - 1 = (n : Int) by omega]; exact IntWalk.i64_in _ (by omega)
 have hw2 : IntKind.i64.wrap (n : Int) = (n : Int) := IntWalk.i64_in _ (by omega)
 have h0 : (0 : Int) ≤ (n : Int) := by omega
 have h1 : (n : Int) < (n : Int) + 1 := by omega
 go_enter Tryz.func186, Tryz.ntmps186
 go_wp2_with fail
 refine wp_region_plan [(0, false), (1, false), (2, false), (3, false), (4, false), (5, false), (6, false), (7, false), (8, false), (9, false), (10, false), (11, false)] (fun w' => w'.cell? ⟨rb, 0, none⟩ = some (.slice (some ⟨g, 0, none⟩) (n + 1) cap)) (by kernel_rfl) (by kernel_rfl) h ?_
 iterate 12 (refine' plan_val rfl rfl (fun w' hS => ?_) ?_; rotate_left; (focus (go_simp; rfl)); simp only [Act.put, List.setIfInBounds_toArray, List.set_cons_zero, List.set_cons_succ])
 refine plan_nil ?_
 go_wp2_with fail
 go_ret
 exact ⟨rfl, rfl⟩
def BytesL (w : World) (b : Nat) (l : Str) : Prop := ∀ (j : Nat) (c : UInt8), l[j]? = some c → w.cell? ⟨b, j, none⟩ = some (bv c)
def badV : Value := .func (.func 137) #[] #[]
set_option maxHeartbeats 1000000 in
theorem bad_any (c : UInt8) (w : World) : Calls Tryz.prog 137 #[.int .u8 (c.toNat : Int)] w fun e w' => e = .returned (.bool (badB c)) ∧ w = w' := by
 have hE : badB c = (decide (c.toNat < 32) || decide (126 < c.toNat)) := rfl
 have HE := Lib.hid hE
 obtain ⟨n, hn⟩ : ∃ n : Nat, c.toNat = n := ⟨_, rfl⟩
 rw [hn] at HE ⊢
 clear hE hn
 by_cases h1 : n < 32
 · have d1 : decide ((n : Int) < 32) = true := by rw [decide_eq_true_eq]; omega
   go_enter Tryz.func137, Tryz.ntmps137
   go_wp2_with fail
   go_ret
   exact ⟨by rw [HE.out]; simp [h1], rfl⟩
 · have d1 : decide ((n : Int) < 32) = false := by rw [decide_eq_false_iff_not]; omega
   by_cases h2 : 126 < n
   · have d2 : decide ((126 : Int) < (n : Int)) = true := by rw [decide_eq_true_eq]; omega
     go_enter Tryz.func137, Tryz.ntmps137
     go_wp2_with fail
     go_ret
     exact ⟨by rw [HE.out]; simp [h2], rfl⟩
   · have d2 : decide ((126 : Int) < (n : Int)) = false := by rw [decide_eq_false_iff_not]; omega
     go_enter Tryz.func137, Tryz.ntmps137
     go_wp2_with fail
     go_ret
     exact ⟨by rw [HE.out]; simp [h1, h2], rfl⟩
theorem any_take_false {l : Str} {k : Nat} (h : (l.take k).any badB = false) {c : UInt8} (hc : l[k]? = some c) (hb : badB c = false) : (l.take (k + 1)).any badB = false := by
 rw [List.take_add_one, hc, List.any_append, h]; simp [hb]
set_option maxHeartbeats 2000000 in
theorem index_any (w : World) (b cap : Nat) (l : Str) (hl : l.length ≤ 4294967281) (h : BytesL w b l) : Calls Tryz.prog 163 #[.slice (some ⟨b, 0, none⟩) l.length cap, badV] w fun e w' => (∃ k : Int, e = .returned (.int .i64 k) ∧ (0 ≤ k ↔ l.any badB = true)) ∧ w = w' := by
 have HL := Lib.hid h
 clear h
 obtain ⟨N, hN⟩ : ∃ N, l.length = N := ⟨_, rfl⟩
 have HN := Lib.hid hN
 rw [hN] at hl ⊢
 clear hN
 unfold badV
 go_enter Tryz.func163, Tryz.ntmps163
 go_wp2_with fail
 go_loop [8] (fun i => ∃ k : Nat, k ≤ N ∧ i = .int .i64 k ∧ Hid ((l.take k).any badB = false)) (fun i => N - (intOf i).toNat)
 case atStart => exact ⟨0, Nat.zero_le _, rfl, Lib.hid (by simp)⟩
 case round =>
  obtain ⟨k, hk, rfl, hd⟩ := hrel
  by_cases hlt : k < N
  · obtain ⟨c, hc⟩ : ∃ c, l[k]? = some c := ⟨_, List.getElem?_eq_getElem (by rw [HN.out]; exact hlt)⟩
    have hcell := HL.out k c hc
    unfold bv at hcell
    have HC := Lib.hid hc
    clear hc
    cases hb : badB c with
    | true =>
      have HB := Lib.hid hb
      clear hb
      have hcall := fun w => (bad_any c w)
      rw [HB.out] at hcall
      have HCA := Lib.hid hcall
      clear hcall
      go_wp2_with (go_at_call 137; refine (HCA.out _).mono ?_; rintro e w' ⟨rfl, rfl⟩)
      go_ret
      refine ⟨⟨_, rfl, ?_⟩, rfl⟩
      refine ⟨fun _ => List.any_eq_true.2 ⟨c, List.mem_of_getElem? HC.out, HB.out⟩, fun _ => by omega⟩
    | false =>
      have HB := Lib.hid hb
      clear hb
      have hcall := fun w => (bad_any c w)
      rw [HB.out] at hcall
      have HCA := Lib.hid hcall
      clear hcall
      go_wp2_with (go_at_call 137; refine (HCA.out _).mono ?_; rintro e w' ⟨rfl, rfl⟩)
      go_round
      case rel => exact ⟨k + 1, by omega, by go_num, Lib.hid (any_take_false hd.out HC.out HB.out)⟩
      case measure => simp [intOf]; omega
  · go_wp2_with fail
    go_ret
    have e : l.take k = l := List.take_of_length_le (by rw [HN.out]; omega)
    have hd' := hd.out
    rw [e] at hd'
    rw [List.any_eq_false] at hd'
    exact ⟨⟨-1, rfl, ⟨fun h => by omega, fun h => by obtain ⟨x, hx, hb⟩ := List.any_eq_true.1 (by simpa using h); exact absurd hb (hd' x hx)⟩⟩, rfl⟩
set_option maxHeartbeats 1000000 in
theorem contains_any (w : World) (b cap : Nat) (l : Str) (hl : l.length ≤ 4294967281) (h : BytesL w b l) : Calls Tryz.prog 136 #[.slice (some ⟨b, 0, none⟩) l.length cap, badV] w fun e w' => e = .returned (.bool (l.any badB)) ∧ w = w' := by
 obtain ⟨N, hN⟩ : ∃ N, l.length = N := ⟨_, rfl⟩
 have HI := Lib.hid (index_any w b cap l hl h)
 rw [hN] at HI ⊢
 obtain ⟨A, hA⟩ : ∃ A, l.any badB = A := ⟨_, rfl⟩
 rw [hA] at HI ⊢
 clear h hN hA
 unfold badV at *
 go_enter Tryz.func136, Tryz.ntmps136
 go_wp2_with (go_at_call 163; refine HI.out.mono ?_; rintro e w' ⟨⟨k, rfl, hk⟩, rfl⟩; have HK := Lib.hid hk; clear hk)
 go_ret
 have e : decide (0 ≤ k) = A := by rw [Bool.eq_iff_iff, decide_eq_true_eq]; exact HK.out
 exact ⟨congrArg (fun b => Ending.returned (Value.bool b)) e, rfl⟩
theorem cell_one_new2 (w : World) (o : Obj) (x : Value) (t : TypeId) : ∀ (j : Nat) (u : Value), [x][j]? = some u → ((w.alloc o).alloc (.cells #[x] t)).cell? ((⟨w.heap.size + 1, 0, none⟩ : Addr).add j) = some u := by
 intro j u hj
 have h := cell_one_new (w.alloc o) x t j u hj
 rw [World.size_alloc] at h
 exact h
theorem fz_ag {w w1 : World} {g j : Nat} (e : w1.heap[g]? = w.heap[g]?) : w1.frozen? ⟨g, j, none⟩ = w.frozen? ⟨g, j, none⟩ := by simp [World.frozen?, e]
theorem cell_ag {w w1 : World} {g j : Nat} (e : w1.heap[g]? = w.heap[g]?) : w1.cell? ⟨g, j, none⟩ = w.cell? ⟨g, j, none⟩ := World.cell?_of_block (a := ⟨g, j, none⟩) e
def fnV (rb f : Nat) : Value := .func (.func f) #[.pointer (some ⟨rb, 0, none⟩)] #[]
section
variable {S : Nat → Prop} {w : World} {B rb : Nat} {l : List Seg} {t : Str} {es : List (List Str)} {cs : List Str} {p q : Str} {lv pv ev cv : Value} {xs ys : List Value}
set_option maxRecDepth 100000 in
set_option maxHeartbeats 2000000 in
theorem sign_A39 {s : Seg} (h : RA S w B rb (l ++ [s]) lv pv xs p) (_hB : B ≤ w.heap.size) : Calls Tryz.prog 197 #[.pointer (some ⟨rb, 0, none⟩), .int .u8 39] w fun e w' => e = .returned (.tuple #[fnV rb 144, .int .i64 0]) ∧ RA S w' B rb (l ++ [s]) lv (.slice none 0 0) xs [] ∧ Below B w w' := by
 obtain ⟨g, cap, x, xs0, rfl, hc1, hc2, rfl, hx0, k1, k2, z1, z2, _⟩ := h.top
 have c0 := h.c0
 have c1 := h.c1
 have f1 := h.fz 1
 have H := Lib.hid h
 have hrB := h.hB
 clear h k1 k2 z1 z2
 go_enter Tryz.func197, Tryz.ntmps197
 go_wp2_with (go_at_call 186; refine (top_any rb g l.length cap _ c0 hc1 hc2).mono ?_; rintro e w' ⟨rfl, rfl⟩)
 go_ret2
 exact ⟨rfl, H.out.part.fr0 (Fr.drew _ _), (((Below.refl B w).setCell hrB _).drew)⟩
set_option maxRecDepth 100000 in
set_option maxHeartbeats 2000000 in
theorem sign_B39 (h : RB S w B rb l t es cs p q lv pv ev cv xs ys) (hB : B ≤ w.heap.size) : Calls Tryz.prog 197 #[.pointer (some ⟨rb, 0, none⟩), .int .u8 39] w fun e w' => e = .returned (.tuple #[fnV rb 144, .int .i64 0]) ∧ RA (fun k => S k ∨ ev.ownBlock = some k ∨ cv.ownBlock = some k) w' B rb (l ++ [⟨t, es ++ [cs ++ [p]]⟩]) lv (.slice none 0 0) (xs ++ [ev]) [] ∧ Below B w w' :=
 sign_A39 h.close hB
set_option maxRecDepth 100000 in
set_option maxHeartbeats 2000000 in
theorem sign_A43 {xs0 : List Value} (h : RA S w B rb (l ++ [⟨t, []⟩]) lv pv (xs0 ++ [.slice none 0 0]) p) (hB : B ≤ w.heap.size) : Calls Tryz.prog 197 #[.pointer (some ⟨rb, 0, none⟩), .int .u8 43] w fun e w' => e = .returned (.tuple #[fnV rb 205, .int .i64 0]) ∧ (∃ ev cv, RB S w' B rb l t [] [] [] [] lv (.slice none 0 0) ev cv xs0 []) ∧ Below B w w' := by
 obtain ⟨g, cap, x, xs1, rfl, hc1, hc2, hxe, hx0, k1, k2, z1, z2, _⟩ := h.top
 obtain ⟨rfl, hxx⟩ := List.append_inj hxe (by have := h.xl; simp at this; omega)
 obtain rfl : x = .slice none 0 0 := by simpa using hxx.symm
 have c0 := h.c0
 have c1 := h.c1
 have f1 := h.fz 1
 have H := Lib.hid h
 have hrB := h.hB
 clear h hxe hxx
 have ngr : g ≠ rb := fun e => own_neR H.out.r H.out.hl (by decide) (by rw [← e]; rfl)
 obtain ⟨i0, hi, hz0, hz1, hz2⟩ := info_parts einfo_strs
 have HI := Lib.hid hi
 have HZ0 := Lib.hid hz0
 have HZ1 := Lib.hid hz1
 have HZ2 := Lib.hid hz2
 clear hi hz0 hz1 hz2
 go_enter Tryz.func197, Tryz.ntmps197
 go_upto_region 13 with (go_at_call 186; refine (top_any rb g l.length cap _ c0 hc1 hc2).mono ?_; rintro e w' ⟨rfl, rfl⟩)
 obtain ⟨wq, hwq⟩ : ∃ wq, (w.setCell ⟨rb, 1, none⟩ (.slice none 0 0)).drew = wq := ⟨_, rfl⟩
 have HQ : Hid (RA S wq B rb (l ++ [⟨t, []⟩]) (.slice (some ⟨g, 0, none⟩) (l.length + 1) cap) (.slice none 0 0) (xs0 ++ [.slice none 0 0]) []) := Lib.hid (by rw [← hwq]; exact H.out.part.fr0 (Fr.drew _ _))
 have HBQ := Lib.hid (show Below B w wq by rw [← hwq]; exact ((Below.refl B w).setCell hrB _).drew)
 have hag : wq.heap[g]? = w.heap[g]? := by rw [← hwq]; exact heap_setCell_other w _ _ _ ngr
 rw [hwq]
 have sq := HBQ.out.size
 have k2 := (cell_ag hag).trans k2
 have z2 := (fz_ag hag).trans z2
 clear hwq hag c0 c1 f1 k1 z1 H
 have hgq : g < wq.heap.size := cell_lt' k2
 have hgB : B ≤ g := by have h1 := HQ.out.hl; rw [List.length_append, List.length_singleton] at h1; exact (own_lt h1 (k := g) rfl).1
 go_wp2_with ((with_reducible refine wpList_at (.call { callee := .builtin .append, args := #[.tmp 53, .tmp 55], argTypes := #[92, 92] }) rfl ?_); go_loud (refine wpList_append_own_at _ rfl _ _ 92 rfl B 58 i0 (.slice none 0 0) 1 24 Tryz.underlying92 HI.out HZ0.out HZ1.out HZ2.out rfl (by decide) _ _ _ rfl (World.ownsRow_nil _ _ _ _) ⟨wq.heap.size + 1, 0, none⟩ 1 1 [.slice (some ⟨wq.heap.size, 0, none⟩) 1 1] rfl rfl (cell_one_new2 _ _ _ _) (by simp [Value.oneCell']) (by unfold maxLen; omega) (by omega) (by simp; omega) ?_); intro ev' w1 he' hg' _ hk'; have HG1 : Hid (((wq.alloc (.cells #[sv []] 9)).alloc (.cells #[.slice (some ⟨wq.heap.size, 0, none⟩) 1 1] 58)).grownBy w1 none) := hg'; have HK1 : Hid (ev'.ownBlock = none ∨ ev'.ownBlock = some (wq.heap.size + 2)) := Lib.hid (by rcases hk' with h | h; exact .inl h; (right; rw [h]; simp)); have hea := blk_ag2 HG1.out hgq (by simp); have k2' : w1.cell? ⟨g, l.length * 2 + 1, none⟩ = some (.slice none 0 0) := (cell_ag hea).trans k2; have z2' : w1.frozen? ⟨g, l.length * 2 + 1, none⟩ = false := (fz_ag hea).trans z2; have hs1 := hg'.size; simp at hs1; have HE1 : Hid (w1.ownsRow B 58 1 ev' 1 [.slice (some ⟨wq.heap.size, 0, none⟩) 1 1]) := he'; obtain ⟨eg, ec, _, rfl, _⟩ := own_form HE1.out (by omega) (by omega); clear he' hg' hk' hea)
 go_ret2
 have hop := RA.open rfl rfl HQ.out (by omega) HG1.out HE1.out HK1.out
 refine ⟨rfl, ⟨_, _, hop⟩, ?_⟩
 exact HBQ.out.trans (((((Below.refl B wq).alloc (by omega) _).alloc (by simp; omega) _).grown HG1.out (by simp; omega) (by simp)).setCell (by omega) _)
end
end Go.Proofs.YtgfijlamhjjecaaGreatDoor
