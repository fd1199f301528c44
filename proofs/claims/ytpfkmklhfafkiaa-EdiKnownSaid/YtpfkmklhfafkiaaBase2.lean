/-
  Base2: laws on single operations with arrays of bytes, whatever the program: a load, a store, a new variable, taken whole. No condition beyond those stated.
-/
import Derived.Test.YtpfkmklhfafkiaaBase
import Derived.StillTailTactics
import Derived.Maps.OwnOps
namespace Go.Proofs.Ytpfkmklhfafkiaa
open Go.RowKit
section
variable {P : Program} {ops : Array Oper} {rest : List Oper} {o : Oper} {a : Act} {w : World} {Q : Exit → Act → World → Prop}

theorem wpList_val {v : Value} {w' : World} (hgd : o.guard = none) (hrun : (execOp a.eval o).run P w = .ok (.value v) w') (h : wpList P ops Q rest (a.put o.dst v) w') : wpList P ops Q (o :: rest) a w :=
  wpList_plain hgd fun _ hK => by unfold Oper.wp; rw [hrun]; exact hK _ _ h
theorem wpStill_val {R : Act → Prop} {v : Value} (hgd : o.guard = none) (hrun : (execOp a.eval o).run P w = .ok (.value v) w) (h : wpStill P ops w R rest (a.put o.dst v)) : wpStill P ops w R (o :: rest) a :=
  wpStill_step fun K hK => by
    rw [if_pos (by simp [Region.wanted, hgd])]
    unfold Oper.still; rw [hrun]; exact ⟨rfl, hK _ h⟩

/-- a guard: the next operation is this one -/
theorem wpList_at (op : Op) (_ : o.op = op) (h : wpList P ops Q (o :: rest) a w) : wpList P ops Q (o :: rest) a w := h
theorem wpStill_at {R : Act → Prop} (op : Op) (_ : o.op = op) (h : wpStill P ops w R (o :: rest) a) : wpStill P ops w R (o :: rest) a := h
theorem exec_load_arr (ty : TypeId) (x : Operand) (ho : o.op = .load ty x) (b off : Nat) (hx : a.eval x = .pointer (some ⟨b, off, none⟩)) (m : Nat) (f : Sec) (d : TypeDesc)
    (hc : w.rangeAt b off (rowL m f)) (hu : P.underlying ty = some d) (hd : d.isRow = true) (hi : (P.info? ty).map (·.size) = some m) :
    (execOp a.eval o).run P w = .ok (.value (.agg (rowA m f))) w := by
  unfold execOp
  simp only [ho, hx, Instr.loadAt, Instr.sureAddr, Sem.run_bind, Sem.run_pure, Result.andThen_ok, run_loadVar_mid w b off ty (rowL m f) d hc hu hd (by rw [rowL_length]; exact hi)]
  rfl
theorem wpList_load_arr (hgd : o.guard = none) (ty : TypeId) (x : Operand) (ho : o.op = .load ty x) (b off : Nat) (hx : a.eval x = .pointer (some ⟨b, off, none⟩)) (m : Nat) (f : Sec) (d : TypeDesc)
    (hc : w.rangeAt b off (rowL m f)) (hu : P.underlying ty = some d) (hd : d.isRow = true) (hi : (P.info? ty).map (·.size) = some m)
    (h : wpList P ops Q rest (a.put o.dst (.agg (rowA m f))) w) : wpList P ops Q (o :: rest) a w :=
  wpList_val hgd (exec_load_arr ty x ho b off hx m f d hc hu hd hi) h
theorem wpStill_load_arr {R : Act → Prop} (hgd : o.guard = none) (ty : TypeId) (x : Operand) (ho : o.op = .load ty x) (b off : Nat) (hx : a.eval x = .pointer (some ⟨b, off, none⟩)) (m : Nat) (f : Sec) (d : TypeDesc)
    (hc : w.rangeAt b off (rowL m f)) (hu : P.underlying ty = some d) (hd : d.isRow = true) (hi : (P.info? ty).map (·.size) = some m)
    (h : wpStill P ops w R rest (a.put o.dst (.agg (rowA m f)))) : wpStill P ops w R (o :: rest) a :=
  wpStill_val hgd (exec_load_arr ty x ho b off hx m f d hc hu hd hi) h

/-- an operation whose run is known -/
theorem exec_lookup {mt : TypeId} {x i : Operand} (ho : o.op = .lookup mt x i true) {mv iv v : Value} (hx : a.eval x = mv) (hi : a.eval i = iv) (hr : (Instr.lookup mt mv iv true).run P w = .ok v w) :
    (execOp a.eval o).run P w = .ok (.value v) w := by
  unfold execOp
  simp only [ho, hx, hi, Sem.run_bind, hr, Result.andThen_ok, Sem.run_pure]
theorem wpList_lookup_run (hgd : o.guard = none) {mt : TypeId} {x i : Operand} (ho : o.op = .lookup mt x i true) {mv iv v : Value} (hx : a.eval x = mv) (hi : a.eval i = iv) (hr : (Instr.lookup mt mv iv true).run P w = .ok v w)
    (h : wpList P ops Q rest (a.put o.dst v) w) : wpList P ops Q (o :: rest) a w := wpList_val hgd (exec_lookup ho hx hi hr) h
theorem exec_alloc_arr (ty : TypeId) (ho : o.op = .alloc ty) (m : Nat) (z : Sec) (hz : ∀ w, (zeroValue ty).run P w = .ok (.agg (rowA m z)) w) :
    (execOp a.eval o).run P w = .ok (.value (.pointer (some ⟨w.heap.size, 0, none⟩))) (w.alloc (.cells (rowA m z) ty)) := by
  unfold execOp
  simp only [ho, Instr.alloc, Sem.run_bind, hz, Result.andThen_ok, newVar, newRow, newObj, Sem.run, Value.cells, Sem.run_pure]
  rfl
theorem exec_store_new (ty : TypeId) (x y : Operand) (ho : o.op = .store ty x y) (m : Nat) (z f : Sec)
    (hx : a.eval x = .pointer (some ⟨w.heap.size, 0, none⟩)) (hy : a.eval y = .agg (rowA m f)) (hi : (P.info? ty).map (·.size) = some m) :
    (execOp a.eval o).run P (w.alloc (.cells (rowA m z) ty)) = .ok .skip (w.alloc (.cells (rowA m f) ty)) := by
  unfold execOp
  simp only [ho, hx, hy, Sem.run_bind, run_storeAt_new w ty (rowA m z) (rowA m f) (by rw [rowA_size]; exact hi) (by rw [rowA_size, rowA_size]) rowA_all, Result.andThen_ok, Sem.run_pure]
theorem exec_load_new (ty : TypeId) (x : Operand) (ho : o.op = .load ty x) (m : Nat) (f : Sec) {d : TypeDesc} (hx : a.eval x = .pointer (some ⟨w.heap.size, 0, none⟩)) (hu : P.underlying ty = some d) (hd : d.isRow = true) (hi : (P.info? ty).map (·.size) = some m) :
    (execOp a.eval o).run P (w.alloc (.cells (rowA m f) ty)) = .ok (.value (.agg (rowA m f))) (w.alloc (.cells (rowA m f) ty)) :=
  exec_load_arr ty x ho w.heap.size 0 hx m f d (fun j v hv => by
    have hj : j < m := by have := (List.getElem?_eq_some_iff.1 hv).1; rw [rowL_length] at this; exact this
    rw [cell_of_row _ w.heap.size (0 + j) _ _ _ (heap_alloc_new w _), Nat.zero_add, rowA_get f hj]
    rw [rowL_get f hj] at hv; exact hv) hu hd hi
/-- a new variable of an array's type -/
theorem wpList_alloc_arr (hgd : o.guard = none) (ty : TypeId) (ho : o.op = .alloc ty) (m : Nat) (z : Sec) (hz : ∀ w, (zeroValue ty).run P w = .ok (.agg (rowA m z)) w)
    (h : wpList P ops Q rest (a.put o.dst (.pointer (some ⟨w.heap.size, 0, none⟩))) (w.alloc (.cells (rowA m z) ty))) : wpList P ops Q (o :: rest) a w := by
  refine wpList_val (v := .pointer (some ⟨w.heap.size, 0, none⟩)) (w' := w.alloc (.cells (rowA m z) ty)) hgd ?_ h
  unfold execOp
  simp only [ho, Instr.alloc, Sem.run_bind, hz, Result.andThen_ok, newVar, newRow, newObj, Sem.run, Value.cells, Sem.run_pure]
  rfl
/-- a store of a whole array into the variable that was made last -/
theorem wpList_store_new (hgd : o.guard = none) (ty : TypeId) (x y : Operand) (ho : o.op = .store ty x y) (m : Nat) (z f : Sec)
    (hx : a.eval x = .pointer (some ⟨w.heap.size, 0, none⟩)) (hy : a.eval y = .agg (rowA m f)) (hi : (P.info? ty).map (·.size) = some m)
    (h : wpList P ops Q rest (a.put o.dst undef) (w.alloc (.cells (rowA m f) ty))) : wpList P ops Q (o :: rest) a (w.alloc (.cells (rowA m z) ty)) :=
  wpList_plain hgd fun _ hK => by
    unfold Oper.wp execOp
    simp only [ho, hx, hy, Sem.run_bind, run_storeAt_new w ty (rowA m z) (rowA m f) (by rw [rowA_size]; exact hi) (by rw [rowA_size, rowA_size]) rowA_all, Result.andThen_ok, Sem.run_pure]
    exact hK _ _ h
/-- a store of a whole array into the middle of a block of bytes: the block is a row of bytes again -/
def splF (f : Sec) (off m : Nat) (g : Sec) : Sec := fun j => if off ≤ j ∧ j < off + m then g (j - off) else f j
theorem setCells_row (w : World) (b n : Nat) (f : Sec) (t : TypeId) (off m : Nat) (g : Sec) (hb : w.heap[b]? = some (.cells (rowA n f) t (0, 0))) (hm : off + m ≤ n) :
    (w.setCells b off (rowL m g)).heap[b]? = some (.cells (rowA n (splF f off m g)) t (0, 0)) := by
  have key : ∀ (vs : List Value) (o : Nat) (C : Array Value) (w : World), w.heap[b]? = some (.cells C t (0, 0)) → o + vs.length ≤ C.size →
      ∃ C' : Array Value, (w.setCells b o vs).heap[b]? = some (.cells C' t (0, 0)) ∧ C'.size = C.size ∧ ∀ j, C'[j]? = if o ≤ j ∧ j < o + vs.length then vs[j - o]? else C[j]? := by
    intro vs
    induction vs with
    | nil => intro o C w hb _; exact ⟨C, hb, rfl, fun j => by rw [if_neg (by simp only [List.length_nil]; omega)]⟩
    | cons v r ih =>
      intro o C w hb hl
      obtain ⟨C', h1, h2, h3⟩ := ih (o + 1) (C.setIfInBounds o v) (w.setCell ⟨b, o, none⟩ v) (heap_setCell_same w b o C t v hb) (by simp at hl ⊢; omega)
      refine ⟨C', h1, by simpa using h2, fun j => ?_⟩
      rw [h3 j]
      have hlc : (v :: r).length = r.length + 1 := rfl
      simp only [List.length_cons] at hl
      by_cases hj : j = o
      · subst hj
        rw [if_neg (by omega), if_pos (by omega)]
        simp [show j < C.size by omega]
      · by_cases hr : o + 1 ≤ j ∧ j < o + 1 + r.length
        · rw [if_pos hr, if_pos (by omega), show j - o = (j - (o + 1)) + 1 by omega]; simp
        · rw [if_neg hr, if_neg (by omega), Array.getElem?_setIfInBounds_ne (by omega)]
  obtain ⟨C', h1, h2, h3⟩ := key (rowL m g) off (rowA n f) w hb (by rw [rowL_length, rowA_size]; exact hm)
  rw [h1]
  have : C' = rowA n (splF f off m g) := by
    apply Array.ext_getElem?
    intro j
    rw [h3 j, rowL_length]
    by_cases hj : off ≤ j ∧ j < off + m
    · rw [if_pos hj, rowL_get g (by omega), rowA_get _ (by omega)]; simp [splF, hj]
    · rw [if_neg hj]
      by_cases hn : j < n
      · rw [rowA_get _ hn, rowA_get _ hn]; simp [splF, hj]
      · rw [Array.getElem?_eq_none (by rw [rowA_size]; omega), Array.getElem?_eq_none (by rw [rowA_size]; omega)]
  rw [this]
theorem setCells_fr {F : List Nat} {b : Nat} (hb : b ∈ F) : ∀ (vs : List Value) (o : Nat) (w : World), Fr F w (w.setCells b o vs)
  | [], _, w => Fr.refl _ w
  | v :: r, o, w => (Fr.setCell w (a := ⟨b, o, none⟩) hb v).trans (setCells_fr hb r (o + 1) _)
theorem rangeAt_alloc' {w : World} {b o : Nat} {cs : List Value} (h : w.rangeAt b o cs) (ob : Obj) : (w.alloc ob).rangeAt b o cs := World.rangeAt_alloc h ob
theorem there_row {w : World} {b n : Nat} {f : Sec} {t : TypeId} (hb : w.heap[b]? = some (.cells (rowA n f) t (0, 0))) (off m : Nat) (h : off + m ≤ n) : w.there b off m := fun j hj =>
  ⟨by rw [cell_of_row w b (off + j) _ _ _ hb, rowA_get _ (by omega)]; rfl, frozen_of_row w b (off + j) _ _ hb⟩
theorem rangeAt_row {w : World} {b n : Nat} {f : Sec} {t : TypeId} {fr : Nat × Nat} (hb : w.heap[b]? = some (.cells (rowA n f) t fr)) (off m : Nat) (h : off + m ≤ n) : w.rangeAt b off (rowL m fun j => f (off + j)) := fun j v hv => by
  by_cases hj : j < m
  · rw [cell_of_row w b (off + j) _ _ _ hb, rowA_get _ (by omega)]; rw [rowL_get _ hj] at hv; exact hv
  · rw [List.getElem?_eq_none (by rw [rowL_length]; omega)] at hv; simp at hv
theorem row_new (w : World) (m : Nat) (g : Sec) (t : TypeId) (j : Nat) (u : Value) (h : (rowL m g)[j]? = some u) : (w.alloc (.cells (rowA m g) t)).cell? (Addr.add ⟨w.heap.size, 0, none⟩ j) = some u := by
  rw [Addr.add_mid]
  have := rangeAt_row (w := w.alloc (.cells (rowA m g) t)) (heap_alloc_new w _) 0 m (by omega) j u (by simpa using h)
  simpa using this
theorem rangeAt_row0 {w : World} {b n : Nat} {f : Sec} {t : TypeId} {fr : Nat × Nat} (hb : w.heap[b]? = some (.cells (rowA n f) t fr)) : w.rangeAt b 0 (rowL n f) := by
  have h := rangeAt_row hb 0 n (by omega)
  have e : (fun j => f (0 + j)) = f := by funext j; rw [Nat.zero_add]
  rw [e] at h; exact h
theorem row_at {w : World} {b n m : Nat} {f : Sec} {t : TypeId} {fr : Nat × Nat} (hb : w.heap[b]? = some (.cells (rowA n f) t fr)) (h : m ≤ n) (j : Nat) (u : Value) (hu : (rowL m f)[j]? = some u) : w.cell? (Addr.add ⟨b, 0, none⟩ j) = some u := by
  have hj : j < m := by have := (List.getElem?_eq_some_iff.1 hu).1; rw [rowL_length] at this; exact this
  rw [rowL_get f hj] at hu
  rw [Addr.add_mid, Nat.zero_add, cell_of_row w b j _ _ _ hb, rowA_get f (by omega)]; exact hu
theorem madeCells_row (n : Nat) : madeCells (rowA 64 fun _ => 0) (n * 64) = rowA (64 * n) fun _ => 0 := by
  apply Array.ext_getElem?
  intro j
  by_cases hj : j < n * 64
  · rw [rowA_get _ (by omega)]
    simp only [madeCells, Array.getElem?_map]
    rw [Array.getElem?_eq_getElem (by simpa using hj)]
    simp only [Array.getElem_range, Option.map_some]
    have : j % 64 < 64 := Nat.mod_lt _ (by omega)
    rw [rowA_size, getElem!_def, rowA_get _ this]
  · rw [Array.getElem?_eq_none (by simp [madeCells]; omega), Array.getElem?_eq_none (by rw [rowA_size]; omega)]
theorem heap3_0 (w : World) (a b c : Obj) : (((w.alloc a).alloc b).alloc c).heap[w.heap.size]? = some a := by
  rw [Below.heap_alloc _ _ _ (by simp; omega), Below.heap_alloc _ _ _ (by simp)]; exact heap_alloc_new w a
theorem heap3_1 (w : World) (a b c : Obj) : (((w.alloc a).alloc b).alloc c).heap[w.heap.size + 1]? = some b := by
  rw [Below.heap_alloc _ _ _ (by simp)]; exact heap_alloc2_new w a b
theorem heap3_2 (w : World) (a b c : Obj) : (((w.alloc a).alloc b).alloc c).heap[w.heap.size + 2]? = some c := by
  have h := heap_alloc_new ((w.alloc a).alloc b) c
  simpa using h
theorem run_arrayAt {arr e : TypeId} {n : Nat} (hu : P.underlying arr = some (.array n e)) (ao : Option Addr) (len cap : Nat) (h : n ≤ len) (u : World) : (Instr.arrayAt arr (.slice ao len cap)).run P u = .ok (.pointer ao) u := by
  unfold Instr.arrayAt
  rw [Sem.run_bind, run_underlying hu u, Result.andThen_ok]
  simp [show ¬ len < n by omega]
/-- a store of a whole array into the middle of a block -/
theorem exec_store_arr (ty : TypeId) (x y : Operand) (ho : o.op = .store ty x y) (b off : Nat) (m : Nat) (f : Sec) (hx : a.eval x = .pointer (some ⟨b, off, none⟩)) (hy : a.eval y = .agg (rowA m f))
    (ht : w.there b off m) (hi : (P.info? ty).map (·.size) = some m) : (execOp a.eval o).run P w = .ok .skip (w.setCells b off (rowL m f)) := by
  have h := run_storeAt_mid (P := P) w b off ty (rowA m f) (by rw [rowA_size]; exact ht) (by rw [rowA_size]; exact hi) rowA_all
  have e : (rowA m f).toList = rowL m f := by simp [rowA]
  rw [e] at h
  unfold execOp
  simp only [ho, hx, hy, Sem.run_bind, h, Result.andThen_ok, Sem.run_pure]
theorem exec_clear {x : Operand} {mt : TypeId} (ho : o.op = .call { callee := .builtin .clear, args := #[x], argTypes := #[mt] }) {mv v : Value} (hx : a.eval x = mv) {w' : World} (hr : ∀ ty, (Builtin.clear_ #[mt] ty #[mv]).run P w = .ok v w') :
    (execOp a.eval o).run P w = .ok (.value v) w' := by
  simp [execOp, ho, resolve, invoke, builtin, hx, hr, Result.andThen]
theorem copy_row {f g : Sec} {n off m : Nat} (h : off + m ≤ n) : ((rowA n f).toList.take off ++ rowL m g ++ (rowA n f).toList.drop (off + m)).toArray = rowA n (splF f off m g) := by
  apply Array.ext_getElem?
  intro j
  have hl : (rowA n f).toList = rowL n f := by simp [rowA]
  rw [hl, List.getElem?_toArray]
  by_cases h1 : j < off
  · rw [List.append_assoc, List.getElem?_append_left (by simp [rowL_length]; omega), List.getElem?_take_of_lt h1, rowL_get f (by omega), rowA_get _ (by omega)]
    simp only [splF]; rw [if_neg (by omega)]
  · by_cases h2 : j < off + m
    · rw [List.getElem?_append_left (by simp [rowL_length]; omega), List.getElem?_append_right (by simp [rowL_length]; omega)]
      rw [show (List.take off (rowL n f)).length = off by simp [rowL_length]; omega, rowL_get g (by omega), rowA_get _ (by omega)]
      simp only [splF]; rw [if_pos (by omega)]
    · rw [List.getElem?_append_right (by simp [rowL_length]; omega), List.getElem?_drop]
      rw [show off + m + (j - (List.take off (rowL n f) ++ rowL m g).length) = j by simp [rowL_length]; omega]
      by_cases h3 : j < n
      · rw [rowL_get f h3, rowA_get _ h3]; simp only [splF]; rw [if_neg (by omega)]
      · rw [List.getElem?_eq_none (by rw [rowL_length]; omega), Array.getElem?_eq_none (by rw [rowA_size]; omega)]
/-- copy of m bytes into a row of bytes -/
theorem run_copy_bytes (w : World) (dT sT elem : TypeId) (g off dLen dCap : Nat) (ad : Addr) (sLen sCap n m : Nat) (f h : Sec) (t : TypeId)
    (hu : P.underlying dT = some (.slice elem)) (hs : (P.info? elem).map (·.size) = some 1) (hg : w.heap[g]? = some (.cells (rowA n f) t (0, 0))) (hm : m = Nat.min sLen dLen)
    (hsrc : ∀ j v, (rowL m h)[j]? = some v → w.cell? (ad.add j) = some v) (hfit : off + m ≤ n) (ty : TypeId) :
    (Builtin.copy_ #[dT, sT] ty #[.slice (some ⟨g, off, none⟩) dLen dCap, .slice (some ad) sLen sCap]).run P w = .ok (.int .i64 (m : Int)) (w.setRow g (rowA n (splF f off m h))) := by
  have := run_copy_row (P := P) w dT sT ty elem g off dLen dCap ad sLen sCap (rowA n f) t (rowL m h) hu hs hg (by rw [rowL_length]; exact hm) hsrc (by rw [rowL_length, rowA_size]; exact hfit) rowL_one
  rw [rowL_length, copy_row hfit] at this
  exact this
theorem exec_copy {x y : Operand} {dT sT : TypeId} (ho : o.op = .call { callee := .builtin .copy, args := #[x, y], argTypes := #[dT, sT] }) {xv yv v : Value} (hx : a.eval x = xv) (hy : a.eval y = yv) {w' : World} (hr : ∀ ty, (Builtin.copy_ #[dT, sT] ty #[xv, yv]).run P w = .ok v w') :
    (execOp a.eval o).run P w = .ok (.value v) w' := by
  simp [execOp, ho, resolve, invoke, builtin, hx, hy, hr, Result.andThen]
/-- an operation that gives no value -/
theorem wpList_skipv {w' : World} (hgd : o.guard = none) (hrun : (execOp a.eval o).run P w = .ok .skip w') (h : wpList P ops Q rest (a.put o.dst undef) w') : wpList P ops Q (o :: rest) a w :=
  wpList_plain hgd fun _ hK => by unfold Oper.wp; rw [hrun]; exact hK _ _ h
theorem exec_update {mt : TypeId} {x i y : Operand} (ho : o.op = .mapUpdate mt x i y) {mv iv yv : Value} (hx : a.eval x = mv) (hi : a.eval i = iv) (hy : a.eval y = yv) {w' : World} (hr : (Instr.mapUpdate mt mv iv yv).run P w = .ok () w') :
    (execOp a.eval o).run P w = .ok .skip w' := by
  unfold execOp
  simp only [ho, hx, hi, hy, Sem.run_bind, hr, Result.andThen_ok, Sem.run_pure]
theorem wpList_update_run (hgd : o.guard = none) {mt : TypeId} {x i y : Operand} (ho : o.op = .mapUpdate mt x i y) {mv iv yv : Value} (hx : a.eval x = mv) (hi : a.eval i = iv) (hy : a.eval y = yv) {w' : World} (hr : (Instr.mapUpdate mt mv iv yv).run P w = .ok () w')
    (h : wpList P ops Q rest (a.put o.dst undef) w') : wpList P ops Q (o :: rest) a w := wpList_skipv hgd (exec_update ho hx hi hy hr) h
/-- a slice value that reads as m bytes -/
def BytesAt (w : World) (v : Value) (m : Nat) (f : Sec) : Prop :=
  ∃ ao cap, v = .slice ao m cap ∧ m ≤ cap ∧ cap ≤ maxLen ∧ (ao = none → m = 0 ∧ cap = 0) ∧ (0 < m → ∃ b off, ao = some ⟨b, off, none⟩ ∧ w.rangeAt b off (rowL m f))
theorem rangeAt_congr {w w' : World} {b off : Nat} {cs : List Value} (h : w.rangeAt b off cs) (e : w'.heap[b]? = w.heap[b]?) : w'.rangeAt b off cs := fun j v hv => (World.cell?_of_block (a := ⟨b, off + j, none⟩) e).trans (h j v hv)
theorem rangeAt_lt {w : World} {b off m : Nat} {f : Sec} (h : w.rangeAt b off (rowL m f)) (hm : 0 < m) : b < w.heap.size := by
  have := h 0 _ (rowL_get f hm)
  exact World.block_lt_of_cell? w _ this
theorem rangeAt_sub {w : World} {b off n : Nat} {f : Sec} (h : w.rangeAt b off (rowL n f)) (k m : Nat) (hk : k + m ≤ n) : w.rangeAt b (off + k) (rowL m fun j => f (k + j)) := fun j v hv => by
  by_cases hj : j < m
  · rw [rowL_get _ hj] at hv; have := h (k + j) v (by rw [rowL_get _ (by omega)]; exact hv); rw [Nat.add_assoc]; exact this
  · rw [List.getElem?_eq_none (by rw [rowL_length]; omega)] at hv; simp at hv
theorem rangeAt_pre {w : World} {b off n m : Nat} {f : Sec} (h : w.rangeAt b off (rowL n f)) (hm : m ≤ n) : w.rangeAt b off (rowL m f) := by
  have h1 := rangeAt_sub h 0 m (by omega)
  have e : (fun j => f (0 + j)) = f := by funext j; rw [Nat.zero_add]
  rw [e] at h1; exact h1
theorem BytesAt.fr {w w' : World} {v : Value} {m : Nat} {f : Sec} {F : List Nat} (h : BytesAt w v m f) (hf : Fr F w w') (hF : ∀ k, v.ownBlock = some k → k ∉ F) : BytesAt w' v m f := by
  obtain ⟨ao, cap, rfl, h1, h2, h3, h4⟩ := h
  refine ⟨ao, cap, rfl, h1, h2, h3, fun hm => ?_⟩
  obtain ⟨b, off, rfl, hr⟩ := h4 hm
  exact ⟨b, off, rfl, rangeAt_congr hr (hf.block b (rangeAt_lt hr hm) (hF b rfl))⟩
end
end Go.Proofs.Ytpfkmklhfafkiaa
