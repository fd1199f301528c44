/-
  Texts Base, Base2, Plan, Plan2, EdiP, EdiM, EdiR, one behind the other. No condition beyond those stated in each.
-/
import Derived.WalkKit
import Derived.WalkSpells
import Derived.WalkLawsBesides
import Derived.Deep.MidRow
import Derived.Deep.WholeRow
import Derived.Laws.CopyOwn
import Derived.RangeFuncRecord
import Derived.Lib.Hide
import Derived.StillTailTactics
import Derived.Maps.OwnOps
import Derived.Deep.RegionHeld3
import Derived.RegionTactic
import Derived.Test.YteaaiejfieaalaaGreatDoorProg
import Derived.Maps.AppendAt
import Derived.Laws.AppendOwnNone
import Derived.BigQuiet
import Derived.Deep.QuietTactic
/-
  Base: small plain words and lemmas (bytes as cells, frames of worlds, maps from int to an array) that the disk's proofs use. No condition.
-/
namespace Go.Proofs.YteaaiejfieaalaaGreatDoor
open Go.RowKit

abbrev Sec := Nat → UInt8
/-- a byte as a cell -/
def bv (b : UInt8) : Value := .int .u8 (b.toNat : Int)
/-- n cells -/
def rowL (n : Nat) (f : Sec) : List Value := (List.range n).map fun j => bv (f j)
def rowA (n : Nat) (f : Sec) : Array Value := (rowL n f).toArray
theorem rowL_length (n : Nat) (f : Sec) : (rowL n f).length = n := by simp [rowL]
theorem rowA_size (n : Nat) (f : Sec) : (rowA n f).size = n := by simp [rowA, rowL]
theorem rowL_get {n : Nat} (f : Sec) {j : Nat} (h : j < n) : (rowL n f)[j]? = some (bv (f j)) := by simp [rowL, h]
theorem rowA_get {n : Nat} (f : Sec) {j : Nat} (h : j < n) : (rowA n f)[j]? = some (bv (f j)) := by simp [rowA, rowL, h]
theorem rowL_congr {n : Nat} {f g : Sec} (h : ∀ j, j < n → f j = g j) : rowL n f = rowL n g := by
  unfold rowL; apply List.map_congr_left; intro j hj; rw [h j (by simpa using hj)]
theorem rowA_congr {n : Nat} {f g : Sec} (h : ∀ j, j < n → f j = g j) : rowA n f = rowA n g := by
  unfold rowA; rw [rowL_congr h]
theorem bv_inj {a b : UInt8} (h : bv a = bv b) : a = b := by
  simp [bv] at h; exact UInt8.toNat_inj.1 (by omega)
theorem bv_one (b : UInt8) : (bv b).oneCell' = true := rfl
theorem rowL_one {n : Nat} {f : Sec} : ∀ v ∈ rowL n f, v.oneCell' = true := by
  intro v hv; simp [rowL] at hv; obtain ⟨j, _, rfl⟩ := hv; rfl
theorem rowA_all {n : Nat} {f : Sec} : (rowA n f).all (·.oneCell') = true := all_oneCell_toArray rowL_one
theorem rowL_append (a b : Nat) (f g : Sec) : rowL a f ++ rowL b g = rowL (a + b) (fun j => if j < a then f j else g (j - a)) := by
  apply List.ext_getElem?
  intro i
  by_cases h : i < a
  · rw [List.getElem?_append_left (by simp [rowL_length]; exact h), rowL_get f h, rowL_get _ (by omega)]; simp [h]
  · by_cases h2 : i < a + b
    · rw [List.getElem?_append_right (by simp [rowL_length]; omega), rowL_length, rowL_get g (by omega), rowL_get _ h2]; simp [h]
    · rw [List.getElem?_eq_none (by simp [rowL_length]; omega), List.getElem?_eq_none (by simp [rowL_length]; omega)]

theorem rowL_snoc (k : Nat) (f g : Sec) (h : ∀ j, j < 64 → g j = f (64 * k + j)) : rowL (64 * k) f ++ rowL 64 g = rowL (64 * (k + 1)) f := by
  rw [rowL_append, show 64 * (k + 1) = 64 * k + 64 by omega]
  apply rowL_congr; intro j hj
  by_cases h1 : j < 64 * k
  · simp [h1]
  · simp only [h1, if_false]; rw [h _ (by omega)]; congr 1; omega
/-! ### Frames -/
/-- w' is w but for the blocks F and new ones. -/
structure Fr (F : List Nat) (w w' : World) : Prop where
  os : w'.os = w.os
  tape : w'.tape = w.tape
  output : w'.output = w.output
  size : w.heap.size ≤ w'.heap.size
  block : ∀ k, k < w.heap.size → k ∉ F → w'.heap[k]? = w.heap[k]?
theorem Fr.refl (F : List Nat) (w : World) : Fr F w w := ⟨rfl, rfl, rfl, Nat.le_refl _, fun _ _ _ => rfl⟩
theorem Fr.trans {F : List Nat} {a b c : World} (h : Fr F a b) (k : Fr F b c) : Fr F a c :=
  ⟨k.os.trans h.os, k.tape.trans h.tape, k.output.trans h.output, Nat.le_trans h.size k.size, fun i hi hn => (k.block i (Nat.lt_of_lt_of_le hi h.size) hn).trans (h.block i hi hn)⟩
theorem Fr.mono {F G : List Nat} {a b : World} (h : Fr F a b) (hs : ∀ k ∈ F, k ∈ G ∨ a.heap.size ≤ k) : Fr G a b :=
  ⟨h.os, h.tape, h.output, h.size, fun i hi hn => h.block i hi (fun hm => by rcases hs i hm with h1 | h1; exact hn h1; omega)⟩
theorem Fr.drew (F : List Nat) (w : World) : Fr F w w.drew := ⟨rfl, rfl, rfl, Nat.le_refl _, fun _ _ _ => rfl⟩
theorem Fr.drewN (F : List Nat) (w : World) (n : Nat) : Fr F w (w.drewN n) := ⟨rfl, rfl, rfl, Nat.le_refl _, fun _ _ _ => rfl⟩
theorem Fr.alloc (F : List Nat) (w : World) (o : Obj) : Fr F w (w.alloc o) :=
  ⟨rfl, rfl, rfl, by simp, fun k hk _ => Below.heap_alloc _ _ _ hk⟩
theorem Fr.setRow {F : List Nat} (w : World) {g : Nat} (hg : g ∈ F) (cs : Array Value) : Fr F w (w.setRow g cs) :=
  ⟨rfl, rfl, rfl, by simp, fun k _ hn => setRow_other w g k cs (fun e => hn (e ▸ hg))⟩
theorem Fr.setCell {F : List Nat} (w : World) {a : Addr} (hg : a.block ∈ F) (v : Value) : Fr F w (w.setCell a v) :=
  ⟨rfl, rfl, rfl, by simp, fun k _ hn => Below.heap_setCell _ _ _ _ (fun e => hn (e ▸ hg))⟩
theorem Fr.putObj {F : List Nat} (w : World) {g : Nat} (hg : g ∈ F) (o : Obj) : Fr F w (w.putObj g o) :=
  ⟨rfl, rfl, rfl, by simp [World.putObj], fun k _ hn => by simp only [World.putObj]; rw [Array.getElem?_setIfInBounds]; split; exact absurd (by simp_all) hn; rfl⟩
theorem Fr.below {w w' : World} (h : Fr [] w w') : Below w.heap.size w w' := ⟨h.os, h.tape, h.output, h.size, fun k hk => h.block k hk (by simp)⟩
theorem Fr.belowB {B : Nat} {F : List Nat} {w w' : World} (h : Fr F w w') (hB : B ≤ w.heap.size) (hF : ∀ k ∈ F, B ≤ k) : Below B w w' :=
  ⟨h.os, h.tape, h.output, h.size, fun k hk => h.block k (by omega) (fun hm => by have := hF k hm; omega)⟩
theorem Below.fr {w w' : World} {B : Nat} (h : Below B w w') (hB : w.heap.size ≤ B) (F : List Nat) : Fr F w w' := ⟨h.os, h.tape, h.output, h.size, fun k hk _ => h.block k (by omega)⟩
theorem grownBy.fr {w w' : World} {row : Option Nat} (h : w.grownBy w' row) (F : List Nat) (hr : ∀ k, row = some k → k ∈ F ∨ w.heap.size ≤ k) : Fr F w w' :=
  ⟨h.os, h.tape, h.output, h.size, fun k hk hn => h.block k hk (fun e => by rcases hr k e.symm with h1 | h1; exact hn h1; omega)⟩
theorem putObj_same {w : World} {g : Nat} (h : g < w.heap.size) (o : Obj) : (w.putObj g o).heap[g]? = some o := by
  simp [World.putObj, h]
theorem putObj_other {w : World} {g k : Nat} (h : k ≠ g) (o : Obj) : (w.putObj g o).heap[k]? = w.heap[k]? := by
  simp only [World.putObj]; rw [Array.getElem?_setIfInBounds_ne (Ne.symm h)]
theorem Fr.putNew {F : List Nat} {w W : World} (h : Fr F w W) {E : Nat} (hE : w.heap.size ≤ E) (o : Obj) : Fr F w (W.putObj E o) :=
  ⟨h.os, h.tape, h.output, by rw [show (W.putObj E o).heap.size = W.heap.size by simp [World.putObj]]; exact h.size, fun k hk hn => (putObj_other (by omega) o).trans (h.block k hk hn)⟩
theorem putObj_size (w : World) (g : Nat) (o : Obj) : (w.putObj g o).heap.size = w.heap.size := by simp [World.putObj]

/-! ### A map from int to an array of 64 bytes -/
abbrev Ent := Nat × Sec × Nat
def encE (e : Ent) : MapEntry := ⟨.int .i64 (e.1 : Int), .agg (rowA 64 e.2.1), e.2.2⟩
def findE : List Ent → Nat → Option Sec
  | [], _ => none
  | e :: l, i => if e.1 = i then some e.2.1 else findE l i
def posE : List Ent → Nat → Nat
  | [], _ => 0
  | e :: l, i => if e.1 = i then 0 else posE l i + 1
def updM (M : Nat → Option Sec) (i : Nat) (s : Sec) : Nat → Option Sec := fun j => if j = i then some s else M j
def cntM (M : Nat → Option Sec) : Nat → Nat
  | 0 => 0
  | n + 1 => cntM M n + if (M n).isSome then 1 else 0
theorem cntM_upd_ge (M : Nat → Option Sec) (i : Nat) (s : Sec) : ∀ n, n ≤ i → cntM (updM M i s) n = cntM M n
  | 0, _ => rfl
  | n + 1, h => by simp only [cntM]; rw [cntM_upd_ge M i s n (by omega)]; simp [updM, show n ≠ i by omega]
theorem cntM_upd (M : Nat → Option Sec) (i : Nat) (s : Sec) : ∀ n, i < n → cntM (updM M i s) n = if (M i).isSome then cntM M n else cntM M n + 1
  | 0, h => by omega
  | n + 1, h => by
    simp only [cntM]
    by_cases e : i = n
    · subst e; rw [cntM_upd_ge M i s i (Nat.le_refl _)]; simp [updM]; split <;> simp_all
    · rw [cntM_upd M i s n (by omega)]; simp only [updM, show n ≠ i by omega, if_false]; split <;> omega
theorem cntM_none : ∀ n, cntM (fun _ => none) n = 0
  | 0 => rfl
  | n + 1 => by simp [cntM, cntM_none n]
theorem cntM_congr {M N : Nat → Option Sec} : ∀ n, (∀ j, j < n → (M j).isSome = (N j).isSome) → cntM M n = cntM N n
  | 0, _ => rfl
  | n + 1, h => by simp only [cntM]; rw [cntM_congr n (fun j hj => h j (by omega)), h n (by omega)]
theorem cntM_le (M : Nat → Option Sec) : ∀ n, cntM M n ≤ n
  | 0 => Nat.le_refl _
  | n + 1 => by have := cntM_le M n; simp only [cntM]; split <;> omega

/-- block mb is a map that reads as M, its keys below n -/
def MapRep (w : World) (mb n : Nat) (M : Nat → Option Sec) : Prop :=
  ∃ (l : List Ent) (clock : Nat), w.heap[mb]? = some (.map (l.map encE).toArray clock) ∧ (∀ i, findE l i = M i) ∧ l.length = cntM M n ∧ ∀ i, n ≤ i → M i = none

theorem findNow_enc (i : Nat) : ∀ (l : List Ent) (k : Nat), Instr.findNow (.int .i64) (.int .i64 (i : Int)) (l.map encE) k =
    some ((findE l i).map fun s => (k + posE l i, Value.agg (rowA 64 s)))
  | [], k => rfl
  | e :: l, k => by
    simp only [List.map_cons, Instr.findNow, encE, Instr.sameNow, if_true]
    by_cases h : e.1 = i
    · have hb : ((i : Int) == (e.1 : Int)) = true := by simp [h]
      simp [h, findE, posE]
    · have hb : ((i : Int) == (e.1 : Int)) = false := by simp; omega
      simp only [hb, findE, posE, h, if_false]
      have ih := findNow_enc i l (k + 1)
      rw [ih]
      simp [Nat.add_assoc, Nat.add_comm 1]

section
variable {P : Program} {w : World} {mt kt et mb n : Nat} {M : Nat → Option Sec}

theorem run_findKey_waits (hk : P.underlying kt = some (.int .i64)) (l : List Ent) (i : Nat) :
    (Instr.findKey kt (.int .i64 (i : Int)) (l.map encE)).run P w = .ok ((findE l i).map fun s => (posE l i, Value.agg (rowA 64 s))) w := by
  unfold Instr.findKey
  rw [Sem.run_bind, run_underlying hk w, Result.andThen_ok, findNow_enc]
  simp

theorem run_checkKey_int (hk : P.underlying kt = some (.int .i64)) (b : Bool) (v : Int) :
    (Instr.checkKey b 10000 kt (.int .i64 v)).run P w = .ok () w := by
  show (Instr.checkKey b (9999 + 1) kt (.int .i64 v)).run P w = .ok () w
  unfold Instr.checkKey
  rw [Sem.run_bind, run_underlying hk w, Result.andThen_ok]
  rfl

theorem run_lookup_waits (hu : P.underlying mt = some (.map kt et)) (hk : P.underlying kt = some (.int .i64))
    (hz : ∀ w, (zeroValue et).run P w = .ok (.agg (rowA 64 fun _ => 0)) w) (hm : MapRep w mb n M) (i : Nat) :
    (Instr.lookup mt (.map (some mb)) (.int .i64 (i : Int)) true).run P w = .ok (.tuple #[.agg (rowA 64 ((M i).getD fun _ => 0)), .bool (M i).isSome]) w := by
  obtain ⟨l, clock, hb, hf, _, _⟩ := hm
  unfold Instr.lookup
  rw [Sem.run_bind, run_underlying hu w, Result.andThen_ok]
  simp only [Sem.run_bind, getObj, Sem.run, hb, Sem.run_pure, Result.andThen_ok, run_checkKey_int hk, run_findKey_waits hk l i, hf i]
  cases h : M i with
  | none => simp [hz]
  | some s => simp

theorem run_len_waits (hu : P.underlying mt = some (.map kt et)) (hm : MapRep w mb n M) (ty : TypeId) :
    (Builtin.len_ #[mt] ty #[.map (some mb)]).run P w = .ok (.int .i64 (cntM M n : Int)) w := by
  obtain ⟨l, clock, hb, hf, hl, _⟩ := hm
  simp [Builtin.len_, Sem.run_bind, run_underlying hu w, getObj, Sem.run, hb, goInt, hl]

def setE : List Ent → Nat → Sec → Nat → List Ent
  | [], i, s, c => [(i, s, c)]
  | e :: l, i, s, c => if e.1 = i then (e.1, s, e.2.2) :: l else e :: setE l i s c
theorem findE_setE (i : Nat) (s : Sec) (c : Nat) (j : Nat) : ∀ l, findE (setE l i s c) j = if j = i then some s else findE l j
  | [] => by simp [setE, findE, eq_comm]
  | e :: l => by
    simp only [setE]
    by_cases h : e.1 = i
    · simp only [h, if_true, findE]
      by_cases hj : j = i
      · simp [hj]
      · simp [hj, Ne.symm hj]
    · simp only [h, if_false, findE, findE_setE i s c j l]
      by_cases hj : j = i
      · subst hj; simp [h]
      · simp [hj]
theorem length_setE (i : Nat) (s : Sec) (c : Nat) : ∀ l, (setE l i s c).length = if (findE l i).isSome then l.length else l.length + 1
  | [] => by simp [setE, findE]
  | e :: l => by
    simp only [setE, findE]
    by_cases h : e.1 = i
    · simp [h]
    · simp only [h, if_false, List.length_cons, length_setE i s c l]; split <;> omega
theorem setE_miss (i : Nat) (s : Sec) (c : Nat) : ∀ l, findE l i = none → setE l i s c = l ++ [(i, s, c)]
  | [], _ => rfl
  | e :: l, h => by
    simp only [findE] at h
    by_cases he : e.1 = i
    · simp [he] at h
    · simp only [he, if_false] at h; simp [setE, he, setE_miss i s c l h]
theorem setE_hit (i : Nat) (s : Sec) (c : Nat) : ∀ l, (findE l i).isSome = true →
    (setE l i s c).map encE = (l.map encE).modify (posE l i) fun e => { e with key := .int .i64 (i : Int), val := .agg (rowA 64 s) }
  | [], h => by simp [findE] at h
  | e :: l, h => by
    simp only [findE] at h
    by_cases he : e.1 = i
    · simp [setE, he, posE, encE]
    · simp only [he, if_false] at h
      simp [setE, he, posE, setE_hit i s c l h]
theorem posE_key (i : Nat) : ∀ l, (findE l i).isSome = true → ∃ e ∈ l, e.1 = i ∧ l[posE l i]? = some e
  | [], h => by simp [findE] at h
  | e :: l, h => by
    simp only [findE] at h
    by_cases he : e.1 = i
    · exact ⟨e, by simp, he, by simp [posE, he]⟩
    · simp only [he, if_false] at h
      obtain ⟨e', hm, hk, hg⟩ := posE_key i l h
      exact ⟨e', by simp [hm], hk, by simp [posE, he, hg]⟩

theorem run_update_waits (hu : P.underlying mt = some (.map kt et)) (hk : P.underlying kt = some (.int .i64)) (hm : MapRep w mb n M) (i : Nat) (hi : i < n) (s : Sec) :
    ∃ o, (Instr.mapUpdate mt (.map (some mb)) (.int .i64 (i : Int)) (.agg (rowA 64 s))).run P w = .ok () (w.putObj mb o) ∧ MapRep (w.putObj mb o) mb n (updM M i s) := by
  obtain ⟨l, clock, hb, hf, hl, hge⟩ := hm
  have hlt : mb < w.heap.size := (Array.getElem?_eq_some_iff.1 hb).1
  have hrep : ∀ c, MapRep (w.putObj mb (.map ((setE l i s clock).map encE).toArray c)) mb n (updM M i s) := fun c => by
    refine ⟨setE l i s clock, c, putObj_same hlt _, fun j => by rw [findE_setE, hf]; rfl, ?_, fun j hj => ?_⟩
    · rw [length_setE, cntM_upd M i s n hi, hf, hl]
    · simp only [updM, show j ≠ i by omega, if_false]; exact hge j hj
  cases h : findE l i with
  | none =>
    refine ⟨_, ?_, hrep (clock + 1)⟩
    unfold Instr.mapUpdate
    rw [Sem.run_bind, run_underlying hu w, Result.andThen_ok]
    simp only [Sem.run_bind, getObj, Sem.run, hb, Result.andThen_ok, run_checkKey_int hk, run_findKey_waits hk l i, h, Option.map_none, setObj]
    rw [setE_miss i s clock l h]
    simp [World.putObj, encE]
  | some s0 =>
    refine ⟨_, ?_, hrep clock⟩
    have hs : (findE l i).isSome = true := by simp [h]
    obtain ⟨e, _, hek, heg⟩ := posE_key i l hs
    unfold Instr.mapUpdate
    rw [Sem.run_bind, run_underlying hu w, Result.andThen_ok]
    simp only [Sem.run_bind, getObj, Sem.run, hb, Result.andThen_ok, run_checkKey_int hk, run_findKey_waits hk l i, h, Option.map_some, setObj]
    have hkey : (((l.map encE).toArray[posE l i]?).map (·.key)).getD (.int .i64 (i : Int)) = .int .i64 (i : Int) := by
      simp [heg, encE, hek]
    rw [hkey]
    have hst : Instr.sameBits 10000 (.int .i64 (i : Int)) (.int .i64 (i : Int)) = true := by
      show Instr.sameBits (9999 + 1) _ _ = true
      simp [Instr.sameBits]
    simp only [Instr.keyThatStays, hst, if_true]
    rw [setE_hit i s clock l hs]
    simp [World.putObj, hb]

theorem run_clear_waits (hu : P.underlying mt = some (.map kt et)) (hm : MapRep w mb n M) :
    ∃ o, (∀ ty, (Builtin.clear_ #[mt] ty #[.map (some mb)]).run P w = .ok (.tuple #[]) (w.putObj mb o)) ∧ MapRep (w.putObj mb o) mb n (fun _ => none) := by
  obtain ⟨l, clock, hb, hf, hl, _⟩ := hm
  have hlt : mb < w.heap.size := (Array.getElem?_eq_some_iff.1 hb).1
  refine ⟨.map #[] clock, fun ty => ?_, [], clock, putObj_same hlt _, fun _ => rfl, by simp [cntM_none], fun _ _ => rfl⟩
  simp [Builtin.clear_, Sem.run_bind, run_underlying hu w, getObj, setObj, Sem.run, hb, World.putObj]
theorem MapRep.congrB {w' : World} (hm : MapRep w mb n M) (h : w'.heap[mb]? = w.heap[mb]?) : MapRep w' mb n M := by
  obtain ⟨l, clock, hb, r⟩ := hm; exact ⟨l, clock, h.trans hb, r⟩
theorem MapRep.lt (hm : MapRep w mb n M) : mb < w.heap.size := by
  obtain ⟨l, clock, hb, r⟩ := hm; exact (Array.getElem?_eq_some_iff.1 hb).1
end
end Go.Proofs.YteaaiejfieaalaaGreatDoor

/-
  Base2: laws on single operations with arrays of bytes, whatever the program: a load, a store, a new variable, taken whole. No condition beyond those stated.
-/
namespace Go.Proofs.YteaaiejfieaalaaGreatDoor
open Go.RowKit
section
variable {P : Program} {ops : Array Oper} {rest : List Oper} {o : Oper} {a : Act} {w : World} {Q : Exit → Act → World → Prop}

theorem wpList_val {v : Value} {w' : World} (hgd : o.guard = none) (hrun : (execOp a.eval o).run P w = .ok (.value v) w') (h : wpList P ops Q rest (a.put o.dst v) w') : wpList P ops Q (o :: rest) a w :=
  wpList_plain hgd fun _ hK => by unfold Oper.wp; rw [hrun]; exact hK _ _ h
theorem wpStill_val {R : Act → Prop} {v : Value} (hgd : o.guard = none) (hrun : (execOp a.eval o).run P w = .ok (.value v) w) (h : wpStill P ops w R rest (a.put o.dst v)) : wpStill P ops w R (o :: rest) a :=
  wpStill_step fun K hK => by
    rw [if_pos (by simp [Region.wanted, hgd])]
    unfold Oper.still; rw [hrun]; exact ⟨rfl, hK _ h⟩

/-- a guard: the next operation is this one -/
theorem wpList_at (op : Op) (_ : o.op = op) (h : wpList P ops Q (o :: rest) a w) : wpList P ops Q (o :: rest) a w := h
theorem wpStill_at {R : Act → Prop} (op : Op) (_ : o.op = op) (h : wpStill P ops w R (o :: rest) a) : wpStill P ops w R (o :: rest) a := h
theorem exec_load_arr (ty : TypeId) (x : Operand) (ho : o.op = .load ty x) (b off : Nat) (hx : a.eval x = .pointer (some ⟨b, off, none⟩)) (m : Nat) (f : Sec) (d : TypeDesc)
    (hc : w.rangeAt b off (rowL m f)) (hu : P.underlying ty = some d) (hd : d.isRow = true) (hi : (P.info? ty).map (·.size) = some m) :
    (execOp a.eval o).run P w = .ok (.value (.agg (rowA m f))) w := by
  unfold execOp
  simp only [ho, hx, Instr.loadAt, Instr.sureAddr, Sem.run_bind, Sem.run_pure, Result.andThen_ok, run_loadVar_mid w b off ty (rowL m f) d hc hu hd (by rw [rowL_length]; exact hi)]
  rfl
theorem wpList_load_arr (hgd : o.guard = none) (ty : TypeId) (x : Operand) (ho : o.op = .load ty x) (b off : Nat) (hx : a.eval x = .pointer (some ⟨b, off, none⟩)) (m : Nat) (f : Sec) (d : TypeDesc)
    (hc : w.rangeAt b off (rowL m f)) (hu : P.underlying ty = some d) (hd : d.isRow = true) (hi : (P.info? ty).map (·.size) = some m)
    (h : wpList P ops Q rest (a.put o.dst (.agg (rowA m f))) w) : wpList P ops Q (o :: rest) a w :=
  wpList_val hgd (exec_load_arr ty x ho b off hx m f d hc hu hd hi) h
theorem wpStill_load_arr {R : Act → Prop} (hgd : o.guard = none) (ty : TypeId) (x : Operand) (ho : o.op = .load ty x) (b off : Nat) (hx : a.eval x = .pointer (some ⟨b, off, none⟩)) (m : Nat) (f : Sec) (d : TypeDesc)
    (hc : w.rangeAt b off (rowL m f)) (hu : P.underlying ty = some d) (hd : d.isRow = true) (hi : (P.info? ty).map (·.size) = some m)
    (h : wpStill P ops w R rest (a.put o.dst (.agg (rowA m f)))) : wpStill P ops w R (o :: rest) a :=
  wpStill_val hgd (exec_load_arr ty x ho b off hx m f d hc hu hd hi) h

/-- an operation whose run is known -/
theorem exec_lookup {mt : TypeId} {x i : Operand} (ho : o.op = .lookup mt x i true) {mv iv v : Value} (hx : a.eval x = mv) (hi : a.eval i = iv) (hr : (Instr.lookup mt mv iv true).run P w = .ok v w) :
    (execOp a.eval o).run P w = .ok (.value v) w := by
  unfold execOp
  simp only [ho, hx, hi, Sem.run_bind, hr, Result.andThen_ok, Sem.run_pure]
theorem wpList_lookup_run (hgd : o.guard = none) {mt : TypeId} {x i : Operand} (ho : o.op = .lookup mt x i true) {mv iv v : Value} (hx : a.eval x = mv) (hi : a.eval i = iv) (hr : (Instr.lookup mt mv iv true).run P w = .ok v w)
    (h : wpList P ops Q rest (a.put o.dst v) w) : wpList P ops Q (o :: rest) a w := wpList_val hgd (exec_lookup ho hx hi hr) h
theorem exec_alloc_arr (ty : TypeId) (ho : o.op = .alloc ty) (m : Nat) (z : Sec) (hz : ∀ w, (zeroValue ty).run P w = .ok (.agg (rowA m z)) w) :
    (execOp a.eval o).run P w = .ok (.value (.pointer (some ⟨w.heap.size, 0, none⟩))) (w.alloc (.cells (rowA m z) ty)) := by
  unfold execOp
  simp only [ho, Instr.alloc, Sem.run_bind, hz, Result.andThen_ok, newVar, newRow, newObj, Sem.run, Value.cells, Sem.run_pure]
  rfl
theorem exec_store_new (ty : TypeId) (x y : Operand) (ho : o.op = .store ty x y) (m : Nat) (z f : Sec)
    (hx : a.eval x = .pointer (some ⟨w.heap.size, 0, none⟩)) (hy : a.eval y = .agg (rowA m f)) (hi : (P.info? ty).map (·.size) = some m) :
    (execOp a.eval o).run P (w.alloc (.cells (rowA m z) ty)) = .ok .skip (w.alloc (.cells (rowA m f) ty)) := by
  unfold execOp
  simp only [ho, hx, hy, Sem.run_bind, run_storeAt_new w ty (rowA m z) (rowA m f) (by rw [rowA_size]; exact hi) (by rw [rowA_size, rowA_size]) rowA_all, Result.andThen_ok, Sem.run_pure]
theorem exec_load_new (ty : TypeId) (x : Operand) (ho : o.op = .load ty x) (m : Nat) (f : Sec) {d : TypeDesc} (hx : a.eval x = .pointer (some ⟨w.heap.size, 0, none⟩)) (hu : P.underlying ty = some d) (hd : d.isRow = true) (hi : (P.info? ty).map (·.size) = some m) :
    (execOp a.eval o).run P (w.alloc (.cells (rowA m f) ty)) = .ok (.value (.agg (rowA m f))) (w.alloc (.cells (rowA m f) ty)) :=
  exec_load_arr ty x ho w.heap.size 0 hx m f d (fun j v hv => by
    have hj : j < m := by have := (List.getElem?_eq_some_iff.1 hv).1; rw [rowL_length] at this; exact this
    rw [cell_of_row _ w.heap.size (0 + j) _ _ _ (heap_alloc_new w _), Nat.zero_add, rowA_get f hj]
    rw [rowL_get f hj] at hv; exact hv) hu hd hi
/-- a new variable of an array's type -/
theorem wpList_alloc_arr (hgd : o.guard = none) (ty : TypeId) (ho : o.op = .alloc ty) (m : Nat) (z : Sec) (hz : ∀ w, (zeroValue ty).run P w = .ok (.agg (rowA m z)) w)
    (h : wpList P ops Q rest (a.put o.dst (.pointer (some ⟨w.heap.size, 0, none⟩))) (w.alloc (.cells (rowA m z) ty))) : wpList P ops Q (o :: rest) a w := by
  refine wpList_val (v := .pointer (some ⟨w.heap.size, 0, none⟩)) (w' := w.alloc (.cells (rowA m z) ty)) hgd ?_ h
  unfold execOp
  simp only [ho, Instr.alloc, Sem.run_bind, hz, Result.andThen_ok, newVar, newRow, newObj, Sem.run, Value.cells, Sem.run_pure]
  rfl
/-- a store of a whole array into the variable that was made last -/
theorem wpList_store_new (hgd : o.guard = none) (ty : TypeId) (x y : Operand) (ho : o.op = .store ty x y) (m : Nat) (z f : Sec)
    (hx : a.eval x = .pointer (some ⟨w.heap.size, 0, none⟩)) (hy : a.eval y = .agg (rowA m f)) (hi : (P.info? ty).map (·.size) = some m)
    (h : wpList P ops Q rest (a.put o.dst undef) (w.alloc (.cells (rowA m f) ty))) : wpList P ops Q (o :: rest) a (w.alloc (.cells (rowA m z) ty)) :=
  wpList_plain hgd fun _ hK => by
    unfold Oper.wp execOp
    simp only [ho, hx, hy, Sem.run_bind, run_storeAt_new w ty (rowA m z) (rowA m f) (by rw [rowA_size]; exact hi) (by rw [rowA_size, rowA_size]) rowA_all, Result.andThen_ok, Sem.run_pure]
    exact hK _ _ h
/-- a store of a whole array into the middle of a block of bytes: the block is a row of bytes again -/
def splF (f : Sec) (off m : Nat) (g : Sec) : Sec := fun j => if off ≤ j ∧ j < off + m then g (j - off) else f j
theorem setCells_row (w : World) (b n : Nat) (f : Sec) (t : TypeId) (off m : Nat) (g : Sec) (hb : w.heap[b]? = some (.cells (rowA n f) t (0, 0))) (hm : off + m ≤ n) :
    (w.setCells b off (rowL m g)).heap[b]? = some (.cells (rowA n (splF f off m g)) t (0, 0)) := by
  have key : ∀ (vs : List Value) (o : Nat) (C : Array Value) (w : World), w.heap[b]? = some (.cells C t (0, 0)) → o + vs.length ≤ C.size →
      ∃ C' : Array Value, (w.setCells b o vs).heap[b]? = some (.cells C' t (0, 0)) ∧ C'.size = C.size ∧ ∀ j, C'[j]? = if o ≤ j ∧ j < o + vs.length then vs[j - o]? else C[j]? := by
    intro vs
    induction vs with
    | nil => intro o C w hb _; exact ⟨C, hb, rfl, fun j => by rw [if_neg (by simp only [List.length_nil]; omega)]⟩
    | cons v r ih =>
      intro o C w hb hl
      obtain ⟨C', h1, h2, h3⟩ := ih (o + 1) (C.setIfInBounds o v) (w.setCell ⟨b, o, none⟩ v) (heap_setCell_same w b o C t v hb) (by simp at hl ⊢; omega)
      refine ⟨C', h1, by simpa using h2, fun j => ?_⟩
      rw [h3 j]
      have hlc : (v :: r).length = r.length + 1 := rfl
      simp only [List.length_cons] at hl
      by_cases hj : j = o
      · subst hj
        rw [if_neg (by omega), if_pos (by omega)]
        simp [show j < C.size by omega]
      · by_cases hr : o + 1 ≤ j ∧ j < o + 1 + r.length
        · rw [if_pos hr, if_pos (by omega), show j - o = (j - (o + 1)) + 1 by omega]; simp
        · rw [if_neg hr, if_neg (by omega), Array.getElem?_setIfInBounds_ne (by omega)]
  obtain ⟨C', h1, h2, h3⟩ := key (rowL m g) off (rowA n f) w hb (by rw [rowL_length, rowA_size]; exact hm)
  rw [h1]
  have : C' = rowA n (splF f off m g) := by
    apply Array.ext_getElem?
    intro j
    rw [h3 j, rowL_length]
    by_cases hj : off ≤ j ∧ j < off + m
    · rw [if_pos hj, rowL_get g (by omega), rowA_get _ (by omega)]; simp [splF, hj]
    · rw [if_neg hj]
      by_cases hn : j < n
      · rw [rowA_get _ hn, rowA_get _ hn]; simp [splF, hj]
      · rw [Array.getElem?_eq_none (by rw [rowA_size]; omega), Array.getElem?_eq_none (by rw [rowA_size]; omega)]
  rw [this]
theorem setCells_fr {F : List Nat} {b : Nat} (hb : b ∈ F) : ∀ (vs : List Value) (o : Nat) (w : World), Fr F w (w.setCells b o vs)
  | [], _, w => Fr.refl _ w
  | v :: r, o, w => (Fr.setCell w (a := ⟨b, o, none⟩) hb v).trans (setCells_fr hb r (o + 1) _)
theorem rangeAt_alloc' {w : World} {b o : Nat} {cs : List Value} (h : w.rangeAt b o cs) (ob : Obj) : (w.alloc ob).rangeAt b o cs := World.rangeAt_alloc h ob
theorem there_row {w : World} {b n : Nat} {f : Sec} {t : TypeId} (hb : w.heap[b]? = some (.cells (rowA n f) t (0, 0))) (off m : Nat) (h : off + m ≤ n) : w.there b off m := fun j hj =>
  ⟨by rw [cell_of_row w b (off + j) _ _ _ hb, rowA_get _ (by omega)]; rfl, frozen_of_row w b (off + j) _ _ hb⟩
theorem rangeAt_row {w : World} {b n : Nat} {f : Sec} {t : TypeId} {fr : Nat × Nat} (hb : w.heap[b]? = some (.cells (rowA n f) t fr)) (off m : Nat) (h : off + m ≤ n) : w.rangeAt b off (rowL m fun j => f (off + j)) := fun j v hv => by
  by_cases hj : j < m
  · rw [cell_of_row w b (off + j) _ _ _ hb, rowA_get _ (by omega)]; rw [rowL_get _ hj] at hv; exact hv
  · rw [List.getElem?_eq_none (by rw [rowL_length]; omega)] at hv; simp at hv
theorem row_new (w : World) (m : Nat) (g : Sec) (t : TypeId) (j : Nat) (u : Value) (h : (rowL m g)[j]? = some u) : (w.alloc (.cells (rowA m g) t)).cell? (Addr.add ⟨w.heap.size, 0, none⟩ j) = some u := by
  rw [Addr.add_mid]
  have := rangeAt_row (w := w.alloc (.cells (rowA m g) t)) (heap_alloc_new w _) 0 m (by omega) j u (by simpa using h)
  simpa using this
theorem rangeAt_row0 {w : World} {b n : Nat} {f : Sec} {t : TypeId} {fr : Nat × Nat} (hb : w.heap[b]? = some (.cells (rowA n f) t fr)) : w.rangeAt b 0 (rowL n f) := by
  have h := rangeAt_row hb 0 n (by omega)
  have e : (fun j => f (0 + j)) = f := by funext j; rw [Nat.zero_add]
  rw [e] at h; exact h
theorem row_at {w : World} {b n m : Nat} {f : Sec} {t : TypeId} {fr : Nat × Nat} (hb : w.heap[b]? = some (.cells (rowA n f) t fr)) (h : m ≤ n) (j : Nat) (u : Value) (hu : (rowL m f)[j]? = some u) : w.cell? (Addr.add ⟨b, 0, none⟩ j) = some u := by
  have hj : j < m := by have := (List.getElem?_eq_some_iff.1 hu).1; rw [rowL_length] at this; exact this
  rw [rowL_get f hj] at hu
  rw [Addr.add_mid, Nat.zero_add, cell_of_row w b j _ _ _ hb, rowA_get f (by omega)]; exact hu
theorem madeCells_row (n : Nat) : madeCells (rowA 64 fun _ => 0) (n * 64) = rowA (64 * n) fun _ => 0 := by
  apply Array.ext_getElem?
  intro j
  by_cases hj : j < n * 64
  · rw [rowA_get _ (by omega)]
    simp only [madeCells, Array.getElem?_map]
    rw [Array.getElem?_eq_getElem (by simpa using hj)]
    simp only [Array.getElem_range, Option.map_some]
    have : j % 64 < 64 := Nat.mod_lt _ (by omega)
    rw [rowA_size, getElem!_def, rowA_get _ this]
  · rw [Array.getElem?_eq_none (by simp [madeCells]; omega), Array.getElem?_eq_none (by rw [rowA_size]; omega)]
theorem heap3_0 (w : World) (a b c : Obj) : (((w.alloc a).alloc b).alloc c).heap[w.heap.size]? = some a := by
  rw [Below.heap_alloc _ _ _ (by simp; omega), Below.heap_alloc _ _ _ (by simp)]; exact heap_alloc_new w a
theorem heap3_1 (w : World) (a b c : Obj) : (((w.alloc a).alloc b).alloc c).heap[w.heap.size + 1]? = some b := by
  rw [Below.heap_alloc _ _ _ (by simp)]; exact heap_alloc2_new w a b
theorem heap3_2 (w : World) (a b c : Obj) : (((w.alloc a).alloc b).alloc c).heap[w.heap.size + 2]? = some c := by
  have h := heap_alloc_new ((w.alloc a).alloc b) c
  simpa using h
theorem run_arrayAt {arr e : TypeId} {n : Nat} (hu : P.underlying arr = some (.array n e)) (ao : Option Addr) (len cap : Nat) (h : n ≤ len) (u : World) : (Instr.arrayAt arr (.slice ao len cap)).run P u = .ok (.pointer ao) u := by
  unfold Instr.arrayAt
  rw [Sem.run_bind, run_underlying hu u, Result.andThen_ok]
  simp [show ¬ len < n by omega]
/-- a store of a whole array into the middle of a block -/
theorem exec_store_arr (ty : TypeId) (x y : Operand) (ho : o.op = .store ty x y) (b off : Nat) (m : Nat) (f : Sec) (hx : a.eval x = .pointer (some ⟨b, off, none⟩)) (hy : a.eval y = .agg (rowA m f))
    (ht : w.there b off m) (hi : (P.info? ty).map (·.size) = some m) : (execOp a.eval o).run P w = .ok .skip (w.setCells b off (rowL m f)) := by
  have h := run_storeAt_mid (P := P) w b off ty (rowA m f) (by rw [rowA_size]; exact ht) (by rw [rowA_size]; exact hi) rowA_all
  have e : (rowA m f).toList = rowL m f := by simp [rowA]
  rw [e] at h
  unfold execOp
  simp only [ho, hx, hy, Sem.run_bind, h, Result.andThen_ok, Sem.run_pure]
theorem exec_clear {x : Operand} {mt : TypeId} (ho : o.op = .call { callee := .builtin .clear, args := #[x], argTypes := #[mt] }) {mv v : Value} (hx : a.eval x = mv) {w' : World} (hr : ∀ ty, (Builtin.clear_ #[mt] ty #[mv]).run P w = .ok v w') :
    (execOp a.eval o).run P w = .ok (.value v) w' := by
  simp [execOp, ho, resolve, invoke, builtin, hx, hr, Result.andThen]
theorem copy_row {f g : Sec} {n off m : Nat} (h : off + m ≤ n) : ((rowA n f).toList.take off ++ rowL m g ++ (rowA n f).toList.drop (off + m)).toArray = rowA n (splF f off m g) := by
  apply Array.ext_getElem?
  intro j
  have hl : (rowA n f).toList = rowL n f := by simp [rowA]
  rw [hl, List.getElem?_toArray]
  by_cases h1 : j < off
  · rw [List.append_assoc, List.getElem?_append_left (by simp [rowL_length]; omega), List.getElem?_take_of_lt h1, rowL_get f (by omega), rowA_get _ (by omega)]
    simp only [splF]; rw [if_neg (by omega)]
  · by_cases h2 : j < off + m
    · rw [List.getElem?_append_left (by simp [rowL_length]; omega), List.getElem?_append_right (by simp [rowL_length]; omega)]
      rw [show (List.take off (rowL n f)).length = off by simp [rowL_length]; omega, rowL_get g (by omega), rowA_get _ (by omega)]
      simp only [splF]; rw [if_pos (by omega)]
    · rw [List.getElem?_append_right (by simp [rowL_length]; omega), List.getElem?_drop]
      rw [show off + m + (j - (List.take off (rowL n f) ++ rowL m g).length) = j by simp [rowL_length]; omega]
      by_cases h3 : j < n
      · rw [rowL_get f h3, rowA_get _ h3]; simp only [splF]; rw [if_neg (by omega)]
      · rw [List.getElem?_eq_none (by rw [rowL_length]; omega), Array.getElem?_eq_none (by rw [rowA_size]; omega)]
/-- copy of m bytes into a row of bytes -/
theorem run_copy_bytes (w : World) (dT sT elem : TypeId) (g off dLen dCap : Nat) (ad : Addr) (sLen sCap n m : Nat) (f h : Sec) (t : TypeId)
    (hu : P.underlying dT = some (.slice elem)) (hs : (P.info? elem).map (·.size) = some 1) (hg : w.heap[g]? = some (.cells (rowA n f) t (0, 0))) (hm : m = Nat.min sLen dLen)
    (hsrc : ∀ j v, (rowL m h)[j]? = some v → w.cell? (ad.add j) = some v) (hfit : off + m ≤ n) (ty : TypeId) :
    (Builtin.copy_ #[dT, sT] ty #[.slice (some ⟨g, off, none⟩) dLen dCap, .slice (some ad) sLen sCap]).run P w = .ok (.int .i64 (m : Int)) (w.setRow g (rowA n (splF f off m h))) := by
  have := run_copy_row (P := P) w dT sT ty elem g off dLen dCap ad sLen sCap (rowA n f) t (rowL m h) hu hs hg (by rw [rowL_length]; exact hm) hsrc (by rw [rowL_length, rowA_size]; exact hfit) rowL_one
  rw [rowL_length, copy_row hfit] at this
  exact this
theorem exec_copy {x y : Operand} {dT sT : TypeId} (ho : o.op = .call { callee := .builtin .copy, args := #[x, y], argTypes := #[dT, sT] }) {xv yv v : Value} (hx : a.eval x = xv) (hy : a.eval y = yv) {w' : World} (hr : ∀ ty, (Builtin.copy_ #[dT, sT] ty #[xv, yv]).run P w = .ok v w') :
    (execOp a.eval o).run P w = .ok (.value v) w' := by
  simp [execOp, ho, resolve, invoke, builtin, hx, hy, hr, Result.andThen]
/-- an operation that gives no value -/
theorem wpList_skipv {w' : World} (hgd : o.guard = none) (hrun : (execOp a.eval o).run P w = .ok .skip w') (h : wpList P ops Q rest (a.put o.dst undef) w') : wpList P ops Q (o :: rest) a w :=
  wpList_plain hgd fun _ hK => by unfold Oper.wp; rw [hrun]; exact hK _ _ h
theorem exec_update {mt : TypeId} {x i y : Operand} (ho : o.op = .mapUpdate mt x i y) {mv iv yv : Value} (hx : a.eval x = mv) (hi : a.eval i = iv) (hy : a.eval y = yv) {w' : World} (hr : (Instr.mapUpdate mt mv iv yv).run P w = .ok () w') :
    (execOp a.eval o).run P w = .ok .skip w' := by
  unfold execOp
  simp only [ho, hx, hi, hy, Sem.run_bind, hr, Result.andThen_ok, Sem.run_pure]
theorem wpList_update_run (hgd : o.guard = none) {mt : TypeId} {x i y : Operand} (ho : o.op = .mapUpdate mt x i y) {mv iv yv : Value} (hx : a.eval x = mv) (hi : a.eval i = iv) (hy : a.eval y = yv) {w' : World} (hr : (Instr.mapUpdate mt mv iv yv).run P w = .ok () w')
    (h : wpList P ops Q rest (a.put o.dst undef) w') : wpList P ops Q (o :: rest) a w := wpList_skipv hgd (exec_update ho hx hi hy hr) h
/-- a slice value that reads as m bytes -/
def BytesAt (w : World) (v : Value) (m : Nat) (f : Sec) : Prop :=
  ∃ ao cap, v = .slice ao m cap ∧ m ≤ cap ∧ cap ≤ maxLen ∧ (ao = none → m = 0 ∧ cap = 0) ∧ (0 < m → ∃ b off, ao = some ⟨b, off, none⟩ ∧ w.rangeAt b off (rowL m f))
theorem rangeAt_congr {w w' : World} {b off : Nat} {cs : List Value} (h : w.rangeAt b off cs) (e : w'.heap[b]? = w.heap[b]?) : w'.rangeAt b off cs := fun j v hv => (World.cell?_of_block (a := ⟨b, off + j, none⟩) e).trans (h j v hv)
theorem rangeAt_lt {w : World} {b off m : Nat} {f : Sec} (h : w.rangeAt b off (rowL m f)) (hm : 0 < m) : b < w.heap.size := by
  have := h 0 _ (rowL_get f hm)
  exact World.block_lt_of_cell? w _ this
theorem rangeAt_sub {w : World} {b off n : Nat} {f : Sec} (h : w.rangeAt b off (rowL n f)) (k m : Nat) (hk : k + m ≤ n) : w.rangeAt b (off + k) (rowL m fun j => f (k + j)) := fun j v hv => by
  by_cases hj : j < m
  · rw [rowL_get _ hj] at hv; have := h (k + j) v (by rw [rowL_get _ (by omega)]; exact hv); rw [Nat.add_assoc]; exact this
  · rw [List.getElem?_eq_none (by rw [rowL_length]; omega)] at hv; simp at hv
theorem rangeAt_pre {w : World} {b off n m : Nat} {f : Sec} (h : w.rangeAt b off (rowL n f)) (hm : m ≤ n) : w.rangeAt b off (rowL m f) := by
  have h1 := rangeAt_sub h 0 m (by omega)
  have e : (fun j => f (0 + j)) = f := by funext j; rw [Nat.zero_add]
  rw [e] at h1; exact h1
theorem BytesAt.fr {w w' : World} {v : Value} {m : Nat} {f : Sec} {F : List Nat} (h : BytesAt w v m f) (hf : Fr F w w') (hF : ∀ k, v.ownBlock = some k → k ∉ F) : BytesAt w' v m f := by
  obtain ⟨ao, cap, rfl, h1, h2, h3, h4⟩ := h
  refine ⟨ao, cap, rfl, h1, h2, h3, fun hm => ?_⟩
  obtain ⟨b, off, rfl, hr⟩ := h4 hm
  exact ⟨b, off, rfl, rangeAt_congr hr (hf.block b (rangeAt_lt hr hm) (hF b rfl))⟩
end
end Go.Proofs.YteaaiejfieaalaaGreatDoor

/-
  Plan: a region that draws its order, walked in ONE order that the prover names: what only reads (under a condition S on the world) is taken first, a call or a write as soon as it is the only one that may come up. No condition beyond those stated.
-/
namespace Go.Proofs.YteaaiejfieaalaaGreatDoor
open Go.RowKit
/-- a step that turns new blocks alone -/
theorem Fr.then_new {F G : List Nat} {a b c : World} (h : Fr F a b) (k : Fr G b c) (hG : ∀ g ∈ G, g ∈ F ∨ a.heap.size ≤ g) : Fr F a c :=
  ⟨k.os.trans h.os, k.tape.trans h.tape, k.output.trans h.output, Nat.le_trans h.size k.size, fun i hi hn => (k.block i (Nat.lt_of_lt_of_le hi h.size) (fun hm => by rcases hG i hm with h1 | h1; exact hn h1; omega)).trans (h.block i hi hn)⟩
theorem Fr.then_below {F : List Nat} {a b c : World} {B : Nat} (h : Fr F a b) (k : Below B b c) (hB : a.heap.size ≤ B) : Fr F a c :=
  ⟨k.os.trans h.os, k.tape.trans h.tape, k.output.trans h.output, Nat.le_trans h.size k.size, fun i hi hn => (k.block i (by omega)).trans (h.block i hi hn)⟩
theorem results_cell {fn : Func} {p : Tmp} {ty : TypeId} (h : fn.results = #[.cell p ty]) (tmps : Array Value) {P : Program} {w : World} {b off : Nat} {v : Value} (hp : tmps.getD p undef = .pointer (some ⟨b, off, none⟩)) (hv : (loadVar ty ⟨b, off, none⟩).run P w = .ok v w) :
    (results fn tmps).run P w = .ok v w := by
  rw [Array.getD_eq_getD_getElem?] at hp
  simp [results, h, hp, asAddr, hv]
theorem results_cells2 {fn : Func} {p q : Tmp} {ty uy : TypeId} (h : fn.results = #[.cell p ty, .cell q uy]) (tmps : Array Value) {P : Program} {w : World} {b off c off2 : Nat} {v u : Value} (hp : tmps.getD p undef = .pointer (some ⟨b, off, none⟩)) (hv : (loadVar ty ⟨b, off, none⟩).run P w = .ok v w)
    (hq : tmps.getD q undef = .pointer (some ⟨c, off2, none⟩)) (hu : (loadVar uy ⟨c, off2, none⟩).run P w = .ok u w) :
    (results fn tmps).run P w = .ok (.tuple #[v, u]) w := by
  rw [Array.getD_eq_getD_getElem?] at hp hq
  simp [results, h, hp, hq, asAddr, Sem.run_bind, hv, hu]
section
variable {P : Program} {ops : Array Oper} {Q : Exit → Act → World → Prop} {md : Region.Mode} {S : World → Prop}

def planB (md : Region.Mode) (ops : Array Oper) : List (Nat × Bool) → Array Bool → Bool
  | [], listed => (Region.ready md ops listed).isEmpty
  | (i, false) :: r, listed => (Region.ready md ops listed).contains i && Region.free md ops listed i && planB md ops r (listed.setIfInBounds i true)
  | (i, true) :: r, listed => decide (Region.ready md ops listed = [i]) && planB md ops r (listed.setIfInBounds i true)
def planOK (md : Region.Mode) (ops : Array Oper) (plan : List (Nat × Bool)) : Bool :=
  Region.noSelect ops && decide (plan.length = ops.size) && planB md ops plan (Array.replicate ops.size false)

/-- the walk of a plan -/
def wpPlan (P : Program) (ops : Array Oper) (S : World → Prop) (Q : Exit → Act → World → Prop) : List (Nat × Bool) → Act → World → Prop
  | [], a, w => Q .normal a w
  | (i, false) :: r, a, w => ∃ o v, ops[i]? = some o ∧ YieldsIf P ops S o v a ∧ wpPlan P ops S Q r (a.put o.dst v) w
  | (i, true) :: r, a, w => wpOp P ops Q i (fun a' w' => S w' ∧ wpPlan P ops S Q r a' w') a w

theorem wpPlan_held (hs : Region.noSelect ops = true) (hQ : ∀ c a d v w, Q (.panic c) (a.put d v) w → Q (.panic c) a w) :
    ∀ (plan : List (Nat × Bool)) (listed : Array Bool) (a : Act) (w : World), planB md ops plan listed = true → S w → wpPlan P ops S Q plan a w → wpAnyH P md ops Q S plan.length listed a w
  | [], _, _, _, hB, _, h => ⟨by simpa [planB] using hB, h⟩
  | (i, false) :: r, listed, a, w, hB, hS, h => by
    simp only [planB, Bool.and_eq_true] at hB
    obtain ⟨o, v, hi, hy, h⟩ := h
    exact wpAnyH_take hi hs hB.1.2 hB.1.1 (fun c a w => hQ c a _ _ w) hy hS (wpPlan_held hs hQ r _ _ _ hB.2 hS h)
  | (i, true) :: r, listed, a, w, hB, hS, h => by
    simp only [planB, Bool.and_eq_true, decide_eq_true_eq] at hB
    refine wpAnyH_all hB.1 (by simp) (fun j hj => ?_)
    have e : j = i := by simpa using hj
    subst e
    exact wpOp_mono (fun a' w' h' => ⟨h'.1, wpPlan_held hs hQ r _ _ _ hB.2 h'.1 h'.2⟩) h

/-- the beginning -/
theorem wp_region_plan {id : Nat} {a : Act} {w : World} {l : List Oper} (plan : List (Nat × Bool)) (S : World → Prop) (hm : P.follows .mixedOrders = true) (hB : planOK .any l.toArray plan = true) (hS : S w.drew)
    (h : wpPlan P l.toArray S (NoPanic Q) plan a w.drew) : (Code.region id l.toArray true).wp P Q a w := by
  simp only [planOK, Bool.and_eq_true, decide_eq_true_eq] at hB
  refine wp_region_noPanic (wp_region_held (S := S) hm ?_)
  have := wpPlan_held (md := .any) hB.1.1 (Q := NoPanic Q) (fun c a d v w h => h) plan _ a w.drew hB.2 hS h
  rw [hB.1.2] at this
  exact this

/-- the i-th of a list -/
def nthO : List Oper → Nat → Option Oper
  | [], _ => none
  | o :: _, 0 => some o
  | _ :: l, i + 1 => nthO l i
theorem nthO_eq : ∀ (l : List Oper) (i : Nat), nthO l i = l[i]?
  | [], _ => rfl
  | _ :: _, 0 => rfl
  | _ :: l, i + 1 => by rw [nthO, nthO_eq l i]; rfl
/-- what reads -/
theorem plan_val {l : List Oper} {i : Nat} {o : Oper} {v : Value} {r : List (Nat × Bool)} {a : Act} {w : World} (hi : nthO l i = some o) (hw : Region.wanted o (yielded l.toArray a.tmps) = true)
    (hrun : ∀ w', S w' → (execOp a.eval o).run P w' = .ok (.value v) w') (h : wpPlan P l.toArray S Q r (a.put o.dst v) w) : wpPlan P l.toArray S Q ((i, false) :: r) a w :=
  ⟨o, v, by rw [List.getElem?_toArray, ← nthO_eq]; exact hi, .inl ⟨hw, hrun⟩, h⟩
/-- what is passed over -/
theorem plan_skip {l : List Oper} {i : Nat} {o : Oper} {r : List (Nat × Bool)} {a : Act} {w : World} (hi : nthO l i = some o) (hw : Region.wanted o (yielded l.toArray a.tmps) = false)
    (h : wpPlan P l.toArray S Q r (a.put o.dst undef) w) : wpPlan P l.toArray S Q ((i, false) :: r) a w :=
  ⟨o, undef, by rw [List.getElem?_toArray, ← nthO_eq]; exact hi, .inr ⟨hw, rfl⟩, h⟩
theorem plan_nil {a : Act} {w : World} (h : Q .normal a w) : wpPlan P ops S (NoPanic Q) [] a w := h

theorem Oper.wp_post {o : Oper} {a : Act} {w : World} {K : Act → World → Prop} {Q Q' : Exit → Act → World → Prop} (h1 : ∀ c a w, Q (.panic c) a w → Q' (.panic c) a w) (h2 : LetsOut Q → LetsOut Q') (h : o.wp P a w K Q) : o.wp P a w K Q' := by
  unfold Oper.wp at *
  generalize (execOp a.eval o).run P w = r at *
  cases r with
  | ok n w' =>
    cases n <;> simp only [Oper.upon] at h ⊢ <;>
      first
        | exact h
        | exact Calls.mono h (fun e w'' he => by cases e <;> first | exact he | exact h1 _ _ _ he | exact h2 he)
  | halt x w' => cases x <;> simp only [Oper.upon] at h ⊢ <;> first | exact h | exact h1 _ _ _ h
/-- what is carried out: as a list of one operation, so that every law of lists serves -/
theorem plan_do {l : List Oper} {i : Nat} {o : Oper} {r : List (Nat × Bool)} {a : Act} {w : World} (hi' : nthO l i = some o)
    (h : ∀ K : Act → World → Prop, (∀ a' w', S w' → wpPlan P l.toArray S Q r a' w' → K a' w') → wpList P l.toArray (Exit.then K Q) [o] a w) : wpPlan P l.toArray S Q ((i, true) :: r) a w := by
  have hi : l.toArray[i]? = some o := by rw [List.getElem?_toArray, ← nthO_eq]; exact hi'
  have h0 := h _ (fun a' w' h1 h2 => (⟨h1, h2⟩ : S w' ∧ wpPlan P l.toArray S Q r a' w'))
  show wpOp P l.toArray Q i _ a w
  unfold wpOp
  rw [hi]
  simp only [wpList] at h0 ⊢
  split
  · rename_i hw
    rw [if_pos hw] at h0
    rcases h0 with h0 | ⟨h0, a1, w1, h1⟩
    · exact .inl (Oper.wp_post (fun _ _ _ h => h) (fun ⟨a, w, h⟩ => ⟨a, w, h⟩) h0)
    · exact .inr ⟨h0, a1, w1, h1⟩
  · rename_i hw
    rw [if_neg hw] at h0
    exact h0
end
end Go.Proofs.YteaaiejfieaalaaGreatDoor

/-
  Plan2: as Plan, for a region whose LAST operation (number f) breaks the condition S: a store to a cell that the region loads. All operations that read under S lie on f's way. No condition beyond those stated.
-/
namespace Go.Proofs.YteaaiejfieaalaaGreatDoor
open Go.RowKit
section
variable {P : Program} {ops : Array Oper} {Q : Exit → Act → World → Prop} {md : Region.Mode} {S : World → Prop} {f : Nat}
/-- what is listed has what it waits for listed -/
def Down (md : Region.Mode) (ops : Array Oper) (L : Array Bool) : Prop := ∀ j o, ops[j]? = some o → L.getD j false = true → ∀ e ∈ o.after, Region.binds md e = true → L.getD e.on false = true
theorem Down.set {L : Array Bool} {i : Nat} (h : Down md ops L) (hr : i ∈ Region.ready md ops L) : Down md ops (L.setIfInBounds i true) := by
  intro j o ho hl e he hb
  by_cases hji : i = j
  · subst hji
    obtain ⟨_, o', ho', hall⟩ := mem_ready.1 hr
    rw [ho] at ho'; cases ho'
    exact getD_set_true (hall e he hb)
  · rw [getD_set_ne false hji] at hl
    exact getD_set_true (h j o ho hl e he hb)
def reachB (md : Region.Mode) (ops : Array Oper) : Nat → Nat → Nat → Bool
  | 0, g, i => g == i
  | n + 1, g, i => g == i || (match ops[g]? with | none => false | some o => o.after.any fun e => Region.binds md e && reachB md ops n e.on i)
theorem reach_listed {L : Array Bool} (h : Down md ops L) : ∀ (n g i : Nat), reachB md ops n g i = true → L.getD g false = true → L.getD i false = true
  | 0, g, i, hr, hg => by simp only [reachB, beq_iff_eq] at hr; subst hr; exact hg
  | n + 1, g, i, hr, hg => by
    simp only [reachB, Bool.or_eq_true, beq_iff_eq] at hr
    rcases hr with hr | hr
    · subst hr; exact hg
    · cases ho : ops[g]? with
      | none => rw [ho] at hr; cases hr
      | some o =>
        rw [ho] at hr
        obtain ⟨e, he, hb⟩ := Array.any_eq_true'.1 hr
        rw [Bool.and_eq_true] at hb
        exact reach_listed h n e.on i hb.2 (h g o ho hg e he hb.1)
def CF (f : Nat) (S : World → Prop) (L : Array Bool) (w : World) : Prop := L.getD f false = true ∨ S w
def wpAnyF (P : Program) (md : Region.Mode) (ops : Array Oper) (Q : Exit → Act → World → Prop) (S : World → Prop) (f : Nat) : Nat → Array Bool → Act → World → Prop
  | 0, listed, a, w => Region.ready md ops listed = [] ∧ Q .normal a w
  | fuel + 1, listed, a, w =>
    (Region.ready md ops listed = [] → Q .normal a w) ∧
    ∀ i ∈ Region.ready md ops listed, wpOp P ops Q i (fun a' w' => CF f S (listed.setIfInBounds i true) w' ∧ wpAnyF P md ops Q S f fuel (listed.setIfInBounds i true) a' w') a w
theorem wpAny_of_F : ∀ (fuel : Nat) (listed : Array Bool) (a : Act) (w : World), wpAnyF P md ops Q S f fuel listed a w → wpAny P md ops Q fuel listed a w
  | 0, _, _, _, h => h
  | fuel + 1, _, _, _, h => ⟨h.1, fun i hi => wpOp_mono (fun a' w' h' => wpAny_of_F fuel _ a' w' h'.2) (h.2 i hi)⟩
theorem listed_true {L : Array Bool} {i : Nat} (h : L.getD i true = false) : L.getD i false = false := by
  rw [Array.getD_eq_getD_getElem?] at h ⊢
  cases hi : L[i]? with
  | none => rfl
  | some b => rw [hi] at h; exact h
theorem wpAnyF_first {i : Nat} {oi : Oper} {v : Value} (hi : ops[i]? = some oi) (hsel : ∀ (j : Nat) (o : Oper) cs b, ops[j]? = some o → o.op ≠ .select cs b)
    (hQ : ∀ c a w, Q (.panic c) (a.put oi.dst v) w → Q (.panic c) a w) (hfi : f ≠ i) (hdep : ∀ L, Down md ops L → L.getD f false = true → L.getD i false = true) :
    ∀ (fuel : Nat) (listed : Array Bool) (a : Act) (w : World),
      (∀ j oj, ops[j]? = some oj → j ≠ i → listed.getD j true = false → (∀ e ∈ oj.after, Region.binds md e = true → e.on ≠ i) → oi.apart ops oj = true) →
      i ∈ Region.ready md ops listed → YieldsIf P ops S oi v a → Down md ops listed → CF f S listed w →
      wpAnyF P md ops Q S f fuel (listed.setIfInBounds i true) (a.put oi.dst v) w → wpAnyF P md ops Q S f (fuel + 1) listed a w := by
  have hSw : ∀ (listed : Array Bool) (w : World), i ∈ Region.ready md ops listed → Down md ops listed → CF f S listed w → S w := fun listed w hr hd hc => by
    rcases hc with hc | hc
    · have h1 := hdep listed hd hc
      have h2 := listed_true (mem_ready.1 hr).1
      rw [h1] at h2; cases h2
    · exact hc
  have hset : ∀ (listed : Array Bool) (w : World), CF f S (listed.setIfInBounds i true) w ↔ CF f S listed w := fun listed w => by
    unfold CF; rw [getD_set_ne false (Ne.symm hfi)]
  intro fuel
  induction fuel with
  | zero =>
    intro listed a w _ hr hy hd hc H
    refine ⟨fun h => (by rw [h] at hr; cases hr), fun j hj => ?_⟩
    by_cases hji : j = i
    · subst hji; exact hy.wpOp hi (hSw _ _ hr hd hc) ⟨(hset _ _).2 hc, H⟩
    · have := ready_mono hj hji
      rw [H.1] at this
      cases this
  | succ fuel ih =>
    intro listed a w hfree hr hy hd hc H
    refine ⟨fun h => (by rw [h] at hr; cases hr), fun j hj => ?_⟩
    by_cases hji : j = i
    · subst hji; exact hy.wpOp hi (hSw _ _ hr hd hc) ⟨(hset _ _).2 hc, H⟩
    · have h1 := H.2 j (ready_mono hj hji)
      obtain ⟨hjun, oj, hoj, hall⟩ := mem_ready.1 hj
      have hnot : ∀ e ∈ oj.after, Region.binds md e = true → e.on ≠ i := fun e he hb heq => by
        have h1 := hall e he hb
        have h0 := listed_true (mem_ready.1 hr).1
        rw [heq, h0] at h1
        cases h1
      have h2 := wpOp_putIf hoj (hfree j oj hoj hji hjun hnot) (fun cs b => hsel i oi cs b hi) (fun cs b => hsel j oj cs b hoj) hQ hy h1
      have hfree' : ∀ k ok, ops[k]? = some ok → k ≠ i → (listed.setIfInBounds j true).getD k true = false →
          (∀ e ∈ ok.after, Region.binds md e = true → e.on ≠ i) → oi.apart ops ok = true := fun k ok hk hki hun hno => by
        refine hfree k ok hk hki ?_ hno
        by_cases hjk : j = k
        · subst hjk; exact hjun
        · rw [getD_set_ne true hjk] at hun; exact hun
      refine wpOp_mono (fun a' w' h3 => ?_) h2
      rw [Array.setIfInBounds_comm _ _ (Ne.symm hji)] at h3
      have hc' := (hset _ _).1 h3.2.1
      exact ⟨hc', ih (listed.setIfInBounds j true) a' w' hfree' (ready_mono hr (Ne.symm hji)) h3.1 (hd.set hj) hc' h3.2.2⟩
def planBF (md : Region.Mode) (ops : Array Oper) (f : Nat) : List (Nat × Bool) → Array Bool → Bool
  | [], listed => (Region.ready md ops listed).isEmpty
  | (i, false) :: r, listed => (Region.ready md ops listed).contains i && Region.free md ops listed i && !(f == i) && reachB md ops 16 f i && planBF md ops f r (listed.setIfInBounds i true)
  | (i, true) :: r, listed => decide (Region.ready md ops listed = [i]) && planBF md ops f r (listed.setIfInBounds i true)
def planOKF (md : Region.Mode) (ops : Array Oper) (f : Nat) (plan : List (Nat × Bool)) : Bool :=
  Region.noSelect ops && decide (plan.length = ops.size) && planBF md ops f plan (Array.replicate ops.size false)
def wpPlanF (P : Program) (ops : Array Oper) (S : World → Prop) (f : Nat) (Q : Exit → Act → World → Prop) : List (Nat × Bool) → Act → World → Prop
  | [], a, w => Q .normal a w
  | (i, false) :: r, a, w => ∃ o v, ops[i]? = some o ∧ YieldsIf P ops S o v a ∧ wpPlanF P ops S f Q r (a.put o.dst v) w
  | (i, true) :: r, a, w => wpOp P ops Q i (fun a' w' => (i = f ∨ S w') ∧ wpPlanF P ops S f Q r a' w') a w
theorem wpPlanF_held (hs : Region.noSelect ops = true) (hQ : ∀ c a d v w, Q (.panic c) (a.put d v) w → Q (.panic c) a w) (hf : f < ops.size) :
    ∀ (plan : List (Nat × Bool)) (listed : Array Bool) (a : Act) (w : World), listed.size = ops.size → planBF md ops f plan listed = true → Down md ops listed → CF f S listed w → wpPlanF P ops S f Q plan a w → wpAnyF P md ops Q S f plan.length listed a w
  | [], listed, a, w, _, hB, _, _, h => ⟨by simpa [planBF] using hB, h⟩
  | (i, false) :: r, listed, a, w, hz, hB, hd, hc, h => by
    simp only [planBF, Bool.and_eq_true, Bool.not_eq_true', beq_eq_false_iff_ne] at hB
    obtain ⟨o, v, hi, hy, h⟩ := h
    have hr : i ∈ Region.ready md ops listed := by simpa using hB.1.1.1.1
    exact wpAnyF_first hi (Region.noSelect_spec hs) (fun c a w => hQ c a _ _ w) hB.1.1.2 (fun L hL hf => reach_listed hL 16 f i hB.1.2 hf) _ listed a w (Region.free_spec hi hB.1.1.1.2) hr hy hd hc
      (wpPlanF_held hs hQ hf r _ _ _ (by simpa using hz) hB.2 (hd.set hr) (by unfold CF at hc ⊢; rw [getD_set_ne false (Ne.symm hB.1.1.2)]; exact hc) h)
  | (i, true) :: r, listed, a, w, hz, hB, hd, hc, h => by
    simp only [planBF, Bool.and_eq_true, decide_eq_true_eq] at hB
    show wpAnyF P md ops Q S f (r.length + 1) listed a w
    refine ⟨fun h0 => (by rw [hB.1] at h0; cases h0), fun j hj => ?_⟩
    have hj' := hj
    rw [hB.1] at hj
    have e : j = i := by simpa using hj
    subst e
    refine wpOp_mono (fun a' w' h' => ?_) h
    have hc' : CF f S (listed.setIfInBounds j true) w' := by
      rcases h'.1 with h1 | h1
      · subst h1
        left
        rw [Array.getD_eq_getD_getElem?, Array.getElem?_setIfInBounds_self_of_lt (by omega)]; rfl
      · exact .inr h1
    exact ⟨hc', wpPlanF_held hs hQ hf r _ _ _ (by simpa using hz) hB.2 (hd.set hj') hc' h'.2⟩
theorem down_start (n : Nat) : Down md ops (Array.replicate n false) := by
  intro j o _ hl
  rw [Array.getD_eq_getD_getElem?, Array.getElem?_replicate] at hl
  split at hl <;> simp at hl
/-- the beginning -/
theorem wp_region_planF {id : Nat} {a : Act} {w : World} {l : List Oper} (f : Nat) (plan : List (Nat × Bool)) (S : World → Prop) (hm : P.follows .mixedOrders = true) (hB : (planOKF .any l.toArray f plan && decide (f < l.length)) = true) (hS : S w.drew)
    (h : wpPlanF P l.toArray S f (NoPanic Q) plan a w.drew) : (Code.region id l.toArray true).wp P Q a w := by
  simp only [planOKF, Bool.and_eq_true, decide_eq_true_eq] at hB
  refine wp_region_noPanic (wp_region_any hm (wpAny_of_F (S := S) (f := f) _ _ _ _ ?_))
  have := wpPlanF_held (md := .any) (f := f) (S := S) hB.1.1.1 (Q := NoPanic Q) (fun c a d v w h => h) (by simpa using hB.2) plan _ a w.drew (by simp) hB.1.2 (down_start _) (.inr hS) h
  rw [hB.1.1.2] at this
  exact this
theorem planF_val {l : List Oper} {i : Nat} {o : Oper} {v : Value} {r : List (Nat × Bool)} {a : Act} {w : World} (hi : nthO l i = some o) (hw : Region.wanted o (yielded l.toArray a.tmps) = true)
    (hrun : ∀ w', S w' → (execOp a.eval o).run P w' = .ok (.value v) w') (h : wpPlanF P l.toArray S f Q r (a.put o.dst v) w) : wpPlanF P l.toArray S f Q ((i, false) :: r) a w :=
  ⟨o, v, by rw [List.getElem?_toArray, ← nthO_eq]; exact hi, .inl ⟨hw, hrun⟩, h⟩
theorem planF_skip {l : List Oper} {i : Nat} {o : Oper} {r : List (Nat × Bool)} {a : Act} {w : World} (hi : nthO l i = some o) (hw : Region.wanted o (yielded l.toArray a.tmps) = false)
    (h : wpPlanF P l.toArray S f Q r (a.put o.dst undef) w) : wpPlanF P l.toArray S f Q ((i, false) :: r) a w :=
  ⟨o, undef, by rw [List.getElem?_toArray, ← nthO_eq]; exact hi, .inr ⟨hw, rfl⟩, h⟩
theorem planF_nil {a : Act} {w : World} (h : Q .normal a w) : wpPlanF P ops S f (NoPanic Q) [] a w := h
theorem planF_do {l : List Oper} {i : Nat} {o : Oper} {r : List (Nat × Bool)} {a : Act} {w : World} (hi' : nthO l i = some o)
    (h : ∀ K : Act → World → Prop, (∀ a' w', (i = f ∨ S w') → wpPlanF P l.toArray S f Q r a' w' → K a' w') → wpList P l.toArray (Exit.then K Q) [o] a w) : wpPlanF P l.toArray S f Q ((i, true) :: r) a w := by
  have hi : l.toArray[i]? = some o := by rw [List.getElem?_toArray, ← nthO_eq]; exact hi'
  have h0 := h _ (fun a' w' h1 h2 => (⟨h1, h2⟩ : (i = f ∨ S w') ∧ wpPlanF P l.toArray S f Q r a' w'))
  show wpOp P l.toArray Q i _ a w
  unfold wpOp
  rw [hi]
  simp only [wpList] at h0 ⊢
  split
  · rename_i hw
    rw [if_pos hw] at h0
    rcases h0 with h0 | ⟨h0, a1, w1, h1⟩
    · exact .inl (Oper.wp_post (fun _ _ _ h => h) (fun ⟨a, w, h⟩ => ⟨a, w, h⟩) h0)
    · exact .inr ⟨h0, a1, w1, h1⟩
  · rename_i hw
    rw [if_neg hw] at h0
    exact h0
end
end Go.Proofs.YteaaiejfieaalaaGreatDoor

/-
  EdiP: texts of segments: the reader as a machine of bytes, the printer: plain words, no program in sight. No condition.
-/
namespace Go.Proofs.YteaaiejfieaalaaGreatDoor
abbrev Str := List UInt8
structure Seg where
  tag : Str
  elems : List (List Str)
/-- a byte of a tag -/
def tagB (c : UInt8) : Bool := (decide (65 ≤ c.toNat) && decide (c.toNat ≤ 90)) || (decide (48 ≤ c.toNat) && decide (c.toNat ≤ 57))
/-- a sign -/
def signB (c : UInt8) : Bool := c == 43 || c == 58 || c == 39 || c == 63
/-- where a reader stands -/
inductive EC where
  | btw (l : List Seg)
  | tag (l : List Seg) (t : Str)
  | bhd (l : List Seg) (t : Str)
  | cmp (l : List Seg) (t : Str) (es : List (List Str)) (cs : List Str) (p : Str)
  | rel (l : List Seg) (t : Str) (es : List (List Str)) (cs : List Str) (p : Str)
inductive ER where
  | err (k : Int)
  | ok (c : EC)
def tagS (l : List Seg) (t : Str) (c : UInt8) : ER :=
  if tagB c = false then .err 30 else if t.length + 1 < 3 then .ok (.tag l (t ++ [c])) else .ok (.bhd l (t ++ [c]))
def putS (l : List Seg) (t : Str) (es : List (List Str)) (cs : List Str) (p : Str) (c : UInt8) : ER :=
  if p.length = 256 then .err 2 else .ok (.cmp l t es cs (p ++ [c]))
def signS (l : List Seg) (t : Str) (es : List (List Str)) (cs : List Str) (p : Str) (c : UInt8) : ER :=
  if c = 39 then .ok (.btw (l ++ [⟨t, es ++ [cs ++ [p]]⟩]))
  else if c = 43 then if es.length + 1 = 16 then .err 2 else .ok (.cmp l t (es ++ [cs ++ [p]]) [] [])
  else if cs.length + 1 = 8 then .err 2 else .ok (.cmp l t es (cs ++ [p]) [])
def stepE : EC → UInt8 → ER
  | .btw l, c => if c = 10 ∧ l ≠ [] then .ok (.btw l) else if l.length = 64 then .err 2 else tagS l [] c
  | .tag l t, c => tagS l t c
  | .bhd l t, c => if c = 39 then .ok (.btw (l ++ [⟨t, []⟩])) else if c = 43 then .ok (.cmp l t [] [] []) else .err 30
  | .cmp l t es cs p, c => if c = 63 then .ok (.rel l t es cs p) else if signB c = true then signS l t es cs p c else if c.toNat < 32 ∨ 126 < c.toNat then .err 30 else putS l t es cs p c
  | .rel l t es cs p, c => if signB c = true then putS l t es cs p c else .err 30
/-- what comes of bytes: an error at a place, or where the reader stands -/
inductive EO where
  | err (at_ : Nat) (k : Int)
  | ok (c : EC)
def runE : EC → Nat → Str → EO
  | s, _, [] => .ok s
  | s, i, c :: r => match stepE s c with
    | .err k => .err i k
    | .ok s' => runE s' (i + 1) r
/-- Parse: segments, a place, an error -/
def parseE (t : Str) : List Seg × Nat × Int :=
  if 65536 < t.length then ([], 0, 2) else match runE (.btw []) 0 t with
    | .err i k => ([], i, k)
    | .ok (.btw l) => (l, 0, 0)
    | .ok _ => ([], t.length, 31)
theorem runE_append : ∀ (a b : Str) (s : EC) (i : Nat), runE s i (a ++ b) = match runE s i a with
    | .err j k => .err j k
    | .ok s' => runE s' (i + a.length) b
  | [], b, s, i => by simp [runE]
  | c :: a, b, s, i => by
    simp only [List.cons_append, runE]
    cases h : stepE s c with
    | err k => rfl
    | ok s' => simp only []; rw [runE_append a b s' (i + 1)]; simp only [List.length_cons]; rw [show i + 1 + a.length = i + (a.length + 1) by omega]
/-! ### telling -/
def escB (c : UInt8) : Str := if signB c then [63, c] else [c]
def compT (p : Str) : Str := p.flatMap escB
def joinB (s : UInt8) : List Str → Str
  | [] => []
  | [a] => a
  | a :: b :: l => a ++ s :: joinB s (b :: l)
def elemT (e : List Str) : Str := joinB 58 (e.map compT)
def segT (s : Seg) : Str := s.tag ++ s.elems.flatMap (fun e => 43 :: elemT e) ++ [39]
def printT (l : List Seg) : Str := l.flatMap segT
def tagBad (t : Str) : Bool := t.length != 3 || !t.all tagB
def argP (l : List Seg) : Bool := l.any fun s => tagBad s.tag || s.elems.any fun e => e.isEmpty
def badB (c : UInt8) : Bool := decide (c.toNat < 32) || decide (126 < c.toNat)
def signP (l : List Seg) : Bool := l.any fun s => s.elems.any fun e => e.any fun p => p.any badB
def longP (l : List Seg) : Bool := decide (64 < l.length) || l.any fun s => decide (16 < s.elems.length) || s.elems.any fun e => decide (8 < e.length) || e.any fun p => decide (256 < p.length)
def printE (l : List Seg) : Str × Int :=
  if argP l then ([], 1) else if signP l then ([], 30) else if longP l || decide (65536 < (printT l).length) then ([], 2) else (printT l, 0)
end Go.Proofs.YteaaiejfieaalaaGreatDoor

/-
  EdiM: how segments, and a reader of them, lie in memory. No condition beyond those stated.
-/
namespace Go.Proofs.YteaaiejfieaalaaGreatDoor
open Go.RowKit
theorem einfo_u8 : (Tryz.prog.info? 5).map (fun i => (i.zero, i.size, i.bytes)) = some (some (.int .u8 0), 1, 1) := by kernel_rfl
theorem einfo_str : (Tryz.prog.info? 9).map (fun i => (i.zero, i.size, i.bytes)) = some (some (.string ⟨#[]⟩), 1, 16) := by kernel_rfl
theorem einfo_strs : (Tryz.prog.info? 53).map (fun i => (i.zero, i.size, i.bytes)) = some (some (.slice none 0 0), 1, 24) := by kernel_rfl
theorem einfo_seg : (Tryz.prog.info? 36).map (fun i => (i.zero, i.size, i.bytes)) = some (some (.agg #[.string ⟨#[]⟩, .slice none 0 0]), 2, 40) := by kernel_rfl
/-- a string as a cell -/
def sv (s : Str) : Value := .string ⟨s.toArray⟩
theorem cell_lt' {w : World} {b o : Nat} {v : Value} (h : w.cell? ⟨b, o, none⟩ = some v) : b < w.heap.size := World.block_lt_of_cell? w _ h
/-- a slice that reads as these values, one cell each, in a block of S -/
def RowAt (S : Nat → Prop) (w : World) (v : Value) (xs : List Value) : Prop :=
  ∃ ao cap, v = .slice ao xs.length cap ∧ xs.length ≤ cap ∧ cap ≤ maxLen ∧ (ao = none → cap = 0) ∧ (xs ≠ [] → ∃ b off, ao = some ⟨b, off, none⟩ ∧ S b ∧ ∀ (i : Nat) (x : Value), xs[i]? = some x → w.cell? ⟨b, off + i, none⟩ = some x)
def CompsAt (S : Nat → Prop) (w : World) (v : Value) (cs : List Str) : Prop := RowAt S w v (cs.map sv)
def ElemsAt (S : Nat → Prop) (w : World) (v : Value) (es : List (List Str)) : Prop :=
  ∃ xs : List Value, RowAt S w v xs ∧ xs.length = es.length ∧ ∀ (i : Nat) (e : List Str) (x : Value), es[i]? = some e → xs[i]? = some x → CompsAt S w x e
def SegsAt (S : Nat → Prop) (w : World) (v : Value) (l : List Seg) : Prop :=
  ∃ (ao : Option Addr) (cap : Nat) (xs : List Value), v = .slice ao l.length cap ∧ l.length ≤ cap ∧ cap ≤ maxLen ∧ (ao = none → cap = 0) ∧ xs.length = l.length ∧ (∀ (i : Nat) (s : Seg) (x : Value), l[i]? = some s → xs[i]? = some x → ElemsAt S w x s.elems) ∧
    (l ≠ [] → ∃ b off, ao = some ⟨b, off, none⟩ ∧ S b ∧ ∀ (i : Nat) (s : Seg) (x : Value), l[i]? = some s → xs[i]? = some x → w.cell? ⟨b, off + i * 2, none⟩ = some (sv s.tag) ∧ w.cell? ⟨b, off + i * 2 + 1, none⟩ = some x)
section
variable {S T : Nat → Prop} {w w' : World} {v : Value}
theorem RowAt.cong {xs : List Value} (h : RowAt S w v xs) (hT : ∀ k, S k → T k) (e : ∀ k, S k → w'.heap[k]? = w.heap[k]?) : RowAt T w' v xs := by
  obtain ⟨ao, cap, rfl, h1, h2, h3, h4⟩ := h
  refine ⟨ao, cap, rfl, h1, h2, h3, fun hx => ?_⟩
  obtain ⟨b, off, rfl, hS, hc⟩ := h4 hx
  exact ⟨b, off, rfl, hT b hS, fun i x hi => (World.cell?_of_block (a := ⟨b, off + i, none⟩) (e b hS)).trans (hc i x hi)⟩
theorem CompsAt.cong {cs : List Str} (h : CompsAt S w v cs) (hT : ∀ k, S k → T k) (e : ∀ k, S k → w'.heap[k]? = w.heap[k]?) : CompsAt T w' v cs := RowAt.cong h hT e
theorem ElemsAt.cong {es : List (List Str)} (h : ElemsAt S w v es) (hT : ∀ k, S k → T k) (e : ∀ k, S k → w'.heap[k]? = w.heap[k]?) : ElemsAt T w' v es := by
  obtain ⟨xs, h1, h2, h3⟩ := h
  exact ⟨xs, h1.cong hT e, h2, fun i a x ha hx => (h3 i a x ha hx).cong hT e⟩
theorem SegsAt.cong {l : List Seg} (h : SegsAt S w v l) (hT : ∀ k, S k → T k) (e : ∀ k, S k → w'.heap[k]? = w.heap[k]?) : SegsAt T w' v l := by
  obtain ⟨ao, cap, xs, rfl, h1, h2, h3, h4, h5, h6⟩ := h
  refine ⟨ao, cap, xs, rfl, h1, h2, h3, h4, fun i s x hs hx => (h5 i s x hs hx).cong hT e, fun h0 => ?_⟩
  obtain ⟨b, off, rfl, hS, hc⟩ := h6 h0
  refine ⟨b, off, rfl, hT b hS, fun i s x hs hx => ?_⟩
  obtain ⟨a1, a2⟩ := hc i s x hs hx
  exact ⟨(World.cell?_of_block (a := ⟨b, off + i * 2, none⟩) (e b hS)).trans a1, (World.cell?_of_block (a := ⟨b, off + i * 2 + 1, none⟩) (e b hS)).trans a2⟩
theorem RowAt.nil (S : Nat → Prop) (w : World) : RowAt S w (.slice none 0 0) [] := ⟨none, 0, rfl, Nat.le_refl _, Nat.zero_le _, fun _ => rfl, fun h => absurd rfl h⟩
theorem ElemsAt.nil (S : Nat → Prop) (w : World) : ElemsAt S w (.slice none 0 0) [] := ⟨[], RowAt.nil S w, rfl, fun i e x h => by simp at h⟩
theorem SegsAt.nil (S : Nat → Prop) (w : World) : SegsAt S w (.slice none 0 0) [] := ⟨none, 0, [], rfl, Nat.le_refl _, Nat.zero_le _, fun _ => rfl, rfl, (fun i s x h => by simp at h), fun h => absurd rfl h⟩
end
theorem own_cong {w w' : World} {B : Nat} {e : TypeId} {s n : Nat} {v : Value} {xs : List Value} (h : w.ownsRow B e s v n xs) (he : ∀ k, v.ownBlock = some k → w'.heap[k]? = w.heap[k]?) : w'.ownsRow B e s v n xs := by
  obtain ⟨h1, h2 | ⟨g, cap, cur, rfl, hg, hh, hr⟩⟩ := h
  · exact ⟨h1, .inl h2⟩
  · exact ⟨h1, .inr ⟨g, cap, cur, rfl, hg, (he g rfl).trans hh, hr⟩⟩
/-- the block of an owned row: its type -/
theorem own_ty {w : World} {B : Nat} {e : TypeId} {s n k : Nat} {v : Value} {xs : List Value} (h : w.ownsRow B e s v n xs) (hk : v.ownBlock = some k) : ∃ C, w.heap[k]? = some (.cells C e (0, 0)) ∧ B ≤ k ∧ k < w.heap.size := by
  obtain ⟨_, ⟨rfl, _⟩ | ⟨g, cap, cur, rfl, hg, hh, _⟩⟩ := h
  · simp [Value.ownBlock] at hk
  · cases hk; exact ⟨cur, hh, hg, (Array.getElem?_eq_some_iff.1 hh).1⟩
theorem own_form {w : World} {B : Nat} {e : TypeId} {s n : Nat} {v : Value} {xs : List Value} (h : w.ownsRow B e s v n xs) (hn : 0 < n) (_hs : 0 < s) : ∃ g cap cur, v = .slice (some ⟨g, 0, none⟩) n cap ∧ B ≤ g ∧ w.heap[g]? = some (.cells cur e (0, 0)) ∧ n ≤ cap ∧ cap ≤ maxLen ∧ cur.size = cap * s ∧ ∀ j, j < n * s → cur[j]? = xs[j]? := by
  obtain ⟨h1, ⟨rfl, h0⟩ | ⟨g, cap, cur, rfl, hg, hh, hc, hm, hs', hx⟩⟩ := h
  · omega
  · refine ⟨g, cap, cur, rfl, hg, hh, hc, hm, hs', fun j hj => ?_⟩
    rw [← hx, List.getElem?_take_of_lt hj]; simp
theorem own_cell {w : World} {B : Nat} {e : TypeId} {s n g cap : Nat} {xs : List Value} (h : w.ownsRow B e s (.slice (some ⟨g, 0, none⟩) n cap) n xs) {j : Nat} {x : Value} (hj : xs[j]? = some x) : w.cell? ⟨g, j, none⟩ = some x := by
  obtain ⟨h1, ⟨h2, _⟩ | ⟨g', cap', cur, h2, hg, hh, hc, hm, hs', hx⟩⟩ := h
  · cases h2
  · cases h2
    have hlt : j < n * s := by rw [← h1]; exact (List.getElem?_eq_some_iff.1 hj).1
    rw [cell_of_row w g j _ _ _ hh]
    rw [← hx, List.getElem?_take_of_lt hlt] at hj
    simpa using hj
theorem own_frozen {w : World} {B : Nat} {e : TypeId} {s n g cap : Nat} {xs : List Value} (h : w.ownsRow B e s (.slice (some ⟨g, 0, none⟩) n cap) n xs) (j : Nat) : w.frozen? ⟨g, j, none⟩ = false := by
  obtain ⟨h1, ⟨h2, _⟩ | ⟨g', cap', cur, h2, hg, hh, hr⟩⟩ := h
  · cases h2
  · cases h2; exact frozen_of_row w g j _ _ hh
/-- a store into an owned row -/
theorem own_set {w : World} {B : Nat} {e : TypeId} {s n g cap : Nat} {xs : List Value} (h : w.ownsRow B e s (.slice (some ⟨g, 0, none⟩) n cap) n xs) {j : Nat} (_hj : j < xs.length) (x : Value) : (w.setCell ⟨g, j, none⟩ x).ownsRow B e s (.slice (some ⟨g, 0, none⟩) n cap) n (xs.set j x) := by
  obtain ⟨h1, ⟨h2, _⟩ | ⟨g', cap', cur, h2, hg, hh, hc, hm, hs', hx⟩⟩ := h
  · cases h2
  · cases h2
    refine ⟨by rw [List.length_set]; exact h1, .inr ⟨g, cap, cur.setIfInBounds j x, rfl, hg, heap_setCell_same w g j _ _ _ hh, hc, hm, by simpa using hs', ?_⟩⟩
    rw [Array.toList_setIfInBounds, ← hx, List.take_set]
/-- an owned row at rest -/
theorem own_rest {w : World} {B : Nat} {e : TypeId} {v : Value} {xs : List Value} (h : w.ownsRow B e 1 v xs.length xs) {S : Nat → Prop} (hS : ∀ k, v.ownBlock = some k → S k) : RowAt S w v xs := by
  have h' := h
  obtain ⟨_, ⟨rfl, h0⟩ | ⟨g, cap, cur, rfl, hg, hh, hc, hm, hs', hx⟩⟩ := h
  · exact ⟨none, 0, by rw [h0], by omega, Nat.zero_le _, fun _ => rfl, fun hne => absurd (List.length_eq_zero_iff.1 h0) hne⟩
  · exact ⟨some ⟨g, 0, none⟩, cap, rfl, hc, hm, (fun e => by cases e), fun _ => ⟨g, 0, rfl, hS g rfl, fun i x hi => by rw [Nat.zero_add]; exact own_cell h' hi⟩⟩
/-- an owned row of bytes -/
def OwnS (w : World) (B : Nat) (v : Value) (l : Str) : Prop := w.ownsRow B 5 1 v l.length (l.map bv)
def segCells : List Seg → List Value → List Value
  | s :: l, x :: xs => sv s.tag :: x :: segCells l xs
  | _, _ => []
theorem segCells_len : ∀ (l : List Seg) (xs : List Value), xs.length = l.length → (segCells l xs).length = l.length * 2
  | [], xs, h => by cases xs <;> simp [segCells]
  | s :: l, [], h => by simp at h
  | s :: l, x :: xs, h => by simp only [segCells, List.length_cons]; rw [segCells_len l xs (by simpa using h)]; omega
theorem segCells_app : ∀ (l m : List Seg) (xs ys : List Value), xs.length = l.length → segCells (l ++ m) (xs ++ ys) = segCells l xs ++ segCells m ys
  | [], m, xs, ys, h => by cases xs <;> simp [segCells] at h ⊢
  | s :: l, m, [], ys, h => by simp at h
  | s :: l, m, x :: xs, ys, h => by simp only [List.cons_append, segCells]; rw [segCells_app l m xs ys (by simpa using h)]
theorem segCells_get : ∀ (l : List Seg) (xs : List Value) (i : Nat) (s : Seg) (x : Value), l[i]? = some s → xs[i]? = some x → (segCells l xs)[i * 2]? = some (sv s.tag) ∧ (segCells l xs)[i * 2 + 1]? = some x
  | [], xs, i, s, x, h, _ => by simp at h
  | _ :: _, [], i, s, x, _, h => by simp at h
  | a :: l, y :: xs, 0, s, x, h1, h2 => by simp at h1 h2; subst h1; subst h2; exact ⟨rfl, rfl⟩
  | a :: l, y :: xs, i + 1, s, x, h1, h2 => by
    have h := segCells_get l xs i s x (by simpa using h1) (by simpa using h2)
    rw [show (i + 1) * 2 = i * 2 + 1 + 1 by omega]
    exact h
/-- an owned row of segments at rest -/
theorem segs_rest {w : World} {B : Nat} {v : Value} {l : List Seg} {xs : List Value} {S : Nat → Prop} (h : w.ownsRow B 36 2 v l.length (segCells l xs)) (hx : xs.length = l.length) (hS : ∀ k, v.ownBlock = some k → S k) (he : ∀ (i : Nat) (s : Seg) (x : Value), l[i]? = some s → xs[i]? = some x → ElemsAt S w x s.elems) : SegsAt S w v l := by
  have h' := h
  obtain ⟨_, ⟨rfl, h0⟩ | ⟨g, cap, cur, rfl, hg, hh, hc, hm, hs', _⟩⟩ := h
  · exact ⟨none, 0, xs, by rw [h0], by omega, Nat.zero_le _, fun _ => rfl, hx, he, fun hne => absurd (List.length_eq_zero_iff.1 h0) hne⟩
  · refine ⟨some ⟨g, 0, none⟩, cap, xs, rfl, hc, hm, (fun e => by cases e), hx, he, fun _ => ⟨g, 0, rfl, hS g rfl, fun i s x hs hxi => ?_⟩⟩
    obtain ⟨a1, a2⟩ := segCells_get l xs i s x hs hxi
    rw [Nat.zero_add]
    exact ⟨own_cell h' a1, own_cell h' a2⟩
/-! ### what lies in blocks of its own kind -/
def CompsO (S : Nat → Prop) (B : Nat) (w : World) (v : Value) (cs : List Str) : Prop := w.ownsRow B 9 1 v cs.length (cs.map sv) ∧ ∀ k, v.ownBlock = some k → S k
def ElemsO (S : Nat → Prop) (B : Nat) (w : World) (v : Value) (es : List (List Str)) : Prop :=
  ∃ ys : List Value, w.ownsRow B 53 1 v es.length ys ∧ (∀ k, v.ownBlock = some k → S k) ∧ ys.length = es.length ∧ ∀ (i : Nat) (e : List Str) (y : Value), es[i]? = some e → ys[i]? = some y → CompsO S B w y e
def SegsO (S : Nat → Prop) (B : Nat) (w : World) (v : Value) (l : List Seg) : Prop :=
  ∃ xs : List Value, w.ownsRow B 36 2 v l.length (segCells l xs) ∧ (∀ k, v.ownBlock = some k → S k) ∧ xs.length = l.length ∧ ∀ (i : Nat) (s : Seg) (x : Value), l[i]? = some s → xs[i]? = some x → ElemsO S B w x s.elems
section
variable {S T : Nat → Prop} {w w' : World} {B : Nat} {v : Value}
theorem CompsO.cong {cs : List Str} (h : CompsO S B w v cs) (hT : ∀ k, S k → T k) (e : ∀ k, S k → w'.heap[k]? = w.heap[k]?) : CompsO T B w' v cs :=
  ⟨own_cong h.1 (fun k hk => e k (h.2 k hk)), fun k hk => hT k (h.2 k hk)⟩
theorem ElemsO.cong {es : List (List Str)} (h : ElemsO S B w v es) (hT : ∀ k, S k → T k) (e : ∀ k, S k → w'.heap[k]? = w.heap[k]?) : ElemsO T B w' v es := by
  obtain ⟨ys, h1, h2, h3, h4⟩ := h
  exact ⟨ys, own_cong h1 (fun k hk => e k (h2 k hk)), fun k hk => hT k (h2 k hk), h3, fun i a x ha hx => (h4 i a x ha hx).cong hT e⟩
theorem ElemsO.nil (S : Nat → Prop) (B : Nat) (w : World) : ElemsO S B w (.slice none 0 0) [] := ⟨[], World.ownsRow_nil _ _ _ _, (fun _ hk => by simp [Value.ownBlock] at hk), rfl, fun i e x h => by simp at h⟩
theorem SegsO.nil (S : Nat → Prop) (B : Nat) (w : World) : SegsO S B w (.slice none 0 0) [] := ⟨[], World.ownsRow_nil _ _ _ _, (fun _ hk => by simp [Value.ownBlock] at hk), rfl, fun i e x h => by simp at h⟩
theorem CompsO.lies {cs : List Str} (h : CompsO S B w v cs) : CompsAt S w v cs := own_rest (by rw [List.length_map]; exact h.1) h.2
theorem ElemsO.lies {es : List (List Str)} (h : ElemsO S B w v es) : ElemsAt S w v es := by
  obtain ⟨ys, h1, h2, h3, h4⟩ := h
  exact ⟨ys, own_rest (by rw [h3]; exact h1) h2, h3, fun i e x ha hx => (h4 i e x ha hx).lies⟩
theorem SegsO.lies {l : List Seg} (h : SegsO S B w v l) : SegsAt S w v l := by
  obtain ⟨xs, h1, h2, h3, h4⟩ := h
  exact segs_rest h1 h3 h2 (fun i s x ha hx => (h4 i s x ha hx).lies)
end
end Go.Proofs.YteaaiejfieaalaaGreatDoor

/-
  EdiR: a reader of segments in memory: what each step of it leaves. No condition beyond those stated.
-/
namespace Go.Proofs.YteaaiejfieaalaaGreatDoor
open Go.RowKit
theorem ty_ne {w : World} {b c : Nat} {C D : Array Value} {t u : TypeId} {f g : Nat × Nat} (h1 : w.heap[b]? = some (.cells C t f)) (h2 : w.heap[c]? = some (.cells D u g)) (h : t ≠ u) : b ≠ c := by
  intro e; subst e; rw [h1] at h2; have h3 := Option.some.inj h2; injection h3 with _ h4; exact h h4
theorem own_ne {w : World} {B B' : Nat} {e e' : TypeId} {s s' n n' : Nat} {v v' : Value} {xs xs' : List Value} (h : w.ownsRow B e s v n xs) (h' : w.ownsRow B' e' s' v' n' xs') (he : e ≠ e') {k : Nat} (hk : v.ownBlock = some k) : v'.ownBlock ≠ some k := fun hk' => by
  obtain ⟨C, h1, _⟩ := own_ty h hk
  obtain ⟨D, h2, _⟩ := own_ty h' hk'
  exact ty_ne h1 h2 he rfl
theorem own_lt {w : World} {B : Nat} {e : TypeId} {s n : Nat} {v : Value} {xs : List Value} (h : w.ownsRow B e s v n xs) {k : Nat} (hk : v.ownBlock = some k) : B ≤ k ∧ k < w.heap.size := by
  obtain ⟨_, _, a, b⟩ := own_ty h hk; exact ⟨a, b⟩
/-- the reader between segments, or within a tag -/
structure RA (S : Nat → Prop) (w : World) (B rb : Nat) (l : List Seg) (lv pv : Value) (xs : List Value) (p : Str) : Prop where
  hB : B ≤ rb
  r : w.heap[rb]? = some (.cells #[lv, pv] 65 (0, 0))
  hp : OwnS w B pv p
  hl : w.ownsRow B 36 2 lv l.length (segCells l xs)
  xl : xs.length = l.length
  hes : ∀ (i : Nat) (s : Seg) (x : Value), l[i]? = some s → xs[i]? = some x → ElemsO S B w x s.elems
  s1 : ∀ k, S k → B ≤ k ∧ k < w.heap.size ∧ k ≠ rb ∧ lv.ownBlock ≠ some k ∧ pv.ownBlock ≠ some k
/-- the reader within a component -/
structure RB (S : Nat → Prop) (w : World) (B rb : Nat) (l : List Seg) (t : Str) (es : List (List Str)) (cs : List Str) (p q : Str) (lv pv ev cv : Value) (xs ys : List Value) : Prop where
  hB : B ≤ rb
  r : w.heap[rb]? = some (.cells #[lv, pv] 65 (0, 0))
  hp : OwnS w B pv q
  hl : w.ownsRow B 36 2 lv (l.length + 1) (segCells l xs ++ [sv t, ev])
  xl : xs.length = l.length
  old : ∀ (i : Nat) (s : Seg) (x : Value), l[i]? = some s → xs[i]? = some x → ElemsO S B w x s.elems
  he : w.ownsRow B 53 1 ev (es.length + 1) (ys ++ [cv])
  yl : ys.length = es.length
  ye : ∀ (i : Nat) (e : List Str) (y : Value), es[i]? = some e → ys[i]? = some y → CompsO S B w y e
  hc : w.ownsRow B 9 1 cv (cs.length + 1) ((cs ++ [p]).map sv)
  s1 : ∀ k, S k → B ≤ k ∧ k < w.heap.size ∧ k ≠ rb ∧ lv.ownBlock ≠ some k ∧ pv.ownBlock ≠ some k ∧ ev.ownBlock ≠ some k ∧ cv.ownBlock ≠ some k
section
variable {S : Nat → Prop} {w w' : World} {B rb : Nat} {l : List Seg} {t : Str} {es : List (List Str)} {cs : List Str} {p q : Str} {lv pv ev cv : Value} {xs ys : List Value}
theorem RA.lt (h : RA S w B rb l lv pv xs p) : rb < w.heap.size := (Array.getElem?_eq_some_iff.1 h.r).1
theorem RB.lt (h : RB S w B rb l t es cs p q lv pv ev cv xs ys) : rb < w.heap.size := (Array.getElem?_eq_some_iff.1 h.r).1
theorem RA.c0 (h : RA S w B rb l lv pv xs p) : w.cell? ⟨rb, 0, none⟩ = some lv := by rw [cell_of_row w rb 0 _ _ _ h.r]; rfl
theorem RA.c1 (h : RA S w B rb l lv pv xs p) : w.cell? ⟨rb, 1, none⟩ = some pv := by rw [cell_of_row w rb 1 _ _ _ h.r]; rfl
theorem RA.fz (h : RA S w B rb l lv pv xs p) (j : Nat) : w.frozen? ⟨rb, j, none⟩ = false := frozen_of_row w rb j _ _ h.r
theorem RB.c0 (h : RB S w B rb l t es cs p q lv pv ev cv xs ys) : w.cell? ⟨rb, 0, none⟩ = some lv := by rw [cell_of_row w rb 0 _ _ _ h.r]; rfl
theorem RB.c1 (h : RB S w B rb l t es cs p q lv pv ev cv xs ys) : w.cell? ⟨rb, 1, none⟩ = some pv := by rw [cell_of_row w rb 1 _ _ _ h.r]; rfl
theorem RB.fz (h : RB S w B rb l t es cs p q lv pv ev cv xs ys) (j : Nat) : w.frozen? ⟨rb, j, none⟩ = false := frozen_of_row w rb j _ _ h.r
theorem own_neR {rb : Nat} {C : Array Value} {f : Nat × Nat} {e : TypeId} {s n : Nat} {v : Value} {zs : List Value} (hr : w.heap[rb]? = some (.cells C 65 f)) (h : w.ownsRow B e s v n zs) (he : e ≠ 65) : v.ownBlock ≠ some rb := fun hk => by
  obtain ⟨D, h1, _⟩ := own_ty h hk
  exact ty_ne h1 hr he rfl
/-- nothing of it has turned -/
theorem RA.keep (h : RA S w B rb l lv pv xs p) (hs : w.heap.size ≤ w'.heap.size) (e : ∀ k, k < w.heap.size → B ≤ k → w'.heap[k]? = w.heap[k]?) : RA S w' B rb l lv pv xs p := by
  refine ⟨h.hB, (e rb h.lt h.hB).trans h.r, own_cong h.hp (fun k hk => e k (own_lt h.hp hk).2 (own_lt h.hp hk).1), own_cong h.hl (fun k hk => e k (own_lt h.hl hk).2 (own_lt h.hl hk).1), h.xl, fun i s x a b => (h.hes i s x a b).cong (fun _ hk => hk) (fun k hk => e k (h.s1 k hk).2.1 (h.s1 k hk).1), fun k hk => ?_⟩
  obtain ⟨a, b, c⟩ := h.s1 k hk
  exact ⟨a, by omega, c⟩
theorem RB.keep (h : RB S w B rb l t es cs p q lv pv ev cv xs ys) (hs : w.heap.size ≤ w'.heap.size) (e : ∀ k, k < w.heap.size → B ≤ k → w'.heap[k]? = w.heap[k]?) : RB S w' B rb l t es cs p q lv pv ev cv xs ys := by
  refine ⟨h.hB, (e rb h.lt h.hB).trans h.r, own_cong h.hp (fun k hk => e k (own_lt h.hp hk).2 (own_lt h.hp hk).1), own_cong h.hl (fun k hk => e k (own_lt h.hl hk).2 (own_lt h.hl hk).1), h.xl, fun i s x a b => (h.old i s x a b).cong (fun _ hk => hk) (fun k hk => e k (h.s1 k hk).2.1 (h.s1 k hk).1),
    own_cong h.he (fun k hk => e k (own_lt h.he hk).2 (own_lt h.he hk).1), h.yl, fun i s x a b => (h.ye i s x a b).cong (fun _ hk => hk) (fun k hk => e k (h.s1 k hk).2.1 (h.s1 k hk).1), own_cong h.hc (fun k hk => e k (own_lt h.hc hk).2 (own_lt h.hc hk).1), fun k hk => ?_⟩
  obtain ⟨a, b, c⟩ := h.s1 k hk
  exact ⟨a, by omega, c⟩
theorem RA.fr0 (h : RA S w B rb l lv pv xs p) (hf : Fr [] w w') : RA S w' B rb l lv pv xs p := h.keep hf.size (fun k hk _ => hf.block k hk (by simp))
theorem RB.fr0 (h : RB S w B rb l t es cs p q lv pv ev cv xs ys) (hf : Fr [] w w') : RB S w' B rb l t es cs p q lv pv ev cv xs ys := h.keep hf.size (fun k hk _ => hf.block k hk (by simp))
/-- part is emptied -/
theorem RA.part (h : RA S w B rb l lv pv xs p) : RA S (w.setCell ⟨rb, 1, none⟩ (.slice none 0 0)) B rb l lv (.slice none 0 0) xs [] := by
  have e : ∀ k, k ≠ rb → (w.setCell ⟨rb, 1, none⟩ (.slice none 0 0)).heap[k]? = w.heap[k]? := fun k hk => heap_setCell_other w _ _ _ hk
  refine ⟨h.hB, by rw [heap_setCell_same w rb 1 _ _ _ h.r]; rfl, World.ownsRow_nil _ _ _ _, own_cong h.hl (fun k hk => e k (fun e => own_neR h.r h.hl (by decide) (e ▸ hk))), h.xl, fun i s x a b => (h.hes i s x a b).cong (fun _ hk => hk) (fun k hk => e k (h.s1 k hk).2.2.1), fun k hk => ?_⟩
  obtain ⟨a, b, c, d, _⟩ := h.s1 k hk
  exact ⟨a, by simpa using b, c, d, by simp [Value.ownBlock]⟩
theorem RB.part (h : RB S w B rb l t es cs p q lv pv ev cv xs ys) : RB S (w.setCell ⟨rb, 1, none⟩ (.slice none 0 0)) B rb l t es cs p [] lv (.slice none 0 0) ev cv xs ys := by
  have e : ∀ k, k ≠ rb → (w.setCell ⟨rb, 1, none⟩ (.slice none 0 0)).heap[k]? = w.heap[k]? := fun k hk => heap_setCell_other w _ _ _ hk
  refine ⟨h.hB, by rw [heap_setCell_same w rb 1 _ _ _ h.r]; rfl, World.ownsRow_nil _ _ _ _, own_cong h.hl (fun k hk => e k (fun e => own_neR h.r h.hl (by decide) (e ▸ hk))), h.xl, fun i s x a b => (h.old i s x a b).cong (fun _ hk => hk) (fun k hk => e k (h.s1 k hk).2.2.1),
    own_cong h.he (fun k hk => e k (fun e => own_neR h.r h.he (by decide) (e ▸ hk))), h.yl, fun i s x a b => (h.ye i s x a b).cong (fun _ hk => hk) (fun k hk => e k (h.s1 k hk).2.2.1), own_cong h.hc (fun k hk => e k (fun e => own_neR h.r h.hc (by decide) (e ▸ hk))), fun k hk => ?_⟩
  obtain ⟨a, b, c, d, _, f⟩ := h.s1 k hk
  exact ⟨a, by simpa using b, c, d, by simp [Value.ownBlock], f⟩
/-- a segment more -/
theorem RA.newseg {w1 : World} {o : Obj} {lv' : Value} (h : RA S w B rb l lv pv xs p) (hg : (w.alloc o).grownBy w1 lv.ownBlock) (hl : w1.ownsRow B 36 2 lv' (l.length + 1) (segCells l xs ++ [sv [], .slice none 0 0])) (hk : lv'.ownBlock = lv.ownBlock ∨ lv'.ownBlock = some (w.alloc o).heap.size) :
    RA S (w1.setCell ⟨rb, 0, none⟩ lv') B rb (l ++ [⟨[], []⟩]) lv' pv (xs ++ [.slice none 0 0]) p := by
  have hsz := hg.size
  have hrb := h.lt
  have e1 : ∀ k, k < w.heap.size → lv.ownBlock ≠ some k → w1.heap[k]? = w.heap[k]? := fun k hk hn => (hg.block k (by simp; omega) (fun e => hn e.symm)).trans (Below.heap_alloc _ _ _ hk)
  have e : ∀ k, k < w.heap.size → lv.ownBlock ≠ some k → k ≠ rb → (w1.setCell ⟨rb, 0, none⟩ lv').heap[k]? = w.heap[k]? := fun k hk hn hr => (heap_setCell_other w1 _ _ _ hr).trans (e1 k hk hn)
  have nlr := own_neR h.r h.hl (by decide)
  have npr := own_neR h.r h.hp (by decide)
  simp at hsz hk
  refine ⟨h.hB, by rw [heap_setCell_same w1 rb 0 _ _ _ ((e1 rb hrb nlr).trans h.r)]; rfl, own_cong h.hp (fun k hk => e k (own_lt h.hp hk).2 (own_ne h.hp h.hl (by decide) hk) (fun e => npr (e ▸ hk))), ?_, by simp [h.xl], fun i s x a b => ?_, fun k hS => ?_⟩
  · rw [List.length_append, List.length_singleton, segCells_app _ _ _ _ h.xl]
    refine own_cong hl (fun k hk' => heap_setCell_other w1 _ _ _ (fun e => ?_))
    subst e
    rcases hk with hk | hk
    · exact nlr (hk ▸ hk')
    · rw [hk] at hk'; have := Option.some.inj hk'; omega
  · rcases Nat.lt_or_ge i l.length with hi | hi
    · rw [List.getElem?_append_left hi] at a
      rw [List.getElem?_append_left (by rw [h.xl]; exact hi)] at b
      exact (h.hes i s x a b).cong (fun _ hk => hk) (fun k hk => e k (h.s1 k hk).2.1 (h.s1 k hk).2.2.2.1 (h.s1 k hk).2.2.1)
    · rw [List.getElem?_append_right hi] at a
      rw [List.getElem?_append_right (by rw [h.xl]; exact hi), h.xl] at b
      have h0 : i - l.length = 0 := by have := (List.getElem?_eq_some_iff.1 a).1; simp at this; omega
      rw [h0] at a b
      simp at a b
      subst a; subst b
      exact ElemsO.nil _ _ _
  · obtain ⟨a, b, c, d, f⟩ := h.s1 k hS
    refine ⟨a, by simp; omega, c, fun e => ?_, f⟩
    rcases hk with hk | hk
    · exact d (hk ▸ e)
    · rw [hk] at e; have := Option.some.inj e; omega
theorem RA.fr_newseg {w1 : World} {o : Obj} {lv' : Value} (h : RA S w B rb l lv pv xs p) (hg : (w.alloc o).grownBy w1 lv.ownBlock) (hB : B ≤ w.heap.size) : Below B w (w1.setCell ⟨rb, 0, none⟩ lv') := by
  have hh := h.hB
  exact ((((Below.refl B w).alloc hB o).grown hg (by simp; omega) (fun k hk => (own_lt h.hl hk).1))).setCell hh lv'
end
end Go.Proofs.YteaaiejfieaalaaGreatDoor
