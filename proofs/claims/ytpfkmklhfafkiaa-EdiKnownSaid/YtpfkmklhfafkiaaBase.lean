/-
  Base: small plain words and lemmas (bytes as cells, frames of worlds, maps from int to an array) that the disk's proofs use. No condition.
-/
import Derived.WalkKit
import Derived.WalkSpells
import Derived.WalkLawsBesides
import Derived.Deep.MidRow
import Derived.Deep.WholeRow
import Derived.Laws.CopyOwn
import Derived.RangeFuncRecord
import Derived.Lib.Hide
namespace Go.Proofs.Ytpfkmklhfafkiaa
open Go.RowKit

abbrev Sec := Nat → UInt8
/-- a byte as a cell -/
def bv (b : UInt8) : Value := .int .u8 (b.toNat : Int)
/-- n cells -/
def rowL (n : Nat) (f : Sec) : List Value := (List.range n).map fun j => bv (f j)
def rowA (n : Nat) (f : Sec) : Array Value := (rowL n f).toArray
theorem rowL_length (n : Nat) (f : Sec) : (rowL n f).length = n := by simp [rowL]
theorem rowA_size (n : Nat) (f : Sec) : (rowA n f).size = n := by simp [rowA, rowL]
theorem rowL_get {n : Nat} (f : Sec) {j : Nat} (h : j < n) : (rowL n f)[j]? = some (bv (f j)) := by simp [rowL, h]
theorem rowA_get {n : Nat} (f : Sec) {j : Nat} (h : j < n) : (rowA n f)[j]? = some (bv (f j)) := by simp [rowA, rowL, h]
theorem rowL_congr {n : Nat} {f g : Sec} (h : ∀ j, j < n → f j = g j) : rowL n f = rowL n g := by
  unfold rowL; apply List.map_congr_left; intro j hj; rw [h j (by simpa using hj)]
theorem rowA_congr {n : Nat} {f g : Sec} (h : ∀ j, j < n → f j = g j) : rowA n f = rowA n g := by
  unfold rowA; rw [rowL_congr h]
theorem bv_inj {a b : UInt8} (h : bv a = bv b) : a = b := by
  simp [bv] at h; exact UInt8.toNat_inj.1 (by omega)
theorem bv_one (b : UInt8) : (bv b).oneCell' = true := rfl
theorem rowL_one {n : Nat} {f : Sec} : ∀ v ∈ rowL n f, v.oneCell' = true := by
  intro v hv; simp [rowL] at hv; obtain ⟨j, _, rfl⟩ := hv; rfl
theorem rowA_all {n : Nat} {f : Sec} : (rowA n f).all (·.oneCell') = true := all_oneCell_toArray rowL_one
theorem rowL_append (a b : Nat) (f g : Sec) : rowL a f ++ rowL b g = rowL (a + b) (fun j => if j < a then f j else g (j - a)) := by
  apply List.ext_getElem?
  intro i
  by_cases h : i < a
  · rw [List.getElem?_append_left (by simp [rowL_length]; exact h), rowL_get f h, rowL_get _ (by omega)]; simp [h]
  · by_cases h2 : i < a + b
    · rw [List.getElem?_append_right (by simp [rowL_length]; omega), rowL_length, rowL_get g (by omega), rowL_get _ h2]; simp [h]
    · rw [List.getElem?_eq_none (by simp [rowL_length]; omega), List.getElem?_eq_none (by simp [rowL_length]; omega)]

theorem rowL_snoc (k : Nat) (f g : Sec) (h : ∀ j, j < 64 → g j = f (64 * k + j)) : rowL (64 * k) f ++ rowL 64 g = rowL (64 * (k + 1)) f := by
  rw [rowL_append, show 64 * (k + 1) = 64 * k + 64 by omega]
  apply rowL_congr; intro j hj
  by_cases h1 : j < 64 * k
  · simp [h1]
  · simp only [h1, if_false]; rw [h _ (by omega)]; congr 1; omega
/-! ### Frames -/
/-- w' is w but for the blocks F and new ones. -/
structure Fr (F : List Nat) (w w' : World) : Prop where
  os : w'.os = w.os
  tape : w'.tape = w.tape
  output : w'.output = w.output
  size : w.heap.size ≤ w'.heap.size
  block : ∀ k, k < w.heap.size → k ∉ F → w'.heap[k]? = w.heap[k]?
theorem Fr.refl (F : List Nat) (w : World) : Fr F w w := ⟨rfl, rfl, rfl, Nat.le_refl _, fun _ _ _ => rfl⟩
theorem Fr.trans {F : List Nat} {a b c : World} (h : Fr F a b) (k : Fr F b c) : Fr F a c :=
  ⟨k.os.trans h.os, k.tape.trans h.tape, k.output.trans h.output, Nat.le_trans h.size k.size, fun i hi hn => (k.block i (Nat.lt_of_lt_of_le hi h.size) hn).trans (h.block i hi hn)⟩
theorem Fr.mono {F G : List Nat} {a b : World} (h : Fr F a b) (hs : ∀ k ∈ F, k ∈ G ∨ a.heap.size ≤ k) : Fr G a b :=
  ⟨h.os, h.tape, h.output, h.size, fun i hi hn => h.block i hi (fun hm => by rcases hs i hm with h1 | h1; exact hn h1; omega)⟩
theorem Fr.drew (F : List Nat) (w : World) : Fr F w w.drew := ⟨rfl, rfl, rfl, Nat.le_refl _, fun _ _ _ => rfl⟩
theorem Fr.drewN (F : List Nat) (w : World) (n : Nat) : Fr F w (w.drewN n) := ⟨rfl, rfl, rfl, Nat.le_refl _, fun _ _ _ => rfl⟩
theorem Fr.alloc (F : List Nat) (w : World) (o : Obj) : Fr F w (w.alloc o) :=
  ⟨rfl, rfl, rfl, by simp, fun k hk _ => Below.heap_alloc _ _ _ hk⟩
theorem Fr.setRow {F : List Nat} (w : World) {g : Nat} (hg : g ∈ F) (cs : Array Value) : Fr F w (w.setRow g cs) :=
  ⟨rfl, rfl, rfl, by simp, fun k _ hn => setRow_other w g k cs (fun e => hn (e ▸ hg))⟩
theorem Fr.setCell {F : List Nat} (w : World) {a : Addr} (hg : a.block ∈ F) (v : Value) : Fr F w (w.setCell a v) :=
  ⟨rfl, rfl, rfl, by simp, fun k _ hn => Below.heap_setCell _ _ _ _ (fun e => hn (e ▸ hg))⟩
theorem Fr.putObj {F : List Nat} (w : World) {g : Nat} (hg : g ∈ F) (o : Obj) : Fr F w (w.putObj g o) :=
  ⟨rfl, rfl, rfl, by simp [World.putObj], fun k _ hn => by simp only [World.putObj]; rw [Array.getElem?_setIfInBounds]; split; exact absurd (by simp_all) hn; rfl⟩
theorem Fr.below {w w' : World} (h : Fr [] w w') : Below w.heap.size w w' := ⟨h.os, h.tape, h.output, h.size, fun k hk => h.block k hk (by simp)⟩
theorem Fr.belowB {B : Nat} {F : List Nat} {w w' : World} (h : Fr F w w') (hB : B ≤ w.heap.size) (hF : ∀ k ∈ F, B ≤ k) : Below B w w' :=
  ⟨h.os, h.tape, h.output, h.size, fun k hk => h.block k (by omega) (fun hm => by have := hF k hm; omega)⟩
theorem Below.fr {w w' : World} {B : Nat} (h : Below B w w') (hB : w.heap.size ≤ B) (F : List Nat) : Fr F w w' := ⟨h.os, h.tape, h.output, h.size, fun k hk _ => h.block k (by omega)⟩
theorem grownBy.fr {w w' : World} {row : Option Nat} (h : w.grownBy w' row) (F : List Nat) (hr : ∀ k, row = some k → k ∈ F ∨ w.heap.size ≤ k) : Fr F w w' :=
  ⟨h.os, h.tape, h.output, h.size, fun k hk hn => h.block k hk (fun e => by rcases hr k e.symm with h1 | h1; exact hn h1; omega)⟩
theorem putObj_same {w : World} {g : Nat} (h : g < w.heap.size) (o : Obj) : (w.putObj g o).heap[g]? = some o := by
  simp [World.putObj, h]
theorem putObj_other {w : World} {g k : Nat} (h : k ≠ g) (o : Obj) : (w.putObj g o).heap[k]? = w.heap[k]? := by
  simp only [World.putObj]; rw [Array.getElem?_setIfInBounds_ne (Ne.symm h)]
theorem Fr.putNew {F : List Nat} {w W : World} (h : Fr F w W) {E : Nat} (hE : w.heap.size ≤ E) (o : Obj) : Fr F w (W.putObj E o) :=
  ⟨h.os, h.tape, h.output, by rw [show (W.putObj E o).heap.size = W.heap.size by simp [World.putObj]]; exact h.size, fun k hk hn => (putObj_other (by omega) o).trans (h.block k hk hn)⟩
theorem putObj_size (w : World) (g : Nat) (o : Obj) : (w.putObj g o).heap.size = w.heap.size := by simp [World.putObj]

/-! ### A map from int to an array of 64 bytes -/
abbrev Ent := Nat × Sec × Nat
def encE (e : Ent) : MapEntry := ⟨.int .i64 (e.1 : Int), .agg (rowA 64 e.2.1), e.2.2⟩
def findE : List Ent → Nat → Option Sec
  | [], _ => none
  | e :: l, i => if e.1 = i then some e.2.1 else findE l i
def posE : List Ent → Nat → Nat
  | [], _ => 0
  | e :: l, i => if e.1 = i then 0 else posE l i + 1
def updM (M : Nat → Option Sec) (i : Nat) (s : Sec) : Nat → Option Sec := fun j => if j = i then some s else M j
def cntM (M : Nat → Option Sec) : Nat → Nat
  | 0 => 0
  | n + 1 => cntM M n + if (M n).isSome then 1 else 0
theorem cntM_upd_ge (M : Nat → Option Sec) (i : Nat) (s : Sec) : ∀ n, n ≤ i → cntM (updM M i s) n = cntM M n
  | 0, _ => rfl
  | n + 1, h => by simp only [cntM]; rw [cntM_upd_ge M i s n (by omega)]; simp [updM, show n ≠ i by omega]
theorem cntM_upd (M : Nat → Option Sec) (i : Nat) (s : Sec) : ∀ n, i < n → cntM (updM M i s) n = if (M i).isSome then cntM M n else cntM M n + 1
  | 0, h => by omega
  | n + 1, h => by
    simp only [cntM]
    by_cases e : i = n
    · subst e; rw [cntM_upd_ge M i s i (Nat.le_refl _)]; simp [updM]; split <;> simp_all
    · rw [cntM_upd M i s n (by omega)]; simp only [updM, show n ≠ i by omega, if_false]; split <;> omega
theorem cntM_none : ∀ n, cntM (fun _ => none) n = 0
  | 0 => rfl
  | n + 1 => by simp [cntM, cntM_none n]
theorem cntM_congr {M N : Nat → Option Sec} : ∀ n, (∀ j, j < n → (M j).isSome = (N j).isSome) → cntM M n = cntM N n
  | 0, _ => rfl
  | n + 1, h => by simp only [cntM]; rw [cntM_congr n (fun j hj => h j (by omega)), h n (by omega)]
theorem cntM_le (M : Nat → Option Sec) : ∀ n, cntM M n ≤ n
  | 0 => Nat.le_refl _
  | n + 1 => by have := cntM_le M n; simp only [cntM]; split <;> omega

/-- block mb is a map that reads as M, its keys below n -/
def MapRep (w : World) (mb n : Nat) (M : Nat → Option Sec) : Prop :=
  ∃ (l : List Ent) (clock : Nat), w.heap[mb]? = some (.map (l.map encE).toArray clock) ∧ (∀ i, findE l i = M i) ∧ l.length = cntM M n ∧ ∀ i, n ≤ i → M i = none

theorem findNow_enc (i : Nat) : ∀ (l : List Ent) (k : Nat), Instr.findNow (.int .i64) (.int .i64 (i : Int)) (l.map encE) k =
    some ((findE l i).map fun s => (k + posE l i, Value.agg (rowA 64 s)))
  | [], k => rfl
  | e :: l, k => by
    simp only [List.map_cons, Instr.findNow, encE, Instr.sameNow, if_true]
    by_cases h : e.1 = i
    · have hb : ((i : Int) == (e.1 : Int)) = true := by simp [h]
      simp [h, findE, posE]
    · have hb : ((i : Int) == (e.1 : Int)) = false := by simp; omega
      simp only [hb, findE, posE, h, if_false]
      have ih := findNow_enc i l (k + 1)
      rw [ih]
      simp [Nat.add_assoc, Nat.add_comm 1]

section
variable {P : Program} {w : World} {mt kt et mb n : Nat} {M : Nat → Option Sec}

theorem run_findKey_waits (hk : P.underlying kt = some (.int .i64)) (l : List Ent) (i : Nat) :
    (Instr.findKey kt (.int .i64 (i : Int)) (l.map encE)).run P w = .ok ((findE l i).map fun s => (posE l i, Value.agg (rowA 64 s))) w := by
  unfold Instr.findKey
  rw [Sem.run_bind, run_underlying hk w, Result.andThen_ok, findNow_enc]
  simp

theorem run_checkKey_int (hk : P.underlying kt = some (.int .i64)) (b : Bool) (v : Int) :
    (Instr.checkKey b 10000 kt (.int .i64 v)).run P w = .ok () w := by
  show (Instr.checkKey b (9999 + 1) kt (.int .i64 v)).run P w = .ok () w
  unfold Instr.checkKey
  rw [Sem.run_bind, run_underlying hk w, Result.andThen_ok]
  rfl

theorem run_lookup_waits (hu : P.underlying mt = some (.map kt et)) (hk : P.underlying kt = some (.int .i64))
    (hz : ∀ w, (zeroValue et).run P w = .ok (.agg (rowA 64 fun _ => 0)) w) (hm : MapRep w mb n M) (i : Nat) :
    (Instr.lookup mt (.map (some mb)) (.int .i64 (i : Int)) true).run P w = .ok (.tuple #[.agg (rowA 64 ((M i).getD fun _ => 0)), .bool (M i).isSome]) w := by
  obtain ⟨l, clock, hb, hf, _, _⟩ := hm
  unfold Instr.lookup
  rw [Sem.run_bind, run_underlying hu w, Result.andThen_ok]
  simp only [Sem.run_bind, getObj, Sem.run, hb, Sem.run_pure, Result.andThen_ok, run_checkKey_int hk, run_findKey_waits hk l i, hf i]
  cases h : M i with
  | none => simp [hz]
  | some s => simp

theorem run_len_waits (hu : P.underlying mt = some (.map kt et)) (hm : MapRep w mb n M) (ty : TypeId) :
    (Builtin.len_ #[mt] ty #[.map (some mb)]).run P w = .ok (.int .i64 (cntM M n : Int)) w := by
  obtain ⟨l, clock, hb, hf, hl, _⟩ := hm
  simp [Builtin.len_, Sem.run_bind, run_underlying hu w, getObj, Sem.run, hb, goInt, hl]

def setE : List Ent → Nat → Sec → Nat → List Ent
  | [], i, s, c => [(i, s, c)]
  | e :: l, i, s, c => if e.1 = i then (e.1, s, e.2.2) :: l else e :: setE l i s c
theorem findE_setE (i : Nat) (s : Sec) (c : Nat) (j : Nat) : ∀ l, findE (setE l i s c) j = if j = i then some s else findE l j
  | [] => by simp [setE, findE, eq_comm]
  | e :: l => by
    simp only [setE]
    by_cases h : e.1 = i
    · simp only [h, if_true, findE]
      by_cases hj : j = i
      · simp [hj]
      · simp [hj, Ne.symm hj]
    · simp only [h, if_false, findE, findE_setE i s c j l]
      by_cases hj : j = i
      · subst hj; simp [h]
      · simp [hj]
theorem length_setE (i : Nat) (s : Sec) (c : Nat) : ∀ l, (setE l i s c).length = if (findE l i).isSome then l.length else l.length + 1
  | [] => by simp [setE, findE]
  | e :: l => by
    simp only [setE, findE]
    by_cases h : e.1 = i
    · simp [h]
    · simp only [h, if_false, List.length_cons, length_setE i s c l]; split <;> omega
theorem setE_miss (i : Nat) (s : Sec) (c : Nat) : ∀ l, findE l i = none → setE l i s c = l ++ [(i, s, c)]
  | [], _ => rfl
  | e :: l, h => by
    simp only [findE] at h
    by_cases he : e.1 = i
    · simp [he] at h
    · simp only [he, if_false] at h; simp [setE, he, setE_miss i s c l h]
theorem setE_hit (i : Nat) (s : Sec) (c : Nat) : ∀ l, (findE l i).isSome = true →
    (setE l i s c).map encE = (l.map encE).modify (posE l i) fun e => { e with key := .int .i64 (i : Int), val := .agg (rowA 64 s) }
  | [], h => by simp [findE] at h
  | e :: l, h => by
    simp only [findE] at h
    by_cases he : e.1 = i
    · simp [setE, he, posE, encE]
    · simp only [he, if_false] at h
      simp [setE, he, posE, setE_hit i s c l h]
theorem posE_key (i : Nat) : ∀ l, (findE l i).isSome = true → ∃ e ∈ l, e.1 = i ∧ l[posE l i]? = some e
  | [], h => by simp [findE] at h
  | e :: l, h => by
    simp only [findE] at h
    by_cases he : e.1 = i
    · exact ⟨e, by simp, he, by simp [posE, he]⟩
    · simp only [he, if_false] at h
      obtain ⟨e', hm, hk, hg⟩ := posE_key i l h
      exact ⟨e', by simp [hm], hk, by simp [posE, he, hg]⟩

theorem run_update_waits (hu : P.underlying mt = some (.map kt et)) (hk : P.underlying kt = some (.int .i64)) (hm : MapRep w mb n M) (i : Nat) (hi : i < n) (s : Sec) :
    ∃ o, (Instr.mapUpdate mt (.map (some mb)) (.int .i64 (i : Int)) (.agg (rowA 64 s))).run P w = .ok () (w.putObj mb o) ∧ MapRep (w.putObj mb o) mb n (updM M i s) := by
  obtain ⟨l, clock, hb, hf, hl, hge⟩ := hm
  have hlt : mb < w.heap.size := (Array.getElem?_eq_some_iff.1 hb).1
  have hrep : ∀ c, MapRep (w.putObj mb (.map ((setE l i s clock).map encE).toArray c)) mb n (updM M i s) := fun c => by
    refine ⟨setE l i s clock, c, putObj_same hlt _, fun j => by rw [findE_setE, hf]; rfl, ?_, fun j hj => ?_⟩
    · rw [length_setE, cntM_upd M i s n hi, hf, hl]
    · simp only [updM, show j ≠ i by omega, if_false]; exact hge j hj
  cases h : findE l i with
  | none =>
    refine ⟨_, ?_, hrep (clock + 1)⟩
    unfold Instr.mapUpdate
    rw [Sem.run_bind, run_underlying hu w, Result.andThen_ok]
    simp only [Sem.run_bind, getObj, Sem.run, hb, Result.andThen_ok, run_checkKey_int hk, run_findKey_waits hk l i, h, Option.map_none, setObj]
    rw [setE_miss i s clock l h]
    simp [World.putObj, encE]
  | some s0 =>
    refine ⟨_, ?_, hrep clock⟩
    have hs : (findE l i).isSome = true := by simp [h]
    obtain ⟨e, _, hek, heg⟩ := posE_key i l hs
    unfold Instr.mapUpdate
    rw [Sem.run_bind, run_underlying hu w, Result.andThen_ok]
    simp only [Sem.run_bind, getObj, Sem.run, hb, Result.andThen_ok, run_checkKey_int hk, run_findKey_waits hk l i, h, Option.map_some, setObj]
    have hkey : (((l.map encE).toArray[posE l i]?).map (·.key)).getD (.int .i64 (i : Int)) = .int .i64 (i : Int) := by
      simp [heg, encE, hek]
    rw [hkey]
    have hst : Instr.sameBits 10000 (.int .i64 (i : Int)) (.int .i64 (i : Int)) = true := by
      show Instr.sameBits (9999 + 1) _ _ = true
      simp [Instr.sameBits]
    simp only [Instr.keyThatStays, hst, if_true]
    rw [setE_hit i s clock l hs]
    simp [World.putObj, hb]

theorem run_clear_waits (hu : P.underlying mt = some (.map kt et)) (hm : MapRep w mb n M) :
    ∃ o, (∀ ty, (Builtin.clear_ #[mt] ty #[.map (some mb)]).run P w = .ok (.tuple #[]) (w.putObj mb o)) ∧ MapRep (w.putObj mb o) mb n (fun _ => none) := by
  obtain ⟨l, clock, hb, hf, hl, _⟩ := hm
  have hlt : mb < w.heap.size := (Array.getElem?_eq_some_iff.1 hb).1
  refine ⟨.map #[] clock, fun ty => ?_, [], clock, putObj_same hlt _, fun _ => rfl, by simp [cntM_none], fun _ _ => rfl⟩
  simp [Builtin.clear_, Sem.run_bind, run_underlying hu w, getObj, setObj, Sem.run, hb, World.putObj]
theorem MapRep.congrB {w' : World} (hm : MapRep w mb n M) (h : w'.heap[mb]? = w.heap[mb]?) : MapRep w' mb n M := by
  obtain ⟨l, clock, hb, r⟩ := hm; exact ⟨l, clock, h.trans hb, r⟩
theorem MapRep.lt (hm : MapRep w mb n M) : mb < w.heap.size := by
  obtain ⟨l, clock, hb, r⟩ := hm; exact (Array.getElem?_eq_some_iff.1 hb).1
end
end Go.Proofs.Ytpfkmklhfafkiaa
