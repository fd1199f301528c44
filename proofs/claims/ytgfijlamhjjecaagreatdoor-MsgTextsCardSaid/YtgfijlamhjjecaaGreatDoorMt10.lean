/-
  Texts MsgY3, Round, Still, NumV, NumW, NumC, MsgZ2, one behind the other. No condition beyond those stated in each.
-/
import Derived.Test.YtgfijlamhjjecaaGreatDoorMt9
import Derived.Test.YtgfijlamhjjecaaGreatDoorMt1
import Derived.RangeFuncNested
import Derived.RangeFuncBound
import Derived.RangeFuncCalls
import Derived.RangeFuncLeaves
import Derived.Shelf.Abstract
import Derived.Shelf.RegionOpen
import Derived.OwnWalkIn
import Derived.TacticsInMore
import Derived.LoopNIn
import Derived.LoopIn
import Derived.Maps.OwnIn
import Derived.StillTail
import Derived.OrdersIn
import Derived.Test.YtgfijlamhjjecaaGreatDoorMt6
import Derived.Test.YtgfijlamhjjecaaGreatDoorMt5
import Derived.Test.YtgfijlamhjjecaaGreatDoorMt8
namespace Go.Proofs.YtgfijlamhjjecaaGreatDoor
open Go.RowKit
def FK.off : FK → Nat
  | .car => 4 | .fl => 5 | .we => 6 | .va => 7 | .st => 8 | .no => 9 | .am => 10 | .co => 11
def FK.kind : FK → IntKind
  | .car => .u8 | .fl => .u16 | .we => .u32 | .va => .i64 | .st => .u8 | .no => .u32 | .am => .i64 | .co => .i64
def MRow (pre : List Value) (T : TypeId) (m : MD) (g : Nat) (w : World) : Prop := w.heap[g]? = some (.cells (pre ++ msgA m).toArray T (0, 0))
theorem MRow.cell {pre : List Value} {T : TypeId} {m : MD} {g : Nat} {w : World} (h : MRow pre T m g w) (f : FK) : w.cell? ⟨g, pre.length + f.off, none⟩ = some (.int f.kind (f.get m)) := by
  rw [cell_of_row w g _ _ _ _ h, List.getElem?_toArray, List.getElem?_append_right (by omega), Nat.add_sub_cancel_left]
  cases f <;> rfl
theorem MRow.frz {pre : List Value} {T : TypeId} {m : MD} {g : Nat} {w : World} (h : MRow pre T m g w) (j : Nat) : w.frozen? ⟨g, j, none⟩ = false := frozen_of_row w g j _ _ h
theorem MRow.lt {pre : List Value} {T : TypeId} {m : MD} {g : Nat} {w : World} (h : MRow pre T m g w) : g < w.heap.size := (Array.getElem?_eq_some_iff.1 h).1
theorem MRow.put {pre : List Value} {T : TypeId} {m : MD} {g : Nat} {w : World} (h : MRow pre T m g w) (f : FK) {v : Int} (hv : f.bnd.1 ≤ v ∨ v = 0) : MRow pre T (f.set v m) g (w.setCell ⟨g, pre.length + f.off, none⟩ (.int f.kind v)) := by
  unfold MRow at h ⊢
  rw [heap_setCell_same w g _ _ _ _ h, List.setIfInBounds_toArray, List.set_append_right _ _ (by omega), Nat.add_sub_cancel_left]
  have e : (msgA m).set f.off (.int f.kind v) = msgA (f.set v m) := by
    cases f <;> simp only [FK.bnd] at hv <;> simp only [msgA, FK.off, FK.kind, FK.set, List.set_cons_succ, List.set_cons_zero] <;> first | rfl | (rw [show ((v.toNat : Nat) : Int) = v by omega])
  rw [e]
theorem FK.wrap_in (f : FK) : ∀ v, f.bnd.1 ≤ v → v ≤ f.bnd.2 → f.kind.wrap v = v := fun v h1 h2 => by
  cases f <;> simp only [FK.bnd, M50] at h1 h2 <;> simp [FK.kind, IntKind.wrap, IntKind.bits, IntKind.signed] <;> omega
theorem FK.bnd64 (f : FK) : -9223372036854775808 ≤ f.bnd.1 ∧ f.bnd.2 ≤ 9223372036854775807 := by cases f <;> decide
theorem FK.get64 (f : FK) {m : MD} (h : okM m) : -9223372036854775808 ≤ f.get m ∧ f.get m ≤ 9223372036854775807 := by
  have h1 := h.car; have h2 := h.fl; have h3 := h.we; have h4 := h.va; have h5 := h.st; have h6 := h.no; have h7 := h.am; have h8 := h.co
  cases f <;> simp only [FK.get] <;> omega
theorem tell_any (f : FK) (pre : List Value) (T : TypeId) (m : MD) (hm : okM m) (g a : Nat) (w : World) (hV : VarsOk w) (hr : MRow pre T m g w) (hc : FieldC w a f.atFn f.bnd.1 f.bnd.2) :
    Calls Tryz.prog f.tellFn #[.pointer (some ⟨g, pre.length, none⟩), .pointer (some ⟨a, 0, none⟩), .pointer (some ⟨a + 1, 0, none⟩), .pointer (some ⟨a + 2, 0, none⟩)] w fun e w' => e = .returned (.tuple #[.string ⟨(sgnT (f.get m)).toArray⟩, .bool (f.inb (f.get m))]) ∧ Below w.heap.size w w' := by
  have h1 := hr.cell f
  have h2 := f.get64 hm
  obtain ⟨k0, k1, k2⟩ := hc
  cases f
  · exact tell_car g pre.length a _ _ _ h2 w hV h1 k0 k1 k2
  · exact tell_fl g pre.length a _ _ _ h2 w hV h1 k0 k1 k2
  · exact tell_we g pre.length a _ _ _ h2 w hV h1 k0 k1 k2
  · exact tell_va g pre.length a _ _ _ h2 w hV h1 k0 k1 k2
  · exact tell_st g pre.length a _ _ _ h2 w hV h1 k0 k1 k2
  · exact tell_no g pre.length a _ _ _ h2 w hV h1 k0 k1 k2
  · exact tell_am g pre.length a _ _ _ h2 w hV h1 k0 k1 k2
  · exact tell_co g pre.length a _ _ _ h2 w hV h1 k0 k1 k2
theorem Fr.keep {g : Nat} {w w1 : World} (hb : Below w.heap.size w w1) (a : Addr) (ha : a.block = g) (v : Value) : Fr [g] w (w1.setCell a v) :=
  (Fr.trans (F := [g]) (Below.fr hb (Nat.le_refl _) [g]) (Fr.setCell w1 (by simp [ha]) v))
def ReadMQ (f : FK) (t : Str) (pre : List Value) (T : TypeId) (m : MD) (g : Nat) (w : World) (e : Ending) (w' : World) : Prop :=
  e = .returned (.bool (wholeE t f.bnd.1 f.bnd.2).isSome) ∧ MRow pre T (f.set ((wholeE t f.bnd.1 f.bnd.2).getD 0) m) g w' ∧ Fr [g] w w'
theorem wholeE_lo {t : Str} {lo hi v : Int} (h : wholeE t lo hi = some v) : lo ≤ v ∧ v ≤ hi := by
  unfold wholeE at h
  cases hi' : intW t with
  | none => rw [hi'] at h; cases h
  | some u =>
    rw [hi'] at h
    simp only at h
    split at h
    · rename_i hb; cases h; exact hb
    · cases h
theorem read_any (f : FK) (pre : List Value) (T : TypeId) (m : MD) (s : ByteArray) (hl : s.size ≤ 1048576) (g a : Nat) (w : World) (hV : VarsOk w) (hr : MRow pre T m g w) (hc : FieldC w a f.atFn f.bnd.1 f.bnd.2) :
    Calls Tryz.prog f.readFn #[.pointer (some ⟨g, pre.length, none⟩), .string s, .pointer (some ⟨a + 1, 0, none⟩), .pointer (some ⟨a + 2, 0, none⟩), .pointer (some ⟨a, 0, none⟩)] w fun e w' => ReadMQ f s.data.toList pre T m g w e w' := by
  have h1 := hr.cell f
  have h2 := hr.frz (pre.length + f.off)
  have h3 := f.wrap_in
  obtain ⟨b1, b2⟩ := f.bnd64
  obtain ⟨k0, k1, k2⟩ := hc
  have key : Calls Tryz.prog f.readFn #[.pointer (some ⟨g, pre.length, none⟩), .string s, .pointer (some ⟨a + 1, 0, none⟩), .pointer (some ⟨a + 2, 0, none⟩), .pointer (some ⟨a, 0, none⟩)] w fun e w' => ReadQ s.data.toList f.bnd.1 f.bnd.2 f.kind ⟨g, pre.length + f.off, none⟩ w e w' := by
    cases f
    · exact read_car g pre.length a s hl _ _ _ h3 b1 b2 w hV h1 h2 k0 k1 k2
    · exact read_fl g pre.length a s hl _ _ _ h3 b1 b2 w hV h1 h2 k0 k1 k2
    · exact read_we g pre.length a s hl _ _ _ h3 b1 b2 w hV h1 h2 k0 k1 k2
    · exact read_va g pre.length a s hl _ _ _ h3 b1 b2 w hV h1 h2 k0 k1 k2
    · exact read_st g pre.length a s hl _ _ _ h3 b1 b2 w hV h1 h2 k0 k1 k2
    · exact read_no g pre.length a s hl _ _ _ h3 b1 b2 w hV h1 h2 k0 k1 k2
    · exact read_am g pre.length a s hl _ _ _ h3 b1 b2 w hV h1 h2 k0 k1 k2
    · exact read_co g pre.length a s hl _ _ _ h3 b1 b2 w hV h1 h2 k0 k1 k2
  refine key.mono ?_
  rintro e w' ⟨w1, hb, rfl, rfl⟩
  have hr1 : MRow pre T m g w1 := (hb.block g hr.lt).trans hr
  refine ⟨rfl, hr1.put f ?_, Fr.keep hb ⟨g, pre.length + f.off, none⟩ rfl _⟩
  cases hw : wholeE s.data.toList f.bnd.1 f.bnd.2 with
  | none => exact .inr rfl
  | some v => exact .inl (wholeE_lo hw).1
theorem cell_fr {F : List Nat} {w w' : World} (h : Fr F w w') {b o : Nat} {v : Value} (hb : b ∉ F) (hc : w.cell? ⟨b, o, none⟩ = some v) : w'.cell? ⟨b, o, none⟩ = some v :=
  (World.cell?_of_block (a := ⟨b, o, none⟩) (h.block b (cell_lt' hc) hb)).trans hc
theorem FieldC.fr {F : List Nat} {w w' : World} {a k : Nat} {lo hi : Int} (h : FieldC w a k lo hi) (hf : Fr F w w') (hF : ∀ j ∈ F, j < a) : FieldC w' a k lo hi :=
  ⟨cell_fr hf (fun hm => by have := hF _ hm; omega) h.c0, cell_fr hf (fun hm => by have := hF _ hm; omega) h.c1, cell_fr hf (fun hm => by have := hF _ hm; omega) h.c2⟩
theorem FieldAt.fr {F : List Nat} {B : Nat} {w w' : World} {x y : Value} {f : FK} (h : FieldAt B w x y f) (hf : Fr F w w') (hF : ∀ j ∈ F, j < B) : FieldAt B w' x y f := by
  obtain ⟨a, h1, h2, h3, h4⟩ := h
  exact ⟨a, h1, h2, h3, h4.fr hf (fun j hj => by have := hF j hj; omega)⟩
theorem FieldsAt.fr {F : List Nat} {B : Nat} {w w' : World} {v : Value} {fs : List FK} (h : FieldsAt B w v fs) (hf : Fr F w w') (hF : ∀ j ∈ F, j < B) : FieldsAt B w' v fs := by
  obtain ⟨b, h1, h2, h3⟩ := h
  refine ⟨b, h1, h2, fun i f hi => ?_⟩
  obtain ⟨x, y, c1, c2, c3⟩ := h3 i f hi
  exact ⟨x, y, cell_fr hf (fun hm => by have := hF _ hm; omega) c1, cell_fr hf (fun hm => by have := hF _ hm; omega) c2, c3.fr hf hF⟩
theorem PartsAt.fr {F : List Nat} {B : Nat} {w w' : World} {v : Value} {ps : List (Str × List FK)} (h : PartsAt B w v ps) (hf : Fr F w w') (hF : ∀ j ∈ F, j < B) : PartsAt B w' v ps := by
  rcases h with h | ⟨b, h1, h2, h3⟩
  · exact .inl h
  · refine .inr ⟨b, h1, h2, fun i p hi => ?_⟩
    obtain ⟨fv, c1, c2, c3⟩ := h3 i p hi
    exact ⟨fv, cell_fr hf (fun hm => by have := hF _ hm; omega) c1, cell_fr hf (fun hm => by have := hF _ hm; omega) c2, c3.fr hf hF⟩
theorem row_lit {S : Nat → Prop} {w : World} {b : Nat} {t : TypeId} {xs : List Value} (h : w.heap[b]? = some (.cells xs.toArray t (0, 0))) (hS : S b) (hl : xs.length ≤ 1048576) : RowAt S w (.slice (some ⟨b, 0, none⟩) xs.length xs.length) xs :=
  ⟨_, _, rfl, Nat.le_refl _, by unfold maxLen; omega, (fun e => by cases e), fun _ => ⟨b, 0, rfl, hS, fun i x hi => by rw [cell_of_row w b (0 + i) _ _ _ h, Nat.zero_add, List.getElem?_toArray]; exact hi⟩⟩
theorem partF_len (hh : Bool × Bool × Bool) : ∀ q ∈ partF hh, q.2.length ≤ 6 := by
  obtain ⟨x, y, z⟩ := hh
  cases x <;> cases y <;> cases z <;> decide
theorem PartsAt.form {B : Nat} {w : World} {v : Value} {ps : List (Str × List FK)} (h : PartsAt B w v ps) : ∃ vo, v = .slice vo ps.length ps.length := by
  rcases h with ⟨rfl, rfl⟩ | ⟨b, rfl, _⟩
  · exact ⟨none, rfl⟩
  · exact ⟨_, rfl⟩
theorem PartsAt.get {B : Nat} {w : World} {vo : Option Addr} {n : Nat} {ps : List (Str × List FK)} (h : PartsAt B w (.slice vo n n) ps) {k : Nat} {q : Str × List FK} (hk : ps[k]? = some q) : ∃ b fv, vo = some ⟨b, 0, none⟩ ∧ B ≤ b ∧ w.cell? ⟨b, k * 2, none⟩ = some (sv q.1) ∧ w.cell? ⟨b, k * 2 + 1, none⟩ = some fv ∧ FieldsAt B w fv q.2 := by
  rcases h with ⟨rfl, _⟩ | ⟨b, hv, hb, h⟩
  · simp at hk
  · cases hv
    obtain ⟨fv, h1, h2, h3⟩ := h k q hk
    exact ⟨b, fv, rfl, hb, h1, h2, h3⟩
theorem cf_tell (f : FK) (args : Array Value) (w : World) : (callFunc f.tellFn args).run Tryz.prog w = .ok (.enter f.tellFn args) w := by
  cases f <;> simp only [FK.tellFn] <;> go_simp
theorem cf_read (f : FK) (args : Array Value) (w : World) : (callFunc f.readFn args).run Tryz.prog w = .ok (.enter f.readFn args) w := by
  cases f <;> simp only [FK.readFn] <;> go_simp
theorem Fr.then_grown {F : List Nat} {a b c : World} {row : Option Nat} (h : Fr F a b) (k : b.grownBy c row) (hr : ∀ g, row = some g → a.heap.size ≤ g) : Fr F a c :=
  ⟨k.os.trans h.os, k.tape.trans h.tape, k.output.trans h.output, Nat.le_trans h.size k.size, fun i hi hn => (k.block i (Nat.lt_of_lt_of_le hi h.size) (fun e => by have := hr i e.symm; omega)).trans (h.block i hi hn)⟩
end Go.Proofs.YtgfijlamhjjecaaGreatDoor


namespace Go.Proofs.YtgfijlamhjjecaaGreatDoor
open Go.RowKit Go.Shelf
section
variable {P : Program} {ops : Array Oper} {Q : Exit → Act → World → Prop} {r n : Nat}

section
variable {F : Fence} {rest : List Oper} {o : Oper} {a : Act} {w : World}
end
end
theorem ownFrom_cells {β : Type} {B k : Nat} (f : β → Obj) (hk : k < B) : OwnFrom B (fun s W => W.heap[k]? = some (f s)) := fun s X Y row hs hg hr =>
  (hg.block k (Array.getElem?_eq_some_iff.1 hs).1 (fun e => by have := (hr k e.symm).1; omega)).trans hs
end Go.Proofs.YtgfijlamhjjecaaGreatDoor


namespace Go.Proofs.YtgfijlamhjjecaaGreatDoor
open Go.RowKit Go.Shelf
section
variable {P : Program} {ops : Array Oper} {Q : Exit → Act → World → Prop} {n : Nat} {md : Region.Mode}
theorem opIn_of_stOp {i : Nat} {K : Act → Prop} {K' : Act → World → Prop} {a : Act} {w : World} (hk : ∀ a', K a' → K' a' w) (h : stOp P ops w i K a) : wpOpIn Fence.wide n P ops Q i K' a w := by
  unfold stOp at h
  unfold wpOpIn
  cases ho : ops[i]? with
  | none => rw [ho] at h; exact hk _ h
  | some o =>
    rw [ho] at h
    simp only at h ⊢
    split at h
    · rename_i hw
      rw [if_pos hw]
      unfold Oper.still at h
      refine ⟨fun _ _ => trivial, ?_⟩
      rw [show Fence.wide.round = none from rfl, Oper.semAt_none]
      generalize (execOp a.eval o).run P w = r at h
      cases r with
      | ok x w' =>
        cases x <;> simp only [Oper.stillUpon] at h <;> simp only [Oper.uponIn]
        case value => obtain ⟨rfl, h⟩ := h; exact hk _ h
        case skip => obtain ⟨rfl, h⟩ := h; exact hk _ h
        case enter f args =>
          obtain ⟨rfl, v, hc, h⟩ := h
          refine ⟨fun hd => (by cases hd), callsIn_wide.2 (hc.mono ?_)⟩
          rintro e w'' ⟨rfl, rfl⟩
          exact hk _ h
      | halt x w' => exact h.elim
    · rename_i hw
      rw [if_neg hw]
      exact ⟨fun _ _ => trivial, hk _ h⟩
theorem anyIn_of_head {k g : Nat} {w : World} {L : Array Bool → Act → Prop} (hL : ∀ listed a, L listed a → wpAnyIn Fence.wide n P md ops Q g listed a w) :
    ∀ (f : Nat) (listed : Array Bool) (a : Act), wpAnyL P md ops w k L f listed a → wpAnyIn Fence.wide n P md ops Q (f + g) listed a w
  | 0, listed, a, h => by rw [Nat.zero_add]; exact hL _ _ h
  | f + 1, listed, a, h => by
    rw [show f + 1 + g = (f + g) + 1 by omega]
    exact ⟨fun h0 => absurd h0 h.1, fun i hi => opIn_of_stOp (fun a' h' => anyIn_of_head hL f _ a' h') (h.2 i hi).2⟩
theorem anyIn_of_seq : ∀ (l : List Oper) (k : Nat) (listed : Array Bool) (a : Act) (w : World), (∀ j, l[j]? = ops[k + j]?) →
    Region.seqB md ops l.length k listed = true → wpListIn Fence.wide n P ops Q l a w → wpAnyIn Fence.wide n P md ops Q l.length listed a w
  | [], _, _, _, _, _, hB, h => ⟨by simpa [Region.seqB] using hB, h⟩
  | o :: l, k, listed, a, w, hl, hB, h => by
    have h0 : ops[k]? = some o := by simpa using (hl 0).symm
    simp only [List.length_cons, Region.seqB, Bool.and_eq_true, decide_eq_true_eq] at hB
    refine ⟨fun h1 => (by rw [hB.1] at h1; cases h1), fun i hi => ?_⟩
    rw [hB.1] at hi
    have hik : i = k := by simpa using hi
    subst hik
    have hw : wpOpIn Fence.wide n P ops Q i (wpListIn Fence.wide n P ops Q l) a w := by unfold wpOpIn; simp only [h0]; exact h
    exact wpOpIn_mono (fun a' w' h' => anyIn_of_seq l (i + 1) _ a' w' (fun j => by have := hl (j + 1); simpa [Nat.add_assoc, Nat.add_comm 1 j] using this) hB.2 h') hw
theorem wpIn_region_stillTail {id : Nat} {a : Act} {w : World} {l : List Oper} (k : Nat) (hm : P.follows .mixedOrders = true) (hB : Region.lexTailB .any l.toArray k = true)
    (h : wpStill P l.toArray { w with drawn := w.drawn + 1 } (fun a' => wpListIn Fence.wide n P l.toArray Q (l.drop k) a' { w with drawn := w.drawn + 1 }) (l.take k) a) : (Code.region id l.toArray true).wpIn Fence.wide n P Q a w := by
  simp only [Region.lexTailB, Bool.and_eq_true, decide_eq_true_eq] at hB
  obtain ⟨⟨⟨⟨hsel, hn⟩, hs⟩, hc⟩, hlex⟩ := hB
  have htl : (l.take k).length = k := by simp at hn ⊢; omega
  have inv0 : HeadInv .any l.toArray k (Array.replicate l.toArray.size false) := by
    refine ⟨by simp, fun j oj _ hl => ?_, fun t _ ht => getD_in (by simpa using ht) (getD_replicate_false _ _)⟩
    rw [getD_replicate_false] at hl; cases hl
  have hfirst : ∀ j, j < (l.take k).length → (l.take k)[j]? = l.toArray[0 + j]? := fun j hj => by
    rw [htl] at hj; simp [hj]
  have H := wpAnyL_lex (md := .any) (g := l.toArray.size - k) hsel hs hc hn (l.take k) 0 _ a hfirst (by rw [htl]; omega) inv0 (by rw [htl]; exact hlex) h
  have := anyIn_of_head (Q := Q) (g := l.toArray.size - k) (fun listed a' hL => by
    have := anyIn_of_seq (md := .any) (Q := Q) (l.drop k) k listed a' _ (fun j => by simp [List.getElem?_drop]) (by rw [show (l.drop k).length = l.toArray.size - k by simp]; exact hL.1) hL.2
    rwa [show (l.drop k).length = l.toArray.size - k by simp] at this) _ _ _ H
  rw [htl, show k + (l.toArray.size - k) = l.toArray.size by omega] at this
  exact wpIn_region_any hm this
end
end Go.Proofs.YtgfijlamhjjecaaGreatDoor


namespace Go.Proofs.YtgfijlamhjjecaaGreatDoor
open Go.RowKit Go.Shelf
attribute [local go_sem] Oper.semAt_some
def digI (c : UInt8) : Int := if c.toNat < 48 then (c.toNat : Int) + 208 else (c.toNat : Int) - 48
def digE (c : UInt8) : Array Value := #[.int .u64 (digI c), .bool (digB c)]
theorem digits_in (n : Nat) (s : ByteArray) (w : World) : CallsIn Fence.wide n Tryz.prog 129 #[.string s] w fun e w' => e = .returned (.func (.func 152) #[] #[.pointer (some ⟨w.heap.size, 0, none⟩)]) ∧ w' = w.alloc (.cells #[.string s] 9) := by
  refine callsIn_wide.2 ?_
  go_enter Tryz.func129, Tryz.ntmps129
  go_wp2_with fail
  go_ret
  exact ⟨rfl, rfl⟩
set_option maxRecDepth 100000 in
set_option maxHeartbeats 4000000 in
theorem digits1_in (n : Nat) (hn : 1 ≤ n) (l bx : Nat) (s : ByteArray) (hs : s.size ≤ 1048576) (J Jx : List UInt8 → World → Prop) (W : World)
    (hb : W.heap[bx]? = some (.cells #[.string s] 9 (0, 0))) (hab : AbidesFrom W.heap.size J)
    (hY : ∀ pre x W1, J pre W1 → pre.length < s.size → YieldAt Fence.wide (n - 1) Tryz.prog l (digE x) W1 fun e W' =>
      (e = .returned (.bool true) ∧ J (pre ++ [x]) W' ∧ W'.heap[bx]? = W1.heap[bx]?) ∨ (e = .returned (.bool false) ∧ Jx (pre ++ [x]) W'))
    (h0 : J [] W) :
    CallsIn Fence.wide n Tryz.prog 152 #[.func (.yield l) #[] #[], .pointer (some ⟨bx, 0, none⟩)] W fun e W' => (∃ v, e = .returned v) ∧ ((∃ xs, xs = s.data.toList ∧ J xs W') ∨ (∃ pre, (pre <+: s.data.toList) ∧ Jx pre W')) := by
  have c0 : W.cell? ⟨bx, 0, none⟩ = some (.string s) := by rw [cell_of_row W bx 0 _ _ _ hb]; rfl
  have hsl : s.data.toList.length = s.size := rfl
  have HB := Lib.hid hb
  have HSL := Lib.hid hsl
  clear hb hsl
  refine callsIn_of_wp Tryz.func152 rfl trivial ?_ rfl
  simp only [Tryz.ntmps152, List.size_toArray, List.length_cons, List.length_nil, Nat.reduceAdd, Nat.reduceSub, Array.replicate_succ, Array.replicate_zero, List.push_toArray, List.append_toArray, List.nil_append, List.cons_append]
  gi_wp2
  gi_loopw [6] (fun i wr => ∃ k : Nat, k ≤ s.size ∧ i = .int .i64 (k : Int) ∧ J (s.data.toList.take k) wr ∧ wr.heap[bx]? = some (.cells #[.string s] 9 (0, 0))) (fun i _ => s.size - (intOf i).toNat)
  case atStart => exact ⟨0, Nat.zero_le _, rfl, h0, HB.out⟩
  case round =>
    obtain ⟨k, hk, rfl, hJ, hI⟩ := hrel
    have c1 : wr.cell? ⟨bx, 0, none⟩ = some (.string s) := by rw [cell_of_row wr bx 0 _ _ _ hI]; rfl
    have HI := Lib.hid hI
    clear hI
    by_cases hlt : k < s.size
    · have hki : (k : Int) < (s.size : Int) := by omega
      obtain ⟨c, hc⟩ : ∃ c, s[k]'hlt = c := ⟨_, rfl⟩
      have hj2 : J (s.data.toList.take k) wr.drew := hab _ _ _ none hJ ⟨rfl, rfl, rfl, Nat.le_refl _, fun _ _ _ => rfl⟩ (fun r e => by cases e)
      obtain ⟨fn, tmps, assign, body, hy, hR⟩ := hY (s.data.toList.take k) c wr.drew hj2 (by rw [List.length_take]; omega)
      dsimp only [digE] at hy
      have hR2 : RoundIn Fence.wide (n - 1) Tryz.prog l fn tmps assign body wr.drew fun e W' => ∃ b : Bool, e = .returned (.bool b) ∧ ((b = true ∧ J (s.data.toList.take (k + 1)) W' ∧ W'.heap[bx]? = wr.drew.heap[bx]?) ∨ (b = false ∧ Jx (s.data.toList.take (k + 1)) W')) := by
        have e0 : s.data.toList.take k ++ [c] = s.data.toList.take (k + 1) := by
          have hk2 : k < s.data.toList.length := hlt
          rw [List.take_add_one, List.getElem?_eq_getElem hk2]
          have : s.data.toList[k] = c := by rw [← hc]; rfl
          rw [this]; rfl
        refine hR.mono ?_
        rintro e W' (⟨rfl, h1, h2⟩ | ⟨rfl, h1⟩)
        · exact ⟨true, rfl, .inl ⟨rfl, by rw [← e0]; exact h1, h2⟩⟩
        · exact ⟨false, rfl, .inr ⟨rfl, by rw [← e0]; exact h1⟩⟩
      have HR := Lib.hid hR2
      clear hR hR2 hj2
      have hki2 : (0 : Int) ≤ (k : Int) := by omega
      by_cases h48 : c.toNat < 48
      · have e1 : digI c = (c.toNat : Int) + 208 := by unfold digI; rw [if_pos h48]
        have e2 : digB c = false := by unfold digB; simp; omega
        have d1 : ((c.toNat : Int) ≥ 48) = False := by simp; omega
        have hw1 : IntKind.u8.wrap ((c.toNat : Int) - 48) = (c.toNat : Int) + 208 := by simp [IntKind.wrap, IntKind.bits, IntKind.signed]; omega
        have hw2 : IntKind.u64.wrap ((c.toNat : Int) + 208) = (c.toNat : Int) + 208 := by simp [IntKind.wrap, IntKind.bits, IntKind.signed]; omega
        rw [e1, e2] at hy
        gi_wp2_with fail
        refine wpIn_region_stillTail 16 (by kernel_rfl) (by kernel_rfl) ?_
        simp only [List.take_succ_cons, List.take_zero, List.drop_succ_cons, List.drop_zero]
        iterate 16 still_step
        refine wpStill_nil ?_
        gi_wp2_with fail
        refine HR.out.mono ?_
        rintro e W3 ⟨bb, rfl, hbb⟩
        rcases hbb with ⟨rfl, hj3, hb3⟩ | ⟨rfl, hj3⟩
        · have HJ3 := Lib.hid hj3
          have HB3 := Lib.hid hb3
          clear hj3 hb3
          gi_wp2
          go_roundw
          case rel => exact ⟨k + 1, by omega, by go_num, HJ3.out, HB3.out.trans HI.out⟩
          case measure => simp [intOf]; omega
        · have HJ3 := Lib.hid hj3
          clear hj3
          gi_wp2
          refine bodyPost_ret (results_none rfl _ _ _) rfl ?_
          exact ⟨⟨_, rfl⟩, .inr ⟨_, List.take_prefix _ _, HJ3.out⟩⟩
      · have hc256 : c.toNat < 256 := c.toNat_lt
        have e1 : digI c = (c.toNat : Int) - 48 := by unfold digI; rw [if_neg h48]
        have d1 : ((c.toNat : Int) ≥ 48) = True := by simp; omega
        have hw1 : IntKind.u8.wrap ((c.toNat : Int) - 48) = (c.toNat : Int) - 48 := by simp [IntKind.wrap, IntKind.bits, IntKind.signed]; omega
        have hw2 : IntKind.u64.wrap ((c.toNat : Int) - 48) = (c.toNat : Int) - 48 := by simp [IntKind.wrap, IntKind.bits, IntKind.signed]; omega
        by_cases h57 : c.toNat ≤ 57
        · have e2 : digB c = true := by unfold digB; simp; omega
          have d2 : ((c.toNat : Int) ≤ 57) = True := by simp; omega
          rw [e1, e2] at hy
          gi_wp2_with fail
          refine wpIn_region_stillTail 16 (by kernel_rfl) (by kernel_rfl) ?_
          simp only [List.take_succ_cons, List.take_zero, List.drop_succ_cons, List.drop_zero]
          iterate 16 still_step
          refine wpStill_nil ?_
          gi_wp2_with fail
          refine HR.out.mono ?_
          rintro e W3 ⟨bb, rfl, hbb⟩
          rcases hbb with ⟨rfl, hj3, hb3⟩ | ⟨rfl, hj3⟩
          · have HJ3 := Lib.hid hj3
            have HB3 := Lib.hid hb3
            clear hj3 hb3
            gi_wp2
            go_roundw
            case rel => exact ⟨k + 1, by omega, by go_num, HJ3.out, HB3.out.trans HI.out⟩
            case measure => simp [intOf]; omega
          · have HJ3 := Lib.hid hj3
            clear hj3
            gi_wp2
            refine bodyPost_ret (results_none rfl _ _ _) rfl ?_
            exact ⟨⟨_, rfl⟩, .inr ⟨_, List.take_prefix _ _, HJ3.out⟩⟩
        · have e2 : digB c = false := by unfold digB; simp; omega
          have d2 : ((c.toNat : Int) ≤ 57) = False := by simp; omega
          rw [e1, e2] at hy
          gi_wp2_with fail
          refine wpIn_region_stillTail 16 (by kernel_rfl) (by kernel_rfl) ?_
          simp only [List.take_succ_cons, List.take_zero, List.drop_succ_cons, List.drop_zero]
          iterate 16 still_step
          refine wpStill_nil ?_
          gi_wp2_with fail
          refine HR.out.mono ?_
          rintro e W3 ⟨bb, rfl, hbb⟩
          rcases hbb with ⟨rfl, hj3, hb3⟩ | ⟨rfl, hj3⟩
          · have HJ3 := Lib.hid hj3
            have HB3 := Lib.hid hb3
            clear hj3 hb3
            gi_wp2
            go_roundw
            case rel => exact ⟨k + 1, by omega, by go_num, HJ3.out, HB3.out.trans HI.out⟩
            case measure => simp [intOf]; omega
          · have HJ3 := Lib.hid hj3
            clear hj3
            gi_wp2
            refine bodyPost_ret (results_none rfl _ _ _) rfl ?_
            exact ⟨⟨_, rfl⟩, .inr ⟨_, List.take_prefix _ _, HJ3.out⟩⟩
    · obtain rfl : k = s.size := by omega
      gi_wp2
      go_end0
      exact ⟨⟨_, rfl⟩, .inl ⟨_, by rw [← HSL.out, List.take_length], hJ⟩⟩
theorem digits1_stops (n : Nat) (hn : 1 ≤ n) (bx : Nat) (s : ByteArray) (hs : s.size ≤ 1048576) (w : World) (hb : w.heap[bx]? = some (.cells #[.string s] 9 (0, 0))) :
    SeqStopsK Fence.wide n Tryz.prog 152 #[.pointer (some ⟨bx, 0, none⟩)] digE (fun X Y => Y.heap[bx]? = X.heap[bx]?) (fun xs => xs = s.data.toList) (fun pre => pre <+: s.data.toList) s.size w := fun l J Jx W hW hab _ hY h0 =>
  digits1_in n hn l bx s hs J Jx W ((hW.block bx (Array.getElem?_eq_some_iff.1 hb).1).trans hb) hab hY h0
end Go.Proofs.YtgfijlamhjjecaaGreatDoor


namespace Go.Proofs.YtgfijlamhjjecaaGreatDoor
open Go.RowKit Go.Shelf
attribute [local go_sem] Oper.semAt_some
theorem valN_lt18 {l : Str} (h : l.all digB = true) (hl : l.length ≤ 18) : valN l < 1000000000000000000 := by
  have := valN_lt l h
  have : 10 ^ l.length ≤ 10 ^ 18 := Nat.pow_le_pow_right (by omega) hl
  omega
theorem load_u64 {w : World} {b o : Nat} {v : Value} (h : w.cell? ⟨b, o, none⟩ = some v) : (loadVar 22 ⟨b, o, none⟩).run Tryz.prog w = .ok v w := by
  have h2 := Tryz.isAgg22 w
  simp [loadVar, Sem.run_bind, h2, h]
theorem load_bool {w : World} {b o : Nat} {v : Value} (h : w.cell? ⟨b, o, none⟩ = some v) : (loadVar 4 ⟨b, o, none⟩).run Tryz.prog w = .ok v w := by
  have h2 := Tryz.isAgg4 w
  simp [loadVar, Sem.run_bind, h2, h]
theorem value_ret {w : World} {tmps : Array Value} {R : Ending → World → Prop} {b c : Nat} {v u : Value} {t s : TypeId} (h2 : tmps.getD 2 undef = .pointer (some ⟨b, 0, none⟩)) (h3 : tmps.getD 3 undef = .pointer (some ⟨c, 0, none⟩))
    (hb : w.heap[b]? = some (.cells #[v] t (0, 0))) (hc : w.heap[c]? = some (.cells #[u] s (0, 0))) (hR : R (.returned (.tuple #[v, u])) w) : LeavesInM Fence.wide 10 Tryz.prog Tryz.f87 tmps R [] .returning w :=
  ⟨_, results_cells2 rfl _ h2 (load_u64 (by rw [cell_of_row w b 0 _ _ _ hb]; rfl)) h3 (load_bool (by rw [cell_of_row w c 0 _ _ _ hc]; rfl)), hR⟩
set_option maxRecDepth 100000 in
set_option maxHeartbeats 4000000 in
theorem value_any (s : ByteArray) (hs : s.size ≤ 18) (w : World) : Calls Tryz.prog 87 #[.string s] w fun e w' =>
    e = .returned (.tuple #[.int .u64 (if s.data.toList.all digB then (valN s.data.toList : Int) else 0), .bool (s.data.toList.all digB)]) ∧ Below w.heap.size w w' := by
  refine (callsIn_wide (n := 10)).1 ?_
  refine callsIn_of_wp_marks Tryz.func87 rfl trivial ?_ rfl
  simp only [Tryz.ntmps87, List.size_toArray, List.length_cons, List.length_nil, Nat.reduceAdd, Nat.reduceSub, Array.replicate_succ, Array.replicate_zero, List.push_toArray, List.append_toArray, List.nil_append, List.cons_append]
  have hfn : ∀ f, Fence.wide.fn f := fun _ => trivial
  gi_wp2_with (gi_at_call 129; refine (digits_in _ s _).mono ?_; rintro e w' ⟨rfl, rfl⟩)
  obtain ⟨b0, hb0⟩ : ∃ b0, w.heap.size = b0 := ⟨_, rfl⟩
  obtain ⟨w1, hw1⟩ : ∃ w1, (((w.alloc (.cells #[.int .u64 0] 22)).alloc (.cells #[.bool false] 4)).alloc (.cells #[.int .u64 0] 22)).alloc (.cells #[.string s] 9) = w1 := ⟨_, rfl⟩
  have k0 : w1.heap[b0]? = some (.cells #[.int .u64 0] 22 (0, 0)) := by
    rw [← hw1, ← hb0]
    exact (Below.heap_alloc _ _ _ (by simp; omega)).trans ((Below.heap_alloc _ _ _ (by simp; omega)).trans ((Below.heap_alloc _ _ _ (by simp)).trans (heap_alloc_new _ _)))
  have k1 : w1.heap[b0 + 1]? = some (.cells #[.bool false] 4 (0, 0)) := by
    rw [← hw1, ← hb0]
    have e := heap_alloc_new (w.alloc (.cells #[.int .u64 0] 22)) (.cells #[.bool false] 4)
    rw [World.size_alloc] at e
    exact (Below.heap_alloc _ _ _ (by simp)).trans ((Below.heap_alloc _ _ _ (by simp)).trans e)
  have k2 : w1.heap[b0 + 2]? = some (.cells #[.int .u64 0] 22 (0, 0)) := by
    rw [← hw1, ← hb0]
    have e := heap_alloc_new ((w.alloc (.cells #[.int .u64 0] 22)).alloc (.cells #[.bool false] 4)) (.cells #[.int .u64 0] 22)
    rw [World.size_alloc, World.size_alloc] at e
    exact (Below.heap_alloc _ _ _ (by simp)).trans e
  have k3 : w1.heap[b0 + 3]? = some (.cells #[.string s] 9 (0, 0)) := by
    rw [← hw1, ← hb0]
    have e := heap_alloc_new (((w.alloc (.cells #[.int .u64 0] 22)).alloc (.cells #[.bool false] 4)).alloc (.cells #[.int .u64 0] 22)) (.cells #[.string s] 9)
    rw [World.size_alloc, World.size_alloc, World.size_alloc] at e
    exact e
  have hs1 : w1.heap.size = b0 + 4 := by rw [← hw1, ← hb0]; simp
  have hbw : Below b0 w w1 := by
    rw [← hw1, ← hb0]
    exact ((((Below.refl _ w).alloc (Nat.le_refl _) _).alloc (by simp only [World.size_alloc]; omega) _).alloc (by simp only [World.size_alloc]; omega) _).alloc (by simp only [World.size_alloc]; omega) _
  rw [hw1, hb0]
  refine wpIn_rangeFunc_ownF rfl (by omega) (gf := 152) (lb := #[.pointer (some ⟨b0 + 3, 0, none⟩)]) rfl trivial (enters_of Tryz.func152 (by kernel_rfl) rfl)
    (digits1_stops (10 - 1) (by omega) (b0 + 3) s (by omega) w1 k3) (fun h k => k.trans h) (fun W l o o' hl ho _ _ => putObj_other (by omega) _) (Below.refl _ _) (fun x => (rfl : (digE x).size = 2))
    (fun pre W => (W.heap[b0]? = some (.cells #[.int .u64 0] 22 (0, 0)) ∧ W.heap[b0 + 1]? = some (.cells #[.bool false] 4 (0, 0)) ∧ W.heap[b0 + 2]? = some (.cells #[.int .u64 (valN pre : Int)] 22 (0, 0)) ∧ pre.all digB = true) ∧ Below b0 w W)
    (fun c pre W => (c = .ret ∧ W.heap[b0]? = some (.cells #[.int .u64 0] 22 (0, 0)) ∧ W.heap[b0 + 1]? = some (.cells #[.bool false] 4 (0, 0)) ∧ pre.all digB = false) ∧ Below b0 w W)
    (OwnFrom.and (OwnFrom.and (ownFrom_cells (fun _ => Obj.cells #[.int .u64 0] 22 (0, 0)) (by omega)) (OwnFrom.and (ownFrom_cells (fun _ => Obj.cells #[.bool false] 4 (0, 0)) (by omega)) (OwnFrom.and (ownFrom_cells (fun pre => Obj.cells #[.int .u64 (valN pre : Int)] 22 (0, 0)) (by omega)) (fun _ _ _ _ h _ _ => h)))) (ownFrom_below (by omega) (by omega)))
    (fun c => OwnFrom.and (OwnFrom.and (fun _ _ _ _ h _ _ => h) (OwnFrom.and (ownFrom_cells (fun _ => Obj.cells #[.int .u64 0] 22 (0, 0)) (by omega)) (OwnFrom.and (ownFrom_cells (fun _ => Obj.cells #[.bool false] 4 (0, 0)) (by omega)) (fun _ _ _ _ h _ _ => h)))) (ownFrom_below (by omega) (by omega)))
    ⟨⟨k0, k1, k2, rfl⟩, hbw⟩
    (fun x => { tmps := #[.string s, undef, .pointer (some ⟨b0, 0, none⟩), .pointer (some ⟨b0 + 1, 0, none⟩), .pointer (some ⟨b0 + 2, 0, none⟩), .int .u64 (digI x), .bool (digB x), .string s, .func (.func 152) #[] #[.pointer (some ⟨b0 + 3, 0, none⟩)], .int .u64 (digI x), .bool (digB x), undef, undef, undef, undef, undef, undef, undef], defers := [] }) ?assign ?body ?done ?stop
  case assign =>
    intro l x W K hK
    unfold digE
    gi_wp2
    exact hK
  case body =>
    rintro l pre x W ⟨⟨h0, h1, h2, hd⟩, hb⟩ hlen
    have c2 : W.cell? ⟨b0 + 2, 0, none⟩ = some (.int .u64 (valN pre : Int)) := by rw [cell_of_row W (b0 + 2) 0 _ _ _ h2]; rfl
    have c0 : W.cell? ⟨b0, 0, none⟩ = some (.int .u64 0) := by rw [cell_of_row W b0 0 _ _ _ h0]; rfl
    have c1 : W.cell? ⟨b0 + 1, 0, none⟩ = some (.bool false) := by rw [cell_of_row W (b0 + 1) 0 _ _ _ h1]; rfl
    have f2 := frozen_of_row W (b0 + 2) 0 _ _ h2
    have f0 := frozen_of_row W b0 0 _ _ h0
    have f1 := frozen_of_row W (b0 + 1) 0 _ _ h1
    have hsz := (Array.getElem?_eq_some_iff.1 h2).1
    cases hx : digB x with
    | true =>
      have hv := valN_lt18 hd (by omega)
      obtain ⟨_, hx9, hx48⟩ := digC_of hx
      have e1 : digI x = ((x.toNat - 48 : Nat) : Int) := by unfold digI; rw [if_neg (by omega)]; omega
      obtain ⟨d, hdd⟩ : ∃ d, x.toNat - 48 = d := ⟨_, rfl⟩
      rw [hdd] at e1 hx9
      have hw1 : IntKind.u64.wrap (10 * (valN pre : Int)) = 10 * (valN pre : Int) := by simp [IntKind.wrap, IntKind.bits, IntKind.signed]; omega
      have hw2 : IntKind.u64.wrap (10 * (valN pre : Int) + (d : Int)) = 10 * (valN pre : Int) + (d : Int) := by simp [IntKind.wrap, IntKind.bits, IntKind.signed]; omega
      have hval : 10 * (valN pre : Int) + (d : Int) = ((valN (pre ++ [x]) : Nat) : Int) := by rw [valN_snoc, hdd]; omega
      rw [e1]
      gi_wp2
      have s2 := heap_setCell_same W (b0 + 2) 0 _ _ (.int .u64 ((valN (pre ++ [x]) : Nat) : Int)) h2
      refine ⟨KeepsOthers.setCell _ _ _, heap_setCell_other _ _ _ _ (by simp), ⟨⟨(heap_setCell_other _ _ _ _ (by simp)).trans h0, (heap_setCell_other _ _ _ _ (by simp)).trans h1, ?_, ?_⟩, hb.setCell (p := ⟨b0 + 2, 0, none⟩) (by simp) _⟩⟩
      · exact s2
      · rw [List.all_append, hd]; simp [hx]
    | false =>
      gi_wp2
      refine ⟨(KeepsOthers.setCell _ _ _).trans (KeepsOthers.setCell _ _ _), ⟨rfl, ?_, ?_, ?_⟩, (hb.setCell (p := ⟨b0, 0, none⟩) (Nat.le_refl _) _).setCell (p := ⟨b0 + 1, 0, none⟩) (by simp) _⟩
      · exact (heap_setCell_other _ _ _ _ (by simp)).trans (heap_setCell_same W b0 0 _ _ _ h0)
      · exact heap_setCell_same _ (b0 + 1) 0 _ _ _ ((heap_setCell_other _ _ _ _ (by simp)).trans h1)
      · rw [List.all_append, List.all_cons, hx]; simp
  case done =>
    rintro D xs W hD rfl ⟨⟨h0, h1, h2, hd⟩, hb⟩ hK
    have c2 : W.cell? ⟨b0 + 2, 0, none⟩ = some (.int .u64 (valN s.data.toList : Int)) := by rw [cell_of_row W (b0 + 2) 0 _ _ _ h2]; rfl
    have c0 : W.cell? ⟨b0, 0, none⟩ = some (.int .u64 0) := by rw [cell_of_row W b0 0 _ _ _ h0]; rfl
    have c1 : W.cell? ⟨b0 + 1, 0, none⟩ = some (.bool false) := by rw [cell_of_row W (b0 + 1) 0 _ _ _ h1]; rfl
    have f0 := frozen_of_row W b0 0 _ _ h0
    have f1 := frozen_of_row W (b0 + 1) 0 _ _ h1
    gi_wp2
    all_goals
      have g0 := (heap_setCell_other (W.setCell ⟨b0, 0, none⟩ (.int .u64 (valN s.data.toList : Int))) ⟨b0 + 1, 0, none⟩ b0 (.bool true) (by simp)).trans (heap_setCell_same W b0 0 _ _ (.int .u64 (valN s.data.toList : Int)) h0)
      have g1 := heap_setCell_same (W.setCell ⟨b0, 0, none⟩ (.int .u64 (valN s.data.toList : Int))) (b0 + 1) 0 _ _ (.bool true) ((heap_setCell_other W ⟨b0, 0, none⟩ (b0 + 1) (.int .u64 (valN s.data.toList : Int)) (by simp)).trans h1)
      have gK := (heap_setCell_other (W.setCell ⟨b0, 0, none⟩ (.int .u64 (valN s.data.toList : Int))) ⟨b0 + 1, 0, none⟩ D (.bool true) (by simp; omega)).trans ((heap_setCell_other W ⟨b0, 0, none⟩ D (.int .u64 (valN s.data.toList : Int)) (by simp; omega)).trans hK)
      have gb := (hb.setCell (p := ⟨b0, 0, none⟩) (Nat.le_refl _) (.int .u64 (valN s.data.toList : Int))).setCell (p := ⟨b0 + 1, 0, none⟩) (by simp) (.bool true)
      refine ⟨by simp, .inl ⟨_, _, rfl, run_takeDeferred gK, value_ret rfl rfl ((putObj_other (by omega) _).trans g0) ((putObj_other (by omega) _).trans g1) ⟨by simp, gb.trans (belowK_b (w := w1) (by omega) _ D _ _ (by omega) gK rfl rfl)⟩⟩⟩
  case stop =>
    rintro D c pre W hD hpre ⟨⟨rfl, h0, h1, hd⟩, hb⟩ hK
    have hall : s.data.toList.all digB = false := by
      obtain ⟨t, ht⟩ := hpre
      rw [← ht, List.all_append, hd]; rfl
    gi_wp2
    all_goals exact ⟨by simp, .inl ⟨_, _, rfl, run_takeDeferred hK, value_ret rfl rfl ((putObj_other (by omega) _).trans h0) ((putObj_other (by omega) _).trans h1) ⟨by simp, hb.trans (belowK_b (w := w1) (by omega) _ D _ _ (by omega) hK rfl rfl)⟩⟩⟩
end Go.Proofs.YtgfijlamhjjecaaGreatDoor


namespace Go.Proofs.YtgfijlamhjjecaaGreatDoor
open Go.RowKit
def tkv (c s : Nat) : Value := .agg #[.int .u8 (c : Int), .int .u64 (s : Int)]
def Parse7Q (t : Str) (w : World) (e : Ending) (w' : World) : Prop := e = .returned (.tuple #[tkv (parse7 t).1.1 (parse7 t).1.2, .int .i64 (parse7 t).2]) ∧ Below w.heap.size w w'
theorem parse7Q_of {t : Str} {c s : Nat} {k : Int} {w w' : World} (h : parse7 t = ((c, s), k)) (hb : Below w.heap.size w w') : Parse7Q t w (.returned (.tuple #[.agg #[.int .u8 (c : Int), .int .u64 (s : Int)], .int .i64 k])) w' := by
  unfold Parse7Q tkv
  rw [h]
  exact ⟨rfl, hb⟩
theorem res_tick {fn : Func} {p u : Tmp} (h : fn.results = #[.cell p 24, .tmp u]) (tmps : Array Value) {w : World} {g : Nat} {cs : Array Value} {x : Value} {t : TypeId} (hp : tmps.getD p undef = .pointer (some ⟨g, 0, none⟩)) (hu : tmps.getD u undef = x)
    (hg : w.heap[g]? = some (.cells cs t (0, 0))) (hs : cs.size = 2) : (results fn tmps).run Tryz.prog w = .ok (.tuple #[.agg cs, x]) w := by
  rw [results_cell_tmp h, hp, hu]
  have hl : (loadVar 24 ⟨g, 0, none⟩).run Tryz.prog w = .ok (.agg cs) w := run_loadVar_row w g t 24 cs (0, 0) _ hg Tryz.underlying24 rfl (by rw [hs]; kernel_rfl)
  simp [asAddr, hl, Result.andThen]
theorem parse7_len {t : Str} (h : t.length ≠ 14) : parse7 t = ((0, 0), 90) := by unfold parse7; rw [if_pos (.inl h)]
theorem parse7_dig {t : Str} (h : t.all digB = false) : parse7 t = ((0, 0), 90) := by unfold parse7; rw [if_pos (.inr (by simp [h]))]
theorem parse7_chk {t : Str} (h1 : t.length = 14) (h2 : t.all digB = true) (h : valN t / 10 % 7 ≠ valN t % 10) : parse7 t = ((0, 0), 70) := by
  unfold parse7; rw [if_neg (by simp [h1, h2]), if_pos h]
theorem parse7_arg {t : Str} (h1 : t.length = 14) (h2 : t.all digB = true) (h : valN t / 10 % 7 = valN t % 10) (h3 : mayT (valN t / 100000000000) (valN t / 10 % 10000000000) = false) : parse7 t = ((0, 0), 1) := by
  unfold parse7; rw [if_neg (by simp [h1, h2]), if_neg (by simp [h]), if_neg (by simp [h3])]
theorem parse7_yes {t : Str} (h1 : t.length = 14) (h2 : t.all digB = true) (h : valN t / 10 % 7 = valN t % 10) (h3 : mayT (valN t / 100000000000) (valN t / 10 % 10000000000) = true) : parse7 t = ((valN t / 100000000000, valN t / 10 % 10000000000), 0) := by
  unfold parse7; rw [if_neg (by simp [h1, h2]), if_neg (by simp [h]), if_pos h3]
set_option maxRecDepth 100000 in
set_option maxHeartbeats 4000000 in
theorem nParse_any (s : ByteArray) (w : World) : Calls Tryz.prog 54 #[.string s] w fun e w' => Parse7Q s.data.toList w e w' := by
  have hsl : s.data.toList.length = s.size := rfl
  obtain ⟨t, ht⟩ : ∃ t, s.data.toList = t := ⟨_, rfl⟩
  rw [ht] at hsl ⊢
  by_cases h14 : s.size = 14
  · have i1 : ((s.size : Int) != 14) = false := by simp [h14]
    have hv := value_any s (by omega)
    rw [ht] at hv
    clear ht
    cases hd : t.all digB with
    | false =>
      rw [hd, if_neg (by simp)] at hv
      have HQ := Lib.hid (parse7_dig hd)
      have HV := Lib.hid hv
      clear hv hd hsl h14
      go_enter Tryz.func54, Tryz.ntmps54
      go_wp2_with (go_at_call 87; refine (HV.out _).mono ?_; rintro e w1 ⟨rfl, hb⟩; have HB := Lib.hid hb; have hr : w1.heap[w.heap.size]? = some (.cells #[.int .u8 0, .int .u64 0] 24 (0, 0)) := (hb.block w.heap.size (by simp)).trans (heap_alloc_new _ _); have r0 : w1.cell? ⟨w.heap.size, 0, none⟩ = some (.int .u8 0) := cell_of_row w1 w.heap.size 0 _ _ _ hr; have r1 : w1.cell? ⟨w.heap.size, 1, none⟩ = some (.int .u64 0) := cell_of_row w1 w.heap.size 1 _ _ _ hr; have z0 := frozen_of_row w1 w.heap.size 0 _ _ hr; have z1 := frozen_of_row w1 w.heap.size 1 _ _ hr; have HR := Lib.hid hr; clear hb hr)
      refine bodyPost_ret (res_tick rfl _ rfl rfl (heap_setCell_same _ w.heap.size 1 _ _ _ (heap_setCell_same _ w.heap.size 0 _ _ _ HR.out)) rfl) rfl ?_
      exact parse7Q_of HQ.out (((((Below.refl _ _).alloc (Nat.le_refl _) _).trans (HB.out.mono (by simp))).setCell (Nat.le_refl _) _).setCell (Nat.le_refl _) _)
    | true =>
      rw [hd, if_pos rfl] at hv
      have hlt := valN_lt t hd
      rw [hsl, h14] at hlt
      have l14 : t.length = 14 := hsl.trans h14
      by_cases hk : valN t / 10 % 7 = valN t % 10
      · cases hm : mayT (valN t / 100000000000) (valN t / 10 % 10000000000) with
        | true =>
          have HQ := Lib.hid (parse7_yes l14 hd hk hm)
          obtain ⟨V, hV⟩ : ∃ V, valN t = V := ⟨_, rfl⟩
          rw [hV] at hv hlt hk hm HQ
          obtain ⟨h1, _, h3⟩ := mayT_iff.1 hm
          have q1 : (V : Int).tdiv 100000000000 = ((V / 100000000000 : Nat) : Int) := by rw [Int.tdiv_eq_ediv_of_nonneg (by omega)]; omega
          have q2 : (V : Int).tdiv 10 = ((V / 10 : Nat) : Int) := by rw [Int.tdiv_eq_ediv_of_nonneg (by omega)]; omega
          have q3 : ((V / 10 : Nat) : Int).tmod 10000000000 = ((V / 10 % 10000000000 : Nat) : Int) := by rw [Int.tmod_eq_emod_of_nonneg (by omega)]; omega
          have q4 : ((V / 10 : Nat) : Int).tmod 7 = ((V / 10 % 7 : Nat) : Int) := by rw [Int.tmod_eq_emod_of_nonneg (by omega)]; omega
          have q5 : (V : Int).tmod 10 = ((V % 10 : Nat) : Int) := by rw [Int.tmod_eq_emod_of_nonneg (by omega)]; omega
          have HK := Lib.hid hk
          have HM := Lib.hid hm
          have HV := Lib.hid hv
          generalize hA : V / 100000000000 = A at *
          generalize hC : V / 10 % 10000000000 = C at *
          generalize hD : V / 10 % 7 = D at *
          generalize hE : V % 10 = E at *
          generalize hF : V / 10 = F at *
          have dd : ((D : Int) != (E : Int)) = false := by rw [hk]; simp
          have w1 : IntKind.u64.wrap (A : Int) = (A : Int) := by rw [IntKind.wrap_u64]; omega
          have w2 : IntKind.u64.wrap (C : Int) = (C : Int) := by rw [IntKind.wrap_u64]; omega
          have w3 : IntKind.u64.wrap (D : Int) = (D : Int) := by rw [IntKind.wrap_u64]; omega
          have w4 : IntKind.u64.wrap (E : Int) = (E : Int) := by rw [IntKind.wrap_u64]; omega
          have w5 : IntKind.u64.wrap (F : Int) = (F : Int) := by rw [IntKind.wrap_u64]; omega
          have w6 : IntKind.u8.wrap (A : Int) = (A : Int) := by simp [IntKind.wrap, IntKind.bits, IntKind.signed]; omega
          clear hv hd hsl h14 l14 hlt hk hm hA hC hD hE hF hV h1 h3
          go_enter Tryz.func54, Tryz.ntmps54
          go_wp2_with (first | (go_at_call 84; refine (nmay_any _ _ _).mono ?_; rw [HM.out]; rintro e w2 ⟨rfl, rfl⟩) | (go_at_call 87; refine (HV.out _).mono ?_; rintro e w1 ⟨rfl, hb⟩; have HB := Lib.hid hb; have hr : w1.heap[w.heap.size]? = some (.cells #[.int .u8 0, .int .u64 0] 24 (0, 0)) := (hb.block w.heap.size (by simp)).trans (heap_alloc_new _ _); have r0 : w1.cell? ⟨w.heap.size, 0, none⟩ = some (.int .u8 0) := cell_of_row w1 w.heap.size 0 _ _ _ hr; have r1 : w1.cell? ⟨w.heap.size, 1, none⟩ = some (.int .u64 0) := cell_of_row w1 w.heap.size 1 _ _ _ hr; have z0 := frozen_of_row w1 w.heap.size 0 _ _ hr; have z1 := frozen_of_row w1 w.heap.size 1 _ _ hr; have HR := Lib.hid hr; clear hb hr))
          refine bodyPost_ret (res_tick rfl _ rfl rfl (heap_setCell_same _ w.heap.size 1 _ _ _ (heap_setCell_same _ w.heap.size 0 _ _ _ HR.out)) rfl) rfl ?_
          exact parse7Q_of HQ.out (((((Below.refl _ _).alloc (Nat.le_refl _) _).trans (HB.out.mono (by simp))).setCell (Nat.le_refl _) _).setCell (Nat.le_refl _) _)
        | false =>
          have HQ := Lib.hid (parse7_arg l14 hd hk hm)
          obtain ⟨V, hV⟩ : ∃ V, valN t = V := ⟨_, rfl⟩
          rw [hV] at hv hlt hk hm
          have q1 : (V : Int).tdiv 100000000000 = ((V / 100000000000 : Nat) : Int) := by rw [Int.tdiv_eq_ediv_of_nonneg (by omega)]; omega
          have q2 : (V : Int).tdiv 10 = ((V / 10 : Nat) : Int) := by rw [Int.tdiv_eq_ediv_of_nonneg (by omega)]; omega
          have q3 : ((V / 10 : Nat) : Int).tmod 10000000000 = ((V / 10 % 10000000000 : Nat) : Int) := by rw [Int.tmod_eq_emod_of_nonneg (by omega)]; omega
          have q4 : ((V / 10 : Nat) : Int).tmod 7 = ((V / 10 % 7 : Nat) : Int) := by rw [Int.tmod_eq_emod_of_nonneg (by omega)]; omega
          have q5 : (V : Int).tmod 10 = ((V % 10 : Nat) : Int) := by rw [Int.tmod_eq_emod_of_nonneg (by omega)]; omega
          have HK := Lib.hid hk
          have HM := Lib.hid hm
          have HV := Lib.hid hv
          generalize hA : V / 100000000000 = A at *
          generalize hC : V / 10 % 10000000000 = C at *
          generalize hD : V / 10 % 7 = D at *
          generalize hE : V % 10 = E at *
          generalize hF : V / 10 = F at *
          have dd : ((D : Int) != (E : Int)) = false := by rw [hk]; simp
          have w1 : IntKind.u64.wrap (A : Int) = (A : Int) := by rw [IntKind.wrap_u64]; omega
          have w2 : IntKind.u64.wrap (C : Int) = (C : Int) := by rw [IntKind.wrap_u64]; omega
          have w3 : IntKind.u64.wrap (D : Int) = (D : Int) := by rw [IntKind.wrap_u64]; omega
          have w4 : IntKind.u64.wrap (E : Int) = (E : Int) := by rw [IntKind.wrap_u64]; omega
          have w5 : IntKind.u64.wrap (F : Int) = (F : Int) := by rw [IntKind.wrap_u64]; omega
          clear hv hd hsl h14 l14 hlt hk hm hA hC hD hE hF hV
          go_enter Tryz.func54, Tryz.ntmps54
          go_wp2_with (first | (go_at_call 84; refine (nmay_any _ _ _).mono ?_; rw [HM.out]; rintro e w2 ⟨rfl, rfl⟩) | (go_at_call 87; refine (HV.out _).mono ?_; rintro e w1 ⟨rfl, hb⟩; have HB := Lib.hid hb; have hr : w1.heap[w.heap.size]? = some (.cells #[.int .u8 0, .int .u64 0] 24 (0, 0)) := (hb.block w.heap.size (by simp)).trans (heap_alloc_new _ _); have r0 : w1.cell? ⟨w.heap.size, 0, none⟩ = some (.int .u8 0) := cell_of_row w1 w.heap.size 0 _ _ _ hr; have r1 : w1.cell? ⟨w.heap.size, 1, none⟩ = some (.int .u64 0) := cell_of_row w1 w.heap.size 1 _ _ _ hr; have z0 := frozen_of_row w1 w.heap.size 0 _ _ hr; have z1 := frozen_of_row w1 w.heap.size 1 _ _ hr; have HR := Lib.hid hr; clear hb hr))
          refine bodyPost_ret (res_tick rfl _ rfl rfl (heap_setCell_same _ w.heap.size 1 _ _ _ (heap_setCell_same _ w.heap.size 0 _ _ _ HR.out)) rfl) rfl ?_
          exact parse7Q_of HQ.out (((((Below.refl _ _).alloc (Nat.le_refl _) _).trans (HB.out.mono (by simp))).setCell (Nat.le_refl _) _).setCell (Nat.le_refl _) _)
      · skip
        have HQ := Lib.hid (parse7_chk l14 hd hk)
        obtain ⟨V, hV⟩ : ∃ V, valN t = V := ⟨_, rfl⟩
        rw [hV] at hv hlt hk
        have q1 : (V : Int).tdiv 100000000000 = ((V / 100000000000 : Nat) : Int) := by rw [Int.tdiv_eq_ediv_of_nonneg (by omega)]; omega
        have q2 : (V : Int).tdiv 10 = ((V / 10 : Nat) : Int) := by rw [Int.tdiv_eq_ediv_of_nonneg (by omega)]; omega
        have q3 : ((V / 10 : Nat) : Int).tmod 10000000000 = ((V / 10 % 10000000000 : Nat) : Int) := by rw [Int.tmod_eq_emod_of_nonneg (by omega)]; omega
        have q4 : ((V / 10 : Nat) : Int).tmod 7 = ((V / 10 % 7 : Nat) : Int) := by rw [Int.tmod_eq_emod_of_nonneg (by omega)]; omega
        have q5 : (V : Int).tmod 10 = ((V % 10 : Nat) : Int) := by rw [Int.tmod_eq_emod_of_nonneg (by omega)]; omega
        have HK := Lib.hid hk
        have HV := Lib.hid hv
        generalize hA : V / 100000000000 = A at *
        generalize hC : V / 10 % 10000000000 = C at *
        generalize hD : V / 10 % 7 = D at *
        generalize hE : V % 10 = E at *
        generalize hF : V / 10 = F at *
        have dd : ((D : Int) != (E : Int)) = true := by rw [bne_iff_ne]; omega
        have w1 : IntKind.u64.wrap (A : Int) = (A : Int) := by rw [IntKind.wrap_u64]; omega
        have w2 : IntKind.u64.wrap (C : Int) = (C : Int) := by rw [IntKind.wrap_u64]; omega
        have w3 : IntKind.u64.wrap (D : Int) = (D : Int) := by rw [IntKind.wrap_u64]; omega
        have w4 : IntKind.u64.wrap (E : Int) = (E : Int) := by rw [IntKind.wrap_u64]; omega
        have w5 : IntKind.u64.wrap (F : Int) = (F : Int) := by rw [IntKind.wrap_u64]; omega
        clear hv hd hsl h14 l14 hlt hk hA hC hD hE hF hV
        go_enter Tryz.func54, Tryz.ntmps54
        go_wp2_with (first | (go_at_call 87; refine (HV.out _).mono ?_; rintro e w1 ⟨rfl, hb⟩; have HB := Lib.hid hb; have hr : w1.heap[w.heap.size]? = some (.cells #[.int .u8 0, .int .u64 0] 24 (0, 0)) := (hb.block w.heap.size (by simp)).trans (heap_alloc_new _ _); have r0 : w1.cell? ⟨w.heap.size, 0, none⟩ = some (.int .u8 0) := cell_of_row w1 w.heap.size 0 _ _ _ hr; have r1 : w1.cell? ⟨w.heap.size, 1, none⟩ = some (.int .u64 0) := cell_of_row w1 w.heap.size 1 _ _ _ hr; have z0 := frozen_of_row w1 w.heap.size 0 _ _ hr; have z1 := frozen_of_row w1 w.heap.size 1 _ _ hr; have HR := Lib.hid hr; clear hb hr))
        refine bodyPost_ret (res_tick rfl _ rfl rfl (heap_setCell_same _ w.heap.size 1 _ _ _ (heap_setCell_same _ w.heap.size 0 _ _ _ HR.out)) rfl) rfl ?_
        exact parse7Q_of HQ.out (((((Below.refl _ _).alloc (Nat.le_refl _) _).trans (HB.out.mono (by simp))).setCell (Nat.le_refl _) _).setCell (Nat.le_refl _) _)
  · have i1 : ((s.size : Int) != 14) = true := by simp; omega
    have HQ := Lib.hid (parse7_len (t := t) (by omega))
    clear hsl ht h14
    go_enter Tryz.func54, Tryz.ntmps54
    go_wp2_with fail
    refine bodyPost_ret (res_tick rfl _ rfl rfl (heap_alloc_new _ _) rfl) rfl ?_
    exact parse7Q_of HQ.out ((Below.refl _ _).alloc (Nat.le_refl _) _)
end Go.Proofs.YtgfijlamhjjecaaGreatDoor


namespace Go.Proofs.YtgfijlamhjjecaaGreatDoor
open Go.RowKit
section
variable {P : Program} {ops : Array Oper} {rest : List Oper} {o : Oper} {a : Act} {w : World} {Q : Exit → Act → World → Prop}
theorem there_of {w : World} {b off : Nat} {cs : Array Value} {t : TypeId} (hb : w.heap[b]? = some (.cells cs t (0, 0))) (m : Nat) (h : off + m ≤ cs.size) : w.there b off m := fun j hj =>
  ⟨by rw [cell_of_row w b (off + j) _ _ _ hb, Array.getElem?_eq_getElem (by omega)]; rfl, frozen_of_row w b (off + j) _ _ hb⟩
theorem wpList_store_agg (hgd : o.guard = none) (ty : TypeId) (x y : Operand) (ho : o.op = .store ty x y) (b off : Nat) (cs : List Value) (hx : a.eval x = .pointer (some ⟨b, off, none⟩)) (hy : a.eval y = .agg cs.toArray)
    (ht : w.there b off cs.length) (hi : (P.info? ty).map (·.size) = some cs.length) (h1 : cs.all (·.oneCell') = true) (h : wpList P ops Q rest (a.put o.dst undef) (w.setCells b off cs)) : wpList P ops Q (o :: rest) a w := by
  refine wpList_skipv hgd ?_ h
  have h2 := run_storeAt_mid (P := P) w b off ty cs.toArray (by simpa using ht) (by simpa using hi) (by simpa using h1)
  unfold execOp
  simp only [ho, hx, hy, Sem.run_bind, h2, Result.andThen_ok, Sem.run_pure]
end
theorem putL_heap_aux {g : Nat} {t : TypeId} : ∀ (vs pre rest : List Value) (w : World) (i : Nat), w.heap[g]? = some (.cells (pre ++ rest).toArray t (0, 0)) → pre.length = i → rest.length = vs.length → (w.setCells g i vs).heap[g]? = some (.cells (pre ++ vs).toArray t (0, 0))
  | [], pre, rest, w, i, h, _, hl => by
    have : rest = [] := List.eq_nil_of_length_eq_zero hl
    subst this; exact h
  | v :: vs, pre, rest, w, i, h, hp, hl => by
    cases rest with
    | nil => simp at hl
    | cons r rest =>
      have h1 := heap_setCell_same w g i _ _ v h
      rw [List.setIfInBounds_toArray, List.set_append_right _ _ (by omega), ← hp, Nat.sub_self, List.set_cons_zero] at h1
      have h2 := putL_heap_aux (t := t) vs (pre ++ [v]) rest (w.setCell ⟨g, i, none⟩ v) (i + 1) (by rw [← hp, h1]; simp) (by simp [hp]) (by simpa using hl)
      rw [List.append_assoc] at h2
      exact h2
theorem putL_heap {w : World} {g : Nat} {t : TypeId} {cs : List Value} (h : w.heap[g]? = some (.cells cs.toArray t (0, 0))) (vs : List Value) (hl : cs.length = vs.length) : (w.setCells g 0 vs).heap[g]? = some (.cells vs.toArray t (0, 0)) :=
  putL_heap_aux vs [] cs w 0 h rfl hl
theorem putL_below {B g : Nat} {w0 : World} (hg : B ≤ g) : ∀ (vs : List Value) (w : World) (i : Nat), Below B w0 w → Below B w0 (w.setCells g i vs)
  | [], _, _, h => h
  | _ :: vs, _, _, h => putL_below hg vs _ _ (h.setCell hg _)
theorem cells16 {w : World} {g : Nat} {a0 a1 a2 a3 a4 a5 a6 a7 a8 a9 a10 a11 a12 a13 a14 a15 : Value} {t : TypeId} (h : w.heap[g]? = some (.cells #[a0, a1, a2, a3, a4, a5, a6, a7, a8, a9, a10, a11, a12, a13, a14, a15] t (0, 0))) :
    (w.cell? ⟨g, 0, none⟩ = some a0 ∧ w.cell? ⟨g, 1, none⟩ = some a1 ∧ w.cell? ⟨g, 2, none⟩ = some a2 ∧ w.cell? ⟨g, 3, none⟩ = some a3 ∧ w.cell? ⟨g, 4, none⟩ = some a4 ∧ w.cell? ⟨g, 5, none⟩ = some a5 ∧ w.cell? ⟨g, 6, none⟩ = some a6 ∧ w.cell? ⟨g, 7, none⟩ = some a7 ∧ w.cell? ⟨g, 8, none⟩ = some a8 ∧ w.cell? ⟨g, 9, none⟩ = some a9 ∧ w.cell? ⟨g, 10, none⟩ = some a10 ∧ w.cell? ⟨g, 11, none⟩ = some a11 ∧ w.cell? ⟨g, 12, none⟩ = some a12 ∧ w.cell? ⟨g, 13, none⟩ = some a13 ∧ w.cell? ⟨g, 14, none⟩ = some a14 ∧ w.cell? ⟨g, 15, none⟩ = some a15) ∧
    (w.frozen? ⟨g, 0, none⟩ = false ∧ w.frozen? ⟨g, 1, none⟩ = false ∧ w.frozen? ⟨g, 2, none⟩ = false ∧ w.frozen? ⟨g, 3, none⟩ = false ∧ w.frozen? ⟨g, 4, none⟩ = false ∧ w.frozen? ⟨g, 5, none⟩ = false ∧ w.frozen? ⟨g, 6, none⟩ = false ∧ w.frozen? ⟨g, 7, none⟩ = false ∧ w.frozen? ⟨g, 8, none⟩ = false ∧ w.frozen? ⟨g, 9, none⟩ = false ∧ w.frozen? ⟨g, 10, none⟩ = false ∧ w.frozen? ⟨g, 11, none⟩ = false ∧ w.frozen? ⟨g, 12, none⟩ = false ∧ w.frozen? ⟨g, 13, none⟩ = false ∧ w.frozen? ⟨g, 14, none⟩ = false ∧ w.frozen? ⟨g, 15, none⟩ = false) := by
  have c := fun j => cell_of_row w g j _ _ _ h
  have f := fun j => frozen_of_row w g j _ _ h
  exact ⟨⟨c 0, c 1, c 2, c 3, c 4, c 5, c 6, c 7, c 8, c 9, c 10, c 11, c 12, c 13, c 14, c 15⟩, f 0, f 1, f 2, f 3, f 4, f 5, f 6, f 7, f 8, f 9, f 10, f 11, f 12, f 13, f 14, f 15⟩
theorem res_pkt {fn : Func} {p u : Tmp} (h : fn.results = #[.cell p 38, .tmp u]) (tmps : Array Value) {w : World} {g : Nat} {cs : Array Value} {x : Value} {t : TypeId} (hp : tmps.getD p undef = .pointer (some ⟨g, 0, none⟩)) (hu : tmps.getD u undef = x)
    (hg : w.heap[g]? = some (.cells cs t (0, 0))) (hs : cs.size = 16) : (results fn tmps).run Tryz.prog w = .ok (.tuple #[.agg cs, x]) w := by
  rw [results_cell_tmp h, hp, hu]
  have hl : (loadVar 38 ⟨g, 0, none⟩).run Tryz.prog w = .ok (.agg cs) w := run_loadVar_row w g t 38 cs (0, 0) _ hg Tryz.underlying38 rfl (by rw [hs]; kernel_rfl)
  simp [asAddr, hl, Result.andThen]
def PacketQ (x : WD) (w : World) (e : Ending) (w' : World) : Prop := e = .returned (.tuple #[.agg (pktA (packetM x).1).toArray, .int .i64 (packetM x).2]) ∧ Below w.heap.size w w'
abbrev pkz : List Value := [.int .u8 0, .int .u8 0, .bool false, .int .u64 0, .int .u8 0, .int .u8 0, .int .u64 0, .int .u8 0, .int .u8 0, .int .u16 0, .int .u32 0, .int .i64 0, .int .u8 0, .int .u32 0, .int .i64 0, .int .i64 0]
theorem pq_err {x : WD} {w w' : World} {k : Int} (h : packetM x = (pd0, k)) (hb : Below w.heap.size w w') : PacketQ x w (.returned (.tuple #[.agg #[.int .u8 0, .int .u8 0, .bool false, .int .u64 0, .int .u8 0, .int .u8 0, .int .u64 0, .int .u8 0, .int .u8 0, .int .u16 0, .int .u32 0, .int .i64 0, .int .u8 0, .int .u32 0, .int .i64 0, .int .i64 0], .int .i64 k])) w' := by
  unfold PacketQ
  rw [h]
  exact ⟨rfl, hb⟩
end Go.Proofs.YtgfijlamhjjecaaGreatDoor

