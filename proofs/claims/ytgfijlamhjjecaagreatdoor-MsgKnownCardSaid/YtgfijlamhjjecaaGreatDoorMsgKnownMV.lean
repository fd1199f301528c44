/-
  MsgKnownV: the walk of MsgKnown. No condition but the laid variables.
-/
import Derived.Test.YtgfijlamhjjecaaGreatDoorMx11
import Derived.Test.YtgfijlamhjjecaaGreatDoorMx12
import Derived.Test.YtgfijlamhjjecaaGreatDoorMx4
import Derived.Deep.CutBlock
import Derived.IntWalk
namespace Go.Proofs.YtgfijlamhjjecaaGreatDoor
open Go.RowKit
theorem cat_toL (a b : ByteArray) : (a ++ b).data.toList = a.data.toList ++ b.data.toList := by simp [ByteArray.data_append]
theorem key_cells {w : World} {b : Nat} {t : TypeId} {x y z : Value} (h : w.heap[b]? = some (.cells #[x, y, z] t (0, 0))) : w.cell? ⟨b, 0, none⟩ = some x ∧ w.cell? ⟨b, 1, none⟩ = some y ∧ w.cell? ⟨b, 2, none⟩ = some z :=
  ⟨cell_of_row w b 0 _ _ _ h, cell_of_row w b 1 _ _ _ h, cell_of_row w b 2 _ _ _ h⟩
theorem cpn_cells {w : World} {b : Nat} {t : TypeId} {x0 x1 x2 x3 x4 x5 : Value} (h : w.heap[b]? = some (.cells #[x0, x1, x2, x3, x4, x5] t (0, 0))) : w.cell? ⟨b, 0, none⟩ = some x0 ∧ w.cell? ⟨b, 1, none⟩ = some x1 ∧ w.cell? ⟨b, 2, none⟩ = some x2 ∧ w.cell? ⟨b, 3, none⟩ = some x3 ∧ w.cell? ⟨b, 4, none⟩ = some x4 ∧ w.cell? ⟨b, 5, none⟩ = some x5 :=
  ⟨cell_of_row w b 0 _ _ _ h, cell_of_row w b 1 _ _ _ h, cell_of_row w b 2 _ _ _ h, cell_of_row w b 3 _ _ _ h, cell_of_row w b 4 _ _ _ h, cell_of_row w b 5 _ _ _ h⟩
set_option maxRecDepth 100000 in
theorem msg_b96 {ev : Operand → Value} {x : Operand} {d : Option Tmp} {ty : TypeId} {ps : String} {af : Array Edge} {w' : World} (h0 : ev (.const (.int .u8 1)) = .int .u8 1) (h1 : ev x = .agg #[.int .u8 1, .int .u64 1, .int .u8 3]) (h2 : ev (.const (.int .i64 1)) = .int .i64 1) :
    (execOp ev { dst := d, op := .build 36 #[(0, .const (.int .u8 1)), (1, x), (3, .const (.int .i64 1))], type := ty, pos := ps, after := af, guard := none }).run Tryz.prog w' = .ok (.value (.agg #[.int .u8 1, .int .u8 1, .int .u64 1, .int .u8 3, .int .u8 0, .int .u16 0, .int .u32 0, .int .i64 0, .int .u8 0, .int .u32 0, .int .i64 1, .int .i64 0])) w' := by
  go_simp
set_option maxRecDepth 100000 in
theorem msg_b98 {ev : Operand → Value} {x : Operand} {d : Option Tmp} {ty : TypeId} {ps : String} {af : Array Edge} {w' : World} (h0 : ev (.const (.int .u8 1)) = .int .u8 1) (h1 : ev x = .agg #[.int .u8 1, .int .u64 1, .int .u8 3]) (h2 : ev (.const (.int .i64 1)) = .int .i64 1) :
    (execOp ev { dst := d, op := .build 36 #[(0, .const (.int .u8 1)), (1, x), (4, .const (.int .i64 1))], type := ty, pos := ps, after := af, guard := none }).run Tryz.prog w' = .ok (.value (.agg #[.int .u8 1, .int .u8 1, .int .u64 1, .int .u8 3, .int .u8 0, .int .u16 0, .int .u32 0, .int .i64 0, .int .u8 0, .int .u32 0, .int .i64 0, .int .i64 1])) w' := by
  go_simp
set_option maxRecDepth 100000 in
theorem msg_b101 {ev : Operand → Value} {x y : Operand} {d : Option Tmp} {ty : TypeId} {ps : String} {af : Array Edge} {w' : World} (h0 : ev (.const (.int .u8 1)) = .int .u8 1) (h1 : ev x = .agg #[.int .u8 1, .int .u64 1, .int .u8 3]) (h2 : ev y = .agg #[.int .u8 7, .int .u16 65535, .int .u32 4294967295, .int .i64 (-5), .int .u8 7, .int .u32 9]) :
    (execOp ev { dst := d, op := .build 36 #[(0, .const (.int .u8 1)), (1, x), (2, y)], type := ty, pos := ps, after := af, guard := none }).run Tryz.prog w' = .ok (.value (.agg #[.int .u8 1, .int .u8 1, .int .u64 1, .int .u8 3, .int .u8 7, .int .u16 65535, .int .u32 4294967295, .int .i64 (-5), .int .u8 7, .int .u32 9, .int .i64 0, .int .i64 0])) w' := by
  go_simp
set_option maxRecDepth 100000 in
theorem msg_b103 {ev : Operand → Value} {x : Operand} {d : Option Tmp} {ty : TypeId} {ps : String} {af : Array Edge} {w' : World} (h0 : ev (.const (.int .u8 2)) = .int .u8 2) (h1 : ev x = .agg #[.int .u8 1, .int .u64 1, .int .u8 3]) :
    (execOp ev { dst := d, op := .build 36 #[(0, .const (.int .u8 2)), (1, x)], type := ty, pos := ps, after := af, guard := none }).run Tryz.prog w' = .ok (.value (.agg #[.int .u8 2, .int .u8 1, .int .u64 1, .int .u8 3, .int .u8 0, .int .u16 0, .int .u32 0, .int .i64 0, .int .u8 0, .int .u32 0, .int .i64 0, .int .i64 0])) w' := by
  go_simp
set_option maxRecDepth 100000 in
theorem msg_b105 {ev : Operand → Value} {x : Operand} {d : Option Tmp} {ty : TypeId} {ps : String} {af : Array Edge} {w' : World} (h0 : ev (.const (.int .u8 3)) = .int .u8 3) (h1 : ev x = .agg #[.int .u8 1, .int .u64 1, .int .u8 3]) (h2 : ev (.const (.int .i64 1000)) = .int .i64 1000) :
    (execOp ev { dst := d, op := .build 36 #[(0, .const (.int .u8 3)), (1, x), (4, .const (.int .i64 1000))], type := ty, pos := ps, after := af, guard := none }).run Tryz.prog w' = .ok (.value (.agg #[.int .u8 3, .int .u8 1, .int .u64 1, .int .u8 3, .int .u8 0, .int .u16 0, .int .u32 0, .int .i64 0, .int .u8 0, .int .u32 0, .int .i64 0, .int .i64 1000])) w' := by
  go_simp
set_option maxRecDepth 100000 in
theorem msg_b107 {ev : Operand → Value} {x : Operand} {d : Option Tmp} {ty : TypeId} {ps : String} {af : Array Edge} {w' : World} (h0 : ev (.const (.int .u8 3)) = .int .u8 3) (h1 : ev x = .agg #[.int .u8 1, .int .u64 1, .int .u8 3]) (h2 : ev (.const (.int .i64 (-1))) = .int .i64 (-1)) :
    (execOp ev { dst := d, op := .build 36 #[(0, .const (.int .u8 3)), (1, x), (4, .const (.int .i64 (-1)))], type := ty, pos := ps, after := af, guard := none }).run Tryz.prog w' = .ok (.value (.agg #[.int .u8 3, .int .u8 1, .int .u64 1, .int .u8 3, .int .u8 0, .int .u16 0, .int .u32 0, .int .i64 0, .int .u8 0, .int .u32 0, .int .i64 0, .int .i64 (-1)])) w' := by
  go_simp
set_option maxRecDepth 100000 in
theorem msg_b109 {ev : Operand → Value} {x : Operand} {d : Option Tmp} {ty : TypeId} {ps : String} {af : Array Edge} {w' : World} (h0 : ev (.const (.int .u8 6)) = .int .u8 6) (h1 : ev x = .agg #[.int .u8 1, .int .u64 1, .int .u8 3]) (h2 : ev (.const (.int .i64 1125899906842625)) = .int .i64 1125899906842625) :
    (execOp ev { dst := d, op := .build 36 #[(0, .const (.int .u8 6)), (1, x), (3, .const (.int .i64 1125899906842625))], type := ty, pos := ps, after := af, guard := none }).run Tryz.prog w' = .ok (.value (.agg #[.int .u8 6, .int .u8 1, .int .u64 1, .int .u8 3, .int .u8 0, .int .u16 0, .int .u32 0, .int .i64 0, .int .u8 0, .int .u32 0, .int .i64 1125899906842625, .int .i64 0])) w' := by
  go_simp
set_option maxRecDepth 100000 in
theorem msg_b113 {ev : Operand → Value} {x : Operand} {d : Option Tmp} {ty : TypeId} {ps : String} {af : Array Edge} {w' : World} (h0 : ev (.const (.int .u8 1)) = .int .u8 1) (h1 : ev x = .agg #[.int .u8 1, .int .u64 1, .int .u8 4]) :
    (execOp ev { dst := d, op := .build 36 #[(0, .const (.int .u8 1)), (1, x)], type := ty, pos := ps, after := af, guard := none }).run Tryz.prog w' = .ok (.value (.agg #[.int .u8 1, .int .u8 1, .int .u64 1, .int .u8 4, .int .u8 0, .int .u16 0, .int .u32 0, .int .i64 0, .int .u8 0, .int .u32 0, .int .i64 0, .int .i64 0])) w' := by
  go_simp
set_option maxRecDepth 100000 in
theorem pkt_build4 {ev : Operand → Value} {x : Operand} {d : Option Tmp} {ty : TypeId} {ps : String} {af : Array Edge} {k tc ts pl car fl we st no : Nat} {va am co : Int} {w' : World} (h : ev x = .agg #[.int .u8 (k : Int), .int .u8 (tc : Int), .int .u64 (ts : Int), .int .u8 (pl : Int), .int .u8 (car : Int), .int .u16 (fl : Int), .int .u32 (we : Int), .int .i64 va, .int .u8 (st : Int), .int .u32 (no : Int), .int .i64 am, .int .i64 co]) :
    (execOp ev { dst := d, op := .build 38 #[(4, x)], type := ty, pos := ps, after := af, guard := none }).run Tryz.prog w' = .ok (.value (.agg #[.int .u8 0, .int .u8 0, .bool false, .int .u64 0, .int .u8 (k : Int), .int .u8 (tc : Int), .int .u64 (ts : Int), .int .u8 (pl : Int), .int .u8 (car : Int), .int .u16 (fl : Int), .int .u32 (we : Int), .int .i64 va, .int .u8 (st : Int), .int .u32 (no : Int), .int .i64 am, .int .i64 co])) w' := by
  go_simp
set_option maxRecDepth 100000 in
theorem pkt_build7 {ev : Operand → Value} {x : Operand} {d : Option Tmp} {ty : TypeId} {ps : String} {af : Array Edge} {k tc ts pl car fl we st no : Nat} {va am co : Int} {w' : World} (h0 : ev (.const (.int .u8 7)) = .int .u8 7) (h : ev x = .agg #[.int .u8 (k : Int), .int .u8 (tc : Int), .int .u64 (ts : Int), .int .u8 (pl : Int), .int .u8 (car : Int), .int .u16 (fl : Int), .int .u32 (we : Int), .int .i64 va, .int .u8 (st : Int), .int .u32 (no : Int), .int .i64 am, .int .i64 co]) :
    (execOp ev { dst := d, op := .build 38 #[(0, .const (.int .u8 7)), (4, x)], type := ty, pos := ps, after := af, guard := none }).run Tryz.prog w' = .ok (.value (.agg #[.int .u8 7, .int .u8 0, .bool false, .int .u64 0, .int .u8 (k : Int), .int .u8 (tc : Int), .int .u64 (ts : Int), .int .u8 (pl : Int), .int .u8 (car : Int), .int .u16 (fl : Int), .int .u32 (we : Int), .int .i64 va, .int .u8 (st : Int), .int .u32 (no : Int), .int .i64 am, .int .i64 co])) w' := by
  go_simp
set_option maxRecDepth 100000 in
theorem kb_133 {ev : Operand → Value}  {d : Option Tmp} {ty : TypeId} {ps : String} {af : Array Edge} {w' : World} (h0 : ev (.const (.int .u8 8)) = .int .u8 8) :
    (execOp ev { dst := d, op := .build 38 #[(0, .const (.int .u8 8))], type := ty, pos := ps, after := af, guard := none }).run Tryz.prog w' = .ok (.value (.agg #[.int .u8 8, .int .u8 0, .bool false, .int .u64 0, .int .u8 0, .int .u8 0, .int .u64 0, .int .u8 0, .int .u8 0, .int .u16 0, .int .u32 0, .int .i64 0, .int .u8 0, .int .u32 0, .int .i64 0, .int .i64 0])) w' := by
  go_simp
set_option maxRecDepth 100000 in
theorem kb_138 {ev : Operand → Value}  {d : Option Tmp} {ty : TypeId} {ps : String} {af : Array Edge} {w' : World}  :
    (execOp ev { dst := d, op := .build 38 #[], type := ty, pos := ps, after := af, guard := none }).run Tryz.prog w' = .ok (.value (.agg #[.int .u8 0, .int .u8 0, .bool false, .int .u64 0, .int .u8 0, .int .u8 0, .int .u64 0, .int .u8 0, .int .u8 0, .int .u16 0, .int .u32 0, .int .i64 0, .int .u8 0, .int .u32 0, .int .i64 0, .int .i64 0])) w' := by
  go_simp
set_option maxRecDepth 100000 in
theorem kb_143 {ev : Operand → Value}  {d : Option Tmp} {ty : TypeId} {ps : String} {af : Array Edge} {w' : World} (h0 : ev (.const (.int .u8 9)) = .int .u8 9) :
    (execOp ev { dst := d, op := .build 36 #[(0, .const (.int .u8 9))], type := ty, pos := ps, after := af, guard := none }).run Tryz.prog w' = .ok (.value (.agg #[.int .u8 9, .int .u8 0, .int .u64 0, .int .u8 0, .int .u8 0, .int .u16 0, .int .u32 0, .int .i64 0, .int .u8 0, .int .u32 0, .int .i64 0, .int .i64 0])) w' := by
  go_simp
set_option maxRecDepth 100000 in
theorem kb_144 {ev : Operand → Value} {x : Operand} {d : Option Tmp} {ty : TypeId} {ps : String} {af : Array Edge} {w' : World} (h0 : ev x = .agg #[.int .u8 9, .int .u8 0, .int .u64 0, .int .u8 0, .int .u8 0, .int .u16 0, .int .u32 0, .int .i64 0, .int .u8 0, .int .u32 0, .int .i64 0, .int .i64 0]) :
    (execOp ev { dst := d, op := .build 38 #[(4, x)], type := ty, pos := ps, after := af, guard := none }).run Tryz.prog w' = .ok (.value (.agg #[.int .u8 0, .int .u8 0, .bool false, .int .u64 0, .int .u8 9, .int .u8 0, .int .u64 0, .int .u8 0, .int .u8 0, .int .u16 0, .int .u32 0, .int .i64 0, .int .u8 0, .int .u32 0, .int .i64 0, .int .i64 0])) w' := by
  go_simp
set_option maxRecDepth 100000 in
theorem kb_149 {ev : Operand → Value}  {d : Option Tmp} {ty : TypeId} {ps : String} {af : Array Edge} {w' : World} (h0 : ev (.const (.int .u8 1)) = .int .u8 1) :
    (execOp ev { dst := d, op := .build 36 #[(0, .const (.int .u8 1))], type := ty, pos := ps, after := af, guard := none }).run Tryz.prog w' = .ok (.value (.agg #[.int .u8 1, .int .u8 0, .int .u64 0, .int .u8 0, .int .u8 0, .int .u16 0, .int .u32 0, .int .i64 0, .int .u8 0, .int .u32 0, .int .i64 0, .int .i64 0])) w' := by
  go_simp
set_option maxRecDepth 100000 in
theorem kb_150 {ev : Operand → Value} {x : Operand} {d : Option Tmp} {ty : TypeId} {ps : String} {af : Array Edge} {w' : World} (h0 : ev x = .agg #[.int .u8 1, .int .u8 0, .int .u64 0, .int .u8 0, .int .u8 0, .int .u16 0, .int .u32 0, .int .i64 0, .int .u8 0, .int .u32 0, .int .i64 0, .int .i64 0]) :
    (execOp ev { dst := d, op := .build 38 #[(4, x)], type := ty, pos := ps, after := af, guard := none }).run Tryz.prog w' = .ok (.value (.agg #[.int .u8 0, .int .u8 0, .bool false, .int .u64 0, .int .u8 1, .int .u8 0, .int .u64 0, .int .u8 0, .int .u8 0, .int .u16 0, .int .u32 0, .int .i64 0, .int .u8 0, .int .u32 0, .int .i64 0, .int .i64 0])) w' := by
  go_simp
set_option maxRecDepth 100000 in
theorem kb_156 {ev : Operand → Value} {x : Operand} {d : Option Tmp} {ty : TypeId} {ps : String} {af : Array Edge} {w' : World} (h0 : ev (.const (.bool true)) = .bool true) (h1 : ev x = .agg #[.int .u8 1, .int .u8 0, .int .u64 0, .int .u8 0, .int .u8 0, .int .u16 0, .int .u32 0, .int .i64 0, .int .u8 0, .int .u32 0, .int .i64 0, .int .i64 0]) :
    (execOp ev { dst := d, op := .build 38 #[(2, .const (.bool true)), (4, x)], type := ty, pos := ps, after := af, guard := none }).run Tryz.prog w' = .ok (.value (.agg #[.int .u8 0, .int .u8 0, .bool true, .int .u64 0, .int .u8 1, .int .u8 0, .int .u64 0, .int .u8 0, .int .u8 0, .int .u16 0, .int .u32 0, .int .i64 0, .int .u8 0, .int .u32 0, .int .i64 0, .int .i64 0])) w' := by
  go_simp
set_option maxRecDepth 100000 in
theorem kb_161 {ev : Operand → Value}  {d : Option Tmp} {ty : TypeId} {ps : String} {af : Array Edge} {w' : World} (h0 : ev (.const (.int .u8 8)) = .int .u8 8) :
    (execOp ev { dst := d, op := .build 41 #[(0, .const (.int .u8 8))], type := ty, pos := ps, after := af, guard := none }).run Tryz.prog w' = .ok (.value (.agg #[.int .u8 8, .int .u8 0, .int .u64 0, .slice none 0 0])) w' := by
  go_simp
set_option maxRecDepth 100000 in
theorem kb_166 {ev : Operand → Value}  {d : Option Tmp} {ty : TypeId} {ps : String} {af : Array Edge} {w' : World}  :
    (execOp ev { dst := d, op := .build 41 #[], type := ty, pos := ps, after := af, guard := none }).run Tryz.prog w' = .ok (.value (.agg #[.int .u8 0, .int .u8 0, .int .u64 0, .slice none 0 0])) w' := by
  go_simp
set_option maxRecDepth 100000 in
set_option maxHeartbeats 64000000 in
theorem msgKnown_walk {W : World} (hv : VarsOk W) : Calls Tryz.prog 6 #[] W fun e w' => e = .returned (.bool true) ∧ Below W.heap.size W w' := by
  obtain ⟨B, hB⟩ : ∃ B, W.heap.size = B := ⟨_, rfl⟩
  have HBQ := Lib.hid hB
  have HV := Lib.hid hv
  rw [hB]
  clear hB hv
  go_enter Tryz.func6, Tryz.ntmps6
  go_upto_region 2 with fail
  rw [HBQ.out]
  generalize hw1 : World.alloc W _ = w1
  have HK1 : Hid (w1.heap[B]? = some (.cells #[.int .u8 1, .int .u64 1, .int .u8 3] 26 (0, 0))) := Lib.hid (by rw [← hw1, ← HBQ.out]; exact heap_alloc_new W _)
  have HB1 : Hid (Below B W w1) := Lib.hid (by rw [← hw1, ← HBQ.out]; exact (Below.refl _ _).alloc (Nat.le_refl _) _)
  have HZ1 : Hid (w1.heap.size = B + 1) := Lib.hid (by rw [← hw1, ← HBQ.out]; simp)
  clear hw1
  go_upto_region 3 with fail
  rw [HZ1.out]
  generalize hw2 : World.alloc w1 _ = w2
  have HC2 : Hid (w2.heap[B + 1]? = some (.cells #[.int .u8 7, .int .u16 65535, .int .u32 4294967295, .int .i64 (-5), .int .u8 7, .int .u32 9] 33 (0, 0))) := Lib.hid (by rw [← hw2, ← HZ1.out]; exact heap_alloc_new w1 _)
  have HU2 : Hid (Below (B + 1) w1 w2) := Lib.hid (by rw [← hw2, ← HZ1.out]; exact (Below.refl _ _).alloc (Nat.le_refl _) _)
  have HK2 : Hid (w2.heap[B]? = some (.cells #[.int .u8 1, .int .u64 1, .int .u8 3] 26 (0, 0))) := Lib.hid ((HU2.out.block B (Nat.lt_succ_self B)).trans HK1.out)
  have HZ2 : Hid (w2.heap.size = B + 2) := Lib.hid (by rw [← hw2]; simp [HZ1.out])
  have HB2 : Hid (Below B W w2) := Lib.hid (HB1.out.trans (HU2.out.mono (Nat.le_succ B)))
  clear hw2
  obtain ⟨k0, k1, k2⟩ := key_cells HK2.out
  obtain ⟨p0, p1, p2, p3, p4, p5⟩ := cpn_cells HC2.out
  go_upto_region 4 with fail
  rw [HZ2.out]
  generalize hw3 : World.alloc w2 _ = w3
  have HM3 : Hid (w3.heap[B + 2]? = some (.cells (cellsM (grows.map GRow.m)).toArray 36 (0, 0))) := Lib.hid (by rw [← hw3, ← HZ2.out]; exact heap_alloc_new w2 _)
  have HU3 : Hid (Below (B + 2) w2 w3) := Lib.hid (by rw [← hw3, ← HZ2.out]; exact (Below.refl _ _).alloc (Nat.le_refl _) _)
  have HZ3 : Hid (w3.heap.size = B + 3) := Lib.hid (by rw [← hw3]; simp [HZ2.out])
  clear hw3 k0 k1 k2 p0 p1 p2 p3 p4 p5
  go_upto_region 5 with fail
  rw [HZ3.out]
  generalize hw4 : World.alloc w3 _ = w4
  have HN4 : Hid (w4.heap[B + 3]? = some (.cells (grows.map (fun r => Value.string r.want)).toArray 9 (0, 0))) := Lib.hid (by rw [← hw4, ← HZ3.out]; exact heap_alloc_new w3 _)
  have HU4 : Hid (Below (B + 2) w2 w4) := Lib.hid (by rw [← hw4]; exact HU3.out.alloc (by rw [HZ3.out]; omega) _)
  have HM4 : Hid (w4.heap[B + 2]? = some (.cells (cellsM (grows.map GRow.m)).toArray 36 (0, 0))) := Lib.hid (by rw [← hw4]; exact (Below.heap_alloc _ _ _ (by rw [HZ3.out]; omega)).trans HM3.out)
  have HZ4 : Hid (w4.heap.size = B + 4) := Lib.hid (by rw [← hw4]; simp [HZ3.out])
  clear hw4
  go_upto_region 6 with fail
  rw [HZ4.out]
  generalize hw5 : World.alloc w4 _ = w5
  have HQ5 : Hid (w5.heap[B + 4]? = some (.cells (grows.map (fun r => Value.string r.cnt)).toArray 9 (0, 0))) := Lib.hid (by rw [← hw5, ← HZ4.out]; exact heap_alloc_new w4 _)
  have HU5 : Hid (Below (B + 2) w2 w5) := Lib.hid (by rw [← hw5]; exact HU4.out.alloc (by rw [HZ4.out]; omega) _)
  have HM5 : Hid (w5.heap[B + 2]? = some (.cells (cellsM (grows.map GRow.m)).toArray 36 (0, 0))) := Lib.hid (by rw [← hw5]; exact (Below.heap_alloc _ _ _ (by rw [HZ4.out]; omega)).trans HM4.out)
  have HN5 : Hid (w5.heap[B + 3]? = some (.cells (grows.map (fun r => Value.string r.want)).toArray 9 (0, 0))) := Lib.hid (by rw [← hw5]; exact (Below.heap_alloc _ _ _ (by rw [HZ4.out]; omega)).trans HN4.out)
  have HZ5 : Hid (w5.heap.size = B + 5) := Lib.hid (by rw [← hw5]; simp [HZ4.out])
  have HB5 : Hid (Below B W w5) := Lib.hid (HB2.out.trans (HU5.out.mono (by omega)))
  have HK5 : Hid (w5.heap[B]? = some (.cells #[.int .u8 1, .int .u64 1, .int .u8 3] 26 (0, 0))) := Lib.hid ((HU5.out.block B (by omega)).trans HK2.out)
  have HC5 : Hid (w5.heap[B + 1]? = some (.cells #[.int .u8 7, .int .u16 65535, .int .u32 4294967295, .int .i64 (-5), .int .u8 7, .int .u32 9] 33 (0, 0))) := Lib.hid ((HU5.out.block (B + 1) (by omega)).trans HC2.out)
  clear hw5 HK1 HC2 HU2 HK2 HZ1 HZ2 HB1 HB2 HM3 HU3 HZ3 HN4 HU4 HM4 HZ4 HU5
  go_upto_block 0 with fail
  go_cut [] from 31 to 94 (fun wr => Hid (Below (B + 5) w5 wr))
  case first => as_aux_lemma =>
   go_wp2_with fail
   go_loopw [6] (fun i wr => ∃ (k : Nat), k ≤ 8 ∧ i = .int .i64 (k : Int) ∧ Hid (Below (B + 5) w5 wr)) (fun i _ => 8 - (intOf i).toNat)
   case atStart => exact ⟨0, by omega, rfl, Lib.hid (Below.refl _ _)⟩
   case round =>
     obtain ⟨k, hk, rfl, HBR⟩ := hrel
     have HBWR : Hid (Below B W wr) := Lib.hid (HB5.out.trans (HBR.out.mono (by omega)))
     by_cases hk8 : k < 8
     · as_aux_lemma =>
       obtain ⟨r, hr⟩ : ∃ r, grows[k]? = some r := ⟨_, List.getElem?_eq_getElem (by show k < 8; exact hk8)⟩
       obtain ⟨ht, hcat⟩ := g_text hr
       have hrm : (grows.map GRow.m)[k]? = some r.m := by rw [List.getElem?_map, hr]; rfl
       have HRG := Lib.hid (rangeM ((HBR.out.block (B + 2) (by omega)).trans HM5.out) hrm)
       have hzr := HBR.out.size
       rw [HZ5.out] at hzr
       have HTX := Lib.hid (mText_is (p := ⟨7, 0, false, 0, r.m⟩) ⟨(by show (7 : Nat) < 256; decide), (by show (0 : Nat) < 256; decide), (by show (0 : Nat) < 18446744073709551616; decide), g_ok k r hr⟩ (HV.out.on HBWR.out (by rw [HBQ.out]; exact Nat.le_refl _)) ht)
       unfold WTQ pktA msgA at HTX
       simp only [List.cons_append, List.nil_append, Int.cast_ofNat_Int] at HTX
       have hn : w5.cell? ⟨B + 3, k, none⟩ = some (.string r.want) := by rw [cell_of_row w5 (B + 3) _ _ _ _ HN5.out, List.getElem?_toArray, List.getElem?_map, hr]; rfl
       have hq : w5.cell? ⟨B + 4, k, none⟩ = some (.string r.cnt) := by rw [cell_of_row w5 (B + 4) _ _ _ _ HQ5.out, List.getElem?_toArray, List.getElem?_map, hr]; rfl
       have HNN := Lib.hid hn
       have HQQ := Lib.hid hq
       obtain ⟨tb, htb⟩ : ∃ tb : ByteArray, (⟨r.txt.toArray⟩ : ByteArray) = tb := ⟨_, rfl⟩
       obtain ⟨nb, hnb⟩ : ∃ nb : ByteArray, r.want = nb := ⟨_, rfl⟩
       obtain ⟨qb, hqb⟩ : ∃ qb : ByteArray, r.cnt = qb := ⟨_, rfl⟩
       rw [hnb] at HNN
       rw [hqb] at HQQ
       have hd : decT (k + 1) = [UInt8.ofNat (49 + k)] := by
         have h8 : k = 0 ∨ k = 1 ∨ k = 2 ∨ k = 3 ∨ k = 4 ∨ k = 5 ∨ k = 6 ∨ k = 7 := by omega
         rcases h8 with rfl | rfl | rfl | rfl | rfl | rfl | rfl | rfl <;> exact dec_small (by omega)
       obtain ⟨db, hdb⟩ : ∃ db : ByteArray, (⟨(decT (k + 1)).toArray⟩ : ByteArray) = db := ⟨_, rfl⟩
       have hcc : (⟨#[85, 78, 66, 43, 55, 43, 48, 43, 48, 39, 77, 83, 71, 43]⟩ : ByteArray) ++ db ++ ⟨#[39, 75, 69, 89, 43, 48, 48, 49, 48, 48, 48, 48, 48, 48, 48, 48, 48, 49, 53, 43, 51, 39]⟩ ++ nb ++ ⟨#[85, 78, 90, 43]⟩ ++ qb ++ ⟨#[43, 48, 39]⟩ = tb := by
         have e : ∀ x y : ByteArray, x.data.toList = y.data.toList → x = y := fun x y h => by cases x; cases y; simp at h; simp [h]
         apply e
         rw [← htb, ← hcat]
         simp only [cat_toL]
         unfold catG
         rw [← hdb, ← hnb, ← hqb, hd]
       have hsz := g_size r (List.mem_of_getElem? hr)
       have hnbs : nb.size ≤ 100 := by rw [← hnb]; exact hsz.1
       have hqbs : qb.size ≤ 100 := by rw [← hqb]; exact hsz.2
       have hdbs : db.size ≤ 1 := by rw [← hdb, hd]; exact Nat.le_refl _
       clear hsz
       have HDB := Lib.hid hdb
       have HCC := Lib.hid hcc
       unfold sv at HTX
       rw [htb] at HTX
       clear hr ht hcat hrm hn hq htb hnb hqb hd hdb hcc
       have b1 : (0 : Int) ≤ k := by omega
       have b2 : (k : Int) < 8 := by omega
       go_upto_region 9 with fail
       go_cut [7, 8] from 56 to 94 (fun sv ev wx => sv = .string tb ∧ ev = .int .i64 0 ∧ Hid (Below (B + 5) w5 wx))
       case first =>
         go_wp2_with (first | ((with_reducible refine wpList_at (.build 38 #[(0, .const (.int .u8 7)), (4, .tmp 66)]) rfl ?_); go_loud (refine wpList_val (v := .agg #[.int .u8 7, .int .u8 0, .bool false, .int .u64 0, .int .u8 (r.m.kind : Int), .int .u8 (r.m.tc : Int), .int .u64 (r.m.ts : Int), .int .u8 (r.m.pl : Int), .int .u8 (r.m.c.car : Int), .int .u16 (r.m.c.fl : Int), .int .u32 (r.m.c.we : Int), .int .i64 r.m.c.va, .int .u8 (r.m.c.st : Int), .int .u32 (r.m.c.no : Int), .int .i64 r.m.am, .int .i64 r.m.co]) (w' := wr) rfl (pkt_build7 rfl rfl) ?_)) | ((with_reducible refine wpList_at (.load 36 (.tmp 65)) rfl ?_); go_loud (refine wpList_load_mid rfl 36 _ rfl (B + 2) (k * 12) rfl [.int .u8 (r.m.kind : Int), .int .u8 (r.m.tc : Int), .int .u64 (r.m.ts : Int), .int .u8 (r.m.pl : Int), .int .u8 (r.m.c.car : Int), .int .u16 (r.m.c.fl : Int), .int .u32 (r.m.c.we : Int), .int .i64 r.m.c.va, .int .u8 (r.m.c.st : Int), .int .u32 (r.m.c.no : Int), .int .i64 r.m.am, .int .i64 r.m.co] _ HRG.out Tryz.underlying36 rfl (by kernel_rfl) ?_)) | (go_at_call 21; refine HTX.out.mono ?_; rintro e w6 ⟨rfl, hb⟩; have HB6 : Hid (Below (B + 5) w5 w6) := Lib.hid (HBR.out.trans (hb.mono hzr)); clear hb))
         go_meet
         case rel => exact ⟨rfl, rfl, HB6⟩
       case rest =>
         obtain ⟨rfl, rfl, HB6⟩ := hcut
         obtain ⟨w6, hw6⟩ : ∃ u, u = wc := ⟨_, rfl⟩
         rw [← hw6] at HB6 ⊢
         clear hw6
         go_upto_region 10 with fail
         have gk : IntKind.i64.wrap ((k : Int) + 1) = ((k + 1 : Nat) : Int) := by rw [IntWalk.i64_in _ (by omega)]; rfl
         have gk2 : IntKind.u64.wrap ((k + 1 : Nat) : Int) = ((k + 1 : Nat) : Int) := IntWalk.u64_in _ (by omega)
         have HSK : Hid (∀ u : World, Below (B + 5) w5 u → (u.cell? ⟨B + 3, k, none⟩ = some (.string nb) ∧ u.cell? ⟨B + 4, k, none⟩ = some (.string qb))) := Lib.hid (fun u hb => ⟨(hb.cell (p := ⟨B + 3, k, none⟩) (show B + 3 < B + 5 by omega)).trans HNN.out, (hb.cell (p := ⟨B + 4, k, none⟩) (show B + 4 < B + 5 by omega)).trans HQQ.out⟩)
         go_cut [94] (fun bv wr => bv = .bool false ∧ Hid (Below (B + 5) w5 wr))
         case first =>
           refine wp_region_planT (.val 0 (.val 1 (.val 2 (.val 3 (.val 4 (.val 5 (.val 6 (.val 10 (.val 11 (.val 12 (.val 13 (.val 16 (.val 17 (.val 18 (.val 19 (.one 7 (.val 8 (.val 9 (.val 14 (.val 15 (.val 20 (.val 21 (.val 22 (.val 23 .nil)))))))))))))))))))))))) (fun u => u.cell? ⟨B + 3, k, none⟩ = some (.string nb) ∧ u.cell? ⟨B + 4, k, none⟩ = some (.string qb)) (by kernel_rfl) (by kernel_rfl) (HSK.out _ HB6.out.drew) ?_
           iterate 15 (refine' planT_val rfl rfl (fun w' hS => ?_) ?_; rotate_left; (focus (obtain ⟨hS1, hS2⟩ := hS; first | (go_simp; rfl) | (go_simp; done))); simp only [Act.put, List.setIfInBounds_toArray, List.set_cons_zero, List.set_cons_succ])
           refine planT_do rfl (fun K hK => ?_)
           go_wp2_with fail
           refine (rdec_any (k + 1) (by omega) _).mono ?_
           rintro e w7 ⟨rfl, dr, hdr⟩
           have HB7 : Hid (Below (B + 5) w5 w7) := Lib.hid (by rw [hdr]; exact below_drewN HB6.out.drew dr)
           clear hdr
           rw [HDB.out]
           go_wp2_with fail
           refine hK _ _ (HSK.out _ HB7.out) ?_
           clear hK K
           have hcc := HCC.out
           have z1 : ¬ 9223372036854775807 < 14 + db.size := by omega
           have z2 : ¬ 9223372036854775807 < 14 + db.size + 22 := by omega
           have z3 : ¬ 9223372036854775807 < 14 + db.size + 22 + nb.size := by omega
           have z4 : ¬ 9223372036854775807 < 14 + db.size + 22 + nb.size + 4 := by omega
           have z5 : ¬ 9223372036854775807 < 14 + db.size + 22 + nb.size + 4 + qb.size := by omega
           have z6 : ¬ 9223372036854775807 < 14 + db.size + 22 + nb.size + 4 + qb.size + 3 := by omega
           iterate 6 (refine' planT_val rfl rfl (fun w' hS => ?_) ?_; rotate_left; (focus (obtain ⟨hS1, hS2⟩ := hS; first | (go_simp; rfl) | (go_simp; done))); simp only [Act.put, List.setIfInBounds_toArray, List.set_cons_zero, List.set_cons_succ])
           have hne := str_same tb
           iterate 2 (refine' planT_val rfl rfl (fun w' hS => ?_) ?_; rotate_left; (focus (obtain ⟨hS1, hS2⟩ := hS; first | (go_simp; rfl) | (go_simp; done))); simp only [Act.put, List.setIfInBounds_toArray, List.set_cons_zero, List.set_cons_succ])
           refine planT_nil ?_
           go_wp2_with fail
           go_meet
           case rel => exact ⟨rfl, HB7⟩
         case rest =>
           obtain ⟨rfl, HB8⟩ := hcut
           clear gk gk2
           go_wp2_with fail
           go_roundw
           case rel => exact ⟨k + 1, by omega, by go_num, HB8⟩
           case measure => simp [intOf]; omega
     · obtain rfl : k = 8 := by omega
       go_wp2_with fail
       go_meet
       case rel => exact HBR
  case rest => as_aux_lemma =>
      have HBR := hcut
      obtain ⟨wr, hwr⟩ : ∃ u, u = wc := ⟨_, rfl⟩
      rw [← hwr] at HBR ⊢
      clear hwr hcut
      have HBWR : Hid (Below B W wr) := Lib.hid (HB5.out.trans (HBR.out.mono (by omega)))
      have hzr := HBR.out.size
      rw [HZ5.out] at hzr
      have HZR := Lib.hid hzr
      clear hzr
      obtain ⟨k0, k1, k2⟩ := key_cells ((HBR.out.block B (by omega)).trans HK5.out)
      have HKR : Hid (wr.heap[B]? = some (.cells #[.int .u8 1, .int .u64 1, .int .u8 3] 26 (0, 0))) := Lib.hid ((HBR.out.block B (by omega)).trans HK5.out)
      have HCR : Hid (wr.heap[B + 1]? = some (.cells #[.int .u8 7, .int .u16 65535, .int .u32 4294967295, .int .i64 (-5), .int .u8 7, .int .u32 9] 33 (0, 0))) := Lib.hid ((HBR.out.block (B + 1) (by omega)).trans HC5.out)
      obtain ⟨p0, p1, p2, p3, p4, p5⟩ := cpn_cells HCR.out
      go_upto_region 13 with (first
              | ((with_reducible refine wpList_at (.load 33 (.tmp 2)) rfl ?_); go_loud (refine wpList_load_mid rfl 33 _ rfl (B + 1) 0 rfl [.int .u8 7, .int .u16 65535, .int .u32 4294967295, .int .i64 (-5), .int .u8 7, .int .u32 9] _ (range_row HCR.out) Tryz.underlying33 rfl (by kernel_rfl) ?_))
              | ((with_reducible refine wpList_at (.load 26 (.tmp 1)) rfl ?_); go_loud (refine wpList_load_mid rfl 26 _ rfl B 0 rfl [.int .u8 1, .int .u64 1, .int .u8 3] _ (range_row HKR.out) Tryz.underlying26 rfl (by kernel_rfl) ?_))
              | ((with_reducible refine wpList_at (.build 36 #[(0, .const (.int .u8 1)), (1, .tmp 95), (3, .const (.int .i64 1))]) rfl ?_); go_loud (refine wpList_val (v := .agg #[.int .u8 1, .int .u8 1, .int .u64 1, .int .u8 3, .int .u8 0, .int .u16 0, .int .u32 0, .int .i64 0, .int .u8 0, .int .u32 0, .int .i64 1, .int .i64 0]) (w' := wr) rfl (msg_b96 rfl rfl rfl) ?_))
              | ((with_reducible refine wpList_at (.build 36 #[(0, .const (.int .u8 1)), (1, .tmp 97), (4, .const (.int .i64 1))]) rfl ?_); go_loud (refine wpList_val (v := .agg #[.int .u8 1, .int .u8 1, .int .u64 1, .int .u8 3, .int .u8 0, .int .u16 0, .int .u32 0, .int .i64 0, .int .u8 0, .int .u32 0, .int .i64 0, .int .i64 1]) (w' := wr) rfl (msg_b98 rfl rfl rfl) ?_))
              | ((with_reducible refine wpList_at (.build 36 #[(0, .const (.int .u8 1)), (1, .tmp 99), (2, .tmp 100)]) rfl ?_); go_loud (refine wpList_val (v := .agg #[.int .u8 1, .int .u8 1, .int .u64 1, .int .u8 3, .int .u8 7, .int .u16 65535, .int .u32 4294967295, .int .i64 (-5), .int .u8 7, .int .u32 9, .int .i64 0, .int .i64 0]) (w' := wr) rfl (msg_b101 rfl rfl rfl) ?_))
              | ((with_reducible refine wpList_at (.build 36 #[(0, .const (.int .u8 2)), (1, .tmp 102)]) rfl ?_); go_loud (refine wpList_val (v := .agg #[.int .u8 2, .int .u8 1, .int .u64 1, .int .u8 3, .int .u8 0, .int .u16 0, .int .u32 0, .int .i64 0, .int .u8 0, .int .u32 0, .int .i64 0, .int .i64 0]) (w' := wr) rfl (msg_b103 rfl rfl) ?_))
              | ((with_reducible refine wpList_at (.build 36 #[(0, .const (.int .u8 3)), (1, .tmp 104), (4, .const (.int .i64 1000))]) rfl ?_); go_loud (refine wpList_val (v := .agg #[.int .u8 3, .int .u8 1, .int .u64 1, .int .u8 3, .int .u8 0, .int .u16 0, .int .u32 0, .int .i64 0, .int .u8 0, .int .u32 0, .int .i64 0, .int .i64 1000]) (w' := wr) rfl (msg_b105 rfl rfl rfl) ?_))
              | ((with_reducible refine wpList_at (.build 36 #[(0, .const (.int .u8 3)), (1, .tmp 106), (4, .const (.int .i64 (-1)))]) rfl ?_); go_loud (refine wpList_val (v := .agg #[.int .u8 3, .int .u8 1, .int .u64 1, .int .u8 3, .int .u8 0, .int .u16 0, .int .u32 0, .int .i64 0, .int .u8 0, .int .u32 0, .int .i64 0, .int .i64 (-1)]) (w' := wr) rfl (msg_b107 rfl rfl rfl) ?_))
              | ((with_reducible refine wpList_at (.build 36 #[(0, .const (.int .u8 6)), (1, .tmp 108), (3, .const (.int .i64 1125899906842625))]) rfl ?_); go_loud (refine wpList_val (v := .agg #[.int .u8 6, .int .u8 1, .int .u64 1, .int .u8 3, .int .u8 0, .int .u16 0, .int .u32 0, .int .i64 0, .int .u8 0, .int .u32 0, .int .i64 1125899906842625, .int .i64 0]) (w' := wr) rfl (msg_b109 rfl rfl rfl) ?_))
              | ((with_reducible refine wpList_at (.build 36 #[(0, .const (.int .u8 1)), (1, .tmp 112)]) rfl ?_); go_loud (refine wpList_val (v := .agg #[.int .u8 1, .int .u8 1, .int .u64 1, .int .u8 4, .int .u8 0, .int .u16 0, .int .u32 0, .int .i64 0, .int .u8 0, .int .u32 0, .int .i64 0, .int .i64 0]) (w' := wr) rfl (msg_b113 rfl rfl) ?_))
              | ((with_reducible refine wpList_at (.buildSlice 57 8 #[(0, .tmp 96), (1, .tmp 98), (2, .tmp 101), (3, .tmp 103), (4, .tmp 105), (5, .tmp 107), (6, .tmp 109), (7, .tmp 113)]) rfl ?_); go_loud (refine wpList_msgs rfl _ _ rfl brows rfl (by decide) (by decide) (by simp [brows, msgA, cd0]; refine ⟨?_, ?_, ?_, ?_, ?_, ?_, ?_, ?_⟩ <;> rfl) ?_)))
      obtain ⟨E, hE⟩ : ∃ E, wr.heap.size = E := ⟨_, rfl⟩
      generalize hw6 : World.alloc wr _ = w6
      have HM6 : Hid (w6.heap[E]? = some (.cells (cellsM brows).toArray 36 (0, 0))) := Lib.hid (by rw [← hw6, ← hE]; exact heap_alloc_new wr _)
      have HB6 : Hid (Below B W w6) := Lib.hid (by rw [← hw6]; exact HBWR.out.alloc (by have := HZR.out; omega) _)
      have HZ6 : Hid (w6.heap.size = E + 1) := Lib.hid (by rw [← hw6, ← hE]; simp)
      have HBE : Hid (B ≤ E) := Lib.hid (by have := HZR.out; omega)
      clear hw6 k0 k1 k2 p0 p1 p2 p3 p4 p5
      rw [hE]
      clear hE
      go_upto_block 2 with fail
      go_cut [] from 95 to 131 (fun wr => Hid (Below (E + 1) w6 wr))
      case first => as_aux_lemma =>
        go_wp2_with fail
        go_loopw [10] (fun i wr => ∃ (j : Nat), j ≤ 8 ∧ i = .int .i64 (j : Int) ∧ Hid (Below (E + 1) w6 wr)) (fun i _ => 8 - (intOf i).toNat)
        case atStart => exact ⟨0, by omega, rfl, Lib.hid (Below.refl _ _)⟩
        case round =>
          obtain ⟨j, hj, rfl, HBS⟩ := hrel
          obtain ⟨ws, hws⟩ : ∃ ws, ws = wr := ⟨_, rfl⟩
          rw [← hws] at HBS ⊢
          clear hws
          have HBWS : Hid (Below B W ws) := Lib.hid (HB6.out.trans (HBS.out.mono (by have := HBE.out; omega)))
          have hzs := HBS.out.size
          rw [HZ6.out] at hzs
          by_cases hj8 : j < 8
          · as_aux_lemma =>
            obtain ⟨m, hm⟩ : ∃ m, brows[j]? = some m := ⟨_, List.getElem?_eq_getElem (by show j < 8; exact hj8)⟩
            obtain ⟨hok, hwm⟩ := b_ok j m hm
            have HRG := Lib.hid (rangeM ((HBS.out.block E (Nat.lt_succ_self E)).trans HM6.out) hm)
            have HWX := Lib.hid (mWrap_is (p := ⟨0, 0, false, 0, m⟩) ⟨(by show (0 : Nat) < 256; decide), (by show (0 : Nat) < 256; decide), (by show (0 : Nat) < 18446744073709551616; decide), hok⟩ (HV.out.on HBWS.out (by rw [HBQ.out]; exact Nat.le_refl _)) hwm)
            unfold WMQ pktA msgA at HWX
            simp only [List.cons_append, List.nil_append, Int.natCast_zero] at HWX
            have b1 : (0 : Int) ≤ j := by omega
            have b2 : (j : Int) < 8 := by omega
            clear hm hok hwm
            go_upto_region 17 with (first | ((with_reducible refine wpList_at (.build 38 #[(4, .tmp 125)]) rfl ?_); go_loud (refine wpList_val (v := .agg #[.int .u8 0, .int .u8 0, .bool false, .int .u64 0, .int .u8 (m.kind : Int), .int .u8 (m.tc : Int), .int .u64 (m.ts : Int), .int .u8 (m.pl : Int), .int .u8 (m.c.car : Int), .int .u16 (m.c.fl : Int), .int .u32 (m.c.we : Int), .int .i64 m.c.va, .int .u8 (m.c.st : Int), .int .u32 (m.c.no : Int), .int .i64 m.am, .int .i64 m.co]) (w' := ws) rfl (pkt_build4 rfl) ?_)) | ((with_reducible refine wpList_at (.load 36 (.tmp 124)) rfl ?_); go_loud (refine wpList_load_mid rfl 36 _ rfl E (j * 12) rfl [.int .u8 (m.kind : Int), .int .u8 (m.tc : Int), .int .u64 (m.ts : Int), .int .u8 (m.pl : Int), .int .u8 (m.c.car : Int), .int .u16 (m.c.fl : Int), .int .u32 (m.c.we : Int), .int .i64 m.c.va, .int .u8 (m.c.st : Int), .int .u32 (m.c.no : Int), .int .i64 m.am, .int .i64 m.co] _ HRG.out Tryz.underlying36 rfl (by kernel_rfl) ?_)) | (go_at_call 13; refine HWX.out.mono ?_; rintro e w7 ⟨v, rfl, hs, hb⟩; obtain ⟨va, vc, rfl, _, _⟩ := hs.form; have HB7 : Hid (Below (E + 1) w6 w7) := Lib.hid (HBS.out.trans (hb.mono hzs)); have HZ7 : Hid (E + 1 ≤ w7.heap.size) := Lib.hid (Nat.le_trans hzs hb.size); clear hb hs; unfold wv wd0))
            generalize hw8 : World.alloc w7 _ = w8
            have HB8 : Hid (Below (E + 1) w6 w8) := Lib.hid (by rw [← hw8]; exact HB7.out.alloc HZ7.out _)
            clear hw8
            go_wp2_with fail
            go_roundw
            case rel => exact ⟨j + 1, by omega, by go_num, HB8⟩
            case measure => simp [intOf]; omega
          · obtain rfl : j = 8 := by omega
            go_wp2_with fail
            go_meet
            case rel => exact HBS
      case rest => as_aux_lemma =>
          have HBS := hcut
          obtain ⟨ws, hws⟩ : ∃ u, u = wc := ⟨_, rfl⟩
          rw [← hws] at HBS ⊢
          clear hws hcut
          have HBWS : Hid (Below B W ws) := Lib.hid (HB6.out.trans (HBS.out.mono (by have := HBE.out; omega)))
          have hzs := HBS.out.size
          rw [HZ6.out] at hzs
          have HVX : Hid (∀ u, Below B W u → VarsOk u) := Lib.hid (fun u hb => HV.out.on hb (by rw [HBQ.out]; exact Nat.le_refl _))
          have hBs : B ≤ ws.heap.size := by have := HBE.out; omega
          have HBX0 := HBWS
          have HZX0 := Lib.hid hBs
          clear hBs hzs

          have HW1 := Lib.hid (mWrap_is (p := ⟨8, 0, false, 0, md0⟩) ⟨by decide, by decide, by decide, ⟨by decide, by decide, by decide, by decide, by decide, by decide, by decide, by decide, by decide, by decide, by decide, by decide⟩⟩ (HVX.out _ HBX0.out) k_w1)
          unfold WMQ pktA msgA md0 cd0 at HW1
          simp only [List.cons_append, List.nil_append, Int.cast_ofNat_Int] at HW1
          go_upto_region 20 with (first | ((with_reducible refine wpList_at (.build 38 #[(0, .const (.int .u8 8))]) rfl ?_); go_loud (refine wpList_val (v := .agg #[.int .u8 8, .int .u8 0, .bool false, .int .u64 0, .int .u8 0, .int .u8 0, .int .u64 0, .int .u8 0, .int .u8 0, .int .u16 0, .int .u32 0, .int .i64 0, .int .u8 0, .int .u32 0, .int .i64 0, .int .i64 0]) (w' := ws) rfl (kb_133 rfl) ?_)) | (go_at_call 13; refine HW1.out.mono ?_; rintro e wa1 ⟨v, rfl, hs, hb⟩; obtain ⟨va1, vc1, rfl, _, _⟩ := hs.form; have HBY1 : Hid (Below B W wa1) := Lib.hid (HBX0.out.trans (hb.mono HZX0.out)); have HZY1 : Hid (B ≤ wa1.heap.size) := Lib.hid (Nat.le_trans HZX0.out hb.size); clear hb hs; unfold wv wd0))
          generalize hwb1 : World.alloc wa1 _ = wb1
          have HBX1 : Hid (Below B W wb1) := Lib.hid (by rw [← hwb1]; exact HBY1.out.alloc HZY1.out _)
          have HZX1 : Hid (B ≤ wb1.heap.size) := Lib.hid (by rw [← hwb1]; have := HZY1.out; simp; omega)
          clear hwb1
          have HW2 := Lib.hid (mWrap_is (p := ⟨0, 0, false, 0, md0⟩) ⟨by decide, by decide, by decide, ⟨by decide, by decide, by decide, by decide, by decide, by decide, by decide, by decide, by decide, by decide, by decide, by decide⟩⟩ (HVX.out _ HBX1.out) k_w2)
          unfold WMQ pktA msgA md0 cd0 at HW2
          simp only [List.cons_append, List.nil_append, Int.cast_ofNat_Int] at HW2
          go_upto_region 21 with (first | ((with_reducible refine wpList_at (.build 38 #[]) rfl ?_); go_loud (refine wpList_val (v := .agg #[.int .u8 0, .int .u8 0, .bool false, .int .u64 0, .int .u8 0, .int .u8 0, .int .u64 0, .int .u8 0, .int .u8 0, .int .u16 0, .int .u32 0, .int .i64 0, .int .u8 0, .int .u32 0, .int .i64 0, .int .i64 0]) (w' := wb1) rfl (kb_138) ?_)) | (go_at_call 13; refine HW2.out.mono ?_; rintro e wa2 ⟨v, rfl, hs, hb⟩; obtain ⟨va2, vc2, rfl, _, _⟩ := hs.form; have HBY2 : Hid (Below B W wa2) := Lib.hid (HBX1.out.trans (hb.mono HZX1.out)); have HZY2 : Hid (B ≤ wa2.heap.size) := Lib.hid (Nat.le_trans HZX1.out hb.size); clear hb hs; unfold wv wd0))
          generalize hwb2 : World.alloc wa2 _ = wb2
          have HBX2 : Hid (Below B W wb2) := Lib.hid (by rw [← hwb2]; exact HBY2.out.alloc HZY2.out _)
          have HZX2 : Hid (B ≤ wb2.heap.size) := Lib.hid (by rw [← hwb2]; have := HZY2.out; simp; omega)
          clear hwb2
          have HW3 := Lib.hid (mWrap_is (p := ⟨0, 0, false, 0, ⟨9, 0, 0, 0, cd0, 0, 0⟩⟩) ⟨by decide, by decide, by decide, ⟨by decide, by decide, by decide, by decide, by decide, by decide, by decide, by decide, by decide, by decide, by decide, by decide⟩⟩ (HVX.out _ HBX2.out) k_w3)
          unfold WMQ pktA msgA cd0 at HW3
          simp only [List.cons_append, List.nil_append, Int.cast_ofNat_Int] at HW3
          go_upto_region 22 with (first | ((with_reducible refine wpList_at (.build 36 #[(0, .const (.int .u8 9))]) rfl ?_); go_loud (refine wpList_val (v := .agg #[.int .u8 9, .int .u8 0, .int .u64 0, .int .u8 0, .int .u8 0, .int .u16 0, .int .u32 0, .int .i64 0, .int .u8 0, .int .u32 0, .int .i64 0, .int .i64 0]) (w' := wb2) rfl (kb_143 rfl) ?_)) | ((with_reducible refine wpList_at (.build 38 #[(4, .tmp 143)]) rfl ?_); go_loud (refine wpList_val (v := .agg #[.int .u8 0, .int .u8 0, .bool false, .int .u64 0, .int .u8 9, .int .u8 0, .int .u64 0, .int .u8 0, .int .u8 0, .int .u16 0, .int .u32 0, .int .i64 0, .int .u8 0, .int .u32 0, .int .i64 0, .int .i64 0]) (w' := wb2) rfl (kb_144 rfl) ?_)) | (go_at_call 13; refine HW3.out.mono ?_; rintro e wa3 ⟨v, rfl, hs, hb⟩; obtain ⟨va3, vc3, rfl, _, _⟩ := hs.form; have HBY3 : Hid (Below B W wa3) := Lib.hid (HBX2.out.trans (hb.mono HZX2.out)); have HZY3 : Hid (B ≤ wa3.heap.size) := Lib.hid (Nat.le_trans HZX2.out hb.size); clear hb hs; unfold wv wd0))
          generalize hwb3 : World.alloc wa3 _ = wb3
          have HBX3 : Hid (Below B W wb3) := Lib.hid (by rw [← hwb3]; exact HBY3.out.alloc HZY3.out _)
          have HZX3 : Hid (B ≤ wb3.heap.size) := Lib.hid (by rw [← hwb3]; have := HZY3.out; simp; omega)
          clear hwb3
          have HW4 := Lib.hid (mWrap_is (p := ⟨0, 0, false, 0, ⟨1, 0, 0, 0, cd0, 0, 0⟩⟩) ⟨by decide, by decide, by decide, ⟨by decide, by decide, by decide, by decide, by decide, by decide, by decide, by decide, by decide, by decide, by decide, by decide⟩⟩ (HVX.out _ HBX3.out) k_w4)
          unfold WMQ pktA msgA cd0 at HW4
          simp only [List.cons_append, List.nil_append, Int.cast_ofNat_Int] at HW4
          go_upto_region 23 with (first | ((with_reducible refine wpList_at (.build 36 #[(0, .const (.int .u8 1))]) rfl ?_); go_loud (refine wpList_val (v := .agg #[.int .u8 1, .int .u8 0, .int .u64 0, .int .u8 0, .int .u8 0, .int .u16 0, .int .u32 0, .int .i64 0, .int .u8 0, .int .u32 0, .int .i64 0, .int .i64 0]) (w' := wb3) rfl (kb_149 rfl) ?_)) | ((with_reducible refine wpList_at (.build 38 #[(4, .tmp 149)]) rfl ?_); go_loud (refine wpList_val (v := .agg #[.int .u8 0, .int .u8 0, .bool false, .int .u64 0, .int .u8 1, .int .u8 0, .int .u64 0, .int .u8 0, .int .u8 0, .int .u16 0, .int .u32 0, .int .i64 0, .int .u8 0, .int .u32 0, .int .i64 0, .int .i64 0]) (w' := wb3) rfl (kb_150 rfl) ?_)) | (go_at_call 13; refine HW4.out.mono ?_; rintro e wa4 ⟨v, rfl, hs, hb⟩; obtain ⟨va4, vc4, rfl, _, _⟩ := hs.form; have HBY4 : Hid (Below B W wa4) := Lib.hid (HBX3.out.trans (hb.mono HZX3.out)); have HZY4 : Hid (B ≤ wa4.heap.size) := Lib.hid (Nat.le_trans HZX3.out hb.size); clear hb hs; unfold wv wd0))
          generalize hwb4 : World.alloc wa4 _ = wb4
          have HBX4 : Hid (Below B W wb4) := Lib.hid (by rw [← hwb4]; exact HBY4.out.alloc HZY4.out _)
          have HZX4 : Hid (B ≤ wb4.heap.size) := Lib.hid (by rw [← hwb4]; have := HZY4.out; simp; omega)
          clear hwb4
          have HW5 := Lib.hid (mWrap_is (p := ⟨0, 0, true, 0, ⟨1, 0, 0, 0, cd0, 0, 0⟩⟩) ⟨by decide, by decide, by decide, ⟨by decide, by decide, by decide, by decide, by decide, by decide, by decide, by decide, by decide, by decide, by decide, by decide⟩⟩ (HVX.out _ HBX4.out) k_w5)
          unfold WMQ pktA msgA cd0 at HW5
          simp only [List.cons_append, List.nil_append, Int.cast_ofNat_Int] at HW5
          go_upto_region 24 with (first | ((with_reducible refine wpList_at (.build 36 #[(0, .const (.int .u8 1))]) rfl ?_); go_loud (refine wpList_val (v := .agg #[.int .u8 1, .int .u8 0, .int .u64 0, .int .u8 0, .int .u8 0, .int .u16 0, .int .u32 0, .int .i64 0, .int .u8 0, .int .u32 0, .int .i64 0, .int .i64 0]) (w' := wb4) rfl (kb_149 rfl) ?_)) | ((with_reducible refine wpList_at (.build 38 #[(2, .const (.bool true)), (4, .tmp 155)]) rfl ?_); go_loud (refine wpList_val (v := .agg #[.int .u8 0, .int .u8 0, .bool true, .int .u64 0, .int .u8 1, .int .u8 0, .int .u64 0, .int .u8 0, .int .u8 0, .int .u16 0, .int .u32 0, .int .i64 0, .int .u8 0, .int .u32 0, .int .i64 0, .int .i64 0]) (w' := wb4) rfl (kb_156 rfl rfl) ?_)) | (go_at_call 13; refine HW5.out.mono ?_; rintro e wa5 ⟨v, rfl, hs, hb⟩; obtain ⟨va5, vc5, rfl, _, _⟩ := hs.form; have HBY5 : Hid (Below B W wa5) := Lib.hid (HBX4.out.trans (hb.mono HZX4.out)); have HZY5 : Hid (B ≤ wa5.heap.size) := Lib.hid (Nat.le_trans HZX4.out hb.size); clear hb hs; unfold wv wd0))
          generalize hwb5 : World.alloc wa5 _ = wb5
          have HBX5 : Hid (Below B W wb5) := Lib.hid (by rw [← hwb5]; exact HBY5.out.alloc HZY5.out _)
          have HZX5 : Hid (B ≤ wb5.heap.size) := Lib.hid (by rw [← hwb5]; have := HZY5.out; simp; omega)
          clear hwb5
          have HW6 := Lib.hid (mPacket_is (S := fun _ => False) (x := ⟨8, 0, 0, []⟩) (v := .slice none 0 0) (HVX.out _ HBX5.out) (segs_nil _ _) (fun _ h => h.elim) (fun s hs => by simp at hs) k_p1)
          unfold MPQ wv pktA msgA pd0 md0 cd0 at HW6
          simp only [List.cons_append, List.nil_append, Int.cast_ofNat_Int] at HW6
          go_upto_region 25 with (first | ((with_reducible refine wpList_at (.build 41 #[(0, .const (.int .u8 8))]) rfl ?_); go_loud (refine wpList_val (v := .agg #[.int .u8 8, .int .u8 0, .int .u64 0, .slice none 0 0]) (w' := wb5) rfl (kb_161 rfl) ?_)) | (go_at_call 19; refine HW6.out.mono ?_; rintro e wa6 ⟨rfl, hb⟩; have HBY6 : Hid (Below B W wa6) := Lib.hid (HBX5.out.trans (hb.mono HZX5.out)); have HZY6 : Hid (B ≤ wa6.heap.size) := Lib.hid (Nat.le_trans HZX5.out hb.size); clear hb))
          generalize hwb6 : World.alloc wa6 _ = wb6
          have HBX6 : Hid (Below B W wb6) := Lib.hid (by rw [← hwb6]; exact HBY6.out.alloc HZY6.out _)
          have HZX6 : Hid (B ≤ wb6.heap.size) := Lib.hid (by rw [← hwb6]; have := HZY6.out; simp; omega)
          clear hwb6
          have HW7 := Lib.hid (mPacket_is (S := fun _ => False) (x := ⟨0, 0, 0, []⟩) (v := .slice none 0 0) (HVX.out _ HBX6.out) (segs_nil _ _) (fun _ h => h.elim) (fun s hs => by simp at hs) k_p2)
          unfold MPQ wv pktA msgA pd0 md0 cd0 at HW7
          simp only [List.cons_append, List.nil_append, Int.cast_ofNat_Int] at HW7
          go_upto_region 26 with (first | ((with_reducible refine wpList_at (.build 41 #[]) rfl ?_); go_loud (refine wpList_val (v := .agg #[.int .u8 0, .int .u8 0, .int .u64 0, .slice none 0 0]) (w' := wb6) rfl (kb_166) ?_)) | (go_at_call 19; refine HW7.out.mono ?_; rintro e wa7 ⟨rfl, hb⟩; have HBY7 : Hid (Below B W wa7) := Lib.hid (HBX6.out.trans (hb.mono HZX6.out)); have HZY7 : Hid (B ≤ wa7.heap.size) := Lib.hid (Nat.le_trans HZX6.out hb.size); clear hb))
          generalize hwb7 : World.alloc wa7 _ = wb7
          have HBX7 : Hid (Below B W wb7) := Lib.hid (by rw [← hwb7]; exact HBY7.out.alloc HZY7.out _)
          have HZX7 : Hid (B ≤ wb7.heap.size) := Lib.hid (by rw [← hwb7]; have := HZY7.out; simp; omega)
          clear hwb7
          go_upto_region 27 with ((with_reducible refine wpList_at (.buildSlice 62 18 #[(0, .tmp 170), (1, .tmp 171), (2, .tmp 172), (3, .tmp 173), (4, .tmp 174), (5, .tmp 175), (6, .tmp 176), (7, .tmp 177), (8, .tmp 178), (9, .tmp 179), (10, .tmp 180), (11, .tmp 181), (12, .tmp 182), (13, .tmp 183), (14, .tmp 184), (15, .tmp 185), (16, .tmp 186), (17, .tmp 187)]) rfl ?_); go_loud (refine wpList_nrows rfl _ _ rfl nrows rfl (by decide) (by decide) (by simp [nrows]; refine ⟨?_, ?_, ?_, ?_, ?_, ?_, ?_, ?_, ?_, ?_, ?_, ?_, ?_, ?_, ?_, ?_, ?_, ?_⟩ <;> rfl) ?_))
          obtain ⟨F, hF⟩ : ∃ F, wb7.heap.size = F := ⟨_, rfl⟩
          generalize hw9 : World.alloc wb7 _ = w9
          have HN9 : Hid (w9.heap[F]? = some (.cells (cellsN nrows).toArray 61 (0, 0))) := Lib.hid (by rw [← hw9, ← hF]; exact heap_alloc_new wb7 _)
          have HB9 : Hid (Below B W w9) := Lib.hid (by rw [← hw9]; exact HBX7.out.alloc HZX7.out _)
          have HZ9 : Hid (w9.heap.size = F + 1) := Lib.hid (by rw [← hw9, ← hF]; simp)
          have HBF : Hid (B ≤ F) := Lib.hid (by rw [← hF]; exact HZX7.out)
          clear hw9
          rw [hF]
          clear hF
          go_wp2_with fail
          go_loopw [28] (fun i wr => ∃ (q : Nat), q ≤ 18 ∧ i = .int .i64 (q : Int) ∧ Hid (Below (F + 1) w9 wr)) (fun i _ => 18 - (intOf i).toNat)
          case atStart => exact ⟨0, by omega, rfl, Lib.hid (Below.refl _ _)⟩
          case round =>
            obtain ⟨q, hq, rfl, HBT⟩ := hrel
            obtain ⟨wt, hwt⟩ : ∃ wt, wt = wr := ⟨_, rfl⟩
            rw [← hwt] at HBT ⊢
            clear hwt
            have HBWT : Hid (Below B W wt) := Lib.hid (HB9.out.trans (HBT.out.mono (by have := HBF.out; omega)))
            have hzt := HBT.out.size
            rw [HZ9.out] at hzt
            by_cases hq18 : q < 18
            · as_aux_lemma =>
              obtain ⟨r, hr⟩ : ∃ r, nrows[q]? = some r := ⟨_, List.getElem?_eq_getElem (by show q < 18; exact hq18)⟩
              have hfit := n_fit r (List.mem_of_getElem? hr)
              have hrts := n_size r (List.mem_of_getElem? hr)
              obtain ⟨g1, g2⟩ := cellsN_get nrows q r hr
              obtain ⟨rt, re⟩ := r
              simp only at g1 g2 hfit hrts
              have c0 : w9.cell? ⟨F, q * 2, none⟩ = some (.string rt) := by rw [cell_of_row w9 F _ _ _ _ HN9.out, List.getElem?_toArray]; exact g1
              have c1 : w9.cell? ⟨F, q * 2 + 1, none⟩ = some (.int .i64 re) := by rw [cell_of_row w9 F _ _ _ _ HN9.out, List.getElem?_toArray]; exact g2
              have HC1 := Lib.hid c1
              have e0 := (HBT.out.cell (p := ⟨F, q * 2, none⟩) (Nat.lt_succ_self F)).trans c0
              obtain ⟨P, hP⟩ : ∃ P, parseTM ([85, 78, 66, 43, 49, 43, 50, 43, 55, 39] ++ rt.data.toList ++ [43, 55, 39]) = P := ⟨_, rfl⟩
              obtain ⟨y, pe⟩ := P
              rw [hP] at hfit
              obtain rfl : pe = re := hfit
              have HPR := Lib.hid (mParse_is (s := (⟨#[85, 78, 66, 43, 49, 43, 50, 43, 55, 39]⟩ : ByteArray) ++ rt ++ (⟨#[43, 55, 39]⟩ : ByteArray)) (w := wt) (HVX.out _ HBWT.out) (q := y) (k := pe) (by simp only [cat_toL]; exact hP))
              unfold MPQ pktA msgA at HPR
              simp only [List.cons_append, List.nil_append] at HPR
              have b1 : (0 : Int) ≤ q := by omega
              have b2 : (q : Int) < 18 := by omega
              have dk0n : (pe != pe) = false := by simp
              clear hr g1 g2 hP c0 c1
              go_upto_region 31 with (go_at_call 23; refine HPR.out.mono ?_; rintro e wu ⟨rfl, hb⟩; have HBU : Hid (Below (F + 1) w9 wu) := Lib.hid (HBT.out.trans (hb.mono hzt)); have HZU : Hid (F + 1 ≤ wu.heap.size) := Lib.hid (Nat.le_trans hzt hb.size); clear hb)
              generalize hwv : World.alloc wu _ = wx
              have HBV : Hid (Below (F + 1) w9 wx) := Lib.hid (by rw [← hwv]; exact HBU.out.alloc HZU.out _)
              clear hwv e0
              have e1 := (HBV.out.cell (p := ⟨F, q * 2 + 1, none⟩) (Nat.lt_succ_self F)).trans HC1.out
              go_wp2_with fail
              go_roundw
              case rel => exact ⟨q + 1, by omega, by go_num, HBV⟩
              case measure => simp [intOf]; omega
            · as_aux_lemma =>
              obtain rfl : q = 18 := by omega
              have HZT : Hid (B ≤ wt.heap.size) := Lib.hid (by have := HBF.out; omega)
              go_wp2_with (go_at_call 16; refine (tells_any _ (HVX.out _ HBWT.out)).mono ?_; rintro e wz ⟨rfl, hb⟩; have HB15 := Lib.hid (HBWT.out.trans (hb.mono HZT.out)); clear hb)
              go_ret
              exact ⟨rfl, HB15.out⟩
end Go.Proofs.YtgfijlamhjjecaaGreatDoor
