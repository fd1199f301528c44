/-
  Disk1: how a disk lies in memory; contracts of may, burn, Waiting, Size, Dead, Kill, Fuse. No condition.
-/
import Derived.Test.YtgfdbjeliojhkaaProg
import Derived.Test.YtgfdbjeliojhkaaBase
import Derived.BigQuiet
import Derived.Deep.QuietTactic
namespace Go.Proofs.Ytgfdbjeliojhkaa
open Go.RowKit

structure DK where
  n : Nat
  L : Sec
  M : Nat → Option Sec
  dead : Bool
  fuse : Int

/-- a disk lies in the blocks db, lb, mb -/
structure DiskAt (w : World) (db lb mb : Nat) (D : DK) : Prop where
  n1 : 1 ≤ D.n
  n2 : D.n ≤ 4096
  f1 : -1 ≤ D.fuse
  f2 : D.fuse ≤ 9223372036854775807
  d : w.heap[db]? = some (.cells #[.slice (some ⟨lb, 0, none⟩) D.n D.n, .map (some mb), .bool D.dead, .int .i64 D.fuse] 66 (0, 0))
  l : w.heap[lb]? = some (.cells (rowA (64 * D.n) D.L) 69 (0, 0))
  m : MapRep w mb D.n D.M

namespace DiskAt
variable {w w' : World} {db lb mb : Nat} {D : DK}
theorem db_lt (h : DiskAt w db lb mb D) : db < w.heap.size := (Array.getElem?_eq_some_iff.1 h.d).1
theorem lb_lt (h : DiskAt w db lb mb D) : lb < w.heap.size := (Array.getElem?_eq_some_iff.1 h.l).1
theorem mb_lt (h : DiskAt w db lb mb D) : mb < w.heap.size := h.m.lt
theorem ne1 (h : DiskAt w db lb mb D) : db ≠ lb := by
  intro e; have h1 := h.d; have h2 := h.l; rw [e, h2] at h1; simp at h1
theorem ne2 (h : DiskAt w db lb mb D) : db ≠ mb := by
  intro e; have h1 := h.d; obtain ⟨l, c, h2, _⟩ := h.m; rw [e, h2] at h1; simp at h1
theorem ne3 (h : DiskAt w db lb mb D) : lb ≠ mb := by
  intro e; have h1 := h.l; obtain ⟨l, c, h2, _⟩ := h.m; rw [e, h2] at h1; simp at h1
theorem cong (h : DiskAt w db lb mb D) (e1 : w'.heap[db]? = w.heap[db]?) (e2 : w'.heap[lb]? = w.heap[lb]?) (e3 : w'.heap[mb]? = w.heap[mb]?) : DiskAt w' db lb mb D :=
  ⟨h.n1, h.n2, h.f1, h.f2, e1.trans h.d, e2.trans h.l, h.m.congrB e3⟩
theorem fr {F : List Nat} (h : DiskAt w db lb mb D) (hf : Fr F w w') (a : db ∉ F) (b : lb ∉ F) (c : mb ∉ F) : DiskAt w' db lb mb D :=
  h.cong (hf.block _ h.db_lt a) (hf.block _ h.lb_lt b) (hf.block _ h.mb_lt c)
theorem fr0 (h : DiskAt w db lb mb D) (hf : Fr [] w w') : DiskAt w' db lb mb D := h.fr hf (by simp) (by simp) (by simp)
theorem c0 (h : DiskAt w db lb mb D) : w.cell? ⟨db, 0, none⟩ = some (.slice (some ⟨lb, 0, none⟩) D.n D.n) := by rw [cell_of_row w db 0 _ _ _ h.d]; rfl
theorem c1 (h : DiskAt w db lb mb D) : w.cell? ⟨db, 1, none⟩ = some (.map (some mb)) := by rw [cell_of_row w db 1 _ _ _ h.d]; rfl
theorem c2 (h : DiskAt w db lb mb D) : w.cell? ⟨db, 2, none⟩ = some (.bool D.dead) := by rw [cell_of_row w db 2 _ _ _ h.d]; rfl
theorem c3 (h : DiskAt w db lb mb D) : w.cell? ⟨db, 3, none⟩ = some (.int .i64 D.fuse) := by rw [cell_of_row w db 3 _ _ _ h.d]; rfl
theorem fz (h : DiskAt w db lb mb D) (j : Nat) : w.frozen? ⟨db, j, none⟩ = false := frozen_of_row w db j _ _ h.d
theorem set2 (h : DiskAt w db lb mb D) (b : Bool) : DiskAt (w.setCell ⟨db, 2, none⟩ (.bool b)) db lb mb { D with dead := b } :=
  ⟨h.n1, h.n2, h.f1, h.f2, by rw [heap_setCell_same w db 2 _ _ _ h.d]; rfl, by rw [heap_setCell_other w _ _ _ h.ne1.symm]; exact h.l, h.m.congrB (heap_setCell_other w _ _ _ h.ne2.symm)⟩
theorem set3 (h : DiskAt w db lb mb D) (f : Int) (h1 : -1 ≤ f) (h2 : f ≤ 9223372036854775807) : DiskAt (w.setCell ⟨db, 3, none⟩ (.int .i64 f)) db lb mb { D with fuse := f } :=
  ⟨h.n1, h.n2, h1, h2, by rw [heap_setCell_same w db 3 _ _ _ h.d]; rfl, by rw [heap_setCell_other w _ _ _ h.ne1.symm]; exact h.l, h.m.congrB (heap_setCell_other w _ _ _ h.ne2.symm)⟩
end DiskAt

def mayE (D : DK) (a b : Int) : Int := if D.dead then 120 else if a < 0 ∨ b < 0 ∨ (D.n : Int) < a ∨ (D.n : Int) - a < b then 1 else 0

set_option maxHeartbeats 400000 in
theorem may_nil (a b : Int) (w : World) :
    Calls Try.prog 34 #[.pointer none, .int .i64 a, .int .i64 b] w fun e w' => e = .returned (.int .i64 8) ∧ w = w' := by
  go_enter Try.func34, Try.ntmps34
  go_wp2
  go_ret
  exact ⟨rfl, rfl⟩

theorem ret_int {k : IntKind} {a b : Int} (h : a = b) : Ending.returned (.int k a) = .returned (.int k b) := by rw [h]

set_option maxHeartbeats 400000 in
theorem may_some {db lb mb : Nat} {D : DK} (a b : Int) (w : World) (h : DiskAt w db lb mb D) (ha : -9223372036854775808 ≤ a) (ha2 : a ≤ 9223372036854775807) :
    Calls Try.prog 34 #[.pointer (some ⟨db, 0, none⟩), .int .i64 a, .int .i64 b] w fun e w' => e = .returned (.int .i64 (mayE D a b)) ∧ w = w' := by
  have c0 := h.c0
  have c2 := h.c2
  have n2 := h.n2
  have hE : mayE D a b = if D.dead then 120 else if a < 0 ∨ b < 0 ∨ (D.n : Int) < a ∨ (D.n : Int) - a < b then 1 else 0 := rfl
  have HE := Lib.hid hE
  clear hE h
  cases hd : D.dead
  · rw [hd] at c2
    have HD := Lib.hid hd
    clear hd
    go_enter Try.func34, Try.ntmps34
    go_wp2
    all_goals
      go_ret
      refine ⟨ret_int ?_, rfl⟩
      rw [HE.out, HD.out]
      simp only [Bool.false_eq_true, if_false]
      first | rw [if_pos (by omega)] | rw [if_neg (by omega)]
  · rw [hd] at c2
    have HD := Lib.hid hd
    clear hd
    go_enter Try.func34, Try.ntmps34
    go_wp2
    go_ret
    exact ⟨ret_int (by rw [HE.out, HD.out]; rfl), rfl⟩

def burnE (D : DK) : Int := if D.fuse = 0 then 120 else 0
def DK.burn (D : DK) : DK := if D.fuse = 0 then { D with dead := true } else if 0 < D.fuse then { D with fuse := D.fuse - 1 } else D

set_option maxHeartbeats 400000 in
theorem burn_any {db lb mb : Nat} {D : DK} (w : World) (h : DiskAt w db lb mb D) :
    Calls Try.prog 35 #[.pointer (some ⟨db, 0, none⟩)] w fun e w' => e = .returned (.int .i64 (burnE D)) ∧ DiskAt w' db lb mb D.burn ∧ Fr [db] w w' := by
  have c3 := h.c3
  have fz2 := h.fz 2
  have fz3 := h.fz 3
  have c2 := h.c2
  have f1 := h.f1
  have f2 := h.f2
  have H := Lib.hid h
  clear h
  by_cases h0 : D.fuse = 0
  · have e1 : burnE D = 120 := by simp [burnE, h0]
    have e2 : D.burn = { D with dead := true } := by simp [DK.burn, h0]
    have E1 := Lib.hid e1
    have E2 := Lib.hid e2
    have t : (D.fuse == 0) = true := by simp [h0]
    have H0 := Lib.hid h0
    clear e1 e2 h0
    go_enter Try.func35, Try.ntmps35
    go_wp2
    go_ret
    refine ⟨ret_int E1.out.symm, ?_, Fr.setCell _ (by simp) _⟩
    rw [E2.out]
    exact H.out.set2 true
  · have t : (D.fuse == 0) = false := by simp [h0]
    have e1 : burnE D = 0 := by simp [burnE, h0]
    have E1 := Lib.hid e1
    clear e1
    by_cases hp : 0 < D.fuse
    · have e2 : D.burn = { D with fuse := D.fuse - 1 } := by simp [DK.burn, h0, hp]
      have E2 := Lib.hid e2
      clear e2 h0
      go_enter Try.func35, Try.ntmps35
      go_wp2
      go_ret
      refine ⟨ret_int E1.out.symm, ?_, Fr.setCell _ (by simp) _⟩
      rw [E2.out]
      exact H.out.set3 _ (by omega) (by omega)
    · have e2 : D.burn = D := by simp [DK.burn, h0, hp]
      have E2 := Lib.hid e2
      clear e2 h0
      go_enter Try.func35, Try.ntmps35
      go_wp2
      go_ret
      refine ⟨ret_int E1.out.symm, ?_, Fr.refl _ _⟩
      rw [E2.out]
      exact H.out

set_option maxHeartbeats 400000 in
theorem size_nil (w : World) : Calls Try.prog 24 #[.pointer none] w fun e w' => e = .returned (.int .i64 0) ∧ w = w' := by
  go_enter Try.func24, Try.ntmps24
  go_wp2
  go_ret
  exact ⟨rfl, rfl⟩
theorem size_some {db lb mb : Nat} {D : DK} (w : World) (h : DiskAt w db lb mb D) :
    Calls Try.prog 24 #[.pointer (some ⟨db, 0, none⟩)] w fun e w' => e = .returned (.int .i64 D.n) ∧ w = w' := by
  have c0 := h.c0
  clear h
  go_enter Try.func24, Try.ntmps24
  go_wp2
  go_ret
  exact ⟨rfl, rfl⟩
theorem dead_nil (w : World) : Calls Try.prog 22 #[.pointer none] w fun e w' => e = .returned (.bool false) ∧ w = w' := by
  go_enter Try.func22, Try.ntmps22
  go_wp2
  go_ret
  exact ⟨rfl, rfl⟩
theorem dead_some {db lb mb : Nat} {D : DK} (w : World) (h : DiskAt w db lb mb D) :
    Calls Try.prog 22 #[.pointer (some ⟨db, 0, none⟩)] w fun e w' => e = .returned (.bool D.dead) ∧ w = w' := by
  have c2 := h.c2
  clear h
  go_enter Try.func22, Try.ntmps22
  go_wp2
  go_ret
  exact ⟨rfl, rfl⟩
theorem kill_nil (w : World) : Calls Try.prog 20 #[.pointer none] w fun e w' => e = .returned (.tuple #[]) ∧ w = w' := by
  go_enter Try.func20, Try.ntmps20
  go_wp2
  go_end0
  exact ⟨rfl, rfl⟩
theorem kill_some {db lb mb : Nat} {D : DK} (w : World) (h : DiskAt w db lb mb D) :
    Calls Try.prog 20 #[.pointer (some ⟨db, 0, none⟩)] w fun e w' => e = .returned (.tuple #[]) ∧ DiskAt w' db lb mb { D with dead := true } ∧ Fr [db] w w' := by
  have c2 := h.c2
  have fz2 := h.fz 2
  have H := Lib.hid h
  clear h
  go_enter Try.func20, Try.ntmps20
  go_wp2
  go_end0
  exact ⟨rfl, H.out.set2 true, Fr.setCell _ (by simp) _⟩
theorem waiting_nil (w : World) : Calls Try.prog 15 #[.pointer none] w fun e w' => e = .returned (.int .i64 0) ∧ w = w' := by
  go_enter Try.func15, Try.ntmps15
  go_wp2
  go_ret
  exact ⟨rfl, rfl⟩
theorem waiting_some {db lb mb : Nat} {D : DK} (w : World) (h : DiskAt w db lb mb D) :
    Calls Try.prog 15 #[.pointer (some ⟨db, 0, none⟩)] w fun e w' => e = .returned (.int .i64 (cntM D.M D.n : Int)) ∧ w = w' := by
  have c1 := h.c1
  have hl := fun ty => run_len_waits (P := Try.prog) Try.underlying64 h.m ty
  clear h
  go_enter Try.func15, Try.ntmps15
  go_wp2
  go_ret
  exact ⟨rfl, rfl⟩
theorem fuse_nil (n : Int) (w : World) : Calls Try.prog 23 #[.pointer none, .int .i64 n] w fun e w' => e = .returned (.tuple #[]) ∧ w = w' := by
  go_enter Try.func23, Try.ntmps23
  go_wp2
  go_end0
  exact ⟨rfl, rfl⟩
def DK.setFuse (D : DK) (n : Int) : DK := if D.dead then D else { D with fuse := if n < -1 then -1 else n }
theorem fuse_some {db lb mb : Nat} {D : DK} (n : Int) (hn : n ≤ 9223372036854775807) (w : World) (h : DiskAt w db lb mb D) :
    Calls Try.prog 23 #[.pointer (some ⟨db, 0, none⟩), .int .i64 n] w fun e w' => e = .returned (.tuple #[]) ∧ DiskAt w' db lb mb (D.setFuse n) ∧ Fr [db] w w' := by
  have c2 := h.c2
  have c3 := h.c3
  have fz3 := h.fz 3
  have H := Lib.hid h
  clear h
  cases hd : D.dead
  · rw [hd] at c2
    have HD := Lib.hid hd
    clear hd
    by_cases hn1 : n < -1
    · have hb : decide (n < -1) = true := by simpa using hn1
      have e2 : D.setFuse n = { D with fuse := -1 } := by simp [DK.setFuse, HD.out, hn1]
      have E2 := Lib.hid e2
      clear e2
      go_enter Try.func23, Try.ntmps23
      go_wp2
      go_end0
      exact ⟨rfl, by rw [E2.out]; exact H.out.set3 _ (by omega) (by omega), Fr.setCell _ (by simp) _⟩
    · have e2 : D.setFuse n = { D with fuse := n } := by simp [DK.setFuse, HD.out, hn1]
      have E2 := Lib.hid e2
      clear e2
      go_enter Try.func23, Try.ntmps23
      go_wp2
      go_end0
      exact ⟨rfl, by rw [E2.out]; exact H.out.set3 _ (by omega) (by omega), Fr.setCell _ (by simp) _⟩
  · rw [hd] at c2
    have HD := Lib.hid hd
    clear hd
    have e2 : D.setFuse n = D := by simp [DK.setFuse, HD.out]
    have E2 := Lib.hid e2
    clear e2
    go_enter Try.func23, Try.ntmps23
    go_wp2
    go_end0
    exact ⟨rfl, by rw [E2.out]; exact H.out, Fr.refl _ _⟩
end Go.Proofs.Ytgfdbjeliojhkaa
