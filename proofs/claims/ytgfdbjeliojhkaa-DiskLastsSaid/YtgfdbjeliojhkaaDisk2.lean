/-
  Disk2: contracts of New and Read. No condition.
-/
import Derived.Test.YtgfdbjeliojhkaaDisk1
import Derived.Test.YtgfdbjeliojhkaaBase2
import Derived.Carry
namespace Go.Proofs.Ytgfdbjeliojhkaa
open Go.RowKit

theorem info_sector : (Try.prog.info? 69).map (fun i => (i.zero, i.size, i.bytes)) = some (some (.agg (rowA 64 fun _ => 0)), 64, 64) := by kernel_rfl
theorem isz_sector : (Try.prog.info? 69).map (·.size) = some 64 := by kernel_rfl
theorem zero_sector (w : World) : (zeroValue 69).run Try.prog w = .ok (.agg (rowA 64 fun _ => 0)) w := by
  obtain ⟨i0, hi, hz0, hz1, hz2⟩ := info_parts info_sector
  simp [zeroValue, typeInfo, hi, hz0]
theorem info_u8 : (Try.prog.info? 5).map (fun i => (i.zero, i.size, i.bytes)) = some (some (.int .u8 0), 1, 1) := by kernel_rfl

theorem isz_u8 : (Try.prog.info? 5).map (·.size) = some 1 := by kernel_rfl

def DK.fresh (n : Nat) : DK := ⟨n, fun _ => 0, fun _ => none, false, -1⟩

theorem new_bad (n : Int) (w : World) (h : n < 1 ∨ 4096 < n) :
    Calls Try.prog 13 #[.int .i64 n] w fun e w' => e = .returned (.tuple #[.pointer none, .int .i64 1]) ∧ w = w' := by
  rcases h with h | h
  · go_enter Try.func13, Try.ntmps13
    go_wp2
    go_ret2
    exact ⟨rfl, rfl⟩
  · have h' : ¬ n < 1 := by omega
    go_enter Try.func13, Try.ntmps13
    go_wp2
    go_ret2
    exact ⟨rfl, rfl⟩

theorem new_ok (n : Nat) (w : World) (h1 : 1 ≤ n) (h2 : n ≤ 4096) :
    Calls Try.prog 13 #[.int .i64 (n : Int)] w fun e w' => e = .returned (.tuple #[.pointer (some ⟨w.heap.size + 2, 0, none⟩), .int .i64 0]) ∧
      DiskAt w' (w.heap.size + 2) w.heap.size (w.heap.size + 1) (DK.fresh n) ∧ Fr [] w w' ∧ w'.heap.size = w.heap.size + 3 := by
  obtain ⟨i0, hi, hz0, hz1, hz2⟩ := info_parts info_sector
  have hmk : ∀ u : World, (Instr.makeSlice 63 (.int .i64 (n : Int)) (.int .i64 (n : Int))).run Try.prog u =
      .ok (.slice (some ⟨u.heap.size, 0, none⟩) n n) (u.alloc (.cells (rowA (64 * n) fun _ => 0) 69)) := fun u => by
    have h := run_make (P := Try.prog) u 63 69 i0 _ Try.underlying63 hi hz0 .i64 .i64 (n : Int) (n : Int) (by omega) (Int.le_refl _) (by rw [hz2]; omega) (by omega)
    rw [h, hz1]
    simp only [Int.toNat_natCast, Value.cells, madeCells_row]
  have hmm := @run_makeMap Try.prog
  clear hi hz0 hz1 hz2
  go_enter Try.func13, Try.ntmps13
  go_wp2
  go_ret2
  refine ⟨rfl, ⟨h1, h2, by simp [DK.fresh], by simp [DK.fresh], ?_, ?_, ?_⟩, ?_, ?_⟩
  · exact heap3_2 _ _ _ _
  · exact heap3_0 _ _ _ _
  · exact ⟨[], 0, heap3_1 _ _ _ _, fun _ => rfl, by simp [DK.fresh, cntM_none], fun _ _ => rfl⟩
  · exact ((Fr.alloc _ _ _).trans (Fr.alloc _ _ _)).trans (Fr.alloc _ _ _)
  · simp

/-- what is read at a place -/
def DK.now (D : DK) : Sec := fun j => match D.M (j / 64) with | some s => s (j % 64) | none => D.L j

theorem now_none {D : DK} {i j : Nat} (h : D.M i = none) (e : j / 64 = i) : D.now j = D.L j := by subst e; simp [DK.now, h]
theorem now_some {D : DK} {i j : Nat} {s : Sec} (h : D.M i = some s) (e : j / 64 = i) : D.now j = s (j % 64) := by subst e; simp [DK.now, h]
theorem read_err {db lb mb : Nat} {D : DK} (a m : Int) (w : World) (h : DiskAt w db lb mb D) (ha : -9223372036854775808 ≤ a) (ha2 : a ≤ 9223372036854775807) (hE : mayE D a m ≠ 0) :
    Calls Try.prog 17 #[.pointer (some ⟨db, 0, none⟩), .int .i64 a, .int .i64 m] w fun e w' => e = .returned (.tuple #[.slice none 0 0, .int .i64 (mayE D a m)]) ∧ w = w' := by
  have t : (mayE D a m != 0) = true := by simpa using hE
  have HE := Lib.hid hE
  have H := Lib.hid h
  clear h hE
  go_enter Try.func17, Try.ntmps17
  go_wp2_with (go_at_call 34; refine (may_some _ _ _ H.out ha ha2).mono ?_; rintro e w' ⟨rfl, rfl⟩)
  go_ret2
  exact ⟨rfl, rfl⟩
theorem read_nil (a m : Int) (w : World) :
    Calls Try.prog 17 #[.pointer none, .int .i64 a, .int .i64 m] w fun e w' => e = .returned (.tuple #[.slice none 0 0, .int .i64 8]) ∧ w = w' := by
  go_enter Try.func17, Try.ntmps17
  go_wp2_with (go_at_call 34; refine (may_nil _ _ _).mono ?_; rintro e w' ⟨rfl, rfl⟩)
  go_ret2
  exact ⟨rfl, rfl⟩

theorem owns_snoc {w : World} {B : Nat} {e : TypeId} {v : Value} {k : Nat} {f g : Sec} (h : w.ownsRow B e 1 v (64 * k + 64) (rowL (64 * k) f ++ rowL 64 g)) (hs : ∀ j, j < 64 → g j = f (64 * k + j)) :
    w.ownsRow B e 1 v (64 * (k + 1)) (rowL (64 * (k + 1)) f) := by
  rw [rowL_snoc k f g hs] at h
  have e : 64 * (k + 1) = 64 * k + 64 := by omega
  rw [e] at h ⊢
  exact h
theorem read_fr {w wr w1 : World} {o : Obj} {u : Value} (h : Fr [] w wr) (hu : ∀ k, u.ownBlock = some k → w.heap.size ≤ k ∧ k < wr.heap.size) (hg : (wr.alloc o).grownBy w1 u.ownBlock) : Fr [] w w1 := by
  have h2 : Fr [] w (wr.alloc o) := h.trans (Fr.alloc _ _ _)
  refine ⟨hg.os.trans h2.os, hg.tape.trans h2.tape, hg.output.trans h2.output, Nat.le_trans h2.size hg.size, fun k hk _ => (hg.block k (Nat.lt_of_lt_of_le hk h2.size) (fun e => ?_)).trans (h2.block k hk (by simp))⟩
  have := (hu k e.symm).1
  omega
set_option maxHeartbeats 1000000 in
theorem read_ok {db lb mb : Nat} {D : DK} (a m : Nat) (w : World) (h : DiskAt w db lb mb D) (hd : D.dead = false) (ham : a + m ≤ D.n) :
    Calls Try.prog 17 #[.pointer (some ⟨db, 0, none⟩), .int .i64 (a : Int), .int .i64 (m : Int)] w fun e w' => ∃ v, e = .returned (.tuple #[v, .int .i64 0]) ∧
      w'.ownsRow w.heap.size 5 1 v (64 * m) (rowL (64 * m) fun j => D.now (64 * a + j)) ∧ Fr [] w w' := by
  have hE : mayE D a m = 0 := by simp only [mayE, hd]; rw [if_neg (by simp), if_neg (by omega)]
  have HE := Lib.hid hE
  have H := Lib.hid h
  have HD := Lib.hid hd
  have n2 := h.n2
  clear h hE hd
  go_enter Try.func17, Try.ntmps17
  go_wp2_with (go_at_call 34; refine (may_some _ _ _ H.out (by omega) (by omega)).mono ?_; rw [HE.out]; rintro e w' ⟨rfl, rfl⟩)
  obtain ⟨i0, hi, hz0, hz1, hz2⟩ := info_parts info_u8
  go_loopw [9, 10] (fun v i wr => ∃ k : Nat, k ≤ m ∧ i = .int .i64 ((a : Int) + (k : Int)) ∧ wr.ownsRow w.heap.size 5 1 v (64 * k) (rowL (64 * k) fun j => D.now (64 * a + j)) ∧ Fr [] w wr)
    (fun _ i _ => (a + m) - (intOf i).toNat)
  case atStart => exact ⟨0, Nat.zero_le _, by simp, World.ownsRow_nil _ _ _ _, Fr.refl _ _⟩
  case round =>
    obtain ⟨k, hk, rfl, hown, hfr⟩ := hrel
    have Hr := Lib.hid (H.out.fr0 hfr)
    have c0 := Hr.out.c0
    have c1 := Hr.out.c1
    have hdb := Hr.out.db_lt
    have c0' : ∀ o, (wr.alloc o).cell? ⟨db, 0, none⟩ = some (.slice (some ⟨lb, 0, none⟩) D.n D.n) := fun o => (World.cell?_alloc_lt _ _ _ hdb).trans c0
    have FR := Lib.hid hfr
    have hsz := hfr.size
    clear hfr
    by_cases hlt : k < m
    · have hlk := run_lookup_waits (P := Try.prog) Try.underlying64 Try.underlying3 zero_sector Hr.out.m (a + k)
      rw [show (((a + k : Nat)) : Int) = (a : Int) + (k : Int) by omega] at hlk
      cases hM : D.M (a + k) with
      | none =>
        rw [hM] at hlk
        simp only [Option.isSome_none, Option.getD_none] at hlk
        have HM := Lib.hid hM
        clear hM
        have hr := rangeAt_row Hr.out.l ((a + k) * 64) 64 (by omega)
        have HR := Lib.hid hr
        clear hr
        have HLK := Lib.hid hlk
        clear hlk
        go_wp2_with (first
          | (at_lookup; refine wpList_lookup_run rfl rfl rfl rfl HLK.out ?_)
          | ((with_reducible refine wpList_at (.alloc 69) rfl ?_); refine wpList_alloc_arr rfl 69 rfl 64 (fun _ => 0) zero_sector ?_)
          | ((with_reducible refine wpList_at (.store 69 (.tmp 11) (.tmp 35)) rfl ?_); refine wpList_store_new rfl 69 _ _ rfl 64 (fun _ => 0) _ rfl rfl isz_sector ?_)
          | ((with_reducible refine wpList_at (.load 69 (.tmp 44)) rfl ?_); refine wpList_load_arr rfl 69 _ rfl lb ((a + k) * 64) rfl 64 _ _ (by exact rangeAt_alloc' HR.out _) Try.underlying69 rfl isz_sector ?_)
          | ((with_reducible refine wpList_at (.store 69 (.tmp 11) (.tmp 45)) rfl ?_); refine wpList_store_new rfl 69 _ _ rfl 64 (fun _ => 0) _ rfl rfl isz_sector ?_)
          | (at_builtin; refine wpList_append_own _ rfl _ _ 31 rfl w.heap.size 5 i0 (.int .u8 0) 1 1 Try.underlying31 hi hz0 hz1 hz2 rfl (by decide) _ _ _ rfl (hown.alloc _) ⟨wr.heap.size, 0, none⟩ 64 64 _ rfl (by rw [rowL_length]) (row_new wr 64 _ _) rowL_one (by unfold maxLen; omega) (by omega) (by simp; omega) ?_; intro v' w1 hown' hgrow _))
        go_roundw
        case rel =>
          refine ⟨k + 1, by omega, by go_num, ?_, read_fr FR.out (hown.lt) hgrow⟩
          exact owns_snoc hown' (fun j hj => by
            rw [now_none (i := a + k) HM.out (by omega)]
            exact congrArg D.L (by omega))
        case measure => simp [intOf]; omega
      | some s =>
        rw [hM] at hlk
        simp only [Option.isSome_some, Option.getD_some] at hlk
        have HM := Lib.hid hM
        clear hM
        have HLK := Lib.hid hlk
        clear hlk
        go_wp2_with (first
          | (at_lookup; refine wpList_lookup_run rfl rfl rfl rfl HLK.out ?_)
          | ((with_reducible refine wpList_at (.alloc 69) rfl ?_); refine wpList_alloc_arr rfl 69 rfl 64 (fun _ => 0) zero_sector ?_)
          | ((with_reducible refine wpList_at (.store 69 (.tmp 11) (.tmp 35)) rfl ?_); refine wpList_store_new rfl 69 _ _ rfl 64 (fun _ => 0) _ rfl rfl isz_sector ?_)
          | (at_builtin; refine wpList_append_own _ rfl _ _ 31 rfl w.heap.size 5 i0 (.int .u8 0) 1 1 Try.underlying31 hi hz0 hz1 hz2 rfl (by decide) _ _ _ rfl (hown.alloc _) ⟨wr.heap.size, 0, none⟩ 64 64 _ rfl (by rw [rowL_length]) (row_new wr 64 _ _) rowL_one (by unfold maxLen; omega) (by omega) (by simp; omega) ?_; intro v' w1 hown' hgrow _))
        go_roundw
        case rel =>
          refine ⟨k + 1, by omega, by go_num, ?_, read_fr FR.out (hown.lt) hgrow⟩
          exact owns_snoc hown' (fun j hj => by
            rw [now_some (i := a + k) HM.out (by omega)]
            exact congrArg s (by omega))
        case measure => simp [intOf]; omega
    · go_wp2
      go_ret2
      obtain rfl : k = m := by omega
      exact ⟨_, rfl, hown, FR.out⟩
end Go.Proofs.Ytgfdbjeliojhkaa
