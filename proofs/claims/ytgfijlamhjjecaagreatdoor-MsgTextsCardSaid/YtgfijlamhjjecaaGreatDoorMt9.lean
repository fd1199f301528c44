/-
  Texts MsgX1, MsgX5, KMap, MsgX6, MsgE, one behind the other. No condition beyond those stated in each.
-/
import Derived.Test.YtgfijlamhjjecaaGreatDoorMt8
import Derived.Test.YtgfijlamhjjecaaGreatDoorMt7
import Derived.Test.YtgfijlamhjjecaaGreatDoorMt1
import Derived.Test.YtgfijlamhjjecaaGreatDoorMt6
namespace Go.Proofs.YtgfijlamhjjecaaGreatDoor
open Go.RowKit
def TellQ (v lo hi : Int) (w : World) (e : Ending) (w' : World) : Prop := e = .returned (.tuple #[.string ⟨(sgnT v).toArray⟩, .bool (decide (lo ≤ v) && decide (v ≤ hi))]) ∧ Below w.heap.size w w'
theorem tellQ_yes {v lo hi : Int} {w w' : World} (h1 : lo ≤ v) (hb : Below w.heap.size w w') : TellQ v lo hi w (.returned (.tuple #[.string ⟨(sgnT v).toArray⟩, .bool (decide (v ≤ hi))])) w' := by
  unfold TellQ; simp [h1, hb]
theorem tellQ_no {v lo hi : Int} {w w' : World} (h1 : ¬ lo ≤ v) (hb : Below w.heap.size w w') : TellQ v lo hi w (.returned (.tuple #[.string ⟨(sgnT v).toArray⟩, .bool false])) w' := by
  unfold TellQ; simp [h1, hb]
def ReadQ (t : Str) (lo hi : Int) (k : IntKind) (a : Addr) (w : World) (e : Ending) (w' : World) : Prop := ∃ w1, Below w.heap.size w w1 ∧ e = .returned (.bool (wholeE t lo hi).isSome) ∧ w' = w1.setCell a (.int k ((wholeE t lo hi).getD 0))
theorem at_car (g o : Nat) (w : World) : Calls Tryz.prog 71 #[.pointer (some ⟨g, o, none⟩)] w fun e w' => e = .returned (.pointer (some ⟨g, o + 4, none⟩)) ∧ w = w' := by
  go_enter Tryz.func71, Tryz.ntmps71
  go_wp2_with fail
  go_ret
  exact ⟨rfl, rfl⟩
set_option maxRecDepth 100000 in
set_option maxHeartbeats 1000000 in
theorem tell_car (g o a : Nat) (v lo hi : Int) (hb : -9223372036854775808 ≤ v ∧ v ≤ 9223372036854775807) (w : World) (hV : VarsOk w) (hc : w.cell? ⟨g, o + 4, none⟩ = some (.int .u8 v))
    (h0 : w.cell? ⟨a, 0, none⟩ = some (.func (.func 71) #[] #[])) (h1 : w.cell? ⟨a + 1, 0, none⟩ = some (.int .i64 lo)) (h2 : w.cell? ⟨a + 2, 0, none⟩ = some (.int .i64 hi)) :
    Calls Tryz.prog 115 #[.pointer (some ⟨g, o, none⟩), .pointer (some ⟨a, 0, none⟩), .pointer (some ⟨a + 1, 0, none⟩), .pointer (some ⟨a + 2, 0, none⟩)] w fun e w' => TellQ v lo hi w e w' := by
  have wr : IntKind.i64.wrap v = v := IntWalk.i64_in _ (by omega)
  have HV := Lib.hid hV
  obtain ⟨b0, b1⟩ := hb
  clear hV
  go_enter Tryz.func115, Tryz.ntmps115
  go_upto_region 2 with (go_at_call 71; refine (at_car _ _ _).mono ?_; rintro e w' ⟨rfl, rfl⟩)
  refine wp_region_plan [(0, false), (2, false), (3, false), (4, false), (1, true), (5, false), (6, false), (7, false), (8, false), (9, false), (10, false), (11, false)] (fun w' => w'.cell? ⟨a + 1, 0, none⟩ = some (.int .i64 lo) ∧ w'.cell? ⟨a + 2, 0, none⟩ = some (.int .i64 hi)) (by kernel_rfl) (by kernel_rfl) ⟨h1, h2⟩ ?_
  by_cases hlo : lo ≤ v
  · have i1 : decide (v ≥ lo) = true := by rw [decide_eq_true_eq]; exact hlo
    iterate 4 (refine' plan_val rfl rfl (fun w' hS => ?_) ?_; rotate_left; (focus (first | rfl | (obtain ⟨hS1, hS2⟩ := hS; go_simp; rfl))); simp only [Act.put, List.setIfInBounds_toArray, List.set_cons_zero, List.set_cons_succ])
    refine plan_do rfl (fun K hK => ?_)
    go_wp2_with (go_at_call 116; refine (fmtInt_any v b0 b1 _ (HV.out.on ((Below.refl w.heap.size w).drew) (Nat.le_refl _))).mono ?_; rintro e w1 ⟨rfl, hb⟩; have HB := Lib.hid hb; clear hb)
    refine hK _ _ ⟨(HB.out.cell (p := ⟨a + 1, 0, none⟩) (cell_lt' h1)).trans h1, (HB.out.cell (p := ⟨a + 2, 0, none⟩) (cell_lt' h2)).trans h2⟩ ?_
    clear hK K
    iterate 7 (refine' plan_val rfl rfl (fun w' hS => ?_) ?_; rotate_left; (focus (first | rfl | (obtain ⟨hS1, hS2⟩ := hS; go_simp; rfl))); simp only [Act.put, List.setIfInBounds_toArray, List.set_cons_zero, List.set_cons_succ])
    refine plan_nil ?_
    go_wp2_with fail
    go_ret2
    exact tellQ_yes hlo ((Below.refl _ _).drew.trans HB.out)
  · have i1 : decide (v ≥ lo) = false := by rw [decide_eq_false_iff_not]; exact hlo
    iterate 4 (refine' plan_val rfl rfl (fun w' hS => ?_) ?_; rotate_left; (focus (first | rfl | (obtain ⟨hS1, hS2⟩ := hS; go_simp; rfl))); simp only [Act.put, List.setIfInBounds_toArray, List.set_cons_zero, List.set_cons_succ])
    refine plan_do rfl (fun K hK => ?_)
    go_wp2_with (go_at_call 116; refine (fmtInt_any v b0 b1 _ (HV.out.on ((Below.refl w.heap.size w).drew) (Nat.le_refl _))).mono ?_; rintro e w1 ⟨rfl, hb⟩; have HB := Lib.hid hb; clear hb)
    refine hK _ _ ⟨(HB.out.cell (p := ⟨a + 1, 0, none⟩) (cell_lt' h1)).trans h1, (HB.out.cell (p := ⟨a + 2, 0, none⟩) (cell_lt' h2)).trans h2⟩ ?_
    clear hK K
    (refine' plan_val rfl rfl (fun w' hS => ?_) ?_; rotate_left; (focus (first | rfl | (obtain ⟨hS1, hS2⟩ := hS; go_simp; rfl))); simp only [Act.put, List.setIfInBounds_toArray, List.set_cons_zero, List.set_cons_succ])
    iterate 3 (refine plan_skip rfl rfl ?_; simp only [Act.put, List.setIfInBounds_toArray, List.set_cons_zero, List.set_cons_succ])
    iterate 3 (refine' plan_val rfl rfl (fun w' hS => ?_) ?_; rotate_left; (focus (first | rfl | (obtain ⟨hS1, hS2⟩ := hS; go_simp; rfl))); simp only [Act.put, List.setIfInBounds_toArray, List.set_cons_zero, List.set_cons_succ])
    refine plan_nil ?_
    go_wp2_with fail
    go_ret2
    exact tellQ_no (by omega) ((Below.refl _ _).drew.trans HB.out)
set_option maxRecDepth 100000 in
set_option maxHeartbeats 1000000 in
theorem read_car (g o a : Nat) (s : ByteArray) (hl : s.size ≤ 1048576) (lo hi u : Int) (hr : ∀ v, lo ≤ v → v ≤ hi → IntKind.u8.wrap v = v) (hlo : -9223372036854775808 ≤ lo) (hhi : hi ≤ 9223372036854775807) (w : World) (hV : VarsOk w)
    (hc : w.cell? ⟨g, o + 4, none⟩ = some (.int .u8 u)) (hf : w.frozen? ⟨g, o + 4, none⟩ = false)
    (h0 : w.cell? ⟨a, 0, none⟩ = some (.func (.func 71) #[] #[])) (h1 : w.cell? ⟨a + 1, 0, none⟩ = some (.int .i64 lo)) (h2 : w.cell? ⟨a + 2, 0, none⟩ = some (.int .i64 hi)) :
    Calls Tryz.prog 117 #[.pointer (some ⟨g, o, none⟩), .string s, .pointer (some ⟨a + 1, 0, none⟩), .pointer (some ⟨a + 2, 0, none⟩), .pointer (some ⟨a, 0, none⟩)] w fun e w' => ReadQ s.data.toList lo hi .u8 ⟨g, o + 4, none⟩ w e w' := by
  have HW := Lib.hid (whole_any s hl lo hi hlo hhi w hV)
  have HR := Lib.hid (show IntKind.u8.wrap ((wholeE s.data.toList lo hi).getD 0) = (wholeE s.data.toList lo hi).getD 0 by
    cases hx : wholeE s.data.toList lo hi with
    | none => decide
    | some v =>
      unfold wholeE at hx
      cases hi' : intW s.data.toList with
      | none => rw [hi'] at hx; cases hx
      | some u' =>
        rw [hi'] at hx
        simp only at hx
        split at hx
        · rename_i hbb
          cases hx
          exact hr _ hbb.1 hbb.2
        · cases hx)
  unfold ReadQ
  obtain ⟨R, hR⟩ : ∃ R, wholeE s.data.toList lo hi = R := ⟨_, rfl⟩
  unfold WholeQ at HW
  rw [hR] at HW HR ⊢
  obtain ⟨rv, hrv⟩ : ∃ rv, R.getD 0 = rv := ⟨_, rfl⟩
  obtain ⟨rb, hrb⟩ : ∃ rb, R.isSome = rb := ⟨_, rfl⟩
  rw [hrv] at HW HR ⊢
  rw [hrb] at HW ⊢
  have hwr := HR.out
  clear hR hrv hrb hr hV hlo hhi HR
  go_enter Tryz.func117, Tryz.ntmps117
  go_wp2_with (first | (go_at_call 53; refine HW.out.mono ?_; rintro e w1 ⟨rfl, hb⟩; have c0 := (hb.cell (p := ⟨a, 0, none⟩) (cell_lt' h0)).trans h0; have cc := (hb.cell (p := ⟨g, o + 4, none⟩) (cell_lt' hc)).trans hc; have ff := (hb.frozen (p := ⟨g, o + 4, none⟩) (cell_lt' hc)).trans hf; have HB := Lib.hid hb; clear hb) | (go_at_call 71; refine (at_car _ _ _).mono ?_; rintro e w' ⟨rfl, rfl⟩))
  go_ret
  exact ⟨_, HB.out, rfl, rfl⟩
theorem at_fl (g o : Nat) (w : World) : Calls Tryz.prog 73 #[.pointer (some ⟨g, o, none⟩)] w fun e w' => e = .returned (.pointer (some ⟨g, o + 5, none⟩)) ∧ w = w' := by
  go_enter Tryz.func73, Tryz.ntmps73
  go_wp2_with fail
  go_ret
  exact ⟨rfl, rfl⟩
set_option maxRecDepth 100000 in
set_option maxHeartbeats 1000000 in
theorem tell_fl (g o a : Nat) (v lo hi : Int) (hb : -9223372036854775808 ≤ v ∧ v ≤ 9223372036854775807) (w : World) (hV : VarsOk w) (hc : w.cell? ⟨g, o + 5, none⟩ = some (.int .u16 v))
    (h0 : w.cell? ⟨a, 0, none⟩ = some (.func (.func 73) #[] #[])) (h1 : w.cell? ⟨a + 1, 0, none⟩ = some (.int .i64 lo)) (h2 : w.cell? ⟨a + 2, 0, none⟩ = some (.int .i64 hi)) :
    Calls Tryz.prog 118 #[.pointer (some ⟨g, o, none⟩), .pointer (some ⟨a, 0, none⟩), .pointer (some ⟨a + 1, 0, none⟩), .pointer (some ⟨a + 2, 0, none⟩)] w fun e w' => TellQ v lo hi w e w' := by
  have wr : IntKind.i64.wrap v = v := IntWalk.i64_in _ (by omega)
  have HV := Lib.hid hV
  obtain ⟨b0, b1⟩ := hb
  clear hV
  go_enter Tryz.func118, Tryz.ntmps118
  go_upto_region 2 with (go_at_call 73; refine (at_fl _ _ _).mono ?_; rintro e w' ⟨rfl, rfl⟩)
  refine wp_region_plan [(0, false), (2, false), (3, false), (4, false), (1, true), (5, false), (6, false), (7, false), (8, false), (9, false), (10, false), (11, false)] (fun w' => w'.cell? ⟨a + 1, 0, none⟩ = some (.int .i64 lo) ∧ w'.cell? ⟨a + 2, 0, none⟩ = some (.int .i64 hi)) (by kernel_rfl) (by kernel_rfl) ⟨h1, h2⟩ ?_
  by_cases hlo : lo ≤ v
  · have i1 : decide (v ≥ lo) = true := by rw [decide_eq_true_eq]; exact hlo
    iterate 4 (refine' plan_val rfl rfl (fun w' hS => ?_) ?_; rotate_left; (focus (first | rfl | (obtain ⟨hS1, hS2⟩ := hS; go_simp; rfl))); simp only [Act.put, List.setIfInBounds_toArray, List.set_cons_zero, List.set_cons_succ])
    refine plan_do rfl (fun K hK => ?_)
    go_wp2_with (go_at_call 116; refine (fmtInt_any v b0 b1 _ (HV.out.on ((Below.refl w.heap.size w).drew) (Nat.le_refl _))).mono ?_; rintro e w1 ⟨rfl, hb⟩; have HB := Lib.hid hb; clear hb)
    refine hK _ _ ⟨(HB.out.cell (p := ⟨a + 1, 0, none⟩) (cell_lt' h1)).trans h1, (HB.out.cell (p := ⟨a + 2, 0, none⟩) (cell_lt' h2)).trans h2⟩ ?_
    clear hK K
    iterate 7 (refine' plan_val rfl rfl (fun w' hS => ?_) ?_; rotate_left; (focus (first | rfl | (obtain ⟨hS1, hS2⟩ := hS; go_simp; rfl))); simp only [Act.put, List.setIfInBounds_toArray, List.set_cons_zero, List.set_cons_succ])
    refine plan_nil ?_
    go_wp2_with fail
    go_ret2
    exact tellQ_yes hlo ((Below.refl _ _).drew.trans HB.out)
  · have i1 : decide (v ≥ lo) = false := by rw [decide_eq_false_iff_not]; exact hlo
    iterate 4 (refine' plan_val rfl rfl (fun w' hS => ?_) ?_; rotate_left; (focus (first | rfl | (obtain ⟨hS1, hS2⟩ := hS; go_simp; rfl))); simp only [Act.put, List.setIfInBounds_toArray, List.set_cons_zero, List.set_cons_succ])
    refine plan_do rfl (fun K hK => ?_)
    go_wp2_with (go_at_call 116; refine (fmtInt_any v b0 b1 _ (HV.out.on ((Below.refl w.heap.size w).drew) (Nat.le_refl _))).mono ?_; rintro e w1 ⟨rfl, hb⟩; have HB := Lib.hid hb; clear hb)
    refine hK _ _ ⟨(HB.out.cell (p := ⟨a + 1, 0, none⟩) (cell_lt' h1)).trans h1, (HB.out.cell (p := ⟨a + 2, 0, none⟩) (cell_lt' h2)).trans h2⟩ ?_
    clear hK K
    (refine' plan_val rfl rfl (fun w' hS => ?_) ?_; rotate_left; (focus (first | rfl | (obtain ⟨hS1, hS2⟩ := hS; go_simp; rfl))); simp only [Act.put, List.setIfInBounds_toArray, List.set_cons_zero, List.set_cons_succ])
    iterate 3 (refine plan_skip rfl rfl ?_; simp only [Act.put, List.setIfInBounds_toArray, List.set_cons_zero, List.set_cons_succ])
    iterate 3 (refine' plan_val rfl rfl (fun w' hS => ?_) ?_; rotate_left; (focus (first | rfl | (obtain ⟨hS1, hS2⟩ := hS; go_simp; rfl))); simp only [Act.put, List.setIfInBounds_toArray, List.set_cons_zero, List.set_cons_succ])
    refine plan_nil ?_
    go_wp2_with fail
    go_ret2
    exact tellQ_no (by omega) ((Below.refl _ _).drew.trans HB.out)
set_option maxRecDepth 100000 in
set_option maxHeartbeats 1000000 in
theorem read_fl (g o a : Nat) (s : ByteArray) (hl : s.size ≤ 1048576) (lo hi u : Int) (hr : ∀ v, lo ≤ v → v ≤ hi → IntKind.u16.wrap v = v) (hlo : -9223372036854775808 ≤ lo) (hhi : hi ≤ 9223372036854775807) (w : World) (hV : VarsOk w)
    (hc : w.cell? ⟨g, o + 5, none⟩ = some (.int .u16 u)) (hf : w.frozen? ⟨g, o + 5, none⟩ = false)
    (h0 : w.cell? ⟨a, 0, none⟩ = some (.func (.func 73) #[] #[])) (h1 : w.cell? ⟨a + 1, 0, none⟩ = some (.int .i64 lo)) (h2 : w.cell? ⟨a + 2, 0, none⟩ = some (.int .i64 hi)) :
    Calls Tryz.prog 119 #[.pointer (some ⟨g, o, none⟩), .string s, .pointer (some ⟨a + 1, 0, none⟩), .pointer (some ⟨a + 2, 0, none⟩), .pointer (some ⟨a, 0, none⟩)] w fun e w' => ReadQ s.data.toList lo hi .u16 ⟨g, o + 5, none⟩ w e w' := by
  have HW := Lib.hid (whole_any s hl lo hi hlo hhi w hV)
  have HR := Lib.hid (show IntKind.u16.wrap ((wholeE s.data.toList lo hi).getD 0) = (wholeE s.data.toList lo hi).getD 0 by
    cases hx : wholeE s.data.toList lo hi with
    | none => decide
    | some v =>
      unfold wholeE at hx
      cases hi' : intW s.data.toList with
      | none => rw [hi'] at hx; cases hx
      | some u' =>
        rw [hi'] at hx
        simp only at hx
        split at hx
        · rename_i hbb
          cases hx
          exact hr _ hbb.1 hbb.2
        · cases hx)
  unfold ReadQ
  obtain ⟨R, hR⟩ : ∃ R, wholeE s.data.toList lo hi = R := ⟨_, rfl⟩
  unfold WholeQ at HW
  rw [hR] at HW HR ⊢
  obtain ⟨rv, hrv⟩ : ∃ rv, R.getD 0 = rv := ⟨_, rfl⟩
  obtain ⟨rb, hrb⟩ : ∃ rb, R.isSome = rb := ⟨_, rfl⟩
  rw [hrv] at HW HR ⊢
  rw [hrb] at HW ⊢
  have hwr := HR.out
  clear hR hrv hrb hr hV hlo hhi HR
  go_enter Tryz.func119, Tryz.ntmps119
  go_wp2_with (first | (go_at_call 53; refine HW.out.mono ?_; rintro e w1 ⟨rfl, hb⟩; have c0 := (hb.cell (p := ⟨a, 0, none⟩) (cell_lt' h0)).trans h0; have cc := (hb.cell (p := ⟨g, o + 5, none⟩) (cell_lt' hc)).trans hc; have ff := (hb.frozen (p := ⟨g, o + 5, none⟩) (cell_lt' hc)).trans hf; have HB := Lib.hid hb; clear hb) | (go_at_call 73; refine (at_fl _ _ _).mono ?_; rintro e w' ⟨rfl, rfl⟩))
  go_ret
  exact ⟨_, HB.out, rfl, rfl⟩
theorem at_we (g o : Nat) (w : World) : Calls Tryz.prog 75 #[.pointer (some ⟨g, o, none⟩)] w fun e w' => e = .returned (.pointer (some ⟨g, o + 6, none⟩)) ∧ w = w' := by
  go_enter Tryz.func75, Tryz.ntmps75
  go_wp2_with fail
  go_ret
  exact ⟨rfl, rfl⟩
set_option maxRecDepth 100000 in
set_option maxHeartbeats 1000000 in
theorem tell_we (g o a : Nat) (v lo hi : Int) (hb : -9223372036854775808 ≤ v ∧ v ≤ 9223372036854775807) (w : World) (hV : VarsOk w) (hc : w.cell? ⟨g, o + 6, none⟩ = some (.int .u32 v))
    (h0 : w.cell? ⟨a, 0, none⟩ = some (.func (.func 75) #[] #[])) (h1 : w.cell? ⟨a + 1, 0, none⟩ = some (.int .i64 lo)) (h2 : w.cell? ⟨a + 2, 0, none⟩ = some (.int .i64 hi)) :
    Calls Tryz.prog 120 #[.pointer (some ⟨g, o, none⟩), .pointer (some ⟨a, 0, none⟩), .pointer (some ⟨a + 1, 0, none⟩), .pointer (some ⟨a + 2, 0, none⟩)] w fun e w' => TellQ v lo hi w e w' := by
  have wr : IntKind.i64.wrap v = v := IntWalk.i64_in _ (by omega)
  have HV := Lib.hid hV
  obtain ⟨b0, b1⟩ := hb
  clear hV
  go_enter Tryz.func120, Tryz.ntmps120
  go_upto_region 2 with (go_at_call 75; refine (at_we _ _ _).mono ?_; rintro e w' ⟨rfl, rfl⟩)
  refine wp_region_plan [(0, false), (2, false), (3, false), (4, false), (1, true), (5, false), (6, false), (7, false), (8, false), (9, false), (10, false), (11, false)] (fun w' => w'.cell? ⟨a + 1, 0, none⟩ = some (.int .i64 lo) ∧ w'.cell? ⟨a + 2, 0, none⟩ = some (.int .i64 hi)) (by kernel_rfl) (by kernel_rfl) ⟨h1, h2⟩ ?_
  by_cases hlo : lo ≤ v
  · have i1 : decide (v ≥ lo) = true := by rw [decide_eq_true_eq]; exact hlo
    iterate 4 (refine' plan_val rfl rfl (fun w' hS => ?_) ?_; rotate_left; (focus (first | rfl | (obtain ⟨hS1, hS2⟩ := hS; go_simp; rfl))); simp only [Act.put, List.setIfInBounds_toArray, List.set_cons_zero, List.set_cons_succ])
    refine plan_do rfl (fun K hK => ?_)
    go_wp2_with (go_at_call 116; refine (fmtInt_any v b0 b1 _ (HV.out.on ((Below.refl w.heap.size w).drew) (Nat.le_refl _))).mono ?_; rintro e w1 ⟨rfl, hb⟩; have HB := Lib.hid hb; clear hb)
    refine hK _ _ ⟨(HB.out.cell (p := ⟨a + 1, 0, none⟩) (cell_lt' h1)).trans h1, (HB.out.cell (p := ⟨a + 2, 0, none⟩) (cell_lt' h2)).trans h2⟩ ?_
    clear hK K
    iterate 7 (refine' plan_val rfl rfl (fun w' hS => ?_) ?_; rotate_left; (focus (first | rfl | (obtain ⟨hS1, hS2⟩ := hS; go_simp; rfl))); simp only [Act.put, List.setIfInBounds_toArray, List.set_cons_zero, List.set_cons_succ])
    refine plan_nil ?_
    go_wp2_with fail
    go_ret2
    exact tellQ_yes hlo ((Below.refl _ _).drew.trans HB.out)
  · have i1 : decide (v ≥ lo) = false := by rw [decide_eq_false_iff_not]; exact hlo
    iterate 4 (refine' plan_val rfl rfl (fun w' hS => ?_) ?_; rotate_left; (focus (first | rfl | (obtain ⟨hS1, hS2⟩ := hS; go_simp; rfl))); simp only [Act.put, List.setIfInBounds_toArray, List.set_cons_zero, List.set_cons_succ])
    refine plan_do rfl (fun K hK => ?_)
    go_wp2_with (go_at_call 116; refine (fmtInt_any v b0 b1 _ (HV.out.on ((Below.refl w.heap.size w).drew) (Nat.le_refl _))).mono ?_; rintro e w1 ⟨rfl, hb⟩; have HB := Lib.hid hb; clear hb)
    refine hK _ _ ⟨(HB.out.cell (p := ⟨a + 1, 0, none⟩) (cell_lt' h1)).trans h1, (HB.out.cell (p := ⟨a + 2, 0, none⟩) (cell_lt' h2)).trans h2⟩ ?_
    clear hK K
    (refine' plan_val rfl rfl (fun w' hS => ?_) ?_; rotate_left; (focus (first | rfl | (obtain ⟨hS1, hS2⟩ := hS; go_simp; rfl))); simp only [Act.put, List.setIfInBounds_toArray, List.set_cons_zero, List.set_cons_succ])
    iterate 3 (refine plan_skip rfl rfl ?_; simp only [Act.put, List.setIfInBounds_toArray, List.set_cons_zero, List.set_cons_succ])
    iterate 3 (refine' plan_val rfl rfl (fun w' hS => ?_) ?_; rotate_left; (focus (first | rfl | (obtain ⟨hS1, hS2⟩ := hS; go_simp; rfl))); simp only [Act.put, List.setIfInBounds_toArray, List.set_cons_zero, List.set_cons_succ])
    refine plan_nil ?_
    go_wp2_with fail
    go_ret2
    exact tellQ_no (by omega) ((Below.refl _ _).drew.trans HB.out)
set_option maxRecDepth 100000 in
set_option maxHeartbeats 1000000 in
theorem read_we (g o a : Nat) (s : ByteArray) (hl : s.size ≤ 1048576) (lo hi u : Int) (hr : ∀ v, lo ≤ v → v ≤ hi → IntKind.u32.wrap v = v) (hlo : -9223372036854775808 ≤ lo) (hhi : hi ≤ 9223372036854775807) (w : World) (hV : VarsOk w)
    (hc : w.cell? ⟨g, o + 6, none⟩ = some (.int .u32 u)) (hf : w.frozen? ⟨g, o + 6, none⟩ = false)
    (h0 : w.cell? ⟨a, 0, none⟩ = some (.func (.func 75) #[] #[])) (h1 : w.cell? ⟨a + 1, 0, none⟩ = some (.int .i64 lo)) (h2 : w.cell? ⟨a + 2, 0, none⟩ = some (.int .i64 hi)) :
    Calls Tryz.prog 121 #[.pointer (some ⟨g, o, none⟩), .string s, .pointer (some ⟨a + 1, 0, none⟩), .pointer (some ⟨a + 2, 0, none⟩), .pointer (some ⟨a, 0, none⟩)] w fun e w' => ReadQ s.data.toList lo hi .u32 ⟨g, o + 6, none⟩ w e w' := by
  have HW := Lib.hid (whole_any s hl lo hi hlo hhi w hV)
  have HR := Lib.hid (show IntKind.u32.wrap ((wholeE s.data.toList lo hi).getD 0) = (wholeE s.data.toList lo hi).getD 0 by
    cases hx : wholeE s.data.toList lo hi with
    | none => decide
    | some v =>
      unfold wholeE at hx
      cases hi' : intW s.data.toList with
      | none => rw [hi'] at hx; cases hx
      | some u' =>
        rw [hi'] at hx
        simp only at hx
        split at hx
        · rename_i hbb
          cases hx
          exact hr _ hbb.1 hbb.2
        · cases hx)
  unfold ReadQ
  obtain ⟨R, hR⟩ : ∃ R, wholeE s.data.toList lo hi = R := ⟨_, rfl⟩
  unfold WholeQ at HW
  rw [hR] at HW HR ⊢
  obtain ⟨rv, hrv⟩ : ∃ rv, R.getD 0 = rv := ⟨_, rfl⟩
  obtain ⟨rb, hrb⟩ : ∃ rb, R.isSome = rb := ⟨_, rfl⟩
  rw [hrv] at HW HR ⊢
  rw [hrb] at HW ⊢
  have hwr := HR.out
  clear hR hrv hrb hr hV hlo hhi HR
  go_enter Tryz.func121, Tryz.ntmps121
  go_wp2_with (first | (go_at_call 53; refine HW.out.mono ?_; rintro e w1 ⟨rfl, hb⟩; have c0 := (hb.cell (p := ⟨a, 0, none⟩) (cell_lt' h0)).trans h0; have cc := (hb.cell (p := ⟨g, o + 6, none⟩) (cell_lt' hc)).trans hc; have ff := (hb.frozen (p := ⟨g, o + 6, none⟩) (cell_lt' hc)).trans hf; have HB := Lib.hid hb; clear hb) | (go_at_call 75; refine (at_we _ _ _).mono ?_; rintro e w' ⟨rfl, rfl⟩))
  go_ret
  exact ⟨_, HB.out, rfl, rfl⟩
theorem at_va (g o : Nat) (w : World) : Calls Tryz.prog 77 #[.pointer (some ⟨g, o, none⟩)] w fun e w' => e = .returned (.pointer (some ⟨g, o + 7, none⟩)) ∧ w = w' := by
  go_enter Tryz.func77, Tryz.ntmps77
  go_wp2_with fail
  go_ret
  exact ⟨rfl, rfl⟩
set_option maxRecDepth 100000 in
set_option maxHeartbeats 1000000 in
theorem tell_va (g o a : Nat) (v lo hi : Int) (hb : -9223372036854775808 ≤ v ∧ v ≤ 9223372036854775807) (w : World) (hV : VarsOk w) (hc : w.cell? ⟨g, o + 7, none⟩ = some (.int .i64 v))
    (h0 : w.cell? ⟨a, 0, none⟩ = some (.func (.func 77) #[] #[])) (h1 : w.cell? ⟨a + 1, 0, none⟩ = some (.int .i64 lo)) (h2 : w.cell? ⟨a + 2, 0, none⟩ = some (.int .i64 hi)) :
    Calls Tryz.prog 122 #[.pointer (some ⟨g, o, none⟩), .pointer (some ⟨a, 0, none⟩), .pointer (some ⟨a + 1, 0, none⟩), .pointer (some ⟨a + 2, 0, none⟩)] w fun e w' => TellQ v lo hi w e w' := by
  have wr : IntKind.i64.wrap v = v := IntWalk.i64_in _ (by omega)
  have HV := Lib.hid hV
  obtain ⟨b0, b1⟩ := hb
  clear hV
  go_enter Tryz.func122, Tryz.ntmps122
  go_upto_region 2 with (go_at_call 77; refine (at_va _ _ _).mono ?_; rintro e w' ⟨rfl, rfl⟩)
  refine wp_region_plan [(0, false), (2, false), (3, false), (4, false), (1, true), (5, false), (6, false), (7, false), (8, false), (9, false), (10, false), (11, false)] (fun w' => w'.cell? ⟨a + 1, 0, none⟩ = some (.int .i64 lo) ∧ w'.cell? ⟨a + 2, 0, none⟩ = some (.int .i64 hi)) (by kernel_rfl) (by kernel_rfl) ⟨h1, h2⟩ ?_
  by_cases hlo : lo ≤ v
  · have i1 : decide (v ≥ lo) = true := by rw [decide_eq_true_eq]; exact hlo
    iterate 4 (refine' plan_val rfl rfl (fun w' hS => ?_) ?_; rotate_left; (focus (first | rfl | (obtain ⟨hS1, hS2⟩ := hS; go_simp; rfl))); simp only [Act.put, List.setIfInBounds_toArray, List.set_cons_zero, List.set_cons_succ])
    refine plan_do rfl (fun K hK => ?_)
    go_wp2_with (go_at_call 116; refine (fmtInt_any v b0 b1 _ (HV.out.on ((Below.refl w.heap.size w).drew) (Nat.le_refl _))).mono ?_; rintro e w1 ⟨rfl, hb⟩; have HB := Lib.hid hb; clear hb)
    refine hK _ _ ⟨(HB.out.cell (p := ⟨a + 1, 0, none⟩) (cell_lt' h1)).trans h1, (HB.out.cell (p := ⟨a + 2, 0, none⟩) (cell_lt' h2)).trans h2⟩ ?_
    clear hK K
    iterate 7 (refine' plan_val rfl rfl (fun w' hS => ?_) ?_; rotate_left; (focus (first | rfl | (obtain ⟨hS1, hS2⟩ := hS; go_simp; rfl))); simp only [Act.put, List.setIfInBounds_toArray, List.set_cons_zero, List.set_cons_succ])
    refine plan_nil ?_
    go_wp2_with fail
    go_ret2
    exact tellQ_yes hlo ((Below.refl _ _).drew.trans HB.out)
  · have i1 : decide (v ≥ lo) = false := by rw [decide_eq_false_iff_not]; exact hlo
    iterate 4 (refine' plan_val rfl rfl (fun w' hS => ?_) ?_; rotate_left; (focus (first | rfl | (obtain ⟨hS1, hS2⟩ := hS; go_simp; rfl))); simp only [Act.put, List.setIfInBounds_toArray, List.set_cons_zero, List.set_cons_succ])
    refine plan_do rfl (fun K hK => ?_)
    go_wp2_with (go_at_call 116; refine (fmtInt_any v b0 b1 _ (HV.out.on ((Below.refl w.heap.size w).drew) (Nat.le_refl _))).mono ?_; rintro e w1 ⟨rfl, hb⟩; have HB := Lib.hid hb; clear hb)
    refine hK _ _ ⟨(HB.out.cell (p := ⟨a + 1, 0, none⟩) (cell_lt' h1)).trans h1, (HB.out.cell (p := ⟨a + 2, 0, none⟩) (cell_lt' h2)).trans h2⟩ ?_
    clear hK K
    (refine' plan_val rfl rfl (fun w' hS => ?_) ?_; rotate_left; (focus (first | rfl | (obtain ⟨hS1, hS2⟩ := hS; go_simp; rfl))); simp only [Act.put, List.setIfInBounds_toArray, List.set_cons_zero, List.set_cons_succ])
    iterate 3 (refine plan_skip rfl rfl ?_; simp only [Act.put, List.setIfInBounds_toArray, List.set_cons_zero, List.set_cons_succ])
    iterate 3 (refine' plan_val rfl rfl (fun w' hS => ?_) ?_; rotate_left; (focus (first | rfl | (obtain ⟨hS1, hS2⟩ := hS; go_simp; rfl))); simp only [Act.put, List.setIfInBounds_toArray, List.set_cons_zero, List.set_cons_succ])
    refine plan_nil ?_
    go_wp2_with fail
    go_ret2
    exact tellQ_no (by omega) ((Below.refl _ _).drew.trans HB.out)
set_option maxRecDepth 100000 in
set_option maxHeartbeats 1000000 in
theorem read_va (g o a : Nat) (s : ByteArray) (hl : s.size ≤ 1048576) (lo hi u : Int) (hr : ∀ v, lo ≤ v → v ≤ hi → IntKind.i64.wrap v = v) (hlo : -9223372036854775808 ≤ lo) (hhi : hi ≤ 9223372036854775807) (w : World) (hV : VarsOk w)
    (hc : w.cell? ⟨g, o + 7, none⟩ = some (.int .i64 u)) (hf : w.frozen? ⟨g, o + 7, none⟩ = false)
    (h0 : w.cell? ⟨a, 0, none⟩ = some (.func (.func 77) #[] #[])) (h1 : w.cell? ⟨a + 1, 0, none⟩ = some (.int .i64 lo)) (h2 : w.cell? ⟨a + 2, 0, none⟩ = some (.int .i64 hi)) :
    Calls Tryz.prog 123 #[.pointer (some ⟨g, o, none⟩), .string s, .pointer (some ⟨a + 1, 0, none⟩), .pointer (some ⟨a + 2, 0, none⟩), .pointer (some ⟨a, 0, none⟩)] w fun e w' => ReadQ s.data.toList lo hi .i64 ⟨g, o + 7, none⟩ w e w' := by
  have HW := Lib.hid (whole_any s hl lo hi hlo hhi w hV)
  have HR := Lib.hid (show IntKind.i64.wrap ((wholeE s.data.toList lo hi).getD 0) = (wholeE s.data.toList lo hi).getD 0 by
    cases hx : wholeE s.data.toList lo hi with
    | none => decide
    | some v =>
      unfold wholeE at hx
      cases hi' : intW s.data.toList with
      | none => rw [hi'] at hx; cases hx
      | some u' =>
        rw [hi'] at hx
        simp only at hx
        split at hx
        · rename_i hbb
          cases hx
          exact hr _ hbb.1 hbb.2
        · cases hx)
  unfold ReadQ
  obtain ⟨R, hR⟩ : ∃ R, wholeE s.data.toList lo hi = R := ⟨_, rfl⟩
  unfold WholeQ at HW
  rw [hR] at HW HR ⊢
  obtain ⟨rv, hrv⟩ : ∃ rv, R.getD 0 = rv := ⟨_, rfl⟩
  obtain ⟨rb, hrb⟩ : ∃ rb, R.isSome = rb := ⟨_, rfl⟩
  rw [hrv] at HW HR ⊢
  rw [hrb] at HW ⊢
  have hwr := HR.out
  clear hR hrv hrb hr hV hlo hhi HR
  go_enter Tryz.func123, Tryz.ntmps123
  go_wp2_with (first | (go_at_call 53; refine HW.out.mono ?_; rintro e w1 ⟨rfl, hb⟩; have c0 := (hb.cell (p := ⟨a, 0, none⟩) (cell_lt' h0)).trans h0; have cc := (hb.cell (p := ⟨g, o + 7, none⟩) (cell_lt' hc)).trans hc; have ff := (hb.frozen (p := ⟨g, o + 7, none⟩) (cell_lt' hc)).trans hf; have HB := Lib.hid hb; clear hb) | (go_at_call 77; refine (at_va _ _ _).mono ?_; rintro e w' ⟨rfl, rfl⟩))
  go_ret
  exact ⟨_, HB.out, rfl, rfl⟩
theorem at_st (g o : Nat) (w : World) : Calls Tryz.prog 79 #[.pointer (some ⟨g, o, none⟩)] w fun e w' => e = .returned (.pointer (some ⟨g, o + 8, none⟩)) ∧ w = w' := by
  go_enter Tryz.func79, Tryz.ntmps79
  go_wp2_with fail
  go_ret
  exact ⟨rfl, rfl⟩
set_option maxRecDepth 100000 in
set_option maxHeartbeats 1000000 in
theorem tell_st (g o a : Nat) (v lo hi : Int) (hb : -9223372036854775808 ≤ v ∧ v ≤ 9223372036854775807) (w : World) (hV : VarsOk w) (hc : w.cell? ⟨g, o + 8, none⟩ = some (.int .u8 v))
    (h0 : w.cell? ⟨a, 0, none⟩ = some (.func (.func 79) #[] #[])) (h1 : w.cell? ⟨a + 1, 0, none⟩ = some (.int .i64 lo)) (h2 : w.cell? ⟨a + 2, 0, none⟩ = some (.int .i64 hi)) :
    Calls Tryz.prog 124 #[.pointer (some ⟨g, o, none⟩), .pointer (some ⟨a, 0, none⟩), .pointer (some ⟨a + 1, 0, none⟩), .pointer (some ⟨a + 2, 0, none⟩)] w fun e w' => TellQ v lo hi w e w' := by
  have wr : IntKind.i64.wrap v = v := IntWalk.i64_in _ (by omega)
  have HV := Lib.hid hV
  obtain ⟨b0, b1⟩ := hb
  clear hV
  go_enter Tryz.func124, Tryz.ntmps124
  go_upto_region 2 with (go_at_call 79; refine (at_st _ _ _).mono ?_; rintro e w' ⟨rfl, rfl⟩)
  refine wp_region_plan [(0, false), (2, false), (3, false), (4, false), (1, true), (5, false), (6, false), (7, false), (8, false), (9, false), (10, false), (11, false)] (fun w' => w'.cell? ⟨a + 1, 0, none⟩ = some (.int .i64 lo) ∧ w'.cell? ⟨a + 2, 0, none⟩ = some (.int .i64 hi)) (by kernel_rfl) (by kernel_rfl) ⟨h1, h2⟩ ?_
  by_cases hlo : lo ≤ v
  · have i1 : decide (v ≥ lo) = true := by rw [decide_eq_true_eq]; exact hlo
    iterate 4 (refine' plan_val rfl rfl (fun w' hS => ?_) ?_; rotate_left; (focus (first | rfl | (obtain ⟨hS1, hS2⟩ := hS; go_simp; rfl))); simp only [Act.put, List.setIfInBounds_toArray, List.set_cons_zero, List.set_cons_succ])
    refine plan_do rfl (fun K hK => ?_)
    go_wp2_with (go_at_call 116; refine (fmtInt_any v b0 b1 _ (HV.out.on ((Below.refl w.heap.size w).drew) (Nat.le_refl _))).mono ?_; rintro e w1 ⟨rfl, hb⟩; have HB := Lib.hid hb; clear hb)
    refine hK _ _ ⟨(HB.out.cell (p := ⟨a + 1, 0, none⟩) (cell_lt' h1)).trans h1, (HB.out.cell (p := ⟨a + 2, 0, none⟩) (cell_lt' h2)).trans h2⟩ ?_
    clear hK K
    iterate 7 (refine' plan_val rfl rfl (fun w' hS => ?_) ?_; rotate_left; (focus (first | rfl | (obtain ⟨hS1, hS2⟩ := hS; go_simp; rfl))); simp only [Act.put, List.setIfInBounds_toArray, List.set_cons_zero, List.set_cons_succ])
    refine plan_nil ?_
    go_wp2_with fail
    go_ret2
    exact tellQ_yes hlo ((Below.refl _ _).drew.trans HB.out)
  · have i1 : decide (v ≥ lo) = false := by rw [decide_eq_false_iff_not]; exact hlo
    iterate 4 (refine' plan_val rfl rfl (fun w' hS => ?_) ?_; rotate_left; (focus (first | rfl | (obtain ⟨hS1, hS2⟩ := hS; go_simp; rfl))); simp only [Act.put, List.setIfInBounds_toArray, List.set_cons_zero, List.set_cons_succ])
    refine plan_do rfl (fun K hK => ?_)
    go_wp2_with (go_at_call 116; refine (fmtInt_any v b0 b1 _ (HV.out.on ((Below.refl w.heap.size w).drew) (Nat.le_refl _))).mono ?_; rintro e w1 ⟨rfl, hb⟩; have HB := Lib.hid hb; clear hb)
    refine hK _ _ ⟨(HB.out.cell (p := ⟨a + 1, 0, none⟩) (cell_lt' h1)).trans h1, (HB.out.cell (p := ⟨a + 2, 0, none⟩) (cell_lt' h2)).trans h2⟩ ?_
    clear hK K
    (refine' plan_val rfl rfl (fun w' hS => ?_) ?_; rotate_left; (focus (first | rfl | (obtain ⟨hS1, hS2⟩ := hS; go_simp; rfl))); simp only [Act.put, List.setIfInBounds_toArray, List.set_cons_zero, List.set_cons_succ])
    iterate 3 (refine plan_skip rfl rfl ?_; simp only [Act.put, List.setIfInBounds_toArray, List.set_cons_zero, List.set_cons_succ])
    iterate 3 (refine' plan_val rfl rfl (fun w' hS => ?_) ?_; rotate_left; (focus (first | rfl | (obtain ⟨hS1, hS2⟩ := hS; go_simp; rfl))); simp only [Act.put, List.setIfInBounds_toArray, List.set_cons_zero, List.set_cons_succ])
    refine plan_nil ?_
    go_wp2_with fail
    go_ret2
    exact tellQ_no (by omega) ((Below.refl _ _).drew.trans HB.out)
set_option maxRecDepth 100000 in
set_option maxHeartbeats 1000000 in
theorem read_st (g o a : Nat) (s : ByteArray) (hl : s.size ≤ 1048576) (lo hi u : Int) (hr : ∀ v, lo ≤ v → v ≤ hi → IntKind.u8.wrap v = v) (hlo : -9223372036854775808 ≤ lo) (hhi : hi ≤ 9223372036854775807) (w : World) (hV : VarsOk w)
    (hc : w.cell? ⟨g, o + 8, none⟩ = some (.int .u8 u)) (hf : w.frozen? ⟨g, o + 8, none⟩ = false)
    (h0 : w.cell? ⟨a, 0, none⟩ = some (.func (.func 79) #[] #[])) (h1 : w.cell? ⟨a + 1, 0, none⟩ = some (.int .i64 lo)) (h2 : w.cell? ⟨a + 2, 0, none⟩ = some (.int .i64 hi)) :
    Calls Tryz.prog 125 #[.pointer (some ⟨g, o, none⟩), .string s, .pointer (some ⟨a + 1, 0, none⟩), .pointer (some ⟨a + 2, 0, none⟩), .pointer (some ⟨a, 0, none⟩)] w fun e w' => ReadQ s.data.toList lo hi .u8 ⟨g, o + 8, none⟩ w e w' := by
  have HW := Lib.hid (whole_any s hl lo hi hlo hhi w hV)
  have HR := Lib.hid (show IntKind.u8.wrap ((wholeE s.data.toList lo hi).getD 0) = (wholeE s.data.toList lo hi).getD 0 by
    cases hx : wholeE s.data.toList lo hi with
    | none => decide
    | some v =>
      unfold wholeE at hx
      cases hi' : intW s.data.toList with
      | none => rw [hi'] at hx; cases hx
      | some u' =>
        rw [hi'] at hx
        simp only at hx
        split at hx
        · rename_i hbb
          cases hx
          exact hr _ hbb.1 hbb.2
        · cases hx)
  unfold ReadQ
  obtain ⟨R, hR⟩ : ∃ R, wholeE s.data.toList lo hi = R := ⟨_, rfl⟩
  unfold WholeQ at HW
  rw [hR] at HW HR ⊢
  obtain ⟨rv, hrv⟩ : ∃ rv, R.getD 0 = rv := ⟨_, rfl⟩
  obtain ⟨rb, hrb⟩ : ∃ rb, R.isSome = rb := ⟨_, rfl⟩
  rw [hrv] at HW HR ⊢
  rw [hrb] at HW ⊢
  have hwr := HR.out
  clear hR hrv hrb hr hV hlo hhi HR
  go_enter Tryz.func125, Tryz.ntmps125
  go_wp2_with (first | (go_at_call 53; refine HW.out.mono ?_; rintro e w1 ⟨rfl, hb⟩; have c0 := (hb.cell (p := ⟨a, 0, none⟩) (cell_lt' h0)).trans h0; have cc := (hb.cell (p := ⟨g, o + 8, none⟩) (cell_lt' hc)).trans hc; have ff := (hb.frozen (p := ⟨g, o + 8, none⟩) (cell_lt' hc)).trans hf; have HB := Lib.hid hb; clear hb) | (go_at_call 79; refine (at_st _ _ _).mono ?_; rintro e w' ⟨rfl, rfl⟩))
  go_ret
  exact ⟨_, HB.out, rfl, rfl⟩
theorem at_no (g o : Nat) (w : World) : Calls Tryz.prog 80 #[.pointer (some ⟨g, o, none⟩)] w fun e w' => e = .returned (.pointer (some ⟨g, o + 9, none⟩)) ∧ w = w' := by
  go_enter Tryz.func80, Tryz.ntmps80
  go_wp2_with fail
  go_ret
  exact ⟨rfl, rfl⟩
set_option maxRecDepth 100000 in
set_option maxHeartbeats 1000000 in
theorem tell_no (g o a : Nat) (v lo hi : Int) (hb : -9223372036854775808 ≤ v ∧ v ≤ 9223372036854775807) (w : World) (hV : VarsOk w) (hc : w.cell? ⟨g, o + 9, none⟩ = some (.int .u32 v))
    (h0 : w.cell? ⟨a, 0, none⟩ = some (.func (.func 80) #[] #[])) (h1 : w.cell? ⟨a + 1, 0, none⟩ = some (.int .i64 lo)) (h2 : w.cell? ⟨a + 2, 0, none⟩ = some (.int .i64 hi)) :
    Calls Tryz.prog 120 #[.pointer (some ⟨g, o, none⟩), .pointer (some ⟨a, 0, none⟩), .pointer (some ⟨a + 1, 0, none⟩), .pointer (some ⟨a + 2, 0, none⟩)] w fun e w' => TellQ v lo hi w e w' := by
  have wr : IntKind.i64.wrap v = v := IntWalk.i64_in _ (by omega)
  have HV := Lib.hid hV
  obtain ⟨b0, b1⟩ := hb
  clear hV
  go_enter Tryz.func120, Tryz.ntmps120
  go_upto_region 2 with (go_at_call 80; refine (at_no _ _ _).mono ?_; rintro e w' ⟨rfl, rfl⟩)
  refine wp_region_plan [(0, false), (2, false), (3, false), (4, false), (1, true), (5, false), (6, false), (7, false), (8, false), (9, false), (10, false), (11, false)] (fun w' => w'.cell? ⟨a + 1, 0, none⟩ = some (.int .i64 lo) ∧ w'.cell? ⟨a + 2, 0, none⟩ = some (.int .i64 hi)) (by kernel_rfl) (by kernel_rfl) ⟨h1, h2⟩ ?_
  by_cases hlo : lo ≤ v
  · have i1 : decide (v ≥ lo) = true := by rw [decide_eq_true_eq]; exact hlo
    iterate 4 (refine' plan_val rfl rfl (fun w' hS => ?_) ?_; rotate_left; (focus (first | rfl | (obtain ⟨hS1, hS2⟩ := hS; go_simp; rfl))); simp only [Act.put, List.setIfInBounds_toArray, List.set_cons_zero, List.set_cons_succ])
    refine plan_do rfl (fun K hK => ?_)
    go_wp2_with (go_at_call 116; refine (fmtInt_any v b0 b1 _ (HV.out.on ((Below.refl w.heap.size w).drew) (Nat.le_refl _))).mono ?_; rintro e w1 ⟨rfl, hb⟩; have HB := Lib.hid hb; clear hb)
    refine hK _ _ ⟨(HB.out.cell (p := ⟨a + 1, 0, none⟩) (cell_lt' h1)).trans h1, (HB.out.cell (p := ⟨a + 2, 0, none⟩) (cell_lt' h2)).trans h2⟩ ?_
    clear hK K
    iterate 7 (refine' plan_val rfl rfl (fun w' hS => ?_) ?_; rotate_left; (focus (first | rfl | (obtain ⟨hS1, hS2⟩ := hS; go_simp; rfl))); simp only [Act.put, List.setIfInBounds_toArray, List.set_cons_zero, List.set_cons_succ])
    refine plan_nil ?_
    go_wp2_with fail
    go_ret2
    exact tellQ_yes hlo ((Below.refl _ _).drew.trans HB.out)
  · have i1 : decide (v ≥ lo) = false := by rw [decide_eq_false_iff_not]; exact hlo
    iterate 4 (refine' plan_val rfl rfl (fun w' hS => ?_) ?_; rotate_left; (focus (first | rfl | (obtain ⟨hS1, hS2⟩ := hS; go_simp; rfl))); simp only [Act.put, List.setIfInBounds_toArray, List.set_cons_zero, List.set_cons_succ])
    refine plan_do rfl (fun K hK => ?_)
    go_wp2_with (go_at_call 116; refine (fmtInt_any v b0 b1 _ (HV.out.on ((Below.refl w.heap.size w).drew) (Nat.le_refl _))).mono ?_; rintro e w1 ⟨rfl, hb⟩; have HB := Lib.hid hb; clear hb)
    refine hK _ _ ⟨(HB.out.cell (p := ⟨a + 1, 0, none⟩) (cell_lt' h1)).trans h1, (HB.out.cell (p := ⟨a + 2, 0, none⟩) (cell_lt' h2)).trans h2⟩ ?_
    clear hK K
    (refine' plan_val rfl rfl (fun w' hS => ?_) ?_; rotate_left; (focus (first | rfl | (obtain ⟨hS1, hS2⟩ := hS; go_simp; rfl))); simp only [Act.put, List.setIfInBounds_toArray, List.set_cons_zero, List.set_cons_succ])
    iterate 3 (refine plan_skip rfl rfl ?_; simp only [Act.put, List.setIfInBounds_toArray, List.set_cons_zero, List.set_cons_succ])
    iterate 3 (refine' plan_val rfl rfl (fun w' hS => ?_) ?_; rotate_left; (focus (first | rfl | (obtain ⟨hS1, hS2⟩ := hS; go_simp; rfl))); simp only [Act.put, List.setIfInBounds_toArray, List.set_cons_zero, List.set_cons_succ])
    refine plan_nil ?_
    go_wp2_with fail
    go_ret2
    exact tellQ_no (by omega) ((Below.refl _ _).drew.trans HB.out)
set_option maxRecDepth 100000 in
set_option maxHeartbeats 1000000 in
theorem read_no (g o a : Nat) (s : ByteArray) (hl : s.size ≤ 1048576) (lo hi u : Int) (hr : ∀ v, lo ≤ v → v ≤ hi → IntKind.u32.wrap v = v) (hlo : -9223372036854775808 ≤ lo) (hhi : hi ≤ 9223372036854775807) (w : World) (hV : VarsOk w)
    (hc : w.cell? ⟨g, o + 9, none⟩ = some (.int .u32 u)) (hf : w.frozen? ⟨g, o + 9, none⟩ = false)
    (h0 : w.cell? ⟨a, 0, none⟩ = some (.func (.func 80) #[] #[])) (h1 : w.cell? ⟨a + 1, 0, none⟩ = some (.int .i64 lo)) (h2 : w.cell? ⟨a + 2, 0, none⟩ = some (.int .i64 hi)) :
    Calls Tryz.prog 121 #[.pointer (some ⟨g, o, none⟩), .string s, .pointer (some ⟨a + 1, 0, none⟩), .pointer (some ⟨a + 2, 0, none⟩), .pointer (some ⟨a, 0, none⟩)] w fun e w' => ReadQ s.data.toList lo hi .u32 ⟨g, o + 9, none⟩ w e w' := by
  have HW := Lib.hid (whole_any s hl lo hi hlo hhi w hV)
  have HR := Lib.hid (show IntKind.u32.wrap ((wholeE s.data.toList lo hi).getD 0) = (wholeE s.data.toList lo hi).getD 0 by
    cases hx : wholeE s.data.toList lo hi with
    | none => decide
    | some v =>
      unfold wholeE at hx
      cases hi' : intW s.data.toList with
      | none => rw [hi'] at hx; cases hx
      | some u' =>
        rw [hi'] at hx
        simp only at hx
        split at hx
        · rename_i hbb
          cases hx
          exact hr _ hbb.1 hbb.2
        · cases hx)
  unfold ReadQ
  obtain ⟨R, hR⟩ : ∃ R, wholeE s.data.toList lo hi = R := ⟨_, rfl⟩
  unfold WholeQ at HW
  rw [hR] at HW HR ⊢
  obtain ⟨rv, hrv⟩ : ∃ rv, R.getD 0 = rv := ⟨_, rfl⟩
  obtain ⟨rb, hrb⟩ : ∃ rb, R.isSome = rb := ⟨_, rfl⟩
  rw [hrv] at HW HR ⊢
  rw [hrb] at HW ⊢
  have hwr := HR.out
  clear hR hrv hrb hr hV hlo hhi HR
  go_enter Tryz.func121, Tryz.ntmps121
  go_wp2_with (first | (go_at_call 53; refine HW.out.mono ?_; rintro e w1 ⟨rfl, hb⟩; have c0 := (hb.cell (p := ⟨a, 0, none⟩) (cell_lt' h0)).trans h0; have cc := (hb.cell (p := ⟨g, o + 9, none⟩) (cell_lt' hc)).trans hc; have ff := (hb.frozen (p := ⟨g, o + 9, none⟩) (cell_lt' hc)).trans hf; have HB := Lib.hid hb; clear hb) | (go_at_call 80; refine (at_no _ _ _).mono ?_; rintro e w' ⟨rfl, rfl⟩))
  go_ret
  exact ⟨_, HB.out, rfl, rfl⟩
theorem at_am (g o : Nat) (w : World) : Calls Tryz.prog 81 #[.pointer (some ⟨g, o, none⟩)] w fun e w' => e = .returned (.pointer (some ⟨g, o + 10, none⟩)) ∧ w = w' := by
  go_enter Tryz.func81, Tryz.ntmps81
  go_wp2_with fail
  go_ret
  exact ⟨rfl, rfl⟩
set_option maxRecDepth 100000 in
set_option maxHeartbeats 1000000 in
theorem tell_am (g o a : Nat) (v lo hi : Int) (hb : -9223372036854775808 ≤ v ∧ v ≤ 9223372036854775807) (w : World) (hV : VarsOk w) (hc : w.cell? ⟨g, o + 10, none⟩ = some (.int .i64 v))
    (h0 : w.cell? ⟨a, 0, none⟩ = some (.func (.func 81) #[] #[])) (h1 : w.cell? ⟨a + 1, 0, none⟩ = some (.int .i64 lo)) (h2 : w.cell? ⟨a + 2, 0, none⟩ = some (.int .i64 hi)) :
    Calls Tryz.prog 122 #[.pointer (some ⟨g, o, none⟩), .pointer (some ⟨a, 0, none⟩), .pointer (some ⟨a + 1, 0, none⟩), .pointer (some ⟨a + 2, 0, none⟩)] w fun e w' => TellQ v lo hi w e w' := by
  have wr : IntKind.i64.wrap v = v := IntWalk.i64_in _ (by omega)
  have HV := Lib.hid hV
  obtain ⟨b0, b1⟩ := hb
  clear hV
  go_enter Tryz.func122, Tryz.ntmps122
  go_upto_region 2 with (go_at_call 81; refine (at_am _ _ _).mono ?_; rintro e w' ⟨rfl, rfl⟩)
  refine wp_region_plan [(0, false), (2, false), (3, false), (4, false), (1, true), (5, false), (6, false), (7, false), (8, false), (9, false), (10, false), (11, false)] (fun w' => w'.cell? ⟨a + 1, 0, none⟩ = some (.int .i64 lo) ∧ w'.cell? ⟨a + 2, 0, none⟩ = some (.int .i64 hi)) (by kernel_rfl) (by kernel_rfl) ⟨h1, h2⟩ ?_
  by_cases hlo : lo ≤ v
  · have i1 : decide (v ≥ lo) = true := by rw [decide_eq_true_eq]; exact hlo
    iterate 4 (refine' plan_val rfl rfl (fun w' hS => ?_) ?_; rotate_left; (focus (first | rfl | (obtain ⟨hS1, hS2⟩ := hS; go_simp; rfl))); simp only [Act.put, List.setIfInBounds_toArray, List.set_cons_zero, List.set_cons_succ])
    refine plan_do rfl (fun K hK => ?_)
    go_wp2_with (go_at_call 116; refine (fmtInt_any v b0 b1 _ (HV.out.on ((Below.refl w.heap.size w).drew) (Nat.le_refl _))).mono ?_; rintro e w1 ⟨rfl, hb⟩; have HB := Lib.hid hb; clear hb)
    refine hK _ _ ⟨(HB.out.cell (p := ⟨a + 1, 0, none⟩) (cell_lt' h1)).trans h1, (HB.out.cell (p := ⟨a + 2, 0, none⟩) (cell_lt' h2)).trans h2⟩ ?_
    clear hK K
    iterate 7 (refine' plan_val rfl rfl (fun w' hS => ?_) ?_; rotate_left; (focus (first | rfl | (obtain ⟨hS1, hS2⟩ := hS; go_simp; rfl))); simp only [Act.put, List.setIfInBounds_toArray, List.set_cons_zero, List.set_cons_succ])
    refine plan_nil ?_
    go_wp2_with fail
    go_ret2
    exact tellQ_yes hlo ((Below.refl _ _).drew.trans HB.out)
  · have i1 : decide (v ≥ lo) = false := by rw [decide_eq_false_iff_not]; exact hlo
    iterate 4 (refine' plan_val rfl rfl (fun w' hS => ?_) ?_; rotate_left; (focus (first | rfl | (obtain ⟨hS1, hS2⟩ := hS; go_simp; rfl))); simp only [Act.put, List.setIfInBounds_toArray, List.set_cons_zero, List.set_cons_succ])
    refine plan_do rfl (fun K hK => ?_)
    go_wp2_with (go_at_call 116; refine (fmtInt_any v b0 b1 _ (HV.out.on ((Below.refl w.heap.size w).drew) (Nat.le_refl _))).mono ?_; rintro e w1 ⟨rfl, hb⟩; have HB := Lib.hid hb; clear hb)
    refine hK _ _ ⟨(HB.out.cell (p := ⟨a + 1, 0, none⟩) (cell_lt' h1)).trans h1, (HB.out.cell (p := ⟨a + 2, 0, none⟩) (cell_lt' h2)).trans h2⟩ ?_
    clear hK K
    (refine' plan_val rfl rfl (fun w' hS => ?_) ?_; rotate_left; (focus (first | rfl | (obtain ⟨hS1, hS2⟩ := hS; go_simp; rfl))); simp only [Act.put, List.setIfInBounds_toArray, List.set_cons_zero, List.set_cons_succ])
    iterate 3 (refine plan_skip rfl rfl ?_; simp only [Act.put, List.setIfInBounds_toArray, List.set_cons_zero, List.set_cons_succ])
    iterate 3 (refine' plan_val rfl rfl (fun w' hS => ?_) ?_; rotate_left; (focus (first | rfl | (obtain ⟨hS1, hS2⟩ := hS; go_simp; rfl))); simp only [Act.put, List.setIfInBounds_toArray, List.set_cons_zero, List.set_cons_succ])
    refine plan_nil ?_
    go_wp2_with fail
    go_ret2
    exact tellQ_no (by omega) ((Below.refl _ _).drew.trans HB.out)
set_option maxRecDepth 100000 in
set_option maxHeartbeats 1000000 in
theorem read_am (g o a : Nat) (s : ByteArray) (hl : s.size ≤ 1048576) (lo hi u : Int) (hr : ∀ v, lo ≤ v → v ≤ hi → IntKind.i64.wrap v = v) (hlo : -9223372036854775808 ≤ lo) (hhi : hi ≤ 9223372036854775807) (w : World) (hV : VarsOk w)
    (hc : w.cell? ⟨g, o + 10, none⟩ = some (.int .i64 u)) (hf : w.frozen? ⟨g, o + 10, none⟩ = false)
    (h0 : w.cell? ⟨a, 0, none⟩ = some (.func (.func 81) #[] #[])) (h1 : w.cell? ⟨a + 1, 0, none⟩ = some (.int .i64 lo)) (h2 : w.cell? ⟨a + 2, 0, none⟩ = some (.int .i64 hi)) :
    Calls Tryz.prog 123 #[.pointer (some ⟨g, o, none⟩), .string s, .pointer (some ⟨a + 1, 0, none⟩), .pointer (some ⟨a + 2, 0, none⟩), .pointer (some ⟨a, 0, none⟩)] w fun e w' => ReadQ s.data.toList lo hi .i64 ⟨g, o + 10, none⟩ w e w' := by
  have HW := Lib.hid (whole_any s hl lo hi hlo hhi w hV)
  have HR := Lib.hid (show IntKind.i64.wrap ((wholeE s.data.toList lo hi).getD 0) = (wholeE s.data.toList lo hi).getD 0 by
    cases hx : wholeE s.data.toList lo hi with
    | none => decide
    | some v =>
      unfold wholeE at hx
      cases hi' : intW s.data.toList with
      | none => rw [hi'] at hx; cases hx
      | some u' =>
        rw [hi'] at hx
        simp only at hx
        split at hx
        · rename_i hbb
          cases hx
          exact hr _ hbb.1 hbb.2
        · cases hx)
  unfold ReadQ
  obtain ⟨R, hR⟩ : ∃ R, wholeE s.data.toList lo hi = R := ⟨_, rfl⟩
  unfold WholeQ at HW
  rw [hR] at HW HR ⊢
  obtain ⟨rv, hrv⟩ : ∃ rv, R.getD 0 = rv := ⟨_, rfl⟩
  obtain ⟨rb, hrb⟩ : ∃ rb, R.isSome = rb := ⟨_, rfl⟩
  rw [hrv] at HW HR ⊢
  rw [hrb] at HW ⊢
  have hwr := HR.out
  clear hR hrv hrb hr hV hlo hhi HR
  go_enter Tryz.func123, Tryz.ntmps123
  go_wp2_with (first | (go_at_call 53; refine HW.out.mono ?_; rintro e w1 ⟨rfl, hb⟩; have c0 := (hb.cell (p := ⟨a, 0, none⟩) (cell_lt' h0)).trans h0; have cc := (hb.cell (p := ⟨g, o + 10, none⟩) (cell_lt' hc)).trans hc; have ff := (hb.frozen (p := ⟨g, o + 10, none⟩) (cell_lt' hc)).trans hf; have HB := Lib.hid hb; clear hb) | (go_at_call 81; refine (at_am _ _ _).mono ?_; rintro e w' ⟨rfl, rfl⟩))
  go_ret
  exact ⟨_, HB.out, rfl, rfl⟩
theorem at_co (g o : Nat) (w : World) : Calls Tryz.prog 83 #[.pointer (some ⟨g, o, none⟩)] w fun e w' => e = .returned (.pointer (some ⟨g, o + 11, none⟩)) ∧ w = w' := by
  go_enter Tryz.func83, Tryz.ntmps83
  go_wp2_with fail
  go_ret
  exact ⟨rfl, rfl⟩
set_option maxRecDepth 100000 in
set_option maxHeartbeats 1000000 in
theorem tell_co (g o a : Nat) (v lo hi : Int) (hb : -9223372036854775808 ≤ v ∧ v ≤ 9223372036854775807) (w : World) (hV : VarsOk w) (hc : w.cell? ⟨g, o + 11, none⟩ = some (.int .i64 v))
    (h0 : w.cell? ⟨a, 0, none⟩ = some (.func (.func 83) #[] #[])) (h1 : w.cell? ⟨a + 1, 0, none⟩ = some (.int .i64 lo)) (h2 : w.cell? ⟨a + 2, 0, none⟩ = some (.int .i64 hi)) :
    Calls Tryz.prog 126 #[.pointer (some ⟨g, o, none⟩), .pointer (some ⟨a, 0, none⟩), .pointer (some ⟨a + 1, 0, none⟩), .pointer (some ⟨a + 2, 0, none⟩)] w fun e w' => TellQ v lo hi w e w' := by
  have wr : IntKind.i64.wrap v = v := IntWalk.i64_in _ (by omega)
  have HV := Lib.hid hV
  obtain ⟨b0, b1⟩ := hb
  clear hV
  go_enter Tryz.func126, Tryz.ntmps126
  go_upto_region 2 with (go_at_call 83; refine (at_co _ _ _).mono ?_; rintro e w' ⟨rfl, rfl⟩)
  refine wp_region_plan [(0, false), (2, false), (3, false), (4, false), (1, true), (5, false), (6, false), (7, false), (8, false), (9, false), (10, false), (11, false)] (fun w' => w'.cell? ⟨a + 1, 0, none⟩ = some (.int .i64 lo) ∧ w'.cell? ⟨a + 2, 0, none⟩ = some (.int .i64 hi)) (by kernel_rfl) (by kernel_rfl) ⟨h1, h2⟩ ?_
  by_cases hlo : lo ≤ v
  · have i1 : decide (v ≥ lo) = true := by rw [decide_eq_true_eq]; exact hlo
    iterate 4 (refine' plan_val rfl rfl (fun w' hS => ?_) ?_; rotate_left; (focus (first | rfl | (obtain ⟨hS1, hS2⟩ := hS; go_simp; rfl))); simp only [Act.put, List.setIfInBounds_toArray, List.set_cons_zero, List.set_cons_succ])
    refine plan_do rfl (fun K hK => ?_)
    go_wp2_with (go_at_call 116; refine (fmtInt_any v b0 b1 _ (HV.out.on ((Below.refl w.heap.size w).drew) (Nat.le_refl _))).mono ?_; rintro e w1 ⟨rfl, hb⟩; have HB := Lib.hid hb; clear hb)
    refine hK _ _ ⟨(HB.out.cell (p := ⟨a + 1, 0, none⟩) (cell_lt' h1)).trans h1, (HB.out.cell (p := ⟨a + 2, 0, none⟩) (cell_lt' h2)).trans h2⟩ ?_
    clear hK K
    iterate 7 (refine' plan_val rfl rfl (fun w' hS => ?_) ?_; rotate_left; (focus (first | rfl | (obtain ⟨hS1, hS2⟩ := hS; go_simp; rfl))); simp only [Act.put, List.setIfInBounds_toArray, List.set_cons_zero, List.set_cons_succ])
    refine plan_nil ?_
    go_wp2_with fail
    go_ret2
    exact tellQ_yes hlo ((Below.refl _ _).drew.trans HB.out)
  · have i1 : decide (v ≥ lo) = false := by rw [decide_eq_false_iff_not]; exact hlo
    iterate 4 (refine' plan_val rfl rfl (fun w' hS => ?_) ?_; rotate_left; (focus (first | rfl | (obtain ⟨hS1, hS2⟩ := hS; go_simp; rfl))); simp only [Act.put, List.setIfInBounds_toArray, List.set_cons_zero, List.set_cons_succ])
    refine plan_do rfl (fun K hK => ?_)
    go_wp2_with (go_at_call 116; refine (fmtInt_any v b0 b1 _ (HV.out.on ((Below.refl w.heap.size w).drew) (Nat.le_refl _))).mono ?_; rintro e w1 ⟨rfl, hb⟩; have HB := Lib.hid hb; clear hb)
    refine hK _ _ ⟨(HB.out.cell (p := ⟨a + 1, 0, none⟩) (cell_lt' h1)).trans h1, (HB.out.cell (p := ⟨a + 2, 0, none⟩) (cell_lt' h2)).trans h2⟩ ?_
    clear hK K
    (refine' plan_val rfl rfl (fun w' hS => ?_) ?_; rotate_left; (focus (first | rfl | (obtain ⟨hS1, hS2⟩ := hS; go_simp; rfl))); simp only [Act.put, List.setIfInBounds_toArray, List.set_cons_zero, List.set_cons_succ])
    iterate 3 (refine plan_skip rfl rfl ?_; simp only [Act.put, List.setIfInBounds_toArray, List.set_cons_zero, List.set_cons_succ])
    iterate 3 (refine' plan_val rfl rfl (fun w' hS => ?_) ?_; rotate_left; (focus (first | rfl | (obtain ⟨hS1, hS2⟩ := hS; go_simp; rfl))); simp only [Act.put, List.setIfInBounds_toArray, List.set_cons_zero, List.set_cons_succ])
    refine plan_nil ?_
    go_wp2_with fail
    go_ret2
    exact tellQ_no (by omega) ((Below.refl _ _).drew.trans HB.out)
set_option maxRecDepth 100000 in
set_option maxHeartbeats 1000000 in
theorem read_co (g o a : Nat) (s : ByteArray) (hl : s.size ≤ 1048576) (lo hi u : Int) (hr : ∀ v, lo ≤ v → v ≤ hi → IntKind.i64.wrap v = v) (hlo : -9223372036854775808 ≤ lo) (hhi : hi ≤ 9223372036854775807) (w : World) (hV : VarsOk w)
    (hc : w.cell? ⟨g, o + 11, none⟩ = some (.int .i64 u)) (hf : w.frozen? ⟨g, o + 11, none⟩ = false)
    (h0 : w.cell? ⟨a, 0, none⟩ = some (.func (.func 83) #[] #[])) (h1 : w.cell? ⟨a + 1, 0, none⟩ = some (.int .i64 lo)) (h2 : w.cell? ⟨a + 2, 0, none⟩ = some (.int .i64 hi)) :
    Calls Tryz.prog 127 #[.pointer (some ⟨g, o, none⟩), .string s, .pointer (some ⟨a + 1, 0, none⟩), .pointer (some ⟨a + 2, 0, none⟩), .pointer (some ⟨a, 0, none⟩)] w fun e w' => ReadQ s.data.toList lo hi .i64 ⟨g, o + 11, none⟩ w e w' := by
  have HW := Lib.hid (whole_any s hl lo hi hlo hhi w hV)
  have HR := Lib.hid (show IntKind.i64.wrap ((wholeE s.data.toList lo hi).getD 0) = (wholeE s.data.toList lo hi).getD 0 by
    cases hx : wholeE s.data.toList lo hi with
    | none => decide
    | some v =>
      unfold wholeE at hx
      cases hi' : intW s.data.toList with
      | none => rw [hi'] at hx; cases hx
      | some u' =>
        rw [hi'] at hx
        simp only at hx
        split at hx
        · rename_i hbb
          cases hx
          exact hr _ hbb.1 hbb.2
        · cases hx)
  unfold ReadQ
  obtain ⟨R, hR⟩ : ∃ R, wholeE s.data.toList lo hi = R := ⟨_, rfl⟩
  unfold WholeQ at HW
  rw [hR] at HW HR ⊢
  obtain ⟨rv, hrv⟩ : ∃ rv, R.getD 0 = rv := ⟨_, rfl⟩
  obtain ⟨rb, hrb⟩ : ∃ rb, R.isSome = rb := ⟨_, rfl⟩
  rw [hrv] at HW HR ⊢
  rw [hrb] at HW ⊢
  have hwr := HR.out
  clear hR hrv hrb hr hV hlo hhi HR
  go_enter Tryz.func127, Tryz.ntmps127
  go_wp2_with (first | (go_at_call 53; refine HW.out.mono ?_; rintro e w1 ⟨rfl, hb⟩; have c0 := (hb.cell (p := ⟨a, 0, none⟩) (cell_lt' h0)).trans h0; have cc := (hb.cell (p := ⟨g, o + 11, none⟩) (cell_lt' hc)).trans hc; have ff := (hb.frozen (p := ⟨g, o + 11, none⟩) (cell_lt' hc)).trans hf; have HB := Lib.hid hb; clear hb) | (go_at_call 83; refine (at_co _ _ _).mono ?_; rintro e w' ⟨rfl, rfl⟩))
  go_ret
  exact ⟨_, HB.out, rfl, rfl⟩
end Go.Proofs.YtgfijlamhjjecaaGreatDoor


namespace Go.Proofs.YtgfijlamhjjecaaGreatDoor
open Go.RowKit
structure FieldC (w : World) (a k : Nat) (lo hi : Int) : Prop where
  c0 : w.cell? ⟨a, 0, none⟩ = some (.func (.func k) #[] #[])
  c1 : w.cell? ⟨a + 1, 0, none⟩ = some (.int .i64 lo)
  c2 : w.cell? ⟨a + 2, 0, none⟩ = some (.int .i64 hi)
theorem FieldC.on {w w' : World} {a k : Nat} {lo hi : Int} {B : Nat} (h : FieldC w a k lo hi) (hb : Below B w w') (hB : w.heap.size ≤ B) : FieldC w' a k lo hi :=
  ⟨(hb.cell (Nat.lt_of_lt_of_le (cell_lt' h.c0) hB)).trans h.c0, (hb.cell (Nat.lt_of_lt_of_le (cell_lt' h.c1) hB)).trans h.c1, (hb.cell (Nat.lt_of_lt_of_le (cell_lt' h.c2) hB)).trans h.c2⟩
theorem heap_alloc_at {w : World} {o : Obj} {g : Nat} (h : w.heap.size = g) : (w.alloc o).heap[g]? = some o := by subst h; exact heap_alloc_new _ _
def OfQ (tl rd k : Nat) (lo hi : Int) (w : World) (e : Ending) (w' : World) : Prop := ∃ a, e = .returned (.agg #[.func (.func tl) #[] #[.pointer (some ⟨a, 0, none⟩), .pointer (some ⟨a + 1, 0, none⟩), .pointer (some ⟨a + 2, 0, none⟩)], .func (.func rd) #[] #[.pointer (some ⟨a + 1, 0, none⟩), .pointer (some ⟨a + 2, 0, none⟩), .pointer (some ⟨a, 0, none⟩)]]) ∧ w.heap.size ≤ a ∧ a + 3 ≤ w'.heap.size ∧ FieldC w' a k lo hi ∧ Below w.heap.size w w'
theorem res_field {fn : Func} {p : Tmp} (h : fn.results = #[.cell p 107]) (tmps : Array Value) {w : World} {g : Nat} {cs : Array Value} {t : TypeId} (hp : tmps.getD p undef = .pointer (some ⟨g, 0, none⟩))
    (hg : w.heap[g]? = some (.cells cs t (0, 0))) (hs : cs.size = 2) : (results fn tmps).run Tryz.prog w = .ok (.agg cs) w := by
  rw [results_cell1 h, hp]
  have hl : (loadVar 107 ⟨g, 0, none⟩).run Tryz.prog w = .ok (.agg cs) w := run_loadVar_row w g t 107 cs (0, 0) _ hg Tryz.underlying107 rfl (by rw [hs]; kernel_rfl)
  simp [asAddr, hl, Result.andThen]
theorem ofQ_end {w : World} {tl rd k : Nat} {lo hi : Int} {t1 t2 t3 t4 : TypeId} {cs : Array Value} : OfQ tl rd k lo hi w (.returned (.agg #[.func (.func tl) #[] #[.pointer (some ⟨w.heap.size, 0, none⟩), .pointer (some ⟨w.heap.size + 1, 0, none⟩), .pointer (some ⟨w.heap.size + 2, 0, none⟩)], .func (.func rd) #[] #[.pointer (some ⟨w.heap.size + 1, 0, none⟩), .pointer (some ⟨w.heap.size + 2, 0, none⟩), .pointer (some ⟨w.heap.size, 0, none⟩)]]))
    ((((w.alloc (.cells #[.func (.func k) #[] #[]] t1)).alloc (.cells #[.int .i64 lo] t2)).alloc (.cells #[.int .i64 hi] t3)).alloc (.cells cs t4)) := by
  have e1 := heap_alloc_new w (.cells #[.func (.func k) #[] #[]] t1)
  have e2 := heap_alloc_new (w.alloc (.cells #[.func (.func k) #[] #[]] t1)) (.cells #[.int .i64 lo] t2)
  have e3 := heap_alloc_new ((w.alloc (.cells #[.func (.func k) #[] #[]] t1)).alloc (.cells #[.int .i64 lo] t2)) (.cells #[.int .i64 hi] t3)
  simp only [World.size_alloc] at e2 e3
  refine ⟨w.heap.size, rfl, Nat.le_refl _, by simp, ⟨?_, ?_, ?_⟩, ((((Below.refl _ w).alloc (Nat.le_refl _) _).alloc (by simp) _).alloc (by simp only [World.size_alloc]; omega) _).alloc (by simp only [World.size_alloc]; omega) _⟩
  · rw [cell_of_row _ w.heap.size 0 _ _ _ ((Below.heap_alloc _ _ _ (by simp only [World.size_alloc]; omega)).trans ((Below.heap_alloc _ _ _ (by simp only [World.size_alloc]; omega)).trans ((Below.heap_alloc _ _ _ (by simp)).trans e1)))]; rfl
  · rw [cell_of_row _ (w.heap.size + 1) 0 _ _ _ ((Below.heap_alloc _ _ _ (by simp only [World.size_alloc]; omega)).trans ((Below.heap_alloc _ _ _ (by simp)).trans e2))]; rfl
  · rw [cell_of_row _ (w.heap.size + 2) 0 _ _ _ ((Below.heap_alloc _ _ _ (by simp)).trans e3)]; rfl
set_option maxHeartbeats 1000000 in
theorem of8_any (k : Nat) (lo hi : Int) (w : World) : Calls Tryz.prog 70 #[.func (.func k) #[] #[], .int .i64 lo, .int .i64 hi] w fun e w' => OfQ 115 117 k lo hi w e w' := by
  go_enter Tryz.func70, Tryz.ntmps70
  go_wp2_with fail
  refine bodyPost_ret (res_field rfl _ rfl (heap_alloc_at (by simp)) rfl) rfl ?_
  exact ofQ_end
set_option maxHeartbeats 1000000 in
theorem of16_any (k : Nat) (lo hi : Int) (w : World) : Calls Tryz.prog 72 #[.func (.func k) #[] #[], .int .i64 lo, .int .i64 hi] w fun e w' => OfQ 118 119 k lo hi w e w' := by
  go_enter Tryz.func72, Tryz.ntmps72
  go_wp2_with fail
  refine bodyPost_ret (res_field rfl _ rfl (heap_alloc_at (by simp)) rfl) rfl ?_
  exact ofQ_end
set_option maxHeartbeats 1000000 in
theorem of32_any (k : Nat) (lo hi : Int) (w : World) : Calls Tryz.prog 74 #[.func (.func k) #[] #[], .int .i64 lo, .int .i64 hi] w fun e w' => OfQ 120 121 k lo hi w e w' := by
  go_enter Tryz.func74, Tryz.ntmps74
  go_wp2_with fail
  refine bodyPost_ret (res_field rfl _ rfl (heap_alloc_at (by simp)) rfl) rfl ?_
  exact ofQ_end
set_option maxHeartbeats 1000000 in
theorem of64_any (k : Nat) (lo hi : Int) (w : World) : Calls Tryz.prog 76 #[.func (.func k) #[] #[], .int .i64 lo, .int .i64 hi] w fun e w' => OfQ 122 123 k lo hi w e w' := by
  go_enter Tryz.func76, Tryz.ntmps76
  go_wp2_with fail
  refine bodyPost_ret (res_field rfl _ rfl (heap_alloc_at (by simp)) rfl) rfl ?_
  exact ofQ_end
set_option maxHeartbeats 1000000 in
theorem ofS_any (k : Nat) (lo hi : Int) (w : World) : Calls Tryz.prog 78 #[.func (.func k) #[] #[], .int .i64 lo, .int .i64 hi] w fun e w' => OfQ 124 125 k lo hi w e w' := by
  go_enter Tryz.func78, Tryz.ntmps78
  go_wp2_with fail
  refine bodyPost_ret (res_field rfl _ rfl (heap_alloc_at (by simp)) rfl) rfl ?_
  exact ofQ_end
set_option maxHeartbeats 1000000 in
theorem ofE_any (k : Nat) (lo hi : Int) (w : World) : Calls Tryz.prog 82 #[.func (.func k) #[] #[], .int .i64 lo, .int .i64 hi] w fun e w' => OfQ 126 127 k lo hi w e w' := by
  go_enter Tryz.func82, Tryz.ntmps82
  go_wp2_with fail
  refine bodyPost_ret (res_field rfl _ rfl (heap_alloc_at (by simp)) rfl) rfl ?_
  exact ofQ_end
end Go.Proofs.YtgfijlamhjjecaaGreatDoor


namespace Go.Proofs.YtgfijlamhjjecaaGreatDoor
open Go.RowKit
abbrev KE := Nat × Value × Nat
def encK (e : KE) : MapEntry := ⟨.int .u8 (e.1 : Int), e.2.1, e.2.2⟩
def findK : List KE → Nat → Option Value
  | [], _ => none
  | e :: l, i => if e.1 = i then some e.2.1 else findK l i
def posK : List KE → Nat → Nat
  | [], _ => 0
  | e :: l, i => if e.1 = i then 0 else posK l i + 1
theorem findNow_encK (i : Nat) : ∀ (l : List KE) (k : Nat), Instr.findNow (.int .u8) (.int .u8 (i : Int)) (l.map encK) k =
    some ((findK l i).map fun s => (k + posK l i, s))
  | [], k => rfl
  | e :: l, k => by
    simp only [List.map_cons, Instr.findNow, encK, Instr.sameNow, if_true]
    by_cases h : e.1 = i
    · have hb : ((i : Int) == (e.1 : Int)) = true := by simp [h]
      simp [h, findK, posK]
    · have hb : ((i : Int) == (e.1 : Int)) = false := by simp; omega
      simp only [hb, findK, posK, h, if_false]
      have ih := findNow_encK i l (k + 1)
      rw [ih]
      simp [Nat.add_assoc, Nat.add_comm 1]
section
variable {P : Program} {w : World} {mt kt et mb : Nat} {l : List KE} {clock : Nat}
theorem run_findKeyK (hk : P.underlying kt = some (.int .u8)) (l : List KE) (i : Nat) :
    (Instr.findKey kt (.int .u8 (i : Int)) (l.map encK)).run P w = .ok ((findK l i).map fun s => (posK l i, s)) w := by
  unfold Instr.findKey
  rw [Sem.run_bind, run_underlying hk w, Result.andThen_ok, findNow_encK]
  simp
theorem run_checkKey_u8 (hk : P.underlying kt = some (.int .u8)) (b : Bool) (v : Int) :
    (Instr.checkKey b 10000 kt (.int .u8 v)).run P w = .ok () w := by
  show (Instr.checkKey b (9999 + 1) kt (.int .u8 v)).run P w = .ok () w
  unfold Instr.checkKey
  rw [Sem.run_bind, run_underlying hk w, Result.andThen_ok]
  rfl
theorem run_lookupK (hu : P.underlying mt = some (.map kt et)) (hk : P.underlying kt = some (.int .u8))
    {z : Value} (hz : ∀ w, (zeroValue et).run P w = .ok z w) (hb : w.heap[mb]? = some (.map (l.map encK).toArray clock)) (i : Nat) :
    (Instr.lookup mt (.map (some mb)) (.int .u8 (i : Int)) true).run P w = .ok (.tuple #[(findK l i).getD z, .bool (findK l i).isSome]) w := by
  unfold Instr.lookup
  rw [Sem.run_bind, run_underlying hu w, Result.andThen_ok]
  simp only [Sem.run_bind, getObj, Sem.run, hb, Sem.run_pure, Result.andThen_ok, run_checkKey_u8 hk, run_findKeyK hk l i]
  cases h : findK l i with
  | none => simp [hz]
  | some s => simp
theorem run_insertK (hu : P.underlying mt = some (.map kt et)) (hk : P.underlying kt = some (.int .u8)) (hb : w.heap[mb]? = some (.map (l.map encK).toArray clock)) (i : Nat) (v : Value) (h : findK l i = none) :
    (Instr.mapUpdate mt (.map (some mb)) (.int .u8 (i : Int)) v).run P w = .ok () (w.putObj mb (.map ((l ++ [(i, v, clock)]).map encK).toArray (clock + 1))) := by
  unfold Instr.mapUpdate
  rw [Sem.run_bind, run_underlying hu w, Result.andThen_ok]
  simp only [Sem.run_bind, getObj, Sem.run, hb, Result.andThen_ok, run_checkKey_u8 hk, run_findKeyK hk l i, h, Option.map_none, setObj]
  simp [World.putObj, encK]
end
end Go.Proofs.YtgfijlamhjjecaaGreatDoor


namespace Go.Proofs.YtgfijlamhjjecaaGreatDoor
open Go.RowKit
def FK.tellFn : FK → Nat
  | .car => 115 | .fl => 118 | .we => 120 | .va => 122 | .st => 124 | .no => 120 | .am => 122 | .co => 126
def FK.readFn : FK → Nat
  | .car => 117 | .fl => 119 | .we => 121 | .va => 123 | .st => 125 | .no => 121 | .am => 123 | .co => 127
def FK.atFn : FK → Nat
  | .car => 71 | .fl => 73 | .we => 75 | .va => 77 | .st => 79 | .no => 80 | .am => 81 | .co => 83
abbrev tellV (n a : Nat) : Value := .func (.func n) #[] #[.pointer (some ⟨a, 0, none⟩), .pointer (some ⟨a + 1, 0, none⟩), .pointer (some ⟨a + 2, 0, none⟩)]
abbrev readV (n a : Nat) : Value := .func (.func n) #[] #[.pointer (some ⟨a + 1, 0, none⟩), .pointer (some ⟨a + 2, 0, none⟩), .pointer (some ⟨a, 0, none⟩)]
def FieldAt (B : Nat) (w : World) (x y : Value) (f : FK) : Prop := ∃ a, B ≤ a ∧ x = tellV f.tellFn a ∧ y = readV f.readFn a ∧ FieldC w a f.atFn f.bnd.1 f.bnd.2
def FieldsAt (B : Nat) (w : World) (v : Value) (fs : List FK) : Prop := ∃ b, v = .slice (some ⟨b, 0, none⟩) fs.length fs.length ∧ B ≤ b ∧ ∀ (i : Nat) (f : FK), fs[i]? = some f → ∃ x y, w.cell? ⟨b, i * 2, none⟩ = some x ∧ w.cell? ⟨b, i * 2 + 1, none⟩ = some y ∧ FieldAt B w x y f
def PartsAt (B : Nat) (w : World) (v : Value) (ps : List (Str × List FK)) : Prop := (ps = [] ∧ v = .slice none 0 0) ∨ ∃ b, v = .slice (some ⟨b, 0, none⟩) ps.length ps.length ∧ B ≤ b ∧ ∀ (i : Nat) (p : Str × List FK), ps[i]? = some p → ∃ fv, w.cell? ⟨b, i * 2, none⟩ = some (sv p.1) ∧ w.cell? ⟨b, i * 2 + 1, none⟩ = some fv ∧ FieldsAt B w fv p.2
theorem FieldAt.on {B C : Nat} {w w' : World} {x y : Value} {f : FK} (h : FieldAt B w x y f) (hb : Below C w w') (hC : w.heap.size ≤ C) : FieldAt B w' x y f := by
  obtain ⟨a, h1, h2, h3, h4⟩ := h
  exact ⟨a, h1, h2, h3, h4.on hb hC⟩
theorem FieldsAt.on {B C : Nat} {w w' : World} {v : Value} {fs : List FK} (h : FieldsAt B w v fs) (hb : Below C w w') (hC : w.heap.size ≤ C) : FieldsAt B w' v fs := by
  obtain ⟨b, h1, h2, h3⟩ := h
  refine ⟨b, h1, h2, fun i f hf => ?_⟩
  obtain ⟨x, y, c1, c2, c3⟩ := h3 i f hf
  exact ⟨x, y, (hb.cell (Nat.lt_of_lt_of_le (cell_lt' c1) hC)).trans c1, (hb.cell (Nat.lt_of_lt_of_le (cell_lt' c2) hC)).trans c2, c3.on hb hC⟩
theorem PartsAt.on {B C : Nat} {w w' : World} {v : Value} {ps : List (Str × List FK)} (h : PartsAt B w v ps) (hb : Below C w w') (hC : w.heap.size ≤ C) : PartsAt B w' v ps := by
  rcases h with h | ⟨b, h1, h2, h3⟩
  · exact .inl h
  · refine .inr ⟨b, h1, h2, fun i f hf => ?_⟩
    obtain ⟨fv, c1, c2, c3⟩ := h3 i f hf
    exact ⟨fv, (hb.cell (Nat.lt_of_lt_of_le (cell_lt' c1) hC)).trans c1, (hb.cell (Nat.lt_of_lt_of_le (cell_lt' c2) hC)).trans c2, c3.on hb hC⟩
def Kp (mb : Nat) (w w' : World) : Prop := w.heap.size ≤ w'.heap.size ∧ ∀ k, k ≠ mb → k < w.heap.size → w'.heap[k]? = w.heap[k]?
theorem Kp.trans {mb : Nat} {a b c : World} (h : Kp mb a b) (k : Kp mb b c) : Kp mb a c := ⟨Nat.le_trans h.1 k.1, fun i hi hl => (k.2 i hi (Nat.lt_of_lt_of_le hl h.1)).trans (h.2 i hi hl)⟩
theorem Kp.alloc (mb : Nat) (w : World) (o : Obj) : Kp mb w (w.alloc o) := ⟨by simp, fun k _ hl => Below.heap_alloc _ _ _ hl⟩
theorem Kp.put (mb : Nat) (w : World) (o : Obj) : Kp mb w (w.putObj mb o) := ⟨by rw [putObj_size]; exact Nat.le_refl _, fun k hk _ => putObj_other hk o⟩
theorem Kp.refl (mb : Nat) (w : World) : Kp mb w w := ⟨Nat.le_refl _, fun _ _ _ => rfl⟩
structure MI (W0 : World) (mb : Nat) (l : List KE) (c : Nat) (M : World) : Prop where
  map : M.heap[mb]? = some (.map (l.map encK).toArray c)
  bel : Below mb W0 M
theorem MI.kp {W0 M : World} {mb : Nat} {l : List KE} {c : Nat} (h : MI W0 mb l c M) {k : Nat} (hk : k < mb) : M.heap[k]? = W0.heap[k]? := h.bel.block k hk
theorem MI.lt {W0 M : World} {mb : Nat} {l : List KE} {c : Nat} (h : MI W0 mb l c M) : mb < M.heap.size := (Array.getElem?_eq_some_iff.1 h.map).1
theorem MI.alloc {W0 M : World} {mb : Nat} {l : List KE} {c : Nat} (h : MI W0 mb l c M) (o : Obj) : MI W0 mb l c (M.alloc o) :=
  ⟨(Below.heap_alloc _ _ _ h.lt).trans h.map, h.bel.alloc (Nat.le_of_lt h.lt) _⟩
theorem MI.ins {W0 M : World} {mb : Nat} {l : List KE} {c : Nat} (h : MI W0 mb l c M) (i : Nat) (v : Value) (hi : findK l i = none) :
    ∃ M', (Instr.mapUpdate 167 (.map (some mb)) (.int .u8 (i : Int)) v).run Tryz.prog M = .ok () M' ∧ MI W0 mb (l ++ [(i, v, c)]) (c + 1) M' ∧ Kp mb M M' ∧ M'.heap.size = M.heap.size := by
  refine ⟨_, run_insertK Tryz.underlying167 Tryz.underlying5 h.map i v hi, ⟨putObj_same h.lt _, ?_⟩, Kp.put _ _ _, putObj_size _ _ _⟩
  obtain ⟨h1, h2, h3, h4, h5⟩ := h.bel
  exact ⟨h1, h2, h3, by rw [putObj_size]; exact h4, fun k hk => (putObj_other (by omega) _).trans (h5 k hk)⟩
theorem MI.lookup {W0 M : World} {mb : Nat} {l : List KE} {c : Nat} (h : MI W0 mb l c M) (i : Nat) :
    (Instr.lookup 167 (.map (some mb)) (.int .u8 (i : Int)) true).run Tryz.prog M = .ok (.tuple #[(findK l i).getD (.slice none 0 0), .bool (findK l i).isSome]) M :=
  run_lookupK Tryz.underlying167 Tryz.underlying5 (fun w => Tryz.zeroValue96 w) h.map i
def PartsQ (k : Nat) (w : World) (e : Ending) (w' : World) : Prop := ∃ v, e = .returned (.tuple #[v, .bool (hasK k).isSome]) ∧ (∀ h, hasK k = some h → PartsAt w.heap.size w' v (partF h)) ∧ Below w.heap.size w w'
def mapL (s2 s3 s5 s6 s7 s8 : Value) : List KE := [(1, .slice none 0 0, 0), (2, s2, 1), (3, s3, 2), (4, .slice none 0 0, 3), (5, s5, 4), (6, s6, 5), (7, s7, 6), (8, s8, 7)]
theorem mapL_some (s2 s3 s5 s6 s7 s8 : Value) (k : Nat) : (findK (mapL s2 s3 s5 s6 s7 s8) k).isSome = (hasK k).isSome := by
  unfold mapL hasK
  by_cases h1 : k = 1; · subst h1; rfl
  by_cases h2 : k = 2; · subst h2; rfl
  by_cases h3 : k = 3; · subst h3; rfl
  by_cases h4 : k = 4; · subst h4; rfl
  by_cases h5 : k = 5; · subst h5; rfl
  by_cases h6 : k = 6; · subst h6; rfl
  by_cases h7 : k = 7; · subst h7; rfl
  by_cases h8 : k = 8; · subst h8; rfl
  simp [findK, h1, h2, h3, h4, h5, h6, h7, h8, Ne.symm h1, Ne.symm h2, Ne.symm h3, Ne.symm h4, Ne.symm h5, Ne.symm h6, Ne.symm h7, Ne.symm h8]
set_option maxRecDepth 100000 in
set_option maxHeartbeats 8000000 in
theorem parts_any (k : Nat) (w : World) : Calls Tryz.prog 43 #[.int .u8 (k : Int)] w fun e w' => PartsQ k w e w' := by
  have hmm := @run_makeMap Tryz.prog
  go_enter Tryz.func43, Tryz.ntmps43
  go_wp2_with fail
  refine (of8_any _ _ _ _).mono ?_
  rintro e w1 ⟨a1, rfl, p1, q1, hc, hb⟩
  have HC1 := Lib.hid hc
  have HB1 := Lib.hid hb
  clear hc hb
  go_wp2_with fail
  refine (of16_any _ _ _ _).mono ?_
  rintro e w2 ⟨a2, rfl, p2, q2, hc, hb⟩
  have HC2 := Lib.hid hc
  have HB2 := Lib.hid hb
  clear hc hb
  go_wp2_with fail
  refine (of32_any _ _ _ _).mono ?_
  rintro e w3 ⟨a3, rfl, p3, q3, hc, hb⟩
  have HC3 := Lib.hid hc
  have HB3 := Lib.hid hb
  clear hc hb
  go_wp2_with fail
  refine (of64_any _ _ _ _).mono ?_
  rintro e w4 ⟨a4, rfl, p4, q4, hc, hb⟩
  have HC4 := Lib.hid hc
  have HB4 := Lib.hid hb
  clear hc hb
  go_wp2_with fail
  refine (ofS_any _ _ _ _).mono ?_
  rintro e w5 ⟨a5, rfl, p5, q5, hc, hb⟩
  have HC5 := Lib.hid hc
  have HB5 := Lib.hid hb
  clear hc hb
  go_wp2_with fail
  refine (of32_any _ _ _ _).mono ?_
  rintro e w6 ⟨a6, rfl, p6, q6, hc, hb⟩
  have HC6 := Lib.hid hc
  have HB6 := Lib.hid hb
  clear hc hb
  go_wp2_with fail
  refine (of64_any _ _ _ _).mono ?_
  rintro e w7 ⟨a7, rfl, p7, q7, hc, hb⟩
  have HC7 := Lib.hid hc
  have HB7 := Lib.hid hb
  clear hc hb
  go_wp2_with fail
  refine (ofE_any _ _ _ _).mono ?_
  rintro e w8 ⟨a8, rfl, p8, q8, hc, hb⟩
  have HC8 := Lib.hid hc
  have HB8 := Lib.hid hb
  clear hc hb
  go_upto_region 4 with fail
  obtain ⟨W0, hW0⟩ : ∃ W0, (w8.alloc (.cells #[tellV 126 a8, readV 127 a8] 107)).alloc (.cells #[.string ⟨#[67, 79, 68]⟩, .slice (some ⟨w8.heap.size, 0, none⟩) 1 1] 103) = W0 := ⟨_, rfl⟩
  rw [hW0]
  have g7 : w6.heap.size + 2 ≤ w7.heap.size := by have h := HB7.out.size; simpa [Nat.add_assoc] using h
  have g8 : w7.heap.size + 2 ≤ w8.heap.size := by have h := HB8.out.size; simpa [Nat.add_assoc] using h
  have g0 : w8.heap.size + 2 ≤ W0.heap.size := by rw [← hW0]; simp
  have HL8 : Hid (Below w8.heap.size w8 W0) := Lib.hid (by rw [← hW0]; exact ((Below.refl _ _).alloc (Nat.le_refl _) _).alloc (by simp) _)
  have HL7 : Hid (Below w7.heap.size w7 W0) := Lib.hid ((((Below.refl w7.heap.size w7).alloc (Nat.le_refl _) (.cells #[tellV 122 a7, readV 123 a7] 107)).alloc (by simp) (.cells #[.string ⟨#[65, 77, 84]⟩, .slice (some ⟨w7.heap.size, 0, none⟩) 1 1] 103)).trans ((HB8.out.mono (by simp; omega)).trans (HL8.out.mono (by omega))))
  have HL6 : Hid (Below w6.heap.size w6 W0) := Lib.hid ((((Below.refl w6.heap.size w6).alloc (Nat.le_refl _) (.cells #[tellV 115 a1, readV 117 a1, tellV 118 a2, readV 119 a2, tellV 120 a3, readV 121 a3, tellV 122 a4, readV 123 a4, tellV 124 a5, readV 125 a5, tellV 120 a6, readV 121 a6] 107)).alloc (by simp) (.cells #[.string ⟨#[67, 80, 78]⟩, .slice (some ⟨w6.heap.size, 0, none⟩) 6 6] 103)).trans ((HB7.out.mono (by simp; omega)).trans (HL7.out.mono (by omega))))
  have HL5 : Hid (Below w5.heap.size w5 W0) := Lib.hid (HB6.out.trans (HL6.out.mono HB6.out.size))
  have HL4 : Hid (Below w4.heap.size w4 W0) := Lib.hid (HB5.out.trans (HL5.out.mono HB5.out.size))
  have HL3 : Hid (Below w3.heap.size w3 W0) := Lib.hid (HB4.out.trans (HL4.out.mono HB4.out.size))
  have HL2 : Hid (Below w2.heap.size w2 W0) := Lib.hid (HB3.out.trans (HL3.out.mono HB3.out.size))
  have HL1 : Hid (Below w1.heap.size w1 W0) := Lib.hid (HB2.out.trans (HL2.out.mono HB2.out.size))
  have HL0 : Hid (Below w.heap.size w W0) := Lib.hid (HB1.out.trans (HL1.out.mono HB1.out.size))
  have hs : w.heap.size ≤ w1.heap.size ∧ w1.heap.size ≤ w2.heap.size ∧ w2.heap.size ≤ w3.heap.size ∧ w3.heap.size ≤ w4.heap.size ∧ w4.heap.size ≤ w5.heap.size ∧ w5.heap.size ≤ w6.heap.size := ⟨HB1.out.size, HB2.out.size, HB3.out.size, HB4.out.size, HB5.out.size, HB6.out.size⟩
  have FC1 : Hid (FieldC W0 a1 (FK.atFn .car) (FK.bnd .car).1 (FK.bnd .car).2) := Lib.hid (HC1.out.on HL1.out (Nat.le_refl _))
  have FC2 : Hid (FieldC W0 a2 (FK.atFn .fl) (FK.bnd .fl).1 (FK.bnd .fl).2) := Lib.hid (HC2.out.on HL2.out (Nat.le_refl _))
  have FC3 : Hid (FieldC W0 a3 (FK.atFn .we) (FK.bnd .we).1 (FK.bnd .we).2) := Lib.hid (HC3.out.on HL3.out (Nat.le_refl _))
  have FC4 : Hid (FieldC W0 a4 (FK.atFn .va) (FK.bnd .va).1 (FK.bnd .va).2) := Lib.hid (HC4.out.on HL4.out (Nat.le_refl _))
  have FC5 : Hid (FieldC W0 a5 (FK.atFn .st) (FK.bnd .st).1 (FK.bnd .st).2) := Lib.hid (HC5.out.on HL5.out (Nat.le_refl _))
  have FC6 : Hid (FieldC W0 a6 (FK.atFn .no) (FK.bnd .no).1 (FK.bnd .no).2) := Lib.hid (HC6.out.on HL6.out (Nat.le_refl _))
  have FC7 : Hid (FieldC W0 a7 (FK.atFn .am) (FK.bnd .am).1 (FK.bnd .am).2) := Lib.hid (HC7.out.on HL7.out (Nat.le_refl _))
  have FC8 : Hid (FieldC W0 a8 (FK.atFn .co) (FK.bnd .co).1 (FK.bnd .co).2) := Lib.hid (HC8.out.on HL8.out (Nat.le_refl _))
  have F12 : Hid (W0.heap[w6.heap.size]? = some (.cells #[tellV 115 a1, readV 117 a1, tellV 118 a2, readV 119 a2, tellV 120 a3, readV 121 a3, tellV 122 a4, readV 123 a4, tellV 124 a5, readV 125 a5, tellV 120 a6, readV 121 a6] 107 (0, 0))) := Lib.hid ((HL7.out.block _ (by omega)).trans ((HB7.out.block w6.heap.size (by simp <;> omega)).trans ((Below.heap_alloc _ _ _ (by simp)).trans (heap_alloc_new _ _))))
  have F4 : Hid (W0.heap[w6.heap.size + 1]? = some (.cells #[.string ⟨#[67, 80, 78]⟩, .slice (some ⟨w6.heap.size, 0, none⟩) 6 6] 103 (0, 0))) := Lib.hid ((HL7.out.block _ (by omega)).trans ((HB7.out.block (w6.heap.size + 1) (by simp)).trans (heap_alloc_at (by simp))))
  have FA : Hid (W0.heap[w7.heap.size]? = some (.cells #[tellV 122 a7, readV 123 a7] 107 (0, 0))) := Lib.hid ((HL8.out.block _ (by omega)).trans ((HB8.out.block w7.heap.size (by simp <;> omega)).trans ((Below.heap_alloc _ _ _ (by simp)).trans (heap_alloc_new _ _))))
  have F5 : Hid (W0.heap[w7.heap.size + 1]? = some (.cells #[.string ⟨#[65, 77, 84]⟩, .slice (some ⟨w7.heap.size, 0, none⟩) 1 1] 103 (0, 0))) := Lib.hid ((HL8.out.block _ (by omega)).trans ((HB8.out.block (w7.heap.size + 1) (by simp)).trans (heap_alloc_at (by simp))))
  have FO : Hid (W0.heap[w8.heap.size]? = some (.cells #[tellV 126 a8, readV 127 a8] 107 (0, 0))) := Lib.hid (by rw [← hW0]; exact (Below.heap_alloc _ _ _ (by simp)).trans (heap_alloc_new _ _))
  have F6 : Hid (W0.heap[w8.heap.size + 1]? = some (.cells #[.string ⟨#[67, 79, 68]⟩, .slice (some ⟨w8.heap.size, 0, none⟩) 1 1] 103 (0, 0))) := Lib.hid (by rw [← hW0]; exact heap_alloc_at (by simp))
  have p7 : w6.heap.size ≤ a7 := by have h := p7; simp at h; omega
  have p8 : w7.heap.size ≤ a8 := by have h := p8; simp at h; omega
  obtain ⟨mb, hmb⟩ : ∃ mb, W0.heap.size = mb := ⟨_, rfl⟩
  have I0 : MI W0 mb [] 0 (W0.alloc (.map #[] 0)) := ⟨heap_alloc_at hmb, (Below.refl _ _).alloc (by omega) _⟩
  obtain ⟨M1, e1, I1, K1, z1⟩ := I0.ins 1 (.slice none 0 0) rfl
  have e1 : (Instr.mapUpdate 167 (.map (some mb)) (.int .u8 1) (.slice none 0 0)).run Tryz.prog (W0.alloc (.map #[] 0)) = .ok () M1 := e1
  have LT1 := I1.lt
  have Z1 := Lib.hid z1
  clear z1
  have l2_40 : M1.cell? ⟨w6.heap.size + 1, 0, none⟩ = some (.string ⟨#[67, 80, 78]⟩) := cell_of_row M1 (w6.heap.size + 1) 0 _ _ _ ((I1.kp (by omega)).trans F4.out)
  have l2_41 : M1.cell? ⟨w6.heap.size + 1, 1, none⟩ = some (.slice (some ⟨w6.heap.size, 0, none⟩) 6 6) := cell_of_row M1 (w6.heap.size + 1) 1 _ _ _ ((I1.kp (by omega)).trans F4.out)
  obtain ⟨M2, e2, I2, K2, z2⟩ := (I1.alloc (.cells #[.string ⟨#[67, 80, 78]⟩, .slice (some ⟨w6.heap.size, 0, none⟩) 6 6] 103)).ins 2 (.slice (some ⟨M1.heap.size, 0, none⟩) 1 1) rfl
  have e2 : (Instr.mapUpdate 167 (.map (some mb)) (.int .u8 2) (.slice (some ⟨M1.heap.size, 0, none⟩) 1 1)).run Tryz.prog (M1.alloc (.cells #[.string ⟨#[67, 80, 78]⟩, .slice (some ⟨w6.heap.size, 0, none⟩) 6 6] 103)) = .ok () M2 := e2
  have LT2 := I2.lt
  have Z2 := Lib.hid z2
  clear z2
  have l3_60 : M2.cell? ⟨w8.heap.size + 1, 0, none⟩ = some (.string ⟨#[67, 79, 68]⟩) := cell_of_row M2 (w8.heap.size + 1) 0 _ _ _ ((I2.kp (by omega)).trans F6.out)
  have l3_61 : M2.cell? ⟨w8.heap.size + 1, 1, none⟩ = some (.slice (some ⟨w8.heap.size, 0, none⟩) 1 1) := cell_of_row M2 (w8.heap.size + 1) 1 _ _ _ ((I2.kp (by omega)).trans F6.out)
  obtain ⟨M3, e3, I3, K3, z3⟩ := (I2.alloc (.cells #[.string ⟨#[67, 79, 68]⟩, .slice (some ⟨w8.heap.size, 0, none⟩) 1 1] 103)).ins 3 (.slice (some ⟨M2.heap.size, 0, none⟩) 1 1) rfl
  have e3 : (Instr.mapUpdate 167 (.map (some mb)) (.int .u8 3) (.slice (some ⟨M2.heap.size, 0, none⟩) 1 1)).run Tryz.prog (M2.alloc (.cells #[.string ⟨#[67, 79, 68]⟩, .slice (some ⟨w8.heap.size, 0, none⟩) 1 1] 103)) = .ok () M3 := e3
  have LT3 := I3.lt
  have Z3 := Lib.hid z3
  clear z3
  obtain ⟨M4, e4, I4, K4, z4⟩ := I3.ins 4 (.slice none 0 0) rfl
  have e4 : (Instr.mapUpdate 167 (.map (some mb)) (.int .u8 4) (.slice none 0 0)).run Tryz.prog M3 = .ok () M4 := e4
  have LT4 := I4.lt
  have Z4 := Lib.hid z4
  clear z4
  have l5_40 : M4.cell? ⟨w6.heap.size + 1, 0, none⟩ = some (.string ⟨#[67, 80, 78]⟩) := cell_of_row M4 (w6.heap.size + 1) 0 _ _ _ ((I4.kp (by omega)).trans F4.out)
  have l5_41 : M4.cell? ⟨w6.heap.size + 1, 1, none⟩ = some (.slice (some ⟨w6.heap.size, 0, none⟩) 6 6) := cell_of_row M4 (w6.heap.size + 1) 1 _ _ _ ((I4.kp (by omega)).trans F4.out)
  obtain ⟨M5, e5, I5, K5, z5⟩ := (I4.alloc (.cells #[.string ⟨#[67, 80, 78]⟩, .slice (some ⟨w6.heap.size, 0, none⟩) 6 6] 103)).ins 5 (.slice (some ⟨M4.heap.size, 0, none⟩) 1 1) rfl
  have e5 : (Instr.mapUpdate 167 (.map (some mb)) (.int .u8 5) (.slice (some ⟨M4.heap.size, 0, none⟩) 1 1)).run Tryz.prog (M4.alloc (.cells #[.string ⟨#[67, 80, 78]⟩, .slice (some ⟨w6.heap.size, 0, none⟩) 6 6] 103)) = .ok () M5 := e5
  have LT5 := I5.lt
  have Z5 := Lib.hid z5
  clear z5
  have l6_50 : M5.cell? ⟨w7.heap.size + 1, 0, none⟩ = some (.string ⟨#[65, 77, 84]⟩) := cell_of_row M5 (w7.heap.size + 1) 0 _ _ _ ((I5.kp (by omega)).trans F5.out)
  have l6_51 : M5.cell? ⟨w7.heap.size + 1, 1, none⟩ = some (.slice (some ⟨w7.heap.size, 0, none⟩) 1 1) := cell_of_row M5 (w7.heap.size + 1) 1 _ _ _ ((I5.kp (by omega)).trans F5.out)
  obtain ⟨M6, e6, I6, K6, z6⟩ := (I5.alloc (.cells #[.string ⟨#[65, 77, 84]⟩, .slice (some ⟨w7.heap.size, 0, none⟩) 1 1] 103)).ins 6 (.slice (some ⟨M5.heap.size, 0, none⟩) 1 1) rfl
  have e6 : (Instr.mapUpdate 167 (.map (some mb)) (.int .u8 6) (.slice (some ⟨M5.heap.size, 0, none⟩) 1 1)).run Tryz.prog (M5.alloc (.cells #[.string ⟨#[65, 77, 84]⟩, .slice (some ⟨w7.heap.size, 0, none⟩) 1 1] 103)) = .ok () M6 := e6
  have LT6 := I6.lt
  have Z6 := Lib.hid z6
  clear z6
  have l7_50 : M6.cell? ⟨w7.heap.size + 1, 0, none⟩ = some (.string ⟨#[65, 77, 84]⟩) := cell_of_row M6 (w7.heap.size + 1) 0 _ _ _ ((I6.kp (by omega)).trans F5.out)
  have l7_51 : M6.cell? ⟨w7.heap.size + 1, 1, none⟩ = some (.slice (some ⟨w7.heap.size, 0, none⟩) 1 1) := cell_of_row M6 (w7.heap.size + 1) 1 _ _ _ ((I6.kp (by omega)).trans F5.out)
  obtain ⟨M7, e7, I7, K7, z7⟩ := (I6.alloc (.cells #[.string ⟨#[65, 77, 84]⟩, .slice (some ⟨w7.heap.size, 0, none⟩) 1 1] 103)).ins 7 (.slice (some ⟨M6.heap.size, 0, none⟩) 1 1) rfl
  have e7 : (Instr.mapUpdate 167 (.map (some mb)) (.int .u8 7) (.slice (some ⟨M6.heap.size, 0, none⟩) 1 1)).run Tryz.prog (M6.alloc (.cells #[.string ⟨#[65, 77, 84]⟩, .slice (some ⟨w7.heap.size, 0, none⟩) 1 1] 103)) = .ok () M7 := e7
  have LT7 := I7.lt
  have Z7 := Lib.hid z7
  clear z7
  have l8_50 : M7.cell? ⟨w7.heap.size + 1, 0, none⟩ = some (.string ⟨#[65, 77, 84]⟩) := cell_of_row M7 (w7.heap.size + 1) 0 _ _ _ ((I7.kp (by omega)).trans F5.out)
  have l8_51 : M7.cell? ⟨w7.heap.size + 1, 1, none⟩ = some (.slice (some ⟨w7.heap.size, 0, none⟩) 1 1) := cell_of_row M7 (w7.heap.size + 1) 1 _ _ _ ((I7.kp (by omega)).trans F5.out)
  have l8_60 : M7.cell? ⟨w8.heap.size + 1, 0, none⟩ = some (.string ⟨#[67, 79, 68]⟩) := cell_of_row M7 (w8.heap.size + 1) 0 _ _ _ ((I7.kp (by omega)).trans F6.out)
  have l8_61 : M7.cell? ⟨w8.heap.size + 1, 1, none⟩ = some (.slice (some ⟨w8.heap.size, 0, none⟩) 1 1) := cell_of_row M7 (w8.heap.size + 1) 1 _ _ _ ((I7.kp (by omega)).trans F6.out)
  obtain ⟨M8, e8, I8, K8, z8⟩ := (I7.alloc (.cells #[.string ⟨#[65, 77, 84]⟩, .slice (some ⟨w7.heap.size, 0, none⟩) 1 1, .string ⟨#[67, 79, 68]⟩, .slice (some ⟨w8.heap.size, 0, none⟩) 1 1] 103)).ins 8 (.slice (some ⟨M7.heap.size, 0, none⟩) 2 2) rfl
  have e8 : (Instr.mapUpdate 167 (.map (some mb)) (.int .u8 8) (.slice (some ⟨M7.heap.size, 0, none⟩) 2 2)).run Tryz.prog (M7.alloc (.cells #[.string ⟨#[65, 77, 84]⟩, .slice (some ⟨w7.heap.size, 0, none⟩) 1 1, .string ⟨#[67, 79, 68]⟩, .slice (some ⟨w8.heap.size, 0, none⟩) 1 1] 103)) = .ok () M8 := e8
  have LT8 := I8.lt
  have Z8 := Lib.hid z8
  clear z8
  have KK8 : Kp mb M8 M8 := Kp.refl _ _
  have KK7 : Kp mb M7 M8 := (Kp.alloc mb M7 _).trans (K8.trans KK8)
  have KK6 : Kp mb M6 M8 := (Kp.alloc mb M6 _).trans (K7.trans KK7)
  have KK5 : Kp mb M5 M8 := (Kp.alloc mb M5 _).trans (K6.trans KK6)
  have KK4 : Kp mb M4 M8 := (Kp.alloc mb M4 _).trans (K5.trans KK5)
  have KK3 : Kp mb M3 M8 := K4.trans KK4
  have KK2 : Kp mb M2 M8 := (Kp.alloc mb M2 _).trans (K3.trans KK3)
  have KK1 : Kp mb M1 M8 := (Kp.alloc mb M1 _).trans (K2.trans KK2)
  have G2 : Hid (M8.heap[M1.heap.size]? = some (.cells #[.string ⟨#[67, 80, 78]⟩, .slice (some ⟨w6.heap.size, 0, none⟩) 6 6] 103 (0, 0))) := Lib.hid ((KK2.2 _ (by omega) (by rw [Z2.out]; simp)).trans ((K2.2 _ (by omega) (by simp)).trans (heap_alloc_new _ _)))
  have G3 : Hid (M8.heap[M2.heap.size]? = some (.cells #[.string ⟨#[67, 79, 68]⟩, .slice (some ⟨w8.heap.size, 0, none⟩) 1 1] 103 (0, 0))) := Lib.hid ((KK3.2 _ (by omega) (by rw [Z3.out]; simp)).trans ((K3.2 _ (by omega) (by simp)).trans (heap_alloc_new _ _)))
  have G5 : Hid (M8.heap[M4.heap.size]? = some (.cells #[.string ⟨#[67, 80, 78]⟩, .slice (some ⟨w6.heap.size, 0, none⟩) 6 6] 103 (0, 0))) := Lib.hid ((KK5.2 _ (by omega) (by rw [Z5.out]; simp)).trans ((K5.2 _ (by omega) (by simp)).trans (heap_alloc_new _ _)))
  have G6 : Hid (M8.heap[M5.heap.size]? = some (.cells #[.string ⟨#[65, 77, 84]⟩, .slice (some ⟨w7.heap.size, 0, none⟩) 1 1] 103 (0, 0))) := Lib.hid ((KK6.2 _ (by omega) (by rw [Z6.out]; simp)).trans ((K6.2 _ (by omega) (by simp)).trans (heap_alloc_new _ _)))
  have G7 : Hid (M8.heap[M6.heap.size]? = some (.cells #[.string ⟨#[65, 77, 84]⟩, .slice (some ⟨w7.heap.size, 0, none⟩) 1 1] 103 (0, 0))) := Lib.hid ((KK7.2 _ (by omega) (by rw [Z7.out]; simp)).trans ((K7.2 _ (by omega) (by simp)).trans (heap_alloc_new _ _)))
  have G8 : Hid (M8.heap[M7.heap.size]? = some (.cells #[.string ⟨#[65, 77, 84]⟩, .slice (some ⟨w7.heap.size, 0, none⟩) 1 1, .string ⟨#[67, 79, 68]⟩, .slice (some ⟨w8.heap.size, 0, none⟩) 1 1] 103 (0, 0))) := Lib.hid ((KK8.2 _ (by omega) (by rw [Z8.out]; simp)).trans ((K8.2 _ (by omega) (by simp)).trans (heap_alloc_new _ _)))
  have eL0 := I8.lookup k
  obtain ⟨pv, hpv⟩ : ∃ pv, (findK (mapL (.slice (some ⟨M1.heap.size, 0, none⟩) 1 1) (.slice (some ⟨M2.heap.size, 0, none⟩) 1 1) (.slice (some ⟨M4.heap.size, 0, none⟩) 1 1) (.slice (some ⟨M5.heap.size, 0, none⟩) 1 1) (.slice (some ⟨M6.heap.size, 0, none⟩) 1 1) (.slice (some ⟨M7.heap.size, 0, none⟩) 2 2)) k).getD (.slice none 0 0) = pv := ⟨_, rfl⟩
  have hpb := mapL_some (.slice (some ⟨M1.heap.size, 0, none⟩) 1 1) (.slice (some ⟨M2.heap.size, 0, none⟩) 1 1) (.slice (some ⟨M4.heap.size, 0, none⟩) 1 1) (.slice (some ⟨M5.heap.size, 0, none⟩) 1 1) (.slice (some ⟨M6.heap.size, 0, none⟩) 1 1) (.slice (some ⟨M7.heap.size, 0, none⟩) 2 2) k
  obtain ⟨pb, hpb'⟩ : ∃ pb, (hasK k).isSome = pb := ⟨_, rfl⟩
  have eL : (Instr.lookup 167 (.map (some mb)) (.int .u8 (k : Int)) true).run Tryz.prog M8 = .ok (.tuple #[pv, .bool pb]) M8 := by
    rw [← hpv, ← hpb', ← hpb]; exact eL0
  have HPV := Lib.hid hpv
  have HPB := Lib.hid hpb'
  have HI8 := Lib.hid I8
  have HMB := Lib.hid hmb

  clear eL0 hpv hpb hpb' hW0 I0 I1 I2 I3 I4 I5 I6 I7 I8 K1 K2 K3 K4 K5 K6 K7 K8 KK1 KK2 KK3 KK4 KK5 KK6 KK7 KK8
  go_wp2_with fail
  go_ret2
  have HI := HI8.out
  have hM8 : ∀ j, j < mb → M8.heap[j]? = W0.heap[j]? := fun j hj => HI.kp hj
  have hbel : Below w.heap.size w M8 := HL0.out.trans (HI.bel.mono (by omega))
  have FF : ∀ {a kk lo hi}, FieldC W0 a kk lo hi → FieldC M8 a kk lo hi := fun h => h.on HI.bel (by omega)
  have fC : FieldsAt w.heap.size M8 (.slice (some ⟨w6.heap.size, 0, none⟩) 6 6) [.car, .fl, .we, .va, .st, .no] := by
    have r := (hM8 w6.heap.size (by omega)).trans F12.out
    refine ⟨w6.heap.size, rfl, by omega, fun i f hf => ?_⟩
    match i, hf with
    | 0, hf => cases hf; exact ⟨_, _, cell_of_row M8 _ 0 _ _ _ r, cell_of_row M8 _ 1 _ _ _ r, a1, by omega, rfl, rfl, FF FC1.out⟩
    | 1, hf => cases hf; exact ⟨_, _, cell_of_row M8 _ 2 _ _ _ r, cell_of_row M8 _ 3 _ _ _ r, a2, by omega, rfl, rfl, FF FC2.out⟩
    | 2, hf => cases hf; exact ⟨_, _, cell_of_row M8 _ 4 _ _ _ r, cell_of_row M8 _ 5 _ _ _ r, a3, by omega, rfl, rfl, FF FC3.out⟩
    | 3, hf => cases hf; exact ⟨_, _, cell_of_row M8 _ 6 _ _ _ r, cell_of_row M8 _ 7 _ _ _ r, a4, by omega, rfl, rfl, FF FC4.out⟩
    | 4, hf => cases hf; exact ⟨_, _, cell_of_row M8 _ 8 _ _ _ r, cell_of_row M8 _ 9 _ _ _ r, a5, by omega, rfl, rfl, FF FC5.out⟩
    | 5, hf => cases hf; exact ⟨_, _, cell_of_row M8 _ 10 _ _ _ r, cell_of_row M8 _ 11 _ _ _ r, a6, by omega, rfl, rfl, FF FC6.out⟩
    | i + 6, hf => simp at hf
  have fA : FieldsAt w.heap.size M8 (.slice (some ⟨w7.heap.size, 0, none⟩) 1 1) [.am] := by
    have r := (hM8 w7.heap.size (by omega)).trans FA.out
    refine ⟨w7.heap.size, rfl, by omega, fun i f hf => ?_⟩
    match i, hf with
    | 0, hf => cases hf; exact ⟨_, _, cell_of_row M8 _ 0 _ _ _ r, cell_of_row M8 _ 1 _ _ _ r, a7, by omega, rfl, rfl, FF FC7.out⟩
    | i + 1, hf => simp at hf
  have fO : FieldsAt w.heap.size M8 (.slice (some ⟨w8.heap.size, 0, none⟩) 1 1) [.co] := by
    have r := (hM8 w8.heap.size (by omega)).trans FO.out
    refine ⟨w8.heap.size, rfl, by omega, fun i f hf => ?_⟩
    match i, hf with
    | 0, hf => cases hf; exact ⟨_, _, cell_of_row M8 _ 0 _ _ _ r, cell_of_row M8 _ 1 _ _ _ r, a8, by omega, rfl, rfl, FF FC8.out⟩
    | i + 1, hf => simp at hf
  have one : ∀ (b : Nat) (tg : Str) (st : ByteArray) (fv : Value) (fs : List FK) (ty : TypeId), (⟨tg.toArray⟩ : ByteArray) = st → w.heap.size ≤ b → M8.heap[b]? = some (.cells #[.string st, fv] ty (0, 0)) → FieldsAt w.heap.size M8 fv fs → PartsAt w.heap.size M8 (.slice (some ⟨b, 0, none⟩) 1 1) [(tg, fs)] := fun b tg st fv fs ty hst hb hr hf => by
    refine .inr ⟨b, rfl, hb, fun i p hp => ?_⟩
    match i, hp with
    | 0, hp => cases hp; exact ⟨fv, by rw [cell_of_row M8 _ 0 _ _ _ hr]; unfold sv; rw [hst]; rfl, cell_of_row M8 _ 1 _ _ _ hr, hf⟩
    | i + 1, hp => simp at hp
  refine ⟨pv, by rw [HPB.out]; rfl, fun h hh => ?_, hbel⟩
  have hk := hasK_cases hh
  have hkk : k = 1 ∨ k = 2 ∨ k = 3 ∨ k = 4 ∨ k = 5 ∨ k = 6 ∨ k = 7 ∨ k = 8 := by
    have : k ≠ 0 := fun e => by subst e; cases hh
    omega
  have hv := HPV.out
  rcases hkk with rfl | rfl | rfl | rfl | rfl | rfl | rfl | rfl
  · cases hh; rw [← hv]; exact .inl ⟨rfl, rfl⟩
  · cases hh; rw [← hv]; exact one _ tCPN _ _ _ _ rfl (by omega) G2.out fC
  · cases hh; rw [← hv]; exact one _ tCOD _ _ _ _ rfl (by omega) G3.out fO
  · cases hh; rw [← hv]; exact .inl ⟨rfl, rfl⟩
  · cases hh; rw [← hv]; exact one _ tCPN _ _ _ _ rfl (by omega) G5.out fC
  · cases hh; rw [← hv]; exact one _ tAMT _ _ _ _ rfl (by omega) G6.out fA
  · cases hh; rw [← hv]; exact one _ tAMT _ _ _ _ rfl (by omega) G7.out fA
  · cases hh
    rw [← hv]
    refine .inr ⟨M7.heap.size, rfl, by omega, fun i p hp => ?_⟩
    match i, hp with
    | 0, hp => cases hp; exact ⟨_, cell_of_row M8 _ 0 _ _ _ G8.out, cell_of_row M8 _ 1 _ _ _ G8.out, fA⟩
    | 1, hp => cases hp; exact ⟨_, cell_of_row M8 _ 2 _ _ _ G8.out, cell_of_row M8 _ 3 _ _ _ G8.out, fO⟩
    | i + 2, hp => simp [partF] at hp
end Go.Proofs.YtgfijlamhjjecaaGreatDoor


namespace Go.Proofs.YtgfijlamhjjecaaGreatDoor
open Go.RowKit
def eqM (m m' : MD) : Bool := decide (m.kind = m'.kind ∧ m.tc = m'.tc ∧ m.ts = m'.ts ∧ m.pl = m'.pl ∧ m.c.car = m'.c.car ∧ m.c.fl = m'.c.fl ∧ m.c.we = m'.c.we ∧ m.c.va = m'.c.va ∧ m.c.st = m'.c.st ∧ m.c.no = m'.c.no ∧ m.am = m'.am ∧ m.co = m'.co)
def eqP (p p' : PD) : Bool := decide (p.fr = p'.fr ∧ p.dst = p'.dst ∧ p.ack = p'.ack ∧ p.num = p'.num) && eqM p.m p'.m
theorem eqM_iff {m m' : MD} : eqM m m' = true ↔ m = m' := by
  obtain ⟨k, tc, ts, pl, ⟨c1, c2, c3, c4, c5, c6⟩, am, co⟩ := m
  obtain ⟨k', tc', ts', pl', ⟨d1, d2, d3, d4, d5, d6⟩, am', co'⟩ := m'
  unfold eqM
  simp [and_assoc]
theorem eqP_iff {p p' : PD} : eqP p p' = true ↔ p = p' := by
  obtain ⟨a, b, c, d, m⟩ := p
  obtain ⟨a', b', c', d', m'⟩ := p'
  unfold eqP
  rw [Bool.and_eq_true, eqM_iff]
  simp [and_assoc]
theorem ite_chain {q : Prop} [Decidable q] {c : Bool} {w : World} : (if q then Result.ok c w else Result.ok false w) = .ok (decide q && c) w := by
  by_cases h : q <;> simp [h]
set_option maxRecDepth 100000 in
set_option maxHeartbeats 4000000 in
theorem eqIn_msg (m m' : MD) (w : World) (d : Nat) : (Op.equalIn (d + 4) 36 (.agg (msgA m).toArray) (.agg (msgA m').toArray)).run Tryz.prog w = .ok (eqM m m') w := by
  unfold msgA eqM
  go_simp
  simp only [ite_chain, Int.natCast_inj, Bool.and_true]
theorem neq_msg (m m' : MD) (w : World) : (binOp .neq 36 (.agg (msgA m).toArray) (.agg (msgA m').toArray)).run Tryz.prog w = .ok (.bool (!eqM m m')) w := by
  rw [run_neq_struct, eqIn_msg m m' w 9996]; rfl
set_option maxRecDepth 100000 in
set_option maxHeartbeats 4000000 in
theorem eqIn_pkt (p p' : PD) (w : World) (d : Nat) : (Op.equalIn (d + 5) 38 (.agg (pktA p).toArray) (.agg (pktA p').toArray)).run Tryz.prog w = .ok (eqP p p') w := by
  unfold pktA msgA eqP eqM
  simp only [List.cons_append, List.nil_append]
  go_simp
  simp only [ite_chain, Int.natCast_inj, Bool.and_true, Bool.and_assoc]
theorem eql_pkt (p p' : PD) (w : World) : (binOp .eql 38 (.agg (pktA p).toArray) (.agg (pktA p').toArray)).run Tryz.prog w = .ok (.bool (eqP p p')) w := by
  rw [run_eql_struct, eqIn_pkt p p' w 9995]; rfl
end Go.Proofs.YtgfijlamhjjecaaGreatDoor

