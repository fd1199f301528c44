/-
  Jour11: the four steps of Add: contracts of its closures. No condition beyond those stated.
-/
import Derived.Test.YtgfdbjeliojhkaaJour10
namespace Go.Proofs.Ytgfdbjeliojhkaa
open Go.RowKit
/-- the disk behind a Sync -/
def DK.synced (D : DK) : DK := { D.burn with L := D.now, M := fun _ => none }
/-- what the first closure reads -/
structure Add1At (w : World) (x2 x6 x7 jb db first : Nat) (m : Nat) (f : Sec) : Prop where
  c2 : w.cell? ⟨x2, 0, none⟩ = some (.pointer (some ⟨jb, 0, none⟩))
  cj : w.cell? ⟨jb, 0, none⟩ = some (.pointer (some ⟨db, 0, none⟩))
  c6 : w.cell? ⟨x6, 0, none⟩ = some (.int .i64 (first : Int))
  c7 : ∃ b cap, w.cell? ⟨x7, 0, none⟩ = some (.slice (some ⟨b, 0, none⟩) (64 * (first + m)) cap) ∧ 64 * (first + m) ≤ cap ∧ cap ≤ maxLen ∧ w.rangeAt b 0 (rowL (64 * (first + m)) f) ∧ ∃ C t, w.heap[b]? = some (.cells C t (0, 0)) ∧ t ≠ 66 ∧ t ≠ 69
theorem Add1At.ne {w : World} {db lb mb : Nat} {D : DK} {b : Nat} {C : Array Value} {t : TypeId} (h : DiskAt w db lb mb D) (hb : w.heap[b]? = some (.cells C t (0, 0))) (h1 : t ≠ 66) (h2 : t ≠ 69) : b ≠ db ∧ b ≠ lb ∧ b ≠ mb := by
  refine ⟨fun e => ?_, fun e => ?_, fun e => ?_⟩
  · subst e; have h3 := h.d; rw [hb] at h3; have h4 := Option.some.inj h3; injection h4 with _ h5; exact h1 h5
  · subst e; have h3 := h.l; rw [hb] at h3; have h4 := Option.some.inj h3; injection h4 with _ h5; exact h2 h5
  · subst e; obtain ⟨l, c, h3, _⟩ := h.m; rw [hb] at h3; cases h3
set_option maxRecDepth 100000 in
set_option maxHeartbeats 2000000 in
theorem add1_ok {x2 x6 x7 jb db lb mb first m : Nat} {f : Sec} {D : DK} (w : World) (ha : Add1At w x2 x6 x7 jb db first m f) (h : DiskAt w db lb mb D) (hd : D.dead = false) (hn : 2 + first + m ≤ D.n) (h0 : D.fuse ≠ 0) :
    Calls Try.prog 45 #[.pointer (some ⟨x2, 0, none⟩), .pointer (some ⟨x6, 0, none⟩), .pointer (some ⟨x7, 0, none⟩)] w fun e w' => e = .returned (.int .i64 0) ∧ DiskAt w' db lb mb (D.burn.write (2 + first) m fun j => f (first * 64 + j)) ∧ Fr [db, mb] w w' := by
  obtain ⟨c2, cj, c6, b, cap, c7, hc1, hc2, hr, C, t, hb, ht1, ht2⟩ := ha
  have hne := Add1At.ne h hb ht1 ht2
  have HNE := Lib.hid hne
  have n2 := h.n2
  have H := Lib.hid (show DiskAt w.drew db lb mb D from h.cong rfl rfl rfl)
  have HD := Lib.hid hd
  have H0 := Lib.hid h0
  have HBY := Lib.hid (bytes_slPt (w := w.drew) (cap := cap) (len := 64 * (first + m)) (show w.drew.rangeAt b 0 (rowL (64 * (first + m)) f) from hr) (first * 64) (64 * m) (by omega) hc1 hc2)
  have hw1 : IntKind.i64.wrap (2 + (first : Int)) = ((2 + first : Nat) : Int) := by rw [IntWalk.i64_in _ (by omega)]; omega
  have hw2 : IntKind.i64.wrap ((first : Int) * 64) = ((first * 64 : Nat) : Int) := by rw [IntWalk.i64_in _ (by omega)]; omega
  have HL := Lib.hid (show 64 * (first + m) - first * 64 = 64 * m by omega)
  clear h hd h0 hr hb ht1 ht2 hne
  go_enter Try.func45, Try.ntmps45
  go_wp2_with fail
  refine wp_region_still_tail 10 (by kernel_rfl) (by kernel_rfl) ?_
  simp only [List.take_succ_cons, List.take_zero, List.drop_succ_cons, List.drop_zero]
  iterate 9 still_step
  refine wpStill_val rfl (exec_slice_l (k := first * 64) rfl rfl rfl (by omega) Try.underlying31 isz_u8) ?_
  refine wpStill_nil ?_
  change wpList _ _ _ _ _ w.drew
  simp only [Act.put, List.setIfInBounds_toArray, List.set_cons_zero, List.set_cons_succ]
  rw [HL.out, show (2 : Int) + (first : Int) = ((2 + first : Nat) : Int) by omega]
  clear hw1 hw2
  go_wp2_with fail
  refine (write_ok (2 + first) m _ _ w.drew H.out HBY.out (fun hm k hk => by rw [slPt_own] at hk; cases hk; exact ⟨HNE.out.1, HNE.out.2.2⟩) HD.out hn H0.out).mono ?_
  rintro e w2 ⟨rfl, hd2, hf2⟩
  have HD2 := Lib.hid hd2
  have HF2 := Lib.hid hf2
  clear hd2 hf2
  go_wp2_with fail
  go_ret
  exact ⟨rfl, HD2.out, (Fr.drew _ _).trans HF2.out⟩
set_option maxRecDepth 100000 in
set_option maxHeartbeats 2000000 in
theorem add1_dead {x2 x6 x7 jb db lb mb first m : Nat} {f : Sec} {D : DK} (w : World) (ha : Add1At w x2 x6 x7 jb db first m f) (h : DiskAt w db lb mb D) (hd : D.dead = false) (hn : 2 + first + m ≤ D.n) (h0 : D.fuse = 0) :
    Calls Try.prog 45 #[.pointer (some ⟨x2, 0, none⟩), .pointer (some ⟨x6, 0, none⟩), .pointer (some ⟨x7, 0, none⟩)] w fun e w' => e = .returned (.int .i64 120) ∧ DiskAt w' db lb mb { D with dead := true } ∧ Fr [db] w w' := by
  obtain ⟨c2, cj, c6, b, cap, c7, hc1, hc2, hr, C, t, hb, ht1, ht2⟩ := ha
  have hne := Add1At.ne h hb ht1 ht2
  have HNE := Lib.hid hne
  have n2 := h.n2
  have H := Lib.hid (show DiskAt w.drew db lb mb D from h.cong rfl rfl rfl)
  have HD := Lib.hid hd
  have H0 := Lib.hid h0
  have HBY := Lib.hid (bytes_slPt (w := w.drew) (cap := cap) (len := 64 * (first + m)) (show w.drew.rangeAt b 0 (rowL (64 * (first + m)) f) from hr) (first * 64) (64 * m) (by omega) hc1 hc2)
  have hw1 : IntKind.i64.wrap (2 + (first : Int)) = ((2 + first : Nat) : Int) := by rw [IntWalk.i64_in _ (by omega)]; omega
  have hw2 : IntKind.i64.wrap ((first : Int) * 64) = ((first * 64 : Nat) : Int) := by rw [IntWalk.i64_in _ (by omega)]; omega
  have HL := Lib.hid (show 64 * (first + m) - first * 64 = 64 * m by omega)
  clear h hd h0 hr hb ht1 ht2 hne
  go_enter Try.func45, Try.ntmps45
  go_wp2_with fail
  refine wp_region_still_tail 10 (by kernel_rfl) (by kernel_rfl) ?_
  simp only [List.take_succ_cons, List.take_zero, List.drop_succ_cons, List.drop_zero]
  iterate 9 still_step
  refine wpStill_val rfl (exec_slice_l (k := first * 64) rfl rfl rfl (by omega) Try.underlying31 isz_u8) ?_
  refine wpStill_nil ?_
  change wpList _ _ _ _ _ w.drew
  simp only [Act.put, List.setIfInBounds_toArray, List.set_cons_zero, List.set_cons_succ]
  rw [HL.out, show (2 : Int) + (first : Int) = ((2 + first : Nat) : Int) by omega]
  clear hw1 hw2
  go_wp2_with fail
  refine (write_dead (2 + first) m _ _ _ (by unfold maxLen at hc2 ⊢; omega) w.drew H.out rfl HD.out hn H0.out).mono ?_
  rintro e w2 ⟨rfl, hd2, hf2⟩
  have HD2 := Lib.hid hd2
  have HF2 := Lib.hid hf2
  clear hd2 hf2
  go_wp2_with fail
  go_ret
  exact ⟨rfl, HD2.out, (Fr.drew _ _).trans HF2.out⟩
set_option maxRecDepth 100000 in
set_option maxHeartbeats 2000000 in
theorem add2_ok {x2 x8 jb db lb mb N : Nat} {f : Sec} {D : DK} (w : World) (c2 : w.cell? ⟨x2, 0, none⟩ = some (.pointer (some ⟨jb, 0, none⟩))) (cj : w.cell? ⟨jb, 0, none⟩ = some (.pointer (some ⟨db, 0, none⟩))) (cn : w.cell? ⟨jb, 1, none⟩ = some (.int .u64 (N : Int)))
    (h8 : w.heap[x8]? = some (.cells (rowA 64 f) 88 (0, 0))) (hN : N + 1 < 2 ^ 64) (h : DiskAt w db lb mb D) (hd : D.dead = false) (hn : 2 ≤ D.n) (h0 : D.fuse ≠ 0) :
    Calls Try.prog 46 #[.pointer (some ⟨x2, 0, none⟩), .pointer (some ⟨x8, 0, none⟩)] w fun e w' => e = .returned (.int .i64 0) ∧ DiskAt w' db lb mb (D.burn.write ((N + 1) % 2) 1 f) ∧ Fr [db, mb] w w' := by
  have hne := Add1At.ne h h8 (by decide) (by decide)
  have HNE := Lib.hid hne
  have H := Lib.hid (show DiskAt w.drew db lb mb D from h.cong rfl rfl rfl)
  have HD := Lib.hid hd
  have H0 := Lib.hid h0
  have HBY := Lib.hid (show BytesAt w.drew (.slice (some ⟨x8, 0, none⟩) 64 64) (64 * 1) f from ⟨_, 64, rfl, by omega, by unfold maxLen; omega, (fun e => by cases e), fun _ => ⟨x8, 0, rfl, rangeAt_row0 (w := w.drew) h8⟩⟩)
  obtain ⟨q, hq⟩ : ∃ q, (N + 1) % 2 = q := ⟨_, rfl⟩
  have hq2 : q < 2 := by omega
  have hw1 : IntKind.u64.wrap ((N : Int) + 1) = (N : Int) + 1 := by simp [IntKind.wrap, IntKind.bits, IntKind.signed]; omega
  have ht : ((N : Int) + 1).tmod 2 = (q : Int) := by rw [Int.tmod_eq_emod_of_nonneg (by omega)]; omega
  have he : ((N : Int) + 1) % 2 = (q : Int) := by omega
  have hw3 : IntKind.i64.wrap (q : Int) = (q : Int) := IntWalk.i64_in _ (by omega)
  have HQ := Lib.hid hq
  clear h hd h0 h8 hne hN hq
  go_enter Try.func46, Try.ntmps46
  go_wp2_with fail
  refine wp_region_still_tail 12 (by kernel_rfl) (by kernel_rfl) ?_
  simp only [List.take_succ_cons, List.take_zero, List.drop_succ_cons, List.drop_zero]
  iterate 12 still_step
  refine wpStill_nil ?_
  change wpList _ _ _ _ _ w.drew
  clear hw1 hw3 ht he
  go_wp2_with fail
  refine (write_ok q 1 _ _ w.drew H.out HBY.out (fun hm k hk => by cases hk; exact ⟨HNE.out.1, HNE.out.2.2⟩) HD.out (by omega) H0.out).mono ?_
  rintro e w2 ⟨rfl, hd2, hf2⟩
  have HD2 := Lib.hid hd2
  have HF2 := Lib.hid hf2
  clear hd2 hf2
  go_wp2_with fail
  go_ret
  exact ⟨rfl, by rw [HQ.out]; exact HD2.out, (Fr.drew _ _).trans HF2.out⟩
set_option maxRecDepth 100000 in
set_option maxHeartbeats 2000000 in
theorem add2_dead {x2 x8 jb db lb mb N : Nat} {f : Sec} {D : DK} (w : World) (c2 : w.cell? ⟨x2, 0, none⟩ = some (.pointer (some ⟨jb, 0, none⟩))) (cj : w.cell? ⟨jb, 0, none⟩ = some (.pointer (some ⟨db, 0, none⟩))) (cn : w.cell? ⟨jb, 1, none⟩ = some (.int .u64 (N : Int)))
    (h8 : w.heap[x8]? = some (.cells (rowA 64 f) 88 (0, 0))) (hN : N + 1 < 2 ^ 64) (h : DiskAt w db lb mb D) (hd : D.dead = false) (hn : 2 ≤ D.n) (h0 : D.fuse = 0) :
    Calls Try.prog 46 #[.pointer (some ⟨x2, 0, none⟩), .pointer (some ⟨x8, 0, none⟩)] w fun e w' => e = .returned (.int .i64 120) ∧ DiskAt w' db lb mb { D with dead := true } ∧ Fr [db] w w' := by
  have hne := Add1At.ne h h8 (by decide) (by decide)
  have HNE := Lib.hid hne
  have H := Lib.hid (show DiskAt w.drew db lb mb D from h.cong rfl rfl rfl)
  have HD := Lib.hid hd
  have H0 := Lib.hid h0
  have HBY := Lib.hid (show BytesAt w.drew (.slice (some ⟨x8, 0, none⟩) 64 64) (64 * 1) f from ⟨_, 64, rfl, by omega, by unfold maxLen; omega, (fun e => by cases e), fun _ => ⟨x8, 0, rfl, rangeAt_row0 (w := w.drew) h8⟩⟩)
  obtain ⟨q, hq⟩ : ∃ q, (N + 1) % 2 = q := ⟨_, rfl⟩
  have hq2 : q < 2 := by omega
  have hw1 : IntKind.u64.wrap ((N : Int) + 1) = (N : Int) + 1 := by simp [IntKind.wrap, IntKind.bits, IntKind.signed]; omega
  have ht : ((N : Int) + 1).tmod 2 = (q : Int) := by rw [Int.tmod_eq_emod_of_nonneg (by omega)]; omega
  have he : ((N : Int) + 1) % 2 = (q : Int) := by omega
  have hw3 : IntKind.i64.wrap (q : Int) = (q : Int) := IntWalk.i64_in _ (by omega)
  have HQ := Lib.hid hq
  clear h hd h0 h8 hne hN hq
  go_enter Try.func46, Try.ntmps46
  go_wp2_with fail
  refine wp_region_still_tail 12 (by kernel_rfl) (by kernel_rfl) ?_
  simp only [List.take_succ_cons, List.take_zero, List.drop_succ_cons, List.drop_zero]
  iterate 12 still_step
  refine wpStill_nil ?_
  change wpList _ _ _ _ _ w.drew
  clear hw1 hw3 ht he
  go_wp2_with fail
  refine (write_dead q 1 _ _ _ (by unfold maxLen; omega) w.drew H.out rfl HD.out (by omega) H0.out).mono ?_
  rintro e w2 ⟨rfl, hd2, hf2⟩
  have HD2 := Lib.hid hd2
  have HF2 := Lib.hid hf2
  clear hd2 hf2
  go_wp2_with fail
  go_ret
  exact ⟨rfl, HD2.out, (Fr.drew _ _).trans HF2.out⟩
end Go.Proofs.Ytgfdbjeliojhkaa
