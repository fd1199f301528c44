/-
  Disk5: contract of Sync. No condition.
-/
import Derived.Test.YtgfdbjeliojhkaaDisk4
namespace Go.Proofs.Ytgfdbjeliojhkaa
open Go.RowKit Go.Shelf

attribute [local go_sem] Oper.semAt_some

theorem burn_M (D : DK) : D.burn.M = D.M := by unfold DK.burn; split <;> (try split) <;> rfl
theorem burn_L (D : DK) : D.burn.L = D.L := by unfold DK.burn; split <;> (try split) <;> rfl
theorem burn_dead {D : DK} (h0 : D.fuse ≠ 0) : D.burn.dead = D.dead := by unfold DK.burn; rw [if_neg h0]; split <;> rfl
theorem burn_now (D : DK) : D.burn.now = D.now := by unfold DK.now; rw [burn_M, burn_L]

/-- the sectors when these have been laid -/
def synL (D : DK) (pre : List (WI D)) : Sec := fun j => if pre.any (fun x => x.1 == j / 64) = true then ((D.M (j / 64)).getD fun _ => 0) (j % 64) else D.L j
theorem synL_nil (D : DK) : synL D [] = D.L := by funext j; simp [synL]
theorem synL_snoc (D : DK) (pre : List (WI D)) (x : WI D) : splF (synL D pre) (x.1 * 64) 64 (secW D x) = synL D (pre ++ [x]) := by
  funext j
  simp only [splF, synL, List.any_append, List.any_cons, List.any_nil, Bool.or_false]
  by_cases h : x.1 = j / 64
  · rw [if_pos (by omega), if_pos (by simp [h])]
    simp only [secW, h]
    rw [show j - j / 64 * 64 = j % 64 by omega]
  · rw [if_neg (by omega)]
    have : (x.1 == j / 64) = false := by simp [h]
    rw [this, Bool.or_false]
theorem wl_any (D : DK) (i : Nat) : ∀ k, (wl D k).any (fun x => x.1 == i) = (decide (i < k) && decide (i < D.n) && (D.M i).isSome)
  | 0 => by simp [wl]
  | k + 1 => by
    simp only [wl, List.any_append, wl_any D i k]
    by_cases hk : k < D.n ∧ (D.M k).isSome = true
    · rw [dif_pos hk]
      by_cases e : k = i
      · subst e; simp [hk]
      · have h1 : (k == i) = false := by simp [e]
        have h2 : decide (i < k + 1) = decide (i < k) := by rw [decide_eq_decide]; omega
        simp [h1, h2]
    · rw [dif_neg hk]
      by_cases e : k = i
      · subst e
        have : (decide (k < D.n) && (D.M k).isSome) = false := by
          cases h1 : decide (k < D.n) <;> simp_all
        simp [this]
      · have h2 : decide (i < k + 1) = decide (i < k) := by rw [decide_eq_decide]; omega
        simp [h2]
theorem synL_all (D : DK) (j : Nat) (hj : j < 64 * D.n) : synL D (wl D D.n) j = D.now j := by
  simp only [synL, wl_any]
  have h1 : decide (j / 64 < D.n) = true := by simp; omega
  simp only [h1, Bool.true_and, DK.now]
  cases h : D.M (j / 64) <;> simp
theorem sync_nil (w : World) : Calls Try.prog 19 #[.pointer none] w fun e w' => e = .returned (.int .i64 8) ∧ Fr [] w w' := by
  go_enter Try.func19, Try.ntmps19
  go_wp2_with (go_at_call 34; refine (may_nil _ _ _).mono ?_; rintro e w' ⟨rfl, rfl⟩)
  go_ret
  exact ⟨rfl, Fr.alloc _ _ _⟩
theorem sync_dead {db lb mb : Nat} {D : DK} (w : World) (h : DiskAt w db lb mb D) (hd : D.dead = true) :
    Calls Try.prog 19 #[.pointer (some ⟨db, 0, none⟩)] w fun e w' => e = .returned (.int .i64 120) ∧ Fr [] w w' := by
  have hE : mayE D 0 0 = 120 := by simp [mayE, hd]
  have HE := Lib.hid hE
  have H := Lib.hid (h.fr0 (Fr.alloc [] w (.cells #[.pointer (some ⟨db, 0, none⟩)] 25)))
  clear h hE hd
  go_enter Try.func19, Try.ntmps19
  go_wp2_with (go_at_call 34; refine (may_some _ _ _ H.out (by omega) (by omega)).mono ?_; rw [HE.out]; rintro e w' ⟨rfl, rfl⟩)
  go_ret
  exact ⟨rfl, Fr.alloc _ _ _⟩
theorem sync_burnt {db lb mb : Nat} {D : DK} (w : World) (h : DiskAt w db lb mb D) (hd : D.dead = false) (h0 : D.fuse = 0) :
    Calls Try.prog 19 #[.pointer (some ⟨db, 0, none⟩)] w fun e w' => e = .returned (.int .i64 120) ∧ DiskAt w' db lb mb { D with dead := true } ∧ Fr [db] w w' := by
  have n1 := h.n1
  have hE : mayE D 0 0 = 0 := by simp only [mayE, hd]; rw [if_neg (by simp), if_neg (by omega)]
  have hB : burnE D = 120 := by simp [burnE, h0]
  have hD : D.burn = { D with dead := true } := by simp [DK.burn, h0]
  have HE := Lib.hid hE
  have HB := Lib.hid hB
  have HD := Lib.hid hD
  have H := Lib.hid (h.fr0 (Fr.alloc [] w (.cells #[.pointer (some ⟨db, 0, none⟩)] 25)))
  clear h hE hB hD hd h0 n1
  go_enter Try.func19, Try.ntmps19
  go_wp2_with (first
    | (go_at_call 34; refine (may_some _ _ _ H.out (by omega) (by omega)).mono ?_; rw [HE.out]; rintro e w' ⟨rfl, rfl⟩)
    | (go_at_call 35; refine (burn_any _ H.out).mono ?_; rw [HB.out, HD.out]; rintro e w' ⟨rfl, hd1, hf1⟩))
  go_ret
  exact ⟨rfl, hd1, (Fr.alloc _ _ _).trans hf1⟩

set_option maxRecDepth 100000 in
set_option maxHeartbeats 2000000 in
theorem sync_ok {db lb mb : Nat} {D : DK} (w : World) (h : DiskAt w db lb mb D) (hd : D.dead = false) (h0 : D.fuse ≠ 0) :
    Calls Try.prog 19 #[.pointer (some ⟨db, 0, none⟩)] w fun e w' => e = .returned (.int .i64 0) ∧ DiskAt w' db lb mb { D.burn with L := D.now, M := fun _ => none } ∧ Fr [db, lb, mb] w w' := by
  have n1 := h.n1
  have hE : mayE D 0 0 = 0 := by simp only [mayE, hd]; rw [if_neg (by simp), if_neg (by omega)]
  have hB : burnE D = 0 := by simp [burnE, h0]
  have HE := Lib.hid hE
  have HB := Lib.hid hB
  have H := Lib.hid (h.fr0 (Fr.alloc [] w (.cells #[.pointer (some ⟨db, 0, none⟩)] 25)))
  have hsz := h.db_lt
  have hsz2 := h.lb_lt
  have hsz3 := h.mb_lt
  clear h hE hB hd h0 n1
  refine (callsIn_wide (n := 10)).1 ?_
  refine callsIn_of_wp_marks Try.func19 rfl trivial ?_ rfl
  simp only [Try.ntmps19, List.size_toArray, List.length_cons, List.length_nil, Nat.reduceAdd, Nat.reduceSub, Array.replicate_succ, Array.replicate_zero, List.push_toArray, List.append_toArray, List.nil_append, List.cons_append]
  have hfn : ∀ f, Fence.wide.fn f := fun _ => trivial
  gi_wp2_with (first
    | (gi_at_call 34; refine (callsIn_wide.2 (may_some _ _ _ H.out (by omega) (by omega))).mono ?_; rw [HE.out]; rintro e w' ⟨rfl, rfl⟩)
    | (gi_at_call 35; refine (callsIn_wide.2 (burn_any _ H.out)).mono ?_; rw [HB.out]; rintro e w1 ⟨rfl, hd1, hf1⟩; have cb : w1.cell? ⟨w.heap.size, 0, none⟩ = some (.pointer (some ⟨db, 0, none⟩)) := (World.cell?_of_block (a := ⟨w.heap.size, 0, none⟩) (hf1.block w.heap.size (by simp) (by simp; omega))).trans (by simp))
    | (gi_at_call 36; refine (sectors_in _ db _).mono ?_; rintro e w2 ⟨rfl, rfl⟩))
  have hs1 := hf1.size
  simp only [World.size_alloc] at hs1
  have hk := hd1
  have hIt : ItAt (w1.alloc (.cells #[.pointer (some ⟨db, 0, none⟩)] 25)) w1.heap.size db lb mb D.burn :=
    ⟨hk.n2, heap_alloc_new _ _, (Below.heap_alloc _ _ _ hk.db_lt).trans hk.d, hk.m.congrB (Below.heap_alloc _ _ _ hk.mb_lt)⟩
  have hbox : (w1.alloc (.cells #[.pointer (some ⟨db, 0, none⟩)] 25)).heap[w.heap.size]? = some (.cells #[.pointer (some ⟨db, 0, none⟩)] 25 (0, 0)) :=
    (Below.heap_alloc _ _ _ (by omega)).trans ((hf1.block w.heap.size (by simp) (by simp; omega)).trans (heap_alloc_new _ _))
  obtain ⟨w2, hw2⟩ : ∃ w2, w1.alloc (.cells #[.pointer (some ⟨db, 0, none⟩)] 25) = w2 := ⟨_, rfl⟩
  have hs2 : w2.heap.size = w1.heap.size + 1 := by rw [← hw2]; simp
  have hd2 : DiskAt w2 db lb mb D.burn := by rw [← hw2]; exact hd1.fr0 (Fr.alloc _ _ _)
  have hf2 : Fr [] w1 w2 := by rw [← hw2]; exact Fr.alloc _ _ _
  rw [hw2] at hIt hbox ⊢
  clear hw2
  have k1 := hd2.db_lt
  have k2 := hd2.lb_lt
  have k3 := hd2.mb_lt
  have n1 := hd2.ne1
  have n2 := hd2.ne2
  have n3 := hd2.ne3
  have hl1 := hd1.lb_lt
  refine wpIn_rangeFunc_ownH rfl (by omega) (gf := 47) (lb := #[.pointer (some ⟨w1.heap.size, 0, none⟩)]) rfl trivial (enters_of Try.func47 (by kernel_rfl) rfl)
    (sectors1_stops (10 - 1) (by omega) w1.heap.size db lb mb D.burn w2 hIt) (fun h k => h.trans k) (fun W l o o' hl ho _ _ => ?kb) (Below.refl _ _) (fun _ => rfl)
    (fun pre W => W.heap[lb]? = some (.cells (rowA (64 * D.burn.n) (synL D.burn pre)) 69 (0, 0)) ∧ Fr [lb] w2 W) (fun _ _ _ => False)
    (OwnFrom.and (ownFrom_cells (fun pre => Obj.cells (rowA (64 * D.burn.n) (synL D.burn pre)) 69 (0, 0)) k2) (ownFrom_fr (Nat.le_refl _))) (fun _ _ _ _ _ hs _ _ => hs)
    ⟨by rw [synL_nil]; exact hd2.l, Fr.refl _ _⟩
    (fun x a' W => ∃ Bx, w2.heap.size ≤ Bx ∧ W.heap[Bx]? = some (.cells (rowA 64 (secW D.burn x)) 69 (0, 0)) ∧ a' = { tmps := #[.pointer (some ⟨db, 0, none⟩), .pointer (some ⟨w.heap.size, 0, none⟩), .int .i64 0, .int .i64 0, .int .i64 0, .int .i64 (x.1 : Int), .pointer (some ⟨Bx, 0, none⟩), .pointer (some ⟨db, 0, none⟩), .int .i64 0, .int .i64 0,
          .bool false, undef, .pointer (some ⟨db, 0, none⟩), .int .i64 0, .int .i64 0, .bool false, undef, .pointer (some ⟨db, 0, none⟩),
          .func (.func 47) #[] #[.pointer (some ⟨w1.heap.size, 0, none⟩)], .int .i64 (x.1 : Int), .agg (rowA 64 (secW D.burn x)), undef, undef, undef, undef, undef, undef, undef, undef, undef, undef, undef], defers := [] })
    (fun x a' _ X Y row hs hg hr => ?ax) ?assign ?body ?done ?stop
  case kb => exact ⟨putObj_other (by omega) _, putObj_other (by omega) _, putObj_other (by omega) _, by rw [putObj_size]; exact Nat.le_refl _⟩
  case ax =>
    obtain ⟨Bx, h1, h2, h3⟩ := hs
    refine ⟨Bx, h1, (hg.block Bx (Array.getElem?_eq_some_iff.1 h2).1 (fun e => ?_)).trans h2, h3⟩
    obtain ⟨_, o, ho, hc⟩ := hr Bx e.symm
    rw [h2] at ho; cases ho; cases hc
  case assign =>
    rintro l pre x W K ⟨hl, hfr⟩ hK
    have HL := Lib.hid hl
    have HF := Lib.hid hfr
    have HK := Lib.hid hK
    clear hl hfr hK
    simp only [encW]
    gi_wp2_with (first
      | ((with_reducible refine wpListIn_at (.alloc 69) rfl ?_); refine wpListIn_valG (fun _ => trivial) rfl (nd_of rfl (fun c h => by cases h)) (exec_alloc_arr 69 rfl 64 (fun _ => 0) zero_sector) ?_)
      | ((with_reducible refine wpListIn_at (.store 69 (.tmp 6) (.tmp 20)) rfl ?_); refine wpListIn_skipG (fun _ => trivial) rfl (nd_of rfl (fun c h => by cases h)) (exec_store_new 69 _ _ rfl 64 (fun _ => 0) _ rfl rfl isz_sector) ?_))
    have hsW := HF.out.size
    have hal := Fr.alloc [] W (.cells (rowA 64 (secW D.burn x)) 69)
    refine HK.out _ _ (hal.keepsFrom (by simp)) (hal.kp3 (by omega) (by omega) (by omega) (by simp) (by simp) (by simp)) ⟨(Below.heap_alloc _ _ _ (by omega)).trans HL.out, HF.out.trans (Fr.alloc _ _ _)⟩ ⟨W.heap.size, hsW, heap_alloc_new _ _, rfl⟩
  case body =>
    rintro l pre x a' W hl _ ⟨hlb, hfr⟩ ⟨Bx, hBx, hX, rfl⟩ _
    have HX := Lib.hid hX
    have HL := Lib.hid hlb
    have HF := Lib.hid hfr
    have hsW := hfr.size
    have cb : W.cell? ⟨w.heap.size, 0, none⟩ = some (.pointer (some ⟨db, 0, none⟩)) := by rw [cell_of_row W w.heap.size 0 _ _ _ ((hfr.block _ (by omega) (by simp; omega)).trans hbox)]; rfl
    have c0 : W.cell? ⟨db, 0, none⟩ = some (.slice (some ⟨lb, 0, none⟩) D.burn.n D.burn.n) := by rw [cell_of_row W db 0 _ _ _ ((hfr.block _ (by omega) (by simpa using n1)).trans hd2.d)]; rfl
    have hx := x.2.1
    clear hX hlb hfr
    gi_wp2_with fail
    have HLQ := Lib.hid (fun (h : LetsOut (Exit.inBlock 1 (ownPostG w2.heap.size (Kp3 w1.heap.size db mb) (fun pre W => W.heap[lb]? = some (.cells (rowA (64 * D.burn.n) (synL D.burn pre)) 69 (0, 0)) ∧ Fr [lb] w2 W) (fun _ _ _ => False) (pre ++ [x]) W))) => show False from by obtain ⟨_, _, h⟩ := h; exact h)
    have hw1 : ((x.1 : Int) * 64).toNat = x.1 * 64 := by omega
    refine wpIn_region_tail 7 (by kernel_rfl) (by kernel_rfl) (by kernel_rfl) HLQ.out ?_
    simp only [List.take_succ_cons, List.take_zero, List.drop_succ_cons, List.drop_zero]
    iterate 5 still_step
    refine wpStill_load_arr rfl 69 _ rfl Bx 0 rfl 64 _ _ (by exact rangeAt_row0 HX.out) Try.underlying69 rfl isz_sector ?_
    still_step
    refine wpStill_nil ?_
    refine wpList_skipv rfl (exec_store_arr 69 _ _ rfl lb (x.1 * 64) 64 _ rfl rfl (by exact there_row (w := W.drew) HL.out _ _ (by omega)) isz_sector) ?_
    refine wpList_nil ?_
    have f1 : Fr [lb] W (W.drew.setCells lb (x.1 * 64) (rowL 64 (secW D.burn x))) := (Fr.drew _ W).trans (setCells_fr (by simp) _ _ _)
    exact ⟨f1.keepsFrom (by simp; omega), f1.kp3 (by omega) (by omega) (by omega) (by simp; omega) (by simpa using n1) (by simpa using fun e => n3 e.symm),
      by rw [← synL_snoc]; exact setCells_row W.drew lb _ _ _ (x.1 * 64) 64 _ HL.out (by omega), HF.out.trans f1⟩
  case done =>
    rintro E xs W hE rfl ⟨hlb, hfr⟩ hK
    have HL := Lib.hid hlb
    have HF := Lib.hid hfr
    have hsW := hfr.size
    have cb : W.cell? ⟨w.heap.size, 0, none⟩ = some (.pointer (some ⟨db, 0, none⟩)) := by rw [cell_of_row W w.heap.size 0 _ _ _ ((hfr.block _ (by omega) (by simp; omega)).trans hbox)]; rfl
    have hdW := (hfr.block _ (by omega) (by simpa using n1)).trans hd2.d
    have c1 : W.cell? ⟨db, 1, none⟩ = some (.map (some mb)) := by rw [cell_of_row W db 1 _ _ _ hdW]; rfl
    obtain ⟨o, hcl, hmr⟩ := run_clear_waits (P := Try.prog) (w := W) Try.underlying64 (hd2.m.congrB (hfr.block _ (by omega) (by simpa using fun e => n3 e.symm)))
    have HC := Lib.hid hcl
    have HMR := Lib.hid hmr
    have HDW := Lib.hid hdW
    have HKD := Lib.hid ((putObj_other (w := W) (g := mb) (k := E) (by omega) o).trans hK)
    clear hlb hfr hcl hmr hdW hK
    gi_wp2_with ((with_reducible refine wpListIn_at (.call { callee := .builtin .clear, args := #[.tmp 31], argTypes := #[64] }) rfl ?_); refine wpListIn_valG (fun _ => trivial) rfl (nd_of rfl (fun c h => by cases h)) (exec_clear rfl rfl HC.out) ?_)
    refine ⟨by simp, .inl ⟨_, _, rfl, run_takeDeferred HKD.out, ?_⟩⟩
    refine ⟨_, results_tmp rfl _ _ _, rfl, ⟨hd2.n1, hd2.n2, hd2.f1, hd2.f2, ?_, ?_, ?_⟩, ?_⟩
    · exact (putObj_other (by omega) _).trans ((putObj_other n2 _).trans HDW.out)
    · refine (putObj_other (by omega) _).trans ((putObj_other n3 _).trans (HL.out.trans ?_))
      rw [rowA_congr (fun j hj => synL_all D.burn j hj), burn_now]
    · exact HMR.out.congrB (putObj_other (by omega) _)
    · have g0 : Fr [db, lb, mb] w w2 := (Fr.alloc [db, lb, mb] w _).trans ((hf1.mono (by simp)).trans (hf2.mono (by simp)))
      have g1 : Fr [db, lb, mb] w2 (W.putObj mb o) := (HF.out.mono (by simp)).trans (Fr.putObj _ (by simp) _)
      exact (g0.trans g1).putNew (by omega) _
  case stop =>
    rintro D c pre W _ _ h _
    exact h.elim
end Go.Proofs.Ytgfdbjeliojhkaa
