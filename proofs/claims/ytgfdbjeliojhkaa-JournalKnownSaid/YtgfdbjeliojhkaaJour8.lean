/-
  Jour8: the walk of the records' iterator. No condition beyond those stated.
-/
import Derived.Test.YtgfdbjeliojhkaaJour7
import Derived.WalkHide
namespace Go.Proofs.Ytgfdbjeliojhkaa
open Go.RowKit Go.Shelf
attribute [local go_sem] Oper.semAt_some

/-- of the first B blocks only those of F have changed -/
structure FrB (B : Nat) (F : List Nat) (w w' : World) : Prop where
  os : w'.os = w.os
  tape : w'.tape = w.tape
  output : w'.output = w.output
  size : w.heap.size ≤ w'.heap.size
  block : ∀ k, k < B → k ∉ F → w'.heap[k]? = w.heap[k]?
theorem Fr.frB {F : List Nat} {w w' : World} {B : Nat} (h : Fr F w w') (hB : B ≤ w.heap.size) : FrB B F w w' := ⟨h.os, h.tape, h.output, h.size, fun k hk hn => h.block k (by omega) hn⟩
theorem FrB.trans {B : Nat} {F : List Nat} {a b c : World} (h : FrB B F a b) (k : FrB B F b c) : FrB B F a c :=
  ⟨k.os.trans h.os, k.tape.trans h.tape, k.output.trans h.output, Nat.le_trans h.size k.size, fun i hi hn => (k.block i hi hn).trans (h.block i hi hn)⟩
theorem Fr.then_frB {F G : List Nat} {a b c : World} (h : Fr F a b) (k : FrB a.heap.size G b c) (hG : ∀ x ∈ G, x ∈ F) : Fr F a c :=
  ⟨k.os.trans h.os, k.tape.trans h.tape, k.output.trans h.output, Nat.le_trans h.size k.size, fun i hi hn => (k.block i hi (fun hm => hn (hG i hm))).trans (h.block i hi hn)⟩
/-- how much is left in the box -/
def boxLen (bx : Nat) (w : World) : Nat := match w.cell? ⟨bx, 0, none⟩ with
  | some (.slice _ m _) => m
  | _ => 0
theorem boxLen_of {bx : Nat} {w : World} {ao : Option Addr} {m c : Nat} {t : TypeId} (h : w.heap[bx]? = some (.cells #[.slice ao m c] t (0, 0))) : boxLen bx w = m := by
  unfold boxLen; rw [cell_of_row w bx 0 _ _ _ h]; rfl
structure RelR (bx : Nat) (Fk : List Nat) (d0 : List UInt8) (J : List (Value × List UInt8) → World → Prop) (W wr : World) : Prop where
  ex : ∃ rs d v, CutS d0 rs d ∧ wr.heap[bx]? = some (.cells #[v] 31 (0, 0)) ∧ BytesAt wr v d.length (lsec d) ∧ (∀ k, v.ownBlock = some k → k ≠ bx ∧ k ∉ Fk ∧ k < W.heap.size) ∧ (∃ pre, pre.map Prod.snd = rs ∧ J pre wr) ∧ Fr (bx :: Fk) W wr
set_option maxRecDepth 100000 in
set_option maxHeartbeats 4000000 in
theorem records1_in (n : Nat) (hn : 1 ≤ n) (l bx : Nat) (Fk : List Nat) (d0 : List UInt8) (v0 : Value) (J : List (Value × List UInt8) → World → Prop) (Jb Jx : World → Prop) (W : World)
    (hb : W.heap[bx]? = some (.cells #[v0] 31 (0, 0))) (hv : BytesAt W v0 d0.length (lsec d0)) (hlen : d0.length ≤ 1000000) (hvb : ∀ k, v0.ownBlock = some k → k ≠ bx ∧ k ∉ Fk ∧ k < W.heap.size) (hbx : bx ∉ Fk)
    (hJ : ∀ pre X Y, J pre X → Fr (bx :: Fk) W X → Fr [bx] X Y → J pre Y)
    (hY : ∀ pre v r X W1, pre.length ≤ d0.length → J pre X → Fr (bx :: Fk) W X → Fr [] X W1 → BytesAt W1 v r.length (lsec r) → (∀ k, v.ownBlock = some k → X.heap.size ≤ k ∧ ∃ C, W1.heap[k]? = some (.cells C 5 (0, 0))) → YieldAt Fence.wide (n - 1) Try.prog l #[v, .bool true] W1 fun e W' =>
      (e = .returned (.bool true) ∧ J (pre ++ [(v, r)]) W' ∧ FrB W.heap.size Fk W1 W') ∨ (e = .returned (.bool false) ∧ Jx W'))
    (hYf : recs d0 = none → ∀ pre W1, J pre W1 → Fr (bx :: Fk) W W1 → YieldAt Fence.wide (n - 1) Try.prog l #[.slice none 0 0, .bool false] W1 fun e W' =>
      (e = .returned (.bool true) ∧ Jb W') ∨ (e = .returned (.bool false) ∧ Jx W'))
    (h0 : J [] W) :
    CallsIn Fence.wide n Try.prog 49 #[.func (.yield l) #[] #[], .pointer (some ⟨bx, 0, none⟩)] W fun e W' => (∃ v, e = .returned v) ∧ ((∃ pre, recs d0 = some (pre.map Prod.snd) ∧ J pre W' ∧ Fr (bx :: Fk) W W') ∨ (recs d0 = none ∧ Jb W') ∨ Jx W') := by
  have hfz := frozen_of_row W bx 0 _ _ hb
  have hbl : bx < W.heap.size := (Array.getElem?_eq_some_iff.1 hb).1
  have HB := Lib.hid hb
  have HV := Lib.hid hv
  have HJ := Lib.hid hJ
  have HY := Lib.hid hY
  have HYF := Lib.hid hYf
  have H0 := Lib.hid h0
  have HVB := Lib.hid hvb
  have HBX := Lib.hid hbx
  clear hb hv hJ hY hYf h0 hvb hbx hfz
  refine callsIn_of_wp Try.func49 rfl trivial ?_ rfl
  simp only [Try.ntmps49, List.size_toArray, List.length_cons, List.length_nil, Nat.reduceAdd, Nat.reduceSub, Array.replicate_succ, Array.replicate_zero, List.push_toArray, List.append_toArray, List.nil_append, List.cons_append]
  gi_wp2_with fail
  gi_loopw [3] (fun _ wr => RelR bx Fk d0 J W wr) (fun _ wr => boxLen bx wr)
  case atStart => exact ⟨[], d0, v0, .nil, HB.out, HV.out, HVB.out, ⟨[], rfl, H0.out⟩, Fr.refl _ _⟩
  case round =>
    gi_hideQ
    obtain ⟨rs, d, v, hc, hbx, hbv, hvb, ⟨pre, hpre, hj⟩, hf⟩ := hrel.ex
    have HC := Lib.hid hc
    have HBW := Lib.hid hbx
    have HBV := Lib.hid hbv
    have HVW := Lib.hid hvb
    have HP := Lib.hid hpre
    have HJW := Lib.hid hj
    have HF := Lib.hid hf
    have hdl := hc.len
    obtain ⟨ao, cap, rfl, hb1, hb2, hb3, hb4⟩ := hbv
    have c0 : wr.cell? ⟨bx, 0, none⟩ = some (.slice ao d.length cap) := by rw [cell_of_row wr bx 0 _ _ _ hbx]; rfl
    have f0 := frozen_of_row wr bx 0 _ _ hbx
    have hbl2 : bx < wr.heap.size := (Array.getElem?_eq_some_iff.1 hbx).1
    have hml := boxLen_of hbx
    have HML := Lib.hid hml
    unfold maxLen at hb2
    clear hrel hc hbx hvb hpre hj hf hb3 hml
    by_cases hd : d = []
    · subst hd
      have HB4 := Lib.hid hb4
      clear hb4
      gi_wp2_with fail
      go_end0
      exact ⟨⟨_, rfl⟩, .inl ⟨pre, by rw [HP.out]; exact HC.out.done, HJW.out, HF.out⟩⟩
    · have hd0 : 0 < d.length := List.length_pos_iff.2 hd
      have HD := Lib.hid hd
      obtain ⟨b, off, rfl, hr⟩ := hb4 hd0
      have HR := Lib.hid hr
      clear hr hb4 hd
      have hdi : (0 : Int) < (d.length : Int) := by omega
      by_cases h4 : d.length < 4
      · have hnone : recs d0 = none := HC.out.broken HD.out (by unfold cutR; rw [if_pos (.inl h4)])
        obtain ⟨fn, tmps, assign, body, hy, hR⟩ := HYF.out hnone pre wr.drew (HJ.out pre wr _ HJW.out HF.out (Fr.drew _ _)) (HF.out.trans (Fr.drew _ _))
        have HRR := Lib.hid hR
        have HNO := Lib.hid hnone
        have h4i : (d.length : Int) < 4 := by omega
        clear hR hnone
        gi_wp2_with fail
        refine wpIn_wide.2 ?_
        refine wp_region_plan [(0, false), (1, false), (2, false), (3, false), (4, false), (5, false), (6, false), (7, false), (8, false), (9, false), (10, false), (11, false), (12, false), (13, false)] (fun w' => w'.cell? ⟨bx, 0, none⟩ = some (.slice (some ⟨b, off, none⟩) d.length cap)) (by kernel_rfl) (by kernel_rfl) c0 ?_
        iterate 4 (refine' plan_val rfl rfl (fun w' hS => ?_) ?_; rotate_left; (focus (go_simp; rfl)); simp only [Act.put, List.setIfInBounds_toArray, List.set_cons_zero, List.set_cons_succ])
        iterate 9 (refine plan_skip rfl rfl ?_; simp only [Act.put, List.setIfInBounds_toArray, List.set_cons_zero, List.set_cons_succ])
        (refine' plan_val rfl rfl (fun w' hS => ?_) ?_; rotate_left; (focus (go_simp; rfl)); simp only [Act.put, List.setIfInBounds_toArray, List.set_cons_zero, List.set_cons_succ])
        refine plan_nil ?_
        gi_wp2_with fail
        refine HRR.out.mono ?_
        rintro e W3 (⟨rfl, hj3⟩ | ⟨rfl, hj3⟩)
        · have HJ3 := Lib.hid hj3
          clear hj3
          gi_wp2
          refine bodyPost_ret (results_none rfl _ _ _) rfl ?_
          exact ⟨⟨_, rfl⟩, .inr (.inl ⟨HNO.out, HJ3.out⟩)⟩
        · have HJ3 := Lib.hid hj3
          clear hj3
          gi_wp2
          refine bodyPost_ret (results_none rfl _ _ _) rfl ?_
          exact ⟨⟨_, rfl⟩, .inr (.inr HJ3.out)⟩
      · obtain ⟨R, hR0⟩ : ∃ R, rdL (d.take 4) = R := ⟨_, rfl⟩
        have hsec4 : secL 4 (lsec d) = d.take 4 := by have h := secL_take_drop d 0 4 (by omega); simpa using h
        have hR1 : rdL (secL 4 (lsec d)) = R := by rw [hsec4]; exact hR0
        have hRlt : R < 4294967296 := by have h := rdL_lt (secL 4 (lsec d)); rw [secL_len, hR1] at h; omega
        have HR0 := Lib.hid hR0
        have HR1 := Lib.hid hR1
        have h4i : decide ((d.length : Int) < 4) = false := by rw [decide_eq_false_iff_not]; omega
        have hw0 : IntKind.i64.wrap ((d.length : Int) - 4) = (d.length : Int) - 4 := IntWalk.i64_in _ (by omega)
        have hw1 : IntKind.u64.wrap (R : Int) = (R : Int) := by simp [IntKind.wrap, IntKind.bits, IntKind.signed]; omega
        have hw2 : IntKind.u64.wrap ((d.length : Int) - 4) = (d.length : Int) - 4 := by simp [IntKind.wrap, IntKind.bits, IntKind.signed]; omega
        clear hR0 hsec4 hR1
        by_cases hgt : d.length - 4 < R
        · have hnone : recs d0 = none := HC.out.broken HD.out (by unfold cutR; rw [if_pos (.inr (by rw [HR0.out]; exact hgt))])
          have HNO := Lib.hid hnone
          have hgi : decide ((d.length : Int) - 4 < (R : Int)) = true := by rw [decide_eq_true_eq]; omega
          clear hnone
          gi_wp2_with fail
          refine wpIn_wide.2 ?_
          refine wp_region_plan [(0, false), (1, false), (2, false), (3, false), (4, false), (5, false), (8, false), (9, false), (10, false), (11, false), (6, true), (7, false), (12, false), (13, false)] (fun w' => w'.cell? ⟨bx, 0, none⟩ = some (.slice (some ⟨b, off, none⟩) d.length cap)) (by kernel_rfl) (by kernel_rfl) c0 ?_
          iterate 10 (refine' plan_val rfl rfl (fun w' hS => ?_) ?_; rotate_left; (focus (go_simp; rfl)); simp only [Act.put, List.setIfInBounds_toArray, List.set_cons_zero, List.set_cons_succ])
          refine plan_do rfl (fun K hK => ?_)
          go_wp2_with fail
          refine (uint32_any b off d.length cap (lsec d) wr.drew (by omega) hb1 (by unfold maxLen; omega) (rangeAt_pre (HR.out : wr.drew.rangeAt b off (rowL d.length (lsec d))) (by omega))).mono ?_
          rintro e w2 ⟨rfl, hf2⟩
          rw [HR1.out]
          have hf2' : Fr [] wr w2 := (Fr.drew _ _).trans hf2
          have HF2 := Lib.hid hf2'
          have hS2 : w2.cell? ⟨bx, 0, none⟩ = some (.slice (some ⟨b, off, none⟩) d.length cap) := (World.cell?_of_block (a := ⟨bx, 0, none⟩) (hf2'.block bx hbl2 (by simp))).trans c0
          clear hf2 hf2'
          go_wp2_with fail
          refine hK _ _ hS2 ?_
          clear hK K
          iterate 3 (refine' plan_val rfl rfl (fun w' hS => ?_) ?_; rotate_left; (focus (go_simp; rfl)); simp only [Act.put, List.setIfInBounds_toArray, List.set_cons_zero, List.set_cons_succ])
          refine plan_nil ?_
          obtain ⟨fn, tmps, assign, body, hy, hR⟩ := HYF.out HNO.out pre w2 (HJ.out pre wr _ HJW.out HF.out (HF2.out.mono (by simp))) (HF.out.trans (HF2.out.mono (by simp)))
          have HRR := Lib.hid hR
          clear hR c0
          gi_wp2_with fail
          refine HRR.out.mono ?_
          rintro e W3 (⟨rfl, hj3⟩ | ⟨rfl, hj3⟩)
          · have HJ3 := Lib.hid hj3
            clear hj3
            gi_wp2
            refine bodyPost_ret (results_none rfl _ _ _) rfl ?_
            exact ⟨⟨_, rfl⟩, .inr (.inl ⟨HNO.out, HJ3.out⟩)⟩
          · have HJ3 := Lib.hid hj3
            clear hj3
            gi_wp2
            refine bodyPost_ret (results_none rfl _ _ _) rfl ?_
            exact ⟨⟨_, rfl⟩, .inr (.inr HJ3.out)⟩
        · have hcut : cutR d = some ((d.drop 4).take R, (d.drop 4).drop R) := by
            unfold cutR; rw [if_neg (by rw [HR0.out]; omega), HR0.out]
          have HCUT := Lib.hid hcut
          have hgi : decide ((d.length : Int) - 4 < (R : Int)) = false := by rw [decide_eq_false_iff_not]; omega
          clear hcut
          gi_wp2_with fail
          refine wpIn_wide.2 ?_
          refine wp_region_plan [(0, false), (1, false), (2, false), (3, false), (4, false), (5, false), (8, false), (9, false), (10, false), (11, false), (6, true), (7, false), (12, false), (13, false)] (fun w' => w'.cell? ⟨bx, 0, none⟩ = some (.slice (some ⟨b, off, none⟩) d.length cap)) (by kernel_rfl) (by kernel_rfl) c0 ?_
          iterate 10 (refine' plan_val rfl rfl (fun w' hS => ?_) ?_; rotate_left; (focus (go_simp; rfl)); simp only [Act.put, List.setIfInBounds_toArray, List.set_cons_zero, List.set_cons_succ])
          refine plan_do rfl (fun K hK => ?_)
          go_wp2_with fail
          refine (uint32_any b off d.length cap (lsec d) wr.drew (by omega) hb1 (by unfold maxLen; omega) (rangeAt_pre (HR.out : wr.drew.rangeAt b off (rowL d.length (lsec d))) (by omega))).mono ?_
          rintro e w2 ⟨rfl, hf2⟩
          rw [HR1.out]
          have hf2' : Fr [] wr w2 := (Fr.drew _ _).trans hf2
          have HF2 := Lib.hid hf2'
          have hS2 : w2.cell? ⟨bx, 0, none⟩ = some (.slice (some ⟨b, off, none⟩) d.length cap) := (World.cell?_of_block (a := ⟨bx, 0, none⟩) (hf2'.block bx hbl2 (by simp))).trans c0
          have hs2 := hf2'.size
          clear hf2 hf2'
          go_wp2_with fail
          refine hK _ _ hS2 ?_
          clear hK K
          iterate 3 (refine' plan_val rfl rfl (fun w' hS => ?_) ?_; rotate_left; (focus (go_simp; rfl)); simp only [Act.put, List.setIfInBounds_toArray, List.set_cons_zero, List.set_cons_succ])
          refine plan_nil ?_
          have hbW : b < wr.heap.size := rangeAt_lt HR.out (by omega)
          have HR2 := Lib.hid (rangeAt_congr HR.out (HF2.out.block b hbW (by simp)))
          clear c0
          gi_wp2_with fail
          refine ⟨trivial, (callsIn_wide.2 (uint32_any b off d.length cap (lsec d) w2 (by omega) hb1 (by unfold maxLen; omega) (rangeAt_pre HR2.out (by omega)))).mono ?_⟩
          rintro e w3 ⟨rfl, hf3⟩
          rw [HR1.out]
          have HF3 := Lib.hid (HF2.out.trans hf3)
          have hS3 : w3.cell? ⟨bx, 0, none⟩ = some (.slice (some ⟨b, off, none⟩) d.length cap) := (World.cell?_of_block (a := ⟨bx, 0, none⟩) (hf3.block bx (by omega) (by simp))).trans hS2
          have HR3 := Lib.hid (rangeAt_congr HR2.out (hf3.block b (by omega) (by simp)))
          have hs3 := hf3.size
          clear hf3 hS2 hw0 hw1 hw2
          have hw1 : IntKind.i64.wrap (R : Int) = (R : Int) := IntWalk.i64_in _ (by omega)
          have hw2 : IntKind.i64.wrap (4 + (R : Int)) = ((4 + R : Nat) : Int) := by rw [IntWalk.i64_in _ (by omega)]; omega
          have f3 := frozen_of_row w3 bx 0 _ _ ((HF3.out.block bx hbl2 (by simp)).trans HBW.out)
          clear f0 hgi h4i
          gi_wp2_with ((with_reducible refine wpListIn_at (.slice 31 (.tmp 29) (some (.const (.int .i64 4))) (some (.tmp 30)) none) rfl ?_); refine wpListIn_valG (fun _ => trivial) rfl (nd_of rfl (fun c h => by cases h)) (exec_slice_lh (k := 4) (m := 4 + R) rfl rfl rfl rfl (by omega) (by omega) Try.underlying31 isz_u8) ?_)
          have hbc := bytes_slPt (w := w3) (cap := cap) HR3.out 4 R (by omega) hb1 (by unfold maxLen; omega)
          refine ⟨trivial, (callsIn_wide.2 (clone_any _ R _ w3 hbc (by omega))).mono ?_⟩
          rintro e w4 ⟨v', rfl, ho4, hb4⟩
          rw [secL_take_drop d 4 R (by omega)] at ho4
          obtain ⟨r, hr⟩ : ∃ r, (d.drop 4).take R = r := ⟨_, rfl⟩
          have hrl : r.length = R := by rw [← hr]; simp; omega
          rw [hr] at ho4
          have HCUT' := Lib.hid (show cutR d = some (r, (d.drop 4).drop R) by rw [← hr]; exact HCUT.out)
          obtain ⟨hby4, hbk4⟩ := ho4.bytes
          have hs4 := hb4.size
          have hlt4 : ∀ k, v'.ownBlock = some k → wr.heap.size ≤ k ∧ ∃ C, w4.heap[k]? = some (.cells C 5 (0, 0)) := fun k hk => by
            have h1 := hbk4 k hk
            refine ⟨by omega, ?_⟩
            obtain ⟨_, ⟨rfl, _⟩ | ⟨g, cp, cur, rfl, hg, hh, _⟩⟩ := ho4
            · simp [Value.ownBlock] at hk
            · simp [Value.ownBlock] at hk; subst hk; exact ⟨cur, hh⟩
          have hF4 : Fr [] wr w4 := (HF3.out.trans (Below.fr hb4 (Nat.le_refl _) []))
          have HF4 := Lib.hid hF4
          have HR4 := Lib.hid (rangeAt_congr HR3.out (hb4.block b (by omega)))
          obtain ⟨fn, tmps, assign, body, hy, hR⟩ := HY.out pre v' r wr w4 (by have h1 := HC.out.count; have h2 := congrArg List.length HP.out; rw [List.length_map] at h2; omega) HJW.out HF.out hF4 hby4 hlt4
          have HRR := Lib.hid hR
          have HRL := Lib.hid hrl
          clear hbc ho4 hb4 hr hby4 hbk4 hlt4 hF4 hR hrl hS3 f3
          gi_wp2_with fail
          refine HRR.out.mono ?_
          rintro e W3 (⟨rfl, hj3, hf5⟩ | ⟨rfl, hj3⟩)
          · have hbW3 : W3.heap[bx]? = some (.cells #[.slice (some ⟨b, off, none⟩) d.length cap] 31 (0, 0)) := (hf5.block bx hbl HBX.out).trans ((HF4.out.block bx hbl2 (by simp)).trans HBW.out)
            have hbv := (HVW.out b rfl)
            have HR5 := Lib.hid (rangeAt_congr HR4.out (hf5.block b hbv.2.2 hbv.2.1))
            have HF5 := Lib.hid ((HF.out.trans (HF4.out.mono (G := bx :: Fk) (by simp))).then_frB hf5 (fun k hk => by simp [hk]))
            have HJ5 := Lib.hid hj3
            have HB5 := Lib.hid hbW3
            have c5 : W3.cell? ⟨bx, 0, none⟩ = some (.slice (some ⟨b, off, none⟩) d.length cap) := by rw [cell_of_row W3 bx 0 _ _ _ hbW3]; rfl
            have f5 := frozen_of_row W3 bx 0 _ _ hbW3
            have hbl5 : bx < W3.heap.size := (Array.getElem?_eq_some_iff.1 hbW3).1
            clear hj3 hf5 hbW3
            gi_wp2_with ((with_reducible refine wpListIn_at (.slice 31 (.tmp 35) (some (.tmp 36)) none none) rfl ?_); refine wpListIn_valG (fun _ => trivial) rfl (nd_of rfl (fun c h => by cases h)) (exec_slice_l (k := 4 + R) rfl rfl rfl (by omega) Try.underlying31 isz_u8) ?_)
            have hnew := heap_setCell_same W3 bx 0 _ _ (.slice (some (slPt b off cap (4 + R))) (d.length - (4 + R)) (cap - (4 + R))) HB5.out
            have hdl' : ((d.drop 4).drop R).length = d.length - (4 + R) := by rw [List.length_drop, List.length_drop]; omega
            have hfn : Fr [bx] W3 (W3.setCell ⟨bx, 0, none⟩ (.slice (some (slPt b off cap (4 + R))) (d.length - (4 + R)) (cap - (4 + R)))) := Fr.setCell W3 (by simp) _
            have hbyn := bytes_slPt (w := W3.setCell ⟨bx, 0, none⟩ (.slice (some (slPt b off cap (4 + R))) (d.length - (4 + R)) (cap - (4 + R)))) (cap := cap) (rangeAt_congr HR5.out (hfn.block b (by have := rangeAt_lt HR5.out (by omega); exact this) (by simp; exact hbv.1))) (4 + R) (d.length - (4 + R)) (by omega) hb1 (by unfold maxLen; omega)
            go_roundw
            case rel =>
              refine ⟨rs ++ [r], (d.drop 4).drop R, .slice (some (slPt b off cap (4 + R))) (d.length - (4 + R)) (cap - (4 + R)), HC.out.snoc HD.out HCUT'.out, hnew, ?_, ?_, ⟨pre ++ [(v', r)], by simp [HP.out], HJ.out _ _ _ HJ5.out HF5.out hfn⟩, HF5.out.trans (hfn.mono (by simp))⟩
              · rw [hdl']
                exact hbyn.congr (fun j hj => by rw [List.drop_drop, lsec_drop])
              · intro k hk
                rw [slPt_own] at hk
                cases hk
                exact hbv
            case measure =>
              have e1 := boxLen_of hnew
              have e2 := HML.out
              rw [e1, e2]
              omega
          · have HJ3 := Lib.hid hj3
            clear hj3
            gi_wp2
            refine bodyPost_ret (results_none rfl _ _ _) rfl ?_
            exact ⟨⟨_, rfl⟩, .inr (.inr HJ3.out)⟩
end Go.Proofs.Ytgfdbjeliojhkaa
