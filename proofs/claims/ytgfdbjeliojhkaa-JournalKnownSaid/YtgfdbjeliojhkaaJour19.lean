/-
  Jour19: contract of Same (two lists of records). No condition beyond those stated.
-/
import Derived.Test.YtgfdbjeliojhkaaJour18
namespace Go.Proofs.Ytgfdbjeliojhkaa
open Go.RowKit
theorem BytessAt.fr0 {w w' : World} {v : Value} {l : List (List UInt8)} (h : BytessAt w v l) (hf : Fr [] w w') : BytessAt w' v l := by
  obtain ⟨ao, cap, rfl, h1, h2, h3⟩ := h
  refine ⟨ao, cap, rfl, h1, h2, fun hl => ?_⟩
  obtain ⟨b, off, rfl, h4⟩ := h3 hl
  refine ⟨b, off, rfl, fun i r hi => ?_⟩
  obtain ⟨u, h5, h6⟩ := h4 i r hi
  exact ⟨u, (World.cell?_of_block (a := ⟨b, off + i, none⟩) (hf.block b (cell_lt h5) (by simp))).trans h5, h6.fr hf (by simp)⟩
theorem BytessAt.get {w : World} {ao : Option Addr} {n cap : Nat} {l : List (List UInt8)} (h : BytessAt w (.slice ao n cap) l) {k : Nat} {r : List UInt8} (hk : l[k]? = some r) : ∃ b off u, ao = some ⟨b, off, none⟩ ∧ w.cell? ⟨b, off + k, none⟩ = some u ∧ BytesAt w u r.length (lsec r) := by
  obtain ⟨_, _, e, h1, h2, h3⟩ := h
  cases e
  obtain ⟨b, off, rfl, h4⟩ := h3 (by intro e; rw [e] at hk; simp at hk)
  obtain ⟨u, h5, h6⟩ := h4 k r hk
  exact ⟨b, off, u, rfl, h5, h6⟩
theorem conv_list {w : World} {u : Value} {r : List UInt8} (h : BytesAt w u r.length (lsec r)) : (convert 31 9 u).run Try.prog w = .ok (.string ⟨r.toArray⟩) w := by
  rw [← strOf_lsec]; exact conv_bytes h
set_option maxRecDepth 100000 in
set_option maxHeartbeats 2000000 in
theorem same_any {a b : Value} {la lb : List (List UInt8)} (w : World) (ha : BytessAt w a la) (hb : BytessAt w b lb) : Calls Try.prog 32 #[a, b] w fun e w' => e = .returned (.bool (decide (la = lb))) ∧ Fr [] w w' := by
  have ha' := ha
  have hb' := hb
  obtain ⟨ao, ac, rfl, ha1, ha2, _⟩ := ha'
  obtain ⟨bo, bc, rfl, hb1, hb2, _⟩ := hb'
  have HA := Lib.hid ha
  have HB := Lib.hid hb
  unfold maxLen at ha2 hb2
  clear ha hb
  by_cases hl : la.length = lb.length
  · have hli : decide ((la.length : Int) = (lb.length : Int)) = true := by rw [decide_eq_true_eq]; omega
    have HL := Lib.hid hl
    have hli2 : (la.length : Int) = (lb.length : Int) := by omega
    clear hl hli
    have hbl : Value.slice bo lb.length bc = Value.slice bo la.length bc := by rw [HL.out]
    rw [hbl]
    go_enter Try.func32, Try.ntmps32
    go_wp2_with fail
    go_loopw [5] (fun i wr => ∃ k : Nat, k ≤ la.length ∧ i = .int .i64 (k : Int) ∧ Hid (∀ j, j < k → la[j]? = lb[j]?) ∧ Hid (Fr [] w wr)) (fun i _ => la.length - (intOf i).toNat)
    case atStart => exact ⟨0, Nat.zero_le _, rfl, Lib.hid (fun j hj => absurd hj (Nat.not_lt_zero _)), Lib.hid (Fr.refl _ _)⟩
    case round =>
      obtain ⟨k, hk, rfl, HE, HF⟩ := hrel
      by_cases hlt : k < la.length
      · have hltd : decide ((k : Int) < (la.length : Int)) = true := by rw [decide_eq_true_eq]; omega
        obtain ⟨r1, hr1⟩ : ∃ r, la[k]? = some r := ⟨_, List.getElem?_eq_getElem hlt⟩
        obtain ⟨r2, hr2⟩ : ∃ r, lb[k]? = some r := ⟨_, List.getElem?_eq_getElem (by have := HL.out; omega)⟩
        obtain ⟨wd, hwd⟩ : ∃ wd, wr.drew = wd := ⟨_, rfl⟩
        have fd : Fr [] wr wd := by rw [← hwd]; exact Fr.drew _ _
        obtain ⟨b1, o1, u1, rfl, c1, y1⟩ := (HA.out.fr0 (HF.out.trans fd)).get hr1
        obtain ⟨b2, o2, u2, rfl, c2, y2⟩ := (HB.out.fr0 (HF.out.trans fd)).get hr2
        have hcv1 := conv_list y1
        have hcv2 := conv_list y2
        have HR1 := Lib.hid hr1
        have HR2 := Lib.hid hr2
        have HWD := Lib.hid hwd
        have HFD := Lib.hid (HF.out.trans fd)
        clear y1 y2 hr1 hr2 hwd fd
        by_cases hrr : r1 = r2
        · subst hrr
          go_wp2_with fail
          refine wp_region_plan [(0, false), (1, false), (2, false), (3, false), (4, false), (5, false), (6, false), (7, false), (8, false), (9, false), (10, false)] (fun u => u = wr.drew) (by kernel_rfl) (by kernel_rfl) rfl ?_
          rw [HWD.out]
          iterate 11 (refine' plan_val rfl rfl (fun w' hS => ?_) ?_; rotate_left; (focus (subst hS; go_simp; rfl)); simp only [Act.put, List.setIfInBounds_toArray, List.set_cons_zero, List.set_cons_succ])
          refine plan_nil ?_
          clear hcv1 hcv2 c1 c2
          go_wp2_with fail
          have HE2 : Hid (∀ j, j < k + 1 → la[j]? = lb[j]?) := Lib.hid (fun j hj => by
            by_cases e : j = k
            · subst e; rw [HR1.out, HR2.out]
            · exact HE.out j (by omega))
          all_goals exact ⟨⟨k + 1, by omega, by go_num, HE2, HFD⟩, by simp [intOf]; omega⟩
        · have hne : ¬ (⟨r1.toArray⟩ : ByteArray) = ⟨r2.toArray⟩ := fun e => hrr (by injection e with e; injection e)
          have hbe : (r1 == r2) = false := by simpa using hrr
          have hbe2 : (!r1 == r2) = true := by rw [hbe]; rfl
          go_wp2_with fail
          refine wp_region_plan [(0, false), (1, false), (2, false), (3, false), (4, false), (5, false), (6, false), (7, false), (8, false), (9, false), (10, false)] (fun u => u = wr.drew) (by kernel_rfl) (by kernel_rfl) rfl ?_
          rw [HWD.out]
          iterate 11 (refine' plan_val rfl rfl (fun w' hS => ?_) ?_; rotate_left; (focus (subst hS; go_simp; rfl)); simp only [Act.put, List.setIfInBounds_toArray, List.set_cons_zero, List.set_cons_succ])
          refine plan_nil ?_
          clear hcv1 hcv2 c1 c2
          go_wp2_with fail
          go_ret
          have e : ¬ la = lb := fun e => hrr (by have h1 := HR1.out; rw [e, HR2.out] at h1; exact (Option.some.inj h1).symm)
          rw [decide_eq_false e]
          exact ⟨rfl, HFD.out⟩
      · have hke : k = la.length := by omega
        subst hke
        go_wp2_with fail
        go_ret
        refine ⟨?_, HF.out⟩
        have e : la = lb := by
          apply List.ext_getElem?
          intro j
          by_cases hj : j < la.length
          · exact HE.out j hj
          · rw [List.getElem?_eq_none (by omega), List.getElem?_eq_none (by have := HL.out; omega)]
        rw [decide_eq_true e]
        rfl
  · have hli : ¬ (la.length : Int) = (lb.length : Int) := by omega
    have e : ¬ la = lb := fun e => hl (by rw [e])
    go_enter Try.func32, Try.ntmps32
    go_wp2_with fail
    go_ret
    rw [decide_eq_false e]
    exact ⟨rfl, Fr.refl _ _⟩
end Go.Proofs.Ytgfdbjeliojhkaa
