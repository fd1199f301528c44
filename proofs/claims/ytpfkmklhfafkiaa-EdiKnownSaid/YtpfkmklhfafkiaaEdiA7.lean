/-
  EdiA7: contract of own: segments in memory of their own. No condition beyond those stated.
-/
import Derived.Test.YtpfkmklhfafkiaaEdiA6
import Derived.Test.YtpfkmklhfafkiaaEdiA1
import Derived.Test.YtpfkmklhfafkiaaEdiZ2
namespace Go.Proofs.Ytpfkmklhfafkiaa
open Go.RowKit
def OwnQ (w : World) (l : List Seg) (e : Ending) (w' : World) : Prop := ∃ v' xs, e = .returned v' ∧ OO w.heap.size w' v' xs l
theorem cells_two (w : World) (x y : Value) (t : TypeId) : ∀ (j : Nat) (u : Value), [x, y][j]? = some u → (w.alloc (.cells #[x, y] t)).cell? ((⟨w.heap.size, 0, none⟩ : Addr).add j) = some u := by
  intro j u hj
  match j, hj with
  | 0, hj => simp at hj; subst hj; simp [Addr.add]
  | 1, hj => simp at hj; subst hj; simp [Addr.add]
/-- components behind, all at once -/
theorem wp_app_row {ops : Array Oper} {rest : List Oper} {o : Oper} {a : Act} {Q : Exit → Act → World → Prop} (hgd : o.guard = none) (s x : Operand)
    (ho : o.op = .call { callee := .builtin .append, args := #[s, x], argTypes := #[38, 38] })
    {w : World} {B : Nat} {v src : Value} {n : Nat} {xs : List Value} {T : Nat → Prop} {e : List Str} (hs : a.eval s = v) (hx : a.eval x = src) (hown : w.ownsRow B 9 1 v n xs) (hco : CompsAt T w src e) (hl : n + e.length ≤ 1048576) (hB : B ≤ w.heap.size)
    (h : ∀ v' w', w'.ownsRow B 9 1 v' (n + e.length) (xs ++ e.map sv) → w.grownBy w' v.ownBlock → (v'.ownBlock = v.ownBlock ∨ v'.ownBlock = some w.heap.size) → wpList Try.prog ops Q rest (a.put o.dst v') w') :
    wpList Try.prog ops Q (o :: rest) a w := by
  obtain ⟨i0, hi, hz0, hz1, hz2⟩ := info_parts einfo_str
  obtain ⟨ao, cap, rfl, h1, h2, h3, h4⟩ := hco
  rw [List.length_map] at h1 hx
  cases ao with
  | none =>
    have hc := h3 rfl
    have hz : e.length = 0 := by omega
    have he := List.length_eq_zero_iff.1 hz
    subst he
    subst hc
    exact wpList_append_own_none hgd s x 38 ho B 9 i0 1 Try.underlying38 hi v n xs hs hown hx (h v w (by simpa using hown) ⟨rfl, rfl, rfl, Nat.le_refl _, fun _ _ _ => rfl⟩ (.inl rfl))
  | some ad =>
    refine wpList_append_own_at _ hgd s x 38 ho B 9 i0 (.string ⟨#[]⟩) 1 16 Try.underlying38 hi hz0 hz1 hz2 rfl (by decide) v n xs hs hown ad e.length cap (e.map sv) hx (by simp) (fun j u hu => ?_) (by simp [Value.oneCell', sv]) (by unfold maxLen; omega) (by omega) hB ?_
    · obtain ⟨b, off, rb, _, hc⟩ := h4 (by intro e0; rw [e0] at hu; simp at hu)
      cases rb
      rw [Addr.add_mid]; exact hc j u hu
    · intro v' w' g1 g2 _ g4
      exact h v' w' g1 g2 g4
set_option maxRecDepth 100000 in
set_option maxHeartbeats 8000000 in
theorem own_any {S : Nat → Prop} (w : World) (v : Value) (l : List Seg) (h : SegsAt S w v l) (hS : ∀ k, S k → k < w.heap.size) (hP : (printT l).length ≤ 1048576) :
    Calls Try.prog 11 #[v] w fun e w' => OwnQ w l e w' ∧ Below w.heap.size w w' := by
  have hb := bds_of hP
  obtain ⟨ao, cap, rfl, h1, h2⟩ := h.form
  have H := Lib.hid (h.cong (T := Low w) hS (fun _ _ => rfl))
  have hn := hb.n
  have HBD := Lib.hid hb
  obtain ⟨n, hln⟩ : ∃ n, l.length = n := ⟨_, rfl⟩
  have HLN := Lib.hid hln
  rw [hln] at h1 hn H ⊢
  clear hb hP hln h hS
  unfold maxLen at h2
  obtain ⟨B, hB⟩ : ∃ B, w.heap.size = B := ⟨_, rfl⟩
  have HBQ := Lib.hid hB
  unfold OwnQ
  rw [hB]
  clear hB
  obtain ⟨i1, hi1, hz10, hz11, hz12⟩ := info_parts einfo_str
  obtain ⟨i2, hi2, hz20, hz21, hz22⟩ := info_parts einfo_strs
  obtain ⟨i3, hi3, hz30, hz31, hz32⟩ := info_parts einfo_seg
  have HI1 := Lib.hid hi1
  have HZ10 := Lib.hid hz10
  have HZ11 := Lib.hid hz11
  have HZ12 := Lib.hid hz12
  have HI2 := Lib.hid hi2
  have HZ20 := Lib.hid hz20
  have HZ21 := Lib.hid hz21
  have HZ22 := Lib.hid hz22
  have HI3 := Lib.hid hi3
  have HZ30 := Lib.hid hz30
  have HZ31 := Lib.hid hz31
  have HZ32 := Lib.hid hz32
  clear hi1 hz10 hz11 hz12 hi2 hz20 hz21 hz22 hi3 hz30 hz31 hz32
  go_enter Try.func11, Try.ntmps11
  go_wp2_with fail
  go_loopw [3, 4] (fun ov i wr => ∃ (k : Nat) (xs : List Value), k ≤ n ∧ i = .int .i64 (k : Int) ∧ Hid (OO B wr ov xs (l.take k)) ∧ Hid (Below B w wr)) (fun _ i _ => n - (intOf i).toNat)
  case atStart => exact ⟨0, [], by omega, rfl, Lib.hid (OO.start _ _), Lib.hid (Below.refl _ _)⟩
  case round =>
    obtain ⟨k, xs, hk, rfl, HO, HBE⟩ := hrel
    by_cases hlt : k < n
    · skip
      obtain ⟨s, hs⟩ : ∃ s, l[k]? = some s := ⟨_, List.getElem?_eq_getElem (by rw [HLN.out]; exact hlt)⟩
      obtain ⟨sb, off, x, rfl, hsb, c0, c1, hel⟩ := H.out.get hs
      obtain ⟨t, es⟩ := s
      obtain ⟨eo, ecap, rfl, he1, he2⟩ := hel.form
      have HEL := Lib.hid hel
      have hsb' : sb < B := by rw [← HBQ.out]; exact hsb
      have d0 := (HBE.out.cell (p := ⟨sb, off + k * 2, none⟩) hsb').trans c0
      have HC1 := Lib.hid c1
      have HS := Lib.hid hs
      have hbs := HBD.out.seg ⟨t, es⟩ (List.mem_of_getElem? hs)
      have HBE1 := Lib.hid (HBD.out.el ⟨t, es⟩ (List.mem_of_getElem? hs))
      have hws := HBE.out.size
      rw [HBQ.out] at hws
      obtain ⟨hbt, hbe, hbg⟩ := hbs
      obtain ⟨st, hst⟩ : ∃ st : ByteArray, (⟨t.toArray⟩ : ByteArray) = st := ⟨_, rfl⟩
      have HST := Lib.hid hst
      obtain ⟨m0, hm0⟩ : ∃ m0, es.length = m0 := ⟨_, rfl⟩
      have HM0 := Lib.hid hm0
      simp only [sv] at d0
      rw [hst] at d0
      simp only at he1 hbe HC1
      rw [hm0] at he1 hbe HC1
      unfold maxLen at he2
      clear hs hsb c0 c1 hel hst hm0 hbt hbg
      have b1 : (0 : Int) ≤ k := by omega
      have b2 : (k : Int) < n := by omega
      go_upto_region 6 with fail
      obtain ⟨Hz, hHz⟩ : ∃ z, wr.heap.size = z := ⟨_, rfl⟩
      obtain ⟨w2, hw2⟩ : ∃ w2, wr.alloc (.cells #[.string st, .slice none 0 0] 37) = w2 := ⟨_, rfl⟩
      have HE0 : Hid (OE Hz Hz st w2 (.slice none 0 0) [] []) := Lib.hid (OE.start (by rw [← hw2, ← hHz]; exact heap_alloc_new _ _))
      have HB0 : Hid (Below Hz wr w2) := Lib.hid (by rw [← hw2, ← hHz]; exact (Below.refl _ _).alloc (Nat.le_refl _) _)
      have hz2 : w2.heap.size = Hz + 1 := by rw [← hw2, ← hHz]; simp
      have HZ2 := Lib.hid hz2
      have HHZ := Lib.hid hHz
      rw [hHz, hw2]
      rw [hHz] at hws
      clear hw2 hHz hz2 d0
      go_wp2_with fail
      go_loopw [6] (fun i wx => ∃ (m : Nat) (ev : Value) (ys : List Value), m ≤ m0 ∧ i = .int .i64 (m : Int) ∧ Hid (OE Hz Hz st wx ev ys (es.take m)) ∧ Hid (Below Hz wr wx) ∧ Hz < wx.heap.size) (fun i _ => m0 - (intOf i).toNat)
      case atStart => exact ⟨0, _, [], by omega, rfl, HE0, HB0, by rw [HZ2.out]; omega⟩
      case round =>
        obtain ⟨m, ev, ys, hm, rfl, HE1, HB1, hzx⟩ := hrel
        clear HE0 HB0
        have d1 := (HB1.out.cell (p := ⟨sb, off + k * 2 + 1, none⟩) (show sb < Hz by omega)).trans ((HBE.out.cell (p := ⟨sb, off + k * 2 + 1, none⟩) hsb').trans HC1.out)
        by_cases hml : m < m0
        · skip
          obtain ⟨e, he⟩ : ∃ e, es[m]? = some e := ⟨_, List.getElem?_eq_getElem (by rw [HM0.out]; exact hml)⟩
          obtain ⟨eb, eoff, x2, rfl, heb, e0, hco⟩ := HEL.out.get he
          obtain ⟨ea, ecap2, rfl, hc1, hc2⟩ := hco.form
          have heb' : eb < B := by rw [← HBQ.out]; exact heb
          have hag : ∀ b, b < B → wr.heap[b]? = w.heap[b]? := fun b hb => (HB1.out.block b (by omega)).trans (HBE.out.block b hb)
          have e1 := (cell_ag (j := eoff + m) (hag eb heb')).trans e0
          have HCO := Lib.hid (hco.cong (T := fun b => b < B) (fun b hb => by rw [← HBQ.out]; exact hb) (fun b hb => hag b (by rw [← HBQ.out]; exact hb)))
          obtain ⟨hne1, hne2⟩ := HBE1.out e (List.mem_of_getElem? he)
          have HE := Lib.hid he
          have hlm : (es.take m).length = m := by rw [List.length_take, HM0.out]; omega
          obtain ⟨eva, evc, rfl⟩ := own_slice HE1.out.row
          rw [hlm] at HE1
          obtain ⟨f0, f1, fz⟩ := HE1.out.cells
          obtain ⟨ne, hne⟩ : ∃ ne, e.length = ne := ⟨_, rfl⟩
          have HNE := Lib.hid hne
          rw [hne] at e1 hne1 hc1 HCO
          have b3 : (0 : Int) ≤ m := by omega
          have b4 : (m : Int) < m0 := by omega
          have HLM := Lib.hid hlm
          unfold maxLen at hc2
          clear he heb e0 hco hne hag hlm f0
          go_upto_region 9 with fail
          obtain ⟨wd, hwd⟩ : ∃ wd, wr.drew = wd := ⟨_, rfl⟩
          have hwh : wd.heap = wr.heap := by rw [← hwd]; rfl
          have HE2 := Lib.hid (HE1.out.drew hwh)
          have HB2 := Lib.hid (show Below wr.heap.size wr wd by rw [← hwd]; exact (Below.refl _ _).drew)
          have f1' : wd.cell? ⟨Hz, 1, none⟩ = some (.slice eva m evc) := (cell_ag (by rw [hwh])).trans f1
          have fz' : wd.frozen? ⟨Hz, 1, none⟩ = false := (fz_ag (by rw [hwh])).trans fz
          have d1' : wd.cell? ⟨sb, off + k * 2 + 1, none⟩ = some (.slice (some ⟨eb, eoff, none⟩) m0 ecap) := (cell_ag (by rw [hwh])).trans d1
          have e1' : wd.cell? ⟨eb, eoff + m, none⟩ = some (.slice ea ne ecap2) := (cell_ag (by rw [hwh])).trans e1
          have HCO2 := Lib.hid (HCO.out.cong (T := fun b => b < B) (fun b hb => hb) (w' := wd) (fun b _ => by rw [hwh]))
          have HWS := Lib.hid (show wd.heap.size = wr.heap.size by rw [hwh])
          refine wp_region_planF 15 [(0, false), (1, false), (3, false), (4, false), (5, false), (6, false), (7, false), (8, false), (9, false), (10, false), (2, true), (11, true), (12, true), (13, true), (14, false), (15, true)]
            (fun w' => w'.cell? ⟨Hz, 1, none⟩ = some (.slice eva m evc) ∧ w'.cell? ⟨sb, off + k * 2 + 1, none⟩ = some (.slice (some ⟨eb, eoff, none⟩) m0 ecap) ∧ w'.cell? ⟨eb, eoff + m, none⟩ = some (.slice ea ne ecap2)) (by kernel_rfl) (by kernel_rfl) (by rw [hwd]; exact ⟨f1', d1', e1'⟩) ?_
          rw [hwd]
          have HF1 := Lib.hid f1'
          have HFZ := Lib.hid fz'
          have HD1 := Lib.hid d1'
          have HE3 := Lib.hid e1'
          clear hwd hwh f1 fz d1 e1 HE1 HCO f1' fz' d1' e1'
          iterate 10 (refine' planF_val rfl rfl (fun w' hS => ?_) ?_; rotate_left; (focus (obtain ⟨hS1, hS2, hS3⟩ := hS; go_simp; rfl)); simp only [Act.put, List.setIfInBounds_toArray, List.set_cons_zero, List.set_cons_succ])
          refine planF_do rfl (fun K hK => ?_)
          go_wp2_with fail
          have KEEP : ∀ w' : World, (∀ b, b < wd.heap.size → w'.heap[b]? = wd.heap[b]?) → (w'.cell? ⟨Hz, 1, none⟩ = some (.slice eva m evc) ∧ w'.cell? ⟨sb, off + k * 2 + 1, none⟩ = some (.slice (some ⟨eb, eoff, none⟩) m0 ecap) ∧ w'.cell? ⟨eb, eoff + m, none⟩ = some (.slice ea ne ecap2)) := fun w' hw' =>
            ⟨(cell_ag (hw' _ (cell_lt' HF1.out))).trans HF1.out, (cell_ag (hw' _ (cell_lt' HD1.out))).trans HD1.out, (cell_ag (hw' _ (cell_lt' HE3.out))).trans HE3.out⟩
          have HKEEP := Lib.hid KEEP
          clear KEEP
          refine hK _ _ (.inr (HKEEP.out _ (fun b hb => Below.heap_alloc _ _ _ hb))) ?_
          clear hK K
          obtain ⟨D, hD⟩ : ∃ D, wd.heap.size = D := ⟨_, rfl⟩
          obtain ⟨we, hwe⟩ : ∃ we, wd.alloc (.cells #[] 9) = we := ⟨_, rfl⟩
          have HOe : Hid (we.ownsRow D 9 1 (.slice (some ⟨D, 0, none⟩) 0 0) 0 []) := Lib.hid (by
            rw [← hwe, ← hD]
            exact ⟨rfl, .inr ⟨wd.heap.size, 0, #[], rfl, Nat.le_refl _, heap_alloc_new _ _, Nat.le_refl _, by decide, rfl, rfl⟩⟩)
          have HBe := Lib.hid (show Below D wd we by rw [← hwe, ← hD]; exact (Below.refl _ _).alloc (Nat.le_refl _) _)
          have hze : we.heap.size = D + 1 := by rw [← hwe, ← hD]; simp
          have HZE := Lib.hid hze
          have HDD := Lib.hid hD
          have hBD : B ≤ D := by have h1 := HWS.out; rw [← hD, h1]; omega
          have HCO3 := Lib.hid (HCO2.out.cong (T := fun b => b < B) (fun b hb => hb) (w' := we) (fun b hb => HBe.out.block b (by omega)))
          rw [hD, hwe]
          clear hD hwe hze
          refine planF_do rfl (fun K hK => ?_)
          refine wp_app_row rfl _ _ rfl rfl rfl HOe.out HCO3.out (by rw [HNE.out]; omega) (by rw [HZE.out]; omega) ?_
          intro cv wf hof hgf hkf
          rw [HNE.out, Nat.zero_add, List.nil_append] at hof
          obtain ⟨cva, cvc, rfl⟩ := own_slice hof
          have hzf := hgf.size
          rw [HZE.out] at hzf
          have HBf := Lib.hid (HBe.out.grown hgf (by rw [HZE.out]; omega) (fun b hb => by cases hb; exact Nat.le_refl _))
          have HCV : Hid (CompsAt (fun b => D ≤ b ∧ b < wf.heap.size) wf (.slice cva ne cvc) e) := Lib.hid (by
            have h1 : wf.ownsRow D 9 1 (.slice cva ne cvc) (e.map sv).length (e.map sv) := by rw [List.length_map, HNE.out]; exact hof
            exact own_rest h1 (fun b hb => own_lt hof hb))
          clear hof hgf hkf
          go_wp2_with fail
          refine hK _ _ (.inr (HKEEP.out _ (fun b hb => HBf.out.block b (by rw [← HDD.out]; exact hb)))) ?_
          clear hK K
          refine planF_do rfl (fun K hK => ?_)
          go_wp2_with fail
          refine hK _ _ (.inr (HKEEP.out _ (fun b hb => (Below.heap_alloc _ _ _ (by rw [HDD.out] at hb; omega)).trans (HBf.out.block b (by rw [← HDD.out]; exact hb))))) ?_
          clear hK K
          refine planF_do rfl (fun K hK => ?_)
          have hrow : wf.ownsRow Hz 38 1 (.slice eva m evc) m ys := by
            have h1 := HE2.out.row
            rw [HLM.out] at h1
            exact own_cong h1 (fun b hb => HBf.out.block b (by rw [← HDD.out]; exact (own_lt h1 hb).2))
          have HRW := Lib.hid hrow
          have hspD : Hz < D := by have h1 := HE2.out.lt; rw [HDD.out] at h1; exact h1
          clear hrow
          refine wpList_append_own_at _ rfl _ _ 35 rfl Hz 38 i2 (.slice none 0 0) 1 24 Try.underlying35 HI2.out HZ20.out HZ21.out HZ22.out rfl (by decide) _ _ _ rfl (HRW.out.alloc _) ⟨wf.heap.size, 0, none⟩ 1 1 [.slice cva ne cvc] rfl rfl (cell_one_new _ _ _) (by simp [Value.oneCell']) (by unfold maxLen; omega) (by omega) (by simp; omega) ?_
          intro ev' wg hog hgg _ hkg
          obtain ⟨ev'a, ev'c, rfl⟩ := own_slice hog
          have hgg' := grown_alloc hgg
          have hzg := hgg'.size
          have hne1 : (Value.slice eva m evc).ownBlock ≠ some Hz := own_not HE2.out.row HE2.out.c (by decide)
          have cg : wg.heap[Hz]? = some (.cells #[.string st, .slice eva m evc] 37 (0, 0)) := (hgg'.block Hz (by omega) (fun e => hne1 e.symm)).trans ((HBf.out.block Hz hspD).trans HE2.out.c)
          have cg1 : wg.cell? ⟨Hz, 1, none⟩ = some (.slice eva m evc) := cell_of_row wg Hz 1 _ _ _ cg
          have fg1 : wg.frozen? ⟨Hz, 1, none⟩ = false := frozen_of_row wg Hz 1 _ _ cg
          have HSTEP : Hid (OE Hz Hz st (wg.setCell ⟨Hz, 1, none⟩ (.slice ev'a (m + 1) ev'c)) (.slice ev'a (m + 1) ev'c) (ys ++ [.slice cva ne cvc]) (es.take m ++ [e])) := Lib.hid (by
            refine OE.step HE2.out (by rw [HDD.out]; omega) (by rw [HDD.out]; exact HBf.out) (by rw [HDD.out]; exact HCV.out) hgg' (by rw [HLM.out]; exact hog) ?_
            rcases hkg with h | h
            · exact .inl h
            · exact .inr ⟨_, h, by simp⟩)
          have hbel : ∀ b, b < wd.heap.size → (Value.slice eva m evc).ownBlock ≠ some b → wg.heap[b]? = wd.heap[b]? := fun b hb hne => (hgg'.block b (by rw [HDD.out] at hb; omega) (fun e => hne e.symm)).trans (HBf.out.block b (by rw [← HDD.out]; exact hb))
          have hnb : ∀ b, b < Hz → (Value.slice eva m evc).ownBlock ≠ some b := fun b hb he => by have := (own_lt HRW.out he).1; omega
          have KS : wg.cell? ⟨Hz, 1, none⟩ = some (.slice eva m evc) ∧ wg.cell? ⟨sb, off + k * 2 + 1, none⟩ = some (.slice (some ⟨eb, eoff, none⟩) m0 ecap) ∧ wg.cell? ⟨eb, eoff + m, none⟩ = some (.slice ea ne ecap2) :=
            ⟨cg1, (cell_ag (hbel sb (cell_lt' HD1.out) (hnb sb (by omega)))).trans HD1.out, (cell_ag (hbel eb (cell_lt' HE3.out) (hnb eb (by omega)))).trans HE3.out⟩
          have HBG : Hid (Below Hz wr wg) := Lib.hid (by
            have h1 := (HBf.out.mono (show Hz ≤ D by omega))
            have h2 := HB2.out.mono (show Hz ≤ wr.heap.size by omega)
            have h3 := h2.trans h1
            exact h3.grown hgg' (by omega) (fun b hb => (own_lt HRW.out hb).1))
          have HKS := Lib.hid KS
          clear hog hgg hkg hgg' hne1 cg hbel hnb KS
          go_wp2_with fail
          refine hK _ _ (.inr HKS.out) ?_
          clear hK K
          iterate 1 (refine' planF_val rfl rfl (fun w' hS => ?_) ?_; rotate_left; (focus (obtain ⟨hS1, hS2, hS3⟩ := hS; go_simp; rfl)); simp only [Act.put, List.setIfInBounds_toArray, List.set_cons_zero, List.set_cons_succ])
          refine planF_do rfl (fun K hK => ?_)
          go_wp2_with fail
          refine hK _ _ (.inl trivial) ?_
          clear hK K
          refine planF_nil ?_
          clear cg1 fg1
          obtain ⟨wh, hwh⟩ : ∃ wh, wg.setCell ⟨Hz, 1, none⟩ (.slice ev'a (m + 1) ev'c) = wh := ⟨_, rfl⟩
          have hzh : wh.heap.size = wg.heap.size := by rw [← hwh]; simp
          have HBH : Hid (Below Hz wr wh) := Lib.hid (by rw [← hwh]; exact HBG.out.setCell (Nat.le_refl _) _)
          rw [hwh] at HSTEP ⊢
          have HHB := Lib.hid (HB1.out.trans HBH.out)
          have hzz : Hz < wh.heap.size := by omega
          clear hwh hzh
          go_wp2_with fail
          go_roundw
          case rel =>
            exact ⟨m + 1, .slice ev'a (m + 1) ev'c, ys ++ [.slice cva ne cvc], by omega, by go_num, Lib.hid (by rw [List.take_add_one, HE.out]; exact HSTEP.out), Lib.hid HHB.out, hzz⟩
          case measure => simp [intOf]; omega
        · skip
          obtain rfl : m = m0 := by omega
          have hte : es.take m = es := List.take_of_length_le (by rw [HM0.out]; exact Nat.le_refl _)
          rw [hte] at HE1
          obtain ⟨eva, evc, rfl⟩ := own_slice HE1.out.row
          have hlo : (l.take k).length = k := by rw [List.length_take, HLN.out]; omega
          have hro := HO.out.row
          rw [hlo] at hro
          have hHB := HB1.out.size
          have hro2 : wr.ownsRow B 37 2 u3 k (segCells (l.take k) xs) := own_cong hro (fun b hb => HB1.out.block b (by rw [← HHZ.out]; exact (own_lt hro hb).2))
          obtain ⟨oa, oc, rfl⟩ := own_slice hro2
          have HRO := Lib.hid hro2
          have HLO := Lib.hid hlo
          obtain ⟨f0, f1, fz⟩ := HE1.out.cells
          rw [HM0.out] at f1
          have HB3 := Lib.hid (show Below B w wr from HBE.out.trans (HB1.out.mono hws))
          clear hte hlo hro hro2 fz
          go_wp2_with ((with_reducible refine wpList_at (.call { callee := .builtin .append, args := #[.tmp 44, .tmp 46], argTypes := #[22, 22] }) rfl ?_); go_loud (refine wpList_append_own_at _ rfl _ _ 22 rfl B 37 i3 (.agg #[.string ⟨#[]⟩, .slice none 0 0]) 2 40 Try.underlying22 HI3.out HZ30.out HZ31.out HZ32.out rfl (by decide) _ _ _ rfl (HRO.out.alloc _) ⟨wr.heap.size, 0, none⟩ 1 1 [.string st, .slice eva m evc] rfl rfl (cells_two _ _ _ _) (by simp [Value.oneCell']) (by unfold maxLen; omega) (by omega) (by simp; omega) ?_); intro ov' w4 ho hg _ hk; have HO4 := Lib.hid ho; have HG4 := Lib.hid (show World.grownBy _ w4 (Value.slice oa k oc).ownBlock from hg); have HK4 : Hid (ov'.ownBlock = (Value.slice oa k oc).ownBlock ∨ ∃ b, ov'.ownBlock = some b ∧ wr.heap.size ≤ b) := Lib.hid (by rcases hk with h | h; exact .inl h; exact .inr ⟨_, h, by simp⟩); clear ho hg hk)
          go_roundw
          case rel =>
            have hg := grown_alloc HG4.out
            have hst := OO.step HO.out HST.out HHZ.out (by omega) HB1.out (by have h := HE1.out; rw [HM0.out] at h; exact h) hg (by rw [HLO.out]; exact HO4.out) HK4.out
            exact ⟨k + 1, xs ++ [.slice eva m evc], by omega, by go_num, Lib.hid (by rw [List.take_add_one, HS.out]; exact hst), Lib.hid (HB3.out.grown hg (by omega) (fun b hb => (own_lt HRO.out hb).1))⟩
          case measure => simp [intOf]; omega
    · skip
      obtain rfl : k = n := by omega
      have hte : l.take k = l := List.take_of_length_le (by rw [HLN.out]; exact Nat.le_refl _)
      have HTE := Lib.hid hte
      clear hte
      go_wp2_with fail
      go_ret
      have h := HO.out
      rw [HTE.out] at h
      exact ⟨⟨_, _, rfl, h⟩, HBE.out⟩
end Go.Proofs.Ytpfkmklhfafkiaa
