/-
  Texts WrapT, PlanT, WrapJ, one behind the other. No condition beyond those stated in each.
-/
import Derived.Test.YteaaiejfieaalaaGreatDoorMg10
import Derived.Test.YteaaiejfieaalaaGreatDoorMg9
import Derived.Test.YteaaiejfieaalaaGreatDoorMg7
import Derived.Test.YteaaiejfieaalaaGreatDoorMg1
/-
  WrapT: contract of the reference's Print of interchanges. No condition beyond those stated.
-/
namespace Go.Proofs.YteaaiejfieaalaaGreatDoor
open Go.RowKit
theorem cat_data' (a b : ByteArray) : (a ++ b).data.toList = a.data.toList ++ b.data.toList := by simp [ByteArray.data_append]
theorem dec_bytes {u : Nat} (hu : u < 18446744073709551616) : ∃ da : ByteArray, (⟨(decT u).toArray⟩ : ByteArray) = da ∧ da.data.toList = decT u ∧ da.size ≤ 20 := ⟨_, rfl, rfl, by have := dec_len20 hu; simpa [ByteArray.size] using this⟩
theorem rdec_q {u : Nat} (hu : u < 18446744073709551616) {da : ByteArray} (hd : (⟨(decT u).toArray⟩ : ByteArray) = da) (w : World) : Calls Tryz.prog 19 #[.int .u64 (u : Int)] w fun e w' => e = .returned (.string da) ∧ ∃ d, w' = w.drewN d := by
  rw [← hd]; exact rdec_any u hu w
theorem sv_data' (r : ByteArray) : sv r.data.toList = .string r := by cases r; rfl
set_option maxRecDepth 100000 in
set_option maxHeartbeats 8000000 in
theorem r4Print_any {S : Nat → Prop} (x : WD) (v : Value) (w : World) (h1 : x.fr < 256) (h2 : x.dst < 256) (h3 : x.rf < 18446744073709551616) (hs : SegsAt S w v x.segs) (hS : ∀ k, S k → k < w.heap.size) (hP : (printT x.segs).length ≤ 1048576) :
    Calls Tryz.prog 16 #[wv x v] w fun e w' => WPrintQ x w e w' := by
  obtain ⟨fr, dst, rf, m⟩ := x
  simp only at h1 h2 h3 hs hP
  obtain ⟨B, hB⟩ : ∃ B, w.heap.size = B := ⟨_, rfl⟩
  have HBQ := Lib.hid hB
  have HS := Lib.hid hS
  have HSG := Lib.hid hs
  have HPL := Lib.hid hP
  obtain ⟨ao, cap, rfl, c1, c2⟩ := hs.form
  obtain ⟨n, hn⟩ : ∃ n, m.length = n := ⟨_, rfl⟩
  have HN := Lib.hid hn
  rw [hn] at c1 HSG ⊢
  unfold maxLen at c2
  have hbd := (bds_of hP).n
  rw [hn] at hbd
  unfold WPrintQ
  rw [hB]
  obtain ⟨w1, hw1⟩ : ∃ w1, w.alloc (.cells #[.int .u8 (fr : Int), .int .u8 (dst : Int), .int .u64 (rf : Int), .slice ao n cap] 25) = w1 := ⟨_, rfl⟩
  have hz1 : w1.heap.size = B + 1 := by rw [← hw1]; simp [hB]
  have HB1 : Hid (Below B w w1) := Lib.hid (by rw [← hw1, ← hB]; exact (Below.refl _ _).alloc (Nat.le_refl _) _)
  have hr1 : w1.heap[B]? = some (.cells #[.int .u8 (fr : Int), .int .u8 (dst : Int), .int .u64 (rf : Int), .slice ao n cap] 25 (0, 0)) := by rw [← hw1, ← hB]; exact heap_alloc_new _ _
  have HR1 := Lib.hid hr1
  obtain ⟨⟨d0, d1, d2, d3⟩, _⟩ := cells4 hr1
  have HZ1 := Lib.hid hz1
  have HW1 := Lib.hid hw1
  have wr1 : IntKind.u64.wrap (fr : Int) = (fr : Int) := by rw [IntKind.wrap_u64]; omega
  have wr2 : IntKind.u64.wrap (dst : Int) = (dst : Int) := by rw [IntKind.wrap_u64]; omega
  clear hB hs hS hP hn hz1 hw1 hr1
  by_cases g1 : 8 ≤ fr
  · skip
    have i1 : decide ((8 : Int) ≤ (fr : Int)) = true := by rw [decide_eq_true_eq]; omega
    have hE : wrapPrintE ⟨fr, dst, rf, m⟩ = ([], 1) := by unfold wrapPrintE; rw [if_pos (.inl g1)]
    have HE := Lib.hid hE
    clear hE
    unfold wv
    go_enter Tryz.func16, Tryz.ntmps16
    go_upto_region 1 with fail
    rw [HW1.out, HBQ.out]
    go_wp2_with fail
    go_ret2
    rw [HE.out]
    exact ⟨rfl, HB1.out⟩
  have i1 : decide ((8 : Int) ≤ (fr : Int)) = false := by rw [decide_eq_false_iff_not]; omega
  by_cases g2 : 8 ≤ dst
  · skip
    have i2 : decide ((8 : Int) ≤ (dst : Int)) = true := by rw [decide_eq_true_eq]; omega
    have hE : wrapPrintE ⟨fr, dst, rf, m⟩ = ([], 1) := by unfold wrapPrintE; rw [if_pos (.inr g2)]
    have HE := Lib.hid hE
    clear hE
    unfold wv
    go_enter Tryz.func16, Tryz.ntmps16
    go_upto_region 1 with fail
    rw [HW1.out, HBQ.out]
    go_wp2_with fail
    go_ret2
    rw [HE.out]
    exact ⟨rfl, HB1.out⟩
  have i2 : decide ((8 : Int) ≤ (dst : Int)) = false := by rw [decide_eq_false_iff_not]; omega
  by_cases g3 : 62 < n
  · skip
    have i3 : decide ((64 : Int) < (n : Int) + 2) = true := by rw [decide_eq_true_eq]; omega
    have hE : wrapPrintE ⟨fr, dst, rf, m⟩ = ([], 2) := by unfold wrapPrintE; rw [if_neg (by simp only; omega), if_pos (by simp only; rw [HN.out]; exact g3)]
    have HE := Lib.hid hE
    clear hE
    unfold wv
    go_enter Tryz.func16, Tryz.ntmps16
    go_upto_region 1 with fail
    rw [HW1.out, HBQ.out]
    go_wp2_with fail
    go_ret2
    rw [HE.out]
    exact ⟨rfl, HB1.out⟩
  · skip
    have i3 : decide ((64 : Int) < (n : Int) + 2) = false := by rw [decide_eq_false_iff_not]; omega
    have HL0 := Lib.hid (show ¬ 62 < m.length by rw [HN.out]; exact g3)
    have HE := Lib.hid (wrapPrintE_ref ⟨fr, dst, rf, m⟩ h3 (by simp only; omega) HL0.out)
    have wr3 : IntKind.u64.wrap (n : Int) = (n : Int) := by rw [IntKind.wrap_u64]; omega
    obtain ⟨da, ea, la, sa⟩ := dec_bytes (show fr < 18446744073709551616 by omega)
    obtain ⟨db, eb, lb, sb⟩ := dec_bytes (show dst < 18446744073709551616 by omega)
    obtain ⟨dc, ec, lc, sc⟩ := dec_bytes h3
    obtain ⟨dn, en, ln, sn⟩ := dec_bytes (show n < 18446744073709551616 by omega)
    have KA := Lib.hid (fun w => rdec_q (show fr < 18446744073709551616 by omega) ea w)
    have KB := Lib.hid (fun w => rdec_q (show dst < 18446744073709551616 by omega) eb w)
    have KC := Lib.hid (fun w => rdec_q h3 ec w)
    have KN := Lib.hid (fun w => rdec_q (show n < 18446744073709551616 by omega) en w)
    have LA := Lib.hid la
    have LB := Lib.hid lb
    have LC := Lib.hid lc
    have LN := Lib.hid ln
    have H3 := Lib.hid h3
    clear ea eb ec en la lb lc ln h3 h1 h2
    obtain ⟨R, hR⟩ : ∃ R, printE m = R := ⟨_, rfl⟩
    obtain ⟨rs, rn⟩ := R
    obtain ⟨ra, hra⟩ : ∃ ra : ByteArray, (⟨rs.toArray⟩ : ByteArray) = ra := ⟨_, rfl⟩
    have HRAD := Lib.hid (show ra.data.toList = rs by rw [← hra])
    have HPR := Lib.hid (rPrint_any (S := S) w1 (.slice ao n cap) m (HSG.out.cong (fun _ hk => hk) (fun k hk => HB1.out.block k (by rw [← HBQ.out]; exact HS.out k hk))) (fun k hk => by rw [HZ1.out]; have := HS.out k hk; rw [HBQ.out] at this; omega) HPL.out)
    rw [hR] at HPR
    have HR := Lib.hid hR
    simp only [sv, hra] at HPR
    have hrl : ra.size ≤ 65536 := by
      have hp : rs.length ≤ 65536 := by
        have h := hR
        unfold printE at h
        split at h
        · cases h; simp
        · split at h
          · cases h; simp
          · split at h
            · cases h; simp
            · rename_i hh
              cases h
              simp only [Bool.or_eq_true, decide_eq_true_eq, not_or] at hh
              omega
      rw [← HRAD.out] at hp
      simpa using hp
    have HRL := Lib.hid hrl
    clear hR hra hrl
    unfold wv
    go_enter Tryz.func16, Tryz.ntmps16
    go_upto_region 1 with fail
    rw [HW1.out, HBQ.out]
    go_upto_region 6 with ((with_reducible refine HPR.out.mono ?_); rintro e w2 ⟨rfl, hb2⟩; rw [HZ1.out] at hb2; have HB2 := Lib.hid hb2; clear hb2)
    have HBW := Lib.hid (HB1.out.trans (HB2.out.mono (by omega)))
    obtain ⟨⟨q0, q1, q2, q3⟩, _⟩ := cells4 ((HB2.out.block B (by omega)).trans HR1.out)
    clear d0 d1 d2 d3 HPR
    by_cases hrn : rn = 0
    · subst hrn
      have hrl := HRL.out
      go_upto_region 8 with fail
      go_quiet ((first | (with_reducible exact Calls.quiet_of (KA.out _)) | (with_reducible exact Calls.quiet_of (KB.out _)) | (with_reducible exact Calls.quiet_of (KC.out _)) | (with_reducible exact Calls.quiet_of (KN.out _))))
      obtain ⟨X, hX⟩ : ∃ X : ByteArray, (⟨#[85, 78, 66, 43]⟩ : ByteArray) ++ da ++ (⟨#[43]⟩ : ByteArray) ++ db ++ (⟨#[43]⟩ : ByteArray) ++ dc ++ (⟨#[39]⟩ : ByteArray) ++ ra ++ (⟨#[85, 78, 90, 43]⟩ : ByteArray) ++ dn ++ (⟨#[43]⟩ : ByteArray) ++ dc ++ (⟨#[39]⟩ : ByteArray) = X := ⟨_, rfl⟩
      have hXd : X.data.toList = roundT fr dst rf n rf rs := by
        rw [← hX]
        simp only [cat_data', LA.out, LB.out, LC.out, LN.out, HRAD.out]
        unfold roundT unb unz
        simp
      rw [hX]
      have hXs : X.size = (roundT fr dst rf n rf rs).length := by rw [← hXd]; simp
      have HXD := Lib.hid hXd
      have HXS := Lib.hid hXs
      have HE2 := HE.out
      rw [HR.out, HN.out, if_neg (by simp)] at HE2
      have HE3 := Lib.hid HE2
      clear hX hXd hXs HE HE2 q0 q1 q2 q3
      by_cases hx : 65536 < X.size
      · have e7 : decide ((65536 : Int) < (X.size : Int)) = true := by rw [decide_eq_true_eq]; omega
        go_wp2_with fail
        go_ret2
        rw [HE3.out, if_pos (by rw [← HXS.out]; exact hx)]
        exact ⟨rfl, HBW.out.trans (Drew.below ⟨_, rfl⟩ _)⟩
      · have e7 : decide ((65536 : Int) < (X.size : Int)) = false := by rw [decide_eq_false_iff_not]; omega
        go_wp2_with fail
        go_ret2
        rw [HE3.out, if_neg (by rw [← HXS.out]; exact hx), ← HXD.out]
        exact ⟨by rw [sv_data']; rfl, HBW.out.trans (Drew.below ⟨_, rfl⟩ _)⟩
    · have d0 : (rn != 0) = true := by rw [bne_iff_ne]; exact hrn
      have HRN := Lib.hid hrn
      clear hrn
      go_wp2_with fail
      go_ret2
      rw [HE.out, HR.out, if_pos HRN.out]
      exact ⟨rfl, HBW.out⟩
end Go.Proofs.YteaaiejfieaalaaGreatDoor

/-
  PlanT: a region that draws its order, walked along a plan that may part in two where two operations may come up. No condition beyond those stated.
-/
namespace Go.Proofs.YteaaiejfieaalaaGreatDoor
open Go.RowKit
inductive PT where
  | nil : PT
  | val : Nat → PT → PT
  | one : Nat → PT → PT
  | two : Nat → PT → Nat → PT → PT
def PT.len : PT → Nat
  | .nil => 0
  | .val _ r => r.len + 1
  | .one _ r => r.len + 1
  | .two _ r _ _ => r.len + 1
def PT.vals : List Nat → PT → PT
  | [], r => r
  | i :: l, r => .val i (PT.vals l r)
section
variable {P : Program} {ops : Array Oper} {Q : Exit → Act → World → Prop} {md : Region.Mode} {S : World → Prop}
def planTB (md : Region.Mode) (ops : Array Oper) : PT → Array Bool → Bool
  | .nil, listed => (Region.ready md ops listed).isEmpty
  | .val i r, listed => (Region.ready md ops listed).contains i && Region.free md ops listed i && planTB md ops r (listed.setIfInBounds i true)
  | .one i r, listed => decide (Region.ready md ops listed = [i]) && planTB md ops r (listed.setIfInBounds i true)
  | .two i r j q, listed => decide (Region.ready md ops listed = [i, j]) && decide (r.len = q.len) && planTB md ops r (listed.setIfInBounds i true) && planTB md ops q (listed.setIfInBounds j true)
def planTOK (md : Region.Mode) (ops : Array Oper) (plan : PT) : Bool :=
  Region.noSelect ops && decide (plan.len = ops.size) && planTB md ops plan (Array.replicate ops.size false)
/-- the walk of such a plan -/
def wpPlanT (P : Program) (ops : Array Oper) (S : World → Prop) (Q : Exit → Act → World → Prop) : PT → Act → World → Prop
  | .nil, a, w => Q .normal a w
  | .val i r, a, w => ∃ o v, ops[i]? = some o ∧ YieldsIf P ops S o v a ∧ wpPlanT P ops S Q r (a.put o.dst v) w
  | .one i r, a, w => wpOp P ops Q i (fun a' w' => S w' ∧ wpPlanT P ops S Q r a' w') a w
  | .two i r j q, a, w => wpOp P ops Q i (fun a' w' => S w' ∧ wpPlanT P ops S Q r a' w') a w ∧ wpOp P ops Q j (fun a' w' => S w' ∧ wpPlanT P ops S Q q a' w') a w
theorem wpPlanT_held (hs : Region.noSelect ops = true) (hQ : ∀ c a d v w, Q (.panic c) (a.put d v) w → Q (.panic c) a w) :
    ∀ (plan : PT) (listed : Array Bool) (a : Act) (w : World), planTB md ops plan listed = true → S w → wpPlanT P ops S Q plan a w → wpAnyH P md ops Q S plan.len listed a w
  | .nil, _, _, _, hB, _, h => ⟨by simpa [planTB] using hB, h⟩
  | .val i r, listed, a, w, hB, hS, h => by
    simp only [planTB, Bool.and_eq_true] at hB
    obtain ⟨o, v, hi, hy, h⟩ := h
    exact wpAnyH_take hi hs hB.1.2 hB.1.1 (fun c a w => hQ c a _ _ w) hy hS (wpPlanT_held hs hQ r _ _ _ hB.2 hS h)
  | .one i r, listed, a, w, hB, hS, h => by
    simp only [planTB, Bool.and_eq_true, decide_eq_true_eq] at hB
    refine wpAnyH_all hB.1 (by simp) (fun j hj => ?_)
    have e : j = i := by simpa using hj
    subst e
    exact wpOp_mono (fun a' w' h' => ⟨h'.1, wpPlanT_held hs hQ r _ _ _ hB.2 h'.1 h'.2⟩) h
  | .two i r j q, listed, a, w, hB, hS, h => by
    simp only [planTB, Bool.and_eq_true, decide_eq_true_eq] at hB
    refine wpAnyH_all hB.1.1.1 (by simp) (fun k hk => ?_)
    have e : k = i ∨ k = j := by simpa using hk
    rcases e with e | e
    · subst e
      exact wpOp_mono (fun a' w' h' => ⟨h'.1, wpPlanT_held hs hQ r _ _ _ hB.1.2 h'.1 h'.2⟩) h.1
    · subst e
      exact wpOp_mono (fun a' w' h' => ⟨h'.1, by
        have h3 := wpPlanT_held hs hQ q _ _ _ hB.2 h'.1 h'.2
        rw [← hB.1.1.2] at h3
        exact h3⟩) h.2
/-- the beginning -/
theorem wp_region_planT {id : Nat} {a : Act} {w : World} {l : List Oper} (plan : PT) (S : World → Prop) (hm : P.follows .mixedOrders = true) (hB : planTOK .any l.toArray plan = true) (hS : S w.drew)
    (h : wpPlanT P l.toArray S (NoPanic Q) plan a w.drew) : (Code.region id l.toArray true).wp P Q a w := by
  simp only [planTOK, Bool.and_eq_true, decide_eq_true_eq] at hB
  refine wp_region_noPanic (wp_region_held (S := S) hm ?_)
  have := wpPlanT_held (md := .any) hB.1.1 (Q := NoPanic Q) (fun c a d v w h => h) plan _ a w.drew hB.2 hS h
  rw [hB.1.2] at this
  exact this
/-- what reads -/
theorem planT_val {l : List Oper} {i : Nat} {o : Oper} {v : Value} {r : PT} {a : Act} {w : World} (hi : nthO l i = some o) (hw : Region.wanted o (yielded l.toArray a.tmps) = true)
    (hrun : ∀ w', S w' → (execOp a.eval o).run P w' = .ok (.value v) w') (h : wpPlanT P l.toArray S Q r (a.put o.dst v) w) : wpPlanT P l.toArray S Q (.val i r) a w :=
  ⟨o, v, by rw [List.getElem?_toArray, ← nthO_eq]; exact hi, .inl ⟨hw, hrun⟩, h⟩
theorem planT_nil {a : Act} {w : World} (h : Q .normal a w) : wpPlanT P ops S (NoPanic Q) .nil a w := h
theorem planT_op {l : List Oper} {i : Nat} {o : Oper} {r : PT} {a : Act} {w : World} (hi' : nthO l i = some o)
    (h : ∀ K : Act → World → Prop, (∀ a' w', S w' → wpPlanT P l.toArray S Q r a' w' → K a' w') → wpList P l.toArray (Exit.then K Q) [o] a w) : wpOp P l.toArray Q i (fun a' w' => S w' ∧ wpPlanT P l.toArray S Q r a' w') a w := by
  have hi : l.toArray[i]? = some o := by rw [List.getElem?_toArray, ← nthO_eq]; exact hi'
  have h0 := h _ (fun a' w' h1 h2 => (⟨h1, h2⟩ : S w' ∧ wpPlanT P l.toArray S Q r a' w'))
  unfold wpOp
  rw [hi]
  simp only [wpList] at h0 ⊢
  split
  · rename_i hw
    rw [if_pos hw] at h0
    rcases h0 with h0 | ⟨h0, a1, w1, h1⟩
    · exact .inl (Oper.wp_post (fun _ _ _ h => h) (fun ⟨a, w, h⟩ => ⟨a, w, h⟩) h0)
    · exact .inr ⟨h0, a1, w1, h1⟩
  · rename_i hw
    rw [if_neg hw] at h0
    exact h0
/-- what is carried out -/
theorem planT_do {l : List Oper} {i : Nat} {o : Oper} {r : PT} {a : Act} {w : World} (hi' : nthO l i = some o)
    (h : ∀ K : Act → World → Prop, (∀ a' w', S w' → wpPlanT P l.toArray S Q r a' w' → K a' w') → wpList P l.toArray (Exit.then K Q) [o] a w) : wpPlanT P l.toArray S Q (.one i r) a w := planT_op hi' h
theorem planT_two {l : List Oper} {i j : Nat} {r q : PT} {a : Act} {w : World} (h1 : wpOp P l.toArray Q i (fun a' w' => S w' ∧ wpPlanT P l.toArray S Q r a' w') a w) (h2 : wpOp P l.toArray Q j (fun a' w' => S w' ∧ wpPlanT P l.toArray S Q q a' w') a w) : wpPlanT P l.toArray S Q (.two i r j q) a w := ⟨h1, h2⟩
end
end Go.Proofs.YteaaiejfieaalaaGreatDoor

/-
  WrapJ: segments put together out of parts: laws for the statements' walks. No condition beyond those stated.
-/
namespace Go.Proofs.YteaaiejfieaalaaGreatDoor
open Go.RowKit
theorem OG.erow {w : World} {C : Nat} (hC : C ≤ w.heap.size) : OG C (w.alloc (.cells #[] 36)) (.slice (some ⟨w.heap.size, 0, none⟩) 0 0) [] [] :=
  ⟨⟨rfl, .inr ⟨w.heap.size, 0, #[], rfl, hC, heap_alloc_new _ _, Nat.le_refl _, by decide, rfl, rfl⟩⟩, rfl, fun i s x h => by simp at h⟩
/-- the first of segments -/
theorem SegsAt.head {S : Nat → Prop} {w : World} {b off n cap : Nat} {l : List Seg} (H : SegsAt S w (.slice (some ⟨b, off, none⟩) n cap) l) {hi : Nat} (h2 : hi ≤ l.length) (hc : hi ≤ cap) (hc2 : cap ≤ maxLen) : SegsAt S w (.slice (some ⟨b, off, none⟩) hi cap) (l.take hi) := by
  have h := H.sub (lo := 0) (hi := hi) (c' := cap) (Nat.zero_le _) h2 (by omega) hc2
  rw [Nat.zero_mul, Nat.add_zero, Nat.sub_zero, List.drop_zero] at h
  exact h
/-- the others -/
theorem SegsAt.tail {S : Nat → Prop} {w : World} {b off n cap : Nat} {l : List Seg} (H : SegsAt S w (.slice (some ⟨b, off, none⟩) n cap) l) (hl : l.length = n) {lo : Nat} (h2 : lo ≤ n) (hc : n ≤ cap) (hc2 : cap ≤ maxLen) : SegsAt S w (.slice (some ⟨b, off + lo * 2, none⟩) (n - lo) (cap - lo)) (l.drop lo) := by
  have h := H.sub (lo := lo) (hi := n) (c' := cap - lo) h2 (by omega) (by omega) (by omega)
  rw [List.take_of_length_le (by omega)] at h
  exact h
/-- one segment in a new block -/
theorem seg_lit {w : World} {Dn : Nat} {t : Str} {st : ByteArray} {ea : Option Addr} {em ec : Nat} {es : List (List Str)} {C : Nat} (hD : w.heap.size = Dn) (hst : (⟨t.toArray⟩ : ByteArray) = st) (he : ElemsAt (fun b => b < C) w (.slice ea em ec) es) (hC : C ≤ Dn) :
    SegsAt (fun b => b < C ∨ b = Dn) (w.alloc (.cells #[.string st, .slice ea em ec] 36)) (.slice (some ⟨Dn, 0, none⟩) 1 1) [⟨t, es⟩] := by
  subst hD
  exact (segs_one hst he (fun k hk => by omega))
/-- append(own segments, segments...), with what stays -/
theorem wp_app_ogy {ops : Array Oper} {rest : List Oper} {o : Oper} {a : Act} {Q : Exit → Act → World → Prop} (s x : Operand)
    (ho : o.op = .call { callee := .builtin .append, args := #[s, x], argTypes := #[23, 23] }) (hw : Region.wanted o (yielded ops a.tmps) = true)
    {w : World} {B : Nat} {v mv : Value} {xs : List Value} {l m : List Seg} {S : Nat → Prop} (hs : a.eval s = v) (hx : a.eval x = mv) (hO : OG B w v xs l) (hm : SegsAt S w mv m) (hS : ∀ k, S k → k < w.heap.size ∧ v.ownBlock ≠ some k) (hl : l.length + m.length ≤ 1048576) (hB : B ≤ w.heap.size)
    (h : ∀ v' w' xs', OG B w' v' xs' (l ++ m) → Below B w w' → w.grownBy w' v.ownBlock → (v'.ownBlock = v.ownBlock ∨ v'.ownBlock = some w.heap.size) → wpList Tryz.prog ops Q rest (a.put o.dst v') w') :
    wpList Tryz.prog ops Q (o :: rest) a w := by
  obtain ⟨i0, hi, hz0, hz1, hz2⟩ := info_parts einfo_seg
  have hm0 := hm
  obtain ⟨ao, cap, ys, rfl, g1, g2, g3, g4, g5⟩ := hm.row
  simp only [wpList, hw, if_true]
  left
  have fin : ∀ v' w', w'.ownsRow B 36 2 v' (l.length + m.length) (segCells l xs ++ segCells m ys) → w.grownBy w' v.ownBlock → (v'.ownBlock = v.ownBlock ∨ v'.ownBlock = some w.heap.size) → OG B w' v' (xs ++ ys) (l ++ m) ∧ Below B w w' := fun v' w' f1 f2 f3 => by
    have hov : ∀ k, v.ownBlock = some k → B ≤ k := fun k hk => (own_lt hO.row hk).1
    have hb : Below B w w' := (Below.refl B w).grown f2 hB hov
    have hz := f2.size
    have hc : ∀ b, b < w.heap.size → v.ownBlock ≠ some b → v'.ownBlock ≠ some b := fun b hb2 hne he => by
      rcases f3 with f3 | f3
      · exact hne (f3 ▸ he)
      · rw [f3] at he; cases he; omega
    refine ⟨⟨by rw [List.length_append, segCells_app l m xs ys hO.len]; exact f1, by simp [hO.len, g1], fun i s x h1 h2 => ?_⟩, hb⟩
    rcases Nat.lt_or_ge i l.length with hil | hil
    · rw [List.getElem?_append_left hil] at h1
      rw [List.getElem?_append_left (by rw [hO.len]; exact hil)] at h2
      exact (hO.el i s x h1 h2).cong (fun b hb' => ⟨by omega, hc b hb'.1 hb'.2⟩) (fun b hb' => f2.block b hb'.1 (fun e => hb'.2 e.symm))
    · rw [List.getElem?_append_right hil] at h1
      rw [List.getElem?_append_right (by rw [hO.len]; exact hil), hO.len] at h2
      exact (g4 _ s x h1 h2).cong (fun b hb' => ⟨by have := (hS b hb').1; omega, hc b (hS b hb').1 (hS b hb').2⟩) (fun b hb' => f2.block b (hS b hb').1 (fun e => (hS b hb').2 e.symm))
  cases ao with
  | none =>
    obtain ⟨rfl, rfl⟩ := g2 rfl
    have hr := run_append_owned_none (P := Tryz.prog) (w := w) B 23 o.type 36 i0 2 Tryz.underlying23 hi v l.length (segCells l xs) hO.row
    unfold Oper.wp
    simp [execOp, ho, resolve, invoke, builtin, hs, hx, hr, Result.andThen]
    obtain ⟨k1, k2⟩ := fin v w (by
      have : ys = [] := List.length_eq_zero_iff.1 g1
      subst this
      simpa [segCells] using hO.row) ⟨rfl, rfl, rfl, Nat.le_refl _, fun _ _ _ => rfl⟩ (.inl rfl)
    exact h v w _ k1 k2 ⟨rfl, rfl, rfl, Nat.le_refl _, fun _ _ _ => rfl⟩ (.inl rfl)
  | some ad =>
    obtain ⟨v', w', hr, h2, h3, _, h5⟩ := run_append_own_at (P := Tryz.prog) w B 23 o.type 36 i0 (.agg #[.string ⟨#[]⟩, .slice none 0 0]) 2 40 Tryz.underlying23 hi hz0 hz1 hz2 rfl (by decide) v l.length (segCells l xs) hO.row ad m.length cap (segCells m ys) (segCells_len m ys g1) (g5 ad rfl) (segCells_one m ys g3) (by unfold maxLen; omega) (by omega) hB
    unfold Oper.wp execOp
    simp only [ho, resolve, invoke, builtin, Sem.run_bind, Sem.run_pure, Result.andThen_ok, List.map_toArray, List.map_cons, List.map_nil, hs, hx, hr]
    obtain ⟨k1, k2⟩ := fin v' w' h2 h3 h5
    exact h v' w' _ k1 k2 h3 h5
end Go.Proofs.YteaaiejfieaalaaGreatDoor
