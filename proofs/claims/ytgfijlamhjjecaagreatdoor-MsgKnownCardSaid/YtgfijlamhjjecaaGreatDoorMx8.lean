/-
  Texts MsgX7, MsgX1, MsgX5, KMap, one behind the other. No condition beyond those stated in each.
-/
import Derived.Test.YtgfijlamhjjecaaGreatDoorMx7
import Derived.Test.YtgfijlamhjjecaaGreatDoorMx4
import Derived.Test.YtgfijlamhjjecaaGreatDoorMx6
import Derived.Test.YtgfijlamhjjecaaGreatDoorMx1
namespace Go.Proofs.YtgfijlamhjjecaaGreatDoor
open Go.RowKit
def WordsQ (o : Option (List Str)) (w : World) (e : Ending) (w' : World) : Prop := ∃ v b, e = .returned (.tuple #[v, .bool b]) ∧ Below w.heap.size w w' ∧ ((∃ ws, o = some ws ∧ b = true ∧ CompsAt (fun k => w.heap.size ≤ k ∧ k < w'.heap.size) w' v ws) ∨ (o = none ∧ b = false ∧ v = .slice none 0 0))
theorem wordsQ_no {o : Option (List Str)} {w w' : World} (h : o = none) (hb : Below w.heap.size w w') : WordsQ o w (.returned (.tuple #[.slice none 0 0, .bool false])) w' := ⟨_, _, rfl, hb, .inr ⟨h, rfl, rfl⟩⟩
theorem wordsL_snoc {es : List (List Str)} {ws : List Str} {x : Str} (h : wordsL es = some ws) : wordsL (es ++ [[x]]) = some (ws ++ [x]) := by
  induction es generalizing ws with
  | nil => cases h; rfl
  | cons e es ih =>
    show (match oneW e, wordsL (es ++ [[x]]) with | some v, some l => some (v :: l) | _, _ => none) = _
    have h' : (match oneW e, wordsL es with | some v, some l => some (v :: l) | _, _ => none) = some ws := h
    cases ho : oneW e with
    | none => rw [ho] at h'; cases h'
    | some v =>
      rw [ho] at h'
      cases hl : wordsL es with
      | none => rw [hl] at h'; cases h'
      | some l =>
        rw [hl] at h'
        cases h'
        rw [ih hl]; rfl
theorem wordsL_bad {es : List (List Str)} {i : Nat} {e : List Str} (hi : es[i]? = some e) (he : e.length ≠ 1) : wordsL es = none := by
  induction es generalizing i with
  | nil => simp at hi
  | cons a es ih =>
    show (match oneW a, wordsL es with | some v, some l => some (v :: l) | _, _ => none) = _
    cases i with
    | zero =>
      have : a = e := by simpa using hi
      subst this
      have : oneW a = none := by
        match a, he with
        | [], _ => rfl
        | [x], he => simp at he
        | _ :: _ :: _, _ => rfl
      rw [this]
    | succ i =>
      rw [ih (i := i) (by simpa using hi)]
      cases oneW a <;> rfl
set_option maxRecDepth 100000 in
set_option maxHeartbeats 8000000 in
theorem words_any {S : Nat → Prop} (l : List Seg) (v : Value) (w : World) (h : SegsAt S w v l) (hS : ∀ k, S k → k < w.heap.size) (at_ n : Nat) (t : Str) (st : ByteArray) (hst : (⟨t.toArray⟩ : ByteArray) = st) (hat62 : at_ < 4611686018427387904) (hn62 : n ≤ 1048576) :
    Calls Tryz.prog 52 #[v, .int .i64 (at_ : Int), .string st, .int .i64 (n : Int)] w fun e w' => WordsQ ((l[at_]?).bind fun s => wordsS s t n) w e w' := by
  obtain ⟨ao, cap, rfl, hcap, hcm⟩ := h.form
  unfold maxLen at hcm
  obtain ⟨m, hm⟩ : ∃ m, l.length = m := ⟨_, rfl⟩
  have HM := Lib.hid hm
  have H := Lib.hid h
  have HS := Lib.hid hS
  have HST := Lib.hid hst
  rw [hm] at hcap H ⊢
  clear h hS hst hm
  by_cases hat : at_ < m
  · obtain ⟨s, hs⟩ : ∃ s, l[at_]? = some s := ⟨_, List.getElem?_eq_getElem (by rw [HM.out]; exact hat)⟩
    obtain ⟨b, off, x, rfl, hSb, c0, c1, he⟩ := H.out.get hs
    obtain ⟨eo, ecap, rfl, hec, hecm⟩ := he.form
    unfold maxLen at hecm
    rw [hs]
    simp only [Option.bind_some]
    have i1 : decide (m ≤ at_) = false := by rw [decide_eq_false_iff_not]; omega
    have i2 : (at_ : Int) < (m : Int) := by omega
    have i3 : (0 : Int) ≤ (at_ : Int) := by omega
    obtain ⟨sg, hsg⟩ : ∃ sg : ByteArray, (⟨s.tag.toArray⟩ : ByteArray) = sg := ⟨_, rfl⟩
    unfold sv at c0
    rw [hsg] at c0
    by_cases htag : s.tag = t
    · have hsame : sg = st := by rw [← hsg, htag, HST.out]
      subst hsame
      have t1 := str_same sg
      by_cases hn : s.elems.length = n
      · have HN := Lib.hid hn
        rw [hn] at c1 he hec
        have n1 : ((n : Int) != (n : Int)) = false := by simp
        have HE := Lib.hid he
        have HW := Lib.hid (show wordsS s t n = wordsL s.elems by unfold wordsS; rw [if_pos ⟨htag, HN.out⟩])
        obtain ⟨B, hB⟩ : ∃ B, w.heap.size = B := ⟨_, rfl⟩
        have HBQ := Lib.hid hB
        obtain ⟨i0, hi, hz0, hz1, hz2⟩ := info_parts einfo_str
        have HI := Lib.hid hi
        have HZ0 := Lib.hid hz0
        have HZ1 := Lib.hid hz1
        have HZ2 := Lib.hid hz2
        have HSb := Lib.hid hSb
        have hbB : b < w.heap.size := HS.out _ hSb
        clear he hn hs hsg hB hi hz0 hz1 hz2 hSb H
        go_enter Tryz.func52, Tryz.ntmps52
        go_wp2_with fail
        go_loopw [10, 42] (fun ov i wx => ∃ (k : Nat) (ws : List Str), k ≤ n ∧ i = .int .i64 (k : Int) ∧ Hid (wordsL (s.elems.take k) = some ws ∧ ws.length = k ∧ wx.ownsRow B 9 1 ov k (ws.map sv)) ∧ Hid (Below B w wx)) (fun _ i _ => n - (intOf i).toNat)
        case atStart => exact ⟨0, [], by omega, rfl, Lib.hid ⟨rfl, rfl, World.ownsRow_nil _ _ _ _⟩, Lib.hid (Below.refl _ _)⟩
        case round =>
          obtain ⟨k, ws, hk, rfl, HR, HB⟩ := hrel
          by_cases hlt : k < n
          · skip
            obtain ⟨e, hek⟩ : ∃ e, s.elems[k]? = some e := ⟨_, List.getElem?_eq_getElem (by rw [HN.out]; exact hlt)⟩
            obtain ⟨eb, eoff, ev, rfl, hSeb, ce, hce⟩ := HE.out.get hek
            obtain ⟨fo, fcap, rfl, hfc, hfcm⟩ := hce.form
            unfold maxLen at hfcm
            have ce' := (HB.out.cell (p := ⟨eb, eoff + k, none⟩) (by show eb < B; rw [← HBQ.out]; exact HS.out _ hSeb)).trans ce
            have a1 : (k : Int) < (n : Int) := by omega
            have a2 : (0 : Int) ≤ (k : Int) := by omega
            by_cases h1 : e.length = 1
            · obtain ⟨y, rfl⟩ := List.length_eq_one_iff.1 h1
              obtain ⟨gb, goff, rfl, hSgb, cg⟩ := hce.get (k := 0) (p := y) rfl
              have cg' := (HB.out.cell (p := ⟨gb, goff + 0, none⟩) (by show gb < B; rw [← HBQ.out]; exact HS.out _ hSgb)).trans cg
              rw [Nat.add_zero] at cg'
              simp only [List.length_cons, List.length_nil, Nat.zero_add] at ce' hfc
              obtain ⟨va, vc, rfl⟩ := own_slice HR.out.2.2
              obtain ⟨sy, hsy⟩ : ∃ sy : ByteArray, (⟨y.toArray⟩ : ByteArray) = sy := ⟨_, rfl⟩
              unfold sv at cg'
              rw [hsy] at cg'
              have HSY := Lib.hid hsy
              have HEK := Lib.hid hek
              have hws := HR.out.2.1
              clear hsy hek ce cg hce h1
              have hrow : (wr.alloc (.cells #[.string sy] 9)).ownsRow B 9 1 (.slice va k vc) k (ws.map sv) := HR.out.2.2.alloc _
              have HRW := Lib.hid hrow
              have HLW := Lib.hid hws
              clear hrow hws
              go_wp2_with ((with_reducible refine wpList_at (.call { callee := .builtin .append, args := #[.tmp 49, .tmp 53], argTypes := #[58, 58] }) rfl ?_); go_loud (refine wpList_append_own_at _ rfl _ _ 58 rfl B 9 i0 (.string ⟨#[]⟩) 1 16 Tryz.underlying58 HI.out HZ0.out HZ1.out HZ2.out rfl (by decide) _ _ _ rfl HRW.out ⟨wr.heap.size, 0, none⟩ 1 1 [.string sy] rfl rfl (cell_one_new _ _ _) (by simp [Value.oneCell']) (by unfold maxLen; omega) (by omega) (by have := HB.out.size; have := HBQ.out; simp; omega) ?_); intro ov' wg hog hgg _ _; obtain ⟨va', vc', rfl⟩ := own_slice hog; have HOG := Lib.hid hog; have HGG := Lib.hid hgg; clear hog hgg)
              go_roundw
              case rel =>
                refine ⟨k + 1, ws ++ [y], by omega, by go_num, Lib.hid ⟨?_, by rw [List.length_append, HLW.out]; rfl, ?_⟩, Lib.hid ?_⟩
                · rw [List.take_add_one, HEK.out]; exact wordsL_snoc HR.out.1
                · rw [List.map_append]
                  have e : [y].map sv = [.string sy] := by rw [← HSY.out]; rfl
                  rw [e]; exact HOG.out
                · have hh := HB.out.size
                  have hq := HBQ.out
                  exact HB.out.trans ((Below.refl B wr).grown (grown_alloc HGG.out) (by omega) (fun b' hb' => (own_lt HRW.out hb').1))
              case measure => simp [intOf]; omega
            · have n2 : ((e.length : Int) != 1) = true := by rw [bne_iff_ne]; omega
              have HQ := Lib.hid (HW.out.trans (wordsL_bad hek h1))
              obtain ⟨el, hel⟩ : ∃ el, e.length = el := ⟨_, rfl⟩
              rw [hel] at ce' n2
              clear hel hek ce hce h1 hfc
              go_wp2_with fail
              go_ret2
              exact wordsQ_no HQ.out (by rw [HBQ.out]; exact HB.out)
          · obtain rfl : k = n := by omega
            have hte : s.elems.take k = s.elems := List.take_of_length_le (Nat.le_of_eq HN.out)
            have HQ := Lib.hid (HW.out.trans (show wordsL s.elems = some ws by rw [← hte]; exact HR.out.1))
            clear hte
            go_wp2_with fail
            go_ret2
            refine ⟨_, _, rfl, by rw [HBQ.out]; exact HB.out, .inl ⟨ws, HQ.out, rfl, ?_⟩⟩
            rw [HBQ.out]
            exact own_rest (by rw [List.length_map, HR.out.2.1]; exact HR.out.2.2) (fun _ hk => own_lt HR.out.2.2 hk)
      · have n1 : ((s.elems.length : Int) != (n : Int)) = true := by rw [bne_iff_ne]; omega
        have HQ := Lib.hid (show wordsS s t n = none by unfold wordsS; rw [if_neg (fun h => hn h.2)])
        obtain ⟨el, hel⟩ : ∃ el, s.elems.length = el := ⟨_, rfl⟩
        rw [hel] at c1 n1
        clear hel hs hsg he hn hec H
        go_enter Tryz.func52, Tryz.ntmps52
        go_wp2_with fail
        go_ret2
        exact wordsQ_no HQ.out (Below.refl _ _)
    · have hne : sg ≠ st := fun e => htag (by
        have h1 : (⟨s.tag.toArray⟩ : ByteArray) = ⟨t.toArray⟩ := by rw [hsg, e, HST.out]
        have h2 := congrArg (fun x => x.data.toList) h1
        simpa using h2)
      have t1 := str_ne hne
      have HQ := Lib.hid (show wordsS s t n = none by unfold wordsS; rw [if_neg (fun h => htag h.1)])
      clear hs hsg he htag c1 hec H hne
      go_enter Tryz.func52, Tryz.ntmps52
      go_wp2_with fail
      go_ret2
      exact wordsQ_no HQ.out (Below.refl _ _)
  · have hnone : l[at_]? = none := List.getElem?_eq_none (by rw [HM.out]; omega)
    rw [hnone]
    have i1 : decide (m ≤ at_) = true := by rw [decide_eq_true_eq]; omega
    clear hnone H
    go_enter Tryz.func52, Tryz.ntmps52
    go_wp2_with fail
    go_ret2
    exact wordsQ_no rfl (Below.refl _ _)
end Go.Proofs.YtgfijlamhjjecaaGreatDoor


namespace Go.Proofs.YtgfijlamhjjecaaGreatDoor
open Go.RowKit
def TellQ (v lo hi : Int) (w : World) (e : Ending) (w' : World) : Prop := e = .returned (.tuple #[.string ⟨(sgnT v).toArray⟩, .bool (decide (lo ≤ v) && decide (v ≤ hi))]) ∧ Below w.heap.size w w'
theorem tellQ_yes {v lo hi : Int} {w w' : World} (h1 : lo ≤ v) (hb : Below w.heap.size w w') : TellQ v lo hi w (.returned (.tuple #[.string ⟨(sgnT v).toArray⟩, .bool (decide (v ≤ hi))])) w' := by
  unfold TellQ; simp [h1, hb]
theorem tellQ_no {v lo hi : Int} {w w' : World} (h1 : ¬ lo ≤ v) (hb : Below w.heap.size w w') : TellQ v lo hi w (.returned (.tuple #[.string ⟨(sgnT v).toArray⟩, .bool false])) w' := by
  unfold TellQ; simp [h1, hb]
def ReadQ (t : Str) (lo hi : Int) (k : IntKind) (a : Addr) (w : World) (e : Ending) (w' : World) : Prop := ∃ w1, Below w.heap.size w w1 ∧ e = .returned (.bool (wholeE t lo hi).isSome) ∧ w' = w1.setCell a (.int k ((wholeE t lo hi).getD 0))
theorem at_car (g o : Nat) (w : World) : Calls Tryz.prog 71 #[.pointer (some ⟨g, o, none⟩)] w fun e w' => e = .returned (.pointer (some ⟨g, o + 4, none⟩)) ∧ w = w' := by
  go_enter Tryz.func71, Tryz.ntmps71
  go_wp2_with fail
  go_ret
  exact ⟨rfl, rfl⟩
set_option maxRecDepth 100000 in
set_option maxHeartbeats 1000000 in
theorem tell_car (g o a : Nat) (v lo hi : Int) (hb : -9223372036854775808 ≤ v ∧ v ≤ 9223372036854775807) (w : World) (hV : VarsOk w) (hc : w.cell? ⟨g, o + 4, none⟩ = some (.int .u8 v))
    (h0 : w.cell? ⟨a, 0, none⟩ = some (.func (.func 71) #[] #[])) (h1 : w.cell? ⟨a + 1, 0, none⟩ = some (.int .i64 lo)) (h2 : w.cell? ⟨a + 2, 0, none⟩ = some (.int .i64 hi)) :
    Calls Tryz.prog 115 #[.pointer (some ⟨g, o, none⟩), .pointer (some ⟨a, 0, none⟩), .pointer (some ⟨a + 1, 0, none⟩), .pointer (some ⟨a + 2, 0, none⟩)] w fun e w' => TellQ v lo hi w e w' := by
  have wr : IntKind.i64.wrap v = v := IntWalk.i64_in _ (by omega)
  have HV := Lib.hid hV
  obtain ⟨b0, b1⟩ := hb
  clear hV
  go_enter Tryz.func115, Tryz.ntmps115
  go_upto_region 2 with (go_at_call 71; refine (at_car _ _ _).mono ?_; rintro e w' ⟨rfl, rfl⟩)
  refine wp_region_plan [(0, false), (2, false), (3, false), (4, false), (1, true), (5, false), (6, false), (7, false), (8, false), (9, false), (10, false), (11, false)] (fun w' => w'.cell? ⟨a + 1, 0, none⟩ = some (.int .i64 lo) ∧ w'.cell? ⟨a + 2, 0, none⟩ = some (.int .i64 hi)) (by kernel_rfl) (by kernel_rfl) ⟨h1, h2⟩ ?_
  by_cases hlo : lo ≤ v
  · have i1 : decide (v ≥ lo) = true := by rw [decide_eq_true_eq]; exact hlo
    iterate 4 (refine' plan_val rfl rfl (fun w' hS => ?_) ?_; rotate_left; (focus (first | rfl | (obtain ⟨hS1, hS2⟩ := hS; go_simp; rfl))); simp only [Act.put, List.setIfInBounds_toArray, List.set_cons_zero, List.set_cons_succ])
    refine plan_do rfl (fun K hK => ?_)
    go_wp2_with (go_at_call 116; refine (fmtInt_any v b0 b1 _ (HV.out.on ((Below.refl w.heap.size w).drew) (Nat.le_refl _))).mono ?_; rintro e w1 ⟨rfl, hb⟩; have HB := Lib.hid hb; clear hb)
    refine hK _ _ ⟨(HB.out.cell (p := ⟨a + 1, 0, none⟩) (cell_lt' h1)).trans h1, (HB.out.cell (p := ⟨a + 2, 0, none⟩) (cell_lt' h2)).trans h2⟩ ?_
    clear hK K
    iterate 7 (refine' plan_val rfl rfl (fun w' hS => ?_) ?_; rotate_left; (focus (first | rfl | (obtain ⟨hS1, hS2⟩ := hS; go_simp; rfl))); simp only [Act.put, List.setIfInBounds_toArray, List.set_cons_zero, List.set_cons_succ])
    refine plan_nil ?_
    go_wp2_with fail
    go_ret2
    exact tellQ_yes hlo ((Below.refl _ _).drew.trans HB.out)
  · have i1 : decide (v ≥ lo) = false := by rw [decide_eq_false_iff_not]; exact hlo
    iterate 4 (refine' plan_val rfl rfl (fun w' hS => ?_) ?_; rotate_left; (focus (first | rfl | (obtain ⟨hS1, hS2⟩ := hS; go_simp; rfl))); simp only [Act.put, List.setIfInBounds_toArray, List.set_cons_zero, List.set_cons_succ])
    refine plan_do rfl (fun K hK => ?_)
    go_wp2_with (go_at_call 116; refine (fmtInt_any v b0 b1 _ (HV.out.on ((Below.refl w.heap.size w).drew) (Nat.le_refl _))).mono ?_; rintro e w1 ⟨rfl, hb⟩; have HB := Lib.hid hb; clear hb)
    refine hK _ _ ⟨(HB.out.cell (p := ⟨a + 1, 0, none⟩) (cell_lt' h1)).trans h1, (HB.out.cell (p := ⟨a + 2, 0, none⟩) (cell_lt' h2)).trans h2⟩ ?_
    clear hK K
    (refine' plan_val rfl rfl (fun w' hS => ?_) ?_; rotate_left; (focus (first | rfl | (obtain ⟨hS1, hS2⟩ := hS; go_simp; rfl))); simp only [Act.put, List.setIfInBounds_toArray, List.set_cons_zero, List.set_cons_succ])
    iterate 3 (refine plan_skip rfl rfl ?_; simp only [Act.put, List.setIfInBounds_toArray, List.set_cons_zero, List.set_cons_succ])
    iterate 3 (refine' plan_val rfl rfl (fun w' hS => ?_) ?_; rotate_left; (focus (first | rfl | (obtain ⟨hS1, hS2⟩ := hS; go_simp; rfl))); simp only [Act.put, List.setIfInBounds_toArray, List.set_cons_zero, List.set_cons_succ])
    refine plan_nil ?_
    go_wp2_with fail
    go_ret2
    exact tellQ_no (by omega) ((Below.refl _ _).drew.trans HB.out)
set_option maxRecDepth 100000 in
set_option maxHeartbeats 1000000 in
theorem read_car (g o a : Nat) (s : ByteArray) (hl : s.size ≤ 1048576) (lo hi u : Int) (hr : ∀ v, lo ≤ v → v ≤ hi → IntKind.u8.wrap v = v) (hlo : -9223372036854775808 ≤ lo) (hhi : hi ≤ 9223372036854775807) (w : World) (hV : VarsOk w)
    (hc : w.cell? ⟨g, o + 4, none⟩ = some (.int .u8 u)) (hf : w.frozen? ⟨g, o + 4, none⟩ = false)
    (h0 : w.cell? ⟨a, 0, none⟩ = some (.func (.func 71) #[] #[])) (h1 : w.cell? ⟨a + 1, 0, none⟩ = some (.int .i64 lo)) (h2 : w.cell? ⟨a + 2, 0, none⟩ = some (.int .i64 hi)) :
    Calls Tryz.prog 117 #[.pointer (some ⟨g, o, none⟩), .string s, .pointer (some ⟨a + 1, 0, none⟩), .pointer (some ⟨a + 2, 0, none⟩), .pointer (some ⟨a, 0, none⟩)] w fun e w' => ReadQ s.data.toList lo hi .u8 ⟨g, o + 4, none⟩ w e w' := by
  have HW := Lib.hid (whole_any s hl lo hi hlo hhi w hV)
  have HR := Lib.hid (show IntKind.u8.wrap ((wholeE s.data.toList lo hi).getD 0) = (wholeE s.data.toList lo hi).getD 0 by
    cases hx : wholeE s.data.toList lo hi with
    | none => decide
    | some v =>
      unfold wholeE at hx
      cases hi' : intW s.data.toList with
      | none => rw [hi'] at hx; cases hx
      | some u' =>
        rw [hi'] at hx
        simp only at hx
        split at hx
        · rename_i hbb
          cases hx
          exact hr _ hbb.1 hbb.2
        · cases hx)
  unfold ReadQ
  obtain ⟨R, hR⟩ : ∃ R, wholeE s.data.toList lo hi = R := ⟨_, rfl⟩
  unfold WholeQ at HW
  rw [hR] at HW HR ⊢
  obtain ⟨rv, hrv⟩ : ∃ rv, R.getD 0 = rv := ⟨_, rfl⟩
  obtain ⟨rb, hrb⟩ : ∃ rb, R.isSome = rb := ⟨_, rfl⟩
  rw [hrv] at HW HR ⊢
  rw [hrb] at HW ⊢
  have hwr := HR.out
  clear hR hrv hrb hr hV hlo hhi HR
  go_enter Tryz.func117, Tryz.ntmps117
  go_wp2_with (first | (go_at_call 53; refine HW.out.mono ?_; rintro e w1 ⟨rfl, hb⟩; have c0 := (hb.cell (p := ⟨a, 0, none⟩) (cell_lt' h0)).trans h0; have cc := (hb.cell (p := ⟨g, o + 4, none⟩) (cell_lt' hc)).trans hc; have ff := (hb.frozen (p := ⟨g, o + 4, none⟩) (cell_lt' hc)).trans hf; have HB := Lib.hid hb; clear hb) | (go_at_call 71; refine (at_car _ _ _).mono ?_; rintro e w' ⟨rfl, rfl⟩))
  go_ret
  exact ⟨_, HB.out, rfl, rfl⟩
theorem at_fl (g o : Nat) (w : World) : Calls Tryz.prog 73 #[.pointer (some ⟨g, o, none⟩)] w fun e w' => e = .returned (.pointer (some ⟨g, o + 5, none⟩)) ∧ w = w' := by
  go_enter Tryz.func73, Tryz.ntmps73
  go_wp2_with fail
  go_ret
  exact ⟨rfl, rfl⟩
set_option maxRecDepth 100000 in
set_option maxHeartbeats 1000000 in
theorem tell_fl (g o a : Nat) (v lo hi : Int) (hb : -9223372036854775808 ≤ v ∧ v ≤ 9223372036854775807) (w : World) (hV : VarsOk w) (hc : w.cell? ⟨g, o + 5, none⟩ = some (.int .u16 v))
    (h0 : w.cell? ⟨a, 0, none⟩ = some (.func (.func 73) #[] #[])) (h1 : w.cell? ⟨a + 1, 0, none⟩ = some (.int .i64 lo)) (h2 : w.cell? ⟨a + 2, 0, none⟩ = some (.int .i64 hi)) :
    Calls Tryz.prog 118 #[.pointer (some ⟨g, o, none⟩), .pointer (some ⟨a, 0, none⟩), .pointer (some ⟨a + 1, 0, none⟩), .pointer (some ⟨a + 2, 0, none⟩)] w fun e w' => TellQ v lo hi w e w' := by
  have wr : IntKind.i64.wrap v = v := IntWalk.i64_in _ (by omega)
  have HV := Lib.hid hV
  obtain ⟨b0, b1⟩ := hb
  clear hV
  go_enter Tryz.func118, Tryz.ntmps118
  go_upto_region 2 with (go_at_call 73; refine (at_fl _ _ _).mono ?_; rintro e w' ⟨rfl, rfl⟩)
  refine wp_region_plan [(0, false), (2, false), (3, false), (4, false), (1, true), (5, false), (6, false), (7, false), (8, false), (9, false), (10, false), (11, false)] (fun w' => w'.cell? ⟨a + 1, 0, none⟩ = some (.int .i64 lo) ∧ w'.cell? ⟨a + 2, 0, none⟩ = some (.int .i64 hi)) (by kernel_rfl) (by kernel_rfl) ⟨h1, h2⟩ ?_
  by_cases hlo : lo ≤ v
  · have i1 : decide (v ≥ lo) = true := by rw [decide_eq_true_eq]; exact hlo
    iterate 4 (refine' plan_val rfl rfl (fun w' hS => ?_) ?_; rotate_left; (focus (first | rfl | (obtain ⟨hS1, hS2⟩ := hS; go_simp; rfl))); simp only [Act.put, List.setIfInBounds_toArray, List.set_cons_zero, List.set_cons_succ])
    refine plan_do rfl (fun K hK => ?_)
    go_wp2_with (go_at_call 116; refine (fmtInt_any v b0 b1 _ (HV.out.on ((Below.refl w.heap.size w).drew) (Nat.le_refl _))).mono ?_; rintro e w1 ⟨rfl, hb⟩; have HB := Lib.hid hb; clear hb)
    refine hK _ _ ⟨(HB.out.cell (p := ⟨a + 1, 0, none⟩) (cell_lt' h1)).trans h1, (HB.out.cell (p := ⟨a + 2, 0, none⟩) (cell_lt' h2)).trans h2⟩ ?_
    clear hK K
    iterate 7 (refine' plan_val rfl rfl (fun w' hS => ?_) ?_; rotate_left; (focus (first | rfl | (obtain ⟨hS1, hS2⟩ := hS; go_simp; rfl))); simp only [Act.put, List.setIfInBounds_toArray, List.set_cons_zero, List.set_cons_succ])
    refine plan_nil ?_
    go_wp2_with fail
    go_ret2
    exact tellQ_yes hlo ((Below.refl _ _).drew.trans HB.out)
  · have i1 : decide (v ≥ lo) = false := by rw [decide_eq_false_iff_not]; exact hlo
    iterate 4 (refine' plan_val rfl rfl (fun w' hS => ?_) ?_; rotate_left; (focus (first | rfl | (obtain ⟨hS1, hS2⟩ := hS; go_simp; rfl))); simp only [Act.put, List.setIfInBounds_toArray, List.set_cons_zero, List.set_cons_succ])
    refine plan_do rfl (fun K hK => ?_)
    go_wp2_with (go_at_call 116; refine (fmtInt_any v b0 b1 _ (HV.out.on ((Below.refl w.heap.size w).drew) (Nat.le_refl _))).mono ?_; rintro e w1 ⟨rfl, hb⟩; have HB := Lib.hid hb; clear hb)
    refine hK _ _ ⟨(HB.out.cell (p := ⟨a + 1, 0, none⟩) (cell_lt' h1)).trans h1, (HB.out.cell (p := ⟨a + 2, 0, none⟩) (cell_lt' h2)).trans h2⟩ ?_
    clear hK K
    (refine' plan_val rfl rfl (fun w' hS => ?_) ?_; rotate_left; (focus (first | rfl | (obtain ⟨hS1, hS2⟩ := hS; go_simp; rfl))); simp only [Act.put, List.setIfInBounds_toArray, List.set_cons_zero, List.set_cons_succ])
    iterate 3 (refine plan_skip rfl rfl ?_; simp only [Act.put, List.setIfInBounds_toArray, List.set_cons_zero, List.set_cons_succ])
    iterate 3 (refine' plan_val rfl rfl (fun w' hS => ?_) ?_; rotate_left; (focus (first | rfl | (obtain ⟨hS1, hS2⟩ := hS; go_simp; rfl))); simp only [Act.put, List.setIfInBounds_toArray, List.set_cons_zero, List.set_cons_succ])
    refine plan_nil ?_
    go_wp2_with fail
    go_ret2
    exact tellQ_no (by omega) ((Below.refl _ _).drew.trans HB.out)
set_option maxRecDepth 100000 in
set_option maxHeartbeats 1000000 in
theorem read_fl (g o a : Nat) (s : ByteArray) (hl : s.size ≤ 1048576) (lo hi u : Int) (hr : ∀ v, lo ≤ v → v ≤ hi → IntKind.u16.wrap v = v) (hlo : -9223372036854775808 ≤ lo) (hhi : hi ≤ 9223372036854775807) (w : World) (hV : VarsOk w)
    (hc : w.cell? ⟨g, o + 5, none⟩ = some (.int .u16 u)) (hf : w.frozen? ⟨g, o + 5, none⟩ = false)
    (h0 : w.cell? ⟨a, 0, none⟩ = some (.func (.func 73) #[] #[])) (h1 : w.cell? ⟨a + 1, 0, none⟩ = some (.int .i64 lo)) (h2 : w.cell? ⟨a + 2, 0, none⟩ = some (.int .i64 hi)) :
    Calls Tryz.prog 119 #[.pointer (some ⟨g, o, none⟩), .string s, .pointer (some ⟨a + 1, 0, none⟩), .pointer (some ⟨a + 2, 0, none⟩), .pointer (some ⟨a, 0, none⟩)] w fun e w' => ReadQ s.data.toList lo hi .u16 ⟨g, o + 5, none⟩ w e w' := by
  have HW := Lib.hid (whole_any s hl lo hi hlo hhi w hV)
  have HR := Lib.hid (show IntKind.u16.wrap ((wholeE s.data.toList lo hi).getD 0) = (wholeE s.data.toList lo hi).getD 0 by
    cases hx : wholeE s.data.toList lo hi with
    | none => decide
    | some v =>
      unfold wholeE at hx
      cases hi' : intW s.data.toList with
      | none => rw [hi'] at hx; cases hx
      | some u' =>
        rw [hi'] at hx
        simp only at hx
        split at hx
        · rename_i hbb
          cases hx
          exact hr _ hbb.1 hbb.2
        · cases hx)
  unfold ReadQ
  obtain ⟨R, hR⟩ : ∃ R, wholeE s.data.toList lo hi = R := ⟨_, rfl⟩
  unfold WholeQ at HW
  rw [hR] at HW HR ⊢
  obtain ⟨rv, hrv⟩ : ∃ rv, R.getD 0 = rv := ⟨_, rfl⟩
  obtain ⟨rb, hrb⟩ : ∃ rb, R.isSome = rb := ⟨_, rfl⟩
  rw [hrv] at HW HR ⊢
  rw [hrb] at HW ⊢
  have hwr := HR.out
  clear hR hrv hrb hr hV hlo hhi HR
  go_enter Tryz.func119, Tryz.ntmps119
  go_wp2_with (first | (go_at_call 53; refine HW.out.mono ?_; rintro e w1 ⟨rfl, hb⟩; have c0 := (hb.cell (p := ⟨a, 0, none⟩) (cell_lt' h0)).trans h0; have cc := (hb.cell (p := ⟨g, o + 5, none⟩) (cell_lt' hc)).trans hc; have ff := (hb.frozen (p := ⟨g, o + 5, none⟩) (cell_lt' hc)).trans hf; have HB := Lib.hid hb; clear hb) | (go_at_call 73; refine (at_fl _ _ _).mono ?_; rintro e w' ⟨rfl, rfl⟩))
  go_ret
  exact ⟨_, HB.out, rfl, rfl⟩
theorem at_we (g o : Nat) (w : World) : Calls Tryz.prog 75 #[.pointer (some ⟨g, o, none⟩)] w fun e w' => e = .returned (.pointer (some ⟨g, o + 6, none⟩)) ∧ w = w' := by
  go_enter Tryz.func75, Tryz.ntmps75
  go_wp2_with fail
  go_ret
  exact ⟨rfl, rfl⟩
set_option maxRecDepth 100000 in
set_option maxHeartbeats 1000000 in
theorem tell_we (g o a : Nat) (v lo hi : Int) (hb : -9223372036854775808 ≤ v ∧ v ≤ 9223372036854775807) (w : World) (hV : VarsOk w) (hc : w.cell? ⟨g, o + 6, none⟩ = some (.int .u32 v))
    (h0 : w.cell? ⟨a, 0, none⟩ = some (.func (.func 75) #[] #[])) (h1 : w.cell? ⟨a + 1, 0, none⟩ = some (.int .i64 lo)) (h2 : w.cell? ⟨a + 2, 0, none⟩ = some (.int .i64 hi)) :
    Calls Tryz.prog 120 #[.pointer (some ⟨g, o, none⟩), .pointer (some ⟨a, 0, none⟩), .pointer (some ⟨a + 1, 0, none⟩), .pointer (some ⟨a + 2, 0, none⟩)] w fun e w' => TellQ v lo hi w e w' := by
  have wr : IntKind.i64.wrap v = v := IntWalk.i64_in _ (by omega)
  have HV := Lib.hid hV
  obtain ⟨b0, b1⟩ := hb
  clear hV
  go_enter Tryz.func120, Tryz.ntmps120
  go_upto_region 2 with (go_at_call 75; refine (at_we _ _ _).mono ?_; rintro e w' ⟨rfl, rfl⟩)
  refine wp_region_plan [(0, false), (2, false), (3, false), (4, false), (1, true), (5, false), (6, false), (7, false), (8, false), (9, false), (10, false), (11, false)] (fun w' => w'.cell? ⟨a + 1, 0, none⟩ = some (.int .i64 lo) ∧ w'.cell? ⟨a + 2, 0, none⟩ = some (.int .i64 hi)) (by kernel_rfl) (by kernel_rfl) ⟨h1, h2⟩ ?_
  by_cases hlo : lo ≤ v
  · have i1 : decide (v ≥ lo) = true := by rw [decide_eq_true_eq]; exact hlo
    iterate 4 (refine' plan_val rfl rfl (fun w' hS => ?_) ?_; rotate_left; (focus (first | rfl | (obtain ⟨hS1, hS2⟩ := hS; go_simp; rfl))); simp only [Act.put, List.setIfInBounds_toArray, List.set_cons_zero, List.set_cons_succ])
    refine plan_do rfl (fun K hK => ?_)
    go_wp2_with (go_at_call 116; refine (fmtInt_any v b0 b1 _ (HV.out.on ((Below.refl w.heap.size w).drew) (Nat.le_refl _))).mono ?_; rintro e w1 ⟨rfl, hb⟩; have HB := Lib.hid hb; clear hb)
    refine hK _ _ ⟨(HB.out.cell (p := ⟨a + 1, 0, none⟩) (cell_lt' h1)).trans h1, (HB.out.cell (p := ⟨a + 2, 0, none⟩) (cell_lt' h2)).trans h2⟩ ?_
    clear hK K
    iterate 7 (refine' plan_val rfl rfl (fun w' hS => ?_) ?_; rotate_left; (focus (first | rfl | (obtain ⟨hS1, hS2⟩ := hS; go_simp; rfl))); simp only [Act.put, List.setIfInBounds_toArray, List.set_cons_zero, List.set_cons_succ])
    refine plan_nil ?_
    go_wp2_with fail
    go_ret2
    exact tellQ_yes hlo ((Below.refl _ _).drew.trans HB.out)
  · have i1 : decide (v ≥ lo) = false := by rw [decide_eq_false_iff_not]; exact hlo
    iterate 4 (refine' plan_val rfl rfl (fun w' hS => ?_) ?_; rotate_left; (focus (first | rfl | (obtain ⟨hS1, hS2⟩ := hS; go_simp; rfl))); simp only [Act.put, List.setIfInBounds_toArray, List.set_cons_zero, List.set_cons_succ])
    refine plan_do rfl (fun K hK => ?_)
    go_wp2_with (go_at_call 116; refine (fmtInt_any v b0 b1 _ (HV.out.on ((Below.refl w.heap.size w).drew) (Nat.le_refl _))).mono ?_; rintro e w1 ⟨rfl, hb⟩; have HB := Lib.hid hb; clear hb)
    refine hK _ _ ⟨(HB.out.cell (p := ⟨a + 1, 0, none⟩) (cell_lt' h1)).trans h1, (HB.out.cell (p := ⟨a + 2, 0, none⟩) (cell_lt' h2)).trans h2⟩ ?_
    clear hK K
    (refine' plan_val rfl rfl (fun w' hS => ?_) ?_; rotate_left; (focus (first | rfl | (obtain ⟨hS1, hS2⟩ := hS; go_simp; rfl))); simp only [Act.put, List.setIfInBounds_toArray, List.set_cons_zero, List.set_cons_succ])
    iterate 3 (refine plan_skip rfl rfl ?_; simp only [Act.put, List.setIfInBounds_toArray, List.set_cons_zero, List.set_cons_succ])
    iterate 3 (refine' plan_val rfl rfl (fun w' hS => ?_) ?_; rotate_left; (focus (first | rfl | (obtain ⟨hS1, hS2⟩ := hS; go_simp; rfl))); simp only [Act.put, List.setIfInBounds_toArray, List.set_cons_zero, List.set_cons_succ])
    refine plan_nil ?_
    go_wp2_with fail
    go_ret2
    exact tellQ_no (by omega) ((Below.refl _ _).drew.trans HB.out)
set_option maxRecDepth 100000 in
set_option maxHeartbeats 1000000 in
theorem read_we (g o a : Nat) (s : ByteArray) (hl : s.size ≤ 1048576) (lo hi u : Int) (hr : ∀ v, lo ≤ v → v ≤ hi → IntKind.u32.wrap v = v) (hlo : -9223372036854775808 ≤ lo) (hhi : hi ≤ 9223372036854775807) (w : World) (hV : VarsOk w)
    (hc : w.cell? ⟨g, o + 6, none⟩ = some (.int .u32 u)) (hf : w.frozen? ⟨g, o + 6, none⟩ = false)
    (h0 : w.cell? ⟨a, 0, none⟩ = some (.func (.func 75) #[] #[])) (h1 : w.cell? ⟨a + 1, 0, none⟩ = some (.int .i64 lo)) (h2 : w.cell? ⟨a + 2, 0, none⟩ = some (.int .i64 hi)) :
    Calls Tryz.prog 121 #[.pointer (some ⟨g, o, none⟩), .string s, .pointer (some ⟨a + 1, 0, none⟩), .pointer (some ⟨a + 2, 0, none⟩), .pointer (some ⟨a, 0, none⟩)] w fun e w' => ReadQ s.data.toList lo hi .u32 ⟨g, o + 6, none⟩ w e w' := by
  have HW := Lib.hid (whole_any s hl lo hi hlo hhi w hV)
  have HR := Lib.hid (show IntKind.u32.wrap ((wholeE s.data.toList lo hi).getD 0) = (wholeE s.data.toList lo hi).getD 0 by
    cases hx : wholeE s.data.toList lo hi with
    | none => decide
    | some v =>
      unfold wholeE at hx
      cases hi' : intW s.data.toList with
      | none => rw [hi'] at hx; cases hx
      | some u' =>
        rw [hi'] at hx
        simp only at hx
        split at hx
        · rename_i hbb
          cases hx
          exact hr _ hbb.1 hbb.2
        · cases hx)
  unfold ReadQ
  obtain ⟨R, hR⟩ : ∃ R, wholeE s.data.toList lo hi = R := ⟨_, rfl⟩
  unfold WholeQ at HW
  rw [hR] at HW HR ⊢
  obtain ⟨rv, hrv⟩ : ∃ rv, R.getD 0 = rv := ⟨_, rfl⟩
  obtain ⟨rb, hrb⟩ : ∃ rb, R.isSome = rb := ⟨_, rfl⟩
  rw [hrv] at HW HR ⊢
  rw [hrb] at HW ⊢
  have hwr := HR.out
  clear hR hrv hrb hr hV hlo hhi HR
  go_enter Tryz.func121, Tryz.ntmps121
  go_wp2_with (first | (go_at_call 53; refine HW.out.mono ?_; rintro e w1 ⟨rfl, hb⟩; have c0 := (hb.cell (p := ⟨a, 0, none⟩) (cell_lt' h0)).trans h0; have cc := (hb.cell (p := ⟨g, o + 6, none⟩) (cell_lt' hc)).trans hc; have ff := (hb.frozen (p := ⟨g, o + 6, none⟩) (cell_lt' hc)).trans hf; have HB := Lib.hid hb; clear hb) | (go_at_call 75; refine (at_we _ _ _).mono ?_; rintro e w' ⟨rfl, rfl⟩))
  go_ret
  exact ⟨_, HB.out, rfl, rfl⟩
theorem at_va (g o : Nat) (w : World) : Calls Tryz.prog 77 #[.pointer (some ⟨g, o, none⟩)] w fun e w' => e = .returned (.pointer (some ⟨g, o + 7, none⟩)) ∧ w = w' := by
  go_enter Tryz.func77, Tryz.ntmps77
  go_wp2_with fail
  go_ret
  exact ⟨rfl, rfl⟩
set_option maxRecDepth 100000 in
set_option maxHeartbeats 1000000 in
theorem tell_va (g o a : Nat) (v lo hi : Int) (hb : -9223372036854775808 ≤ v ∧ v ≤ 9223372036854775807) (w : World) (hV : VarsOk w) (hc : w.cell? ⟨g, o + 7, none⟩ = some (.int .i64 v))
    (h0 : w.cell? ⟨a, 0, none⟩ = some (.func (.func 77) #[] #[])) (h1 : w.cell? ⟨a + 1, 0, none⟩ = some (.int .i64 lo)) (h2 : w.cell? ⟨a + 2, 0, none⟩ = some (.int .i64 hi)) :
    Calls Tryz.prog 122 #[.pointer (some ⟨g, o, none⟩), .pointer (some ⟨a, 0, none⟩), .pointer (some ⟨a + 1, 0, none⟩), .pointer (some ⟨a + 2, 0, none⟩)] w fun e w' => TellQ v lo hi w e w' := by
  have wr : IntKind.i64.wrap v = v := IntWalk.i64_in _ (by omega)
  have HV := Lib.hid hV
  obtain ⟨b0, b1⟩ := hb
  clear hV
  go_enter Tryz.func122, Tryz.ntmps122
  go_upto_region 2 with (go_at_call 77; refine (at_va _ _ _).mono ?_; rintro e w' ⟨rfl, rfl⟩)
  refine wp_region_plan [(0, false), (2, false), (3, false), (4, false), (1, true), (5, false), (6, false), (7, false), (8, false), (9, false), (10, false), (11, false)] (fun w' => w'.cell? ⟨a + 1, 0, none⟩ = some (.int .i64 lo) ∧ w'.cell? ⟨a + 2, 0, none⟩ = some (.int .i64 hi)) (by kernel_rfl) (by kernel_rfl) ⟨h1, h2⟩ ?_
  by_cases hlo : lo ≤ v
  · have i1 : decide (v ≥ lo) = true := by rw [decide_eq_true_eq]; exact hlo
    iterate 4 (refine' plan_val rfl rfl (fun w' hS => ?_) ?_; rotate_left; (focus (first | rfl | (obtain ⟨hS1, hS2⟩ := hS; go_simp; rfl))); simp only [Act.put, List.setIfInBounds_toArray, List.set_cons_zero, List.set_cons_succ])
    refine plan_do rfl (fun K hK => ?_)
    go_wp2_with (go_at_call 116; refine (fmtInt_any v b0 b1 _ (HV.out.on ((Below.refl w.heap.size w).drew) (Nat.le_refl _))).mono ?_; rintro e w1 ⟨rfl, hb⟩; have HB := Lib.hid hb; clear hb)
    refine hK _ _ ⟨(HB.out.cell (p := ⟨a + 1, 0, none⟩) (cell_lt' h1)).trans h1, (HB.out.cell (p := ⟨a + 2, 0, none⟩) (cell_lt' h2)).trans h2⟩ ?_
    clear hK K
    iterate 7 (refine' plan_val rfl rfl (fun w' hS => ?_) ?_; rotate_left; (focus (first | rfl | (obtain ⟨hS1, hS2⟩ := hS; go_simp; rfl))); simp only [Act.put, List.setIfInBounds_toArray, List.set_cons_zero, List.set_cons_succ])
    refine plan_nil ?_
    go_wp2_with fail
    go_ret2
    exact tellQ_yes hlo ((Below.refl _ _).drew.trans HB.out)
  · have i1 : decide (v ≥ lo) = false := by rw [decide_eq_false_iff_not]; exact hlo
    iterate 4 (refine' plan_val rfl rfl (fun w' hS => ?_) ?_; rotate_left; (focus (first | rfl | (obtain ⟨hS1, hS2⟩ := hS; go_simp; rfl))); simp only [Act.put, List.setIfInBounds_toArray, List.set_cons_zero, List.set_cons_succ])
    refine plan_do rfl (fun K hK => ?_)
    go_wp2_with (go_at_call 116; refine (fmtInt_any v b0 b1 _ (HV.out.on ((Below.refl w.heap.size w).drew) (Nat.le_refl _))).mono ?_; rintro e w1 ⟨rfl, hb⟩; have HB := Lib.hid hb; clear hb)
    refine hK _ _ ⟨(HB.out.cell (p := ⟨a + 1, 0, none⟩) (cell_lt' h1)).trans h1, (HB.out.cell (p := ⟨a + 2, 0, none⟩) (cell_lt' h2)).trans h2⟩ ?_
    clear hK K
    (refine' plan_val rfl rfl (fun w' hS => ?_) ?_; rotate_left; (focus (first | rfl | (obtain ⟨hS1, hS2⟩ := hS; go_simp; rfl))); simp only [Act.put, List.setIfInBounds_toArray, List.set_cons_zero, List.set_cons_succ])
    iterate 3 (refine plan_skip rfl rfl ?_; simp only [Act.put, List.setIfInBounds_toArray, List.set_cons_zero, List.set_cons_succ])
    iterate 3 (refine' plan_val rfl rfl (fun w' hS => ?_) ?_; rotate_left; (focus (first | rfl | (obtain ⟨hS1, hS2⟩ := hS; go_simp; rfl))); simp only [Act.put, List.setIfInBounds_toArray, List.set_cons_zero, List.set_cons_succ])
    refine plan_nil ?_
    go_wp2_with fail
    go_ret2
    exact tellQ_no (by omega) ((Below.refl _ _).drew.trans HB.out)
set_option maxRecDepth 100000 in
set_option maxHeartbeats 1000000 in
theorem read_va (g o a : Nat) (s : ByteArray) (hl : s.size ≤ 1048576) (lo hi u : Int) (hr : ∀ v, lo ≤ v → v ≤ hi → IntKind.i64.wrap v = v) (hlo : -9223372036854775808 ≤ lo) (hhi : hi ≤ 9223372036854775807) (w : World) (hV : VarsOk w)
    (hc : w.cell? ⟨g, o + 7, none⟩ = some (.int .i64 u)) (hf : w.frozen? ⟨g, o + 7, none⟩ = false)
    (h0 : w.cell? ⟨a, 0, none⟩ = some (.func (.func 77) #[] #[])) (h1 : w.cell? ⟨a + 1, 0, none⟩ = some (.int .i64 lo)) (h2 : w.cell? ⟨a + 2, 0, none⟩ = some (.int .i64 hi)) :
    Calls Tryz.prog 123 #[.pointer (some ⟨g, o, none⟩), .string s, .pointer (some ⟨a + 1, 0, none⟩), .pointer (some ⟨a + 2, 0, none⟩), .pointer (some ⟨a, 0, none⟩)] w fun e w' => ReadQ s.data.toList lo hi .i64 ⟨g, o + 7, none⟩ w e w' := by
  have HW := Lib.hid (whole_any s hl lo hi hlo hhi w hV)
  have HR := Lib.hid (show IntKind.i64.wrap ((wholeE s.data.toList lo hi).getD 0) = (wholeE s.data.toList lo hi).getD 0 by
    cases hx : wholeE s.data.toList lo hi with
    | none => decide
    | some v =>
      unfold wholeE at hx
      cases hi' : intW s.data.toList with
      | none => rw [hi'] at hx; cases hx
      | some u' =>
        rw [hi'] at hx
        simp only at hx
        split at hx
        · rename_i hbb
          cases hx
          exact hr _ hbb.1 hbb.2
        · cases hx)
  unfold ReadQ
  obtain ⟨R, hR⟩ : ∃ R, wholeE s.data.toList lo hi = R := ⟨_, rfl⟩
  unfold WholeQ at HW
  rw [hR] at HW HR ⊢
  obtain ⟨rv, hrv⟩ : ∃ rv, R.getD 0 = rv := ⟨_, rfl⟩
  obtain ⟨rb, hrb⟩ : ∃ rb, R.isSome = rb := ⟨_, rfl⟩
  rw [hrv] at HW HR ⊢
  rw [hrb] at HW ⊢
  have hwr := HR.out
  clear hR hrv hrb hr hV hlo hhi HR
  go_enter Tryz.func123, Tryz.ntmps123
  go_wp2_with (first | (go_at_call 53; refine HW.out.mono ?_; rintro e w1 ⟨rfl, hb⟩; have c0 := (hb.cell (p := ⟨a, 0, none⟩) (cell_lt' h0)).trans h0; have cc := (hb.cell (p := ⟨g, o + 7, none⟩) (cell_lt' hc)).trans hc; have ff := (hb.frozen (p := ⟨g, o + 7, none⟩) (cell_lt' hc)).trans hf; have HB := Lib.hid hb; clear hb) | (go_at_call 77; refine (at_va _ _ _).mono ?_; rintro e w' ⟨rfl, rfl⟩))
  go_ret
  exact ⟨_, HB.out, rfl, rfl⟩
theorem at_st (g o : Nat) (w : World) : Calls Tryz.prog 79 #[.pointer (some ⟨g, o, none⟩)] w fun e w' => e = .returned (.pointer (some ⟨g, o + 8, none⟩)) ∧ w = w' := by
  go_enter Tryz.func79, Tryz.ntmps79
  go_wp2_with fail
  go_ret
  exact ⟨rfl, rfl⟩
set_option maxRecDepth 100000 in
set_option maxHeartbeats 1000000 in
theorem tell_st (g o a : Nat) (v lo hi : Int) (hb : -9223372036854775808 ≤ v ∧ v ≤ 9223372036854775807) (w : World) (hV : VarsOk w) (hc : w.cell? ⟨g, o + 8, none⟩ = some (.int .u8 v))
    (h0 : w.cell? ⟨a, 0, none⟩ = some (.func (.func 79) #[] #[])) (h1 : w.cell? ⟨a + 1, 0, none⟩ = some (.int .i64 lo)) (h2 : w.cell? ⟨a + 2, 0, none⟩ = some (.int .i64 hi)) :
    Calls Tryz.prog 124 #[.pointer (some ⟨g, o, none⟩), .pointer (some ⟨a, 0, none⟩), .pointer (some ⟨a + 1, 0, none⟩), .pointer (some ⟨a + 2, 0, none⟩)] w fun e w' => TellQ v lo hi w e w' := by
  have wr : IntKind.i64.wrap v = v := IntWalk.i64_in _ (by omega)
  have HV := Lib.hid hV
  obtain ⟨b0, b1⟩ := hb
  clear hV
  go_enter Tryz.func124, Tryz.ntmps124
  go_upto_region 2 with (go_at_call 79; refine (at_st _ _ _).mono ?_; rintro e w' ⟨rfl, rfl⟩)
  refine wp_region_plan [(0, false), (2, false), (3, false), (4, false), (1, true), (5, false), (6, false), (7, false), (8, false), (9, false), (10, false), (11, false)] (fun w' => w'.cell? ⟨a + 1, 0, none⟩ = some (.int .i64 lo) ∧ w'.cell? ⟨a + 2, 0, none⟩ = some (.int .i64 hi)) (by kernel_rfl) (by kernel_rfl) ⟨h1, h2⟩ ?_
  by_cases hlo : lo ≤ v
  · have i1 : decide (v ≥ lo) = true := by rw [decide_eq_true_eq]; exact hlo
    iterate 4 (refine' plan_val rfl rfl (fun w' hS => ?_) ?_; rotate_left; (focus (first | rfl | (obtain ⟨hS1, hS2⟩ := hS; go_simp; rfl))); simp only [Act.put, List.setIfInBounds_toArray, List.set_cons_zero, List.set_cons_succ])
    refine plan_do rfl (fun K hK => ?_)
    go_wp2_with (go_at_call 116; refine (fmtInt_any v b0 b1 _ (HV.out.on ((Below.refl w.heap.size w).drew) (Nat.le_refl _))).mono ?_; rintro e w1 ⟨rfl, hb⟩; have HB := Lib.hid hb; clear hb)
    refine hK _ _ ⟨(HB.out.cell (p := ⟨a + 1, 0, none⟩) (cell_lt' h1)).trans h1, (HB.out.cell (p := ⟨a + 2, 0, none⟩) (cell_lt' h2)).trans h2⟩ ?_
    clear hK K
    iterate 7 (refine' plan_val rfl rfl (fun w' hS => ?_) ?_; rotate_left; (focus (first | rfl | (obtain ⟨hS1, hS2⟩ := hS; go_simp; rfl))); simp only [Act.put, List.setIfInBounds_toArray, List.set_cons_zero, List.set_cons_succ])
    refine plan_nil ?_
    go_wp2_with fail
    go_ret2
    exact tellQ_yes hlo ((Below.refl _ _).drew.trans HB.out)
  · have i1 : decide (v ≥ lo) = false := by rw [decide_eq_false_iff_not]; exact hlo
    iterate 4 (refine' plan_val rfl rfl (fun w' hS => ?_) ?_; rotate_left; (focus (first | rfl | (obtain ⟨hS1, hS2⟩ := hS; go_simp; rfl))); simp only [Act.put, List.setIfInBounds_toArray, List.set_cons_zero, List.set_cons_succ])
    refine plan_do rfl (fun K hK => ?_)
    go_wp2_with (go_at_call 116; refine (fmtInt_any v b0 b1 _ (HV.out.on ((Below.refl w.heap.size w).drew) (Nat.le_refl _))).mono ?_; rintro e w1 ⟨rfl, hb⟩; have HB := Lib.hid hb; clear hb)
    refine hK _ _ ⟨(HB.out.cell (p := ⟨a + 1, 0, none⟩) (cell_lt' h1)).trans h1, (HB.out.cell (p := ⟨a + 2, 0, none⟩) (cell_lt' h2)).trans h2⟩ ?_
    clear hK K
    (refine' plan_val rfl rfl (fun w' hS => ?_) ?_; rotate_left; (focus (first | rfl | (obtain ⟨hS1, hS2⟩ := hS; go_simp; rfl))); simp only [Act.put, List.setIfInBounds_toArray, List.set_cons_zero, List.set_cons_succ])
    iterate 3 (refine plan_skip rfl rfl ?_; simp only [Act.put, List.setIfInBounds_toArray, List.set_cons_zero, List.set_cons_succ])
    iterate 3 (refine' plan_val rfl rfl (fun w' hS => ?_) ?_; rotate_left; (focus (first | rfl | (obtain ⟨hS1, hS2⟩ := hS; go_simp; rfl))); simp only [Act.put, List.setIfInBounds_toArray, List.set_cons_zero, List.set_cons_succ])
    refine plan_nil ?_
    go_wp2_with fail
    go_ret2
    exact tellQ_no (by omega) ((Below.refl _ _).drew.trans HB.out)
set_option maxRecDepth 100000 in
set_option maxHeartbeats 1000000 in
theorem read_st (g o a : Nat) (s : ByteArray) (hl : s.size ≤ 1048576) (lo hi u : Int) (hr : ∀ v, lo ≤ v → v ≤ hi → IntKind.u8.wrap v = v) (hlo : -9223372036854775808 ≤ lo) (hhi : hi ≤ 9223372036854775807) (w : World) (hV : VarsOk w)
    (hc : w.cell? ⟨g, o + 8, none⟩ = some (.int .u8 u)) (hf : w.frozen? ⟨g, o + 8, none⟩ = false)
    (h0 : w.cell? ⟨a, 0, none⟩ = some (.func (.func 79) #[] #[])) (h1 : w.cell? ⟨a + 1, 0, none⟩ = some (.int .i64 lo)) (h2 : w.cell? ⟨a + 2, 0, none⟩ = some (.int .i64 hi)) :
    Calls Tryz.prog 125 #[.pointer (some ⟨g, o, none⟩), .string s, .pointer (some ⟨a + 1, 0, none⟩), .pointer (some ⟨a + 2, 0, none⟩), .pointer (some ⟨a, 0, none⟩)] w fun e w' => ReadQ s.data.toList lo hi .u8 ⟨g, o + 8, none⟩ w e w' := by
  have HW := Lib.hid (whole_any s hl lo hi hlo hhi w hV)
  have HR := Lib.hid (show IntKind.u8.wrap ((wholeE s.data.toList lo hi).getD 0) = (wholeE s.data.toList lo hi).getD 0 by
    cases hx : wholeE s.data.toList lo hi with
    | none => decide
    | some v =>
      unfold wholeE at hx
      cases hi' : intW s.data.toList with
      | none => rw [hi'] at hx; cases hx
      | some u' =>
        rw [hi'] at hx
        simp only at hx
        split at hx
        · rename_i hbb
          cases hx
          exact hr _ hbb.1 hbb.2
        · cases hx)
  unfold ReadQ
  obtain ⟨R, hR⟩ : ∃ R, wholeE s.data.toList lo hi = R := ⟨_, rfl⟩
  unfold WholeQ at HW
  rw [hR] at HW HR ⊢
  obtain ⟨rv, hrv⟩ : ∃ rv, R.getD 0 = rv := ⟨_, rfl⟩
  obtain ⟨rb, hrb⟩ : ∃ rb, R.isSome = rb := ⟨_, rfl⟩
  rw [hrv] at HW HR ⊢
  rw [hrb] at HW ⊢
  have hwr := HR.out
  clear hR hrv hrb hr hV hlo hhi HR
  go_enter Tryz.func125, Tryz.ntmps125
  go_wp2_with (first | (go_at_call 53; refine HW.out.mono ?_; rintro e w1 ⟨rfl, hb⟩; have c0 := (hb.cell (p := ⟨a, 0, none⟩) (cell_lt' h0)).trans h0; have cc := (hb.cell (p := ⟨g, o + 8, none⟩) (cell_lt' hc)).trans hc; have ff := (hb.frozen (p := ⟨g, o + 8, none⟩) (cell_lt' hc)).trans hf; have HB := Lib.hid hb; clear hb) | (go_at_call 79; refine (at_st _ _ _).mono ?_; rintro e w' ⟨rfl, rfl⟩))
  go_ret
  exact ⟨_, HB.out, rfl, rfl⟩
theorem at_no (g o : Nat) (w : World) : Calls Tryz.prog 80 #[.pointer (some ⟨g, o, none⟩)] w fun e w' => e = .returned (.pointer (some ⟨g, o + 9, none⟩)) ∧ w = w' := by
  go_enter Tryz.func80, Tryz.ntmps80
  go_wp2_with fail
  go_ret
  exact ⟨rfl, rfl⟩
set_option maxRecDepth 100000 in
set_option maxHeartbeats 1000000 in
theorem tell_no (g o a : Nat) (v lo hi : Int) (hb : -9223372036854775808 ≤ v ∧ v ≤ 9223372036854775807) (w : World) (hV : VarsOk w) (hc : w.cell? ⟨g, o + 9, none⟩ = some (.int .u32 v))
    (h0 : w.cell? ⟨a, 0, none⟩ = some (.func (.func 80) #[] #[])) (h1 : w.cell? ⟨a + 1, 0, none⟩ = some (.int .i64 lo)) (h2 : w.cell? ⟨a + 2, 0, none⟩ = some (.int .i64 hi)) :
    Calls Tryz.prog 120 #[.pointer (some ⟨g, o, none⟩), .pointer (some ⟨a, 0, none⟩), .pointer (some ⟨a + 1, 0, none⟩), .pointer (some ⟨a + 2, 0, none⟩)] w fun e w' => TellQ v lo hi w e w' := by
  have wr : IntKind.i64.wrap v = v := IntWalk.i64_in _ (by omega)
  have HV := Lib.hid hV
  obtain ⟨b0, b1⟩ := hb
  clear hV
  go_enter Tryz.func120, Tryz.ntmps120
  go_upto_region 2 with (go_at_call 80; refine (at_no _ _ _).mono ?_; rintro e w' ⟨rfl, rfl⟩)
  refine wp_region_plan [(0, false), (2, false), (3, false), (4, false), (1, true), (5, false), (6, false), (7, false), (8, false), (9, false), (10, false), (11, false)] (fun w' => w'.cell? ⟨a + 1, 0, none⟩ = some (.int .i64 lo) ∧ w'.cell? ⟨a + 2, 0, none⟩ = some (.int .i64 hi)) (by kernel_rfl) (by kernel_rfl) ⟨h1, h2⟩ ?_
  by_cases hlo : lo ≤ v
  · have i1 : decide (v ≥ lo) = true := by rw [decide_eq_true_eq]; exact hlo
    iterate 4 (refine' plan_val rfl rfl (fun w' hS => ?_) ?_; rotate_left; (focus (first | rfl | (obtain ⟨hS1, hS2⟩ := hS; go_simp; rfl))); simp only [Act.put, List.setIfInBounds_toArray, List.set_cons_zero, List.set_cons_succ])
    refine plan_do rfl (fun K hK => ?_)
    go_wp2_with (go_at_call 116; refine (fmtInt_any v b0 b1 _ (HV.out.on ((Below.refl w.heap.size w).drew) (Nat.le_refl _))).mono ?_; rintro e w1 ⟨rfl, hb⟩; have HB := Lib.hid hb; clear hb)
    refine hK _ _ ⟨(HB.out.cell (p := ⟨a + 1, 0, none⟩) (cell_lt' h1)).trans h1, (HB.out.cell (p := ⟨a + 2, 0, none⟩) (cell_lt' h2)).trans h2⟩ ?_
    clear hK K
    iterate 7 (refine' plan_val rfl rfl (fun w' hS => ?_) ?_; rotate_left; (focus (first | rfl | (obtain ⟨hS1, hS2⟩ := hS; go_simp; rfl))); simp only [Act.put, List.setIfInBounds_toArray, List.set_cons_zero, List.set_cons_succ])
    refine plan_nil ?_
    go_wp2_with fail
    go_ret2
    exact tellQ_yes hlo ((Below.refl _ _).drew.trans HB.out)
  · have i1 : decide (v ≥ lo) = false := by rw [decide_eq_false_iff_not]; exact hlo
    iterate 4 (refine' plan_val rfl rfl (fun w' hS => ?_) ?_; rotate_left; (focus (first | rfl | (obtain ⟨hS1, hS2⟩ := hS; go_simp; rfl))); simp only [Act.put, List.setIfInBounds_toArray, List.set_cons_zero, List.set_cons_succ])
    refine plan_do rfl (fun K hK => ?_)
    go_wp2_with (go_at_call 116; refine (fmtInt_any v b0 b1 _ (HV.out.on ((Below.refl w.heap.size w).drew) (Nat.le_refl _))).mono ?_; rintro e w1 ⟨rfl, hb⟩; have HB := Lib.hid hb; clear hb)
    refine hK _ _ ⟨(HB.out.cell (p := ⟨a + 1, 0, none⟩) (cell_lt' h1)).trans h1, (HB.out.cell (p := ⟨a + 2, 0, none⟩) (cell_lt' h2)).trans h2⟩ ?_
    clear hK K
    (refine' plan_val rfl rfl (fun w' hS => ?_) ?_; rotate_left; (focus (first | rfl | (obtain ⟨hS1, hS2⟩ := hS; go_simp; rfl))); simp only [Act.put, List.setIfInBounds_toArray, List.set_cons_zero, List.set_cons_succ])
    iterate 3 (refine plan_skip rfl rfl ?_; simp only [Act.put, List.setIfInBounds_toArray, List.set_cons_zero, List.set_cons_succ])
    iterate 3 (refine' plan_val rfl rfl (fun w' hS => ?_) ?_; rotate_left; (focus (first | rfl | (obtain ⟨hS1, hS2⟩ := hS; go_simp; rfl))); simp only [Act.put, List.setIfInBounds_toArray, List.set_cons_zero, List.set_cons_succ])
    refine plan_nil ?_
    go_wp2_with fail
    go_ret2
    exact tellQ_no (by omega) ((Below.refl _ _).drew.trans HB.out)
set_option maxRecDepth 100000 in
set_option maxHeartbeats 1000000 in
theorem read_no (g o a : Nat) (s : ByteArray) (hl : s.size ≤ 1048576) (lo hi u : Int) (hr : ∀ v, lo ≤ v → v ≤ hi → IntKind.u32.wrap v = v) (hlo : -9223372036854775808 ≤ lo) (hhi : hi ≤ 9223372036854775807) (w : World) (hV : VarsOk w)
    (hc : w.cell? ⟨g, o + 9, none⟩ = some (.int .u32 u)) (hf : w.frozen? ⟨g, o + 9, none⟩ = false)
    (h0 : w.cell? ⟨a, 0, none⟩ = some (.func (.func 80) #[] #[])) (h1 : w.cell? ⟨a + 1, 0, none⟩ = some (.int .i64 lo)) (h2 : w.cell? ⟨a + 2, 0, none⟩ = some (.int .i64 hi)) :
    Calls Tryz.prog 121 #[.pointer (some ⟨g, o, none⟩), .string s, .pointer (some ⟨a + 1, 0, none⟩), .pointer (some ⟨a + 2, 0, none⟩), .pointer (some ⟨a, 0, none⟩)] w fun e w' => ReadQ s.data.toList lo hi .u32 ⟨g, o + 9, none⟩ w e w' := by
  have HW := Lib.hid (whole_any s hl lo hi hlo hhi w hV)
  have HR := Lib.hid (show IntKind.u32.wrap ((wholeE s.data.toList lo hi).getD 0) = (wholeE s.data.toList lo hi).getD 0 by
    cases hx : wholeE s.data.toList lo hi with
    | none => decide
    | some v =>
      unfold wholeE at hx
      cases hi' : intW s.data.toList with
      | none => rw [hi'] at hx; cases hx
      | some u' =>
        rw [hi'] at hx
        simp only at hx
        split at hx
        · rename_i hbb
          cases hx
          exact hr _ hbb.1 hbb.2
        · cases hx)
  unfold ReadQ
  obtain ⟨R, hR⟩ : ∃ R, wholeE s.data.toList lo hi = R := ⟨_, rfl⟩
  unfold WholeQ at HW
  rw [hR] at HW HR ⊢
  obtain ⟨rv, hrv⟩ : ∃ rv, R.getD 0 = rv := ⟨_, rfl⟩
  obtain ⟨rb, hrb⟩ : ∃ rb, R.isSome = rb := ⟨_, rfl⟩
  rw [hrv] at HW HR ⊢
  rw [hrb] at HW ⊢
  have hwr := HR.out
  clear hR hrv hrb hr hV hlo hhi HR
  go_enter Tryz.func121, Tryz.ntmps121
  go_wp2_with (first | (go_at_call 53; refine HW.out.mono ?_; rintro e w1 ⟨rfl, hb⟩; have c0 := (hb.cell (p := ⟨a, 0, none⟩) (cell_lt' h0)).trans h0; have cc := (hb.cell (p := ⟨g, o + 9, none⟩) (cell_lt' hc)).trans hc; have ff := (hb.frozen (p := ⟨g, o + 9, none⟩) (cell_lt' hc)).trans hf; have HB := Lib.hid hb; clear hb) | (go_at_call 80; refine (at_no _ _ _).mono ?_; rintro e w' ⟨rfl, rfl⟩))
  go_ret
  exact ⟨_, HB.out, rfl, rfl⟩
theorem at_am (g o : Nat) (w : World) : Calls Tryz.prog 81 #[.pointer (some ⟨g, o, none⟩)] w fun e w' => e = .returned (.pointer (some ⟨g, o + 10, none⟩)) ∧ w = w' := by
  go_enter Tryz.func81, Tryz.ntmps81
  go_wp2_with fail
  go_ret
  exact ⟨rfl, rfl⟩
set_option maxRecDepth 100000 in
set_option maxHeartbeats 1000000 in
theorem tell_am (g o a : Nat) (v lo hi : Int) (hb : -9223372036854775808 ≤ v ∧ v ≤ 9223372036854775807) (w : World) (hV : VarsOk w) (hc : w.cell? ⟨g, o + 10, none⟩ = some (.int .i64 v))
    (h0 : w.cell? ⟨a, 0, none⟩ = some (.func (.func 81) #[] #[])) (h1 : w.cell? ⟨a + 1, 0, none⟩ = some (.int .i64 lo)) (h2 : w.cell? ⟨a + 2, 0, none⟩ = some (.int .i64 hi)) :
    Calls Tryz.prog 122 #[.pointer (some ⟨g, o, none⟩), .pointer (some ⟨a, 0, none⟩), .pointer (some ⟨a + 1, 0, none⟩), .pointer (some ⟨a + 2, 0, none⟩)] w fun e w' => TellQ v lo hi w e w' := by
  have wr : IntKind.i64.wrap v = v := IntWalk.i64_in _ (by omega)
  have HV := Lib.hid hV
  obtain ⟨b0, b1⟩ := hb
  clear hV
  go_enter Tryz.func122, Tryz.ntmps122
  go_upto_region 2 with (go_at_call 81; refine (at_am _ _ _).mono ?_; rintro e w' ⟨rfl, rfl⟩)
  refine wp_region_plan [(0, false), (2, false), (3, false), (4, false), (1, true), (5, false), (6, false), (7, false), (8, false), (9, false), (10, false), (11, false)] (fun w' => w'.cell? ⟨a + 1, 0, none⟩ = some (.int .i64 lo) ∧ w'.cell? ⟨a + 2, 0, none⟩ = some (.int .i64 hi)) (by kernel_rfl) (by kernel_rfl) ⟨h1, h2⟩ ?_
  by_cases hlo : lo ≤ v
  · have i1 : decide (v ≥ lo) = true := by rw [decide_eq_true_eq]; exact hlo
    iterate 4 (refine' plan_val rfl rfl (fun w' hS => ?_) ?_; rotate_left; (focus (first | rfl | (obtain ⟨hS1, hS2⟩ := hS; go_simp; rfl))); simp only [Act.put, List.setIfInBounds_toArray, List.set_cons_zero, List.set_cons_succ])
    refine plan_do rfl (fun K hK => ?_)
    go_wp2_with (go_at_call 116; refine (fmtInt_any v b0 b1 _ (HV.out.on ((Below.refl w.heap.size w).drew) (Nat.le_refl _))).mono ?_; rintro e w1 ⟨rfl, hb⟩; have HB := Lib.hid hb; clear hb)
    refine hK _ _ ⟨(HB.out.cell (p := ⟨a + 1, 0, none⟩) (cell_lt' h1)).trans h1, (HB.out.cell (p := ⟨a + 2, 0, none⟩) (cell_lt' h2)).trans h2⟩ ?_
    clear hK K
    iterate 7 (refine' plan_val rfl rfl (fun w' hS => ?_) ?_; rotate_left; (focus (first | rfl | (obtain ⟨hS1, hS2⟩ := hS; go_simp; rfl))); simp only [Act.put, List.setIfInBounds_toArray, List.set_cons_zero, List.set_cons_succ])
    refine plan_nil ?_
    go_wp2_with fail
    go_ret2
    exact tellQ_yes hlo ((Below.refl _ _).drew.trans HB.out)
  · have i1 : decide (v ≥ lo) = false := by rw [decide_eq_false_iff_not]; exact hlo
    iterate 4 (refine' plan_val rfl rfl (fun w' hS => ?_) ?_; rotate_left; (focus (first | rfl | (obtain ⟨hS1, hS2⟩ := hS; go_simp; rfl))); simp only [Act.put, List.setIfInBounds_toArray, List.set_cons_zero, List.set_cons_succ])
    refine plan_do rfl (fun K hK => ?_)
    go_wp2_with (go_at_call 116; refine (fmtInt_any v b0 b1 _ (HV.out.on ((Below.refl w.heap.size w).drew) (Nat.le_refl _))).mono ?_; rintro e w1 ⟨rfl, hb⟩; have HB := Lib.hid hb; clear hb)
    refine hK _ _ ⟨(HB.out.cell (p := ⟨a + 1, 0, none⟩) (cell_lt' h1)).trans h1, (HB.out.cell (p := ⟨a + 2, 0, none⟩) (cell_lt' h2)).trans h2⟩ ?_
    clear hK K
    (refine' plan_val rfl rfl (fun w' hS => ?_) ?_; rotate_left; (focus (first | rfl | (obtain ⟨hS1, hS2⟩ := hS; go_simp; rfl))); simp only [Act.put, List.setIfInBounds_toArray, List.set_cons_zero, List.set_cons_succ])
    iterate 3 (refine plan_skip rfl rfl ?_; simp only [Act.put, List.setIfInBounds_toArray, List.set_cons_zero, List.set_cons_succ])
    iterate 3 (refine' plan_val rfl rfl (fun w' hS => ?_) ?_; rotate_left; (focus (first | rfl | (obtain ⟨hS1, hS2⟩ := hS; go_simp; rfl))); simp only [Act.put, List.setIfInBounds_toArray, List.set_cons_zero, List.set_cons_succ])
    refine plan_nil ?_
    go_wp2_with fail
    go_ret2
    exact tellQ_no (by omega) ((Below.refl _ _).drew.trans HB.out)
set_option maxRecDepth 100000 in
set_option maxHeartbeats 1000000 in
theorem read_am (g o a : Nat) (s : ByteArray) (hl : s.size ≤ 1048576) (lo hi u : Int) (hr : ∀ v, lo ≤ v → v ≤ hi → IntKind.i64.wrap v = v) (hlo : -9223372036854775808 ≤ lo) (hhi : hi ≤ 9223372036854775807) (w : World) (hV : VarsOk w)
    (hc : w.cell? ⟨g, o + 10, none⟩ = some (.int .i64 u)) (hf : w.frozen? ⟨g, o + 10, none⟩ = false)
    (h0 : w.cell? ⟨a, 0, none⟩ = some (.func (.func 81) #[] #[])) (h1 : w.cell? ⟨a + 1, 0, none⟩ = some (.int .i64 lo)) (h2 : w.cell? ⟨a + 2, 0, none⟩ = some (.int .i64 hi)) :
    Calls Tryz.prog 123 #[.pointer (some ⟨g, o, none⟩), .string s, .pointer (some ⟨a + 1, 0, none⟩), .pointer (some ⟨a + 2, 0, none⟩), .pointer (some ⟨a, 0, none⟩)] w fun e w' => ReadQ s.data.toList lo hi .i64 ⟨g, o + 10, none⟩ w e w' := by
  have HW := Lib.hid (whole_any s hl lo hi hlo hhi w hV)
  have HR := Lib.hid (show IntKind.i64.wrap ((wholeE s.data.toList lo hi).getD 0) = (wholeE s.data.toList lo hi).getD 0 by
    cases hx : wholeE s.data.toList lo hi with
    | none => decide
    | some v =>
      unfold wholeE at hx
      cases hi' : intW s.data.toList with
      | none => rw [hi'] at hx; cases hx
      | some u' =>
        rw [hi'] at hx
        simp only at hx
        split at hx
        · rename_i hbb
          cases hx
          exact hr _ hbb.1 hbb.2
        · cases hx)
  unfold ReadQ
  obtain ⟨R, hR⟩ : ∃ R, wholeE s.data.toList lo hi = R := ⟨_, rfl⟩
  unfold WholeQ at HW
  rw [hR] at HW HR ⊢
  obtain ⟨rv, hrv⟩ : ∃ rv, R.getD 0 = rv := ⟨_, rfl⟩
  obtain ⟨rb, hrb⟩ : ∃ rb, R.isSome = rb := ⟨_, rfl⟩
  rw [hrv] at HW HR ⊢
  rw [hrb] at HW ⊢
  have hwr := HR.out
  clear hR hrv hrb hr hV hlo hhi HR
  go_enter Tryz.func123, Tryz.ntmps123
  go_wp2_with (first | (go_at_call 53; refine HW.out.mono ?_; rintro e w1 ⟨rfl, hb⟩; have c0 := (hb.cell (p := ⟨a, 0, none⟩) (cell_lt' h0)).trans h0; have cc := (hb.cell (p := ⟨g, o + 10, none⟩) (cell_lt' hc)).trans hc; have ff := (hb.frozen (p := ⟨g, o + 10, none⟩) (cell_lt' hc)).trans hf; have HB := Lib.hid hb; clear hb) | (go_at_call 81; refine (at_am _ _ _).mono ?_; rintro e w' ⟨rfl, rfl⟩))
  go_ret
  exact ⟨_, HB.out, rfl, rfl⟩
theorem at_co (g o : Nat) (w : World) : Calls Tryz.prog 83 #[.pointer (some ⟨g, o, none⟩)] w fun e w' => e = .returned (.pointer (some ⟨g, o + 11, none⟩)) ∧ w = w' := by
  go_enter Tryz.func83, Tryz.ntmps83
  go_wp2_with fail
  go_ret
  exact ⟨rfl, rfl⟩
set_option maxRecDepth 100000 in
set_option maxHeartbeats 1000000 in
theorem tell_co (g o a : Nat) (v lo hi : Int) (hb : -9223372036854775808 ≤ v ∧ v ≤ 9223372036854775807) (w : World) (hV : VarsOk w) (hc : w.cell? ⟨g, o + 11, none⟩ = some (.int .i64 v))
    (h0 : w.cell? ⟨a, 0, none⟩ = some (.func (.func 83) #[] #[])) (h1 : w.cell? ⟨a + 1, 0, none⟩ = some (.int .i64 lo)) (h2 : w.cell? ⟨a + 2, 0, none⟩ = some (.int .i64 hi)) :
    Calls Tryz.prog 126 #[.pointer (some ⟨g, o, none⟩), .pointer (some ⟨a, 0, none⟩), .pointer (some ⟨a + 1, 0, none⟩), .pointer (some ⟨a + 2, 0, none⟩)] w fun e w' => TellQ v lo hi w e w' := by
  have wr : IntKind.i64.wrap v = v := IntWalk.i64_in _ (by omega)
  have HV := Lib.hid hV
  obtain ⟨b0, b1⟩ := hb
  clear hV
  go_enter Tryz.func126, Tryz.ntmps126
  go_upto_region 2 with (go_at_call 83; refine (at_co _ _ _).mono ?_; rintro e w' ⟨rfl, rfl⟩)
  refine wp_region_plan [(0, false), (2, false), (3, false), (4, false), (1, true), (5, false), (6, false), (7, false), (8, false), (9, false), (10, false), (11, false)] (fun w' => w'.cell? ⟨a + 1, 0, none⟩ = some (.int .i64 lo) ∧ w'.cell? ⟨a + 2, 0, none⟩ = some (.int .i64 hi)) (by kernel_rfl) (by kernel_rfl) ⟨h1, h2⟩ ?_
  by_cases hlo : lo ≤ v
  · have i1 : decide (v ≥ lo) = true := by rw [decide_eq_true_eq]; exact hlo
    iterate 4 (refine' plan_val rfl rfl (fun w' hS => ?_) ?_; rotate_left; (focus (first | rfl | (obtain ⟨hS1, hS2⟩ := hS; go_simp; rfl))); simp only [Act.put, List.setIfInBounds_toArray, List.set_cons_zero, List.set_cons_succ])
    refine plan_do rfl (fun K hK => ?_)
    go_wp2_with (go_at_call 116; refine (fmtInt_any v b0 b1 _ (HV.out.on ((Below.refl w.heap.size w).drew) (Nat.le_refl _))).mono ?_; rintro e w1 ⟨rfl, hb⟩; have HB := Lib.hid hb; clear hb)
    refine hK _ _ ⟨(HB.out.cell (p := ⟨a + 1, 0, none⟩) (cell_lt' h1)).trans h1, (HB.out.cell (p := ⟨a + 2, 0, none⟩) (cell_lt' h2)).trans h2⟩ ?_
    clear hK K
    iterate 7 (refine' plan_val rfl rfl (fun w' hS => ?_) ?_; rotate_left; (focus (first | rfl | (obtain ⟨hS1, hS2⟩ := hS; go_simp; rfl))); simp only [Act.put, List.setIfInBounds_toArray, List.set_cons_zero, List.set_cons_succ])
    refine plan_nil ?_
    go_wp2_with fail
    go_ret2
    exact tellQ_yes hlo ((Below.refl _ _).drew.trans HB.out)
  · have i1 : decide (v ≥ lo) = false := by rw [decide_eq_false_iff_not]; exact hlo
    iterate 4 (refine' plan_val rfl rfl (fun w' hS => ?_) ?_; rotate_left; (focus (first | rfl | (obtain ⟨hS1, hS2⟩ := hS; go_simp; rfl))); simp only [Act.put, List.setIfInBounds_toArray, List.set_cons_zero, List.set_cons_succ])
    refine plan_do rfl (fun K hK => ?_)
    go_wp2_with (go_at_call 116; refine (fmtInt_any v b0 b1 _ (HV.out.on ((Below.refl w.heap.size w).drew) (Nat.le_refl _))).mono ?_; rintro e w1 ⟨rfl, hb⟩; have HB := Lib.hid hb; clear hb)
    refine hK _ _ ⟨(HB.out.cell (p := ⟨a + 1, 0, none⟩) (cell_lt' h1)).trans h1, (HB.out.cell (p := ⟨a + 2, 0, none⟩) (cell_lt' h2)).trans h2⟩ ?_
    clear hK K
    (refine' plan_val rfl rfl (fun w' hS => ?_) ?_; rotate_left; (focus (first | rfl | (obtain ⟨hS1, hS2⟩ := hS; go_simp; rfl))); simp only [Act.put, List.setIfInBounds_toArray, List.set_cons_zero, List.set_cons_succ])
    iterate 3 (refine plan_skip rfl rfl ?_; simp only [Act.put, List.setIfInBounds_toArray, List.set_cons_zero, List.set_cons_succ])
    iterate 3 (refine' plan_val rfl rfl (fun w' hS => ?_) ?_; rotate_left; (focus (first | rfl | (obtain ⟨hS1, hS2⟩ := hS; go_simp; rfl))); simp only [Act.put, List.setIfInBounds_toArray, List.set_cons_zero, List.set_cons_succ])
    refine plan_nil ?_
    go_wp2_with fail
    go_ret2
    exact tellQ_no (by omega) ((Below.refl _ _).drew.trans HB.out)
set_option maxRecDepth 100000 in
set_option maxHeartbeats 1000000 in
theorem read_co (g o a : Nat) (s : ByteArray) (hl : s.size ≤ 1048576) (lo hi u : Int) (hr : ∀ v, lo ≤ v → v ≤ hi → IntKind.i64.wrap v = v) (hlo : -9223372036854775808 ≤ lo) (hhi : hi ≤ 9223372036854775807) (w : World) (hV : VarsOk w)
    (hc : w.cell? ⟨g, o + 11, none⟩ = some (.int .i64 u)) (hf : w.frozen? ⟨g, o + 11, none⟩ = false)
    (h0 : w.cell? ⟨a, 0, none⟩ = some (.func (.func 83) #[] #[])) (h1 : w.cell? ⟨a + 1, 0, none⟩ = some (.int .i64 lo)) (h2 : w.cell? ⟨a + 2, 0, none⟩ = some (.int .i64 hi)) :
    Calls Tryz.prog 127 #[.pointer (some ⟨g, o, none⟩), .string s, .pointer (some ⟨a + 1, 0, none⟩), .pointer (some ⟨a + 2, 0, none⟩), .pointer (some ⟨a, 0, none⟩)] w fun e w' => ReadQ s.data.toList lo hi .i64 ⟨g, o + 11, none⟩ w e w' := by
  have HW := Lib.hid (whole_any s hl lo hi hlo hhi w hV)
  have HR := Lib.hid (show IntKind.i64.wrap ((wholeE s.data.toList lo hi).getD 0) = (wholeE s.data.toList lo hi).getD 0 by
    cases hx : wholeE s.data.toList lo hi with
    | none => decide
    | some v =>
      unfold wholeE at hx
      cases hi' : intW s.data.toList with
      | none => rw [hi'] at hx; cases hx
      | some u' =>
        rw [hi'] at hx
        simp only at hx
        split at hx
        · rename_i hbb
          cases hx
          exact hr _ hbb.1 hbb.2
        · cases hx)
  unfold ReadQ
  obtain ⟨R, hR⟩ : ∃ R, wholeE s.data.toList lo hi = R := ⟨_, rfl⟩
  unfold WholeQ at HW
  rw [hR] at HW HR ⊢
  obtain ⟨rv, hrv⟩ : ∃ rv, R.getD 0 = rv := ⟨_, rfl⟩
  obtain ⟨rb, hrb⟩ : ∃ rb, R.isSome = rb := ⟨_, rfl⟩
  rw [hrv] at HW HR ⊢
  rw [hrb] at HW ⊢
  have hwr := HR.out
  clear hR hrv hrb hr hV hlo hhi HR
  go_enter Tryz.func127, Tryz.ntmps127
  go_wp2_with (first | (go_at_call 53; refine HW.out.mono ?_; rintro e w1 ⟨rfl, hb⟩; have c0 := (hb.cell (p := ⟨a, 0, none⟩) (cell_lt' h0)).trans h0; have cc := (hb.cell (p := ⟨g, o + 11, none⟩) (cell_lt' hc)).trans hc; have ff := (hb.frozen (p := ⟨g, o + 11, none⟩) (cell_lt' hc)).trans hf; have HB := Lib.hid hb; clear hb) | (go_at_call 83; refine (at_co _ _ _).mono ?_; rintro e w' ⟨rfl, rfl⟩))
  go_ret
  exact ⟨_, HB.out, rfl, rfl⟩
end Go.Proofs.YtgfijlamhjjecaaGreatDoor


namespace Go.Proofs.YtgfijlamhjjecaaGreatDoor
open Go.RowKit
structure FieldC (w : World) (a k : Nat) (lo hi : Int) : Prop where
  c0 : w.cell? ⟨a, 0, none⟩ = some (.func (.func k) #[] #[])
  c1 : w.cell? ⟨a + 1, 0, none⟩ = some (.int .i64 lo)
  c2 : w.cell? ⟨a + 2, 0, none⟩ = some (.int .i64 hi)
theorem FieldC.on {w w' : World} {a k : Nat} {lo hi : Int} {B : Nat} (h : FieldC w a k lo hi) (hb : Below B w w') (hB : w.heap.size ≤ B) : FieldC w' a k lo hi :=
  ⟨(hb.cell (Nat.lt_of_lt_of_le (cell_lt' h.c0) hB)).trans h.c0, (hb.cell (Nat.lt_of_lt_of_le (cell_lt' h.c1) hB)).trans h.c1, (hb.cell (Nat.lt_of_lt_of_le (cell_lt' h.c2) hB)).trans h.c2⟩
theorem heap_alloc_at {w : World} {o : Obj} {g : Nat} (h : w.heap.size = g) : (w.alloc o).heap[g]? = some o := by subst h; exact heap_alloc_new _ _
def OfQ (tl rd k : Nat) (lo hi : Int) (w : World) (e : Ending) (w' : World) : Prop := ∃ a, e = .returned (.agg #[.func (.func tl) #[] #[.pointer (some ⟨a, 0, none⟩), .pointer (some ⟨a + 1, 0, none⟩), .pointer (some ⟨a + 2, 0, none⟩)], .func (.func rd) #[] #[.pointer (some ⟨a + 1, 0, none⟩), .pointer (some ⟨a + 2, 0, none⟩), .pointer (some ⟨a, 0, none⟩)]]) ∧ w.heap.size ≤ a ∧ a + 3 ≤ w'.heap.size ∧ FieldC w' a k lo hi ∧ Below w.heap.size w w'
theorem res_field {fn : Func} {p : Tmp} (h : fn.results = #[.cell p 107]) (tmps : Array Value) {w : World} {g : Nat} {cs : Array Value} {t : TypeId} (hp : tmps.getD p undef = .pointer (some ⟨g, 0, none⟩))
    (hg : w.heap[g]? = some (.cells cs t (0, 0))) (hs : cs.size = 2) : (results fn tmps).run Tryz.prog w = .ok (.agg cs) w := by
  rw [results_cell1 h, hp]
  have hl : (loadVar 107 ⟨g, 0, none⟩).run Tryz.prog w = .ok (.agg cs) w := run_loadVar_row w g t 107 cs (0, 0) _ hg Tryz.underlying107 rfl (by rw [hs]; kernel_rfl)
  simp [asAddr, hl, Result.andThen]
theorem ofQ_end {w : World} {tl rd k : Nat} {lo hi : Int} {t1 t2 t3 t4 : TypeId} {cs : Array Value} : OfQ tl rd k lo hi w (.returned (.agg #[.func (.func tl) #[] #[.pointer (some ⟨w.heap.size, 0, none⟩), .pointer (some ⟨w.heap.size + 1, 0, none⟩), .pointer (some ⟨w.heap.size + 2, 0, none⟩)], .func (.func rd) #[] #[.pointer (some ⟨w.heap.size + 1, 0, none⟩), .pointer (some ⟨w.heap.size + 2, 0, none⟩), .pointer (some ⟨w.heap.size, 0, none⟩)]]))
    ((((w.alloc (.cells #[.func (.func k) #[] #[]] t1)).alloc (.cells #[.int .i64 lo] t2)).alloc (.cells #[.int .i64 hi] t3)).alloc (.cells cs t4)) := by
  have e1 := heap_alloc_new w (.cells #[.func (.func k) #[] #[]] t1)
  have e2 := heap_alloc_new (w.alloc (.cells #[.func (.func k) #[] #[]] t1)) (.cells #[.int .i64 lo] t2)
  have e3 := heap_alloc_new ((w.alloc (.cells #[.func (.func k) #[] #[]] t1)).alloc (.cells #[.int .i64 lo] t2)) (.cells #[.int .i64 hi] t3)
  simp only [World.size_alloc] at e2 e3
  refine ⟨w.heap.size, rfl, Nat.le_refl _, by simp, ⟨?_, ?_, ?_⟩, ((((Below.refl _ w).alloc (Nat.le_refl _) _).alloc (by simp) _).alloc (by simp only [World.size_alloc]; omega) _).alloc (by simp only [World.size_alloc]; omega) _⟩
  · rw [cell_of_row _ w.heap.size 0 _ _ _ ((Below.heap_alloc _ _ _ (by simp only [World.size_alloc]; omega)).trans ((Below.heap_alloc _ _ _ (by simp only [World.size_alloc]; omega)).trans ((Below.heap_alloc _ _ _ (by simp)).trans e1)))]; rfl
  · rw [cell_of_row _ (w.heap.size + 1) 0 _ _ _ ((Below.heap_alloc _ _ _ (by simp only [World.size_alloc]; omega)).trans ((Below.heap_alloc _ _ _ (by simp)).trans e2))]; rfl
  · rw [cell_of_row _ (w.heap.size + 2) 0 _ _ _ ((Below.heap_alloc _ _ _ (by simp)).trans e3)]; rfl
set_option maxHeartbeats 1000000 in
theorem of8_any (k : Nat) (lo hi : Int) (w : World) : Calls Tryz.prog 70 #[.func (.func k) #[] #[], .int .i64 lo, .int .i64 hi] w fun e w' => OfQ 115 117 k lo hi w e w' := by
  go_enter Tryz.func70, Tryz.ntmps70
  go_wp2_with fail
  refine bodyPost_ret (res_field rfl _ rfl (heap_alloc_at (by simp)) rfl) rfl ?_
  exact ofQ_end
set_option maxHeartbeats 1000000 in
theorem of16_any (k : Nat) (lo hi : Int) (w : World) : Calls Tryz.prog 72 #[.func (.func k) #[] #[], .int .i64 lo, .int .i64 hi] w fun e w' => OfQ 118 119 k lo hi w e w' := by
  go_enter Tryz.func72, Tryz.ntmps72
  go_wp2_with fail
  refine bodyPost_ret (res_field rfl _ rfl (heap_alloc_at (by simp)) rfl) rfl ?_
  exact ofQ_end
set_option maxHeartbeats 1000000 in
theorem of32_any (k : Nat) (lo hi : Int) (w : World) : Calls Tryz.prog 74 #[.func (.func k) #[] #[], .int .i64 lo, .int .i64 hi] w fun e w' => OfQ 120 121 k lo hi w e w' := by
  go_enter Tryz.func74, Tryz.ntmps74
  go_wp2_with fail
  refine bodyPost_ret (res_field rfl _ rfl (heap_alloc_at (by simp)) rfl) rfl ?_
  exact ofQ_end
set_option maxHeartbeats 1000000 in
theorem of64_any (k : Nat) (lo hi : Int) (w : World) : Calls Tryz.prog 76 #[.func (.func k) #[] #[], .int .i64 lo, .int .i64 hi] w fun e w' => OfQ 122 123 k lo hi w e w' := by
  go_enter Tryz.func76, Tryz.ntmps76
  go_wp2_with fail
  refine bodyPost_ret (res_field rfl _ rfl (heap_alloc_at (by simp)) rfl) rfl ?_
  exact ofQ_end
set_option maxHeartbeats 1000000 in
theorem ofS_any (k : Nat) (lo hi : Int) (w : World) : Calls Tryz.prog 78 #[.func (.func k) #[] #[], .int .i64 lo, .int .i64 hi] w fun e w' => OfQ 124 125 k lo hi w e w' := by
  go_enter Tryz.func78, Tryz.ntmps78
  go_wp2_with fail
  refine bodyPost_ret (res_field rfl _ rfl (heap_alloc_at (by simp)) rfl) rfl ?_
  exact ofQ_end
set_option maxHeartbeats 1000000 in
theorem ofE_any (k : Nat) (lo hi : Int) (w : World) : Calls Tryz.prog 82 #[.func (.func k) #[] #[], .int .i64 lo, .int .i64 hi] w fun e w' => OfQ 126 127 k lo hi w e w' := by
  go_enter Tryz.func82, Tryz.ntmps82
  go_wp2_with fail
  refine bodyPost_ret (res_field rfl _ rfl (heap_alloc_at (by simp)) rfl) rfl ?_
  exact ofQ_end
end Go.Proofs.YtgfijlamhjjecaaGreatDoor


namespace Go.Proofs.YtgfijlamhjjecaaGreatDoor
open Go.RowKit
abbrev KE := Nat × Value × Nat
def encK (e : KE) : MapEntry := ⟨.int .u8 (e.1 : Int), e.2.1, e.2.2⟩
def findK : List KE → Nat → Option Value
  | [], _ => none
  | e :: l, i => if e.1 = i then some e.2.1 else findK l i
def posK : List KE → Nat → Nat
  | [], _ => 0
  | e :: l, i => if e.1 = i then 0 else posK l i + 1
theorem findNow_encK (i : Nat) : ∀ (l : List KE) (k : Nat), Instr.findNow (.int .u8) (.int .u8 (i : Int)) (l.map encK) k =
    some ((findK l i).map fun s => (k + posK l i, s))
  | [], k => rfl
  | e :: l, k => by
    simp only [List.map_cons, Instr.findNow, encK, Instr.sameNow, if_true]
    by_cases h : e.1 = i
    · have hb : ((i : Int) == (e.1 : Int)) = true := by simp [h]
      simp [h, findK, posK]
    · have hb : ((i : Int) == (e.1 : Int)) = false := by simp; omega
      simp only [hb, findK, posK, h, if_false]
      have ih := findNow_encK i l (k + 1)
      rw [ih]
      simp [Nat.add_assoc, Nat.add_comm 1]
section
variable {P : Program} {w : World} {mt kt et mb : Nat} {l : List KE} {clock : Nat}
theorem run_findKeyK (hk : P.underlying kt = some (.int .u8)) (l : List KE) (i : Nat) :
    (Instr.findKey kt (.int .u8 (i : Int)) (l.map encK)).run P w = .ok ((findK l i).map fun s => (posK l i, s)) w := by
  unfold Instr.findKey
  rw [Sem.run_bind, run_underlying hk w, Result.andThen_ok, findNow_encK]
  simp
theorem run_checkKey_u8 (hk : P.underlying kt = some (.int .u8)) (b : Bool) (v : Int) :
    (Instr.checkKey b 10000 kt (.int .u8 v)).run P w = .ok () w := by
  show (Instr.checkKey b (9999 + 1) kt (.int .u8 v)).run P w = .ok () w
  unfold Instr.checkKey
  rw [Sem.run_bind, run_underlying hk w, Result.andThen_ok]
  rfl
theorem run_lookupK (hu : P.underlying mt = some (.map kt et)) (hk : P.underlying kt = some (.int .u8))
    {z : Value} (hz : ∀ w, (zeroValue et).run P w = .ok z w) (hb : w.heap[mb]? = some (.map (l.map encK).toArray clock)) (i : Nat) :
    (Instr.lookup mt (.map (some mb)) (.int .u8 (i : Int)) true).run P w = .ok (.tuple #[(findK l i).getD z, .bool (findK l i).isSome]) w := by
  unfold Instr.lookup
  rw [Sem.run_bind, run_underlying hu w, Result.andThen_ok]
  simp only [Sem.run_bind, getObj, Sem.run, hb, Sem.run_pure, Result.andThen_ok, run_checkKey_u8 hk, run_findKeyK hk l i]
  cases h : findK l i with
  | none => simp [hz]
  | some s => simp
theorem run_insertK (hu : P.underlying mt = some (.map kt et)) (hk : P.underlying kt = some (.int .u8)) (hb : w.heap[mb]? = some (.map (l.map encK).toArray clock)) (i : Nat) (v : Value) (h : findK l i = none) :
    (Instr.mapUpdate mt (.map (some mb)) (.int .u8 (i : Int)) v).run P w = .ok () (w.putObj mb (.map ((l ++ [(i, v, clock)]).map encK).toArray (clock + 1))) := by
  unfold Instr.mapUpdate
  rw [Sem.run_bind, run_underlying hu w, Result.andThen_ok]
  simp only [Sem.run_bind, getObj, Sem.run, hb, Result.andThen_ok, run_checkKey_u8 hk, run_findKeyK hk l i, h, Option.map_none, setObj]
  simp [World.putObj, encK]
end
end Go.Proofs.YtgfijlamhjjecaaGreatDoor

