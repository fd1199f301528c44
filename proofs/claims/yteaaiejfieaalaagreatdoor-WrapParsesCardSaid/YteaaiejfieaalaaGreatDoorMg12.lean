/-
  Texts RefE, RefF, one behind the other. No condition beyond those stated in each.
-/
import Derived.Test.YteaaiejfieaalaaGreatDoorMg11
import Derived.Test.YteaaiejfieaalaaGreatDoorMg10
import Derived.Test.YteaaiejfieaalaaGreatDoorMg8
import Derived.BigQuiet
/-
  RefE: contract of the reference's numbers of a segment. No condition beyond those stated.
-/
namespace Go.Proofs.YteaaiejfieaalaaGreatDoor
open Go.RowKit
theorem einfo_u64 : (Tryz.prog.info? 22).map (fun i => (i.zero, i.size, i.bytes)) = some (some (.int .u64 0), 1, 8) := by kernel_rfl
def uv64 (v : Nat) : Value := .int .u64 (v : Int)
theorem numsL_append : ∀ (a b : List (List Str)), numsL (a ++ b) = (numsL a).bind fun x => (numsL b).map (x ++ ·)
  | [], b => by simp [numsL]
  | e :: a, b => by
    simp only [List.cons_append, numsL, numsL_append a b]
    cases oneN e <;> cases numsL a <;> cases numsL b <;> simp
theorem numsL_step {es : List (List Str)} {k : Nat} {e : List Str} {ls : List Nat} {v : Nat} (h : numsL (es.take k) = some ls) (he : es[k]? = some e) (hv : oneN e = some v) : numsL (es.take (k + 1)) = some (ls ++ [v]) := by
  rw [List.take_add_one, he, numsL_append, h]
  simp [numsL, hv]
theorem numsL_none {es : List (List Str)} {k : Nat} {e : List Str} (he : es[k]? = some e) (hv : oneN e = none) : numsL es = none := by
  obtain ⟨hl, hx⟩ := List.getElem?_eq_some_iff.1 he
  rw [← List.take_append_drop k es, numsL_append, List.drop_eq_getElem_cons hl, hx]
  cases numsL (es.take k) <;> simp [numsL, hv]
theorem oneN_len {e : List Str} (h : e.length ≠ 1) : oneN e = none := by
  match e, h with
  | [], _ => rfl
  | [_], h => simp at h
  | _ :: _ :: _, _ => rfl
/-- numbers in a row of one's own -/
def U64s (w : World) (B : Nat) (v : Value) (ls : List Nat) : Prop := w.ownsRow B 22 1 v ls.length (ls.map uv64)
def RNumsQ (s : Seg) (t : Str) (n : Nat) (w : World) (e : Ending) (w' : World) : Prop :=
  ((∃ ls v, numsW s t n = some ls ∧ e = .returned (.tuple #[v, .bool true]) ∧ U64s w' w.heap.size v ls) ∨ (numsW s t n = none ∧ e = .returned (.tuple #[.slice none 0 0, .bool false]))) ∧ Below w.heap.size w w'
theorem rnums_no {s : Seg} {t : Str} {n : Nat} {w w' : World} (h : numsW s t n = none) (hb : Below w.heap.size w w') : RNumsQ s t n w (.returned (.tuple #[.slice none 0 0, .bool false])) w' := ⟨.inr ⟨h, rfl⟩, hb⟩
set_option maxRecDepth 100000 in
set_option maxHeartbeats 8000000 in
theorem rnums_any {S : Nat → Prop} (tb t : ByteArray) (ev : Value) (es : List (List Str)) (n : Nat) (hn3 : n ≤ 16) (w : World) (h : ElemsAt S w ev es) (hS : ∀ k, S k → k < w.heap.size) :
    Calls Tryz.prog 27 #[.agg #[.string tb, ev], .string t, .int .i64 (n : Int)] w fun e w' => RNumsQ ⟨tb.data.toList, es⟩ t.data.toList n w e w' := by
  obtain ⟨B, hB⟩ : ∃ B, w.heap.size = B := ⟨_, rfl⟩
  have HBQ := Lib.hid hB
  obtain ⟨ao, cap, rfl, hc1, hc2⟩ := h.form
  obtain ⟨m, hm⟩ : ∃ m, es.length = m := ⟨_, rfl⟩
  have HM := Lib.hid hm
  rw [hm] at hc1 h ⊢
  obtain ⟨w1, hw1⟩ : ∃ w1, w.alloc (.cells #[.string tb, .slice ao m cap] 36) = w1 := ⟨_, rfl⟩
  have hz1 : w1.heap.size = B + 1 := by rw [← hw1]; simp [hB]
  have HB1 : Hid (Below B w w1) := Lib.hid (by rw [← hw1, ← hB]; exact (Below.refl _ _).alloc (Nat.le_refl _) _)
  have HX1 : Hid (SBox w1 B tb (.slice ao m cap)) := Lib.hid (by rw [← hw1, ← hB]; exact heap_alloc_new _ _)
  have HE1 : Hid (ElemsAt (fun k => k < B) w1 (.slice ao m cap) es) := Lib.hid (h.cong (fun k hk => by rw [← hB]; exact hS k hk) (fun k hk => HB1.out.block k (by rw [← hB]; exact hS k hk)))
  have HW1 := Lib.hid hw1
  have HZ1 := Lib.hid hz1
  unfold maxLen at hc2
  clear hB hm hw1 hz1 h hS
  obtain ⟨p0, p1, _, _⟩ := cells2 HX1.out
  by_cases hte : tb = t
  · skip
    subst hte
    have d1 := str_same tb
    have d1n : (tb.toList != tb.toList) = false := by simp
    by_cases hmn : m = n
    · subst hmn
      have HNW : Hid (numsW ⟨tb.data.toList, es⟩ tb.data.toList m = numsL es) := Lib.hid (by unfold numsW; rw [if_pos ⟨rfl, HM.out⟩])
      go_enter Tryz.func27, Tryz.ntmps27
      go_upto_region 1 with fail
      rw [HW1.out, HBQ.out]
      go_wp2_with fail
      clear p0 p1
      go_loopw [8, 9] (fun ov i wr => ∃ (k : Nat) (ls : List Nat), k ≤ m ∧ i = .int .i64 (k : Int) ∧ Hid (numsL (es.take k) = some ls) ∧ Hid (U64s wr (B + 1) ov ls) ∧ Hid (Below (B + 1) w1 wr)) (fun _ i _ => m - (intOf i).toNat)
      case atStart => exact ⟨0, [], Nat.zero_le _, rfl, Lib.hid rfl, Lib.hid (World.ownsRow_nil _ _ _ _), Lib.hid (by rw [← HZ1.out]; exact Below.refl _ _)⟩
      case round =>
        obtain ⟨k, ls, hk, rfl, HK, HO, HB2⟩ := hrel
        have hz2 := HB2.out.size
        rw [HZ1.out] at hz2
        obtain ⟨p0, p1, _, _⟩ := cells2 ((HB2.out.block B (Nat.lt_succ_self B)).trans HX1.out)
        have HBW := Lib.hid (HB1.out.trans (HB2.out.mono (Nat.le_succ B)))
        have hlk : ls.length = k := by have h1 := numsL_len HK.out; rw [h1, List.length_take, HM.out]; omega
        have HLK := Lib.hid hlk
        obtain ⟨oa, oc, rfl⟩ := own_slice HO.out
        rw [hlk] at ⊢
        clear hlk
        by_cases hlt : k < m
        · obtain ⟨e, he⟩ : ∃ e, es[k]? = some e := ⟨_, List.getElem?_eq_getElem (by rw [HM.out]; exact hlt)⟩
          obtain ⟨eb, eoff, x2, rfl, heb, e0, hco⟩ := HE1.out.get he
          obtain ⟨ca, cc, rfl, hcc1, hcc2⟩ := hco.form
          obtain ⟨q, hq⟩ : ∃ q, e.length = q := ⟨_, rfl⟩
          have HQ := Lib.hid hq
          have HE := Lib.hid he
          have b1 : (0 : Int) ≤ k := by omega
          have b2 : (k : Int) < m := by omega
          have e1 := (HB2.out.cell (p := ⟨eb, eoff + k, none⟩) (show eb < B + 1 by omega)).trans e0
          rw [hq] at e1 hcc1
          have HCO : Hid (CompsAt (fun b => b < B) wr (.slice ca q cc) e) := Lib.hid (by rw [hq] at hco; exact hco.cong (fun _ h => h) (fun b hb => HB2.out.block b (by omega)))
          clear e0 hco hq he heb
          by_cases hq1 : q = 1
          · have hx : ∃ pb : ByteArray, e = [pb.data.toList] := by
              have hl := HQ.out
              rw [hq1] at hl
              obtain ⟨p, rfl⟩ := List.length_eq_one_iff.1 hl
              exact ⟨⟨p.toArray⟩, rfl⟩
            obtain ⟨pb, rfl⟩ := hx
            subst hq1
            obtain ⟨cb, coff, hca, _, hcc⟩ := HCO.out.get (k := 0) (p := pb.data.toList) rfl
            obtain rfl : ca = some ⟨cb, coff, none⟩ := hca
            rw [sv_dat, Nat.add_zero] at hcc
            go_wp2_with fail
            refine (rnum_any pb _).mono ?_
            rintro e w' ⟨hq, rfl⟩
            rcases hq with ⟨u, hu, rfl⟩ | ⟨hu, rfl⟩
            · have HU := Lib.hid (numsL_step HK.out HE.out (show oneN [pb.data.toList] = some u from hu))
              obtain ⟨i0, hi, hz0, hzz1, hzz2⟩ := info_parts einfo_u64
              have HI := Lib.hid hi
              have HZ0 := Lib.hid hz0
              have HZZ1 := Lib.hid hzz1
              have HZZ2 := Lib.hid hzz2
              have HRW : Hid (wr.ownsRow (B + 1) 22 1 (.slice oa k oc) k (ls.map uv64)) := Lib.hid (by have h1 := HO.out; unfold U64s at h1; rw [HLK.out] at h1; exact h1)
              clear hu hi hz0 hzz1 hzz2 p0 p1 e1 hcc
              go_wp2_with ((with_reducible refine wpList_at (.call { callee := .builtin .append, args := #[.tmp 48, .tmp 50], argTypes := #[58, 58] }) rfl ?_); go_loud (refine wpList_append_own_at _ rfl _ _ 58 rfl (B + 1) 22 i0 (.int .u64 0) 1 8 Tryz.underlying58 HI.out HZ0.out HZZ1.out HZZ2.out rfl (by decide) _ _ _ rfl (HRW.out.alloc _) ⟨wr.heap.size, 0, none⟩ 1 1 [.int .u64 (u : Int)] rfl rfl (cell_one_new _ _ _) (by simp [Value.oneCell']) (by unfold maxLen; omega) (by omega) (by simp; omega) ?_); intro v8 w8 hog hgg _ _; have HO8 : Hid (U64s w8 (B + 1) v8 (ls ++ [u])) := Lib.hid (by unfold U64s; rw [List.length_append, HLK.out, List.map_append]; exact hog); have HB8 := Lib.hid ((HB2.out.alloc (by omega) _).grown hgg (by simp; omega) (fun b hb => (own_lt HRW.out hb).1)); clear hog hgg)
              go_roundw
              case rel => exact ⟨k + 1, ls ++ [u], by omega, by go_num, HU, HO8, HB8⟩
              case measure => simp [intOf]; omega
            · have HNN := Lib.hid (HNW.out.trans (numsL_none HE.out (show oneN [pb.data.toList] = none from hu)))
              clear hu
              go_wp2_with fail
              go_ret2
              exact rnums_no HNN.out (by rw [HBQ.out]; exact HBW.out)
          · have d2 : ((q : Int) != 1) = true := by rw [bne_iff_ne]; omega
            have d2n : ((q : Int) == 1) = false := by rw [beq_eq_false_iff_ne]; omega
            have d2m : (q == 1) = false := by rw [beq_eq_false_iff_ne]; exact hq1
            have HNN := Lib.hid (HNW.out.trans (numsL_none HE.out (oneN_len (by rw [HQ.out]; exact hq1))))
            go_wp2_with fail
            go_ret2
            exact rnums_no HNN.out (by rw [HBQ.out]; exact HBW.out)
        · have hkm : k = m := by omega
          have HK2 : Hid (numsL es = some ls) := Lib.hid (by have h1 := HK.out; rw [hkm, ← HM.out, List.take_length] at h1; exact h1)
          subst hkm
          go_wp2_with fail
          go_ret2
          refine ⟨.inl ⟨ls, _, by rw [HNW.out]; exact HK2.out, rfl, ?_⟩, by rw [HBQ.out]; exact HBW.out⟩
          rw [HBQ.out]
          have h1 := HO.out
          unfold U64s at h1 ⊢
          rw [HLK.out] at h1 ⊢
          obtain ⟨a1, a2 | ⟨gb, gc, gcur, r1, r2, r3⟩⟩ := h1
          · exact ⟨a1, .inl a2⟩
          · exact ⟨a1, .inr ⟨gb, gc, gcur, r1, by omega, r3⟩⟩
    · have d2 : ((m : Int) != (n : Int)) = true := by rw [bne_iff_ne]; omega
      have d2n : ((m : Int) == (n : Int)) = false := by rw [beq_eq_false_iff_ne]; omega
      have d2m : (m == n) = false := by rw [beq_eq_false_iff_ne]; exact hmn
      have HNO : Hid (numsW ⟨tb.data.toList, es⟩ tb.data.toList n = none) := Lib.hid (by
        unfold numsW
        rw [if_neg]
        rintro ⟨_, h1⟩
        exact hmn (by rw [← HM.out]; exact h1))
      clear hmn
      go_enter Tryz.func27, Tryz.ntmps27
      go_upto_region 1 with fail
      rw [HW1.out, HBQ.out]
      go_wp2_with fail
      go_ret2
      exact rnums_no HNO.out (by rw [HBQ.out]; exact HB1.out)
  · skip
    have d1 := str_ne hte
    have d1n : (tb.toList != t.toList) = true := by rw [bne, d1]; rfl
    have HNO : Hid (numsW ⟨tb.data.toList, es⟩ t.data.toList n = none) := Lib.hid (by
      unfold numsW
      rw [if_neg]
      rintro ⟨h1, _⟩
      exact hte (by cases tb; cases t; simp at h1; simp [h1]))
    clear hte
    go_enter Tryz.func27, Tryz.ntmps27
    go_upto_region 1 with fail
    rw [HW1.out, HBQ.out]
    go_wp2_with fail
    go_ret2
    exact rnums_no HNO.out (by rw [HBQ.out]; exact HB1.out)
end Go.Proofs.YteaaiejfieaalaaGreatDoor

/-
  RefF: contract of the reference's Parse of interchanges. No condition beyond those stated.
-/
namespace Go.Proofs.YteaaiejfieaalaaGreatDoor
open Go.RowKit
def zbox (w : World) (B : Nat) : Prop := w.heap[B]? = some (.cells #[.int .u8 0, .int .u8 0, .int .u64 0, .slice none 0 0] 25 (0, 0))
theorem U64s.cells {w : World} {B : Nat} {v : Value} {ls : List Nat} (h : U64s w B v ls) (hl : 0 < ls.length) : ∃ g cap, v = .slice (some ⟨g, 0, none⟩) ls.length cap ∧ ls.length ≤ cap ∧ cap ≤ maxLen ∧ B ≤ g ∧ g < w.heap.size ∧ ∀ (i u : Nat), ls[i]? = some u → w.cell? ⟨g, i, none⟩ = some (.int .u64 (u : Int)) := by
  obtain ⟨g, cap, cur, rfl, hg, hh, hc, hm, _⟩ := own_form h hl (by omega)
  exact ⟨g, cap, rfl, hc, hm, hg, (Array.getElem?_eq_some_iff.1 hh).1, fun i u hi => own_cell h (by rw [List.getElem?_map, hi]; rfl)⟩
theorem U64s.below {w w' : World} {B : Nat} {v : Value} {ls : List Nat} (h : U64s w B v ls) (hb : Below w.heap.size w w') : U64s w' B v ls := own_cong h (fun k hk => hb.block k (own_lt h hk).2)
theorem parse_lim' {t : Str} {l : List Seg} {at_ : Nat} {k : Int} (h : parseE t = (l, at_, k)) (h' : t.length ≤ 65536) : okL l := by
  by_cases hk : k = 0
  · subst hk; exact (print_parse h h').2
  · obtain ⟨_, _, rfl, _⟩ := parse_cut h h' hk
    exact ⟨by simp, fun s hs => by simp at hs⟩
theorem len3 {l : List Nat} (h : l.length = 3) : ∃ a b c, l = [a, b, c] := by
  match l, h with
  | [a, b, c], _ => exact ⟨a, b, c, rfl⟩
theorem len2 {l : List Nat} (h : l.length = 2) : ∃ a b, l = [a, b] := by
  match l, h with
  | [a, b], _ => exact ⟨a, b, rfl⟩
set_option maxRecDepth 100000 in
set_option maxHeartbeats 8000000 in
theorem r4parse_any (s : ByteArray) (w : World) : Calls Tryz.prog 10 #[.string s] w fun e w' => WParseQ s.data.toList w e w' := by
  obtain ⟨B, hB⟩ : ∃ B, w.heap.size = B := ⟨_, rfl⟩
  have HBQ := Lib.hid hB
  obtain ⟨w1, hw1⟩ : ∃ w1, w.alloc (.cells #[.int .u8 0, .int .u8 0, .int .u64 0, .slice none 0 0] 25) = w1 := ⟨_, rfl⟩
  have hz1 : w1.heap.size = B + 1 := by rw [← hw1]; simp [hB]
  have HB1 : Hid (Below B w w1) := Lib.hid (by rw [← hw1, ← hB]; exact (Below.refl _ _).alloc (Nat.le_refl _) _)
  have HX1 : Hid (zbox w1 B) := Lib.hid (by rw [← hw1, ← hB]; exact heap_alloc_new _ _)
  obtain ⟨T, hT⟩ : ∃ T, s.data.toList = T := ⟨_, rfl⟩
  have HPA := Lib.hid (r3parse_any s w1)
  rw [hT] at HPA ⊢
  obtain ⟨P, hpe⟩ : ∃ P, parseE T = P := ⟨_, rfl⟩
  obtain ⟨l, i, k⟩ := P
  have HPE := Lib.hid hpe
  unfold RParseQ at HPA
  rw [hpe, hz1] at HPA
  simp only at HPA
  have hl64 : l.length ≤ 64 := by
    by_cases hb : 65536 < T.length
    · have h1 : parseE T = ([], 0, 2) := by unfold parseE; rw [if_pos hb]
      rw [h1] at hpe; cases hpe; simp
    · exact (parse_lim' hpe (by omega)).1
  have HW1 := Lib.hid hw1
  have HZ1 := Lib.hid hz1
  clear hB hw1 hz1 hT hpe
  by_cases hk : k = 0
  · subst hk
    have HWE : Hid (wrapParseE T = wrapOf l) := Lib.hid (by unfold wrapParseE; rw [HPE.out, if_pos rfl])
    by_cases hl2 : l.length < 2
    · skip
      have HE : Hid (wrapParseE T = (wd0, 40)) := Lib.hid (by
        rw [HWE.out]
        match l, hl2 with
        | [], _ => rfl
        | [a], _ => rfl)
      obtain ⟨n, hn⟩ : ∃ n, l.length = n := ⟨_, rfl⟩
      have HN := Lib.hid hn
      rw [hn] at hl2
      have i2 : (n : Int) < 2 := by omega
      clear hn hl64
      go_enter Tryz.func10, Tryz.ntmps10
      go_wp2_with fail
      rw [HW1.out, HBQ.out]
      refine HPA.out.mono ?_
      rintro e w2 ⟨v, rfl, hs2, hb2⟩
      obtain ⟨va, vc, rfl, hv1, hv2⟩ := hs2.form
      rw [HN.out] at hv1 ⊢
      have HB2 := Lib.hid hb2
      have HZ2 : Hid (zbox w2 B) := Lib.hid ((hb2.block B (Nat.lt_succ_self B)).trans HX1.out)
      obtain ⟨⟨p0, p1, p2, p3⟩, p4, p5, p6, p7⟩ := cells4 HZ2.out
      clear hs2 hb2
      go_wp2_with fail
      exact bodyPost_ret (res_wrap rfl _ rfl rfl (put4_heap HZ2.out _ _ _ _) rfl) rfl (wq_err HE.out (by rw [HBQ.out]; exact put4_below (HB1.out.trans (HB2.out.mono (by omega))) (Nat.le_refl _) _ _ _ _))
    · obtain ⟨⟨th, eh⟩, m, ⟨tz, ez⟩, rfl⟩ := ends_of hl2
      have HWT : Hid (wrapParseE T = wrapHT ⟨th, eh⟩ ⟨tz, ez⟩ m) := Lib.hid (by rw [HWE.out, wrapOf_snoc])
      obtain ⟨n, hn⟩ : ∃ n, (⟨th, eh⟩ :: (m ++ [⟨tz, ez⟩]) : List Seg).length = n := ⟨_, rfl⟩
      have hnm : n = m.length + 2 := by rw [← hn]; simp
      have HN := Lib.hid hn
      have HNM := Lib.hid hnm
      rw [hn] at hl64
      have hn2 : 2 ≤ n := by omega
      have i2 : decide ((n : Int) < 2) = false := by rw [decide_eq_false_iff_not]; omega
      have en1 : (n : Int) - 1 = ((n - 1 : Nat) : Int) := by omega
      have i3 : (0 : Int) ≤ ((n - 1 : Nat) : Int) := by omega
      have i4 : ((n - 1 : Nat) : Int) < (n : Int) := by omega
      obtain ⟨thb, hthb⟩ : ∃ thb : ByteArray, thb.data.toList = th := ⟨⟨th.toArray⟩, rfl⟩
      obtain ⟨tzb, htzb⟩ : ∃ tzb : ByteArray, tzb.data.toList = tz := ⟨⟨tz.toArray⟩, rfl⟩
      subst hthb
      subst htzb
      clear hn hnm hl2 HWE
      go_enter Tryz.func10, Tryz.ntmps10
      go_wp2_with fail
      rw [HW1.out, HBQ.out]
      refine HPA.out.mono ?_
      rintro e w2 ⟨v, rfl, hs2, hb2⟩
      obtain ⟨b, off, cap, xh, xz, rfl, hv1, hv2, hSb, ⟨g0, g1, g2, g3⟩, he, he'⟩ := pk_of hs2 HN.out
      rw [sv_dat] at g0 g2
      obtain ⟨ha, hc, rfl, _, _⟩ := he.form
      obtain ⟨za, zc, rfl, _, _⟩ := he'.form
      have HS2 := Lib.hid hs2
      have HB2 := Lib.hid hb2
      have hz2 := hb2.size
      rw [HZ1.out] at hz2
      have HZ2 : Hid (zbox w2 B) := Lib.hid ((hb2.block B (Nat.lt_succ_self B)).trans HX1.out)
      have HN1 := Lib.hid (rnums_any thb ⟨#[85, 78, 66]⟩ _ eh 3 (by decide) w2 he (fun k hk => hk.2))
      have HEZ := Lib.hid he'
      have HG2 := Lib.hid g2
      have HG3 := Lib.hid g3
      have HSB := Lib.hid hSb
      unfold maxLen at hv2
      clear hs2 hb2 he he' g2 g3 hSb HPA
      go_wp2_with fail
      refine HN1.out.mono ?_
      rintro e w3 ⟨hq1, hb3⟩
      have HB3 := Lib.hid hb3
      have hz3 := hb3.size
      have HZ3 : Hid (zbox w3 B) := Lib.hid ((hb3.block B (by omega)).trans HZ2.out)
      have HBW3 := Lib.hid (HB2.out.trans (hb3.mono hz2))
      have h2 := (hb3.cell (p := ⟨b, off + (n - 1) * 2, none⟩) HSB.out.2).trans HG2.out
      have h3 := (hb3.cell (p := ⟨b, off + (n - 1) * 2 + 1, none⟩) HSB.out.2).trans HG3.out
      have HEZ3 := Lib.hid (HEZ.out.cong (T := fun k => k < w3.heap.size) (fun k hk => by omega) (fun k hk => hb3.block k hk.2))
      have HN2 := Lib.hid (rnums_any tzb ⟨#[85, 78, 90]⟩ _ ez 2 (by decide) w3 HEZ3.out (fun k hk => hk))
      obtain ⟨v1, b1, rfl, hd1⟩ : ∃ v1 b1, e = .returned (.tuple #[v1, .bool b1]) ∧ ((b1 = true ∧ ∃ ls, numsW ⟨thb.data.toList, eh⟩ unb 3 = some ls ∧ U64s w3 w2.heap.size v1 ls) ∨ (b1 = false ∧ numsW ⟨thb.data.toList, eh⟩ unb 3 = none)) := by
        rcases hq1 with ⟨ls, v, h1, rfl, h2⟩ | ⟨h1, rfl⟩
        · exact ⟨v, true, rfl, .inl ⟨rfl, ls, h1, h2⟩⟩
        · exact ⟨_, false, rfl, .inr ⟨rfl, h1⟩⟩
      have HD1 := Lib.hid hd1
      clear hq1 hb3 hd1 HN1 HG2 HG3 HEZ g0 g1 i2
      go_wp2_with fail
      refine HN2.out.mono ?_
      rintro e w4 ⟨hq2, hb4⟩
      have HB4 := Lib.hid hb4
      have hz4 := hb4.size
      have HZ4 : Hid (zbox w4 B) := Lib.hid ((hb4.block B (by omega)).trans HZ3.out)
      have HBW4 := Lib.hid (HB1.out.trans ((HBW3.out.trans (hb4.mono (by omega))).mono (Nat.le_succ B)))
      obtain ⟨v2, b2, rfl, hd2⟩ : ∃ v2 b2, e = .returned (.tuple #[v2, .bool b2]) ∧ ((b2 = true ∧ ∃ ls, numsW ⟨tzb.data.toList, ez⟩ unz 2 = some ls ∧ U64s w4 w3.heap.size v2 ls) ∨ (b2 = false ∧ numsW ⟨tzb.data.toList, ez⟩ unz 2 = none)) := by
        rcases hq2 with ⟨ls, v, h1, rfl, h2⟩ | ⟨h1, rfl⟩
        · exact ⟨v, true, rfl, .inl ⟨rfl, ls, h1, h2⟩⟩
        · exact ⟨_, false, rfl, .inr ⟨rfl, h1⟩⟩
      have HD2 := Lib.hid hd2
      clear hq2 hb4 hd2 HN2 HEZ3 h2 h3
      obtain ⟨⟨p0, p1, p2, p3⟩, p4, p5, p6, p7⟩ := cells4 HZ4.out
      rcases HD1.out with ⟨rfl, la, hla, hua⟩ | ⟨rfl, hla⟩
      · rcases HD2.out with ⟨rfl, lz, hlz, huz⟩ | ⟨rfl, hlz⟩
        · obtain ⟨a0, a1, a2, rfl⟩ := len3 (numsW_inj hla).2.1
          obtain ⟨c0, c1, rfl⟩ := len2 (numsW_inj hlz).2.1
          have hba := (numsW_inj hla).2.2
          have hbz := (numsW_inj hlz).2.2
          have HWF := Lib.hid (show wrapParseE T = if 8 ≤ a0 ∨ 8 ≤ a1 then (wd0, 40) else if c0 ≠ m.length then (wd0, 41) else if a2 ≠ c1 then (wd0, 42) else (⟨a0, a1, a2, m⟩, 0) by rw [HWT.out]; unfold wrapHT; rw [hla, hlz])
          obtain ⟨ga, gca, rfl, ga1, ga2, _, ga3, hca⟩ := (hua.below HB4.out).cells (by simp)
          obtain ⟨gz, gcz, rfl, gz1, gz2, _, gz3, hcz⟩ := huz.cells (by simp)
          have x0 := hca 0 a0 rfl
          have x1 := hca 1 a1 rfl
          have x2 := hca 2 a2 rfl
          have y0 := hcz 0 c0 rfl
          have y1 := hcz 1 c1 rfl
          simp only [List.length_cons, List.length_nil, Nat.zero_add, Nat.reduceAdd] at ga1 gz1 ⊢
          unfold maxLen at ga2 gz2
          have HBA := Lib.hid hba
          have HBZ := Lib.hid hbz
          clear hla hlz hua huz hba hbz hca hcz HD1 HD2
          obtain ⟨mm, hmm⟩ : ∃ mm, m.length = mm := ⟨_, rfl⟩
          have HMM := Lib.hid hmm
          have hnm : n = mm + 2 := by rw [← hmm]; exact HNM.out
          have en2 : (n : Int) - 2 = (mm : Int) := by omega
          have wr3 : IntKind.u64.wrap (mm : Int) = (mm : Int) := by rw [IntKind.wrap_u64]; omega
          rw [hmm] at HWF
          have hn2' : 2 ≤ n := by omega
          have HNM2 := Lib.hid hnm
          clear hmm en1 hnm
          by_cases k0 : 8 ≤ a0
          · skip
            have HE := Lib.hid (HWF.out.trans (if_pos (.inl k0)))
            have i1 : decide ((8 : Int) ≤ (a0 : Int)) = true := by rw [decide_eq_true_eq]; omega
            go_wp2_with fail
            exact bodyPost_ret (res_wrap rfl _ rfl rfl (put4_heap HZ4.out _ _ _ _) rfl) rfl (wq_err HE.out (by rw [HBQ.out]; exact put4_below HBW4.out (Nat.le_refl _) _ _ _ _))
          have i1 : decide ((8 : Int) ≤ (a0 : Int)) = false := by rw [decide_eq_false_iff_not]; omega
          by_cases k1 : 8 ≤ a1
          · skip
            have HE := Lib.hid (HWF.out.trans (if_pos (.inr k1)))
            have i1b : decide ((8 : Int) ≤ (a1 : Int)) = true := by rw [decide_eq_true_eq]; omega
            go_wp2_with fail
            exact bodyPost_ret (res_wrap rfl _ rfl rfl (put4_heap HZ4.out _ _ _ _) rfl) rfl (wq_err HE.out (by rw [HBQ.out]; exact put4_below HBW4.out (Nat.le_refl _) _ _ _ _))
          have i1b : decide ((8 : Int) ≤ (a1 : Int)) = false := by rw [decide_eq_false_iff_not]; omega
          have HWF2 := Lib.hid (HWF.out.trans (if_neg (by omega)))
          clear HWF
          by_cases kc : c0 = mm
          · have HWF3 := Lib.hid (HWF2.out.trans (if_neg (by simpa using kc)))
            have i2a : ((c0 : Int) != (mm : Int)) = false := by rw [bne_eq_false_iff_eq]; omega
            clear HWF2
            subst kc
            by_cases kr : a2 = c1
            · have HWF4 := Lib.hid (HWF3.out.trans (if_neg (by simpa using kr)))
              have i2b : ((a2 : Int) != (c1 : Int)) = false := by rw [bne_eq_false_iff_eq]; omega
              clear HWF3
              subst kr
              go_upto_region 12 with fail
              go_quiet (fail)
              obtain ⟨w5, hw5⟩ : ∃ w5, w4.drewN nq = w5 := ⟨_, rfl⟩
              have hwh : w5.heap = w4.heap := by rw [← hw5]; rfl
              have HZ5 : Hid (zbox w5 B) := Lib.hid (by show w5.heap[B]? = _; rw [hwh]; exact HZ4.out)
              have HBW5 : Hid (Below B w w5) := Lib.hid (by rw [← hw5]; exact HBW4.out.trans (Drew.below ⟨nq, rfl⟩ _))
              rw [hw5]
              have wr1 : IntKind.u8.wrap (a0 : Int) = (a0 : Int) := by rw [IntKind.wrap_u8]; omega
              have wr2 : IntKind.u8.wrap (a1 : Int) = (a1 : Int) := by rw [IntKind.wrap_u8]; omega
              go_upto_region 14 with fail
              obtain ⟨w6, hw6⟩ : ∃ w6, w5.drew = w6 := ⟨_, rfl⟩
              have hwh6 : w6.heap = w4.heap := by rw [← hw6]; exact hwh
              have HZ6 : Hid (zbox w6 B) := Lib.hid (by show w6.heap[B]? = _; rw [hwh6]; exact HZ4.out)
              have HBW6 : Hid (Below B w w6) := Lib.hid (by rw [← hw6]; exact HBW5.out.drew)
              have X0 := Lib.hid (show w6.cell? ⟨ga, 0, none⟩ = some (.int .u64 (a0 : Int)) from (cell_ag (by rw [hwh6])).trans x0)
              have X1 := Lib.hid (show w6.cell? ⟨ga, 1, none⟩ = some (.int .u64 (a1 : Int)) from (cell_ag (by rw [hwh6])).trans x1)
              have X2 := Lib.hid (show w6.cell? ⟨ga, 2, none⟩ = some (.int .u64 (a2 : Int)) from (cell_ag (by rw [hwh6])).trans x2)
              have HS6 : Hid (SegsAt (fun k => B + 1 ≤ k ∧ k < w6.heap.size) w6 (.slice (some ⟨b, off, none⟩) n cap) (⟨thb.data.toList, eh⟩ :: (m ++ [⟨tzb.data.toList, ez⟩]))) := Lib.hid (HS2.out.cong (fun k hk => by rw [hwh6]; omega) (fun k hk => by rw [hwh6]; exact (HB4.out.block k (by omega)).trans (HB3.out.block k hk.2)))
              clear en2
              have hcne : ¬ cap = 1 := by omega
              have c1' : (1 : Int) ≤ (n : Int) - 1 := by omega
              have c2' : (n : Int) - 1 ≤ (cap : Int) := by omega
              have c3' : ((n : Int) - 1).toNat = n - 1 := by omega
              have g1 : IntKind.i64.wrap ((n : Int) - 1) = (n : Int) - 1 := IntWalk.i64_in _ (by omega)
              refine wp_region_plan [(0, false), (1, false), (2, false), (3, false), (4, false), (5, false), (6, false), (7, false), (8, false), (9, false), (10, false), (11, false), (12, false), (13, false), (14, false), (15, false), (16, false), (17, true), (18, false)]
                (fun w' => w'.cell? ⟨ga, 0, none⟩ = some (.int .u64 (a0 : Int)) ∧ w'.cell? ⟨ga, 1, none⟩ = some (.int .u64 (a1 : Int)) ∧ w'.cell? ⟨ga, 2, none⟩ = some (.int .u64 (a2 : Int))) (by kernel_rfl) (by kernel_rfl) (by rw [hw6]; exact ⟨X0.out, X1.out, X2.out⟩) ?_
              rw [hw6]
              clear hw6 hw5 hwh hwh6 x0 x1 x2 y0 y1 p0 p1 p2 p3 p4 p5 p6 p7
              iterate 15 (refine' plan_val rfl rfl (fun w' hS => ?_) ?_; rotate_left; (focus (obtain ⟨hS1, hS2, hS3⟩ := hS; go_simp; rfl)); simp only [Act.put, List.setIfInBounds_toArray, List.set_cons_zero, List.set_cons_succ])
              refine plan_val (v := .slice (some ⟨b, off + 2, none⟩) (n - 1 - 1) (cap - 1)) rfl rfl (fun w' hS => by go_simp) ?_
              simp only [Act.put, List.setIfInBounds_toArray, List.set_cons_zero, List.set_cons_succ]
              refine plan_val (v := .agg #[.int .u8 (a0 : Int), .int .u8 (a1 : Int), .int .u64 (a2 : Int), .slice (some ⟨b, off + 2, none⟩) (n - 1 - 1) (cap - 1)]) rfl rfl (fun w' hS => by go_simp) ?_
              simp only [Act.put, List.setIfInBounds_toArray, List.set_cons_zero, List.set_cons_succ]
              clear g1 c1' c2' c3' hcne
              refine plan_do rfl (fun K hK => ?_)
              obtain ⟨⟨p0, p1, p2, p3⟩, p4, p5, p6, p7⟩ := cells4 HZ6.out
              go_wp2_with fail
              have hgB : ga ≠ B := by omega
              refine hK _ _ ⟨(cell_ag (put4_other w6 B _ _ _ _ hgB)).trans X0.out, (cell_ag (put4_other w6 B _ _ _ _ hgB)).trans X1.out, (cell_ag (put4_other w6 B _ _ _ _ hgB)).trans X2.out⟩ ?_
              clear hK K p0 p1 p2 p3 p4 p5 p6 p7
              refine plan_val (v := .int .i64 0) rfl rfl (fun w' hS => by first | rfl | go_simp) ?_
              simp only [Act.put, List.setIfInBounds_toArray, List.set_cons_zero, List.set_cons_succ]
              refine plan_nil ?_
              go_wp2_with fail
              refine bodyPost_ret (res_wrap rfl _ rfl rfl (put4_heap HZ6.out _ _ _ _) rfl) rfl ?_
              have hbp : Below B w (put4 w6 B (.int .u8 (a0 : Int)) (.int .u8 (a1 : Int)) (.int .u64 (a2 : Int)) (.slice (some ⟨b, off + 2, none⟩) (n - 1 - 1) (cap - 1))) := put4_below HBW6.out (Nat.le_refl _) _ _ _ _
              refine ⟨.slice (some ⟨b, off + 2, none⟩) (n - 1 - 1) (cap - 1), by rw [HWF4.out]; rfl, ?_, by rw [HBQ.out]; exact hbp⟩
              rw [HWF4.out, HBQ.out]
              have h1 := HS6.out.sub (lo := 1) (hi := n - 1) (c' := cap - 1) (by omega) (by rw [HN.out]; omega) (by omega) (by unfold maxLen; omega)
              have h2 : ((⟨thb.data.toList, eh⟩ :: (m ++ [⟨tzb.data.toList, ez⟩]) : List Seg).take (n - 1)).drop 1 = m := by
                rw [show n - 1 = m.length + 1 by have h3 := HMM.out; have h4 := HNM2.out; omega, List.take_succ_cons, List.drop_succ_cons, List.drop_zero, List.take_left]
              rw [h2] at h1
              exact h1.cong (fun k hk => ⟨by omega, by simp; exact hk.2⟩) (fun k hk => put4_other w6 B _ _ _ _ (by omega))
            · skip
              have HE := Lib.hid (HWF3.out.trans (if_pos kr))
              have i2b : ((a2 : Int) != (c1 : Int)) = true := by rw [bne_iff_ne]; omega
              clear HWF3 kr
              go_upto_region 12 with fail
              go_quiet (fail)
              obtain ⟨w5, hw5⟩ : ∃ w5, w4.drewN nq = w5 := ⟨_, rfl⟩
              have hwh : w5.heap = w4.heap := by rw [← hw5]; rfl
              have HZ5 : Hid (zbox w5 B) := Lib.hid (by show w5.heap[B]? = _; rw [hwh]; exact HZ4.out)
              have HBW5 : Hid (Below B w w5) := Lib.hid (by rw [← hw5]; exact HBW4.out.trans (Drew.below ⟨nq, rfl⟩ _))
              rw [hw5]
              clear hw5 hwh p0 p1 p2 p3 p4 p5 p6 p7 x0 x1 x2 y0 y1
              obtain ⟨⟨p0, p1, p2, p3⟩, p4, p5, p6, p7⟩ := cells4 HZ5.out
              go_wp2_with fail
              exact bodyPost_ret (res_wrap rfl _ rfl rfl (put4_heap HZ5.out _ _ _ _) rfl) rfl (wq_err HE.out (by rw [HBQ.out]; exact put4_below HBW5.out (Nat.le_refl _) _ _ _ _))
          · skip
            have HE := Lib.hid (HWF2.out.trans (if_pos kc))
            have i2a : ((c0 : Int) != (mm : Int)) = true := by rw [bne_iff_ne]; omega
            clear HWF2 kc
            go_wp2_with fail
            exact bodyPost_ret (res_wrap rfl _ rfl rfl (put4_heap HZ4.out _ _ _ _) rfl) rfl (wq_err HE.out (by rw [HBQ.out]; exact put4_below HBW4.out (Nat.le_refl _) _ _ _ _))
        · skip
          have HE : Hid (wrapParseE T = (wd0, 40)) := Lib.hid (by
            rw [HWT.out]
            unfold wrapHT
            rw [hlz]
            split
            · rename_i h; cases h
            · rfl)
          clear hla hlz hua HD1 HD2
          go_wp2_with fail
          exact bodyPost_ret (res_wrap rfl _ rfl rfl (put4_heap HZ4.out _ _ _ _) rfl) rfl (wq_err HE.out (by rw [HBQ.out]; exact put4_below HBW4.out (Nat.le_refl _) _ _ _ _))
      · skip
        have HE : Hid (wrapParseE T = (wd0, 40)) := Lib.hid (by
          rw [HWT.out]
          unfold wrapHT
          rw [hla])
        clear hla HD1 HD2
        go_wp2_with fail
        exact bodyPost_ret (res_wrap rfl _ rfl rfl (put4_heap HZ4.out _ _ _ _) rfl) rfl (wq_err HE.out (by rw [HBQ.out]; exact put4_below HBW4.out (Nat.le_refl _) _ _ _ _))
  · skip
    have HE : Hid (wrapParseE T = (wd0, k)) := Lib.hid (by unfold wrapParseE; rw [HPE.out, if_neg hk])
    have d0 : (k != 0) = true := by rw [bne_iff_ne]; exact hk
    clear hk hl64
    go_enter Tryz.func10, Tryz.ntmps10
    go_wp2_with fail
    rw [HW1.out, HBQ.out]
    refine HPA.out.mono ?_
    rintro e w2 ⟨v, rfl, hs2, hb2⟩
    obtain ⟨va, vc, rfl, hv1, hv2⟩ := hs2.form
    have HB2 := Lib.hid hb2
    have HZ2 : Hid (zbox w2 B) := Lib.hid ((hb2.block B (Nat.lt_succ_self B)).trans HX1.out)
    obtain ⟨⟨p0, p1, p2, p3⟩, p4, p5, p6, p7⟩ := cells4 HZ2.out
    clear hs2 hb2
    go_wp2_with fail
    exact bodyPost_ret (res_wrap rfl _ rfl rfl (put4_heap HZ2.out _ _ _ _) rfl) rfl (wq_err HE.out (by rw [HBQ.out]; exact put4_below (HB1.out.trans (HB2.out.mono (by omega))) (Nat.le_refl _) _ _ _ _))
end Go.Proofs.YteaaiejfieaalaaGreatDoor
