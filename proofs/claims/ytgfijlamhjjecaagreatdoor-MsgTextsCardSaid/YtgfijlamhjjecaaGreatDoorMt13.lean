/-
  Texts RefF, MsgZ7, MsgZ8, MsgQ0, MsgV2, NumX, NumY, NumA, PlanT, NumB, MsgY1, MsgY2, WrapJ, MsgY5, one behind the other. No condition beyond those stated in each.
-/
import Derived.Test.YtgfijlamhjjecaaGreatDoorMt12
import Derived.BigQuiet
import Derived.Test.YtgfijlamhjjecaaGreatDoorMt11
import Derived.Test.YtgfijlamhjjecaaGreatDoorMt6
import Derived.Test.YtgfijlamhjjecaaGreatDoorMt5
import Derived.Test.YtgfijlamhjjecaaGreatDoorMt1
import Derived.Test.YtgfijlamhjjecaaGreatDoorMt10
import Derived.Test.YtgfijlamhjjecaaGreatDoorMt8
import Derived.Test.YtgfijlamhjjecaaGreatDoorMt9
import Derived.Test.YtgfijlamhjjecaaGreatDoorMt7
namespace Go.Proofs.YtgfijlamhjjecaaGreatDoor
open Go.RowKit
def zbox (w : World) (B : Nat) : Prop := w.heap[B]? = some (.cells #[.int .u8 0, .int .u8 0, .int .u64 0, .slice none 0 0] 41 (0, 0))
theorem U64s.cells {w : World} {B : Nat} {v : Value} {ls : List Nat} (h : U64s w B v ls) (hl : 0 < ls.length) : ∃ g cap, v = .slice (some ⟨g, 0, none⟩) ls.length cap ∧ ls.length ≤ cap ∧ cap ≤ maxLen ∧ B ≤ g ∧ g < w.heap.size ∧ ∀ (i u : Nat), ls[i]? = some u → w.cell? ⟨g, i, none⟩ = some (.int .u64 (u : Int)) := by
  obtain ⟨g, cap, cur, rfl, hg, hh, hc, hm, _⟩ := own_form h hl (by omega)
  exact ⟨g, cap, rfl, hc, hm, hg, (Array.getElem?_eq_some_iff.1 hh).1, fun i u hi => own_cell h (by rw [List.getElem?_map, hi]; rfl)⟩
theorem U64s.below {w w' : World} {B : Nat} {v : Value} {ls : List Nat} (h : U64s w B v ls) (hb : Below w.heap.size w w') : U64s w' B v ls := own_cong h (fun k hk => hb.block k (own_lt h hk).2)
theorem parse_lim' {t : Str} {l : List Seg} {at_ : Nat} {k : Int} (h : parseE t = (l, at_, k)) (h' : t.length ≤ 65536) : okL l := by
  by_cases hk : k = 0
  · subst hk; exact (print_parse h h').2
  · obtain ⟨_, _, rfl, _⟩ := parse_cut h h' hk
    exact ⟨by simp, fun s hs => by simp at hs⟩
theorem len3 {l : List Nat} (h : l.length = 3) : ∃ a b c, l = [a, b, c] := by
  match l, h with
  | [a, b, c], _ => exact ⟨a, b, c, rfl⟩
theorem len2 {l : List Nat} (h : l.length = 2) : ∃ a b, l = [a, b] := by
  match l, h with
  | [a, b], _ => exact ⟨a, b, rfl⟩
set_option maxRecDepth 100000 in
set_option maxHeartbeats 8000000 in
theorem r4parse_any (s : ByteArray) (w : World) : Calls Tryz.prog 24 #[.string s] w fun e w' => WParseQ s.data.toList w e w' := by
  obtain ⟨B, hB⟩ : ∃ B, w.heap.size = B := ⟨_, rfl⟩
  have HBQ := Lib.hid hB
  obtain ⟨w1, hw1⟩ : ∃ w1, w.alloc (.cells #[.int .u8 0, .int .u8 0, .int .u64 0, .slice none 0 0] 41) = w1 := ⟨_, rfl⟩
  have hz1 : w1.heap.size = B + 1 := by rw [← hw1]; simp [hB]
  have HB1 : Hid (Below B w w1) := Lib.hid (by rw [← hw1, ← hB]; exact (Below.refl _ _).alloc (Nat.le_refl _) _)
  have HX1 : Hid (zbox w1 B) := Lib.hid (by rw [← hw1, ← hB]; exact heap_alloc_new _ _)
  obtain ⟨T, hT⟩ : ∃ T, s.data.toList = T := ⟨_, rfl⟩
  have HPA := Lib.hid (r3parse_any s w1)
  rw [hT] at HPA ⊢
  obtain ⟨P, hpe⟩ : ∃ P, parseE T = P := ⟨_, rfl⟩
  obtain ⟨l, i, k⟩ := P
  have HPE := Lib.hid hpe
  unfold RParseQ at HPA
  rw [hpe, hz1] at HPA
  simp only at HPA
  have hl64 : l.length ≤ 64 := by
    by_cases hb : 65536 < T.length
    · have h1 : parseE T = ([], 0, 2) := by unfold parseE; rw [if_pos hb]
      rw [h1] at hpe; cases hpe; simp
    · exact (parse_lim' hpe (by omega)).1
  have HW1 := Lib.hid hw1
  have HZ1 := Lib.hid hz1
  clear hB hw1 hz1 hT hpe
  by_cases hk : k = 0
  · subst hk
    have HWE : Hid (wrapParseE T = wrapOf l) := Lib.hid (by unfold wrapParseE; rw [HPE.out, if_pos rfl])
    by_cases hl2 : l.length < 2
    · skip
      have HE : Hid (wrapParseE T = (wd0, 40)) := Lib.hid (by
        rw [HWE.out]
        match l, hl2 with
        | [], _ => rfl
        | [a], _ => rfl)
      obtain ⟨n, hn⟩ : ∃ n, l.length = n := ⟨_, rfl⟩
      have HN := Lib.hid hn
      rw [hn] at hl2
      have i2 : (n : Int) < 2 := by omega
      clear hn hl64
      go_enter Tryz.func24, Tryz.ntmps24
      go_wp2_with fail
      rw [HW1.out, HBQ.out]
      refine HPA.out.mono ?_
      rintro e w2 ⟨v, rfl, hs2, hb2⟩
      obtain ⟨va, vc, rfl, hv1, hv2⟩ := hs2.form
      rw [HN.out] at hv1 ⊢
      have HB2 := Lib.hid hb2
      have HZ2 : Hid (zbox w2 B) := Lib.hid ((hb2.block B (Nat.lt_succ_self B)).trans HX1.out)
      obtain ⟨⟨p0, p1, p2, p3⟩, p4, p5, p6, p7⟩ := cells4 HZ2.out
      clear hs2 hb2
      go_wp2_with fail
      exact bodyPost_ret (res_wrap rfl _ rfl rfl (put4_heap HZ2.out _ _ _ _) rfl) rfl (wq_err HE.out (by rw [HBQ.out]; exact put4_below (HB1.out.trans (HB2.out.mono (by omega))) (Nat.le_refl _) _ _ _ _))
    · obtain ⟨⟨th, eh⟩, m, ⟨tz, ez⟩, rfl⟩ := ends_of hl2
      have HWT : Hid (wrapParseE T = wrapHT ⟨th, eh⟩ ⟨tz, ez⟩ m) := Lib.hid (by rw [HWE.out, wrapOf_snoc])
      obtain ⟨n, hn⟩ : ∃ n, (⟨th, eh⟩ :: (m ++ [⟨tz, ez⟩]) : List Seg).length = n := ⟨_, rfl⟩
      have hnm : n = m.length + 2 := by rw [← hn]; simp
      have HN := Lib.hid hn
      have HNM := Lib.hid hnm
      rw [hn] at hl64
      have hn2 : 2 ≤ n := by omega
      have i2 : decide ((n : Int) < 2) = false := by rw [decide_eq_false_iff_not]; omega
      have en1 : (n : Int) - 1 = ((n - 1 : Nat) : Int) := by omega
      have i3 : (0 : Int) ≤ ((n - 1 : Nat) : Int) := by omega
      have i4 : ((n - 1 : Nat) : Int) < (n : Int) := by omega
      obtain ⟨thb, hthb⟩ : ∃ thb : ByteArray, thb.data.toList = th := ⟨⟨th.toArray⟩, rfl⟩
      obtain ⟨tzb, htzb⟩ : ∃ tzb : ByteArray, tzb.data.toList = tz := ⟨⟨tz.toArray⟩, rfl⟩
      subst hthb
      subst htzb
      clear hn hnm hl2 HWE
      go_enter Tryz.func24, Tryz.ntmps24
      go_wp2_with fail
      rw [HW1.out, HBQ.out]
      refine HPA.out.mono ?_
      rintro e w2 ⟨v, rfl, hs2, hb2⟩
      obtain ⟨b, off, cap, xh, xz, rfl, hv1, hv2, hSb, ⟨g0, g1, g2, g3⟩, he, he'⟩ := pk_of hs2 HN.out
      rw [sv_dat] at g0 g2
      obtain ⟨ha, hc, rfl, _, _⟩ := he.form
      obtain ⟨za, zc, rfl, _, _⟩ := he'.form
      have HS2 := Lib.hid hs2
      have HB2 := Lib.hid hb2
      have hz2 := hb2.size
      rw [HZ1.out] at hz2
      have HZ2 : Hid (zbox w2 B) := Lib.hid ((hb2.block B (Nat.lt_succ_self B)).trans HX1.out)
      have HN1 := Lib.hid (rnums_any thb ⟨#[85, 78, 66]⟩ _ eh 3 (by decide) w2 he (fun k hk => hk.2))
      have HEZ := Lib.hid he'
      have HG2 := Lib.hid g2
      have HG3 := Lib.hid g3
      have HSB := Lib.hid hSb
      unfold maxLen at hv2
      clear hs2 hb2 he he' g2 g3 hSb HPA
      go_wp2_with fail
      refine HN1.out.mono ?_
      rintro e w3 ⟨hq1, hb3⟩
      have HB3 := Lib.hid hb3
      have hz3 := hb3.size
      have HZ3 : Hid (zbox w3 B) := Lib.hid ((hb3.block B (by omega)).trans HZ2.out)
      have HBW3 := Lib.hid (HB2.out.trans (hb3.mono hz2))
      have h2 := (hb3.cell (p := ⟨b, off + (n - 1) * 2, none⟩) HSB.out.2).trans HG2.out
      have h3 := (hb3.cell (p := ⟨b, off + (n - 1) * 2 + 1, none⟩) HSB.out.2).trans HG3.out
      have HEZ3 := Lib.hid (HEZ.out.cong (T := fun k => k < w3.heap.size) (fun k hk => by omega) (fun k hk => hb3.block k hk.2))
      have HN2 := Lib.hid (rnums_any tzb ⟨#[85, 78, 90]⟩ _ ez 2 (by decide) w3 HEZ3.out (fun k hk => hk))
      obtain ⟨v1, b1, rfl, hd1⟩ : ∃ v1 b1, e = .returned (.tuple #[v1, .bool b1]) ∧ ((b1 = true ∧ ∃ ls, numsW ⟨thb.data.toList, eh⟩ unb 3 = some ls ∧ U64s w3 w2.heap.size v1 ls) ∨ (b1 = false ∧ numsW ⟨thb.data.toList, eh⟩ unb 3 = none)) := by
        rcases hq1 with ⟨ls, v, h1, rfl, h2⟩ | ⟨h1, rfl⟩
        · exact ⟨v, true, rfl, .inl ⟨rfl, ls, h1, h2⟩⟩
        · exact ⟨_, false, rfl, .inr ⟨rfl, h1⟩⟩
      have HD1 := Lib.hid hd1
      clear hq1 hb3 hd1 HN1 HG2 HG3 HEZ g0 g1 i2
      go_wp2_with fail
      refine HN2.out.mono ?_
      rintro e w4 ⟨hq2, hb4⟩
      have HB4 := Lib.hid hb4
      have hz4 := hb4.size
      have HZ4 : Hid (zbox w4 B) := Lib.hid ((hb4.block B (by omega)).trans HZ3.out)
      have HBW4 := Lib.hid (HB1.out.trans ((HBW3.out.trans (hb4.mono (by omega))).mono (Nat.le_succ B)))
      obtain ⟨v2, b2, rfl, hd2⟩ : ∃ v2 b2, e = .returned (.tuple #[v2, .bool b2]) ∧ ((b2 = true ∧ ∃ ls, numsW ⟨tzb.data.toList, ez⟩ unz 2 = some ls ∧ U64s w4 w3.heap.size v2 ls) ∨ (b2 = false ∧ numsW ⟨tzb.data.toList, ez⟩ unz 2 = none)) := by
        rcases hq2 with ⟨ls, v, h1, rfl, h2⟩ | ⟨h1, rfl⟩
        · exact ⟨v, true, rfl, .inl ⟨rfl, ls, h1, h2⟩⟩
        · exact ⟨_, false, rfl, .inr ⟨rfl, h1⟩⟩
      have HD2 := Lib.hid hd2
      clear hq2 hb4 hd2 HN2 HEZ3 h2 h3
      obtain ⟨⟨p0, p1, p2, p3⟩, p4, p5, p6, p7⟩ := cells4 HZ4.out
      rcases HD1.out with ⟨rfl, la, hla, hua⟩ | ⟨rfl, hla⟩
      · rcases HD2.out with ⟨rfl, lz, hlz, huz⟩ | ⟨rfl, hlz⟩
        · obtain ⟨a0, a1, a2, rfl⟩ := len3 (numsW_inj hla).2.1
          obtain ⟨c0, c1, rfl⟩ := len2 (numsW_inj hlz).2.1
          have hba := (numsW_inj hla).2.2
          have hbz := (numsW_inj hlz).2.2
          have HWF := Lib.hid (show wrapParseE T = if 8 ≤ a0 ∨ 8 ≤ a1 then (wd0, 40) else if c0 ≠ m.length then (wd0, 41) else if a2 ≠ c1 then (wd0, 42) else (⟨a0, a1, a2, m⟩, 0) by rw [HWT.out]; unfold wrapHT; rw [hla, hlz])
          obtain ⟨ga, gca, rfl, ga1, ga2, _, ga3, hca⟩ := (hua.below HB4.out).cells (by simp)
          obtain ⟨gz, gcz, rfl, gz1, gz2, _, gz3, hcz⟩ := huz.cells (by simp)
          have x0 := hca 0 a0 rfl
          have x1 := hca 1 a1 rfl
          have x2 := hca 2 a2 rfl
          have y0 := hcz 0 c0 rfl
          have y1 := hcz 1 c1 rfl
          simp only [List.length_cons, List.length_nil, Nat.zero_add, Nat.reduceAdd] at ga1 gz1 ⊢
          unfold maxLen at ga2 gz2
          have HBA := Lib.hid hba
          have HBZ := Lib.hid hbz
          clear hla hlz hua huz hba hbz hca hcz HD1 HD2
          obtain ⟨mm, hmm⟩ : ∃ mm, m.length = mm := ⟨_, rfl⟩
          have HMM := Lib.hid hmm
          have hnm : n = mm + 2 := by rw [← hmm]; exact HNM.out
          have en2 : (n : Int) - 2 = (mm : Int) := by omega
          have wr3 : IntKind.u64.wrap (mm : Int) = (mm : Int) := by rw [IntKind.wrap_u64]; omega
          rw [hmm] at HWF
          have hn2' : 2 ≤ n := by omega
          have HNM2 := Lib.hid hnm
          clear hmm en1 hnm
          by_cases k0 : 8 ≤ a0
          · skip
            have HE := Lib.hid (HWF.out.trans (if_pos (.inl k0)))
            have i1 : decide ((8 : Int) ≤ (a0 : Int)) = true := by rw [decide_eq_true_eq]; omega
            go_wp2_with fail
            exact bodyPost_ret (res_wrap rfl _ rfl rfl (put4_heap HZ4.out _ _ _ _) rfl) rfl (wq_err HE.out (by rw [HBQ.out]; exact put4_below HBW4.out (Nat.le_refl _) _ _ _ _))
          have i1 : decide ((8 : Int) ≤ (a0 : Int)) = false := by rw [decide_eq_false_iff_not]; omega
          by_cases k1 : 8 ≤ a1
          · skip
            have HE := Lib.hid (HWF.out.trans (if_pos (.inr k1)))
            have i1b : decide ((8 : Int) ≤ (a1 : Int)) = true := by rw [decide_eq_true_eq]; omega
            go_wp2_with fail
            exact bodyPost_ret (res_wrap rfl _ rfl rfl (put4_heap HZ4.out _ _ _ _) rfl) rfl (wq_err HE.out (by rw [HBQ.out]; exact put4_below HBW4.out (Nat.le_refl _) _ _ _ _))
          have i1b : decide ((8 : Int) ≤ (a1 : Int)) = false := by rw [decide_eq_false_iff_not]; omega
          have HWF2 := Lib.hid (HWF.out.trans (if_neg (by omega)))
          clear HWF
          by_cases kc : c0 = mm
          · have HWF3 := Lib.hid (HWF2.out.trans (if_neg (by simpa using kc)))
            have i2a : ((c0 : Int) != (mm : Int)) = false := by rw [bne_eq_false_iff_eq]; omega
            clear HWF2
            subst kc
            by_cases kr : a2 = c1
            · have HWF4 := Lib.hid (HWF3.out.trans (if_neg (by simpa using kr)))
              have i2b : ((a2 : Int) != (c1 : Int)) = false := by rw [bne_eq_false_iff_eq]; omega
              clear HWF3
              subst kr
              go_upto_region 12 with fail
              go_quiet (fail)
              obtain ⟨w5, hw5⟩ : ∃ w5, w4.drewN nq = w5 := ⟨_, rfl⟩
              have hwh : w5.heap = w4.heap := by rw [← hw5]; rfl
              have HZ5 : Hid (zbox w5 B) := Lib.hid (by show w5.heap[B]? = _; rw [hwh]; exact HZ4.out)
              have HBW5 : Hid (Below B w w5) := Lib.hid (by rw [← hw5]; exact HBW4.out.trans (Drew.below ⟨nq, rfl⟩ _))
              rw [hw5]
              have wr1 : IntKind.u8.wrap (a0 : Int) = (a0 : Int) := by rw [IntKind.wrap_u8]; omega
              have wr2 : IntKind.u8.wrap (a1 : Int) = (a1 : Int) := by rw [IntKind.wrap_u8]; omega
              go_upto_region 14 with fail
              obtain ⟨w6, hw6⟩ : ∃ w6, w5.drew = w6 := ⟨_, rfl⟩
              have hwh6 : w6.heap = w4.heap := by rw [← hw6]; exact hwh
              have HZ6 : Hid (zbox w6 B) := Lib.hid (by show w6.heap[B]? = _; rw [hwh6]; exact HZ4.out)
              have HBW6 : Hid (Below B w w6) := Lib.hid (by rw [← hw6]; exact HBW5.out.drew)
              have X0 := Lib.hid (show w6.cell? ⟨ga, 0, none⟩ = some (.int .u64 (a0 : Int)) from (cell_ag (by rw [hwh6])).trans x0)
              have X1 := Lib.hid (show w6.cell? ⟨ga, 1, none⟩ = some (.int .u64 (a1 : Int)) from (cell_ag (by rw [hwh6])).trans x1)
              have X2 := Lib.hid (show w6.cell? ⟨ga, 2, none⟩ = some (.int .u64 (a2 : Int)) from (cell_ag (by rw [hwh6])).trans x2)
              have HS6 : Hid (SegsAt (fun k => B + 1 ≤ k ∧ k < w6.heap.size) w6 (.slice (some ⟨b, off, none⟩) n cap) (⟨thb.data.toList, eh⟩ :: (m ++ [⟨tzb.data.toList, ez⟩]))) := Lib.hid (HS2.out.cong (fun k hk => by rw [hwh6]; omega) (fun k hk => by rw [hwh6]; exact (HB4.out.block k (by omega)).trans (HB3.out.block k hk.2)))
              clear en2
              have hcne : ¬ cap = 1 := by omega
              have c1' : (1 : Int) ≤ (n : Int) - 1 := by omega
              have c2' : (n : Int) - 1 ≤ (cap : Int) := by omega
              have c3' : ((n : Int) - 1).toNat = n - 1 := by omega
              have g1 : IntKind.i64.wrap ((n : Int) - 1) = (n : Int) - 1 := IntWalk.i64_in _ (by omega)
              refine wp_region_plan [(0, false), (1, false), (2, false), (3, false), (4, false), (5, false), (6, false), (7, false), (8, false), (9, false), (10, false), (11, false), (12, false), (13, false), (14, false), (15, false), (16, false), (17, true), (18, false)]
                (fun w' => w'.cell? ⟨ga, 0, none⟩ = some (.int .u64 (a0 : Int)) ∧ w'.cell? ⟨ga, 1, none⟩ = some (.int .u64 (a1 : Int)) ∧ w'.cell? ⟨ga, 2, none⟩ = some (.int .u64 (a2 : Int))) (by kernel_rfl) (by kernel_rfl) (by rw [hw6]; exact ⟨X0.out, X1.out, X2.out⟩) ?_
              rw [hw6]
              clear hw6 hw5 hwh hwh6 x0 x1 x2 y0 y1 p0 p1 p2 p3 p4 p5 p6 p7
              iterate 15 (refine' plan_val rfl rfl (fun w' hS => ?_) ?_; rotate_left; (focus (obtain ⟨hS1, hS2, hS3⟩ := hS; go_simp; rfl)); simp only [Act.put, List.setIfInBounds_toArray, List.set_cons_zero, List.set_cons_succ])
              refine plan_val (v := .slice (some ⟨b, off + 2, none⟩) (n - 1 - 1) (cap - 1)) rfl rfl (fun w' hS => by go_simp) ?_
              simp only [Act.put, List.setIfInBounds_toArray, List.set_cons_zero, List.set_cons_succ]
              refine plan_val (v := .agg #[.int .u8 (a0 : Int), .int .u8 (a1 : Int), .int .u64 (a2 : Int), .slice (some ⟨b, off + 2, none⟩) (n - 1 - 1) (cap - 1)]) rfl rfl (fun w' hS => by go_simp) ?_
              simp only [Act.put, List.setIfInBounds_toArray, List.set_cons_zero, List.set_cons_succ]
              clear g1 c1' c2' c3' hcne
              refine plan_do rfl (fun K hK => ?_)
              obtain ⟨⟨p0, p1, p2, p3⟩, p4, p5, p6, p7⟩ := cells4 HZ6.out
              go_wp2_with fail
              have hgB : ga ≠ B := by omega
              refine hK _ _ ⟨(cell_ag (put4_other w6 B _ _ _ _ hgB)).trans X0.out, (cell_ag (put4_other w6 B _ _ _ _ hgB)).trans X1.out, (cell_ag (put4_other w6 B _ _ _ _ hgB)).trans X2.out⟩ ?_
              clear hK K p0 p1 p2 p3 p4 p5 p6 p7
              refine plan_val (v := .int .i64 0) rfl rfl (fun w' hS => by first | rfl | go_simp) ?_
              simp only [Act.put, List.setIfInBounds_toArray, List.set_cons_zero, List.set_cons_succ]
              refine plan_nil ?_
              go_wp2_with fail
              refine bodyPost_ret (res_wrap rfl _ rfl rfl (put4_heap HZ6.out _ _ _ _) rfl) rfl ?_
              have hbp : Below B w (put4 w6 B (.int .u8 (a0 : Int)) (.int .u8 (a1 : Int)) (.int .u64 (a2 : Int)) (.slice (some ⟨b, off + 2, none⟩) (n - 1 - 1) (cap - 1))) := put4_below HBW6.out (Nat.le_refl _) _ _ _ _
              refine ⟨.slice (some ⟨b, off + 2, none⟩) (n - 1 - 1) (cap - 1), by rw [HWF4.out]; rfl, ?_, by rw [HBQ.out]; exact hbp⟩
              rw [HWF4.out, HBQ.out]
              have h1 := HS6.out.sub (lo := 1) (hi := n - 1) (c' := cap - 1) (by omega) (by rw [HN.out]; omega) (by omega) (by unfold maxLen; omega)
              have h2 : ((⟨thb.data.toList, eh⟩ :: (m ++ [⟨tzb.data.toList, ez⟩]) : List Seg).take (n - 1)).drop 1 = m := by
                rw [show n - 1 = m.length + 1 by have h3 := HMM.out; have h4 := HNM2.out; omega, List.take_succ_cons, List.drop_succ_cons, List.drop_zero, List.take_left]
              rw [h2] at h1
              exact h1.cong (fun k hk => ⟨by omega, by simp; exact hk.2⟩) (fun k hk => put4_other w6 B _ _ _ _ (by omega))
            · skip
              have HE := Lib.hid (HWF3.out.trans (if_pos kr))
              have i2b : ((a2 : Int) != (c1 : Int)) = true := by rw [bne_iff_ne]; omega
              clear HWF3 kr
              go_upto_region 12 with fail
              go_quiet (fail)
              obtain ⟨w5, hw5⟩ : ∃ w5, w4.drewN nq = w5 := ⟨_, rfl⟩
              have hwh : w5.heap = w4.heap := by rw [← hw5]; rfl
              have HZ5 : Hid (zbox w5 B) := Lib.hid (by show w5.heap[B]? = _; rw [hwh]; exact HZ4.out)
              have HBW5 : Hid (Below B w w5) := Lib.hid (by rw [← hw5]; exact HBW4.out.trans (Drew.below ⟨nq, rfl⟩ _))
              rw [hw5]
              clear hw5 hwh p0 p1 p2 p3 p4 p5 p6 p7 x0 x1 x2 y0 y1
              obtain ⟨⟨p0, p1, p2, p3⟩, p4, p5, p6, p7⟩ := cells4 HZ5.out
              go_wp2_with fail
              exact bodyPost_ret (res_wrap rfl _ rfl rfl (put4_heap HZ5.out _ _ _ _) rfl) rfl (wq_err HE.out (by rw [HBQ.out]; exact put4_below HBW5.out (Nat.le_refl _) _ _ _ _))
          · skip
            have HE := Lib.hid (HWF2.out.trans (if_pos kc))
            have i2a : ((c0 : Int) != (mm : Int)) = true := by rw [bne_iff_ne]; omega
            clear HWF2 kc
            go_wp2_with fail
            exact bodyPost_ret (res_wrap rfl _ rfl rfl (put4_heap HZ4.out _ _ _ _) rfl) rfl (wq_err HE.out (by rw [HBQ.out]; exact put4_below HBW4.out (Nat.le_refl _) _ _ _ _))
        · skip
          have HE : Hid (wrapParseE T = (wd0, 40)) := Lib.hid (by
            rw [HWT.out]
            unfold wrapHT
            rw [hlz]
            split
            · rename_i h; cases h
            · rfl)
          clear hla hlz hua HD1 HD2
          go_wp2_with fail
          exact bodyPost_ret (res_wrap rfl _ rfl rfl (put4_heap HZ4.out _ _ _ _) rfl) rfl (wq_err HE.out (by rw [HBQ.out]; exact put4_below HBW4.out (Nat.le_refl _) _ _ _ _))
      · skip
        have HE : Hid (wrapParseE T = (wd0, 40)) := Lib.hid (by
          rw [HWT.out]
          unfold wrapHT
          rw [hla])
        clear hla HD1 HD2
        go_wp2_with fail
        exact bodyPost_ret (res_wrap rfl _ rfl rfl (put4_heap HZ4.out _ _ _ _) rfl) rfl (wq_err HE.out (by rw [HBQ.out]; exact put4_below HBW4.out (Nat.le_refl _) _ _ _ _))
  · skip
    have HE : Hid (wrapParseE T = (wd0, k)) := Lib.hid (by unfold wrapParseE; rw [HPE.out, if_neg hk])
    have d0 : (k != 0) = true := by rw [bne_iff_ne]; exact hk
    clear hk hl64
    go_enter Tryz.func24, Tryz.ntmps24
    go_wp2_with fail
    rw [HW1.out, HBQ.out]
    refine HPA.out.mono ?_
    rintro e w2 ⟨v, rfl, hs2, hb2⟩
    obtain ⟨va, vc, rfl, hv1, hv2⟩ := hs2.form
    have HB2 := Lib.hid hb2
    have HZ2 : Hid (zbox w2 B) := Lib.hid ((hb2.block B (Nat.lt_succ_self B)).trans HX1.out)
    obtain ⟨⟨p0, p1, p2, p3⟩, p4, p5, p6, p7⟩ := cells4 HZ2.out
    clear hs2 hb2
    go_wp2_with fail
    exact bodyPost_ret (res_wrap rfl _ rfl rfl (put4_heap HZ2.out _ _ _ _) rfl) rfl (wq_err HE.out (by rw [HBQ.out]; exact put4_below (HB1.out.trans (HB2.out.mono (by omega))) (Nat.le_refl _) _ _ _ _))
end Go.Proofs.YtgfijlamhjjecaaGreatDoor


namespace Go.Proofs.YtgfijlamhjjecaaGreatDoor
open Go.RowKit
theorem wrapOf_mem {l : List Seg} {s : Seg} (h : s ∈ (wrapOf l).1.segs) : s ∈ l := by
  unfold wrapOf at h
  cases l with
  | nil => simp [wd0] at h
  | cons a r =>
    simp only at h
    split at h
    · simp [wd0] at h
    · unfold wrapHT at h
      split at h
      · split at h
        · simp [wd0] at h
        · split at h
          · simp [wd0] at h
          · split at h
            · simp [wd0] at h
            · exact List.mem_cons_of_mem _ (List.dropLast_subset _ h)
      · simp [wd0] at h
theorem words_lim (t : Str) : wordsLim (wrapParseE t).1 := by
  intro s hs e he c hc
  unfold wrapParseE at hs
  split at hs
  · rename_i h0
    by_cases hb : t.length ≤ 65536
    · have hok := parse_lim' (t := t) (l := (parseE t).1) (at_ := (parseE t).2.1) (k := (parseE t).2.2) rfl hb
      have hm := wrapOf_mem hs
      have hp := ((hok.2 s hm).2.2 e he).2.2 c hc
      unfold okP at hp
      omega
    · have h1 : parseE t = ([], 0, 2) := by unfold parseE; rw [if_pos (by omega)]
      rw [h1] at h0
      exact absurd h0 (by decide)
  · simp [wd0] at hs
end Go.Proofs.YtgfijlamhjjecaaGreatDoor


namespace Go.Proofs.YtgfijlamhjjecaaGreatDoor
open Go.RowKit
def ParseMQ (t : Str) (w : World) (e : Ending) (w' : World) : Prop := e = .returned (.tuple #[.agg (pktA (parseTM t).1).toArray, .int .i64 (parseTM t).2]) ∧ Below w.heap.size w w'
set_option maxRecDepth 100000 in
set_option maxHeartbeats 4000000 in
theorem mParse_any (s : ByteArray) (w : World) (hv : VarsOk w) : Calls Tryz.prog 23 #[.string s] w fun e w' => ParseMQ s.data.toList w e w' := by
  obtain ⟨B, hB⟩ : ∃ B, w.heap.size = B := ⟨_, rfl⟩
  have HBQ := Lib.hid hB
  obtain ⟨w1, hw1⟩ : ∃ w1, w.alloc (.cells #[.int .u8 0, .int .u8 0, .bool false, .int .u64 0, .int .u8 0, .int .u8 0, .int .u64 0, .int .u8 0, .int .u8 0, .int .u16 0, .int .u32 0, .int .i64 0, .int .u8 0, .int .u32 0, .int .i64 0, .int .i64 0] 38) = w1 := ⟨_, rfl⟩
  have HB1 : Hid (Below B w w1) := Lib.hid (by rw [← hw1, ← hB]; exact (Below.refl _ _).alloc (Nat.le_refl _) _)
  have hz1 : w1.heap.size = B + 1 := by rw [← hw1, ← hB]; simp
  have HZ1 := Lib.hid hz1
  have HR1 : Hid (w1.heap[B]? = some (.cells #[.int .u8 0, .int .u8 0, .bool false, .int .u64 0, .int .u8 0, .int .u8 0, .int .u64 0, .int .u8 0, .int .u8 0, .int .u16 0, .int .u32 0, .int .i64 0, .int .u8 0, .int .u32 0, .int .i64 0, .int .i64 0] 38 (0, 0))) := Lib.hid (by rw [← hw1, ← hB]; exact heap_alloc_new _ _)
  have HWR := Lib.hid (wParse_any s w1 (hv.on HB1.out (by rw [hB]; exact Nat.le_refl _)))
  have HV := Lib.hid hv
  have HL := Lib.hid (words_lim s.data.toList)
  obtain ⟨X, hX⟩ : ∃ X, wrapParseE s.data.toList = X := ⟨_, rfl⟩
  obtain ⟨x, k⟩ := X
  unfold WParseQ at HWR
  rw [hX] at HWR HL
  have HX := Lib.hid hX
  have HW1 := Lib.hid hw1
  unfold ParseMQ
  rw [hB]
  clear hB hw1 hz1 hv hX
  go_enter Tryz.func23, Tryz.ntmps23
  go_wp2_with fail
  rw [HW1.out]
  refine HWR.out.mono ?_
  rintro e w2 ⟨v, rfl, hs, hb⟩
  unfold wv
  obtain ⟨vo, cap, rfl, hcap, hcm⟩ := hs.form
  clear hcap hcm
  obtain ⟨n, hn⟩ : ∃ n, x.segs.length = n := ⟨_, rfl⟩
  rw [hn] at hs ⊢
  clear hn
  obtain ⟨w3, hw3⟩ : ∃ w3, w2.alloc (.cells #[.int .u8 (x.fr : Int), .int .u8 (x.dst : Int), .int .u64 (x.rf : Int), .slice vo n cap] 41) = w3 := ⟨_, rfl⟩
  have hz2 := hb.size
  have HB2 : Hid (Below B w w2) := Lib.hid (HB1.out.trans (hb.mono (by rw [HZ1.out]; omega)))
  have HB3 : Hid (Below B w w3) := Lib.hid (by rw [← hw3]; exact HB2.out.alloc (by rw [HZ1.out] at hz2; omega) _)
  have HS3 : Hid (SegsAt (fun j => j < w3.heap.size) w3 (.slice vo n cap) x.segs) := Lib.hid (hs.cong (fun j hj => by rw [← hw3]; simp; omega) (fun j hj => by rw [← hw3]; exact Below.heap_alloc _ _ _ hj.2))
  have HR3 : Hid (w3.heap[B]? = some (.cells #[.int .u8 0, .int .u8 0, .bool false, .int .u64 0, .int .u8 0, .int .u8 0, .int .u64 0, .int .u8 0, .int .u8 0, .int .u16 0, .int .u32 0, .int .i64 0, .int .u8 0, .int .u32 0, .int .i64 0, .int .i64 0] 38 (0, 0))) := Lib.hid (by rw [← hw3]; exact (Below.heap_alloc _ _ _ (by rw [HZ1.out] at hz2; omega)).trans ((hb.block B (by rw [HZ1.out]; omega)).trans HR1.out))
  have HZ3 : Hid (B < w3.heap.size) := Lib.hid (by rw [← hw3]; rw [HZ1.out] at hz2; simp; omega)
  have HW3 := Lib.hid hw3
  clear hs hb hz2 hw3
  by_cases hk : k = 0
  · subst hk
    have HPK := Lib.hid (mPacket_any (S := fun j => j < w3.heap.size) x (.slice vo n cap) w3 (HV.out.on HB3.out (by rw [HBQ.out]; exact Nat.le_refl _)) HS3.out (fun j hj => hj) HL.out)
    have HT : Hid (parseTM s.data.toList = packetM x) := Lib.hid (by unfold parseTM; rw [HX.out]; rfl)
    unfold wv at HPK
    go_wp2_with fail
    rw [HW3.out]
    refine HPK.out.mono ?_
    rintro e w4 ⟨rfl, hb4⟩
    have HB4 := Lib.hid hb4
    have HR4 := Lib.hid ((hb4.block B HZ3.out).trans HR3.out)
    clear hb4
    rw [HBQ.out]
    go_wp2_with ((with_reducible refine wpList_at (.store 38 (.tmp 2) _) rfl ?_); go_loud (refine wpList_store_agg rfl _ _ _ rfl B 0 (pktA (packetM x).1) rfl rfl (there_of HR4.out 16 (by decide)) (by kernel_rfl) rfl ?_))
    refine bodyPost_ret (res_pkt rfl _ rfl rfl (putL_heap (cs := pkz) HR4.out (pktA (packetM x).1) rfl) rfl) rfl ?_
    rw [HT.out]
    exact ⟨rfl, putL_below (Nat.le_refl _) _ _ _ (HB3.out.trans (HB4.out.mono (Nat.le_of_lt HZ3.out)))⟩
  · have hk1 : (k != 0) = true := by rw [bne_iff_ne]; exact hk
    have HT : Hid (parseTM s.data.toList = (pd0, k)) := Lib.hid (by unfold parseTM; rw [HX.out]; simp only; rw [if_neg hk])
    go_upto_region 2 with fail
    rw [HW3.out, HBQ.out]
    go_wp2_with ((with_reducible refine wpList_at (.store 38 (.tmp 2) _) rfl ?_); go_loud (refine wpList_store_agg rfl _ _ _ rfl B 0 pkz rfl rfl (there_of HR3.out 16 (by decide)) (by kernel_rfl) rfl ?_))
    refine bodyPost_ret (res_pkt rfl _ rfl rfl (putL_heap (cs := pkz) HR3.out pkz rfl) rfl) rfl ?_
    rw [HT.out]
    exact ⟨rfl, putL_below (Nat.le_refl _) _ _ _ HB3.out⟩
end Go.Proofs.YtgfijlamhjjecaaGreatDoor


namespace Go.Proofs.YtgfijlamhjjecaaGreatDoor
open Go.RowKit
theorem text_is {s : Str} {q : PD} (hl : s.length ≤ 65536) (h : parseTM s = (q, 0)) (h10 : no10 s = s) : textM q = (s, 0) := by
  rw [(text_there hl h).1, h10]
def tellsP : PD := ⟨1, 2, false, 7, ⟨1, 1, 1, 0, cd0, 0, 0⟩⟩
def tellsR : PD := ⟨2, 1, true, 7, md0⟩
abbrev tellsT : Str := [85, 78, 66, 43, 49, 43, 50, 43, 55, 39, 77, 83, 71, 43, 49, 39, 75, 69, 89, 43, 48, 48, 49, 48, 48, 48, 48, 48, 48, 48, 48, 48, 49, 53, 43, 48, 39, 85, 78, 90, 43, 50, 43, 55, 39]
abbrev tellsS : Str := [85, 78, 66, 43, 50, 43, 49, 43, 55, 39, 65, 67, 75, 39, 85, 78, 90, 43, 49, 43, 55, 39]
theorem tells_parse : parseTM tellsS = (tellsR, 0) := by kernel_rfl
theorem tells_read : parseTM tellsT = (tellsP, 0) := by kernel_rfl
theorem tells_text : textM tellsP = (tellsT, 0) := text_is (by decide) tells_read (by decide)
end Go.Proofs.YtgfijlamhjjecaaGreatDoor


namespace Go.Proofs.YtgfijlamhjjecaaGreatDoor
open Go.RowKit
set_option maxHeartbeats 1000000 in
theorem r7May_any (c s : Nat) (w : World) : Calls Tryz.prog 89 #[.agg #[.int .u8 (c : Int), .int .u64 (s : Int)]] w fun e w' => e = .returned (.bool (mayT c s)) ∧ Below w.heap.size w w' := by
  unfold mayT
  by_cases h1 : c < 8
  · by_cases h2 : 0 < s
    · by_cases h3 : s ≤ 9999999999
      · have i1 : ((c : Int) < 8) := by omega
        have i2 : ((s : Int) > 0) := by omega
        have i3 : ((s : Int) ≤ 9999999999) := by omega
        have e : (decide (c < 8) && decide (0 < s) && decide (s ≤ 9999999999)) = true := by simp [h1, h2, h3]
        rw [e]
        go_enter Tryz.func89, Tryz.ntmps89
        go_wp2_with fail
        go_ret
        exact ⟨rfl, (Below.refl _ w).alloc (Nat.le_refl _) _⟩
      · have i1 : ((c : Int) < 8) := by omega
        have i2 : ((s : Int) > 0) := by omega
        have i3 : ¬ ((s : Int) ≤ 9999999999) := by omega
        have e : (decide (c < 8) && decide (0 < s) && decide (s ≤ 9999999999)) = false := by simp [h1, h2, h3]
        rw [e]
        go_enter Tryz.func89, Tryz.ntmps89
        go_wp2_with fail
        go_ret
        exact ⟨rfl, (Below.refl _ w).alloc (Nat.le_refl _) _⟩
    · have i1 : ((c : Int) < 8) := by omega
      have i2 : ¬ ((s : Int) > 0) := by omega
      have e : (decide (c < 8) && decide (0 < s) && decide (s ≤ 9999999999)) = false := by simp [h1, h2]
      rw [e]
      go_enter Tryz.func89, Tryz.ntmps89
      go_wp2_with fail
      go_ret
      exact ⟨rfl, (Below.refl _ w).alloc (Nat.le_refl _) _⟩
  · have i1 : ¬ ((c : Int) < 8) := by omega
    have e : (decide (c < 8) && decide (0 < s) && decide (s ≤ 9999999999)) = false := by simp [h1]
    rw [e]
    go_enter Tryz.func89, Tryz.ntmps89
    go_wp2_with fail
    go_ret
    exact ⟨rfl, (Below.refl _ w).alloc (Nat.le_refl _) _⟩
end Go.Proofs.YtgfijlamhjjecaaGreatDoor


namespace Go.Proofs.YtgfijlamhjjecaaGreatDoor
open Go.RowKit
theorem leftF_app (a b : Str) : ∀ v : Nat, leftF v (a ++ b) = leftF (leftF v a) b := by
  induction a with
  | nil => intro v; rfl
  | cons c a ih => intro v; exact ih _
set_option maxRecDepth 100000 in
set_option maxHeartbeats 2000000 in
theorem left_any (s : ByteArray) (hs : s.size ≤ 1000) (hd : s.data.toList.all digB = true) (w : World) : Calls Tryz.prog 91 #[.string s] w fun e w' => e = .returned (.int .i64 (leftF 0 s.data.toList : Int)) ∧ w' = w := by
  have hsl : s.data.toList.length = s.size := rfl
  go_enter Tryz.func91, Tryz.ntmps91
  go_wp2_with fail
  go_loopw [3, 4] (fun v i wr => ∃ (k : Nat), k ≤ s.size ∧ i = .int .i64 (k : Int) ∧ v = .int .i64 (leftF 0 (s.data.toList.take k) : Int) ∧ wr = w) (fun _ i _ => s.size - (intOf i).toNat)
  case atStart => exact ⟨0, Nat.zero_le _, rfl, rfl, rfl⟩
  case round =>
    obtain ⟨k, hk, rfl, rfl, rfl⟩ := hrel
    by_cases hlt : k < s.size
    · have hki : (k : Int) < (s.size : Int) := by omega
      have hki2 : (0 : Int) ≤ (k : Int) := by omega
      obtain ⟨c, hc⟩ : ∃ c, s[k]'hlt = c := ⟨_, rfl⟩
      have hk2 : k < s.data.toList.length := hlt
      have hcl : s.data.toList[k] = c := by rw [← hc]; rfl
      have hcd : digB c = true := by rw [← hcl]; exact List.all_eq_true.1 hd _ (List.getElem_mem hk2)
      obtain ⟨_, hc9, hc48⟩ := digC_of hcd
      have hstep : leftF 0 (s.data.toList.take (k + 1)) = (10 * leftF 0 (s.data.toList.take k) + (c.toNat - 48)) % 7 := by
        rw [List.take_add_one, List.getElem?_eq_getElem hk2, hcl, leftF_app]
        rfl
      have hlt7 := leftF_lt (v := 0) (s.data.toList.take k) (by omega)
      obtain ⟨V, hV⟩ : ∃ V, leftF 0 (s.data.toList.take k) = V := ⟨_, rfl⟩
      rw [hV] at hstep hlt7 ⊢
      obtain ⟨d, hdd⟩ : ∃ d, c.toNat - 48 = d := ⟨_, rfl⟩
      have hcd2 : (c.toNat : Int) - 48 = (d : Int) := by omega
      rw [hdd] at hstep hc9
      have hw0 : IntKind.i64.wrap (10 * (V : Int)) = 10 * (V : Int) := IntWalk.i64_in _ (by omega)
      have hw1 : IntKind.u8.wrap ((c.toNat : Int) - 48) = (d : Int) := by simp [IntKind.wrap, IntKind.bits, IntKind.signed]; omega
      have hw2 : IntKind.i64.wrap (d : Int) = (d : Int) := IntWalk.i64_in _ (by omega)
      have hw3 : IntKind.i64.wrap (10 * (V : Int) + (d : Int)) = 10 * (V : Int) + (d : Int) := IntWalk.i64_in _ (by omega)
      have HST := Lib.hid hstep
      clear hstep hcl hcd hV
      go_wp2_with fail
      go_roundw
      case rel => exact ⟨k + 1, by omega, by go_num, by rw [HST.out]; simp; try omega, trivial⟩
      case measure => simp [intOf]; omega
    · obtain rfl : k = s.size := by omega
      go_wp2_with fail
      go_ret
      have hT : s.data.toList.take s.size = s.data.toList := List.take_of_length_le (Nat.le_of_eq hsl)
      exact ⟨by simp only [hT]; rfl, rfl⟩
theorem padd_add {u k : Nat} (hk : k ≤ 100) (W : World) : (Op.stringOp .add ⟨#[digC (u / 10 ^ k % 10)]⟩ ⟨(padN k u).toArray⟩).run Tryz.prog W = .ok (.string ⟨(padN (k + 1) u).toArray⟩) W := by
  have h1 := padN_len k u
  rw [run_string_add_sum _ _ _ (by simp [ByteArray.size]; omega), padN_front]
  show Result.ok (Value.string ((⟨[digC (u / 10 ^ k % 10)].toArray⟩ : ByteArray) ++ ⟨(padN k u).toArray⟩)) W = _
  rw [ByteArray.mk_append_mk]; rfl
set_option maxRecDepth 100000 in
set_option maxHeartbeats 2000000 in
theorem r7padded_any (n : Nat) (hn : n < 18446744073709551616) (m : Nat) (hm : m ≤ 100) (w : World) : Calls Tryz.prog 90 #[.int .u64 (n : Int), .int .i64 (m : Int)] w fun e w' => e = .returned (.string ⟨(padN m n).toArray⟩) ∧ w' = w := by
  go_enter Tryz.func90, Tryz.ntmps90
  go_wp2_with fail
  go_loopw [0, 5, 6] (fun v t i wr => ∃ (k : Nat), k ≤ m ∧ i = .int .i64 (k : Int) ∧ v = .int .u64 ((n / 10 ^ k : Nat) : Int) ∧ t = .string ⟨(padN k n).toArray⟩ ∧ wr = w) (fun _ _ i _ => m - (intOf i).toNat)
  case atStart => exact ⟨0, Nat.zero_le _, rfl, by simp, rfl, rfl⟩
  case round =>
    obtain ⟨k, hk, rfl, rfl, rfl, rfl⟩ := hrel
    by_cases hlt : k < m
    · have hki : (k : Int) < (m : Int) := by omega
      have hq : n / 10 ^ (k + 1) = n / 10 ^ k / 10 := by rw [Nat.div_div_eq_div_mul, Nat.pow_succ]
      have hu : n / 10 ^ k ≤ n := Nat.div_le_self _ _
      have hadd := padd_add (u := n) (k := k) (by omega) wr
      obtain ⟨u, hU⟩ : ∃ u, n / 10 ^ k = u := ⟨_, rfl⟩
      rw [hU] at hq hu hadd ⊢
      have hsl := dig_slice (show u % 10 < 10 by omega) wr
      have q1 : (u : Int).tdiv 10 = ((u / 10 : Nat) : Int) := by rw [Int.tdiv_eq_ediv_of_nonneg (by omega)]; omega
      have q2 : (u : Int).tmod 10 = ((u % 10 : Nat) : Int) := by rw [Int.tmod_eq_emod_of_nonneg (by omega)]; omega
      have wr0 : IntKind.u64.wrap ((u / 10 : Nat) : Int) = ((u / 10 : Nat) : Int) := by rw [IntKind.wrap_u64]; omega
      have wr2 : IntKind.u64.wrap ((u % 10 : Nat) : Int) = ((u % 10 : Nat) : Int) := by rw [IntKind.wrap_u64]; omega
      have wr1 : IntKind.u64.wrap (((u % 10 : Nat) : Int) + 1) = ((u % 10 : Nat) : Int) + 1 := by rw [IntKind.wrap_u64]; omega
      obtain ⟨es, hes⟩ : ∃ ds : ByteArray, (⟨(padN (k + 1) n).toArray⟩ : ByteArray) = ds := ⟨_, rfl⟩
      obtain ⟨ds, hds⟩ : ∃ ds : ByteArray, (⟨(padN k n).toArray⟩ : ByteArray) = ds := ⟨_, rfl⟩
      rw [hes, hds] at hadd
      rw [hds]
      have HE := Lib.hid hes
      have HQ := Lib.hid hq
      clear hes hds hq
      generalize u / 10 = q at *
      generalize u % 10 = r at *
      go_wp2_with fail
      go_roundw
      case rel => exact ⟨k + 1, by omega, by go_num, by rw [HQ.out], by rw [HE.out], trivial⟩
      case measure => simp [intOf]; omega
    · obtain rfl : k = m := by omega
      go_wp2_with fail
      go_ret
      exact ⟨rfl, rfl⟩
end Go.Proofs.YtgfijlamhjjecaaGreatDoor


namespace Go.Proofs.YtgfijlamhjjecaaGreatDoor
open Go.RowKit
set_option maxRecDepth 100000 in
set_option maxHeartbeats 2000000 in
theorem r7Text_no {c s : Nat} (h : mayT c s = false) (w : World) : Calls Tryz.prog 47 #[.agg #[.int .u8 (c : Int), .int .u64 (s : Int)]] w fun e w' => e = .returned (.tuple #[.string ⟨#[]⟩, .int .i64 1]) ∧ Below w.heap.size w w' := by
  go_enter Tryz.func47, Tryz.ntmps47
  go_wp2_with (go_at_call 89; refine (r7May_any c s _).mono ?_; rw [h]; rintro e w2 ⟨rfl, hb⟩; have HB := Lib.hid hb; clear hb)
  go_ret2
  exact ⟨rfl, ((Below.refl _ w).alloc (Nat.le_refl _) _).trans (HB.out.mono (by simp))⟩
theorem nstr_add {a b : Str} (ha : a.length ≤ 100) (hb : b.length ≤ 100) (W : World) : (Op.stringOp .add ⟨a.toArray⟩ ⟨b.toArray⟩).run Tryz.prog W = .ok (.string ⟨(a ++ b).toArray⟩) W := by
  rw [run_string_add_sum _ _ _ (by simp [ByteArray.size]; omega)]
  show Result.ok (Value.string ((⟨a.toArray⟩ : ByteArray) ++ ⟨b.toArray⟩)) W = _
  rw [ByteArray.mk_append_mk]
end Go.Proofs.YtgfijlamhjjecaaGreatDoor


namespace Go.Proofs.YtgfijlamhjjecaaGreatDoor
open Go.RowKit
theorem nought_add {k : Nat} {l : Str} (hl : k + l.length ≤ 100) (W : World) : (Op.stringOp .add ⟨#[48]⟩ ⟨(List.replicate k 48 ++ l).toArray⟩).run Tryz.prog W = .ok (.string ⟨(List.replicate (k + 1) 48 ++ l).toArray⟩) W :=
  nstr_add (a := [48]) (b := List.replicate k 48 ++ l) (by simp) (by simp; omega) W
def szOf : Value → Nat
  | .string b => b.size
  | _ => 0
set_option maxRecDepth 100000 in
set_option maxHeartbeats 2000000 in
theorem npadded_any (u m : Nat) (hm : m ≤ 20) (hm1 : 1 ≤ m) (hu : u < 10 ^ m) (h64 : u < 18446744073709551616) (w : World) (hv : VarsOk w) :
    Calls Tryz.prog 85 #[.int .u64 (u : Int), .int .i64 (m : Int)] w fun e w' => e = .returned (.string ⟨(padN m u).toArray⟩) ∧ Below w.heap.size w w' := by
  obtain ⟨L, hL⟩ : ∃ L, (decT u).length = L := ⟨_, rfl⟩
  have hpad : padN m u = List.replicate (m - L) 48 ++ decT u := by
    cases m with
    | zero => omega
    | succ k => rw [← hL]; exact padN_dec k u hu
  have hLm : L ≤ m := by
    have h := padN_len m u
    rw [hpad] at h
    simp only [List.length_append, List.length_replicate, hL] at h
    omega
  have HP := Lib.hid hpad
  have HL := Lib.hid hL
  clear hpad hL hu
  go_enter Tryz.func85, Tryz.ntmps85
  go_wp2_with (go_at_call 128; refine (fmt_any u h64 _ hv).mono ?_; rintro e w1 ⟨rfl, hb⟩; have HB := Lib.hid hb; clear hb)
  go_loop [5] (fun s => ∃ (k : Nat), k + L ≤ m ∧ s = .string ⟨(List.replicate k 48 ++ decT u).toArray⟩) (fun s => m - szOf s)
  case atStart => exact ⟨0, by omega, rfl⟩
  case round =>
    obtain ⟨k, hk, rfl⟩ := hrel
    have hadd := nought_add (k := k) (l := decT u) (by rw [HL.out]; omega)
    obtain ⟨ds, hds⟩ : ∃ ds : ByteArray, (⟨(List.replicate k 48 ++ decT u).toArray⟩ : ByteArray) = ds := ⟨_, rfl⟩
    obtain ⟨es, hes⟩ : ∃ ds : ByteArray, (⟨(List.replicate (k + 1) 48 ++ decT u).toArray⟩ : ByteArray) = ds := ⟨_, rfl⟩
    have hsz : ds.size = k + L := by rw [← hds]; simp [ByteArray.size, HL.out]
    have hse : es.size = k + 1 + L := by rw [← hes]; simp [ByteArray.size, HL.out]
    rw [hds, hes] at hadd
    rw [hds]
    have HDS := Lib.hid hds
    have HES := Lib.hid hes
    have HSZ := Lib.hid hsz
    have HSE := Lib.hid hse
    by_cases hlt : k + L < m
    · have i1 : (ds.size : Int) < (m : Int) := by omega
      clear hds hes hsz hse
      go_wp2_with fail
      go_round
      case rel => exact ⟨k + 1, by omega, by rw [HES.out]⟩
      case measure => simp only [szOf]; rw [HSZ.out, HSE.out]; omega
    · have i1 : ¬ (ds.size : Int) < (m : Int) := by omega
      clear hds hes hsz hse
      go_wp2_with fail
      go_ret
      refine ⟨?_, HB.out⟩
      show Ending.returned (.string ds) = _
      rw [HP.out, show m - L = k by omega, HDS.out]
end Go.Proofs.YtgfijlamhjjecaaGreatDoor


namespace Go.Proofs.YtgfijlamhjjecaaGreatDoor
open Go.RowKit
inductive PT where
  | nil : PT
  | val : Nat → PT → PT
  | one : Nat → PT → PT
  | two : Nat → PT → Nat → PT → PT
def PT.len : PT → Nat
  | .nil => 0
  | .val _ r => r.len + 1
  | .one _ r => r.len + 1
  | .two _ r _ _ => r.len + 1
section
variable {P : Program} {ops : Array Oper} {Q : Exit → Act → World → Prop} {md : Region.Mode} {S : World → Prop}
def planTB (md : Region.Mode) (ops : Array Oper) : PT → Array Bool → Bool
  | .nil, listed => (Region.ready md ops listed).isEmpty
  | .val i r, listed => (Region.ready md ops listed).contains i && Region.free md ops listed i && planTB md ops r (listed.setIfInBounds i true)
  | .one i r, listed => decide (Region.ready md ops listed = [i]) && planTB md ops r (listed.setIfInBounds i true)
  | .two i r j q, listed => decide (Region.ready md ops listed = [i, j]) && decide (r.len = q.len) && planTB md ops r (listed.setIfInBounds i true) && planTB md ops q (listed.setIfInBounds j true)
def planTOK (md : Region.Mode) (ops : Array Oper) (plan : PT) : Bool :=
  Region.noSelect ops && decide (plan.len = ops.size) && planTB md ops plan (Array.replicate ops.size false)
def wpPlanT (P : Program) (ops : Array Oper) (S : World → Prop) (Q : Exit → Act → World → Prop) : PT → Act → World → Prop
  | .nil, a, w => Q .normal a w
  | .val i r, a, w => ∃ o v, ops[i]? = some o ∧ YieldsIf P ops S o v a ∧ wpPlanT P ops S Q r (a.put o.dst v) w
  | .one i r, a, w => wpOp P ops Q i (fun a' w' => S w' ∧ wpPlanT P ops S Q r a' w') a w
  | .two i r j q, a, w => wpOp P ops Q i (fun a' w' => S w' ∧ wpPlanT P ops S Q r a' w') a w ∧ wpOp P ops Q j (fun a' w' => S w' ∧ wpPlanT P ops S Q q a' w') a w
theorem wpPlanT_held (hs : Region.noSelect ops = true) (hQ : ∀ c a d v w, Q (.panic c) (a.put d v) w → Q (.panic c) a w) :
    ∀ (plan : PT) (listed : Array Bool) (a : Act) (w : World), planTB md ops plan listed = true → S w → wpPlanT P ops S Q plan a w → wpAnyH P md ops Q S plan.len listed a w
  | .nil, _, _, _, hB, _, h => ⟨by simpa [planTB] using hB, h⟩
  | .val i r, listed, a, w, hB, hS, h => by
    simp only [planTB, Bool.and_eq_true] at hB
    obtain ⟨o, v, hi, hy, h⟩ := h
    exact wpAnyH_take hi hs hB.1.2 hB.1.1 (fun c a w => hQ c a _ _ w) hy hS (wpPlanT_held hs hQ r _ _ _ hB.2 hS h)
  | .one i r, listed, a, w, hB, hS, h => by
    simp only [planTB, Bool.and_eq_true, decide_eq_true_eq] at hB
    refine wpAnyH_all hB.1 (by simp) (fun j hj => ?_)
    have e : j = i := by simpa using hj
    subst e
    exact wpOp_mono (fun a' w' h' => ⟨h'.1, wpPlanT_held hs hQ r _ _ _ hB.2 h'.1 h'.2⟩) h
  | .two i r j q, listed, a, w, hB, hS, h => by
    simp only [planTB, Bool.and_eq_true, decide_eq_true_eq] at hB
    refine wpAnyH_all hB.1.1.1 (by simp) (fun k hk => ?_)
    have e : k = i ∨ k = j := by simpa using hk
    rcases e with e | e
    · subst e
      exact wpOp_mono (fun a' w' h' => ⟨h'.1, wpPlanT_held hs hQ r _ _ _ hB.1.2 h'.1 h'.2⟩) h.1
    · subst e
      exact wpOp_mono (fun a' w' h' => ⟨h'.1, by
        have h3 := wpPlanT_held hs hQ q _ _ _ hB.2 h'.1 h'.2
        rw [← hB.1.1.2] at h3
        exact h3⟩) h.2
theorem wp_region_planT {id : Nat} {a : Act} {w : World} {l : List Oper} (plan : PT) (S : World → Prop) (hm : P.follows .mixedOrders = true) (hB : planTOK .any l.toArray plan = true) (hS : S w.drew)
    (h : wpPlanT P l.toArray S (NoPanic Q) plan a w.drew) : (Code.region id l.toArray true).wp P Q a w := by
  simp only [planTOK, Bool.and_eq_true, decide_eq_true_eq] at hB
  refine wp_region_noPanic (wp_region_held (S := S) hm ?_)
  have := wpPlanT_held (md := .any) hB.1.1 (Q := NoPanic Q) (fun c a d v w h => h) plan _ a w.drew hB.2 hS h
  rw [hB.1.2] at this
  exact this
theorem planT_val {l : List Oper} {i : Nat} {o : Oper} {v : Value} {r : PT} {a : Act} {w : World} (hi : nthO l i = some o) (hw : Region.wanted o (yielded l.toArray a.tmps) = true)
    (hrun : ∀ w', S w' → (execOp a.eval o).run P w' = .ok (.value v) w') (h : wpPlanT P l.toArray S Q r (a.put o.dst v) w) : wpPlanT P l.toArray S Q (.val i r) a w :=
  ⟨o, v, by rw [List.getElem?_toArray, ← nthO_eq]; exact hi, .inl ⟨hw, hrun⟩, h⟩
theorem planT_nil {a : Act} {w : World} (h : Q .normal a w) : wpPlanT P ops S (NoPanic Q) .nil a w := h
theorem planT_op {l : List Oper} {i : Nat} {o : Oper} {r : PT} {a : Act} {w : World} (hi' : nthO l i = some o)
    (h : ∀ K : Act → World → Prop, (∀ a' w', S w' → wpPlanT P l.toArray S Q r a' w' → K a' w') → wpList P l.toArray (Exit.then K Q) [o] a w) : wpOp P l.toArray Q i (fun a' w' => S w' ∧ wpPlanT P l.toArray S Q r a' w') a w := by
  have hi : l.toArray[i]? = some o := by rw [List.getElem?_toArray, ← nthO_eq]; exact hi'
  have h0 := h _ (fun a' w' h1 h2 => (⟨h1, h2⟩ : S w' ∧ wpPlanT P l.toArray S Q r a' w'))
  unfold wpOp
  rw [hi]
  simp only [wpList] at h0 ⊢
  split
  · rename_i hw
    rw [if_pos hw] at h0
    rcases h0 with h0 | ⟨h0, a1, w1, h1⟩
    · exact .inl (Oper.wp_post (fun _ _ _ h => h) (fun ⟨a, w, h⟩ => ⟨a, w, h⟩) h0)
    · exact .inr ⟨h0, a1, w1, h1⟩
  · rename_i hw
    rw [if_neg hw] at h0
    exact h0
theorem planT_do {l : List Oper} {i : Nat} {o : Oper} {r : PT} {a : Act} {w : World} (hi' : nthO l i = some o)
    (h : ∀ K : Act → World → Prop, (∀ a' w', S w' → wpPlanT P l.toArray S Q r a' w' → K a' w') → wpList P l.toArray (Exit.then K Q) [o] a w) : wpPlanT P l.toArray S Q (.one i r) a w := planT_op hi' h
theorem planT_two {l : List Oper} {i j : Nat} {r q : PT} {a : Act} {w : World} (h1 : wpOp P l.toArray Q i (fun a' w' => S w' ∧ wpPlanT P l.toArray S Q r a' w') a w) (h2 : wpOp P l.toArray Q j (fun a' w' => S w' ∧ wpPlanT P l.toArray S Q q a' w') a w) : wpPlanT P l.toArray S Q (.two i r j q) a w := ⟨h1, h2⟩
end
end Go.Proofs.YtgfijlamhjjecaaGreatDoor


namespace Go.Proofs.YtgfijlamhjjecaaGreatDoor
open Go.RowKit
theorem digC_utf8 {d : Nat} (h : d < 10) : Utf8.encode (48 + (d : Int)) = ⟨#[digC d]⟩ := by
  match d, h with
  | 0, _ => rfl
  | 1, _ => rfl
  | 2, _ => rfl
  | 3, _ => rfl
  | 4, _ => rfl
  | 5, _ => rfl
  | 6, _ => rfl
  | 7, _ => rfl
  | 8, _ => rfl
  | 9, _ => rfl
set_option maxHeartbeats 1000000 in
theorem nText1_any (b : Nat) (s : ByteArray) (hs : s.size ≤ 18) (hd : s.data.toList.all digB = true) (w : World) (hc : w.cell? ⟨b, 0, none⟩ = some (.string s)) :
    Calls Tryz.prog 86 #[.pointer (some ⟨b, 0, none⟩)] w fun e w' => e = .returned (.int .u64 ((valN s.data.toList % 7 : Nat) : Int)) ∧ Below w.heap.size w w' := by
  have hv := value_any s hs
  rw [hd, if_pos rfl] at hv
  obtain ⟨V, hV⟩ : ∃ V, valN s.data.toList = V := ⟨_, rfl⟩
  rw [hV] at hv ⊢
  have q2 : (V : Int).tmod 7 = ((V % 7 : Nat) : Int) := by rw [Int.tmod_eq_emod_of_nonneg (by omega)]; omega
  have wr2 : IntKind.u64.wrap ((V % 7 : Nat) : Int) = ((V % 7 : Nat) : Int) := by rw [IntKind.wrap_u64]; omega
  have HV := Lib.hid hv
  clear hv hV hd
  go_enter Tryz.func86, Tryz.ntmps86
  go_wp2_with (go_at_call 87; refine (HV.out _).mono ?_; rintro e w1 ⟨rfl, hb⟩; have HB := Lib.hid hb; clear hb)
  go_ret
  exact ⟨rfl, HB.out⟩
set_option maxRecDepth 100000 in
set_option maxHeartbeats 2000000 in
theorem nText_no {c s : Nat} (hc : c < 256) (_hs : s < 18446744073709551616) (h : mayT c s = false) (w : World) : Calls Tryz.prog 44 #[.agg #[.int .u8 (c : Int), .int .u64 (s : Int)]] w fun e w' => e = .returned (.tuple #[.string ⟨#[]⟩, .int .i64 1]) ∧ Below w.heap.size w w' := by
  have w1 : IntKind.u64.wrap (c : Int) = (c : Int) := by rw [IntKind.wrap_u64]; omega
  have HM := Lib.hid (fun w => nmay_any c s w)
  go_enter Tryz.func44, Tryz.ntmps44
  go_wp2_with (go_at_call 84; refine (HM.out _).mono ?_; rw [h]; rintro e w2 ⟨rfl, rfl⟩)
  go_ret2
  exact ⟨rfl, (Below.refl _ w).alloc (Nat.le_refl _) _⟩
set_option maxRecDepth 100000 in
set_option maxHeartbeats 4000000 in
theorem nText_ok {c s : Nat} (h : mayT c s = true) (w : World) (hv : VarsOk w) : Calls Tryz.prog 44 #[.agg #[.int .u8 (c : Int), .int .u64 (s : Int)]] w fun e w' => e = .returned (.tuple #[.string ⟨(body7 c s ++ [digC ((c * 10000000000 + s) % 7)]).toArray⟩, .int .i64 0]) ∧ Below w.heap.size w w' := by
  obtain ⟨hc, _, hs⟩ := mayT_iff.1 h
  have hb7 := body7_val h
  have hadd := nstr_add (a := padN 3 c) (b := padN 10 s) (by rw [padN_len]; omega) (by rw [padN_len]; omega)
  have hadd2 := nstr_add (a := body7 c s) (b := [digC ((c * 10000000000 + s) % 7)]) (by rw [body7_len]; omega) (by simp)
  rw [show padN 3 c ++ padN 10 s = body7 c s from rfl] at hadd
  obtain ⟨m, hm⟩ : ∃ m, (c * 10000000000 + s) % 7 = m := ⟨_, rfl⟩
  have hm7 : m < 10 := by omega
  rw [hm] at hadd2 ⊢
  obtain ⟨d1, hd1⟩ : ∃ ds : ByteArray, (⟨(padN 3 c).toArray⟩ : ByteArray) = ds := ⟨_, rfl⟩
  obtain ⟨d2, hd2⟩ : ∃ ds : ByteArray, (⟨(padN 10 s).toArray⟩ : ByteArray) = ds := ⟨_, rfl⟩
  obtain ⟨d3, hd3⟩ : ∃ ds : ByteArray, (⟨(body7 c s).toArray⟩ : ByteArray) = ds := ⟨_, rfl⟩
  have hd4 : Utf8.encode (48 + (m : Int)) = ⟨[digC m].toArray⟩ := digC_utf8 hm7
  obtain ⟨d4, hd4'⟩ : ∃ ds : ByteArray, (⟨[digC m].toArray⟩ : ByteArray) = ds := ⟨_, rfl⟩
  obtain ⟨d5, hd5⟩ : ∃ ds : ByteArray, (⟨(body7 c s ++ [digC m]).toArray⟩ : ByteArray) = ds := ⟨_, rfl⟩
  have P1 := Lib.hid (show ∀ w : World, VarsOk w → Calls Tryz.prog 85 #[.int .u64 (c : Int), .int .i64 3] w (fun e w' => e = .returned (.string d1) ∧ Below w.heap.size w w') from fun w hv => by rw [← hd1]; exact npadded_any c 3 (by omega) (by omega) (by omega) (by omega) w hv)
  have P2 := Lib.hid (show ∀ w : World, VarsOk w → Calls Tryz.prog 85 #[.int .u64 (s : Int), .int .i64 10] w (fun e w' => e = .returned (.string d2) ∧ Below w.heap.size w w') from fun w hv => by rw [← hd2]; exact npadded_any s 10 (by omega) (by omega) (by omega) (by omega) w hv)
  have P3 := Lib.hid (show ∀ (w : World) (b : Nat), w.cell? ⟨b, 0, none⟩ = some (.string d3) → Calls Tryz.prog 86 #[.pointer (some ⟨b, 0, none⟩)] w (fun e w' => e = .returned (.int .u64 (m : Int)) ∧ Below w.heap.size w w') from fun w b hcl => by
    have h1 := nText1_any b d3 (by rw [← hd3]; have := body7_len c s; simp [ByteArray.size]; omega) (by rw [← hd3]; simpa using List.all_eq_true.2 (body7_digs c s)) w hcl
    rw [show d3.data.toList = body7 c s by rw [← hd3], hb7, hm] at h1
    exact h1)
  rw [hd1, hd2, hd3] at hadd
  rw [hd4'] at hd4
  rw [hd3, hd4', hd5] at hadd2
  rw [hd5]
  have w1 : IntKind.u64.wrap (c : Int) = (c : Int) := by rw [IntKind.wrap_u64]; omega
  have w2 : IntKind.u64.wrap (48 + (m : Int)) = 48 + (m : Int) := by rw [IntKind.wrap_u64]; omega
  have w3 : IntKind.i32.wrap (48 + (m : Int)) = 48 + (m : Int) := by simp [IntKind.wrap, IntKind.bits, IntKind.signed]; omega
  have HM := Lib.hid (fun w => nmay_any c s w)
  have HV := Lib.hid hv
  clear hd1 hd2 hd3 hd4' hd5 hb7 hm hv
  go_enter Tryz.func44, Tryz.ntmps44
  go_upto_region 3 with (go_at_call 84; refine (HM.out _).mono ?_; rw [h]; rintro e wA ⟨rfl, rfl⟩)
  obtain ⟨B, hB⟩ : ∃ B, w.heap.size = B := ⟨_, rfl⟩
  obtain ⟨wd, hwd⟩ : ∃ wd, (w.alloc (.cells #[.int .u8 (c : Int), .int .u64 (s : Int)] 24)).drew = wd := ⟨_, rfl⟩
  have hz : B < wd.heap.size := by rw [← hwd, ← hB]; simp
  have HB1 : Hid (Below B w wd) := Lib.hid (by rw [← hwd, ← hB]; exact ((Below.refl _ w).alloc (Nat.le_refl _) _).drew)
  have cb0 : wd.cell? ⟨B, 0, none⟩ = some (.int .u8 (c : Int)) := by rw [← hwd, ← hB]; exact (by rw [cell_of_row _ w.heap.size 0 _ _ _ (heap_alloc_new _ _)]; rfl : (w.alloc (.cells #[.int .u8 (c : Int), .int .u64 (s : Int)] 24)).cell? ⟨w.heap.size, 0, none⟩ = some (.int .u8 (c : Int)))
  have cb1 : wd.cell? ⟨B, 1, none⟩ = some (.int .u64 (s : Int)) := by rw [← hwd, ← hB]; exact (by rw [cell_of_row _ w.heap.size 1 _ _ _ (heap_alloc_new _ _)]; rfl : (w.alloc (.cells #[.int .u8 (c : Int), .int .u64 (s : Int)] 24)).cell? ⟨w.heap.size, 1, none⟩ = some (.int .u64 (s : Int)))
  have HV1 := Lib.hid (HV.out.on HB1.out (by omega))
  have HBQ := Lib.hid hB
  refine wp_region_planT (.val 0 (.val 1 (.val 2 (.val 4 (.val 5 (.two 3 (.two 6 (.val 7 (.one 8 (.one 9 .nil))) 8 (.one 6 (.val 7 (.one 9 .nil)))) 8 (.one 3 (.one 6 (.val 7 (.one 9 .nil)))))))))) (fun w' => w'.cell? ⟨B, 0, none⟩ = some (.int .u8 (c : Int)) ∧ w'.cell? ⟨B, 1, none⟩ = some (.int .u64 (s : Int))) (by kernel_rfl) (by kernel_rfl) (by rw [hwd]; exact ⟨cb0, cb1⟩) ?_
  rw [hwd, hB]
  clear hwd hB
  iterate 5 (refine' planT_val rfl rfl (fun w' hS => ?_) ?_; rotate_left; (focus (first | rfl | (obtain ⟨hS1, hS2⟩ := hS; go_simp; rfl))); simp only [Act.put, List.setIfInBounds_toArray, List.set_cons_zero, List.set_cons_succ])
  have HCwd : Hid (wd.cell? ⟨B, 0, none⟩ = some (.int .u8 (c : Int)) ∧ wd.cell? ⟨B, 1, none⟩ = some (.int .u64 (s : Int))) := Lib.hid ⟨cb0, cb1⟩
  have hzwd : B < wd.heap.size ∧ True := ⟨hz, trivial⟩
  have HBwd := HB1
  clear hz cb0 cb1 HV1
  refine planT_two ?_ ?_
  · refine planT_op rfl (fun K hK => ?_)
    go_wp2_with (go_at_call 85; refine (P1.out _ (HV.out.on HBwd.out (by rw [HBQ.out]; exact Nat.le_refl _))).mono ?_; rintro e wB ⟨rfl, hb⟩; have HUwB := Lib.hid hb; clear hb)
    have hzwB : B < wB.heap.size ∧ wd.heap.size ≤ wB.heap.size := ⟨Nat.lt_of_lt_of_le hzwd.1 HUwB.out.size, HUwB.out.size⟩
    have HBwB : Hid (Below B w wB) := Lib.hid (HBwd.out.trans (HUwB.out.mono (by omega)))
    have HCwB : Hid (wB.cell? ⟨B, 0, none⟩ = some (.int .u8 (c : Int)) ∧ wB.cell? ⟨B, 1, none⟩ = some (.int .u64 (s : Int))) := Lib.hid ⟨(HUwB.out.cell (p := ⟨B, 0, none⟩) hzwd.1).trans HCwd.out.1, (HUwB.out.cell (p := ⟨B, 1, none⟩) hzwd.1).trans HCwd.out.2⟩
    refine hK _ _ HCwB.out ?_
    clear hK K
    refine planT_two ?_ ?_
    · refine planT_op rfl (fun K hK => ?_)
      go_wp2_with (go_at_call 85; refine (P2.out _ (HV.out.on HBwB.out (by rw [HBQ.out]; exact Nat.le_refl _))).mono ?_; rintro e wC ⟨rfl, hb⟩; have HUwC := Lib.hid hb; clear hb)
      have hzwC : B < wC.heap.size ∧ wB.heap.size ≤ wC.heap.size := ⟨Nat.lt_of_lt_of_le hzwB.1 HUwC.out.size, HUwC.out.size⟩
      have HBwC : Hid (Below B w wC) := Lib.hid (HBwB.out.trans (HUwC.out.mono (by omega)))
      have HCwC : Hid (wC.cell? ⟨B, 0, none⟩ = some (.int .u8 (c : Int)) ∧ wC.cell? ⟨B, 1, none⟩ = some (.int .u64 (s : Int))) := Lib.hid ⟨(HUwC.out.cell (p := ⟨B, 0, none⟩) hzwB.1).trans HCwB.out.1, (HUwC.out.cell (p := ⟨B, 1, none⟩) hzwB.1).trans HCwB.out.2⟩
      refine hK _ _ HCwC.out ?_
      clear hK K
      (refine' planT_val rfl rfl (fun w' hS => ?_) ?_; rotate_left; (focus (first | rfl | (obtain ⟨hS1, hS2⟩ := hS; go_simp; rfl))); simp only [Act.put, List.setIfInBounds_toArray, List.set_cons_zero, List.set_cons_succ])
      refine planT_do rfl (fun K hK => ?_)
      go_wp2_with fail
      obtain ⟨D, hD⟩ : ∃ D, wC.heap.size = D := ⟨_, rfl⟩
      obtain ⟨wF, hw⟩ : ∃ wn, wC.alloc (.cells #[.string ⟨#[]⟩] 9) = wn := ⟨_, rfl⟩
      have HUwF : Hid (Below wC.heap.size wC wF) := Lib.hid (by rw [← hw]; exact (Below.refl _ _).alloc (Nat.le_refl _) _)
      have HAD : Hid (wF.heap[D]? = some (.cells #[.string ⟨#[]⟩] 9 (0, 0))) := Lib.hid (by rw [← hw, ← hD]; exact heap_alloc_new _ _)
      have hzwF : B < wF.heap.size ∧ wC.heap.size ≤ wF.heap.size ∧ B < D ∧ D < wF.heap.size := by rw [← hw]; have := hzwC.1; simp; omega
      have HBwF : Hid (Below B w wF) := Lib.hid (HBwC.out.trans (HUwF.out.mono (by omega)))
      have HCwF : Hid (wF.cell? ⟨B, 0, none⟩ = some (.int .u8 (c : Int)) ∧ wF.cell? ⟨B, 1, none⟩ = some (.int .u64 (s : Int))) := Lib.hid ⟨(HUwF.out.cell (p := ⟨B, 0, none⟩) hzwC.1).trans HCwC.out.1, (HUwF.out.cell (p := ⟨B, 1, none⟩) hzwC.1).trans HCwC.out.2⟩
      rw [hw, hD]
      clear hw hD
      refine hK _ _ HCwF.out ?_
      clear hK K
      have d0 : wF.cell? ⟨D, 0, none⟩ = some (.string ⟨#[]⟩) := cell_of_row wF D 0 _ _ _ HAD.out
      have f0 := frozen_of_row wF D 0 _ _ HAD.out
      refine planT_do rfl (fun K hK => ?_)
      go_wp2_with fail
      refine hK _ _ ⟨(cell_ag (heap_setCell_other _ _ _ _ (by simp; omega))).trans HCwF.out.1, (cell_ag (heap_setCell_other _ _ _ _ (by simp; omega))).trans HCwF.out.2⟩ ?_
      clear hK K
      refine planT_nil ?_
      obtain ⟨W, hW⟩ : ∃ W, wF.setCell ⟨D, 0, none⟩ (.string d3) = W := ⟨_, rfl⟩
      have hc4 : W.cell? ⟨D, 0, none⟩ = some (.string d3) := cell_of_row W D 0 _ _ _ (by rw [← hW]; exact heap_setCell_same _ D 0 _ _ _ HAD.out)
      have HBW : Hid (Below B w W) := Lib.hid (by rw [← hW]; exact HBwF.out.setCell (by show B ≤ D; omega) _)
      have hzW : D < W.heap.size := by rw [← hW]; simp; omega
      rw [hW]
      clear hW d0 f0
      go_upto_region 5 with fail
      refine wp_region_plan [(0, false), (1, false), (2, true), (3, false), (4, false), (5, false), (6, false), (7, false), (8, false)] (fun w' => w'.cell? ⟨D, 0, none⟩ = some (.string d3)) (by kernel_rfl) (by kernel_rfl) hc4 ?_
      iterate 2 (refine' plan_val rfl rfl (fun w' hS => ?_) ?_; rotate_left; (focus (go_simp; rfl)); simp only [Act.put, List.setIfInBounds_toArray, List.set_cons_zero, List.set_cons_succ])
      refine plan_do rfl (fun K hK => ?_)
      go_wp2_with (go_at_call 86; refine (P3.out W.drew D hc4).mono ?_; rintro e wE ⟨rfl, hb⟩; have HBE := Lib.hid hb; clear hb)
      refine hK _ _ ((HBE.out.cell (p := ⟨D, 0, none⟩) hzW).trans hc4) ?_
      clear hK K
      iterate 6 (refine' plan_val rfl rfl (fun w' hS => ?_) ?_; rotate_left; (focus (go_simp; rfl)); simp only [Act.put, List.setIfInBounds_toArray, List.set_cons_zero, List.set_cons_succ])
      refine plan_nil ?_
      go_wp2_with fail
      go_ret2
      refine ⟨rfl, ?_⟩
      rw [HBQ.out]
      exact HBW.out.trans ((Below.refl _ _).drew.trans (HBE.out.mono (by simp; omega)))
    · refine planT_op rfl (fun K hK => ?_)
      go_wp2_with fail
      obtain ⟨D, hD⟩ : ∃ D, wB.heap.size = D := ⟨_, rfl⟩
      obtain ⟨wC, hw⟩ : ∃ wn, wB.alloc (.cells #[.string ⟨#[]⟩] 9) = wn := ⟨_, rfl⟩
      have HUwC : Hid (Below wB.heap.size wB wC) := Lib.hid (by rw [← hw]; exact (Below.refl _ _).alloc (Nat.le_refl _) _)
      have HAD : Hid (wC.heap[D]? = some (.cells #[.string ⟨#[]⟩] 9 (0, 0))) := Lib.hid (by rw [← hw, ← hD]; exact heap_alloc_new _ _)
      have hzwC : B < wC.heap.size ∧ wB.heap.size ≤ wC.heap.size ∧ B < D ∧ D < wC.heap.size := by rw [← hw]; have := hzwB.1; simp; omega
      have HBwC : Hid (Below B w wC) := Lib.hid (HBwB.out.trans (HUwC.out.mono (by omega)))
      have HCwC : Hid (wC.cell? ⟨B, 0, none⟩ = some (.int .u8 (c : Int)) ∧ wC.cell? ⟨B, 1, none⟩ = some (.int .u64 (s : Int))) := Lib.hid ⟨(HUwC.out.cell (p := ⟨B, 0, none⟩) hzwB.1).trans HCwB.out.1, (HUwC.out.cell (p := ⟨B, 1, none⟩) hzwB.1).trans HCwB.out.2⟩
      rw [hw, hD]
      clear hw hD
      refine hK _ _ HCwC.out ?_
      clear hK K
      refine planT_do rfl (fun K hK => ?_)
      go_wp2_with (go_at_call 85; refine (P2.out _ (HV.out.on HBwC.out (by rw [HBQ.out]; exact Nat.le_refl _))).mono ?_; rintro e wF ⟨rfl, hb⟩; have HUwF := Lib.hid hb; clear hb)
      have hzwF : B < wF.heap.size ∧ wC.heap.size ≤ wF.heap.size := ⟨Nat.lt_of_lt_of_le hzwC.1 HUwF.out.size, HUwF.out.size⟩
      have HBwF : Hid (Below B w wF) := Lib.hid (HBwC.out.trans (HUwF.out.mono (by omega)))
      have HCwF : Hid (wF.cell? ⟨B, 0, none⟩ = some (.int .u8 (c : Int)) ∧ wF.cell? ⟨B, 1, none⟩ = some (.int .u64 (s : Int))) := Lib.hid ⟨(HUwF.out.cell (p := ⟨B, 0, none⟩) hzwC.1).trans HCwC.out.1, (HUwF.out.cell (p := ⟨B, 1, none⟩) hzwC.1).trans HCwC.out.2⟩
      refine hK _ _ HCwF.out ?_
      clear hK K
      have HAD : Hid (wF.heap[D]? = some (.cells #[.string ⟨#[]⟩] 9 (0, 0))) := Lib.hid ((HUwF.out.block D (by omega)).trans HAD.out)
      (refine' planT_val rfl rfl (fun w' hS => ?_) ?_; rotate_left; (focus (first | rfl | (obtain ⟨hS1, hS2⟩ := hS; go_simp; rfl))); simp only [Act.put, List.setIfInBounds_toArray, List.set_cons_zero, List.set_cons_succ])
      have d0 : wF.cell? ⟨D, 0, none⟩ = some (.string ⟨#[]⟩) := cell_of_row wF D 0 _ _ _ HAD.out
      have f0 := frozen_of_row wF D 0 _ _ HAD.out
      refine planT_do rfl (fun K hK => ?_)
      go_wp2_with fail
      refine hK _ _ ⟨(cell_ag (heap_setCell_other _ _ _ _ (by simp; omega))).trans HCwF.out.1, (cell_ag (heap_setCell_other _ _ _ _ (by simp; omega))).trans HCwF.out.2⟩ ?_
      clear hK K
      refine planT_nil ?_
      obtain ⟨W, hW⟩ : ∃ W, wF.setCell ⟨D, 0, none⟩ (.string d3) = W := ⟨_, rfl⟩
      have hc4 : W.cell? ⟨D, 0, none⟩ = some (.string d3) := cell_of_row W D 0 _ _ _ (by rw [← hW]; exact heap_setCell_same _ D 0 _ _ _ HAD.out)
      have HBW : Hid (Below B w W) := Lib.hid (by rw [← hW]; exact HBwF.out.setCell (by show B ≤ D; omega) _)
      have hzW : D < W.heap.size := by rw [← hW]; simp; omega
      rw [hW]
      clear hW d0 f0
      go_upto_region 5 with fail
      refine wp_region_plan [(0, false), (1, false), (2, true), (3, false), (4, false), (5, false), (6, false), (7, false), (8, false)] (fun w' => w'.cell? ⟨D, 0, none⟩ = some (.string d3)) (by kernel_rfl) (by kernel_rfl) hc4 ?_
      iterate 2 (refine' plan_val rfl rfl (fun w' hS => ?_) ?_; rotate_left; (focus (go_simp; rfl)); simp only [Act.put, List.setIfInBounds_toArray, List.set_cons_zero, List.set_cons_succ])
      refine plan_do rfl (fun K hK => ?_)
      go_wp2_with (go_at_call 86; refine (P3.out W.drew D hc4).mono ?_; rintro e wE ⟨rfl, hb⟩; have HBE := Lib.hid hb; clear hb)
      refine hK _ _ ((HBE.out.cell (p := ⟨D, 0, none⟩) hzW).trans hc4) ?_
      clear hK K
      iterate 6 (refine' plan_val rfl rfl (fun w' hS => ?_) ?_; rotate_left; (focus (go_simp; rfl)); simp only [Act.put, List.setIfInBounds_toArray, List.set_cons_zero, List.set_cons_succ])
      refine plan_nil ?_
      go_wp2_with fail
      go_ret2
      refine ⟨rfl, ?_⟩
      rw [HBQ.out]
      exact HBW.out.trans ((Below.refl _ _).drew.trans (HBE.out.mono (by simp; omega)))
  · refine planT_op rfl (fun K hK => ?_)
    go_wp2_with fail
    obtain ⟨D, hD⟩ : ∃ D, wd.heap.size = D := ⟨_, rfl⟩
    obtain ⟨wB, hw⟩ : ∃ wn, wd.alloc (.cells #[.string ⟨#[]⟩] 9) = wn := ⟨_, rfl⟩
    have HUwB : Hid (Below wd.heap.size wd wB) := Lib.hid (by rw [← hw]; exact (Below.refl _ _).alloc (Nat.le_refl _) _)
    have HAD : Hid (wB.heap[D]? = some (.cells #[.string ⟨#[]⟩] 9 (0, 0))) := Lib.hid (by rw [← hw, ← hD]; exact heap_alloc_new _ _)
    have hzwB : B < wB.heap.size ∧ wd.heap.size ≤ wB.heap.size ∧ B < D ∧ D < wB.heap.size := by rw [← hw]; have := hzwd.1; simp; omega
    have HBwB : Hid (Below B w wB) := Lib.hid (HBwd.out.trans (HUwB.out.mono (by omega)))
    have HCwB : Hid (wB.cell? ⟨B, 0, none⟩ = some (.int .u8 (c : Int)) ∧ wB.cell? ⟨B, 1, none⟩ = some (.int .u64 (s : Int))) := Lib.hid ⟨(HUwB.out.cell (p := ⟨B, 0, none⟩) hzwd.1).trans HCwd.out.1, (HUwB.out.cell (p := ⟨B, 1, none⟩) hzwd.1).trans HCwd.out.2⟩
    rw [hw, hD]
    clear hw hD
    refine hK _ _ HCwB.out ?_
    clear hK K
    refine planT_do rfl (fun K hK => ?_)
    go_wp2_with (go_at_call 85; refine (P1.out _ (HV.out.on HBwB.out (by rw [HBQ.out]; exact Nat.le_refl _))).mono ?_; rintro e wC ⟨rfl, hb⟩; have HUwC := Lib.hid hb; clear hb)
    have hzwC : B < wC.heap.size ∧ wB.heap.size ≤ wC.heap.size := ⟨Nat.lt_of_lt_of_le hzwB.1 HUwC.out.size, HUwC.out.size⟩
    have HBwC : Hid (Below B w wC) := Lib.hid (HBwB.out.trans (HUwC.out.mono (by omega)))
    have HCwC : Hid (wC.cell? ⟨B, 0, none⟩ = some (.int .u8 (c : Int)) ∧ wC.cell? ⟨B, 1, none⟩ = some (.int .u64 (s : Int))) := Lib.hid ⟨(HUwC.out.cell (p := ⟨B, 0, none⟩) hzwB.1).trans HCwB.out.1, (HUwC.out.cell (p := ⟨B, 1, none⟩) hzwB.1).trans HCwB.out.2⟩
    refine hK _ _ HCwC.out ?_
    clear hK K
    have HAD : Hid (wC.heap[D]? = some (.cells #[.string ⟨#[]⟩] 9 (0, 0))) := Lib.hid ((HUwC.out.block D (by omega)).trans HAD.out)
    refine planT_do rfl (fun K hK => ?_)
    go_wp2_with (go_at_call 85; refine (P2.out _ (HV.out.on HBwC.out (by rw [HBQ.out]; exact Nat.le_refl _))).mono ?_; rintro e wF ⟨rfl, hb⟩; have HUwF := Lib.hid hb; clear hb)
    have hzwF : B < wF.heap.size ∧ wC.heap.size ≤ wF.heap.size := ⟨Nat.lt_of_lt_of_le hzwC.1 HUwF.out.size, HUwF.out.size⟩
    have HBwF : Hid (Below B w wF) := Lib.hid (HBwC.out.trans (HUwF.out.mono (by omega)))
    have HCwF : Hid (wF.cell? ⟨B, 0, none⟩ = some (.int .u8 (c : Int)) ∧ wF.cell? ⟨B, 1, none⟩ = some (.int .u64 (s : Int))) := Lib.hid ⟨(HUwF.out.cell (p := ⟨B, 0, none⟩) hzwC.1).trans HCwC.out.1, (HUwF.out.cell (p := ⟨B, 1, none⟩) hzwC.1).trans HCwC.out.2⟩
    refine hK _ _ HCwF.out ?_
    clear hK K
    have HAD : Hid (wF.heap[D]? = some (.cells #[.string ⟨#[]⟩] 9 (0, 0))) := Lib.hid ((HUwF.out.block D (by omega)).trans HAD.out)
    (refine' planT_val rfl rfl (fun w' hS => ?_) ?_; rotate_left; (focus (first | rfl | (obtain ⟨hS1, hS2⟩ := hS; go_simp; rfl))); simp only [Act.put, List.setIfInBounds_toArray, List.set_cons_zero, List.set_cons_succ])
    have d0 : wF.cell? ⟨D, 0, none⟩ = some (.string ⟨#[]⟩) := cell_of_row wF D 0 _ _ _ HAD.out
    have f0 := frozen_of_row wF D 0 _ _ HAD.out
    refine planT_do rfl (fun K hK => ?_)
    go_wp2_with fail
    refine hK _ _ ⟨(cell_ag (heap_setCell_other _ _ _ _ (by simp; omega))).trans HCwF.out.1, (cell_ag (heap_setCell_other _ _ _ _ (by simp; omega))).trans HCwF.out.2⟩ ?_
    clear hK K
    refine planT_nil ?_
    obtain ⟨W, hW⟩ : ∃ W, wF.setCell ⟨D, 0, none⟩ (.string d3) = W := ⟨_, rfl⟩
    have hc4 : W.cell? ⟨D, 0, none⟩ = some (.string d3) := cell_of_row W D 0 _ _ _ (by rw [← hW]; exact heap_setCell_same _ D 0 _ _ _ HAD.out)
    have HBW : Hid (Below B w W) := Lib.hid (by rw [← hW]; exact HBwF.out.setCell (by show B ≤ D; omega) _)
    have hzW : D < W.heap.size := by rw [← hW]; simp; omega
    rw [hW]
    clear hW d0 f0
    go_upto_region 5 with fail
    refine wp_region_plan [(0, false), (1, false), (2, true), (3, false), (4, false), (5, false), (6, false), (7, false), (8, false)] (fun w' => w'.cell? ⟨D, 0, none⟩ = some (.string d3)) (by kernel_rfl) (by kernel_rfl) hc4 ?_
    iterate 2 (refine' plan_val rfl rfl (fun w' hS => ?_) ?_; rotate_left; (focus (go_simp; rfl)); simp only [Act.put, List.setIfInBounds_toArray, List.set_cons_zero, List.set_cons_succ])
    refine plan_do rfl (fun K hK => ?_)
    go_wp2_with (go_at_call 86; refine (P3.out W.drew D hc4).mono ?_; rintro e wE ⟨rfl, hb⟩; have HBE := Lib.hid hb; clear hb)
    refine hK _ _ ((HBE.out.cell (p := ⟨D, 0, none⟩) hzW).trans hc4) ?_
    clear hK K
    iterate 6 (refine' plan_val rfl rfl (fun w' hS => ?_) ?_; rotate_left; (focus (go_simp; rfl)); simp only [Act.put, List.setIfInBounds_toArray, List.set_cons_zero, List.set_cons_succ])
    refine plan_nil ?_
    go_wp2_with fail
    go_ret2
    refine ⟨rfl, ?_⟩
    rw [HBQ.out]
    exact HBW.out.trans ((Below.refl _ _).drew.trans (HBE.out.mono (by simp; omega)))
end Go.Proofs.YtgfijlamhjjecaaGreatDoor


namespace Go.Proofs.YtgfijlamhjjecaaGreatDoor
open Go.RowKit
def WrapM0Q (p : PD) (w : World) (e : Ending) (w' : World) : Prop := ∃ v, e = .returned (.tuple #[wv (wrapM p).1 v, .int .i64 (wrapM p).2]) ∧ SegsAt (fun k => w.heap.size ≤ k ∧ k < w'.heap.size) w' v (wrapM p).1.segs ∧ Below w.heap.size w w'
def WrapMQ (p : PD) (w : World) (e : Ending) (w' : World) : Prop := ∃ v, e = .returned (.tuple #[wv (wrapM p).1 v, .int .i64 (wrapM p).2]) ∧ SegsAt (fun k => w.heap.size ≤ k ∧ k < w'.heap.size) w' v (wrapM p).1.segs ∧ Below w.heap.size w w' ∧ (p.ack = false → ∃ xs, OO w.heap.size w' v xs (wrapM p).1.segs)
theorem WrapMQ.weak {p : PD} {w w' : World} {e : Ending} (h : WrapMQ p w e w') : WrapM0Q p w e w' := by
  obtain ⟨v, h1, h2, h3, _⟩ := h
  exact ⟨v, h1, h2, h3⟩
theorem own_low {w : World} {B B' : Nat} {t : TypeId} {s n : Nat} {v : Value} {xs : List Value} (h : w.ownsRow B t s v n xs) (hB : B' ≤ B) : w.ownsRow B' t s v n xs := by
  obtain ⟨h0, h | ⟨g, cap, cur, h1, h2, h3⟩⟩ := h
  · exact ⟨h0, .inl h⟩
  · exact ⟨h0, .inr ⟨g, cap, cur, h1, Nat.le_trans hB h2, h3⟩⟩
theorem wrapMQ_err {p : PD} {w w' : World} {k : Int} (h : wrapM p = (wd0, k)) (hb : Below w.heap.size w w') : WrapMQ p w (.returned (.tuple #[.agg #[.int .u8 0, .int .u8 0, .int .u64 0, .slice none 0 0], .int .i64 k])) w' := by
  unfold WrapMQ
  rw [h]
  exact ⟨.slice none 0 0, rfl, SegsAt.nil _ _, hb, fun _ => ⟨[], OO.start _ _⟩⟩
theorem wrapM_car {p : PD} (h : 8 ≤ p.fr ∨ 8 ≤ p.dst) : wrapM p = (wd0, 1) := by unfold wrapM; rw [if_pos h]
theorem wrapM_ackno {p : PD} (h : ¬ (8 ≤ p.fr ∨ 8 ≤ p.dst)) (ha : p.ack = true) (hm : p.m ≠ md0) : wrapM p = (wd0, 101) := by
  unfold wrapM; rw [if_neg h, if_pos ha, if_neg (fun e => hm (m0B_iff.1 e))]
theorem wrapM_ack {p : PD} (h : ¬ (8 ≤ p.fr ∨ 8 ≤ p.dst)) (ha : p.ack = true) (hm : p.m = md0) : wrapM p = (⟨p.fr, p.dst, p.num, [wordSeg tACK []]⟩, 0) := by
  unfold wrapM; rw [if_neg h, if_pos ha, if_pos (m0B_iff.2 hm)]
theorem wrapM_kind {p : PD} (h : ¬ (8 ≤ p.fr ∨ 8 ≤ p.dst)) (ha : p.ack = false) (hk : hasK p.m.kind = none) : wrapM p = (wd0, 100) := by
  unfold wrapM; rw [if_neg h, if_neg (by simp [ha]), hk]
theorem wrapM_text {p : PD} {hh : Bool × Bool × Bool} (h : ¬ (8 ≤ p.fr ∨ 8 ≤ p.dst)) (ha : p.ack = false) (hk : hasK p.m.kind = some hh) (ht : mayT p.m.tc p.m.ts = false) : wrapM p = (wd0, 1) := by
  have e : text7 p.m.tc p.m.ts = ([], 1) := by unfold text7; rw [if_neg (by simp [ht])]
  unfold wrapM; rw [if_neg h, if_neg (by simp [ha]), hk]; simp only [e]; rw [if_pos (by decide)]
theorem wrapM_main {p : PD} {hh : Bool × Bool × Bool} (h : ¬ (8 ≤ p.fr ∨ 8 ≤ p.dst)) (ha : p.ack = false) (hk : hasK p.m.kind = some hh) (ht : mayT p.m.tc p.m.ts = true) :
    wrapM p = if mayM hh p.m then (⟨p.fr, p.dst, p.num, msgSegs hh p.m (text7 p.m.tc p.m.ts).1⟩, 0) else (wd0, 101) := by
  have e : (text7 p.m.tc p.m.ts).2 = 0 := by unfold text7; rw [if_pos ht]
  unfold wrapM; rw [if_neg h, if_neg (by simp [ha]), hk]; simp only [e]; rw [if_neg (by decide)]
set_option maxRecDepth 100000 in
set_option maxHeartbeats 4000000 in
theorem mwrap_car (p : PD) (h : 8 ≤ p.fr ∨ 8 ≤ p.dst) (w : World) : Calls Tryz.prog 13 #[.agg (pktA p).toArray] w fun e w' => WrapMQ p w e w' := by
  have HQ := Lib.hid (wrapM_car h)
  have hb : (decide (p.fr < 8) && decide (p.dst < 8)) = false := by simp; omega
  unfold pktA msgA
  simp only [List.cons_append, List.nil_append]
  clear h
  go_enter Tryz.func13, Tryz.ntmps13
  go_wp2_with (go_at_call 41; refine (carriers_any _ _ _).mono ?_; rw [hb]; rintro e w' ⟨rfl, rfl⟩)
  refine bodyPost_ret (res_wrap rfl _ rfl rfl ((Below.heap_alloc _ _ _ (by simp)).trans (heap_alloc_at (by simp))) rfl) rfl ?_
  exact wrapMQ_err HQ.out ((((Below.refl _ _).alloc (Nat.le_refl _) _).alloc (by simp) _).alloc (by simp only [World.size_alloc]; omega) _)
set_option maxRecDepth 100000 in
set_option maxHeartbeats 4000000 in
theorem mwrap_ackno (p : PD) (h : ¬ (8 ≤ p.fr ∨ 8 ≤ p.dst)) (ha : p.ack = true) (hm : p.m ≠ md0) (w : World) : Calls Tryz.prog 13 #[.agg (pktA p).toArray] w fun e w' => WrapMQ p w e w' := by
  have HQ := Lib.hid (wrapM_ackno h ha hm)
  have hb : (decide (p.fr < 8) && decide (p.dst < 8)) = true := by simp; omega
  have hne := fun w => neq_msg p.m md0 w
  have e0 : eqM p.m md0 = false := by
    cases h : eqM p.m md0 with
    | false => rfl
    | true => exact absurd (eqM_iff.1 h) hm
  rw [e0] at hne
  unfold msgA at hne
  simp only [md0, cd0, Int.natCast_zero, Bool.not_false] at hne
  unfold pktA msgA
  simp only [List.cons_append, List.nil_append]
  rw [ha]
  clear h hm e0
  go_enter Tryz.func13, Tryz.ntmps13
  go_wp2_with (go_at_call 41; refine (carriers_any _ _ _).mono ?_; rw [hb]; rintro e w' ⟨rfl, rfl⟩)
  refine bodyPost_ret (res_wrap rfl _ rfl rfl ((Below.heap_alloc _ _ _ (by simp)).trans (heap_alloc_at (by simp))) rfl) rfl ?_
  exact wrapMQ_err HQ.out ((((Below.refl _ _).alloc (Nat.le_refl _) _).alloc (by simp) _).alloc (by simp only [World.size_alloc]; omega) _)
set_option maxRecDepth 100000 in
set_option maxHeartbeats 4000000 in
theorem mwrap_kind (p : PD) (h : ¬ (8 ≤ p.fr ∨ 8 ≤ p.dst)) (ha : p.ack = false) (hk : hasK p.m.kind = none) (w : World) : Calls Tryz.prog 13 #[.agg (pktA p).toArray] w fun e w' => WrapMQ p w e w' := by
  have HQ := Lib.hid (wrapM_kind h ha hk)
  have hb : (decide (p.fr < 8) && decide (p.dst < 8)) = true := by simp; omega
  have HK := Lib.hid hk
  unfold pktA msgA
  simp only [List.cons_append, List.nil_append]
  rw [ha]
  clear h hk
  go_enter Tryz.func13, Tryz.ntmps13
  go_wp2_with (first | (go_at_call 41; refine (carriers_any _ _ _).mono ?_; rw [hb]; rintro e w' ⟨rfl, rfl⟩) | (go_at_call 43; go_loud (refine (parts_any _ _).mono ?_; rintro e w1 ⟨v, rfl, hpp, hbb⟩; rw [HK.out, Option.isSome_none]; have hr : w1.heap[w.heap.size + 1]? = some (.cells #[.int .u8 0, .int .u8 0, .int .u64 0, .slice none 0 0] 41 (0, 0)) := (hbb.block _ (by simp <;> omega)).trans ((Below.heap_alloc _ _ _ (by simp <;> omega)).trans ((Below.heap_alloc _ _ _ (by simp)).trans (heap_alloc_at (by simp)))); obtain ⟨⟨d0, d1, d2, d3⟩, f0, f1, f2, f3⟩ := cells4 hr; have HR := Lib.hid hr; have HB := Lib.hid hbb; clear hbb hr hpp)))
  refine bodyPost_ret (res_wrap rfl _ rfl rfl (put4_heap HR.out _ _ _ _) rfl) rfl ?_
  exact wrapMQ_err HQ.out (put4_below ((((((Below.refl _ _).alloc (Nat.le_refl _) _).alloc (by simp) _).alloc (by simp only [World.size_alloc]; omega) _).alloc (by simp only [World.size_alloc]; omega) _).trans (HB.out.mono (by simp only [World.size_alloc]; omega))) (by omega) _ _ _ _)
set_option maxRecDepth 100000 in
set_option maxHeartbeats 4000000 in
theorem mwrap_text (p : PD) {hh : Bool × Bool × Bool} (hc : p.m.tc < 256) (hs : p.m.ts < 18446744073709551616) (h : ¬ (8 ≤ p.fr ∨ 8 ≤ p.dst)) (ha : p.ack = false) (hk : hasK p.m.kind = some hh) (ht : mayT p.m.tc p.m.ts = false) (w : World) : Calls Tryz.prog 13 #[.agg (pktA p).toArray] w fun e w' => WrapMQ p w e w' := by
  have HQ := Lib.hid (wrapM_text h ha hk ht)
  have hb : (decide (p.fr < 8) && decide (p.dst < 8)) = true := by simp; omega
  have HK := Lib.hid hk
  have HT := Lib.hid ht
  unfold pktA msgA
  simp only [List.cons_append, List.nil_append]
  rw [ha]
  clear h hk ht
  go_enter Tryz.func13, Tryz.ntmps13
  go_wp2_with (first | (go_at_call 41; refine (carriers_any _ _ _).mono ?_; rw [hb]; rintro e w' ⟨rfl, rfl⟩) | (go_at_call 43; go_loud (refine (parts_any _ _).mono ?_; rintro e w1 ⟨v, rfl, hpp, hbb⟩; rw [HK.out, Option.isSome_some]; have hm : w1.heap[w.heap.size + 3]? = some (.cells #[.int .u8 (p.m.kind : Int), .int .u8 (p.m.tc : Int), .int .u64 (p.m.ts : Int), .int .u8 (p.m.pl : Int), .int .u8 (p.m.c.car : Int), .int .u16 (p.m.c.fl : Int), .int .u32 (p.m.c.we : Int), .int .i64 p.m.c.va, .int .u8 (p.m.c.st : Int), .int .u32 (p.m.c.no : Int), .int .i64 p.m.am, .int .i64 p.m.co] 36 (0, 0)) := (hbb.block _ (by simp <;> omega)).trans (heap_alloc_at (by simp)); have m1 : w1.cell? ⟨w.heap.size + 3, 1, none⟩ = some (.int .u8 (p.m.tc : Int)) := cell_of_row w1 (w.heap.size + 3) 1 _ _ _ hm; have m2 : w1.cell? ⟨w.heap.size + 3, 2, none⟩ = some (.int .u64 (p.m.ts : Int)) := cell_of_row w1 (w.heap.size + 3) 2 _ _ _ hm; have hr : w1.heap[w.heap.size + 1]? = some (.cells #[.int .u8 0, .int .u8 0, .int .u64 0, .slice none 0 0] 41 (0, 0)) := (hbb.block _ (by simp <;> omega)).trans ((Below.heap_alloc _ _ _ (by simp <;> omega)).trans ((Below.heap_alloc _ _ _ (by simp <;> omega)).trans (heap_alloc_at (by simp)))); obtain ⟨⟨d0, d1, d2, d3⟩, f0, f1, f2, f3⟩ := cells4 hr; have HR := Lib.hid hr; clear hr; have HB := Lib.hid hbb; clear hbb hm hpp)) | (go_at_call 44; go_loud (refine (nText_no hc hs HT.out _).mono ?_; rintro e w2 ⟨rfl, hb2⟩; have hz1 := HB.out.size; have hr : w2.heap[w.heap.size + 1]? = some (.cells #[.int .u8 0, .int .u8 0, .int .u64 0, .slice none 0 0] 41 (0, 0)) := (hb2.block _ (by simp at hz1; omega)).trans HR.out; clear d0 d1 d2 d3 f0 f1 f2 f3; obtain ⟨⟨d0, d1, d2, d3⟩, f0, f1, f2, f3⟩ := cells4 hr; have HR2 := Lib.hid hr; have HB2 := Lib.hid hb2; clear hb2 hr)))
  refine bodyPost_ret (res_wrap rfl _ rfl rfl (put4_heap HR2.out _ _ _ _) rfl) rfl ?_
  have hz1 := HB.out.size
  simp at hz1
  exact wrapMQ_err HQ.out (put4_below (((((((Below.refl _ _).alloc (Nat.le_refl _) _).alloc (by simp) _).alloc (by simp only [World.size_alloc]; omega) _).alloc (by simp only [World.size_alloc]; omega) _).trans (HB.out.mono (by simp only [World.size_alloc]; omega))).trans (HB2.out.mono (by omega))) (by omega) _ _ _ _)
end Go.Proofs.YtgfijlamhjjecaaGreatDoor


namespace Go.Proofs.YtgfijlamhjjecaaGreatDoor
open Go.RowKit
set_option maxRecDepth 100000 in
set_option maxHeartbeats 4000000 in
theorem mwrap_ack (p : PD) (h : ¬ (8 ≤ p.fr ∨ 8 ≤ p.dst)) (ha : p.ack = true) (hm : p.m = md0) (w : World) : Calls Tryz.prog 13 #[.agg (pktA p).toArray] w fun e w' => WrapMQ p w e w' := by
  have HQ := Lib.hid (wrapM_ack h ha hm)
  have HAK := Lib.hid ha
  have hb : (decide (p.fr < 8) && decide (p.dst < 8)) = true := by simp; omega
  unfold pktA msgA
  simp only [List.cons_append, List.nil_append]
  rw [ha, hm]
  simp only [md0, cd0, Int.natCast_zero]
  clear h hm
  go_enter Tryz.func13, Tryz.ntmps13
  go_upto_region 8 with (first | (go_at_call 41; refine (carriers_any _ _ _).mono ?_; rw [hb]; rintro e w' ⟨rfl, rfl⟩) | (go_at_call 42; go_loud (refine (msegment_any (S := fun _ => False) ⟨#[65, 67, 75]⟩ [] _ _ (RowAt.nil _ _) (fun k hk => hk.elim) (by simp)).mono ?_; rintro e w1 ⟨ev, rfl, hev, hbb⟩; have hw : w1.heap[w.heap.size + 1 + 1]? = some (.cells #[.int .u8 (p.fr : Int), .int .u8 (p.dst : Int), .int .u64 (p.num : Int), .slice none 0 0] 41 (0, 0)) := (hbb.block _ (by simp <;> omega)).trans (heap_alloc_at (by simp)); obtain ⟨⟨c0, c1, c2, c3⟩, g0, g1, g2, g3⟩ := cells4 hw; have hr : w1.heap[w.heap.size + 1]? = some (.cells #[.int .u8 0, .int .u8 0, .int .u64 0, .slice none 0 0] 41 (0, 0)) := (hbb.block _ (by simp <;> omega)).trans ((Below.heap_alloc _ _ _ (by simp <;> omega)).trans (heap_alloc_at (by simp))); obtain ⟨⟨d0, d1, d2, d3⟩, f0, f1, f2, f3⟩ := cells4 hr; have q2 : w.heap.size + 1 + 1 < w1.heap.size := (by have hq := hbb.size; simp at hq; omega); have HR := Lib.hid hr; have HW := Lib.hid hw; have HEV := Lib.hid hev; have HB := Lib.hid hbb; clear hbb hr hw hev)))
  have hz1 := HB.out.size
  simp at hz1
  obtain ⟨D, hD⟩ : ∃ D, w1.heap.size = D := ⟨_, rfl⟩
  obtain ⟨w2, hw2⟩ : ∃ w2, (w1.setCell ⟨w.heap.size + 1 + 1, 3, none⟩ (.slice (some ⟨D, 0, none⟩) 1 1)).alloc (.cells #[.string ⟨#[65, 67, 75]⟩, ev] 94) = w2 := ⟨_, rfl⟩
  have hz2 : w2.heap.size = D + 1 := by rw [← hw2, ← hD]; simp
  have hr2 : w2.heap[w.heap.size + 1]? = some (.cells #[.int .u8 0, .int .u8 0, .int .u64 0, .slice none 0 0] 41 (0, 0)) := by rw [← hw2]; exact (Below.heap_alloc _ _ _ (by simp; omega)).trans ((heap_setCell_other _ _ _ _ (by simp)).trans HR.out)
  have hww2 : w2.heap[w.heap.size + 1 + 1]? = some (.cells #[.int .u8 (p.fr : Int), .int .u8 (p.dst : Int), .int .u64 (p.num : Int), .slice (some ⟨D, 0, none⟩) 1 1] 41 (0, 0)) := by rw [← hw2]; exact (Below.heap_alloc _ _ _ (by simp; omega)).trans (heap_setCell_same _ _ 3 _ _ _ HW.out)
  have HSG : Hid (SegsAt (fun k => D ≤ k ∧ k < w2.heap.size ∨ w.heap.size + 3 ≤ k ∧ k < D) w2 (.slice (some ⟨D, 0, none⟩) 1 1) [wordSeg tACK []]) := Lib.hid (by
    have hev2 : ElemsAt (fun k => w.heap.size + 3 ≤ k ∧ k < D) (w1.setCell ⟨w.heap.size + 1 + 1, 3, none⟩ (.slice (some ⟨D, 0, none⟩) 1 1)) ev (ones []) := HEV.out.cong (fun k hk => by have h2 := hk.1; simp at h2; exact ⟨by omega, by omega⟩) (fun k hk => heap_setCell_other _ _ _ _ (by have h2 := hk.1; simp at h2; simp; omega))
    have h1 := segs_one (t := tACK) (st := ⟨#[65, 67, 75]⟩) rfl hev2 (fun k hk => by simp; omega)
    have e : (w1.setCell ⟨w.heap.size + 1 + 1, 3, none⟩ (.slice (some ⟨D, 0, none⟩) 1 1)).heap.size = D := by rw [← hD]; simp
    rw [e, hw2] at h1
    refine h1.cong (fun k hk => ?_) (fun k _ => rfl)
    rcases hk with hk | hk
    · exact .inr hk
    · exact .inl ⟨by omega, by omega⟩)
  have HBX : Hid (Below w.heap.size w w2) := Lib.hid (by
    rw [← hw2]
    exact ((((((Below.refl _ _).alloc (Nat.le_refl _) _).alloc (by simp) _).alloc (by simp only [World.size_alloc]; omega) _).trans (HB.out.mono (by simp only [World.size_alloc]; omega))).setCell (by simp; omega) _).alloc (by simp; omega) _)
  have hDD : w.heap.size + 1 + 1 < D := by omega
  rw [hD, hw2]
  obtain ⟨⟨d0, d1, d2, d3⟩, f0, f1, f2, f3⟩ := cells4 hr2
  obtain ⟨⟨c0, c1, c2, c3⟩, g0, g1, g2, g3⟩ := cells4 hww2
  have HR2 := Lib.hid hr2
  clear hr2 hww2 hw2 hD hb
  go_wp2_with fail
  refine bodyPost_ret (res_wrap rfl _ rfl rfl (put4_heap HR2.out _ _ _ _) rfl) rfl ?_
  unfold WrapMQ
  rw [HQ.out]
  refine ⟨_, rfl, ?_, put4_below HBX.out (by omega) _ _ _ _, fun h => by rw [HAK.out] at h; cases h⟩
  refine HSG.out.cong (fun k hk => ?_) (fun k hk => put4_other _ _ _ _ _ _ (by rcases hk with h | h <;> omega))
  have e : (put4 w2 (w.heap.size + 1) (.int .u8 (p.fr : Int)) (.int .u8 (p.dst : Int)) (.int .u64 (p.num : Int)) (.slice (some ⟨D, 0, none⟩) 1 1)).heap.size = w2.heap.size := by unfold put4; simp
  refine ⟨by rcases hk with h | h <;> omega, ?_⟩
  show k < (put4 w2 (w.heap.size + 1) (.int .u8 (p.fr : Int)) (.int .u8 (p.dst : Int)) (.int .u64 (p.num : Int)) (.slice (some ⟨D, 0, none⟩) 1 1)).heap.size
  rcases hk with h | h <;> omega
end Go.Proofs.YtgfijlamhjjecaaGreatDoor


namespace Go.Proofs.YtgfijlamhjjecaaGreatDoor
open Go.RowKit
theorem SegsAt.head {S : Nat → Prop} {w : World} {b off n cap : Nat} {l : List Seg} (H : SegsAt S w (.slice (some ⟨b, off, none⟩) n cap) l) {hi : Nat} (h2 : hi ≤ l.length) (hc : hi ≤ cap) (hc2 : cap ≤ maxLen) : SegsAt S w (.slice (some ⟨b, off, none⟩) hi cap) (l.take hi) := by
  have h := H.sub (lo := 0) (hi := hi) (c' := cap) (Nat.zero_le _) h2 (by omega) hc2
  rw [Nat.zero_mul, Nat.add_zero, Nat.sub_zero, List.drop_zero] at h
  exact h
theorem SegsAt.tail {S : Nat → Prop} {w : World} {b off n cap : Nat} {l : List Seg} (H : SegsAt S w (.slice (some ⟨b, off, none⟩) n cap) l) (hl : l.length = n) {lo : Nat} (h2 : lo ≤ n) (hc : n ≤ cap) (hc2 : cap ≤ maxLen) : SegsAt S w (.slice (some ⟨b, off + lo * 2, none⟩) (n - lo) (cap - lo)) (l.drop lo) := by
  have h := H.sub (lo := lo) (hi := n) (c' := cap - lo) h2 (by omega) (by omega) (by omega)
  rw [List.take_of_length_le (by omega)] at h
  exact h
end Go.Proofs.YtgfijlamhjjecaaGreatDoor


namespace Go.Proofs.YtgfijlamhjjecaaGreatDoor
open Go.RowKit
theorem OGT.fr {T : Nat → Prop} {F : List Nat} {B : Nat} {w w' : World} {ov : Value} {xs : List Value} {l : List Seg} (h : OGT T B w ov xs l) (hf : Fr F w w') (hF : ∀ k ∈ F, ¬ T k) (hov : ∀ k, ov.ownBlock = some k → k ∉ F) : OGT T B w' ov xs l :=
  ⟨own_cong h.row (fun k hk => hf.block k (own_lt h.row hk).2 (hov k hk)), h.len, fun i s x h1 h2 => (h.el i s x h1 h2).cong (fun k hk => ⟨hk.1, by have := hf.size; omega, hk.2.2⟩) (fun k hk => hf.block k hk.2.1 (fun hm => hF k hm hk.1))⟩
theorem ogt_two {T : Nat → Prop} {B : Nat} {w : World} {t u : Str} {st su : ByteArray} {es fs : List (List Str)} {ev fv : Value} (hst : (⟨t.toArray⟩ : ByteArray) = st) (hsu : (⟨u.toArray⟩ : ByteArray) = su) (hB : B ≤ w.heap.size) (he : ElemsAt (fun b => T b ∧ b < w.heap.size) w ev es) (hf : ElemsAt (fun b => T b ∧ b < w.heap.size) w fv fs) :
    OGT T B (w.alloc (.cells #[.string st, ev, .string su, fv] 94)) (.slice (some ⟨w.heap.size, 0, none⟩) 2 2) [ev, fv] [⟨t, es⟩, ⟨u, fs⟩] := by
  refine ⟨⟨rfl, .inr ⟨w.heap.size, 2, #[.string st, ev, .string su, fv], rfl, hB, heap_alloc_new _ _, Nat.le_refl _, by decide, rfl, ?_⟩⟩, rfl, fun i s x h1 h2 => ?_⟩
  · rw [← hst, ← hsu]; rfl
  · match i, h1, h2 with
    | 0, h1, h2 =>
      simp at h1 h2
      subst h1; subst h2
      exact he.cong (fun k hk => ⟨hk.1, by simp; omega, fun e => by simp [Value.ownBlock] at e; omega⟩) (fun k hk => Below.heap_alloc _ _ _ hk.2)
    | 1, h1, h2 =>
      simp at h1 h2
      subst h1; subst h2
      exact hf.cong (fun k hk => ⟨hk.1, by simp; omega, fun e => by simp [Value.ownBlock] at e; omega⟩) (fun k hk => Below.heap_alloc _ _ _ hk.2)
    | i + 2, h1, _ => simp at h1
theorem wp_app_ogw {ops : Array Oper} {rest : List Oper} {o : Oper} {a : Act} {Q : Exit → Act → World → Prop} (s x : Operand)
    (ho : o.op = .call { callee := .builtin .append, args := #[s, x], argTypes := #[39, 39] }) (hw : Region.wanted o (yielded ops a.tmps) = true)
    {w : World} {B : Nat} {v mv : Value} {xs : List Value} {l m : List Seg} {S T : Nat → Prop} (hs : a.eval s = v) (hx : a.eval x = mv) (hO : OGT T B w v xs l) (hm : SegsAt S w mv m) (hS : ∀ k, S k → (T k ∧ k < w.heap.size) ∧ v.ownBlock ≠ some k) (hl : l.length + m.length ≤ 1048576) (hB : B ≤ w.heap.size)
    (h : ∀ v' w' xs', OGT T B w' v' xs' (l ++ m) → Below B w w' → w.grownBy w' v.ownBlock → (v'.ownBlock = v.ownBlock ∨ v'.ownBlock = some w.heap.size) → wpList Tryz.prog ops Q rest (a.put o.dst v') w') :
    wpList Tryz.prog ops Q (o :: rest) a w := by
  obtain ⟨i0, hi, hz0, hz1, hz2⟩ := info_parts einfo_seg
  have hm0 := hm
  obtain ⟨ao, cap, ys, rfl, g1, g2, g3, g4, g5⟩ := hm.row
  simp only [wpList, hw, if_true]
  left
  have fin : ∀ v' w', w'.ownsRow B 94 2 v' (l.length + m.length) (segCells l xs ++ segCells m ys) → w.grownBy w' v.ownBlock → (v'.ownBlock = v.ownBlock ∨ v'.ownBlock = some w.heap.size) → OGT T B w' v' (xs ++ ys) (l ++ m) ∧ Below B w w' := fun v' w' f1 f2 f3 => by
    have hov : ∀ k, v.ownBlock = some k → B ≤ k := fun k hk => (own_lt hO.row hk).1
    have hb : Below B w w' := (Below.refl B w).grown f2 hB hov
    have hz := f2.size
    have hc : ∀ b, b < w.heap.size → v.ownBlock ≠ some b → v'.ownBlock ≠ some b := fun b hb2 hne he => by
      rcases f3 with f3 | f3
      · exact hne (f3 ▸ he)
      · rw [f3] at he; cases he; omega
    refine ⟨⟨by rw [List.length_append, segCells_app l m xs ys hO.len]; exact f1, by simp [hO.len, g1], fun i s x h1 h2 => ?_⟩, hb⟩
    rcases Nat.lt_or_ge i l.length with hil | hil
    · rw [List.getElem?_append_left hil] at h1
      rw [List.getElem?_append_left (by rw [hO.len]; exact hil)] at h2
      exact (hO.el i s x h1 h2).cong (fun b hb' => ⟨hb'.1, by omega, hc b hb'.2.1 hb'.2.2⟩) (fun b hb' => f2.block b hb'.2.1 (fun e => hb'.2.2 e.symm))
    · rw [List.getElem?_append_right hil] at h1
      rw [List.getElem?_append_right (by rw [hO.len]; exact hil), hO.len] at h2
      exact (g4 _ s x h1 h2).cong (fun b hb' => ⟨(hS b hb').1.1, by have := (hS b hb').1.2; omega, hc b (hS b hb').1.2 (hS b hb').2⟩) (fun b hb' => f2.block b (hS b hb').1.2 (fun e => (hS b hb').2 e.symm))
  cases ao with
  | none =>
    obtain ⟨rfl, rfl⟩ := g2 rfl
    have hr := run_append_owned_none (P := Tryz.prog) (w := w) B 39 o.type 94 i0 2 Tryz.underlying39 hi v l.length (segCells l xs) hO.row
    unfold Oper.wp
    simp [execOp, ho, resolve, invoke, builtin, hs, hx, hr, Result.andThen]
    obtain ⟨k1, k2⟩ := fin v w (by
      have : ys = [] := List.length_eq_zero_iff.1 g1
      subst this
      simpa [segCells] using hO.row) ⟨rfl, rfl, rfl, Nat.le_refl _, fun _ _ _ => rfl⟩ (.inl rfl)
    exact h v w _ k1 k2 ⟨rfl, rfl, rfl, Nat.le_refl _, fun _ _ _ => rfl⟩ (.inl rfl)
  | some ad =>
    obtain ⟨v', w', hr, h2, h3, _, h5⟩ := run_append_own_at (P := Tryz.prog) w B 39 o.type 94 i0 (.agg #[.string ⟨#[]⟩, .slice none 0 0]) 2 40 Tryz.underlying39 hi hz0 hz1 hz2 rfl (by decide) v l.length (segCells l xs) hO.row ad m.length cap (segCells m ys) (segCells_len m ys g1) (g5 ad rfl) (segCells_one m ys g3) (by unfold maxLen; omega) (by omega) hB
    unfold Oper.wp execOp
    simp only [ho, resolve, invoke, builtin, Sem.run_bind, Sem.run_pure, Result.andThen_ok, List.map_toArray, List.map_cons, List.map_nil, hs, hx, hr]
    obtain ⟨k1, k2⟩ := fin v' w' h2 h3 h5
    exact h v' w' _ k1 k2 h3 h5
end Go.Proofs.YtgfijlamhjjecaaGreatDoor

