/-
  EdiOwnV: the walk of EdiOwn for every input. No condition.
-/
import Derived.Test.YtpfkmklhfafkiaaEdiA10
import Derived.Test.YtpfkmklhfafkiaaEdiCutsV
namespace Go.Proofs.Ytpfkmklhfafkiaa
open Go.RowKit
theorem parse_lim {t : Str} {l : List Seg} {at_ : Nat} {k : Int} (h : parseE t = (l, at_, k)) (h' : t.length ≤ 65536) : okL l := by
  by_cases hk : k = 0
  · subst hk; exact (print_parse h h').2
  · obtain ⟨_, _, rfl, _⟩ := parse_cut h h' hk
    exact ⟨by simp, fun s hs => by simp at hs⟩
section
variable {Z : Nat → Prop} {B N : Nat} {W w2 w w' : World} {v : Value} {n : Nat} {xs : List Value}
/-- what stays while segments are spoilt -/
structure OwnJ (Z : Nat → Prop) (B N : Nat) (W w2 : World) (v : Value) (n : Nat) (xs : List Value) (w : World) : Prop where
  i : OwnI Z B N w v n xs
  f : ∀ k, k < w2.heap.size → ¬ Z k → w.heap[k]? = w2.heap[k]?
  b : Below B W w
  s : w2.heap.size ≤ w.heap.size
theorem OwnJ.mono {M : Nat} (h : OwnJ Z B N W w2 v n xs w) (hM : N ≤ M) : OwnJ Z B M W w2 v n xs w := ⟨h.i.mono hM, h.f, h.b, h.s⟩
theorem OwnJ.set {cb j : Nat} {C : Array Value} (h : OwnJ Z B N W w2 v n xs w) (hb : w.heap[cb]? = some (.cells C 9 (0, 0))) (hz : Z cb) (hB : B ≤ cb) (u : Value) : OwnJ Z B N W w2 v n xs (w.setCell ⟨cb, j, none⟩ u) :=
  ⟨h.i.keep (KT.set hb u) (NS.set hb u), fun k hk hnz => (heap_setCell_other w _ _ _ (fun e => hnz (by have e' : k = cb := e; rw [e']; exact hz))).trans (h.f k hk hnz), h.b.setCell hB u, by simpa using h.s⟩
theorem OwnJ.store {eb j : Nat} {C : Array Value} {y : Value} (h : OwnJ Z B N W w2 v n xs w) (hb : w.heap[eb]? = some (.cells C 38 (0, 0))) (hz : Z eb) (hB : B ≤ eb) (hy : GoodC Z B N w y) : OwnJ Z B N W w2 v n xs (w.setCell ⟨eb, j, none⟩ y) :=
  ⟨h.i.store hb hy, fun k hk hnz => (heap_setCell_other w _ _ _ (fun e => hnz (by have e' : k = eb := e; rw [e']; exact hz))).trans (h.f k hk hnz), h.b.setCell hB y, by simpa using h.s⟩
theorem OwnJ.app {row : Option Nat} (h : OwnJ Z B N W w2 v n xs w) (hk : KT w w') (hn : NS w w') (hg : w.grownBy w' row) (hz : ∀ k, row = some k → Z k ∧ B ≤ k) (hB : B ≤ w.heap.size) : OwnJ Z B N W w2 v n xs w' :=
  ⟨h.i.keep hk hn, fun k hk' hnz => (hg.block k (Nat.lt_of_lt_of_le hk' h.s) (fun e => hnz (hz k e.symm).1)).trans (h.f k hk' hnz), h.b.grown hg hB (fun k e => (hz k e).2), Nat.le_trans h.s hg.size⟩
theorem OwnJ.drew (h : OwnJ Z B N W w2 v n xs w) : OwnJ Z B N W w2 v n xs w.drew :=
  ⟨h.i.keep (KT.of_old (fun _ _ => rfl)) (NS.of_old (fun _ _ => rfl)), fun k hk hnz => h.f k hk hnz, h.b.drew, h.s⟩
/-- an element's component row -/
theorem OwnI.comp {k q m cap : Nat} {xa : Option Addr} (h : OwnI Z B N w v n xs) (hx : xs[k]? = some (.slice xa m cap)) (hq : q < m) : ∃ eb C y, xa = some ⟨eb, 0, none⟩ ∧ m ≤ cap ∧ cap ≤ maxLen ∧ w.heap[eb]? = some (.cells C 38 (0, 0)) ∧ w.cell? ⟨eb, q, none⟩ = some y ∧ w.frozen? ⟨eb, q, none⟩ = false ∧ Z eb ∧ B ≤ eb ∧ GoodC Z B N w y := by
  obtain ⟨m', ys, _, g1, g2, g3⟩ := h.x _ (List.mem_of_getElem? hx)
  obtain ⟨a', c', e⟩ := own_slice g1
  injection e with e1 e2 e3
  subst e2
  obtain ⟨g, cp, cur, e4, hg, hh, hc, hm, _, _⟩ := own_form g1 (by omega) (by omega)
  injection e4 with e5 _ e6
  subst e5; subst e6
  have hyl : ys.length = m * 1 := g1.1
  have hy := List.getElem?_eq_getElem (l := ys) (i := q) (by omega)
  exact ⟨g, cur, _, rfl, hc, hm, hh, own_cell g1 hy, own_frozen g1 q, g2 g rfl, hg, g3 _ (List.mem_of_getElem? hy)⟩
theorem GoodC.part {ya : Option Addr} {z cap j : Nat} (h : GoodC Z B N w (.slice ya z cap)) (hj : j < z) : ∃ cb C u, ya = some ⟨cb, 0, none⟩ ∧ z ≤ cap ∧ cap ≤ maxLen ∧ w.heap[cb]? = some (.cells C 9 (0, 0)) ∧ w.cell? ⟨cb, j, none⟩ = some u ∧ w.frozen? ⟨cb, j, none⟩ = false ∧ Z cb ∧ B ≤ cb := by
  obtain ⟨q, zs, _, g1, g2⟩ := h
  obtain ⟨a', c', e⟩ := own_slice g1
  injection e with e1 e2 e3
  subst e2
  obtain ⟨g, cp, cur, e4, hg, hh, hc, hm, _, _⟩ := own_form g1 (by omega) (by omega)
  injection e4 with e5 _ e6
  subst e5; subst e6
  have hyl : zs.length = z * 1 := g1.1
  have hy := List.getElem?_eq_getElem (l := zs) (i := j) (by omega)
  exact ⟨g, cur, _, rfl, hc, hm, hh, own_cell g1 hy, own_frozen g1 j, g2 g rfl, hg⟩
theorem GoodC.form {y : Value} (h : GoodC Z B N w y) : ∃ ya z cap, y = .slice ya z cap ∧ z ≤ N ∧ z ≤ cap ∧ cap ≤ maxLen := by
  obtain ⟨q, zs, hq, ⟨g1, ⟨rfl, rfl⟩ | ⟨g, cap, cur, rfl, hg, hh, hc, hm, hs, hx⟩⟩, _⟩ := h
  · exact ⟨none, 0, 0, rfl, by omega, by omega, by omega⟩
  · exact ⟨_, q, cap, rfl, hq, hc, hm⟩
theorem GoodE.form {x : Value} (h : GoodE Z B N w x) : ∃ xa m cap, x = .slice xa m cap ∧ m ≤ 16 ∧ m ≤ cap ∧ cap ≤ maxLen := by
  obtain ⟨m, ys, hm16, ⟨g1, ⟨rfl, rfl⟩ | ⟨g, cap, cur, rfl, hg, hh, hc, hm, hs, hx⟩⟩, _⟩ := h
  · exact ⟨none, 0, 0, rfl, by omega, by omega, by omega⟩
  · exact ⟨_, m, cap, rfl, hm16, hc, hm⟩
end
set_option maxRecDepth 100000 in
set_option maxHeartbeats 8000000 in
theorem ediOwn_walk {W : World} (ts : ByteArray) (_w0 : ts.size ≤ maxLen) : Calls Try.prog 7 #[.string ts] W fun e w' => e = .returned (.bool true) ∧ Below W.heap.size W w' := by
  obtain ⟨B, hB⟩ : ∃ B, W.heap.size = B := ⟨_, rfl⟩
  have HBQ := Lib.hid hB
  rw [hB]
  clear _w0
  by_cases h3 : 3000 < ts.size
  · have d3 : decide ((3000 : Int) < (ts.size : Int)) = true := by rw [decide_eq_true_eq]; omega
    clear hB
    go_enter Try.func7, Try.ntmps7
    go_wp2_with fail
    go_ret
    exact ⟨rfl, Below.refl _ _⟩
  · have d3 : decide ((3000 : Int) < (ts.size : Int)) = false := by rw [decide_eq_false_iff_not]; omega
    obtain ⟨P, hP⟩ : ∃ P, parseE ts.data.toList = P := ⟨_, rfl⟩
    obtain ⟨l, at_, k⟩ := P
    have hlen : ts.data.toList.length ≤ 65536 := by rw [data_len]; omega
    have hok := parse_lim hP hlen
    have HPA := Lib.hid (parse_own ts (by omega) W)
    rw [hP, hB] at HPA
    have HP := Lib.hid hP
    have HOK := Lib.hid hok
    clear hP hlen hok hB
    go_enter Try.func7, Try.ntmps7
    go_wp2_with ((with_reducible refine HPA.out.mono ?_); rintro e w1 ⟨av, rfl, hs1, hb1⟩; have HS1 := Lib.hid hs1; have HB1 := Lib.hid hb1; clear hs1 hb1)
    have HPB := Lib.hid (parse_any ts (by omega) w1)
    rw [HP.out] at HPB
    have hz1 := HB1.out.size
    rw [HBQ.out] at hz1
    refine HPB.out.mono ?_
    rintro e w2 ⟨bv, rfl, hs2, hb2⟩
    obtain ⟨Z1, hZ1⟩ : ∃ x, w1.heap.size = x := ⟨_, rfl⟩
    rw [hZ1] at hs2 hb2
    have hZ2 := hb2.size
    rw [hZ1] at hZ2
    have HS2 := Lib.hid hs2
    obtain ⟨xs, hxs⟩ : ∃ xs, OwnI (fun k => B ≤ k ∧ ¬ (Z1 ≤ k ∧ k < w2.heap.size)) B 8 w1 av l.length xs := SegsO.good HS1.out (fun k hk => ⟨hk.1, by omega⟩) (fun s hs => (HOK.out.2 s hs).2.1) (fun s hs e he => ((HOK.out.2 s hs).2.2 e he).2.1)
    obtain ⟨Zp, hZp⟩ : ∃ Zp : Nat → Prop, (fun k => B ≤ k ∧ ¬ (Z1 ≤ k ∧ k < w2.heap.size)) = Zp := ⟨_, rfl⟩
    rw [hZp] at hxs
    have HZP := Lib.hid (show ∀ k, Zp k ↔ (B ≤ k ∧ ¬ (Z1 ≤ k ∧ k < w2.heap.size)) by rw [← hZp]; exact fun _ => Iff.rfl)
    obtain ⟨n, hn⟩ : ∃ n, l.length = n := ⟨_, rfl⟩
    have hn64 : n ≤ 64 := by rw [← hn]; exact HOK.out.1
    rw [hn] at hxs
    have hold : ∀ k, k < w1.heap.size → w2.heap[k]? = w1.heap[k]? := fun k hk => hb2.block k (by omega)
    have HJ : Hid (OwnJ Zp B (8 + 0 * 16) W w2 av n xs w2) := Lib.hid ⟨hxs.keep (KT.of_old hold) (NS.of_old hold), fun _ _ _ => rfl, HB1.out.trans (hb2.mono (by omega)), Nat.le_refl _⟩
    obtain ⟨ava, avn, avc, hav, hav1, hav2⟩ : ∃ a m c, av = .slice a m c ∧ m = n ∧ c ≤ maxLen := by
      obtain ⟨ys, g1, _⟩ := HS1.out
      obtain ⟨a, c, e⟩ := own_slice g1
      obtain ⟨_, ⟨h1, h2⟩ | ⟨g, cap, cur, h1, hg, hh, hc, hm, _⟩⟩ := g1
      · exact ⟨none, 0, 0, h1, by omega, by unfold maxLen; omega⟩
      · exact ⟨_, _, cap, h1, hn, hm⟩
    subst hav1
    subst hav
    clear hs2 hb2 HPA HPB hxs hZp hold hn hav2 HS1
    go_wp2_with fail
    go_loopw [9] (fun i wr => ∃ (k : Nat), k ≤ avn ∧ i = .int .i64 (k : Int) ∧ Hid (OwnJ Zp B (8 + k * 16) W w2 (.slice ava avn avc) avn xs wr)) (fun i _ => avn - (intOf i).toNat)
    case atStart => exact ⟨0, Nat.zero_le _, rfl, HJ⟩
    case round =>
      obtain ⟨k, hk, rfl, HJ1⟩ := hrel
      clear HJ
      have hBs := HJ1.out.s
      by_cases hlt : k < avn
      · skip
        obtain ⟨g, cap, hgv, hc1, hc2, _, _, _, _, _, ⟨x, hx, cx⟩, _⟩ := HJ1.out.i.tag hlt ⟨#[66, 65, 68]⟩
        injection hgv with hg1 _ hg3
        subst hg1; subst hg3
        obtain ⟨xa, m, xc, rfl, hm16, hmc, hmm⟩ := (HJ1.out.i.x x (List.mem_of_getElem? hx)).form
        have HX := Lib.hid hx
        unfold maxLen at hc2 hmm
        have b1 : (0 : Int) ≤ k := by omega
        have b2 : (k : Int) < avn := by omega
        clear hx
        go_wp2_with fail
        clear cx
        go_loopw [10] (fun i wr => ∃ (q : Nat), q ≤ m ∧ i = .int .i64 (q : Int) ∧ Hid (OwnJ Zp B (8 + k * 16 + q) W w2 (.slice (some ⟨g, 0, none⟩) avn avc) avn xs wr)) (fun i _ => m - (intOf i).toNat)
        case atStart => exact ⟨0, Nat.zero_le _, rfl, HJ1⟩
        case round =>
          obtain ⟨q, hq, rfl, HJ2⟩ := hrel
          clear HJ1
          have hBs := HJ2.out.s
          obtain ⟨g', cap', hgv, _, _, _, ⟨u0, ct⟩, ft, zg, bg, ⟨x', hx', cx⟩, HTAG⟩ := HJ2.out.i.tag hlt ⟨#[66, 65, 68]⟩
          injection hgv with hg1 _ hg3
          cases hg1
          subst hg3
          rw [HX.out] at hx'
          cases hx'
          by_cases hql : q < m
          · skip
            obtain ⟨eb, C, y, rfl, _, _, hebc, cy, fy, zeb, beb, hgy⟩ := HJ2.out.i.comp HX.out hql
            obtain ⟨ya, z0, yc, rfl, hzN, hz1', hz2'⟩ := hgy.form
            unfold maxLen at hz2'
            have HCY := Lib.hid cy
            have b3 : (0 : Int) ≤ q := by omega
            have b4 : (q : Int) < m := by omega
            have HCX := Lib.hid cx
            clear hebc fy hgy ct ft HTAG
            go_wp2_with fail
            clear cx cy
            go_loopw [11] (fun i wr => ∃ (j : Nat), j ≤ z0 ∧ i = .int .i64 (j : Int) ∧ Hid (wr.cell? ⟨eb, q, none⟩ = some (.slice ya z0 yc)) ∧ Hid (OwnJ Zp B (8 + k * 16 + q) W w2 (.slice (some ⟨g, 0, none⟩) avn avc) avn xs wr)) (fun i _ => z0 - (intOf i).toNat)
            case atStart => exact ⟨0, Nat.zero_le _, rfl, HCY, HJ2⟩
            case round =>
              obtain ⟨j, hj, rfl, HCY2, HJ3⟩ := hrel
              clear HJ2 HCY HCX
              have hBs := HJ3.out.s
              obtain ⟨g', cap', hgv, _, _, _, ⟨u0, ct⟩, ft, zg, bg, ⟨x', hx', cx⟩, HTAG⟩ := HJ3.out.i.tag hlt ⟨#[66, 65, 68]⟩
              injection hgv with hg1 _ hg3
              cases hg1
              subst hg3
              rw [HX.out] at hx'
              cases hx'
              obtain ⟨eb', C', y', heb, _, _, hebc, cy, fy, _, _, hgy⟩ := HJ3.out.i.comp HX.out hql
              cases heb
              rw [HCY2.out] at cy
              cases cy
              have cy := HCY2.out
              clear HTAG ct ft
              by_cases hjl : j < z0
              · skip
                obtain ⟨cb, D, u, rfl, _, _, hcb, cu, fu, zcb, bcb⟩ := hgy.part hjl
                have b5 : (0 : Int) ≤ j := by omega
                have b6 : (j : Int) < z0 := by omega
                have HN := Lib.hid (show ∀ v, (wr.setCell ⟨cb, j, none⟩ v).cell? ⟨eb, q, none⟩ = some (.slice (some ⟨cb, 0, none⟩) z0 yc) from fun v => by
                  have h1 := NS.set hcb v eb _ _ hebc (by decide) (j := j)
                  rw [cell_of_row _ eb q _ _ _ h1, ← cell_of_row wr eb q _ _ _ hebc]; exact cy)
                have HST := Lib.hid (HJ3.out.set (j := j) hcb zcb bcb (.string ⟨#[115, 112, 111, 105, 108, 116]⟩))
                clear hebc hcb fy hgy HCY2
                go_wp2_with fail
                go_roundw
                case rel => exact ⟨j + 1, by omega, by go_num, Lib.hid (HN.out _), HST⟩
                case measure => simp [intOf]; omega
              · skip
                go_upto_region 15 with fail
                obtain ⟨wd, hwd⟩ : ∃ wd, wr.drew = wd := ⟨_, rfl⟩
                have HJ4 := Lib.hid (show OwnJ Zp B (8 + k * 16 + q) W w2 (.slice (some ⟨g, 0, none⟩) avn avc) avn xs wd by rw [← hwd]; exact HJ3.out.drew)
                have cx' : wd.cell? ⟨g, k * 2 + 1, none⟩ = some (.slice (some ⟨eb, 0, none⟩) m xc) := by rw [← hwd]; exact cx
                have cy' : wd.cell? ⟨eb, q, none⟩ = some (.slice ya z0 yc) := by rw [← hwd]; exact cy
                have HEB := Lib.hid (show wd.heap[eb]? = some (.cells C' 38 (0, 0)) by rw [← hwd]; exact hebc)
                have HGY := Lib.hid (show GoodC Zp B (8 + k * 16 + q) wd (.slice ya z0 yc) by rw [← hwd]; exact hgy.keep (KT.of_old (fun _ _ => rfl)))
                have hGG : ∃ CG, wd.heap[g]? = some (.cells CG 37 (0, 0)) := by
                  obtain ⟨zs, r1, _⟩ := HJ4.out.i.row
                  obtain ⟨CG, r2, _⟩ := own_ty r1 (k := g) rfl
                  exact ⟨CG, r2⟩
                obtain ⟨CG, hCG⟩ := hGG
                have HCG := Lib.hid hCG
                have HWS := Lib.hid (show wd.heap.size = wr.heap.size by rw [← hwd]; rfl)
                refine wp_region_planF 17 [(0, false), (1, false), (2, false), (3, false), (4, false), (5, false), (6, false), (7, false), (8, false), (9, false), (10, false), (11, false), (12, false), (13, false), (14, true), (15, true), (16, false), (17, true)]
                  (fun w' => w'.cell? ⟨g, k * 2 + 1, none⟩ = some (.slice (some ⟨eb, 0, none⟩) m xc) ∧ w'.cell? ⟨eb, q, none⟩ = some (.slice ya z0 yc)) (by kernel_rfl) (by kernel_rfl) (by rw [hwd]; exact ⟨cx', cy'⟩) ?_
                rw [hwd]
                have HCX2 := Lib.hid cx'
                have HCY3 := Lib.hid cy'
                clear hwd cx' cy' cx cy HCY2 HJ3 hebc fy hgy hCG
                iterate 14 (refine' planF_val rfl rfl (fun w' hS => ?_) ?_; rotate_left; (focus (obtain ⟨hS1, hS2⟩ := hS; go_simp; rfl)); simp only [Act.put, List.setIfInBounds_toArray, List.set_cons_zero, List.set_cons_succ])
                refine planF_do rfl (fun K hK => ?_)
                go_wp2_with fail
                refine hK _ _ (.inr ⟨(cell_ag (Below.heap_alloc _ _ _ (cell_lt' HCX2.out))).trans HCX2.out, (cell_ag (Below.heap_alloc _ _ _ (cell_lt' HCY3.out))).trans HCY3.out⟩) ?_
                clear hK K
                refine planF_do rfl (fun K hK => ?_)
                have hBd : B ≤ wd.heap.size := by rw [HWS.out]; omega
                obtain ⟨y', we, hr, hgy', hgr, hkt, hns⟩ := run_app_good ⟨#[109, 111, 114, 101]⟩ HGY.out 38 (by omega) hBd (fun k' hk' => (HZP.out k').2 (by rw [HWS.out] at hk'; omega))
                obtain ⟨ya', z', yc', rfl, _⟩ := hgy'.form
                refine wp_append_run rfl _ _ 38 rfl rfl rfl hr ?_
                have heb2 := hns eb _ _ HEB.out (by decide)
                have hg2 := hns g _ _ HCG.out (by decide)
                have cx2 : we.cell? ⟨g, k * 2 + 1, none⟩ = some (.slice (some ⟨eb, 0, none⟩) m xc) := by rw [cell_of_row we g _ _ _ _ hg2, ← cell_of_row wd g (k * 2 + 1) _ _ _ HCG.out]; exact HCX2.out
                have cy2 : we.cell? ⟨eb, q, none⟩ = some (.slice ya z0 yc) := by rw [cell_of_row we eb _ _ _ _ heb2, ← cell_of_row wd eb q _ _ _ HEB.out]; exact HCY3.out
                have fy2 : we.frozen? ⟨eb, q, none⟩ = false := frozen_of_row we eb q _ _ heb2
                have hrow : ∀ b, (Value.slice ya z0 yc).ownBlock = some b → Zp b ∧ B ≤ b := fun b hb => by
                  obtain ⟨_, _, _, r1, r2⟩ := HGY.out
                  exact ⟨r2 b hb, (own_lt r1 hb).1⟩
                have HJ5 := Lib.hid ((HJ4.out.app hkt hns hgr hrow hBd).mono (show 8 + k * 16 + q ≤ 8 + k * 16 + (q + 1) by omega))
                have HJ6 := Lib.hid (HJ5.out.store (j := q) heb2 zeb beb (hgy'.mono (show 8 + k * 16 + q + 1 ≤ 8 + k * 16 + (q + 1) by omega)))
                have HKS := Lib.hid (And.intro cx2 cy2)
                have HHEB := Lib.hid heb2
                clear hr hgy' hgr hkt hns heb2 hg2 hrow HJ4 HGY
                go_wp2_with fail
                refine hK _ _ (.inr HKS.out) ?_
                clear hK K
                iterate 1 (refine' planF_val rfl rfl (fun w' hS => ?_) ?_; rotate_left; (focus (obtain ⟨hS1, hS2⟩ := hS; go_simp; rfl)); simp only [Act.put, List.setIfInBounds_toArray, List.set_cons_zero, List.set_cons_succ])
                refine planF_do rfl (fun K hK => ?_)
                go_wp2_with fail
                refine hK _ _ (.inl trivial) ?_
                clear hK K
                refine planF_nil ?_
                clear cx2 cy2 fy2
                go_wp2_with fail
                go_roundw
                case rel => exact ⟨q + 1, by omega, by go_num, HJ6⟩
                case measure => simp [intOf]; omega
          · skip
            obtain rfl : q = m := by omega
            have HTJ : Hid (OwnJ Zp B (8 + (k + 1) * 16) W w2 (.slice (some ⟨g, 0, none⟩) avn avc) avn xs (wr.setCell ⟨g, k * 2, none⟩ (.string ⟨#[66, 65, 68]⟩))) := Lib.hid ⟨HTAG.mono (by omega), fun k' hk' hnz => (heap_setCell_other wr _ _ _ (fun e => hnz (by have e' : k' = g := e; rw [e']; exact zg))).trans (HJ2.out.f k' hk' hnz), HJ2.out.b.setCell bg _, by simpa using HJ2.out.s⟩
            clear HTAG
            go_wp2_with fail
            go_roundw
            case rel => exact ⟨k + 1, by omega, by go_num, HTJ⟩
            case measure => simp [intOf]; omega
      · skip
        obtain rfl : k = avn := by omega
        have HPC := Lib.hid (parse_any ts (by omega) wr)
        rw [HP.out] at HPC
        go_wp2_with ((with_reducible refine HPC.out.mono ?_); rintro e w3 ⟨cv, rfl, hs3, hb3⟩; have HS3 := Lib.hid hs3; have HB3 := Lib.hid hb3; clear hs3 hb3)
        have HSM := Lib.hid (same_any (S := fun _ => True) (T := fun _ => True) w3 (HS2.out.cong (fun _ _ => trivial) (fun k' hk' => (HB3.out.block k' (by omega)).trans (HJ1.out.f k' hk'.2 (fun hz => ((HZP.out k').1 hz).2 hk')))) (HS3.out.cong (fun _ _ => trivial) (fun _ _ => rfl)))
        rw [sameB_self] at HSM
        have hBw := HJ1.out.b.size
        rw [HBQ.out] at hBw
        have HB4 := Lib.hid (HJ1.out.b.trans (HB3.out.mono hBw))
        have hBw2 := HB4.out.size
        rw [HBQ.out] at hBw2
        go_wp2_with first
          | ((with_reducible refine HSM.out.mono ?_); rintro e w6 ⟨rfl, hd⟩; have HD := Lib.hid (hd.below B); clear hd)
          | ((with_reducible refine (reads_any _).mono ?_); rintro e w7 ⟨rfl, hb7⟩; have HB8 := Lib.hid hb7; clear hb7)
        go_ret
        have h6 := HB4.out.trans HD.out
        have h7 := h6.size
        rw [HBQ.out] at h7
        exact ⟨rfl, h6.trans (HB8.out.mono h7)⟩
end Go.Proofs.Ytpfkmklhfafkiaa
