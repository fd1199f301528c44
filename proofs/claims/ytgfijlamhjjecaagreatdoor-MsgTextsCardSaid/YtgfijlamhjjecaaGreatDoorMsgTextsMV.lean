/-
  MsgTextsV: the walk of MsgTexts for every input. No condition but the laid variables.
-/
import Derived.Test.YtgfijlamhjjecaaGreatDoorMt8
import Derived.Test.YtgfijlamhjjecaaGreatDoorMt14
import Derived.Test.YtgfijlamhjjecaaGreatDoorMt16
import Derived.Test.YtgfijlamhjjecaaGreatDoorMt18
import Derived.Test.YtgfijlamhjjecaaGreatDoorMt9
import Derived.Test.YtgfijlamhjjecaaGreatDoorMt19
import Derived.Test.YtgfijlamhjjecaaGreatDoorMt13
namespace Go.Proofs.YtgfijlamhjjecaaGreatDoor
open Go.RowKit
theorem rWrap_at {p : PD} (hp : okPD p) {w : World} {x : WD} {k : Int} (h : wrapM p = (x, k)) : Calls Tryz.prog 14 #[.agg (pktA p).toArray] w fun e w' => WMQ x k w e w' := by
  refine (rWrap_any p hp w).mono ?_
  rintro e w' ⟨v, h1, h2, h3⟩
  rw [h] at h1 h2
  exact ⟨v, h1, h2, h3⟩
def WRQ (x : WD) (k : Int) (w : World) (e : Ending) (w' : World) : Prop := ∃ v, e = .returned (.tuple #[wv x v, .int .i64 k]) ∧ SegsAt (fun k => w.heap.size ≤ k ∧ k < w'.heap.size) w' v x.segs ∧ Below w.heap.size w w'
theorem r4Parse_at {s : ByteArray} {w : World} {x : WD} {k : Int} (h : wrapParseE s.data.toList = (x, k)) : Calls Tryz.prog 24 #[.string s] w fun e w' => WRQ x k w e w' := by
  refine (r4parse_any s w).mono ?_
  rintro e w' ⟨v, rfl, h1, h2⟩
  rw [h] at h1 ⊢
  exact ⟨v, rfl, h1, h2⟩
theorem textM_no {p : PD} {x : WD} {k : Int} {t : Str × Int} (h : wrapM p = (x, k)) (hk : k ≠ 0) (ht : textM p = t) : t = ([], k) := by
  rw [← ht]; unfold textM; rw [h, if_neg hk]
theorem textM_yes {p : PD} {x : WD} {t : Str × Int} (h : wrapM p = (x, 0)) (ht : textM p = t) : wrapPrintE x = t := by
  rw [← ht]; unfold textM; rw [h]; rfl
theorem parseTM_no {s : Str} {x : WD} {k : Int} {t : PD × Int} (h : wrapParseE s = (x, k)) (hk : k ≠ 0) (ht : parseTM s = t) : t = (pd0, k) := by
  rw [← ht]; unfold parseTM; rw [h, if_neg hk]
theorem parseTM_yes {s : Str} {x : WD} {t : PD × Int} (h : wrapParseE s = (x, 0)) (ht : parseTM s = t) : packetM x = t := by
  rw [← ht]; unfold parseTM; rw [h]; rfl
theorem range_pk {w : World} {b : Nat} {cs : List Value} {t : TypeId} (h : w.heap[b]? = some (.cells cs.toArray t (0, 0))) : w.rangeAt b 0 cs :=
  fun j x hx => by rw [cell_of_row w b (0 + j) _ _ _ h, Nat.zero_add, List.getElem?_toArray]; exact hx
/-- a packet laid down -/
theorem pkt_put (u : World) (p : PD) (D : Nat) (hD : u.heap.size = D) (u1 u2 : World) (h1 : u.alloc (.cells pkz.toArray 38) = u1) (h2 : u1.setCells D 0 (pktA p) = u2) : u2.heap[D]? = some (.cells (pktA p).toArray 38 (0, 0)) ∧ Below D u u2 ∧ D < u2.heap.size := by
  have h3 : u2.heap[D]? = some (.cells (pktA p).toArray 38 (0, 0)) := by
    rw [← h2]
    exact putL_heap (cs := pkz) (by rw [← h1, ← hD]; exact heap_alloc_new _ _) (pktA p) rfl
  refine ⟨h3, ?_, (Array.getElem?_eq_some_iff.1 h3).1⟩
  rw [← h2]
  refine putL_below (Nat.le_refl _) _ _ _ ?_
  rw [← h1, ← hD]
  exact (Below.refl _ _).alloc (Nat.le_refl _) _
set_option maxRecDepth 100000 in
set_option maxHeartbeats 16000000 in
theorem msgTexts_walk {W : World} (hv : VarsOk W) (p : PD) (hp : okPD p) (ts : ByteArray) (_w1 : ts.size ≤ maxLen) : Calls Tryz.prog 5 #[.agg (pktA p).toArray, .string ts] W fun e w' => e = .returned (.bool true) ∧ Below W.heap.size W w' := by
  obtain ⟨B, hB⟩ : ∃ B, W.heap.size = B := ⟨_, rfl⟩
  have HBQ := Lib.hid hB
  have HVX : Hid (∀ u, Below B W u → VarsOk u) := Lib.hid (fun u hu => hv.on hu (by rw [hB]; exact Nat.le_refl _))
  obtain ⟨w1, hw1⟩ : ∃ w1, W.alloc (.cells (pktA p).toArray 38) = w1 := ⟨_, rfl⟩
  have HB1 : Hid (Below B W w1) := Lib.hid (by rw [← hw1, ← hB]; exact (Below.refl _ _).alloc (Nat.le_refl _) _)
  have HZ1 : Hid (w1.heap.size = B + 1) := Lib.hid (by rw [← hw1, ← hB]; simp)
  have HC1 : Hid (w1.heap[B]? = some (.cells (pktA p).toArray 38 (0, 0))) := Lib.hid (by rw [← hw1, ← hB]; exact heap_alloc_new _ _)
  obtain ⟨R, hR⟩ : ∃ R, textM p = R := ⟨_, rfl⟩
  obtain ⟨rs, rn⟩ := R
  obtain ⟨X, hX⟩ : ∃ X, wrapM p = X := ⟨_, rfl⟩
  obtain ⟨x, k⟩ := X
  have HX := Lib.hid hX
  have HR := Lib.hid hR
  have HPN := Lib.hid hp
  have HPR := Lib.hid (mText_is hp (HVX.out _ HB1.out) hR)
  have HRW := Lib.hid (fun w => rWrap_at hp (w := w) hX)
  obtain ⟨ra, hra⟩ : ∃ ra : ByteArray, (⟨rs.toArray⟩ : ByteArray) = ra := ⟨_, rfl⟩
  have HRA := Lib.hid hra
  unfold WTQ sv at HPR
  rw [hra] at HPR
  unfold WMQ at HRW
  have HW1 := Lib.hid hw1
  rw [hB]
  clear hv hB hw1 _w1 hR hX hra hp
  unfold pktA msgA at HW1 ⊢
  simp only [List.cons_append, List.nil_append] at HW1 ⊢
  go_enter Tryz.func5, Tryz.ntmps5
  go_upto_region 1 with fail
  rw [HW1.out, HBQ.out]
  clear HW1
  by_cases h3 : 3000 < ts.size
  · have d4 : decide ((3000 : Int) < (ts.size : Int)) = true := by rw [decide_eq_true_eq]; omega
    go_wp2_with fail
    go_ret
    exact ⟨rfl, HB1.out⟩
  have hts : decide ((3000 : Int) < (ts.size : Int)) = false := by rw [decide_eq_false_iff_not]; omega
  go_upto_region 4 with (first
    | ((with_reducible refine wpList_at (.load 38 (.tmp 2)) rfl ?_); go_loud (refine wpList_load_mid rfl 38 _ rfl B 0 rfl (pktA p) _ (range_pk HC1.out) Tryz.underlying38 rfl (by kernel_rfl) ?_))
    | (go_at_call 21; go_loud (refine HPR.out.mono ?_); rintro e w2 ⟨rfl, hb⟩; rw [HZ1.out] at hb; have HB2 := Lib.hid hb; clear hb))
  clear hts HPR
  have HC2 : Hid (w2.heap[B]? = some (.cells (pktA p).toArray 38 (0, 0))) := Lib.hid ((HB2.out.block B (by omega)).trans HC1.out)
  have HZ2 : Hid (B + 1 ≤ w2.heap.size) := Lib.hid (by have := HB2.out.size; rw [HZ1.out] at this; exact this)
  go_upto_region 5 with (first
    | ((with_reducible refine wpList_at (.load 38 (.tmp 2)) rfl ?_); go_loud (refine wpList_load_mid rfl 38 _ rfl B 0 rfl (pktA p) _ (range_pk HC2.out) Tryz.underlying38 rfl (by kernel_rfl) ?_))
    | (go_at_call 14; go_loud (refine (HRW.out _).mono ?_); rintro e w3 ⟨v, rfl, hs, hb⟩; have HB3 := Lib.hid hb; have HS3 := Lib.hid hs; obtain ⟨vo, lc, rfl, _, _⟩ := hs.form; clear hb hs; unfold wv))
  obtain ⟨D, hD⟩ : ∃ D, w3.heap.size = D := ⟨_, rfl⟩
  obtain ⟨n, hn⟩ : ∃ n, x.segs.length = n := ⟨_, rfl⟩
  rw [hn] at HS3 ⊢
  obtain ⟨w4, hw4⟩ : ∃ u, w3.alloc (.cells #[.int .u8 (x.fr : Int), .int .u8 (x.dst : Int), .int .u64 (x.rf : Int), .slice vo n lc] 41) = u := ⟨_, rfl⟩
  have HX4 : Hid (w4.heap[D]? = some (.cells #[.int .u8 (x.fr : Int), .int .u8 (x.dst : Int), .int .u64 (x.rf : Int), .slice vo n lc] 41 (0, 0))) := Lib.hid (by rw [← hw4, ← hD]; exact heap_alloc_new _ _)
  have HBD : Hid (B + 1 ≤ D) := Lib.hid (by rw [← hD]; exact Nat.le_trans HZ2.out HB3.out.size)
  have HU4 : Hid (Below (B + 1) w1 w4) := Lib.hid (by rw [← hw4]; exact (HB2.out.trans (HB3.out.mono HZ2.out)).alloc (by rw [hD]; exact HBD.out) _)
  have HS4 : Hid (SegsAt (fun b => b < D) w4 (.slice vo n lc) x.segs) := Lib.hid (HS3.out.cong (fun j hj => by rw [← hD]; exact hj.2) (fun j hj => by rw [← hw4]; exact Below.heap_alloc _ _ _ hj.2))
  have HZ4 : Hid (w4.heap.size = D + 1) := Lib.hid (by rw [← hw4, ← hD]; simp)
  rw [hw4, hD]
  clear hw4 hD hn HS3 HB3 HRW HC2
  go_upto_if 29 with fail
  go_cut [9, 8] (fun av kv wx => av = .string ra ∧ kv = .int .i64 rn ∧ Hid (Below (B + 1) w1 wx))
  case first => as_aux_lemma =>
    by_cases hk : k = 0
    · subst hk
      have hpe := textM_yes HX.out HR.out
      obtain ⟨q1, q2, q3, q4⟩ := wrapM_plain HX.out
      have HPT := Lib.hid (r4Print_any x (.slice vo n lc) w4 (by omega) (by omega) (by rw [q2]; exact HPN.out.num) HS4.out (fun j hj => by rw [HZ4.out]; omega) (by have := printT_plain q4; omega))
      unfold WPrintQ wv sv at HPT
      rw [hpe] at HPT
      simp only at HPT
      rw [HRA.out] at HPT
      obtain ⟨⟨x0, x1, x2, x3⟩, _⟩ := cells4 HX4.out
      clear hpe q1 q2 q3 q4
      go_wp2_with (go_at_call 22; go_loud (refine HPT.out.mono ?_); rintro e w5 ⟨rfl, hb⟩; have HB5 : Hid (Below (B + 1) w1 w5) := Lib.hid (HU4.out.trans (hb.mono (by rw [HZ4.out]; have := HBD.out; omega))); clear hb)
      go_meet
      case rel => exact ⟨rfl, rfl, HB5⟩
    · have hno := textM_no HX.out hk HR.out
      injection hno with hr hn
      subst hr hn
      have hra : ra = ⟨#[]⟩ := HRA.out.symm
      subst hra
      have n1 : (rn == 0) = false := by rw [beq_eq_false_iff_ne]; exact hk
      clear hk
      go_wp2_with fail
      go_meet
      case rel => exact ⟨rfl, rfl, HU4⟩
  case rest => as_aux_lemma =>
    obtain ⟨rfl, rfl, HBC⟩ := hcut
    have HBW : Hid (Below B W wc) := Lib.hid (HB1.out.trans (HBC.out.mono (Nat.le_succ B)))
    obtain ⟨P, hP⟩ : ∃ P, parseTM ts.data.toList = P := ⟨_, rfl⟩
    obtain ⟨q, g⟩ := P
    obtain ⟨Y, hY⟩ : ∃ Y, wrapParseE ts.data.toList = Y := ⟨_, rfl⟩
    obtain ⟨y, kk⟩ := Y
    have HP := Lib.hid hP
    have HY := Lib.hid hY
    have HPA := Lib.hid (mParse_is (s := ts) (HVX.out _ HBW.out) hP)
    unfold MPQ at HPA
    have HR4 := Lib.hid (fun u => r4Parse_at (s := ts) (w := u) hY)
    unfold WRQ at HR4
    have d1 := str_same ra
    have d2 : (rn != rn) = false := by simp
    have hbc := HBC.out.size
    rw [HZ1.out] at hbc
    clear hP hY HX HR HRA HPN HX4 HU4 HS4 HZ4 HBD HB2 HZ2
    go_upto_region 11 with (first
      | ((with_reducible refine wpList_at (.store 38 (.tmp 10) _) rfl ?_); go_loud (refine wpList_store_agg rfl _ _ _ rfl w6.heap.size 0 (pktA q) rfl rfl (there_of (heap_alloc_new w6 (.cells pkz.toArray 38)) 16 (by decide)) (by kernel_rfl) rfl ?_))
      | (go_at_call 23; go_loud (refine HPA.out.mono ?_); rintro e w6 ⟨rfl, hb⟩; have HB6 := Lib.hid hb; clear hb))
    obtain ⟨G, hG⟩ : ∃ D, w6.heap.size = D := ⟨_, rfl⟩
    obtain ⟨w7, hw7⟩ : ∃ u, w6.alloc (.cells pkz.toArray 38) = u := ⟨_, rfl⟩
    obtain ⟨w8, hw8⟩ : ∃ u, w7.setCells G 0 (pktA q) = u := ⟨_, rfl⟩
    obtain ⟨q1, q2, q3⟩ := pkt_put w6 q G hG w7 w8 hw7 hw8
    have HG8 := Lib.hid q1
    have HGB : Hid (B ≤ G) := Lib.hid (by rw [← hG]; have := HB6.out.size; omega)
    have HB8 : Hid (Below B W w8) := Lib.hid ((HBW.out.trans (HB6.out.mono (by omega))).trans (q2.mono HGB.out))
    have HGZ := Lib.hid q3
    rw [show (w6.alloc (.cells #[.int .u8 0, .int .u8 0, .bool false, .int .u64 0, .int .u8 0, .int .u8 0, .int .u64 0, .int .u8 0, .int .u8 0, .int .u16 0, .int .u32 0, .int .i64 0, .int .u8 0, .int .u32 0, .int .i64 0, .int .i64 0] 38)) = w7 from hw7, hG, hw8]
    clear hG hw7 hw8 q1 q2 q3 HB6 HPA d1 d2 hbc
    go_upto_region 12 with (go_at_call 24; go_loud (refine (HR4.out w8).mono ?_); rintro e w9 ⟨v, rfl, hs, hb⟩; have HB9 := Lib.hid hb; have HS9 := Lib.hid hs; obtain ⟨yo, yc, rfl, _, _⟩ := hs.form; clear hb hs; unfold wv)
    obtain ⟨E, hE⟩ : ∃ D, w9.heap.size = D := ⟨_, rfl⟩
    obtain ⟨m, hm⟩ : ∃ n, y.segs.length = n := ⟨_, rfl⟩
    rw [hm] at HS9 ⊢
    obtain ⟨w10, hw10⟩ : ∃ u, w9.alloc (.cells #[.int .u8 (y.fr : Int), .int .u8 (y.dst : Int), .int .u64 (y.rf : Int), .slice yo m yc] 41) = u := ⟨_, rfl⟩
    have HX10 : Hid (w10.heap[E]? = some (.cells #[.int .u8 (y.fr : Int), .int .u8 (y.dst : Int), .int .u64 (y.rf : Int), .slice yo m yc] 41 (0, 0))) := Lib.hid (by rw [← hw10, ← hE]; exact heap_alloc_new _ _)
    have HEG : Hid (G < E) := Lib.hid (by rw [← hE]; exact Nat.lt_of_lt_of_le HGZ.out HB9.out.size)
    have HU10 : Hid (Below w8.heap.size w8 w10) := Lib.hid (by rw [← hw10]; exact HB9.out.alloc HB9.out.size _)
    have HS10 : Hid (SegsAt (fun b => b < E) w10 (.slice yo m yc) y.segs) := Lib.hid (HS9.out.cong (fun j hj => by rw [← hE]; exact hj.2) (fun j hj => by rw [← hw10]; exact Below.heap_alloc _ _ _ hj.2))
    have HZ10 : Hid (w10.heap.size = E + 1) := Lib.hid (by rw [← hw10, ← hE]; simp)
    have HE8 : Hid (w8.heap.size ≤ E) := Lib.hid (by rw [← hE]; exact HB9.out.size)
    rw [hw10, hE]
    clear hw10 hE hm HS9 HB9 HR4
    go_upto_region 13 with fail
    obtain ⟨w11, hw11⟩ : ∃ u, w10.alloc (.cells pkz.toArray 38) = u := ⟨_, rfl⟩
    have HP11 : Hid (w11.heap[E + 1]? = some (.cells pkz.toArray 38 (0, 0))) := Lib.hid (by rw [← hw11, ← HZ10.out]; exact heap_alloc_new _ _)
    have HU11 : Hid (Below w8.heap.size w8 w11) := Lib.hid (by rw [← hw11]; exact HU10.out.alloc HU10.out.size _)
    have HX11 : Hid (w11.heap[E]? = some (.cells #[.int .u8 (y.fr : Int), .int .u8 (y.dst : Int), .int .u64 (y.rf : Int), .slice yo m yc] 41 (0, 0))) := Lib.hid (by rw [← hw11]; exact (Below.heap_alloc _ _ _ (by rw [HZ10.out]; exact Nat.lt_succ_self E)).trans HX10.out)
    have HS11 : Hid (SegsAt (fun b => b < E) w11 (.slice yo m yc) y.segs) := Lib.hid (HS10.out.cong (fun _ h => h) (fun j hj => by rw [← hw11]; exact Below.heap_alloc _ _ _ (by rw [HZ10.out]; exact Nat.lt_succ_of_lt hj)))
    have HZ11 : Hid (w11.heap.size = E + 2) := Lib.hid (by rw [← hw11]; simp [HZ10.out])
    rw [show (w10.alloc (.cells #[.int .u8 0, .int .u8 0, .bool false, .int .u64 0, .int .u8 0, .int .u8 0, .int .u64 0, .int .u8 0, .int .u8 0, .int .u16 0, .int .u32 0, .int .i64 0, .int .u8 0, .int .u32 0, .int .i64 0, .int .i64 0] 38)) = w11 from hw11, HZ10.out]
    have HBZ : Hid (B ≤ w8.heap.size ∧ w8.heap.size ≤ E) := Lib.hid ⟨by have := HGZ.out; have := HGB.out; omega, by have := HU10.out.size; rw [HZ10.out] at this; exact HE8.out⟩
    clear hw11 HU10 HX10 HS10 HZ10
    go_upto_if 55 with fail
    go_cut [13] (fun kv wx => kv = .int .i64 g ∧ Hid (wx.heap[E + 1]? = some (.cells (pktA q).toArray 38 (0, 0))) ∧ Hid (Below w8.heap.size w8 wx))
    case first => as_aux_lemma =>
      by_cases hk : kk = 0
      · subst hk
        have hpy := parseTM_yes HY.out HP.out
        have HRP := Lib.hid (rPacket_any y (.slice yo m yc) w11 HS11.out (fun j hj => by rw [HZ11.out]; omega))
        unfold PacketQ wv at HRP
        rw [hpy] at HRP
        simp only at HRP
        obtain ⟨⟨x0, x1, x2, x3⟩, _⟩ := cells4 HX11.out
        clear hpy
        go_wp2_with (first
          | ((with_reducible refine wpList_at (.store 38 (.tmp 14) _) rfl ?_); go_loud (refine wpList_store_agg rfl _ _ _ rfl (E + 1) 0 (pktA q) rfl rfl (there_of HP12.out 16 (by decide)) (by kernel_rfl) rfl ?_))
          | (go_at_call 20; go_loud (refine HRP.out.mono ?_); rintro e w12 ⟨rfl, hb⟩; have HB12 := Lib.hid hb; have HP12 : Hid (w12.heap[E + 1]? = some (.cells pkz.toArray 38 (0, 0))) := Lib.hid ((hb.block (E + 1) (by rw [HZ11.out]; omega)).trans HP11.out); clear hb))
        go_meet
        case rel => exact ⟨rfl, Lib.hid (putL_heap (cs := pkz) HP12.out (pktA q) rfl), Lib.hid (putL_below (Nat.le_succ_of_le HBZ.out.2) _ _ _ (HU11.out.trans (HB12.out.mono (by rw [HZ11.out]; have := HBZ.out.2; omega))))⟩
      · have hno := parseTM_no HY.out hk HP.out
        injection hno with hr hn
        subst hr hn
        have n1 : (g == 0) = false := by rw [beq_eq_false_iff_ne]; exact hk
        clear hk
        go_wp2_with fail
        go_meet
        case rel => exact ⟨rfl, HP11, HU11⟩
    case rest => as_aux_lemma =>
      obtain ⟨rfl, HPC, HUC⟩ := hcut
      have HBW : Hid (Below B W wc) := Lib.hid (HB8.out.trans (HUC.out.mono HBZ.out.1))
      have HGC : Hid (wc.heap[G]? = some (.cells (pktA q).toArray 38 (0, 0))) := Lib.hid ((HUC.out.block G HGZ.out).trans HG8.out)
      have hself := fun u => eql_pkt q q u
      rw [show eqP q q = true from eqP_iff.2 rfl] at hself
      have hgg := int_same g
      have HBL : Hid (B ≤ wc.heap.size) := Lib.hid (Nat.le_trans HBZ.out.1 HUC.out.size)
      clear HX11 HS11 HZ11 HP11 HU11
      go_wp2_with (first
        | ((with_reducible refine wpList_at (.load 38 (.tmp 10)) rfl ?_); go_loud (refine wpList_load_mid rfl 38 _ rfl G 0 rfl (pktA q) _ (range_pk HGC.out) Tryz.underlying38 rfl (by kernel_rfl) ?_))
        | ((with_reducible refine wpList_at (.load 38 (.tmp 14)) rfl ?_); go_loud (refine wpList_load_mid rfl 38 _ rfl (E + 1) 0 rfl (pktA q) _ (range_pk HPC.out) Tryz.underlying38 rfl (by kernel_rfl) ?_))
        | (go_at_call 16; go_loud (refine (tells_any _ (HVX.out _ HBW.out)).mono ?_); rintro e u ⟨rfl, hb⟩; have HBU : Hid (Below B W u) := Lib.hid (HBW.out.trans (hb.mono HBL.out)); clear hb))
      go_ret
      exact ⟨rfl, HBU.out⟩
end Go.Proofs.YtgfijlamhjjecaaGreatDoor
