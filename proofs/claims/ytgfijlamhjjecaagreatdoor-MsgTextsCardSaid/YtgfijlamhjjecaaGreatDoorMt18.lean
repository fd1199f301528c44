/-
  Texts MsgR8, one behind the other. No condition beyond those stated in each.
-/
import Derived.Test.YtgfijlamhjjecaaGreatDoorMt17
namespace Go.Proofs.YtgfijlamhjjecaaGreatDoor
open Go.RowKit
set_option maxRecDepth 100000 in
set_option maxHeartbeats 16000000 in
theorem rPacket_any {S : Nat → Prop} (x : WD) (v : Value) (w : World) (hs : SegsAt S w v x.segs) (hS : ∀ k, S k → k < w.heap.size) : Calls Tryz.prog 20 #[wv x v] w fun e w' => PacketQ x w e w' := by
  obtain ⟨B, hB⟩ : ∃ B, w.heap.size = B := ⟨_, rfl⟩
  have HBQ := Lib.hid hB
  obtain ⟨vo, cap, rfl, hc1, hc2⟩ := hs.form
  unfold maxLen at hc2
  obtain ⟨n, hn⟩ : ∃ n, x.segs.length = n := ⟨_, rfl⟩
  have HN := Lib.hid hn
  rw [hn] at hs hc1 ⊢
  obtain ⟨w1, hw1⟩ : ∃ u, w.alloc (.cells #[.int .u8 (x.fr : Int), .int .u8 (x.dst : Int), .int .u64 (x.rf : Int), .slice vo n cap] 41) = u := ⟨_, rfl⟩
  obtain ⟨w2, hw2⟩ : ∃ u, w1.alloc (.cells #[.int .u8 0, .int .u8 0, .bool false, .int .u64 0, .int .u8 0, .int .u8 0, .int .u64 0, .int .u8 0, .int .u8 0, .int .u16 0, .int .u32 0, .int .i64 0, .int .u8 0, .int .u32 0, .int .i64 0, .int .i64 0] 38) = u := ⟨_, rfl⟩
  obtain ⟨w3, hw3⟩ : ∃ u, w2.alloc (.cells #[.int .u8 (x.fr : Int), .int .u8 (x.dst : Int), .bool false, .int .u64 (x.rf : Int), .int .u8 0, .int .u8 0, .int .u64 0, .int .u8 0, .int .u8 0, .int .u16 0, .int .u32 0, .int .i64 0, .int .u8 0, .int .u32 0, .int .i64 0, .int .i64 0] 38) = u := ⟨_, rfl⟩
  obtain ⟨B1, hB1⟩ : ∃ u, w1.heap.size = u := ⟨_, rfl⟩
  obtain ⟨B2, hB2⟩ : ∃ u, w2.heap.size = u := ⟨_, rfl⟩
  have q1 : B1 = B + 1 := by rw [← hB1, ← hw1, ← hB]; simp
  have q2 : B2 = B1 + 1 := by rw [← hB2, ← hw2, ← hB1]; simp
  have HQ1 : Hid (B + 1 = B1) := Lib.hid q1.symm
  have HBB1 : Hid (w.heap.size ≤ B1) := Lib.hid (by omega)
  have HBB : Hid (w.heap.size < B1 ∧ B = w.heap.size ∧ B1 < B2) := Lib.hid (by omega)
  have HX1 : Hid (w1.heap[B]? = some (.cells #[.int .u8 (x.fr : Int), .int .u8 (x.dst : Int), .int .u64 (x.rf : Int), .slice vo n cap] 41 (0, 0))) := Lib.hid (by rw [← hw1, ← hB]; exact heap_alloc_new _ _)
  have HBW1 : Hid (Below w.heap.size w w1) := Lib.hid (by rw [← hw1]; exact (Below.refl _ _).alloc (Nat.le_refl _) _)
  have HU2 : Hid (Below B1 w1 w2) := Lib.hid (by rw [← hw2, ← hB1]; exact (Below.refl _ _).alloc (Nat.le_refl _) _)
  have HX2 : Hid (w2.heap[B]? = some (.cells #[.int .u8 (x.fr : Int), .int .u8 (x.dst : Int), .int .u64 (x.rf : Int), .slice vo n cap] 41 (0, 0))) := Lib.hid ((HU2.out.block B (by omega)).trans HX1.out)
  have HR2 : Hid (w2.heap[B1]? = some (.cells #[.int .u8 0, .int .u8 0, .bool false, .int .u64 0, .int .u8 0, .int .u8 0, .int .u64 0, .int .u8 0, .int .u8 0, .int .u16 0, .int .u32 0, .int .i64 0, .int .u8 0, .int .u32 0, .int .i64 0, .int .i64 0] 38 (0, 0))) := Lib.hid (by rw [← hw2, ← hB1]; exact heap_alloc_new _ _)
  have HBW2 : Hid (Below w.heap.size w w2) := Lib.hid (HBW1.out.trans (HU2.out.mono HBB1.out))
  have HS2 : Hid (SegsAt (fun b => b < B) w2 (.slice vo n cap) x.segs) := Lib.hid (hs.cong (fun b hb => by rw [← hB]; exact hS b hb) (fun b hb => HBW2.out.block b (hS b hb)))
  have HP3 : Hid (PSt B2 w2 ⟨x.fr, x.dst, false, x.rf, md0⟩ w3) := Lib.hid ⟨by rw [← hw3, ← hB2]; exact (Below.refl _ _).alloc (Nat.le_refl _) _, by rw [← hw3, ← hB2]; exact heap_alloc_new _ _⟩
  have HX3 : Hid (w3.heap[B]? = some (.cells #[.int .u8 (x.fr : Int), .int .u8 (x.dst : Int), .int .u64 (x.rf : Int), .slice vo n cap] 41 (0, 0))) := Lib.hid ((HP3.out.low.block B (by omega)).trans HX2.out)
  have HZ2 := Lib.hid hB2
  have HW1 := Lib.hid hw1
  have HW2 := Lib.hid hw2
  have HW3 := Lib.hid hw3
  have HQX : Hid (packetM x = packetRM x) := Lib.hid (packetRM_eq x).symm
  clear hB hw1 hw2 hw3 hB1 hB2 q1 q2 hs hS hn
  unfold wv
  obtain ⟨⟨d0, d1, d2, d3⟩, _⟩ := cells4 HX2.out
  go_enter Tryz.func20, Tryz.ntmps20
  go_upto_region 1 with fail
  rw [HW1.out, HW2.out, HBQ.out, HQ1.out]
  by_cases hcar : 8 ≤ x.fr ∨ 8 ≤ x.dst
  · have HQ := Lib.hid (pktR_car hcar)
    by_cases hfr : 8 ≤ x.fr
    · have i1 : decide ((8 : Int) ≤ (x.fr : Int)) = true := by rw [decide_eq_true_eq]; omega
      clear hcar hfr
      go_wp2_with ((with_reducible refine wpList_at (.store 38 (.tmp 2) (.tmp 29)) rfl ?_); go_loud (refine wpList_store_agg rfl _ _ _ rfl B1 0 pkz rfl rfl (there_of HR2.out 16 (by decide)) (by kernel_rfl) rfl ?_))
      refine bodyPost_ret (res_pkt rfl _ rfl rfl (putL_heap (cs := pkz) HR2.out pkz rfl) rfl) rfl ?_
      exact pq_err HQ.out (putL_below HBB1.out _ _ _ HBW2.out)
    · have i1 : decide ((8 : Int) ≤ (x.fr : Int)) = false := by rw [decide_eq_false_iff_not]; omega
      have i2 : decide ((8 : Int) ≤ (x.dst : Int)) = true := by rw [decide_eq_true_eq]; omega
      clear hcar hfr
      go_wp2_with ((with_reducible refine wpList_at (.store 38 (.tmp 2) (.tmp 29)) rfl ?_); go_loud (refine wpList_store_agg rfl _ _ _ rfl B1 0 pkz rfl rfl (there_of HR2.out 16 (by decide)) (by kernel_rfl) rfl ?_))
      refine bodyPost_ret (res_pkt rfl _ rfl rfl (putL_heap (cs := pkz) HR2.out pkz rfl) rfl) rfl ?_
      exact pq_err HQ.out (putL_below HBB1.out _ _ _ HBW2.out)
  · have i1 : decide ((8 : Int) ≤ (x.fr : Int)) = false := by rw [decide_eq_false_iff_not]; omega
    have i2 : decide ((8 : Int) ≤ (x.dst : Int)) = false := by rw [decide_eq_false_iff_not]; omega
    have HCAR := Lib.hid hcar
    clear hcar
    go_upto_region 4 with fail
    rw [HW3.out, HZ2.out]
    clear d0 d1 d2 d3
    obtain ⟨⟨d0, d1, d2, d3⟩, _⟩ := cells4 HX3.out
    go_upto_region 5 with fail
    clear d0 d1 d2 d3 i1 i2
    have HRX : Hid (∀ u, Below B2 w2 u → u.heap[B1]? = some (.cells #[.int .u8 0, .int .u8 0, .bool false, .int .u64 0, .int .u8 0, .int .u8 0, .int .u64 0, .int .u8 0, .int .u8 0, .int .u16 0, .int .u32 0, .int .i64 0, .int .u8 0, .int .u32 0, .int .i64 0, .int .i64 0] 38 (0, 0))) := Lib.hid (fun u hb => (hb.block B1 (by have := HBB.out; omega)).trans HR2.out)
    have HSX : Hid (∀ u, Below B2 w2 u → SegsAt (fun b => b < B) u (.slice vo n cap) x.segs) := Lib.hid (fun u hb => HS2.out.cong (fun _ h => h) (fun b hb' => hb.block b (by have := HBB.out; omega)))
    have HBX : Hid (∀ u, Below B2 w2 u → Below w.heap.size w u) := Lib.hid (fun u hb => HBW2.out.trans (hb.mono (by have := HBB.out; omega)))
    obtain ⟨kb, hkb⟩ : ∃ q, ackX x.segs = q := ⟨_, rfl⟩
    have HKB := Lib.hid hkb
    clear hkb
    go_cut [56] (fun bv wr => bv = .bool kb ∧ Hid (wr = w3))
    case first => as_aux_lemma =>
      have hseg := HSX.out w3 HP3.out.low
      by_cases hn0 : 0 < n
      · have j0 : decide ((0 : Int) < (n : Int)) = true := by rw [decide_eq_true_eq]; omega
        have j0' : (0 : Int) < (n : Int) := by omega
        obtain ⟨⟨tg, es⟩, hx0⟩ : ∃ s, x.segs[0]? = some s := ⟨_, List.getElem?_eq_getElem (by rw [HN.out]; exact hn0)⟩
        obtain ⟨lb, lo, ev, hA, hlb, c0, c1, hel⟩ := hseg.get hx0
        obtain rfl : vo = some ⟨lb, lo, none⟩ := hA
        obtain ⟨ea, ec, rfl, he1, he2⟩ := hel.form
        obtain ⟨m, hm⟩ : ∃ m, es.length = m := ⟨_, rfl⟩
        simp only [Nat.zero_mul, Nat.add_zero] at c0 c1
        rw [hm] at c1
        obtain ⟨sb, hsb⟩ : ∃ sb : ByteArray, (⟨tg.toArray⟩ : ByteArray) = sb := ⟨_, rfl⟩
        rw [show sv tg = .string sb from by unfold sv; rw [hsb]] at c0
        have hax : kb = (decide (tg = tACK) && es.isEmpty) := by
          rw [← HKB.out]
          unfold ackX
          match hxs : x.segs, hx0 with
          | s :: r, hx0 => simp at hx0; rw [hx0]; rfl
        have hst : (sb.toList == [65, 67, 75]) = decide (tg = tACK) := by
          rw [← hsb, ByteArray.toList_eq]
          show (tg == tACK) = _
          rw [Bool.eq_iff_iff]; simp
        have hem : es.isEmpty = decide (m = 0) := by rw [← hm]; cases es <;> simp
        rw [hem] at hax
        clear hseg hx0 hel hm hsb hem he1
        by_cases ht : tg = tACK
        · rw [decide_eq_true ht] at hst hax
          by_cases hm0 : m = 0
          · obtain rfl : kb = true := by rw [hax, decide_eq_true hm0]; rfl
            have j1 : ((m : Int) == 0) = true := by rw [beq_iff_eq]; omega
            subst hm0
            clear hax ht
            go_wp2_with fail
            go_meet
            case rel => exact ⟨rfl, Lib.hid rfl⟩
          · obtain rfl : kb = false := by rw [hax, decide_eq_false hm0]; rfl
            have j1 : ((m : Int) == 0) = false := by rw [beq_eq_false_iff_ne]; omega
            clear hax ht
            go_wp2_with fail
            go_meet
            case rel => exact ⟨rfl, Lib.hid rfl⟩
        · rw [decide_eq_false ht] at hst hax
          obtain rfl : kb = false := by rw [hax]; rfl
          clear hax ht
          go_wp2_with fail
          go_meet
          case rel => exact ⟨rfl, Lib.hid rfl⟩
      · have j0 : decide ((0 : Int) < (n : Int)) = false := by rw [decide_eq_false_iff_not]; omega
        obtain rfl : kb = false := by
          rw [← HKB.out]
          have h1 : x.segs = [] := List.length_eq_zero_iff.1 (by rw [HN.out]; omega)
          rw [h1]; rfl
        clear hseg
        go_wp2_with fail
        go_meet
        case rel => exact ⟨rfl, Lib.hid rfl⟩
    case rest => as_aux_lemma =>
      obtain ⟨rfl, hw⟩ := hcut
      rw [hw.out]
      clear hw
      have HPR : Hid (packetRM x = if kb = true then (if x.segs.length ≠ 1 then (pd0, 101) else (⟨x.fr, x.dst, true, x.rf, md0⟩, 0)) else packetRM x) := Lib.hid (by
        cases hk : kb with
        | false => rfl
        | true =>
          have h1 := HKB.out
          unfold ackX at h1
          unfold packetRM
          rw [if_neg HCAR.out, if_pos (by rw [hk] at h1; exact h1), if_pos rfl])
      cases kb with
      | true => as_aux_lemma =>
        have hpr := HPR.out
        rw [if_pos rfl] at hpr
        by_cases hn1 : n = 1
        · have j0 : ((n : Int) != 1) = false := by rw [bne_eq_false_iff_eq]; omega
          rw [if_neg (by rw [HN.out]; exact fun h => h hn1)] at hpr
          have HQ : Hid (packetM x = (⟨x.fr, x.dst, true, x.rf, md0⟩, 0)) := Lib.hid (by rw [HQX.out, hpr])
          have HR3 := Lib.hid (HRX.out w3 HP3.out.low)
          have hrow := HP3.out.row
          have f2 : w3.frozen? ⟨B2, 2, none⟩ = false := frozen_of_row w3 B2 2 _ _ hrow
          have c2 : w3.cell? ⟨B2, 2, none⟩ = some (.bool false) := cell_of_row w3 B2 2 _ _ _ hrow
          clear hpr hn1 hrow
          go_upto_region 9 with fail
          obtain ⟨w4, hw4⟩ : ∃ u, w3.setCell ⟨B2, 2, none⟩ (.bool true) = u := ⟨_, rfl⟩
          have HP4 : Hid (PSt B2 w2 ⟨x.fr, x.dst, true, x.rf, md0⟩ w4) := Lib.hid ⟨by rw [← hw4]; exact HP3.out.low.setCell (Nat.le_refl _) _, by rw [← hw4]; exact heap_setCell_same w3 B2 2 _ _ _ HP3.out.row⟩
          rw [hw4]
          clear hw4 f2 c2 HP3 HR3
          have HR4 := Lib.hid (HRX.out w4 HP4.out.low)
          have hrow := HP4.out.row
          unfold pktA msgA md0 cd0 at hrow
          simp only [List.cons_append, List.nil_append, Int.natCast_zero] at hrow
          obtain ⟨e0, e1, e2, e3, e4, e5, e6, e7, e8, e9, e10, e11, e12, e13, e14, e15⟩ := (cells16 hrow).1
          clear hrow
          go_wp2_with ((with_reducible refine wpList_at (.store 38 (.tmp 2) (.tmp 62)) rfl ?_); go_loud (refine wpList_store_agg rfl _ _ _ rfl B1 0 (pktA ⟨x.fr, x.dst, true, x.rf, md0⟩) rfl rfl (there_of HR4.out 16 (by decide)) (by kernel_rfl) rfl ?_))
          refine bodyPost_ret (res_pkt rfl _ rfl rfl (putL_heap (cs := pkz) HR4.out (pktA ⟨x.fr, x.dst, true, x.rf, md0⟩) rfl) rfl) rfl ?_
          unfold PacketQ
          rw [HQ.out]
          exact ⟨rfl, putL_below HBB1.out _ _ _ (HBX.out w4 HP4.out.low)⟩
        · have j0 : ((n : Int) != 1) = true := by rw [bne_iff_ne]; omega
          rw [if_pos (by rw [HN.out]; exact hn1)] at hpr
          have HQ : Hid (packetM x = (pd0, 101)) := Lib.hid (by rw [HQX.out, hpr])
          have HR3 := Lib.hid (HRX.out w3 HP3.out.low)
          have HB3 := Lib.hid (HBX.out w3 HP3.out.low)
          clear hpr hn1
          go_wp2_with ((with_reducible refine wpList_at (.store 38 (.tmp 2) (.tmp 60)) rfl ?_); go_loud (refine wpList_store_agg rfl _ _ _ rfl B1 0 pkz rfl rfl (there_of HR3.out 16 (by decide)) (by kernel_rfl) rfl ?_))
          refine bodyPost_ret (res_pkt rfl _ rfl rfl (putL_heap (cs := pkz) HR3.out pkz rfl) rfl) rfl ?_
          exact pq_err HQ.out (putL_below HBB1.out _ _ _ HB3.out)
      | false =>
        have HRP : Hid (packetM x = restPK x) := Lib.hid (by rw [HQX.out]; exact restPK_eq HCAR.out HKB.out)
        clear HPR HQX
        have HNU := Lib.hid (nums_any x.segs (.slice vo n cap) 0 (by decide) ⟨#[77, 83, 71]⟩ _ [false] (by decide) _ (HSX.out _ (HP3.out.alloc (.cells #[.bool false] 4)).low) (fun k hk => by have := HBB.out; have h2 := HP3.out.lt; have h3 := HBB.out; simp; omega) (boolsAt_new w3 [false]))
        go_wp2_with fail
        refine HNU.out.mono ?_
        clear HNU
        rintro e w5 ⟨hq, hb⟩
        have HP5 : Hid (PSt B2 w2 ⟨x.fr, x.dst, false, x.rf, md0⟩ w5) := Lib.hid ((HP3.out.alloc (.cells #[.bool false] 4)).on hb)
        clear hb
        have HR5 := Lib.hid (HRX.out w5 HP5.out.low)
        have HB5 := Lib.hid (HBX.out w5 HP5.out.low)
        rcases hq with ⟨ls, v, hls, rfl, ho⟩ | ⟨hno, rfl⟩
        case inr =>
          have HQ : Hid (packetM x = (pd0, 100)) := Lib.hid (HRP.out.trans (rp_none hno))
          clear hno
          go_wp2_with ((with_reducible refine wpList_at (.store 38 (.tmp 2) (.tmp 77)) rfl ?_); go_loud (refine wpList_store_agg rfl _ _ _ rfl B1 0 pkz rfl rfl (there_of HR5.out 16 (by decide)) (by kernel_rfl) rfl ?_))
          refine bodyPost_ret (res_pkt rfl _ rfl rfl (putL_heap (cs := pkz) HR5.out pkz rfl) rfl) rfl ?_
          exact pq_err HQ.out (putL_below HBB1.out _ _ _ HB5.out)
        case inl =>
          obtain ⟨k, rfl, hk0⟩ := segR_one hls
          have hk0 := hk0 rfl
          unfold I64s at ho
          obtain ⟨kb, kc, _, rfl, _⟩ := own_form ho (by simp) (by decide)
          have ck : w5.cell? ⟨kb, 0, none⟩ = some (.int .i64 k) := own_cell ho (by rfl)
          by_cases hbig : 255 < k
          · have HQ : Hid (packetM x = (pd0, 100)) := Lib.hid (HRP.out.trans (rp_big hls hbig))
            have i1 : decide ((255 : Int) < k) = true := by rw [decide_eq_true_eq]; omega
            clear hls ho hbig hk0
            go_wp2_with ((with_reducible refine wpList_at (.store 38 (.tmp 2) (.tmp 77)) rfl ?_); go_loud (refine wpList_store_agg rfl _ _ _ rfl B1 0 pkz rfl rfl (there_of HR5.out 16 (by decide)) (by kernel_rfl) rfl ?_))
            refine bodyPost_ret (res_pkt rfl _ rfl rfl (putL_heap (cs := pkz) HR5.out pkz rfl) rfl) rfl ?_
            exact pq_err HQ.out (putL_below HBB1.out _ _ _ HB5.out)
          · have i1 : decide ((255 : Int) < k) = false := by rw [decide_eq_false_iff_not]; omega
            obtain ⟨kn, hkn⟩ : ∃ m : Nat, k.toNat = m := ⟨_, rfl⟩
            obtain rfl : k = (kn : Int) := by omega
            have HKN : Hid ((kn : Int).toNat = kn ∧ segR tMSG [false] x.segs[0]? = some [(kn : Int)] ∧ ¬ (255 : Int) < kn) := Lib.hid ⟨hkn, hls, hbig⟩
            have gk : IntKind.u8.wrap (kn : Int) = (kn : Int) := IntWalk.u8_in _ (by omega)
            have f4 : w5.frozen? ⟨B2, 4, none⟩ = false := frozen_of_row w5 B2 4 _ _ HP5.out.row
            have c4 : w5.cell? ⟨B2, 4, none⟩ = some (.int .u8 0) := cell_of_row w5 B2 4 _ _ _ HP5.out.row
            clear hls ho hbig hk0 hkn
            go_upto_region 14 with fail
            obtain ⟨w6, hw6⟩ : ∃ u, w5.setCell ⟨B2, 4, none⟩ (.int .u8 (kn : Int)) = u := ⟨_, rfl⟩
            have HP6 : Hid (PSt B2 w2 ⟨x.fr, x.dst, false, x.rf, ⟨kn, 0, 0, 0, cd0, 0, 0⟩⟩ w6) := Lib.hid (by rw [← hw6]; exact HP5.out.set 4 _ rfl)
            rw [hw6]
            clear hw6 i1 gk f4 c4 ck HR5 HB5 HP5
            have HR6 := Lib.hid (HRX.out w6 HP6.out.low)
            have HB6 := Lib.hid (HBX.out w6 HP6.out.low)
            have c4 : w6.cell? ⟨B2, 4, none⟩ = some (.int .u8 (kn : Int)) := cell_of_row w6 B2 4 _ _ _ HP6.out.row
            cases hk : hasK kn with
            | none => as_aux_lemma =>
              have HQ : Hid (packetM x = (pd0, 100)) := Lib.hid (HRP.out.trans (rp_kind HKN.out.2.1 (by have := HKN.out.2.2; omega) (by rw [HKN.out.1]; exact hk)))
              go_upto_region 15 with (go_at_call 46; refine (has_any _ _).mono ?_; rw [hk]; rintro e w' ⟨rfl, hww⟩; rw [hww]; clear hww w'; unfold hasV)
              clear hk
              go_wp2_with ((with_reducible refine wpList_at (.store 38 (.tmp 2) (.tmp 95)) rfl ?_); go_loud (refine wpList_store_agg rfl _ _ _ rfl B1 0 pkz rfl rfl (there_of HR6.out 16 (by decide)) (by kernel_rfl) rfl ?_))
              refine bodyPost_ret (res_pkt rfl _ rfl rfl (putL_heap (cs := pkz) HR6.out pkz rfl) rfl) rfl ?_
              exact pq_err HQ.out (putL_below HBB1.out _ _ _ HB6.out)
            | some f =>
              obtain ⟨fa, fb, fc⟩ := f
              have HHK := Lib.hid hk
              go_upto_region 15 with (go_at_call 46; refine (has_any _ _).mono ?_; rw [hk]; rintro e w' ⟨rfl, hww⟩; rw [hww]; clear hww w'; unfold hasV)
              clear hk
              go_upto_region 17 with fail
              clear c4
              obtain ⟨kq, hkq⟩ : ∃ q, keyN x.segs = q := ⟨_, rfl⟩
              have HKQ := Lib.hid hkq
              clear hkq
              go_cut [133] from 96 to 133 (fun bv wr => bv = .bool kq ∧ Hid (wr = w6))
              case first => as_aux_lemma =>
                have hseg := HSX.out w6 HP6.out.low
                by_cases hn2 : n < 2
                · have j0 : decide ((n : Int) < 2) = true := by rw [decide_eq_true_eq]; omega
                  obtain rfl : kq = true := by
                    rw [← HKQ.out]
                    unfold keyN
                    rw [List.getElem?_eq_none (by rw [HN.out]; omega)]
                  clear hseg
                  go_wp2_with fail
                  go_meet
                  case rel => exact ⟨rfl, Lib.hid rfl⟩
                · have j0 : decide ((n : Int) < 2) = false := by rw [decide_eq_false_iff_not]; omega
                  have j0' : (1 : Int) < (n : Int) := by omega
                  obtain ⟨⟨tg, es⟩, hx1⟩ : ∃ s, x.segs[1]? = some s := ⟨_, List.getElem?_eq_getElem (by rw [HN.out]; omega)⟩
                  obtain ⟨lb, lo, ev, hA, hlb, c0, c1, hel⟩ := hseg.get hx1
                  obtain rfl : vo = some ⟨lb, lo, none⟩ := hA
                  obtain ⟨ea, ec, rfl, he1, he2⟩ := hel.form
                  have hkx : kq = (wordsS ⟨tg, es⟩ tKEY 2).isNone := by
                    rw [← HKQ.out]
                    unfold keyN
                    rw [hx1]
                  obtain ⟨m, hm⟩ : ∃ m, es.length = m := ⟨_, rfl⟩
                  simp only [Nat.one_mul] at c0 c1
                  rw [hm] at c1 hel
                  obtain ⟨sb, hsb⟩ : ∃ sb : ByteArray, (⟨tg.toArray⟩ : ByteArray) = sb := ⟨_, rfl⟩
                  rw [show sv tg = .string sb from by unfold sv; rw [hsb]] at c0
                  have hst : (sb.toList == [75, 69, 89]) = decide (tg = tKEY) := by
                    rw [← hsb, ByteArray.toList_eq]
                    show (tg == tKEY) = _
                    rw [Bool.eq_iff_iff]; simp
                  clear hseg hx1 hsb he1
                  by_cases ht : tg = tKEY
                  · rw [decide_eq_true ht] at hst
                    have hst2 : sb.toList = [75, 69, 89] := by simpa using hst
                    have hst3 : (sb.toList != [75, 69, 89]) = false := by rw [bne, hst]; rfl
                    by_cases hm2 : m = 2
                    · have j1 : ((m : Int) != 2) = false := by rw [bne_eq_false_iff_eq]; omega
                      obtain ⟨e1, e2, rfl⟩ : ∃ e1 e2, es = [e1, e2] := by
                        rw [hm2] at hm
                        match es, hm with
                        | [e1, e2], _ => exact ⟨e1, e2, rfl⟩
                      obtain ⟨eb, eo, x1, hE, heb, d0, hc1⟩ := hel.get (k := 0) rfl
                      obtain ⟨eb', eo', x2, hE', heb', d1, hc2⟩ := hel.get (k := 1) rfl
                      obtain rfl : ea = some ⟨eb, eo, none⟩ := hE
                      obtain ⟨rfl, rfl⟩ : eb = eb' ∧ eo = eo' := by injection hE' with h1; injection h1 with h1 h2; exact ⟨h1, h2⟩
                      obtain ⟨a1, k1, rfl, _, _⟩ := hc1.form
                      obtain ⟨a2, k2, rfl, _, _⟩ := hc2.form
                      obtain ⟨m1, hm1⟩ : ∃ m, e1.length = m := ⟨_, rfl⟩
                      obtain ⟨m2, hm2'⟩ : ∃ m, e2.length = m := ⟨_, rfl⟩
                      rw [hm1] at d0
                      rw [hm2'] at d1
                      simp only [Nat.add_zero] at d0
                      have hkw : kq = (decide (m1 ≠ 1) || decide (m2 ≠ 1)) := by
                        rw [hkx]
                        unfold wordsS
                        rw [if_pos ⟨ht, rfl⟩]
                        simp only [wordsL]
                        rw [← hm1, ← hm2']
                        match e1, e2 with
                        | [], _ => rfl
                        | [a], [] => rfl
                        | [a], [b] => rfl
                        | [a], _ :: _ :: _ => simp [oneW]
                        | _ :: _ :: _, _ => simp [oneW]
                      clear hkx ht hc1 hc2 hm1 hm2' hel hE' heb' he2 hm
                      subst hm2
                      by_cases hq1 : m1 = 1
                      · have j2 : ((m1 : Int) != 1) = false := by rw [bne_eq_false_iff_eq]; omega
                        by_cases hq2 : m2 = 1
                        · have j3 : ((m2 : Int) != 1) = false := by rw [bne_eq_false_iff_eq]; omega
                          obtain rfl : kq = false := by rw [hkw, decide_eq_false (by omega), decide_eq_false (by omega)]; rfl
                          clear hkw hq1 hq2
                          go_wp2_with fail
                          go_meet
                          case rel => exact ⟨rfl, Lib.hid rfl⟩
                        · have j3 : ((m2 : Int) != 1) = true := by rw [bne_iff_ne]; omega
                          obtain rfl : kq = true := by rw [hkw, decide_eq_true (show m2 ≠ 1 from hq2), Bool.or_true]
                          clear hkw hq1 hq2
                          go_wp2_with fail
                          go_meet
                          case rel => exact ⟨rfl, Lib.hid rfl⟩
                      · have j2 : ((m1 : Int) != 1) = true := by rw [bne_iff_ne]; omega
                        obtain rfl : kq = true := by rw [hkw, decide_eq_true (show m1 ≠ 1 from hq1), Bool.true_or]
                        clear hkw hq1
                        go_wp2_with fail
                        go_meet
                        case rel => exact ⟨rfl, Lib.hid rfl⟩
                    · have j1 : ((m : Int) != 2) = true := by rw [bne_iff_ne]; omega
                      obtain rfl : kq = true := by
                        rw [hkx]
                        unfold wordsS
                        rw [if_neg (fun h => hm2 (hm.symm.trans h.2))]
                        rfl
                      clear hkx ht hm2 hm hel
                      go_wp2_with fail
                      go_meet
                      case rel => exact ⟨rfl, Lib.hid rfl⟩
                  · rw [decide_eq_false ht] at hst
                    have hst2 : ¬ sb.toList = [75, 69, 89] := by simpa using hst
                    have hst3 : (sb.toList != [75, 69, 89]) = true := by rw [bne, hst]; rfl
                    obtain rfl : kq = true := by
                      rw [hkx]
                      unfold wordsS
                      rw [if_neg (fun h => ht h.1)]
                      rfl
                    clear hkx ht hm hel
                    go_wp2_with fail
                    go_meet
                    case rel => exact ⟨rfl, Lib.hid rfl⟩
              case rest =>
                obtain ⟨rfl, hw⟩ := hcut
                rw [hw.out]
                clear hw
                cases kq with
                | true => as_aux_lemma =>
                  have HQ : Hid (packetM x = (pd0, 101)) := Lib.hid (HRP.out.trans (rp_key HKN.out.2.1 (by have := HKN.out.2.2; omega) (by rw [HKN.out.1]; exact HHK.out) HKQ.out))
                  go_wp2_with ((with_reducible refine wpList_at (.store 38 (.tmp 2) (.tmp 134)) rfl ?_); go_loud (refine wpList_store_agg rfl _ _ _ rfl B1 0 pkz rfl rfl (there_of HR6.out 16 (by decide)) (by kernel_rfl) rfl ?_))
                  refine bodyPost_ret (res_pkt rfl _ rfl rfl (putL_heap (cs := pkz) HR6.out pkz rfl) rfl) rfl ?_
                  exact pq_err HQ.out (putL_below HBB1.out _ _ _ HB6.out)
                | false =>
                  obtain ⟨y, t, u, hy, hyt, hye, hrp⟩ := rp_go HKN.out.2.1 (by have := HKN.out.2.2; omega) (by rw [HKN.out.1]; exact HHK.out) HKQ.out
                  have HRQ : Hid (packetM x = if (parse7 t).2 ≠ 0 then (pd0, (parse7 t).2) else tailPK x (fa, fb, fc) kn t u) := Lib.hid (HRP.out.trans (by rw [hrp, HKN.out.1]))
                  clear hrp HRP HKQ
                  obtain ⟨lb, lo, eb, eo, ec, b1, o1, k1, b2, o2, k2, rfl, hlb, heb, hb1, hb2, c1, d0, d1, g1, g2⟩ := key_lie (HSX.out w2 (Below.refl _ _)) hy hye
                  have HN2 : Hid (2 ≤ n) := Lib.hid (by have h := (List.getElem?_eq_some_iff.1 hy).1; rw [HN.out] at h; omega)
                  clear hy hyt hye
                  obtain ⟨tb, htb⟩ : ∃ tb : ByteArray, (⟨t.toArray⟩ : ByteArray) = tb := ⟨_, rfl⟩
                  obtain ⟨ub, hub⟩ : ∃ ub : ByteArray, (⟨u.toArray⟩ : ByteArray) = ub := ⟨_, rfl⟩
                  rw [show sv t = .string tb from by unfold sv; rw [htb]] at g1
                  rw [show sv u = .string ub from by unfold sv; rw [hub]] at g2
                  obtain rfl : tb.data.toList = t := by rw [← htb]
                  obtain rfl : ub.data.toList = u := by rw [← hub]
                  clear htb hub
                  have HCL : Hid (∀ v', Below B2 w2 v' → v'.cell? ⟨lb, lo + 2 + 1, none⟩ = some (.slice (some ⟨eb, eo, none⟩) 2 ec) ∧ v'.cell? ⟨eb, eo, none⟩ = some (.slice (some ⟨b1, o1, none⟩) 1 k1) ∧ v'.cell? ⟨eb, eo + 1, none⟩ = some (.slice (some ⟨b2, o2, none⟩) 1 k2) ∧ v'.cell? ⟨b1, o1, none⟩ = some (.string tb) ∧ v'.cell? ⟨b2, o2, none⟩ = some (.string ub)) := Lib.hid (fun v' hb => by
                    have h3 := HBB.out
                    exact ⟨(hb.cell (p := ⟨lb, lo + 2 + 1, none⟩) (by show lb < B2; omega)).trans c1, (hb.cell (p := ⟨eb, eo, none⟩) (by show eb < B2; omega)).trans d0, (hb.cell (p := ⟨eb, eo + 1, none⟩) (by show eb < B2; omega)).trans d1, (hb.cell (p := ⟨b1, o1, none⟩) (by show b1 < B2; omega)).trans g1, (hb.cell (p := ⟨b2, o2, none⟩) (by show b2 < B2; omega)).trans g2⟩)
                  clear c1 d0 d1 g1 g2 hlb heb hb1 hb2
                  have hn1 : (1 : Int) < (n : Int) := by have := HN2.out; omega
                  obtain ⟨c1, d0, d1, g1, g2⟩ := HCL.out w6 HP6.out.low
                  clear d1 g2
                  go_wp2_with fail
                  refine (r7Parse_any tb _).mono ?_
                  rintro e w7 hq
                  unfold Parse7Q tkv at hq
                  obtain ⟨rfl, hb⟩ := hq
                  clear c1 d0 g1
                  have HP7 : Hid (PSt B2 w2 ⟨x.fr, x.dst, false, x.rf, ⟨kn, 0, 0, 0, cd0, 0, 0⟩⟩ w7) := Lib.hid (HP6.out.on hb)
                  clear hb HP6 HR6 HB6
                  obtain ⟨tc, htc⟩ : ∃ c, (parse7 tb.data.toList).1.1 = c := ⟨_, rfl⟩
                  obtain ⟨ts, hts⟩ : ∃ c, (parse7 tb.data.toList).1.2 = c := ⟨_, rfl⟩
                  obtain ⟨tz, htz⟩ : ∃ c, (parse7 tb.data.toList).2 = c := ⟨_, rfl⟩
                  rw [htz] at HRQ
                  rw [htc, hts, htz]
                  have HTC : Hid ((parse7 tb.data.toList).1.1 = tc ∧ (parse7 tb.data.toList).1.2 = ts) := Lib.hid ⟨htc, hts⟩
                  clear htc hts htz
                  go_upto_region 20 with ((with_reducible refine wpList_at (.store 24 (.tmp 11) (.tmp 145)) rfl ?_); go_loud (refine wpList_store_agg rfl _ _ _ rfl w7.heap.size 0 [.int .u8 (tc : Int), .int .u64 (ts : Int)] rfl rfl (there_of (heap_alloc_new w7 (.cells #[.int .u8 0, .int .u64 0] 24)) 2 (by decide)) (by kernel_rfl) rfl ?_))
                  obtain ⟨D, hD⟩ : ∃ D, w7.heap.size = D := ⟨_, rfl⟩
                  obtain ⟨w8, hw8⟩ : ∃ u, (w7.alloc (.cells #[.int .u8 0, .int .u64 0] 24)).setCells D 0 [.int .u8 (tc : Int), .int .u64 (ts : Int)] = u := ⟨_, rfl⟩
                  have HD8 : Hid (w8.heap[D]? = some (.cells #[.int .u8 (tc : Int), .int .u64 (ts : Int)] 24 (0, 0))) := Lib.hid (by rw [← hw8, ← hD]; exact putL_heap (cs := [.int .u8 0, .int .u64 0]) (heap_alloc_new w7 _) _ rfl)
                  have HP8 : Hid (PSt B2 w2 ⟨x.fr, x.dst, false, x.rf, ⟨kn, 0, 0, 0, cd0, 0, 0⟩⟩ w8) := Lib.hid (by rw [← hw8, ← hD]; exact HP7.out.on (putL_below (Nat.le_refl _) _ _ _ ((Below.refl _ _).alloc (Nat.le_refl _) _)))
                  have HDB : Hid (B2 < D) := Lib.hid (by rw [← hD]; exact HP7.out.lt)
                  rw [hD, hw8]
                  clear hw8 hD HP7
                  have HR8 := Lib.hid (HRX.out w8 HP8.out.low)
                  have HB8 := Lib.hid (HBX.out w8 HP8.out.low)
                  by_cases hz : tz = 0
                  case neg => as_aux_lemma =>
                    have HQ : Hid (packetM x = (pd0, tz)) := Lib.hid (by rw [HRQ.out, if_pos hz])
                    have i1 : (tz != 0) = true := by rw [bne_iff_ne]; exact hz
                    clear hz
                    go_wp2_with ((with_reducible refine wpList_at (.store 38 (.tmp 2) (.tmp 149)) rfl ?_); go_loud (refine wpList_store_agg rfl _ _ _ rfl B1 0 pkz rfl rfl (there_of HR8.out 16 (by decide)) (by kernel_rfl) rfl ?_))
                    refine bodyPost_ret (res_pkt rfl _ rfl rfl (putL_heap (cs := pkz) HR8.out pkz rfl) rfl) rfl ?_
                    exact pq_err HQ.out (putL_below HBB1.out _ _ _ HB8.out)
                  case pos =>
                    rw [if_neg (by simpa using hz)] at HRQ
                    subst hz
                    obtain ⟨c1, d0, d1, g1, g2⟩ := HCL.out w8 HP8.out.low
                    clear d0 g1
                    have hn1 : (1 : Int) < (n : Int) := by have := HN2.out; omega
                    go_wp2_with fail
                    refine (rnum_any ub _).mono ?_
                    rintro e w9 ⟨hq, rfl⟩
                    clear c1 d1 g2
                    rcases hq with ⟨a, hna, rfl⟩ | ⟨hna, rfl⟩
                    case inr => as_aux_lemma =>
                      have HQ : Hid (packetM x = (pd0, 101)) := Lib.hid (HRQ.out.trans (tp_none hna))
                      clear hna
                      go_wp2_with ((with_reducible refine wpList_at (.store 38 (.tmp 2) (.tmp 169)) rfl ?_); go_loud (refine wpList_store_agg rfl _ _ _ rfl B1 0 pkz rfl rfl (there_of HR8.out 16 (by decide)) (by kernel_rfl) rfl ?_))
                      refine bodyPost_ret (res_pkt rfl _ rfl rfl (putL_heap (cs := pkz) HR8.out pkz rfl) rfl) rfl ?_
                      exact pq_err HQ.out (putL_below HBB1.out _ _ _ HB8.out)
                    case inl =>
                      by_cases hbig : 4 ≤ a
                      case pos => as_aux_lemma =>
                        have HQ : Hid (packetM x = (pd0, 101)) := Lib.hid (HRQ.out.trans (tp_big hna hbig))
                        have i1 : decide ((4 : Int) ≤ (a : Int)) = true := by rw [decide_eq_true_eq]; omega
                        clear hna hbig
                        go_wp2_with ((with_reducible refine wpList_at (.store 38 (.tmp 2) (.tmp 169)) rfl ?_); go_loud (refine wpList_store_agg rfl _ _ _ rfl B1 0 pkz rfl rfl (there_of HR8.out 16 (by decide)) (by kernel_rfl) rfl ?_))
                        refine bodyPost_ret (res_pkt rfl _ rfl rfl (putL_heap (cs := pkz) HR8.out pkz rfl) rfl) rfl ?_
                        exact pq_err HQ.out (putL_below HBB1.out _ _ _ HB8.out)
                      case neg =>
                        have HNA : Hid (numW ub.data.toList = some a) := Lib.hid hna
                        have HAB : Hid (¬ 4 ≤ a) := Lib.hid hbig
                        have i1 : decide ((4 : Int) ≤ (a : Int)) = false := by rw [decide_eq_false_iff_not]; omega
                        have ga : IntKind.u8.wrap (a : Int) = (a : Int) := IntWalk.u8_in _ (by omega)
                        have t0 : w8.cell? ⟨D, 0, none⟩ = some (.int .u8 (tc : Int)) := cell_of_row w8 D 0 _ _ _ HD8.out
                        have t1 : w8.cell? ⟨D, 1, none⟩ = some (.int .u64 (ts : Int)) := cell_of_row w8 D 1 _ _ _ HD8.out
                        clear hna hbig
                        go_upto_region 26 with ((with_reducible refine wpList_at (.store 26 (.tmp 175) (.tmp 173)) rfl ?_); go_loud (refine wpList_store_agg rfl _ _ _ rfl B2 5 [.int .u8 (tc : Int), .int .u64 (ts : Int), .int .u8 (a : Int)] rfl rfl (there_of HP8.out.row 3 (by show 5 + 3 ≤ 16; decide)) (by kernel_rfl) rfl ?_))
                        obtain ⟨w9, hw9⟩ : ∃ u, w8.setCells B2 5 [.int .u8 (tc : Int), .int .u64 (ts : Int), .int .u8 (a : Int)] = u := ⟨_, rfl⟩
                        have HP9 : Hid (PSt B2 w2 ⟨x.fr, x.dst, false, x.rf, ⟨kn, tc, ts, a, cd0, 0, 0⟩⟩ w9) := Lib.hid (by rw [← hw9]; exact HP8.out.sets 5 _ rfl)
                        rw [hw9]
                        clear hw9 HP8 HR8 HB8 i1 ga t0 t1 HD8 HDB
                        go_upto_if 176 with fail
                        go_cut [14] from 15 to 245 (fun kv wr => ∃ cc, kv = .int .i64 ((at1 (fa, fb, fc) : Nat) : Int) ∧ Hid (cpnO (fa, fb, fc) x.segs = some cc) ∧ Hid (PSt B2 w2 ⟨x.fr, x.dst, false, x.rf, ⟨kn, tc, ts, a, cc, 0, 0⟩⟩ wr))
                        case first => as_aux_lemma =>
                          have HR9 := Lib.hid (HRX.out w9 HP9.out.low)
                          have HB9 := Lib.hid (HBX.out w9 HP9.out.low)
                          cases fa with
                          | false =>
                            go_wp2_with fail
                            go_meet
                            case rel => exact ⟨cd0, rfl, Lib.hid rfl, HP9⟩
                          | true =>
                            have HNU := Lib.hid (nums_any x.segs (.slice (some ⟨lb, lo, none⟩) n cap) 2 (by decide) ⟨#[67, 80, 78]⟩ _ gsC (by decide) _ (HSX.out _ (HP9.out.alloc (.cells (gsC.map Value.bool).toArray 4)).low) (fun k hk => by have := HBB.out; have h2 := HP9.out.lt; have h3 := HBB.out; simp; omega) (boolsAt_new w9 gsC))
                            go_wp2_with ((with_reducible refine wpList_at (.buildSlice 125 6 #[(0, .const (.bool false)), (1, .const (.bool false)), (2, .const (.bool false)), (3, .const (.bool true)), (4, .const (.bool false)), (5, .const (.bool false))]) rfl ?_); go_loud (refine wpList_bools rfl 6 _ rfl gsC rfl (by decide) (by decide) (by rw [Array.toList_map]; rfl) ?_))
                            refine HNU.out.mono ?_
                            clear HNU
                            rintro e w10 ⟨hq, hb⟩
                            rw [show ([67, 80, 78] : Str) = tCPN from rfl] at hq
                            have HP10 : Hid (PSt B2 w2 ⟨x.fr, x.dst, false, x.rf, ⟨kn, tc, ts, a, cd0, 0, 0⟩⟩ w10) := Lib.hid ((HP9.out.alloc (.cells (gsC.map Value.bool).toArray 4)).on hb)
                            clear hb HP9 HR9 HB9
                            have HR10 := Lib.hid (HRX.out w10 HP10.out.low)
                            have HB10 := Lib.hid (HBX.out w10 HP10.out.low)
                            rcases hq with ⟨ls, v, hls, rfl, ho⟩ | ⟨hno, rfl⟩
                            case inr =>
                              have HQ : Hid (packetM x = (pd0, 101)) := Lib.hid (HRQ.out.trans (tail_cpn HNA.out HAB.out (cpnO_none hno)))
                              clear hno
                              go_wp2_with ((with_reducible refine wpList_at (.store 38 (.tmp 2) (.tmp 216)) rfl ?_); go_loud (refine wpList_store_agg rfl _ _ _ rfl B1 0 pkz rfl rfl (there_of HR10.out 16 (by decide)) (by kernel_rfl) rfl ?_))
                              refine bodyPost_ret (res_pkt rfl _ rfl rfl (putL_heap (cs := pkz) HR10.out pkz rfl) rfl) rfl ?_
                              exact pq_err HQ.out (putL_below HBB1.out _ _ _ HB10.out)
                            case inl =>
                              obtain ⟨v1, v2, v3, v4, v5, v6, rfl, g1, g2, g3, g5, g6⟩ := segR_cpn hls
                              obtain ⟨n1, rfl⟩ := Int.eq_ofNat_of_zero_le g1
                              obtain ⟨n2, rfl⟩ := Int.eq_ofNat_of_zero_le g2
                              obtain ⟨n3, rfl⟩ := Int.eq_ofNat_of_zero_le g3
                              obtain ⟨n5, rfl⟩ := Int.eq_ofNat_of_zero_le g5
                              obtain ⟨n6, rfl⟩ := Int.eq_ofNat_of_zero_le g6
                              clear g1 g2 g3 g5 g6
                              unfold I64s at ho
                              obtain ⟨vb, vc, _, rfl, _⟩ := own_form ho (by simp) (by decide)
                              simp only [List.length_cons, List.length_nil, Nat.zero_add, Nat.reduceAdd] at ho ⊢
                              obtain ⟨d0, d1, d2, d3, d4, d5⟩ := cells6 ho
                              simp only [iv64] at d0 d1 d2 d3 d4 d5
                              have HCO : Hid (cpnO (true, fb, fc) x.segs = cdR [(n1 : Int), n2, n3, v4, n5, n6]) := Lib.hid (cpnO_some hls)
                              clear hls ho
                              obtain ⟨q, hq⟩ : ∃ q, (decide (8 ≤ (n1 : Int)) || decide (65535 < (n2 : Int)) || decide (4294967295 < (n3 : Int)) || decide (7 < (n5 : Int)) || decide (4294967295 < (n6 : Int))) = q := ⟨_, rfl⟩
                              have HQQ := Lib.hid hq
                              go_upto_region 29 with fail
                              go_cut [215] from 184 to 215 (fun bv wr => bv = .bool q ∧ Hid (wr = w10))
                              case first => as_aux_lemma =>
                                clear HQQ HCO
                                by_cases h1 : (8 : Int) ≤ (n1 : Int)
                                · obtain rfl : q = true := by rw [← hq, decide_eq_true h1]; rfl
                                  clear hq
                                  have i1 : decide ((8 : Int) ≤ (n1 : Int)) = true := decide_eq_true h1
                                  go_wp2_with fail
                                  go_meet
                                  case rel => exact ⟨rfl, Lib.hid rfl⟩
                                have i1 : decide ((8 : Int) ≤ (n1 : Int)) = false := decide_eq_false h1
                                rw [i1, Bool.false_or] at hq
                                by_cases h2 : (65535 : Int) < (n2 : Int)
                                · obtain rfl : q = true := by rw [← hq, decide_eq_true h2]; rfl
                                  clear hq
                                  have i2 : decide ((65535 : Int) < (n2 : Int)) = true := decide_eq_true h2
                                  go_wp2_with fail
                                  go_meet
                                  case rel => exact ⟨rfl, Lib.hid rfl⟩
                                have i2 : decide ((65535 : Int) < (n2 : Int)) = false := decide_eq_false h2
                                rw [i2, Bool.false_or] at hq
                                by_cases h3 : (4294967295 : Int) < (n3 : Int)
                                · obtain rfl : q = true := by rw [← hq, decide_eq_true h3]; rfl
                                  clear hq
                                  have i3 : decide ((4294967295 : Int) < (n3 : Int)) = true := decide_eq_true h3
                                  go_wp2_with fail
                                  go_meet
                                  case rel => exact ⟨rfl, Lib.hid rfl⟩
                                have i3 : decide ((4294967295 : Int) < (n3 : Int)) = false := decide_eq_false h3
                                rw [i3, Bool.false_or] at hq
                                by_cases h5 : (7 : Int) < (n5 : Int)
                                · obtain rfl : q = true := by rw [← hq, decide_eq_true h5]; rfl
                                  clear hq
                                  have i5 : decide ((7 : Int) < (n5 : Int)) = true := decide_eq_true h5
                                  go_wp2_with fail
                                  go_meet
                                  case rel => exact ⟨rfl, Lib.hid rfl⟩
                                have i5 : decide ((7 : Int) < (n5 : Int)) = false := decide_eq_false h5
                                rw [i5, Bool.false_or] at hq
                                by_cases h6 : (4294967295 : Int) < (n6 : Int)
                                · obtain rfl : q = true := by rw [← hq, decide_eq_true h6]
                                  clear hq
                                  have i6 : decide ((4294967295 : Int) < (n6 : Int)) = true := decide_eq_true h6
                                  go_wp2_with fail
                                  go_meet
                                  case rel => exact ⟨rfl, Lib.hid rfl⟩
                                have i6 : decide ((4294967295 : Int) < (n6 : Int)) = false := decide_eq_false h6
                                obtain rfl : q = false := by rw [← hq, i6]
                                clear hq
                                go_wp2_with fail
                                go_meet
                                case rel => exact ⟨rfl, Lib.hid rfl⟩
                              case rest => as_aux_lemma =>
                                obtain ⟨rfl, hww⟩ := hcut
                                rw [hww.out]
                                clear hww hq
                                cases q with
                                | true => as_aux_lemma =>
                                  have HQ : Hid (packetM x = (pd0, 101)) := Lib.hid (HRQ.out.trans (tail_cpn HNA.out HAB.out (by rw [HCO.out]; exact cdR_none (by have := HQQ.out; simpa [or_assoc] using this))))
                                  clear HCO HQQ
                                  go_wp2_with ((with_reducible refine wpList_at (.store 38 (.tmp 2) (.tmp 216)) rfl ?_); go_loud (refine wpList_store_agg rfl _ _ _ rfl B1 0 pkz rfl rfl (there_of HR10.out 16 (by decide)) (by kernel_rfl) rfl ?_))
                                  refine bodyPost_ret (res_pkt rfl _ rfl rfl (putL_heap (cs := pkz) HR10.out pkz rfl) rfl) rfl ?_
                                  exact pq_err HQ.out (putL_below HBB1.out _ _ _ HB10.out)
                                | false => as_aux_lemma =>
                                  have hnb : ¬ (8 ≤ (n1 : Int) ∨ 65535 < (n2 : Int) ∨ 4294967295 < (n3 : Int) ∨ 7 < (n5 : Int) ∨ 4294967295 < (n6 : Int)) := by
                                    have := HQQ.out
                                    simp only [Bool.or_eq_false_iff, decide_eq_false_iff_not] at this
                                    omega
                                  have HCS : Hid (cpnO (true, fb, fc) x.segs = some ⟨n1, n2, n3, v4, n5, n6⟩) := Lib.hid (by rw [HCO.out]; exact cdR_some hnb)
                                  have y1 : IntKind.u8.wrap (n1 : Int) = (n1 : Int) := IntWalk.u8_in _ (by omega)
                                  have y2 : IntKind.u16.wrap (n2 : Int) = (n2 : Int) := IntWalk.u16_in _ (by omega)
                                  have y3 : IntKind.u32.wrap (n3 : Int) = (n3 : Int) := IntWalk.u32_in _ (by omega)
                                  have y5 : IntKind.u8.wrap (n5 : Int) = (n5 : Int) := IntWalk.u8_in _ (by omega)
                                  have y6 : IntKind.u32.wrap (n6 : Int) = (n6 : Int) := IntWalk.u32_in _ (by omega)
                                  clear hnb HCO HQQ
                                  have HCW : Hid (∀ u : World, u.heap = w10.heap → u.cell? ⟨vb, 0, none⟩ = some (.int .i64 (n1 : Int)) ∧ u.cell? ⟨vb, 1, none⟩ = some (.int .i64 (n2 : Int)) ∧ u.cell? ⟨vb, 2, none⟩ = some (.int .i64 (n3 : Int)) ∧ u.cell? ⟨vb, 3, none⟩ = some (.int .i64 v4) ∧ u.cell? ⟨vb, 4, none⟩ = some (.int .i64 (n5 : Int)) ∧ u.cell? ⟨vb, 5, none⟩ = some (.int .i64 (n6 : Int))) := Lib.hid (fun u hu => by
                                    have k := fun (j : Nat) => World.cell?_of_block (a := ⟨vb, j, none⟩) (w := w10) (w' := u) (by rw [hu])
                                    exact ⟨(k 0).trans d0, (k 1).trans d1, (k 2).trans d2, (k 3).trans d3, (k 4).trans d4, (k 5).trans d5⟩)
                                  clear d0 d1 d2 d3 d4 d5
                                  go_upto_region 31 with fail
                                  refine wp_region_planF 27 [(0, false), (1, false), (2, false), (3, false), (4, false), (5, false), (6, false), (7, false), (8, false), (9, false), (10, false), (11, false), (12, false), (13, false), (14, false), (15, false), (16, false), (17, false), (18, false), (19, false), (20, false), (21, false), (22, false), (23, false), (24, false), (25, false), (26, false), (27, true)] (fun u => u.heap = w10.heap) (by kernel_rfl) (by kernel_rfl) rfl ?_
                                  iterate 3 (refine' planF_val rfl rfl (fun w' hS => ?_) ?_; rotate_left; (focus (obtain ⟨s0, s1, s2, s3, s4, s5⟩ := HCW.out w' hS; first | (go_simp; rfl) | (go_simp; done))); simp only [Act.put, List.setIfInBounds_toArray, List.set_cons_zero, List.set_cons_succ])
                                  iterate 9 (refine' planF_val rfl rfl (fun w' hS => ?_) ?_; rotate_left; (focus (obtain ⟨s0, s1, s2, s3, s4, s5⟩ := HCW.out w' hS; first | (go_simp; rfl) | (go_simp; done))); simp only [Act.put, List.setIfInBounds_toArray, List.set_cons_zero, List.set_cons_succ])
                                  iterate 1 (refine' planF_val rfl rfl (fun w' hS => ?_) ?_; rotate_left; (focus (obtain ⟨s0, s1, s2, s3, s4, s5⟩ := HCW.out w' hS; first | (go_simp; rfl) | (go_simp; done))); simp only [Act.put, List.setIfInBounds_toArray, List.set_cons_zero, List.set_cons_succ])
                                  iterate 11 (refine' planF_val rfl rfl (fun w' hS => ?_) ?_; rotate_left; (focus (obtain ⟨s0, s1, s2, s3, s4, s5⟩ := HCW.out w' hS; first | (go_simp; rfl) | (go_simp; done))); simp only [Act.put, List.setIfInBounds_toArray, List.set_cons_zero, List.set_cons_succ])
                                  (refine planF_val (v := .agg #[.int .u8 (n1 : Int), .int .u16 (n2 : Int), .int .u32 (n3 : Int), .int .i64 v4, .int .u8 (n5 : Int), .int .u32 (n6 : Int)]) rfl rfl (fun w' hS => cpn_build rfl rfl rfl rfl) ?_; simp only [Act.put, List.setIfInBounds_toArray, List.set_cons_zero, List.set_cons_succ])
                                  (refine planF_val (v := .pointer (some ⟨B2, 4, none⟩)) rfl rfl (fun w' hS => by kernel_rfl) ?_; simp only [Act.put, List.setIfInBounds_toArray, List.set_cons_zero, List.set_cons_succ])
                                  (refine planF_val (v := .pointer (some ⟨B2, 8, none⟩)) rfl rfl (fun w' hS => by kernel_rfl) ?_; simp only [Act.put, List.setIfInBounds_toArray, List.set_cons_zero, List.set_cons_succ])
                                  refine planF_do rfl (fun K hK => ?_)
                                  go_wp2_with ((with_reducible refine wpList_at (.store 33 (.tmp 243) (.tmp 241)) rfl ?_); go_loud (refine wpList_store_agg rfl _ _ _ rfl B2 8 [.int .u8 (n1 : Int), .int .u16 (n2 : Int), .int .u32 (n3 : Int), .int .i64 v4, .int .u8 (n5 : Int), .int .u32 (n6 : Int)] rfl rfl (there_of HP10.out.drew.row 6 (by show 8 + 6 ≤ 16; decide)) (by kernel_rfl) rfl ?_))
                                  refine hK _ _ (.inl trivial) ?_
                                  clear hK K
                                  refine planF_nil ?_
                                  obtain ⟨w11, hw11⟩ : ∃ u, w10.drew.setCells B2 8 [.int .u8 (n1 : Int), .int .u16 (n2 : Int), .int .u32 (n3 : Int), .int .i64 v4, .int .u8 (n5 : Int), .int .u32 (n6 : Int)] = u := ⟨_, rfl⟩
                                  have HP11 : Hid (PSt B2 w2 ⟨x.fr, x.dst, false, x.rf, ⟨kn, tc, ts, a, ⟨n1, n2, n3, v4, n5, n6⟩, 0, 0⟩⟩ w11) := Lib.hid (by rw [← hw11]; exact HP10.out.drew.sets 8 _ rfl)
                                  rw [hw11]
                                  clear hw11 HP10 HR10 HB10 HCW y1 y2 y3 y5 y6
                                  go_wp2_with fail
                                  go_meet
                                  case rel => exact ⟨⟨n1, n2, n3, v4, n5, n6⟩, rfl, HCS, HP11⟩
                        case rest => as_aux_lemma =>
                          obtain ⟨cc, rfl, HCC, HPC⟩ := hcut
                          obtain ⟨w12, hw12⟩ : ∃ u, u = wc := ⟨_, rfl⟩
                          rw [← hw12] at HPC ⊢
                          clear hw12 HP9
                          go_upto_if 246 with fail
                          go_cut [14] from 17 to 263 (fun kv wr => ∃ am, kv = .int .i64 ((at2 (fa, fb, fc) : Nat) : Int) ∧ Hid (amtO (fa, fb, fc) x.segs = some am) ∧ Hid (PSt B2 w2 ⟨x.fr, x.dst, false, x.rf, ⟨kn, tc, ts, a, cc, am, 0⟩⟩ wr))
                          case first => as_aux_lemma =>
                            have HRC := Lib.hid (HRX.out w12 HPC.out.low)
                            have HBC := Lib.hid (HBX.out w12 HPC.out.low)
                            cases fb with
                            | false =>
                              go_wp2_with fail
                              go_meet
                              case rel => exact ⟨0, rfl, Lib.hid rfl, HPC⟩
                            | true =>
                              have hat1 := (at_bounds (fa, true, fc)).1
                              have HAT2 : Hid (at2 (fa, true, fc) = at1 (fa, true, fc) + 1) := Lib.hid rfl
                              obtain ⟨m1, hm1⟩ : ∃ m, at1 (fa, true, fc) = m := ⟨_, rfl⟩
                              have HM1 := Lib.hid hm1
                              rw [hm1] at hat1 ⊢
                              have HNU := Lib.hid (nums_any x.segs (.slice (some ⟨lb, lo, none⟩) n cap) m1 (by omega) ⟨#[65, 77, 84]⟩ _ [true] (by decide) _ (HSX.out _ (HPC.out.alloc (.cells #[.bool true] 4)).low) (fun k hk => by have := HBB.out; have h2 := HPC.out.lt; have h3 := HBB.out; simp; omega) (boolsAt_new w12 [true]))
                              clear hm1
                              go_wp2_with fail
                              refine HNU.out.mono ?_
                              clear HNU
                              rintro e w13 ⟨hq, hb⟩
                              rw [show ([65, 77, 84] : Str) = tAMT from rfl, ← HM1.out] at hq
                              have HP13 : Hid (PSt B2 w2 ⟨x.fr, x.dst, false, x.rf, ⟨kn, tc, ts, a, cc, 0, 0⟩⟩ w13) := Lib.hid ((HPC.out.alloc (.cells #[.bool true] 4)).on hb)
                              clear hb HPC HRC HBC
                              have HR13 := Lib.hid (HRX.out w13 HP13.out.low)
                              have HB13 := Lib.hid (HBX.out w13 HP13.out.low)
                              rcases hq with ⟨ls, v, hls, rfl, ho⟩ | ⟨hno, rfl⟩
                              case inr =>
                                have HQ : Hid (packetM x = (pd0, 101)) := Lib.hid (HRQ.out.trans (tail_amt HNA.out HAB.out HCC.out (amtO_none hno)))
                                clear hno
                                go_wp2_with ((with_reducible refine wpList_at (.store 38 (.tmp 2) (.tmp 256)) rfl ?_); go_loud (refine wpList_store_agg rfl _ _ _ rfl B1 0 pkz rfl rfl (there_of HR13.out 16 (by decide)) (by kernel_rfl) rfl ?_))
                                refine bodyPost_ret (res_pkt rfl _ rfl rfl (putL_heap (cs := pkz) HR13.out pkz rfl) rfl) rfl ?_
                                exact pq_err HQ.out (putL_below HBB1.out _ _ _ HB13.out)
                              case inl =>
                                obtain ⟨am, rfl, _⟩ := segR_one hls
                                unfold I64s at ho
                                obtain ⟨vb, vc, _, rfl, _⟩ := own_form ho (by simp) (by decide)
                                have ck : w13.cell? ⟨vb, 0, none⟩ = some (.int .i64 am) := own_cell ho (by rfl)
                                have HAM : Hid (amtO (fa, true, fc) x.segs = some am) := Lib.hid (amtO_some hls)
                                have f14 : w13.frozen? ⟨B2, 14, none⟩ = false := frozen_of_row w13 B2 14 _ _ HP13.out.row
                                have c14 : w13.cell? ⟨B2, 14, none⟩ = some (.int .i64 0) := cell_of_row w13 B2 14 _ _ _ HP13.out.row
                                clear hls ho
                                go_upto_region 38 with fail
                                obtain ⟨w14, hw14⟩ : ∃ u, w13.setCell ⟨B2, 14, none⟩ (.int .i64 am) = u := ⟨_, rfl⟩
                                have HP14 : Hid (PSt B2 w2 ⟨x.fr, x.dst, false, x.rf, ⟨kn, tc, ts, a, cc, am, 0⟩⟩ w14) := Lib.hid (by rw [← hw14]; exact HP13.out.set 14 _ rfl)
                                rw [hw14]
                                clear hw14 f14 c14 ck HP13 HR13 HB13
                                go_wp2_with fail
                                go_meet
                                case rel => exact ⟨am, by rw [HAT2.out, HM1.out]; rfl, HAM, HP14⟩
                          case rest => as_aux_lemma =>
                            obtain ⟨am, rfl, HAM, HPA⟩ := hcut
                            obtain ⟨w15, hw15⟩ : ∃ u, u = wc := ⟨_, rfl⟩
                            rw [← hw15] at HPA ⊢
                            clear hw15 HPC
                            go_upto_if 264 with fail
                            go_cut [14] from 19 to 287 (fun kv wr => ∃ co, kv = .int .i64 ((at3 (fa, fb, fc) : Nat) : Int) ∧ Hid (codO (fa, fb, fc) x.segs = some co) ∧ Hid (PSt B2 w2 ⟨x.fr, x.dst, false, x.rf, ⟨kn, tc, ts, a, cc, am, co⟩⟩ wr))
                            case first => as_aux_lemma =>
                              have HRC := Lib.hid (HRX.out w15 HPA.out.low)
                              have HBC := Lib.hid (HBX.out w15 HPA.out.low)
                              cases fc with
                              | false =>
                                go_wp2_with fail
                                go_meet
                                case rel => exact ⟨0, rfl, Lib.hid rfl, HPA⟩
                              | true =>
                                have hat1 := (at_bounds (fa, fb, true)).2.1
                                have HAT3 : Hid (at3 (fa, fb, true) = at2 (fa, fb, true) + 1) := Lib.hid rfl
                                obtain ⟨m1, hm1⟩ : ∃ m, at2 (fa, fb, true) = m := ⟨_, rfl⟩
                                have HM1 := Lib.hid hm1
                                rw [hm1] at hat1 ⊢
                                have HNU := Lib.hid (nums_any x.segs (.slice (some ⟨lb, lo, none⟩) n cap) m1 (by omega) ⟨#[67, 79, 68]⟩ _ [false] (by decide) _ (HSX.out _ (HPA.out.alloc (.cells #[.bool false] 4)).low) (fun k hk => by have := HBB.out; have h2 := HPA.out.lt; have h3 := HBB.out; simp; omega) (boolsAt_new w15 [false]))
                                clear hm1
                                go_wp2_with fail
                                refine HNU.out.mono ?_
                                clear HNU
                                rintro e w16 ⟨hq, hb⟩
                                rw [show ([67, 79, 68] : Str) = tCOD from rfl, ← HM1.out] at hq
                                have HP16 : Hid (PSt B2 w2 ⟨x.fr, x.dst, false, x.rf, ⟨kn, tc, ts, a, cc, am, 0⟩⟩ w16) := Lib.hid ((HPA.out.alloc (.cells #[.bool false] 4)).on hb)
                                clear hb HPA HRC HBC
                                have HR16 := Lib.hid (HRX.out w16 HP16.out.low)
                                have HB16 := Lib.hid (HBX.out w16 HP16.out.low)
                                rcases hq with ⟨ls, v, hls, rfl, ho⟩ | ⟨hno, rfl⟩
                                case inr =>
                                  have HQ : Hid (packetM x = (pd0, 101)) := Lib.hid (HRQ.out.trans (tail_cod HNA.out HAB.out HCC.out HAM.out (codO_none hno)))
                                  clear hno
                                  go_wp2_with ((with_reducible refine wpList_at (.store 38 (.tmp 2) (.tmp 280)) rfl ?_); go_loud (refine wpList_store_agg rfl _ _ _ rfl B1 0 pkz rfl rfl (there_of HR16.out 16 (by decide)) (by kernel_rfl) rfl ?_))
                                  refine bodyPost_ret (res_pkt rfl _ rfl rfl (putL_heap (cs := pkz) HR16.out pkz rfl) rfl) rfl ?_
                                  exact pq_err HQ.out (putL_below HBB1.out _ _ _ HB16.out)
                                case inl =>
                                  obtain ⟨co, rfl, _⟩ := segR_one hls
                                  unfold I64s at ho
                                  obtain ⟨vb, vc, _, rfl, _⟩ := own_form ho (by simp) (by decide)
                                  have ck : w16.cell? ⟨vb, 0, none⟩ = some (.int .i64 co) := own_cell ho (by rfl)
                                  by_cases hbig : 999 < co
                                  · have HQ : Hid (packetM x = (pd0, 101)) := Lib.hid (HRQ.out.trans (tail_cod HNA.out HAB.out HCC.out HAM.out (codO_big hls hbig)))
                                    have i1 : decide ((999 : Int) < co) = true := decide_eq_true hbig
                                    clear hls ho hbig
                                    go_wp2_with ((with_reducible refine wpList_at (.store 38 (.tmp 2) (.tmp 280)) rfl ?_); go_loud (refine wpList_store_agg rfl _ _ _ rfl B1 0 pkz rfl rfl (there_of HR16.out 16 (by decide)) (by kernel_rfl) rfl ?_))
                                    refine bodyPost_ret (res_pkt rfl _ rfl rfl (putL_heap (cs := pkz) HR16.out pkz rfl) rfl) rfl ?_
                                    exact pq_err HQ.out (putL_below HBB1.out _ _ _ HB16.out)
                                  · have HCO : Hid (codO (fa, fb, true) x.segs = some co) := Lib.hid (codO_some hls hbig)
                                    have i1 : decide ((999 : Int) < co) = false := decide_eq_false hbig
                                    have f15 : w16.frozen? ⟨B2, 15, none⟩ = false := frozen_of_row w16 B2 15 _ _ HP16.out.row
                                    have c15 : w16.cell? ⟨B2, 15, none⟩ = some (.int .i64 0) := cell_of_row w16 B2 15 _ _ _ HP16.out.row
                                    clear hls ho hbig
                                    go_upto_region 44 with fail
                                    obtain ⟨w17, hw17⟩ : ∃ u, w16.setCell ⟨B2, 15, none⟩ (.int .i64 co) = u := ⟨_, rfl⟩
                                    have HP17 : Hid (PSt B2 w2 ⟨x.fr, x.dst, false, x.rf, ⟨kn, tc, ts, a, cc, am, co⟩⟩ w17) := Lib.hid (by rw [← hw17]; exact HP16.out.set 15 _ rfl)
                                    rw [hw17]
                                    clear hw17 f15 c15 ck HP16 HR16 HB16 i1
                                    go_wp2_with fail
                                    go_meet
                                    case rel => exact ⟨co, by rw [HAT3.out, HM1.out]; rfl, HCO, HP17⟩
                            case rest => as_aux_lemma =>
                              obtain ⟨co, rfl, HCO, HPO⟩ := hcut
                              obtain ⟨w18, hw18⟩ : ∃ u, u = wc := ⟨_, rfl⟩
                              rw [← hw18] at HPO ⊢
                              clear hw18 HPA
                              have HEND : Hid (packetM x = if x.segs.length ≠ at3 (fa, fb, fc) ∨ mayR ⟨kn, tc, ts, a, cc, am, co⟩ = false then (pd0, 101) else (⟨x.fr, x.dst, false, x.rf, ⟨kn, tc, ts, a, cc, am, co⟩⟩, 0)) := Lib.hid (by
                                rw [HRQ.out, tail_end HNA.out HAB.out HCC.out HAM.out HCO.out, HTC.out.1, HTC.out.2])
                              have HRO := Lib.hid (HRX.out w18 HPO.out.low)
                              have HBO := Lib.hid (HBX.out w18 HPO.out.low)
                              obtain ⟨m3, hm3⟩ : ∃ m, at3 (fa, fb, fc) = m := ⟨_, rfl⟩
                              rw [hm3] at HEND ⊢
                              rw [HN.out] at HEND
                              clear hm3
                              obtain ⟨mm, hmm⟩ : ∃ mm : MD, (⟨kn, tc, ts, a, cc, am, co⟩ : MD) = mm := ⟨_, rfl⟩
                              have HMM := Lib.hid hmm
                              rw [hmm] at HEND
                              have HPO2 : Hid (PSt B2 w2 ⟨x.fr, x.dst, false, x.rf, mm⟩ w18) := Lib.hid (by rw [← hmm]; exact HPO.out)
                              clear HPO hmm
                              by_cases hnm : n = m3
                              · have j0 : ((n : Int) != (m3 : Int)) = false := by rw [bne_eq_false_iff_eq]; omega
                                have hrow := HPO2.out.row
                                unfold pktA msgA at hrow
                                simp only [List.cons_append, List.nil_append] at hrow
                                obtain ⟨e0, e1, e2, e3, e4, e5, e6, e7, e8, e9, e10, e11, e12, e13, e14, e15⟩ := (cells16 hrow).1
                                have hmay := may_any mm w18
                                unfold msgA at hmay
                                have HMY := Lib.hid hmay
                                clear hrow hmay e0 e1 e2 e3
                                cases hq : mayR mm with
                                | true => as_aux_lemma =>
                                  have HQ : Hid (packetM x = (⟨x.fr, x.dst, false, x.rf, mm⟩, 0)) := Lib.hid (by rw [HEND.out, if_neg]; rintro (h | h); exact h hnm; rw [hq] at h; cases h)
                                  rw [hq] at HMY
                                  clear hnm hq
                                  go_upto_region 47 with (go_at_call 48; refine HMY.out.mono ?_; rintro e w19 ⟨rfl, hb⟩; have HP19 : Hid (PSt B2 w2 ⟨x.fr, x.dst, false, x.rf, mm⟩ w19) := Lib.hid (HPO2.out.on hb); clear hb)
                                  clear e4 e5 e6 e7 e8 e9 e10 e11 e12 e13 e14 e15
                                  have HR19 := Lib.hid (HRX.out w19 HP19.out.low)
                                  have hrow := HP19.out.row
                                  unfold pktA msgA at hrow
                                  simp only [List.cons_append, List.nil_append] at hrow
                                  obtain ⟨e0, e1, e2, e3, e4, e5, e6, e7, e8, e9, e10, e11, e12, e13, e14, e15⟩ := (cells16 hrow).1
                                  clear hrow
                                  go_wp2_with ((with_reducible refine wpList_at (.store 38 (.tmp 2) (.tmp 299)) rfl ?_); go_loud (refine wpList_store_agg rfl _ _ _ rfl B1 0 (pktA ⟨x.fr, x.dst, false, x.rf, mm⟩) rfl rfl (there_of HR19.out 16 (by decide)) (by kernel_rfl) rfl ?_))
                                  refine bodyPost_ret (res_pkt rfl _ rfl rfl (putL_heap (cs := pkz) HR19.out (pktA ⟨x.fr, x.dst, false, x.rf, mm⟩) rfl) rfl) rfl ?_
                                  unfold PacketQ
                                  rw [HQ.out]
                                  exact ⟨rfl, putL_below HBB1.out _ _ _ (HBX.out w19 HP19.out.low)⟩
                                | false => as_aux_lemma =>
                                  have HQ : Hid (packetM x = (pd0, 101)) := Lib.hid (by rw [HEND.out, if_pos (.inr hq)])
                                  rw [hq] at HMY
                                  clear hnm hq
                                  go_upto_region 46 with (go_at_call 48; refine HMY.out.mono ?_; rintro e w19 ⟨rfl, hb⟩; have HP19 : Hid (PSt B2 w2 ⟨x.fr, x.dst, false, x.rf, mm⟩ w19) := Lib.hid (HPO2.out.on hb); clear hb)
                                  clear e4 e5 e6 e7 e8 e9 e10 e11 e12 e13 e14 e15
                                  have HR19 := Lib.hid (HRX.out w19 HP19.out.low)
                                  have HB19 := Lib.hid (HBX.out w19 HP19.out.low)
                                  go_wp2_with ((with_reducible refine wpList_at (.store 38 (.tmp 2) (.tmp 298)) rfl ?_); go_loud (refine wpList_store_agg rfl _ _ _ rfl B1 0 pkz rfl rfl (there_of HR19.out 16 (by decide)) (by kernel_rfl) rfl ?_))
                                  refine bodyPost_ret (res_pkt rfl _ rfl rfl (putL_heap (cs := pkz) HR19.out pkz rfl) rfl) rfl ?_
                                  exact pq_err HQ.out (putL_below HBB1.out _ _ _ HB19.out)
                              · have j0 : ((n : Int) != (m3 : Int)) = true := by rw [bne_iff_ne]; omega
                                have HQ : Hid (packetM x = (pd0, 101)) := Lib.hid (by rw [HEND.out, if_pos (.inl hnm)])
                                clear hnm
                                go_wp2_with ((with_reducible refine wpList_at (.store 38 (.tmp 2) (.tmp 298)) rfl ?_); go_loud (refine wpList_store_agg rfl _ _ _ rfl B1 0 pkz rfl rfl (there_of HRO.out 16 (by decide)) (by kernel_rfl) rfl ?_))
                                refine bodyPost_ret (res_pkt rfl _ rfl rfl (putL_heap (cs := pkz) HRO.out pkz rfl) rfl) rfl ?_
                                exact pq_err HQ.out (putL_below HBB1.out _ _ _ HBO.out)
end Go.Proofs.YtgfijlamhjjecaaGreatDoor

