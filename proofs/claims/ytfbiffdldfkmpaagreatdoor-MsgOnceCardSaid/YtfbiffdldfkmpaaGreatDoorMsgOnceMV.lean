/-
  MsgOnceV: the walk of MsgOnce for every input. No condition but the laid variables.
-/
import Derived.Test.YtfbiffdldfkmpaaGreatDoorMg14
import Derived.Test.YtfbiffdldfkmpaaGreatDoorMg15
namespace Go.Proofs.YtfbiffdldfkmpaaGreatDoor
open Go.RowKit
set_option maxRecDepth 100000 in
set_option maxHeartbeats 8000000 in
theorem msgOnce_walk {W : World} (hv : VarsOk W) (p : PD) (hp : okPD p) (q : PD) (hq : okPD q) : Calls Tryz.prog 7 #[.agg (pktA p).toArray, .agg (pktA q).toArray] W fun e w' => e = .returned (.bool true) ∧ Below W.heap.size W w' := by
  obtain ⟨B, hB⟩ : ∃ B, W.heap.size = B := ⟨_, rfl⟩
  have HBQ := Lib.hid hB
  have HV := Lib.hid hv
  obtain ⟨w1, hw1⟩ : ∃ w1, W.alloc (.cells (pktA p).toArray 38) = w1 := ⟨_, rfl⟩
  obtain ⟨w2, hw2⟩ : ∃ w2, w1.alloc (.cells (pktA q).toArray 38) = w2 := ⟨_, rfl⟩
  have hz1 : w1.heap.size = B + 1 := by rw [← hw1, ← hB]; simp
  have hz2 : w2.heap.size = B + 2 := by rw [← hw2]; simp [hz1]
  have HB2 : Hid (Below B W w2) := Lib.hid (by rw [← hw2, ← hw1, ← hB]; exact ((Below.refl _ _).alloc (Nat.le_refl _) _).alloc (by simp) _)
  have HC1 : Hid (w2.heap[B]? = some (.cells (pktA p).toArray 38 (0, 0))) := Lib.hid (by rw [← hw2, Below.heap_alloc _ _ _ (by omega), ← hw1, ← hB]; exact heap_alloc_new _ _)
  have HC2 : Hid (w2.heap[B + 1]? = some (.cells (pktA q).toArray 38 (0, 0))) := Lib.hid (by rw [← hw2, ← hz1]; exact heap_alloc_new _ _)
  have HZ2 := Lib.hid hz2
  obtain ⟨X, hX⟩ : ∃ X, textM p = X := ⟨_, rfl⟩
  obtain ⟨a, ea⟩ := X
  obtain ⟨Y, hY⟩ : ∃ Y, textM q = Y := ⟨_, rfl⟩
  obtain ⟨b, eb⟩ := Y
  obtain ⟨x, hx⟩ : ∃ x, eqP p q = x := ⟨_, rfl⟩
  have HXE := Lib.hid hX
  have HYE := Lib.hid hY
  have HX := Lib.hid hx
  have KP := Lib.hid (fun w hv => mText_is hp (w := w) hv hX)
  have KQ := Lib.hid (fun w hv => mText_is hq (w := w) hv hY)
  have HKW := Lib.hid (fun w x k hv h => mWrap_is hp (w := w) (x := x) (k := k) hv h)
  have HPN := Lib.hid hp.num
  have HQN := Lib.hid hq.num
  have heq := fun w => eql_pkt p q w
  have hself := fun w => eql_pkt p p w
  rw [hx] at heq
  rw [show eqP p p = true from eqP_iff.2 rfl] at hself
  unfold pktA msgA at heq hself HC1 HC2 hw1 hw2 KP KQ HKW ⊢
  simp only [List.cons_append, List.nil_append] at heq hself HC1 HC2 hw1 hw2 KP KQ HKW ⊢
  obtain ⟨za, hza⟩ : ∃ za : ByteArray, (⟨a.toArray⟩ : ByteArray) = za := ⟨_, rfl⟩
  obtain ⟨zb, hzb⟩ : ∃ zb : ByteArray, (⟨b.toArray⟩ : ByteArray) = zb := ⟨_, rfl⟩
  unfold WTQ sv at KP KQ
  rw [hza] at KP
  rw [hzb] at KQ
  have HZA := Lib.hid hza
  have HZB := Lib.hid hzb
  have HW1 := Lib.hid hw1
  have HW2 := Lib.hid hw2
  rw [hB]
  have HB2' : Hid (Below (B + 2) w2 w2) := Lib.hid (Below.refl _ _)
  clear hB hw1 hw2 hz1 hz2 hv hX hY hp hq hza hzb hx
  go_enter Tryz.func7, Tryz.ntmps7
  go_upto_region 1 with fail
  rw [HW1.out, HW2.out, HBQ.out]
  obtain ⟨d0, d1, d2, d3, d4, d5, d6, d7, d8, d9, d10, d11, d12, d13, d14, d15⟩ := (cells16 HC1.out).1
  go_upto_region 2 with (go_at_call 19; refine (KP.out _ (HV.out.on HB2.out (by rw [HBQ.out]; exact Nat.le_refl _))).mono ?_; rintro e w3 ⟨rfl, hb⟩; rw [HZ2.out] at hb; have HB3 := Lib.hid hb; clear hb)
  clear d0 d1 d2 d3 d4 d5 d6 d7 d8 d9 d10 d11 d12 d13 d14 d15
  obtain ⟨d0, d1, d2, d3, d4, d5, d6, d7, d8, d9, d10, d11, d12, d13, d14, d15⟩ := (cells16 ((HB3.out.block (B + 1) (by omega)).trans HC2.out)).1
  go_upto_region 3 with (go_at_call 19; refine (KQ.out _ (HV.out.on (HB2.out.trans (HB3.out.mono (by omega))) (by rw [HBQ.out]; exact Nat.le_refl _))).mono ?_; rintro e w4 ⟨rfl, hb⟩; have HB4 := Lib.hid (HB3.out.trans (hb.mono (by have := HB3.out.size; rw [HZ2.out] at this; exact this))); clear hb)
  clear d0 d1 d2 d3 d4 d5 d6 d7 d8 d9 d10 d11 d12 d13 d14 d15
  obtain ⟨d0, d1, d2, d3, d4, d5, d6, d7, d8, d9, d10, d11, d12, d13, d14, d15⟩ := (cells16 ((HB4.out.block B (by omega)).trans HC1.out)).1
  obtain ⟨g0, g1, g2, g3, g4, g5, g6, g7, g8, g9, g10, g11, g12, g13, g14, g15⟩ := (cells16 ((HB4.out.block (B + 1) (by omega)).trans HC2.out)).1
  have HBW : Hid (Below B W w4) := Lib.hid (HB2.out.trans (HB4.out.mono (by omega)))
  have hz4 : B + 2 ≤ w4.heap.size := by have := HB4.out.size; rw [HZ2.out] at this; exact this
  have HZ4 := Lib.hid hz4
  clear KP KQ hz4
  go_cut [37] (fun bv wr => bv = .bool false ∧ Hid (wr = w4))
  case first => as_aux_lemma =>
    by_cases he : ea = 0
    · subst he
      by_cases hf : eb = 0
      · subst hf
        have hs : (za.toList == zb.toList) = x := by rw [← HZA.out, ← HZB.out]; exact str_dec ((text_once HPN.out HQN.out HXE.out HYE.out).trans (by rw [← HX.out]; exact eqP_iff.symm))
        have hxx : (x != x) = false := by cases x <;> rfl
        go_wp2_with fail
        go_meet
        case rel => exact ⟨rfl, Lib.hid rfl⟩
      · have hf1 : (eb == 0) = false := by rw [beq_eq_false_iff_ne]; exact hf
        go_wp2_with fail
        go_meet
        case rel => exact ⟨rfl, Lib.hid rfl⟩
    · have he1 : (ea == 0) = false := by rw [beq_eq_false_iff_ne]; exact he
      go_wp2_with fail
      go_meet
      case rel => exact ⟨rfl, Lib.hid rfl⟩
  case rest => as_aux_lemma =>
    obtain ⟨rfl, hw⟩ := hcut
    rw [hw.out]
    clear hw g0 g1 g2 g3 g4 g5 g6 g7 g8 g9 g10 g11 g12 g13 g14 g15
    by_cases he : ea = 0
    · subst he
      have HWX : Hid ((wrapM p).2 = 0) := Lib.hid ((textM_z HPN.out).1 (by rw [HXE.out]))
      obtain ⟨xw, hxw⟩ : ∃ xw, (wrapM p).1 = xw := ⟨_, rfl⟩
      have HXW : Hid (wrapM p = (xw, 0)) := Lib.hid (by rw [← hxw, ← HWX.out])
      clear hxw
      go_upto_region 6 with (go_at_call 11; refine (HKW.out _ _ _ (HV.out.on HBW.out (by rw [HBQ.out]; exact Nat.le_refl _)) HXW.out).mono ?_; rintro e w5 ⟨v, rfl, hs, hb⟩; have HB5 := Lib.hid hb; have HS5 := Lib.hid hs; obtain ⟨vo, cap, rfl, hc1, hc2⟩ := hs.form; clear hb hs hc1 hc2; unfold wv)
      obtain ⟨n, hn⟩ : ∃ n, xw.segs.length = n := ⟨_, rfl⟩
      rw [hn] at HS5 ⊢
      have HN := Lib.hid hn
      obtain ⟨w6, hw6⟩ : ∃ w6, w5.alloc (.cells #[.int .u8 (xw.fr : Int), .int .u8 (xw.dst : Int), .int .u64 (xw.rf : Int), .slice vo n cap] 41) = w6 := ⟨_, rfl⟩
      have HC6 : Hid (w6.heap[w5.heap.size]? = some (.cells #[.int .u8 (xw.fr : Int), .int .u8 (xw.dst : Int), .int .u64 (xw.rf : Int), .slice vo n cap] 41 (0, 0))) := Lib.hid (by rw [← hw6]; exact heap_alloc_new _ _)
      have hz5 := HB5.out.size
      have hz4 := HZ4.out
      have HB56 : Hid (Below (B + 2) w4 w6) := Lib.hid (by rw [← hw6]; exact (HB5.out.mono (by omega)).alloc (by omega) _)
      have HB6 : Hid (Below B W w6) := Lib.hid (HBW.out.trans (HB56.out.mono (by omega)))
      have HS6 : Hid (SegsAt (fun k => k < w6.heap.size) w6 (.slice vo n cap) xw.segs) := Lib.hid (HS5.out.cong (fun j hj => by rw [← hw6]; simp; omega) (fun j hj => by rw [← hw6]; exact Below.heap_alloc _ _ _ hj.2))
      have HPK := Lib.hid (mPacket_is (HV.out.on HB6.out (by rw [HBQ.out]; exact Nat.le_refl _)) HS6.out (fun k hk => hk) (wrapM_lim HXW.out) (packet_wrap HXW.out))
      unfold MPQ wv pktA msgA at HPK
      simp only [List.cons_append, List.nil_append] at HPK
      have hz6 : w6.heap.size = w5.heap.size + 1 := by rw [← hw6]; simp
      have HZ6 : Hid (B + 2 < w6.heap.size) := Lib.hid (by omega)
      have HW6 := Lib.hid hw6
      clear hw6 hz5 hz4 hz6 hn
      rw [HW6.out]
      obtain ⟨⟨k0, k1, k2, k3⟩, _⟩ := cells4 HC6.out
      go_upto_region 8 with fail
      clear d0 d1 d2 d3 d4 d5 d6 d7 d8 d9 d10 d11 d12 d13 d14 d15
      go_upto_region 9 with (go_at_call 17; refine HPK.out.mono ?_; rintro e w7 ⟨rfl, hb⟩; have HB7 := Lib.hid hb; clear hb)
      clear k0 k1 k2 k3
      obtain ⟨w8, hw8⟩ : ∃ w8, w7.alloc (.cells #[.int .u8 (p.fr : Int), .int .u8 (p.dst : Int), .bool p.ack, .int .u64 (p.num : Int), .int .u8 (p.m.kind : Int), .int .u8 (p.m.tc : Int), .int .u64 (p.m.ts : Int), .int .u8 (p.m.pl : Int), .int .u8 (p.m.c.car : Int), .int .u16 (p.m.c.fl : Int), .int .u32 (p.m.c.we : Int), .int .i64 p.m.c.va, .int .u8 (p.m.c.st : Int), .int .u32 (p.m.c.no : Int), .int .i64 p.m.am, .int .i64 p.m.co] 38) = w8 := ⟨_, rfl⟩
      have HC8 : Hid (w8.heap[w7.heap.size]? = some (.cells #[.int .u8 (p.fr : Int), .int .u8 (p.dst : Int), .bool p.ack, .int .u64 (p.num : Int), .int .u8 (p.m.kind : Int), .int .u8 (p.m.tc : Int), .int .u64 (p.m.ts : Int), .int .u8 (p.m.pl : Int), .int .u8 (p.m.c.car : Int), .int .u16 (p.m.c.fl : Int), .int .u32 (p.m.c.we : Int), .int .i64 p.m.c.va, .int .u8 (p.m.c.st : Int), .int .u32 (p.m.c.no : Int), .int .i64 p.m.am, .int .i64 p.m.co] 38 (0, 0))) := Lib.hid (by rw [← hw8]; exact heap_alloc_new _ _)
      have hz7 := HB7.out.size
      have HB8 : Hid (Below (B + 2) w4 w8) := Lib.hid (by rw [← hw8]; exact (HB56.out.trans (HB7.out.mono (by have := HZ6.out; omega))).alloc (by have := HZ6.out; omega) _)
      have HZ8 : Hid (B ≤ w8.heap.size) := Lib.hid (by rw [← hw8]; have := HZ6.out; simp; omega)
      have HBW8 : Hid (Below B W w8) := Lib.hid (HBW.out.trans (HB8.out.mono (by omega)))
      have HW8 := Lib.hid hw8
      clear hw8 hz7
      rw [HW8.out]
      obtain ⟨k0, k1, k2, k3, k4, k5, k6, k7, k8, k9, k10, k11, k12, k13, k14, k15⟩ := (cells16 HC8.out).1
      obtain ⟨d0, d1, d2, d3, d4, d5, d6, d7, d8, d9, d10, d11, d12, d13, d14, d15⟩ := (cells16 (((HB4.out.trans HB8.out).block B (by omega)).trans HC1.out)).1
      go_wp2_with (go_at_call 14; refine (tells_any _ (HV.out.on HBW8.out (by rw [HBQ.out]; exact Nat.le_refl _))).mono ?_; rintro e w9 ⟨rfl, hb⟩; have HB9 := Lib.hid (HBW8.out.trans (hb.mono HZ8.out)); clear hb)
      go_ret
      exact ⟨rfl, HB9.out⟩
    · skip
      have he2 : (ea != 0) = true := by rw [bne_iff_ne]; exact he
      have HWX := Lib.hid (textM_k HPN.out HXE.out he)
      have hee := int_same ea
      clear he
      as_aux_lemma =>
        go_upto_region 6 with (go_at_call 11; refine (HKW.out _ _ _ (HV.out.on HBW.out (by rw [HBQ.out]; exact Nat.le_refl _)) HWX.out).mono ?_; rintro e w5 ⟨v, rfl, hs, hb⟩; have HB5 := Lib.hid hb; have HS5 := Lib.hid hs; obtain ⟨vo, cap, rfl, hc1, hc2⟩ := hs.form; clear hb hs hc1 hc2; unfold wv wd0)
        obtain ⟨w6, hw6⟩ : ∃ w6, w5.alloc (.cells #[.int .u8 0, .int .u8 0, .int .u64 0, .slice vo 0 cap] 41) = w6 := ⟨_, rfl⟩
        have HC6 : Hid (w6.heap[w5.heap.size]? = some (.cells #[.int .u8 0, .int .u8 0, .int .u64 0, .slice vo 0 cap] 41 (0, 0))) := Lib.hid (by rw [← hw6]; exact heap_alloc_new _ _)
        have hz5 := HB5.out.size
        have hz4 := HZ4.out
        have HB6 : Hid (Below B W w6) := Lib.hid (by rw [← hw6]; exact (HBW.out.trans (HB5.out.mono (by omega))).alloc (by omega) _)
        have hs6 : SegsAt (fun k => k < w6.heap.size) w6 (.slice vo 0 cap) wd0.segs := HS5.out.cong (fun j hj => by rw [← hw6]; simp; omega) (fun j hj => by rw [← hw6]; exact Below.heap_alloc _ _ _ hj.2)
        have HSM := Lib.hid (wsame_any wd0 wd0 (.slice vo 0 cap) (.slice none 0 0) w6 hs6 (segs_nil (fun k => k < w6.heap.size) w6) (fun k hk => hk) (fun k hk => hk))
        rw [wsameB_self] at HSM
        unfold wv wd0 at HSM
        have hz6 : w6.heap.size = w5.heap.size + 1 := by rw [← hw6]; simp
        have HZ6 : Hid (B ≤ w6.heap.size) := Lib.hid (by omega)
        have HW6 := Lib.hid hw6
        clear hw6 hs6 hz5 hz4 hz6
        rw [HW6.out]
        obtain ⟨⟨k0, k1, k2, k3⟩, _⟩ := cells4 HC6.out
        go_wp2_with (first | (go_at_call 13; refine HSM.out.mono ?_; rintro e w7 ⟨rfl, hb⟩; have HB7 := Lib.hid (HB6.out.trans (hb.mono HZ6.out)); have HZ7 := Lib.hid (Nat.le_trans HZ6.out hb.size); clear hb) | (go_at_call 14; refine (tells_any _ (HV.out.on HB7.out (by rw [HBQ.out]; exact Nat.le_refl _))).mono ?_; rintro e w8 ⟨rfl, hb⟩; have HB8 := Lib.hid (HB7.out.trans (hb.mono HZ7.out)); clear hb))
        go_ret
        exact ⟨rfl, HB8.out⟩
end Go.Proofs.YtfbiffdldfkmpaaGreatDoor
