/-
  Texts SealK, MsgQ1, MsgQ3, SealX, SealV, ShaQ, ShaR, one behind the other. No condition beyond those stated in each.
-/
import Derived.Test.YtgfijlamhjjecaaGreatDoorMu16
import Derived.Test.YtgfijlamhjjecaaGreatDoorMu6
import Derived.Test.YtgfijlamhjjecaaGreatDoorMu15
import Derived.Lib.SmallJoins
import Derived.OpenShut
import Derived.DataShut
import Derived.Test.YtgfijlamhjjecaaGreatDoorRows
import Derived.Test.YtgfijlamhjjecaaGreatDoorMu8
import Derived.LaidMore
import Derived.Stop.LaidErr
import Derived.ChangeSlices
import Derived.Test.YtgfijlamhjjecaaGreatDoorMu12
namespace Go.Proofs.YtgfijlamhjjecaaGreatDoor
open Go.RowKit
theorem RowAt.take {S : Nat → Prop} {w : World} {ao : Option Addr} {n cap : Nat} {xs : List Value} (h : RowAt S w (.slice ao n cap) xs) (m : Nat) (hm : m ≤ n) : RowAt S w (.slice ao m cap) (xs.take m) := by
 obtain ⟨a, c, e, h1, h2, h3, h4⟩ := h
 cases e
 refine ⟨ao, cap, by rw [List.length_take, Nat.min_eq_left hm], by rw [List.length_take]; omega, h2, h3, fun hne => ?_⟩
 obtain ⟨b, off, e, hS, hc⟩ := h4 (fun e => hne (by rw [e, List.take_nil]))
 exact ⟨b, off, e, hS, fun i x hi => hc i x (by rw [List.getElem?_take] at hi; split at hi; exact hi; cases hi)⟩
theorem below_le {C : Nat} {w w1 : World} (h : Hid (w.heap.size = C)) (hb : Below C w w1) : C ≤ w1.heap.size := by have := hb.size; have := h.out; omega
theorem pkt_new (u : World) (p : PD) (D : Nat) (hD : u.heap.size = D) (u1 u2 : World) (h1 : u.alloc (.cells pkz.toArray 38) = u1) (h2 : u1.setCells D 0 (pktA p) = u2) : u2.heap[D]? = some (.cells (pktA p).toArray 38 (0, 0)) ∧ Below D u u2 ∧ D < u2.heap.size := by
 have h3 : u2.heap[D]? = some (.cells (pktA p).toArray 38 (0, 0)) := by
  rw [← h2]
  exact putL_heap (cs := pkz) (by rw [← h1, ← hD]; exact heap_alloc_new _ _) (pktA p) rfl
 refine ⟨h3, ?_, (Array.getElem?_eq_some_iff.1 h3).1⟩
 rw [← h2]
 refine putL_below (Nat.le_refl _) _ _ _ ?_
 rw [← h1, ← hD]
 exact (Below.refl _ _).alloc (Nat.le_refl _) _
def pwk : PD := ⟨1, 2, true, 7, md0⟩
theorem pwkL : pktA pwk = [.int .u8 1, .int .u8 2, .bool true, .int .u64 7, .int .u8 0, .int .u8 0, .int .u64 0, .int .u8 0, .int .u8 0, .int .u16 0, .int .u32 0, .int .i64 0, .int .u8 0, .int .u32 0, .int .i64 0, .int .i64 0] := rfl
theorem okpwk : okPD pwk := mayP_ok (by decide) (by decide)
theorem maywk : (textM pwk).2 = 0 := (textM_may (p := pwk) (by decide)).2 (by decide)
theorem mayswk : mayS (keysM 3 []) pwk := by unfold mayS; rw [keysM_len]; decide
def WakesQ (w : World) (e : Ending) (w' : World) : Prop := e = .returned (.bool true) ∧ Below w.heap.size w w'
set_option maxRecDepth 100000 in
set_option maxHeartbeats 16000000 in
theorem lwakes_any (w : World) (hv : VarsOk w) (hK : VarsK w) : Calls Tryz.prog 27 #[] w fun e w' => WakesQ w e w' := by
 obtain ⟨C, hC⟩ : ∃ C, w.heap.size = C := ⟨_, rfl⟩
 have HCQ := Lib.hid hC
 have HV := Lib.hid hv
 have HK := Lib.hid hK
 have HKY := Lib.hid (lkeys_any (T := fun _ => False) 3 (by decide) [] (.slice none 0 0) w (row_nilB _ _) (fun _ h => h.elim) (by decide))
 have hself := fun u => eql_pkt pwk pwk u
 rw [show eqP pwk pwk = true from eqP_iff.2 rfl, pwkL] at hself
 obtain ⟨R, hR⟩ : ∃ R, textM pwk = R := ⟨_, rfl⟩
 obtain ⟨t, k⟩ := R
 obtain rfl : k = 0 := by have := maywk; rw [hR] at this; exact this
 obtain ⟨_, ht⟩ := text_back (p := pwk) okpwk.num hR
 have hSM : sealM (keysM 3 []) pwk = (t ++ macM (keyAt (keysM 3 []) 1 2) t, 0) := by unfold sealM; rw [if_pos mayswk, hR]; rfl
 have hOM := open_seal (M := keysM 3 []) okpwk mayswk hR
 obtain ⟨bs, hbs⟩ : ∃ b, t ++ macM (keyAt (keysM 3 []) 1 2) t = b := ⟨_, rfl⟩
 have hbl : bs.length ≤ 65568 ∧ 32 ≤ bs.length := by rw [← hbs, List.length_append, macM_len]; omega
 have hON : openM (keysM 3 []) 2 (bs.take 31) = (pd0, 110) := by
  unfold openM
  rw [if_neg (by rw [keysM_len]; decide), if_pos (by rw [List.length_take]; omega)]
 have hO2 : openM (keysM 3 []) 2 bs = (pwk, 0) := by rw [← hbs]; exact hOM
 rw [hbs] at hSM
 obtain ⟨n, hn⟩ : ∃ n, bs.length = n := ⟨_, rfl⟩
 rw [hn] at hbl
 have hcc : ¬ (31 : Int) > (n : Int) := by omega
 have hn31 : 31 ≤ n := by omega
 have HN := Lib.hid hn
 have HBL := Lib.hid hbl
 have HSM := Lib.hid hSM
 have HO2 := Lib.hid hO2
 have HON := Lib.hid hON
 have HML : Hid (∀ i k, (keyAt (keysM 3 []) i k).length ≤ 17592186044416) := Lib.hid (fun i k => Nat.le_trans (keyAt_le (by decide) i k) (by decide))
 have HGB : Hid (goodB (keysM 3 []) = true) := Lib.hid (goodB_keysM (by decide) (by decide) (by decide))
 have HKL : Hid ((keysM 3 []).length = 3) := Lib.hid (keysM_len _ _)
 obtain ⟨M, hM⟩ : ∃ M, keysM 3 [] = M := ⟨_, rfl⟩
 rw [hM] at HKY HSM HO2 HON HML HGB HKL
 unfold KeysQ at HKY
 clear hC hv hK hR ht hSM hOM hbs hbl hON hO2 hn hM
 go_enter Tryz.func27, Tryz.ntmps27
 go_upto_region 2 with (first
   | (go_at_call 35; go_loud (refine HKY.out.mono ?_); rintro e w1 ⟨kv, rfl, hko, hb⟩; have HB1 : Hid (Below C w w1) := Lib.hid (by rw [← HCQ.out]; exact hb); have HKO := Lib.hid hko; clear hko hb)
   | (go_at_call 29; go_loud (refine (gnew_any M kv w1 HKO.out.bsss (fun k hk => hk.2)).mono ?_); rintro e w2 ⟨hg, _, hb⟩; obtain ⟨rb, rfl, hr⟩ := hg HGB.out; have HR2 := Lib.hid hr; have HB2 : Hid (Below C w w2) := Lib.hid (HB1.out.trans (hb.mono (below_le HCQ HB1.out))); clear hg hr hb))
 have HC2 : Hid (C ≤ w2.heap.size) := Lib.hid (below_le HCQ HB2.out)
 go_upto_region 5 with (first
   | (go_at_call 31; go_loud (refine (gcarriers_any _ rb M w2 HR2.out).mono ?_); rintro e u ⟨rfl, rfl⟩; rw [HKL.out])
   | ((with_reducible refine wpList_at (.store 38 (.tmp 3) _) rfl ?_); go_loud (refine wpList_store_agg rfl _ _ _ rfl w2.heap.size 0 (pktA pwk) rfl rfl (there_of (heap_alloc_new w2 (.cells pkz.toArray 38)) 16 (by decide)) (by kernel_rfl) rfl ?_)))
 obtain ⟨D, hD⟩ : ∃ D, w2.heap.size = D := ⟨_, rfl⟩
 obtain ⟨w3, hw3⟩ : ∃ u, w2.alloc (.cells pkz.toArray 38) = u := ⟨_, rfl⟩
 obtain ⟨w4, hw4⟩ : ∃ u, w3.setCells D 0 (pktA pwk) = u := ⟨_, rfl⟩
 obtain ⟨q1, q2, q3⟩ := pkt_new w2 pwk D hD w3 w4 hw3 hw4
 have HD4 := Lib.hid q1
 have HU4 : Hid (Below w2.heap.size w2 w4) := Lib.hid (by rw [hD]; exact q2)
 have HZ4 := Lib.hid q3
 have HB4 : Hid (Below C w w4) := Lib.hid (HB2.out.trans (HU4.out.mono HC2.out))
 have HR4 : Hid (RingAt w4 w1.heap.size rb M) := Lib.hid (HR2.out.on HU4.out)
 rw [show (w2.alloc (.cells #[.int .u8 0, .int .u8 0, .bool false, .int .u64 0, .int .u8 0, .int .u8 0, .int .u64 0, .int .u8 0, .int .u8 0, .int .u16 0, .int .u32 0, .int .i64 0, .int .u8 0, .int .u32 0, .int .i64 0, .int .i64 0] 38)) = w3 from hw3, hD, hw4]
 clear hD hw3 hw4 q1 q2 q3
 have HSQ := Lib.hid (gseal_any w1.heap.size rb M pwk okpwk w4 HR4.out (HV.out.on HB4.out (by rw [HCQ.out]; exact Nat.le_refl _)) (HK.out.on (by rw [HCQ.out]; exact HB4.out)) HML.out)
 unfold SealQ at HSQ
 rw [HSM.out] at HSQ
 have HC4 : Hid (C ≤ w4.heap.size) := Lib.hid (below_le HCQ HB4.out)
 clear hself
 try simp only [Act.put]
 go_upto_region 6 with (first
   | ((with_reducible refine wpList_at (.load 38 (.tmp 3)) rfl ?_); go_loud (refine wpList_load_mid rfl 38 _ rfl D 0 rfl (pktA pwk) _ (range_row HD4.out) Tryz.underlying38 rfl (by kernel_rfl) ?_))
   | (go_at_call 32; go_loud (refine HSQ.out.mono ?_); rintro e w5 ⟨bv', rfl, hbr, hb⟩; have HS5 := Lib.hid hbr; have HU5 := Lib.hid hb; clear hbr hb))
 have HB5 : Hid (Below C w w5) := Lib.hid (HB4.out.trans (HU5.out.mono HC4.out))
 have HR5 : Hid (RingAt w5 w1.heap.size rb M) := Lib.hid (HR4.out.on HU5.out)
 have HC5 : Hid (C ≤ w5.heap.size) := Lib.hid (below_le HCQ HB5.out)
 have HOQ := Lib.hid (gopen_any w1.heap.size rb M (by rw [HKL.out]; decide) 2 (by decide) bs bv' w5 HR5.out HS5.out (fun k hk => hk.2) (HV.out.on HB5.out (by rw [HCQ.out]; exact Nat.le_refl _)) (HK.out.on (by rw [HCQ.out]; exact HB5.out)) HML.out (by have := HBL.out; have := HN.out; omega))
 unfold OpenQ at HOQ
 rw [HO2.out] at HOQ
 obtain ⟨ba, bc, rfl, k1, k2⟩ := HS5.out.form
 rw [List.length_map, HN.out] at HS5 HOQ k1 ⊢
 unfold maxLen at k2
 have HK1 := Lib.hid k1
 go_upto_region 7 with (first
   | ((with_reducible refine wpList_at (.store 38 (.tmp 6) _) rfl ?_); go_loud (refine wpList_store_agg rfl _ _ _ rfl w6.heap.size 0 (pktA pwk) rfl rfl (there_of (heap_alloc_new w6 (.cells pkz.toArray 38)) 16 (by decide)) (by kernel_rfl) rfl ?_))
   | (go_at_call 36; go_loud (refine HOQ.out.mono ?_); rintro e w6 ⟨rfl, hb⟩; have HU6 := Lib.hid hb; clear hb))
 have HB6 : Hid (Below C w w6) := Lib.hid (HB5.out.trans (HU6.out.mono HC5.out))
 obtain ⟨E, hE⟩ : ∃ D, w6.heap.size = D := ⟨_, rfl⟩
 obtain ⟨w7, hw7⟩ : ∃ u, w6.alloc (.cells pkz.toArray 38) = u := ⟨_, rfl⟩
 obtain ⟨w8, hw8⟩ : ∃ u, w7.setCells E 0 (pktA pwk) = u := ⟨_, rfl⟩
 obtain ⟨q1, q2, q3⟩ := pkt_new w6 pwk E hE w7 w8 hw7 hw8
 have HE8 := Lib.hid q1
 have HU8 : Hid (Below w6.heap.size w6 w8) := Lib.hid (by rw [hE]; exact q2)
 have HZ8 := Lib.hid q3
 have HB8 : Hid (Below C w w8) := Lib.hid (HB6.out.trans (HU8.out.mono (below_le HCQ HB6.out)))
 have HU58 : Hid (Below w5.heap.size w5 w8) := Lib.hid (HU6.out.trans (HU8.out.mono HU6.out.size))
 have HR8 : Hid (RingAt w8 w1.heap.size rb M) := Lib.hid (HR5.out.on HU58.out)
 rw [show (w6.alloc (.cells #[.int .u8 0, .int .u8 0, .bool false, .int .u64 0, .int .u8 0, .int .u8 0, .int .u64 0, .int .u8 0, .int .u8 0, .int .u16 0, .int .u32 0, .int .i64 0, .int .u8 0, .int .u32 0, .int .i64 0, .int .i64 0] 38)) = w7 from hw7, hE, hw8]
 clear hE hw7 hw8 q1 q2 q3
 try simp only [Act.put]
 have HS8 := (HS5.out.any (fun k hk => hk.2) HU58.out).take 31 (by have := HBL.out; omega)
 rw [← List.map_take] at HS8
 have HOQ2 := Lib.hid (gopen_any w1.heap.size rb M (by rw [HKL.out]; decide) 2 (by decide) (bs.take 31) (.slice ba 31 bc) w8 HR8.out HS8 (fun k hk => Nat.lt_of_lt_of_le hk.2 HU58.out.size) (HV.out.on HB8.out (by rw [HCQ.out]; exact Nat.le_refl _)) (HK.out.on (by rw [HCQ.out]; exact HB8.out)) HML.out (by rw [List.length_take]; omega))
 unfold OpenQ at HOQ2
 rw [HON.out] at HOQ2
 clear HS8
 have k3 : 31 ≤ bc := by have := HBL.out; have := HK1.out; omega
 go_upto_region 8 with (first
   | ((with_reducible refine wpList_at (.store 38 (.tmp 8) _) rfl ?_); go_loud (refine wpList_store_agg rfl _ _ _ rfl w9.heap.size 0 (pktA pd0) rfl rfl (there_of (heap_alloc_new w9 (.cells pkz.toArray 38)) 16 (by decide)) (by kernel_rfl) rfl ?_))
   | (go_at_call 36; go_loud (refine HOQ2.out.mono ?_); rintro e w9 ⟨rfl, hb⟩; have HU9 := Lib.hid hb; clear hb))
 have HB9 : Hid (Below C w w9) := Lib.hid (HB8.out.trans (HU9.out.mono (below_le HCQ HB8.out)))
 obtain ⟨G, hG⟩ : ∃ D, w9.heap.size = D := ⟨_, rfl⟩
 obtain ⟨w10, hw10⟩ : ∃ u, w9.alloc (.cells pkz.toArray 38) = u := ⟨_, rfl⟩
 obtain ⟨w11, hw11⟩ : ∃ u, w10.setCells G 0 (pktA pd0) = u := ⟨_, rfl⟩
 obtain ⟨_, q2, _⟩ := pkt_new w9 pd0 G hG w10 w11 hw10 hw11
 have HU11 : Hid (Below w9.heap.size w9 w11) := Lib.hid (by rw [hG]; exact q2)
 have HB11 : Hid (Below C w w11) := Lib.hid (HB9.out.trans (HU11.out.mono (below_le HCQ HB9.out)))
 have hE9 : w11.heap[E]? = some (.cells (pktA pwk).toArray 38 (0, 0)) := (HU11.out.block E (Nat.lt_of_lt_of_le HZ8.out HU9.out.size)).trans ((HU9.out.block E HZ8.out).trans HE8.out)
 have hD9 : w11.heap[D]? = some (.cells (pktA pwk).toArray 38 (0, 0)) := by
  have z5 : D < w5.heap.size := Nat.lt_of_lt_of_le HZ4.out HU5.out.size
  have z8 : D < w8.heap.size := Nat.lt_of_lt_of_le z5 HU58.out.size
  exact (HU11.out.block D (Nat.lt_of_lt_of_le z8 HU9.out.size)).trans ((HU9.out.block D z8).trans ((HU58.out.block D z5).trans ((HU5.out.block D HZ4.out).trans HD4.out)))
 rw [show (w9.alloc (.cells #[.int .u8 0, .int .u8 0, .bool false, .int .u64 0, .int .u8 0, .int .u8 0, .int .u64 0, .int .u8 0, .int .u8 0, .int .u16 0, .int .u32 0, .int .i64 0, .int .u8 0, .int .u32 0, .int .i64 0, .int .i64 0] 38)) = w10 from hw10, hG, hw11]
 clear hG hw10 hw11 q2
 rw [pwkL] at hE9 hD9
 obtain ⟨d0, d1, d2, d3, d4, d5, d6, d7, d8, d9, d10, d11, d12, d13, d14, d15⟩ := (cells16 hD9).1
 obtain ⟨e0, e1, e2, e3, e4, e5, e6, e7, e8, e9, e10, e11, e12, e13, e14, e15⟩ := (cells16 hE9).1
 clear hD9 hE9
 have hself := fun u => eql_pkt pwk pwk u
 rw [show eqP pwk pwk = true from eqP_iff.2 rfl, pwkL] at hself
 go_wp2_with fail
 go_ret
 exact ⟨rfl, by rw [HCQ.out]; exact HB11.out⟩
end Go.Proofs.YtgfijlamhjjecaaGreatDoor
namespace Go.Proofs.YtgfijlamhjjecaaGreatDoor
open Go.Lib Go.RowKit Go.ChangeShapes Go.WideShapes Go.ChangeAt Go.WideElems
section
variable {H : Type} {enc : TypeId × Value → H} {W : World}
theorem array16 {α : Type} {cs : Array α} (h : cs.size = 16) : ∃ c0 c1 c2 c3 c4 c5 c6 c7 c8 c9 c10 c11 c12 c13 c14 c15, cs = #[c0, c1, c2, c3, c4, c5, c6, c7, c8, c9, c10, c11, c12, c13, c14, c15] := by
 obtain ⟨l⟩ := cs
 match l, h with
 | [c0, c1, c2, c3, c4, c5, c6, c7, c8, c9, c10, c11, c12, c13, c14, c15], _ => exact ⟨c0, c1, c2, c3, c4, c5, c6, c7, c8, c9, c10, c11, c12, c13, c14, c15, rfl⟩
set_option maxRecDepth 100000 in
set_option maxHeartbeats 4000000 in
theorem pkt_of_trod {r : Reach} {b0 : Nat} {base : Nat} {spare : Nat → Bool} {held : Bool} {v0 : Value} {d0 : DataW H} {p0 : List MemPlace} (hv : Value.okWide Tryz.prog W r b0 38 v0) (h : DataW.Trod enc Tryz.prog W base spare held 38 v0 d0 p0) :
  ∃ p : PD, v0 = .agg (pktA p).toArray ∧ okPD p := by
 have hcpacket : Tryz.prog.cellsOf 38 = 16 := by kernel_rfl
 have hcmessage : Tryz.prog.cellsOf 36 = 12 := by kernel_rfl
 have hckey : Tryz.prog.cellsOf 26 = 3 := by kernel_rfl
 have hcticket : Tryz.prog.cellsOf 24 = 2 := by kernel_rfl
 have hccoupon : Tryz.prog.cellsOf 33 = 6 := by kernel_rfl
 have hcleg : Tryz.prog.cellsOf 30 = 3 := by kernel_rfl
 have hcu8 : Tryz.prog.cellsOf 5 = 1 := by kernel_rfl
 have hcu16 : Tryz.prog.cellsOf 27 = 1 := by kernel_rfl
 have hcu32 : Tryz.prog.cellsOf 28 = 1 := by kernel_rfl
 have hcu64 : Tryz.prog.cellsOf 22 = 1 := by kernel_rfl
 have hci64 : Tryz.prog.cellsOf 2 = 1 := by kernel_rfl
 have hcbool : Tryz.prog.cellsOf 4 = 1 := by kernel_rfl
 have hcstatus : Tryz.prog.cellsOf 31 = 1 := by kernel_rfl
 have hcerrno : Tryz.prog.cellsOf 34 = 1 := by kernel_rfl
 obtain ⟨cs, rfl, hsz⟩ := okWide_struct Tryz.underlying38 hv
 obtain ⟨c0, c1, c2, c3, c4, c5, c6, c7, c8, c9, c10, c11, c12, c13, c14, c15, rfl⟩ := array16 (hsz.trans hcpacket)
 obtain ⟨fuel, hy⟩ := h
 obtain ⟨ys, m, _, _, _, hl, hf⟩ := Go.DataW.trod_struct Tryz.underlying38 hy
 match ys, hl with
 | [y_0, y_1, y_2, y_3, y_4], _ =>
 have hy_0 := hf 0 _ rfl
 have hy_1 := hf 1 _ rfl
 have hy_2 := hf 2 _ rfl
 have hy_3 := hf 3 _ rfl
 have hy_4 := hf 4 _ rfl
 simp [hcmessage, hcu8, hcu64, hcbool] at hy_0 hy_1 hy_2 hy_3 hy_4
 obtain ⟨x_fr, e_fr, rfl, s_fr⟩ := Go.DataW.trod_int Tryz.underlying5 hy_0
 obtain ⟨x_dst, e_dst, rfl, s_dst⟩ := Go.DataW.trod_int Tryz.underlying5 hy_1
 obtain ⟨x_ack, e_ack, rfl⟩ := Go.DataW.trod_bool Tryz.underlying4 hy_2
 obtain ⟨x_num, e_num, rfl, s_num⟩ := Go.DataW.trod_int Tryz.underlying22 hy_3
 obtain ⟨ys_4, m_4, _, _, _, hl_4, hf_4⟩ := Go.DataW.trod_struct Tryz.underlying36 hy_4
 match ys_4, hl_4 with
 | [y_4_0, y_4_1, y_4_2, y_4_3, y_4_4], _ =>
 have hy_4_0 := hf_4 0 _ rfl
 have hy_4_1 := hf_4 1 _ rfl
 have hy_4_2 := hf_4 2 _ rfl
 have hy_4_3 := hf_4 3 _ rfl
 have hy_4_4 := hf_4 4 _ rfl
 simp [hckey, hccoupon, hcu8, hci64, hcerrno] at hy_4_0 hy_4_1 hy_4_2 hy_4_3 hy_4_4
 obtain ⟨x_kind, e_kind, rfl, s_kind⟩ := Go.DataW.trod_int Tryz.underlying5 hy_4_0
 obtain ⟨ys_4_1, m_4_1, _, _, _, hl_4_1, hf_4_1⟩ := Go.DataW.trod_struct Tryz.underlying26 hy_4_1
 match ys_4_1, hl_4_1 with
 | [y_4_1_0, y_4_1_1], _ =>
 have hy_4_1_0 := hf_4_1 0 _ rfl
 have hy_4_1_1 := hf_4_1 1 _ rfl
 simp [hcticket, hcu8] at hy_4_1_0 hy_4_1_1
 obtain ⟨ys_4_1_0, m_4_1_0, _, _, _, hl_4_1_0, hf_4_1_0⟩ := Go.DataW.trod_struct Tryz.underlying24 hy_4_1_0
 match ys_4_1_0, hl_4_1_0 with
 | [y_4_1_0_0, y_4_1_0_1], _ =>
 have hy_4_1_0_0 := hf_4_1_0 0 _ rfl
 have hy_4_1_0_1 := hf_4_1_0 1 _ rfl
 simp [hcu8, hcu64] at hy_4_1_0_0 hy_4_1_0_1
 obtain ⟨x_tc, e_tc, rfl, s_tc⟩ := Go.DataW.trod_int Tryz.underlying5 hy_4_1_0_0
 obtain ⟨x_ts, e_ts, rfl, s_ts⟩ := Go.DataW.trod_int Tryz.underlying22 hy_4_1_0_1
 obtain ⟨x_pl, e_pl, rfl, s_pl⟩ := Go.DataW.trod_int Tryz.underlying5 hy_4_1_1
 obtain ⟨ys_4_2, m_4_2, _, _, _, hl_4_2, hf_4_2⟩ := Go.DataW.trod_struct Tryz.underlying33 hy_4_2
 match ys_4_2, hl_4_2 with
 | [y_4_2_0, y_4_2_1, y_4_2_2, y_4_2_3], _ =>
 have hy_4_2_0 := hf_4_2 0 _ rfl
 have hy_4_2_1 := hf_4_2 1 _ rfl
 have hy_4_2_2 := hf_4_2 2 _ rfl
 have hy_4_2_3 := hf_4_2 3 _ rfl
 simp [hcleg, hcu32, hci64, hcstatus] at hy_4_2_0 hy_4_2_1 hy_4_2_2 hy_4_2_3
 obtain ⟨ys_4_2_0, m_4_2_0, _, _, _, hl_4_2_0, hf_4_2_0⟩ := Go.DataW.trod_struct Tryz.underlying30 hy_4_2_0
 match ys_4_2_0, hl_4_2_0 with
 | [y_4_2_0_0, y_4_2_0_1, y_4_2_0_2], _ =>
 have hy_4_2_0_0 := hf_4_2_0 0 _ rfl
 have hy_4_2_0_1 := hf_4_2_0 1 _ rfl
 have hy_4_2_0_2 := hf_4_2_0 2 _ rfl
 simp [hcu8, hcu16, hcu32] at hy_4_2_0_0 hy_4_2_0_1 hy_4_2_0_2
 obtain ⟨x_car, e_car, rfl, s_car⟩ := Go.DataW.trod_int Tryz.underlying5 hy_4_2_0_0
 obtain ⟨x_fl, e_fl, rfl, s_fl⟩ := Go.DataW.trod_int Tryz.underlying27 hy_4_2_0_1
 obtain ⟨x_we, e_we, rfl, s_we⟩ := Go.DataW.trod_int Tryz.underlying28 hy_4_2_0_2
 obtain ⟨x_va, e_va, rfl, s_va⟩ := Go.DataW.trod_int Tryz.underlying2 hy_4_2_1
 obtain ⟨x_st, e_st, rfl, s_st⟩ := Go.DataW.trod_int Tryz.underlying31 hy_4_2_2
 obtain ⟨x_no, e_no, rfl, s_no⟩ := Go.DataW.trod_int Tryz.underlying28 hy_4_2_3
 obtain ⟨x_am, e_am, rfl, s_am⟩ := Go.DataW.trod_int Tryz.underlying2 hy_4_3
 obtain ⟨x_co, e_co, rfl, s_co⟩ := Go.DataW.trod_int Tryz.underlying34 hy_4_4
 simp [Value.cells] at e_fr e_dst e_ack e_num e_kind e_tc e_ts e_pl e_car e_fl e_we e_va e_st e_no e_am e_co
 subst e_fr e_dst e_ack e_num e_kind e_tc e_ts e_pl e_car e_fl e_we e_va e_st e_no e_am e_co
 have r_fr : (0 : Int) ≤ x_fr ∧ x_fr ≤ 255 := (Lit.wf_int_iff _ _).1 s_fr
 have r_dst : (0 : Int) ≤ x_dst ∧ x_dst ≤ 255 := (Lit.wf_int_iff _ _).1 s_dst
 have r_num : (0 : Int) ≤ x_num ∧ x_num ≤ 18446744073709551615 := (Lit.wf_int_iff _ _).1 s_num
 have r_kind : (0 : Int) ≤ x_kind ∧ x_kind ≤ 255 := (Lit.wf_int_iff _ _).1 s_kind
 have r_tc : (0 : Int) ≤ x_tc ∧ x_tc ≤ 255 := (Lit.wf_int_iff _ _).1 s_tc
 have r_ts : (0 : Int) ≤ x_ts ∧ x_ts ≤ 18446744073709551615 := (Lit.wf_int_iff _ _).1 s_ts
 have r_pl : (0 : Int) ≤ x_pl ∧ x_pl ≤ 255 := (Lit.wf_int_iff _ _).1 s_pl
 have r_car : (0 : Int) ≤ x_car ∧ x_car ≤ 255 := (Lit.wf_int_iff _ _).1 s_car
 have r_fl : (0 : Int) ≤ x_fl ∧ x_fl ≤ 65535 := (Lit.wf_int_iff _ _).1 s_fl
 have r_we : (0 : Int) ≤ x_we ∧ x_we ≤ 4294967295 := (Lit.wf_int_iff _ _).1 s_we
 have r_va : (-9223372036854775808 : Int) ≤ x_va ∧ x_va ≤ 9223372036854775807 := (Lit.wf_int_iff _ _).1 s_va
 have r_st : (0 : Int) ≤ x_st ∧ x_st ≤ 255 := (Lit.wf_int_iff _ _).1 s_st
 have r_no : (0 : Int) ≤ x_no ∧ x_no ≤ 4294967295 := (Lit.wf_int_iff _ _).1 s_no
 have r_am : (-9223372036854775808 : Int) ≤ x_am ∧ x_am ≤ 9223372036854775807 := (Lit.wf_int_iff _ _).1 s_am
 have r_co : (-9223372036854775808 : Int) ≤ x_co ∧ x_co ≤ 9223372036854775807 := (Lit.wf_int_iff _ _).1 s_co
 refine ⟨⟨x_fr.toNat, x_dst.toNat, x_ack, x_num.toNat, ⟨x_kind.toNat, x_tc.toNat, x_ts.toNat, x_pl.toNat, ⟨x_car.toNat, x_fl.toNat, x_we.toNat, x_va, x_st.toNat, x_no.toNat⟩, x_am, x_co⟩⟩, ?_, ⟨by simp only; omega, by simp only; omega, by simp only; omega, ⟨by simp only; omega, by simp only; omega, by simp only; omega, by simp only; omega, by simp only; omega, by simp only; omega, by simp only; omega, r_va, by simp only; omega, by simp only; omega, r_am, r_co⟩⟩⟩
 unfold pktA msgA
 simp only [List.cons_append, List.nil_append]
 rw [Int.toNat_of_nonneg r_fr.1, Int.toNat_of_nonneg r_dst.1, Int.toNat_of_nonneg r_num.1, Int.toNat_of_nonneg r_kind.1, Int.toNat_of_nonneg r_tc.1, Int.toNat_of_nonneg r_ts.1, Int.toNat_of_nonneg r_pl.1, Int.toNat_of_nonneg r_car.1, Int.toNat_of_nonneg r_fl.1, Int.toNat_of_nonneg r_we.1, Int.toNat_of_nonneg r_st.1, Int.toNat_of_nonneg r_no.1]
end
theorem gSyn : Tryz.prog.globalNamed "strconv.ErrSyntax" = some 2 := by kernel_rfl
theorem gSynT : (Tryz.prog.globals[2]?).map (·.type) = some 177 := by kernel_rfl
theorem gRng : Tryz.prog.globalNamed "strconv.ErrRange" = some 3 := by kernel_rfl
theorem gRngT : (Tryz.prog.globals[3]?).map (·.type) = some 177 := by kernel_rfl
theorem gPow : Tryz.prog.globalNamed "internal/strconv.uint64pow10" = some 1 := by kernel_rfl
theorem gPowT : (Tryz.prog.globals[1]?).map (·.type) = some 264 := by kernel_rfl
theorem cellsU64 : Tryz.prog.cellsOf 22 = 1 := by kernel_rfl
theorem cellsPow : Tryz.prog.cellsOf 264 = 20 := by kernel_rfl
theorem cellsErr : Tryz.prog.cellsOf 282 = 1 := by kernel_rfl
theorem cellsStr : Tryz.prog.cellsOf 9 = 1 := by kernel_rfl
theorem errStar : "*" ++ "errors.errorString" = "*errors.errorString" := by decide
theorem errRow (u : TypeId) (h : Tryz.prog.typeName? 3 u = some "*errors.errorString") : u = 280 :=
 typeName_ptr_named (nm := "errors.errorString") (by rw [errStar]; kernel_rfl) (by kernel_rfl) (by decide) u (by rw [errStar]; exact h)
section
variable {H : Type} {enc : TypeId × Value → H} {W : World}
end
theorem gSha : Tryz.prog.globalNamed "tarmac/sha.constants" = some 0 := by kernel_rfl
theorem gShaT : (Tryz.prog.globals[0]?).map (·.type) = some 224 := by kernel_rfl
theorem cellsU32 : Tryz.prog.cellsOf 28 = 1 := by kernel_rfl
theorem cellsSha : Tryz.prog.cellsOf 224 = 64 := by kernel_rfl
theorem varsG {W : World} (h : laidMetH Tryz.prog Rows.sealNilRow.laid W) : VarsOk W ∧ VarsK W := by
 rw [MakeChecks.laidMetH_plain _ _ _ (by kernel_rfl)] at h
 have h2 := h.tail.tail
 have h3 := h2.tail
 have h4 := h3.tail
 have h5 := h4.tail
 obtain ⟨a0, s0, hv0, -, -, -⟩ := laid_sentinel h3 gRng gRngT Tryz.underlying177 errRow Tryz.underlying280 Tryz.underlying282 rfl rfl Tryz.underlying9 cellsErr cellsStr
 obtain ⟨a1, s1, hv1, -, -, -⟩ := laid_sentinel h4 gSyn gSynT Tryz.underlying177 errRow Tryz.underlying280 Tryz.underlying282 rfl rfl Tryz.underlying9 cellsErr cellsStr
 refine ⟨⟨Lib.tabIs_of_head gPow gPowT Tryz.underlying264 Tryz.underlying22 cellsU64 cellsPow h2, ⟨_, _, by have h0 := World.var?_cell gSyn hv1 0; simpa using h0⟩, ⟨_, _, by have h0 := World.var?_cell gRng hv0 0; simpa using h0⟩⟩, ⟨fun i k hk => ?_⟩⟩
 have ht : Lib.TabIs Tryz.prog W "tarmac/sha.constants" .u32 (shaK.map (fun k : Nat => (k : Int))) := Lib.tabIs_of_head gSha gShaT Tryz.underlying224 Tryz.underlying28 cellsU32 cellsSha h5
 unfold Lib.TabIs at ht
 rw [World.var?_cell gSha ht i, List.getElem?_toArray, List.map_map, List.getElem?_map, hk]; rfl
theorem door_metG (os : Os) (args : Array Value) : laidMet Tryz.prog Rows.sealNilRow.laid ((World.doorLaid Tryz.prog 3000 os).forCall (fun _ _ => 0) ⟨#[], args, []⟩).memory :=
 laidMet_of_run' 8 (by kernel_rfl) (by kernel_rfl)
section
variable {H : Type} {enc : TypeId × Value → H} {w : World} {base : Nat} {spare : Nat → Bool} {held : Bool}
theorem addr_ofc {w : World} {a : Addr} {v : Value} (h : w.cell? a = some v) : a = ⟨a.block, a.off, none⟩ := by
 have hs : a.spot = none := by
  unfold World.cell? at h
  split at h
  · cases hs : a.spot with
    | none => rfl
    | some s => simp [hs] at h
  · simp at h
 cases a; simp_all
theorem str_of_trod {fuel : Nat} {v : Value} {x : DataW H × List MemPlace} (h : DataW.trod enc Tryz.prog w base spare held fuel 72 [v] = some x) : ∃ l : Str, RowAt (Low w) w v (l.map bv) := by
 rcases open_ints Tryz.underlying72 Tryz.underlying5 (by kernel_rfl) h with ⟨hcs, _⟩ | ⟨x, l, c, zs, hcs, _, hl, hm, hz, _, hcell, hwz⟩
 · simp at hcs; subst hcs
   exact ⟨[], row_nilB _ _⟩
 · simp at hcs; subst hcs
   have hz' : l ≤ zs.length := by rw [hz]; split <;> omega
   have hlen : (((zs.take l).map fun z => UInt8.ofNat z.toNat).map bv).length = l := by simp; omega
   refine ⟨(zs.take l).map fun z => UInt8.ofNat z.toNat, some x, c, by rw [hlen], by rw [hlen]; exact hl, hm, (fun e => by cases e), fun h0 => ?_⟩
   have h0 : 0 < l := by
    rcases Nat.eq_zero_or_pos l with e | e
    · exact absurd (List.eq_nil_of_length_eq_zero (hlen.trans e)) h0
    · exact e
   have hc0 := hcell 0 (by omega)
   have hx := addr_ofc (by simpa [Addr.add] using hc0)
   refine ⟨x.block, x.off, by rw [← hx], ?_, fun j v hv => ?_⟩
   · rw [hx, Addr.add_mid] at hc0
     exact cell_lt' hc0
   · have hj : j < l := by have := (List.getElem?_eq_some_iff.1 hv).1; rw [hlen] at this; exact this
     rw [List.getElem?_map, List.getElem?_map, List.getElem?_take_of_lt hj, List.getElem?_eq_getElem (by omega)] at hv
     have h1 := hcell j (by omega)
     rw [hx, Addr.add_mid] at h1
     rw [h1, ← Option.some.inj hv]
     have hw : (0 : Int) ≤ zs[j] ∧ zs[j] ≤ 255 := (Lit.wf_int_iff _ _).1 (hwz zs[j] (List.getElem_mem _))
     simp only [bv]
     rw [List.getD_eq_getElem?_getD, List.getElem?_eq_getElem (by omega), Option.getD_some]
     rw [UInt8.toNat_ofNat_of_lt' (by show _ < 256; omega)]
     congr 2; omega
end
end Go.Proofs.YtgfijlamhjjecaaGreatDoor
namespace Go.Proofs.YtgfijlamhjjecaaGreatDoor
open Go.RowKit
structure RW (P Q : Nat) (w w' : World) : Prop where
 os : w'.os = w.os
 tape : w'.tape = w.tape
 output : w'.output = w.output
 size : w'.heap.size = w.heap.size
 out : ∀ k : Nat, k < P ∨ Q ≤ k → w'.heap[k]? = w.heap[k]?
 ins : ∀ k : Nat, w'.heap[k]? = w.heap[k]? ∨ ∃ cs cs' : Array Value, w.heap[k]? = some (Obj.cells cs 5 (0, 0)) ∧ w'.heap[k]? = some (Obj.cells cs' 5 (0, 0)) ∧ cs'.size = cs.size
theorem RW.refl (P Q : Nat) (w : World) : RW P Q w w := ⟨rfl, rfl, rfl, rfl, fun _ _ => rfl, fun _ => .inl rfl⟩
theorem RW.drew {P Q : Nat} {w w' : World} (h : RW P Q w w') : RW P Q w w'.drew := ⟨h.os, h.tape, h.output, h.size, h.out, h.ins⟩
theorem RW.store {P Q : Nat} {w w' : World} (h : RW P Q w w') {g j : Nat} {cs : Array Value} (hg : w'.heap[g]? = some (.cells cs 5 (0, 0))) (h1 : P ≤ g) (h2 : g < Q) (v : Value) : RW P Q w (w'.setCell ⟨g, j, none⟩ v) := by
 have hs := heap_setCell_same w' g j _ _ v hg
 refine ⟨h.os, h.tape, h.output, by simp [h.size], fun k hk => ?_, fun k => ?_⟩
 · rw [heap_setCell_other _ _ _ _ (show k ≠ g by omega)]; exact h.out k hk
 · by_cases e : k = g
   · subst e
     right
     rcases h.ins k with h3 | ⟨c1, c2, h3, h4, h5⟩
     · exact ⟨cs, _, by rw [← h3, hg], hs, by simp⟩
     · rw [hg] at h4
       cases h4
       exact ⟨c1, _, h3, hs, by simpa using h5⟩
   · rw [heap_setCell_other _ _ _ _ e]; exact h.ins k
theorem RW.keep {P Q : Nat} {w w' : World} (h : RW P Q w w') {k : Nat} {cs : Array Value} {t : TypeId} (hk : w.heap[k]? = some (.cells cs t (0, 0))) (ht : t ≠ 5) : w'.heap[k]? = some (.cells cs t (0, 0)) := by
 rcases h.ins k with h3 | ⟨c1, c2, h3, _⟩
 · rw [h3, hk]
 · rw [hk] at h3
   cases h3
   exact absurd rfl ht
theorem RW.bytes {P Q : Nat} {w w' : World} (h : RW P Q w w') {k : Nat} {cs : Array Value} (hk : w.heap[k]? = some (.cells cs 5 (0, 0))) : ∃ cs' : Array Value, w'.heap[k]? = some (.cells cs' 5 (0, 0)) ∧ cs'.size = cs.size := by
 rcases h.ins k with h3 | ⟨c1, c2, h3, h4, h5⟩
 · exact ⟨cs, by rw [h3, hk], rfl⟩
 · rw [hk] at h3
   cases h3
   exact ⟨c2, h4, h5⟩
theorem RW.below {P Q : Nat} {w w' : World} (h : RW P Q w w') : Below P w w' := ⟨h.os, h.tape, h.output, by rw [h.size]; exact Nat.le_refl _, fun k hk => h.out k (.inl hk)⟩
theorem RW.fr {P Q : Nat} {w w' : World} (h : RW P Q w w') : Fr (List.range Q) w w' := ⟨h.os, h.tape, h.output, by rw [h.size]; exact Nat.le_refl _, fun k _ hk => h.out k (.inr (by simpa using hk))⟩
theorem own_keep {P Q : Nat} {w w4 w' : World} (hb : Below w.heap.size w w4) (h : RW P Q w4 w') {B : Nat} {e : TypeId} (he : e ≠ 5) {n g cap : Nat} {xs : List Value} (ho : w.ownsRow B e 1 (.slice (some ⟨g, 0, none⟩) n cap) n xs) {j : Nat} {x : Value} (hj : xs[j]? = some x) (hn : 0 < n) : w'.cell? ⟨g, j, none⟩ = some x := by
 have hc := own_cell ho hj
 obtain ⟨g', c', cur, e1, _, hh, _⟩ := own_form ho hn (by decide)
 cases e1
 have hk := h.keep ((hb.block g (Array.getElem?_eq_some_iff.1 hh).1).trans hh) he
 rw [cell_of_row w g j _ _ _ hh] at hc
 rw [cell_of_row w' g j _ _ _ hk]
 exact hc
theorem keys_at {P Q : Nat} {w w4 : World} {v : Value} {L : List (List Str)} (h : KeysO w P v L) (hb : Below w.heap.size w w4) {i k : Nat} {r : List Str} {s : Str} (hr : L[i]? = some r) (hs : r[k]? = some s) :
  ∃ g cap g2 c2 yo yc, v = .slice (some ⟨g, 0, none⟩) L.length cap ∧ (∀ w', RW P Q w4 w' → w'.cell? ⟨g, i, none⟩ = some (.slice (some ⟨g2, 0, none⟩) r.length c2) ∧ w'.cell? ⟨g2, k, none⟩ = some (.slice yo s.length yc)) ∧
    (0 < s.length → ∃ (g3 : Nat) (cs : Array Value), yo = some ⟨g3, 0, none⟩ ∧ P ≤ g3 ∧ g3 < w.heap.size ∧ w4.heap[g3]? = some (Obj.cells cs 5 (0, 0)) ∧ s.length ≤ cs.size) := by
 obtain ⟨xs, h1, h2, _, h3⟩ := h.ex
 have hi := (List.getElem?_eq_some_iff.1 hr).1
 have hk := (List.getElem?_eq_some_iff.1 hs).1
 obtain ⟨g, cap, cur, rfl, _⟩ := own_form h1 (by omega) (by decide)
 have hx := List.getElem?_eq_getElem (show i < xs.length by omega)
 obtain ⟨ys, y1, y2, y3⟩ := (h3 i r _ hr hx).ex
 obtain ⟨g2, c2, cur2, hx2, _⟩ := own_form y1 (by omega) (by decide)
 rw [hx2] at hx y1
 have hy := List.getElem?_eq_getElem (show k < ys.length by omega)
 have ho := y3 k s _ hs hy
 obtain ⟨yo, yc, he⟩ := OwnS.form ho
 rw [he] at hy ho
 refine ⟨g, cap, g2, c2, yo, yc, rfl, fun w' hw => ⟨own_keep hb hw (by decide) h1 hx (by omega), own_keep hb hw (by decide) y1 hy (by omega)⟩, fun hpos => ?_⟩
 obtain ⟨g3, c3, cs, e3, hg3, hh3, hc3, _, hcs, _⟩ := own_form ho hpos (by decide)
 cases e3
 exact ⟨g3, cs, rfl, hg3, (Array.getElem?_eq_some_iff.1 hh3).1, (hb.block g3 (Array.getElem?_eq_some_iff.1 hh3).1).trans hh3, by omega⟩
def FillQ (l : Str) (w : World) (e : Ending) (w' : World) : Prop := ∃ v', e = .returned v' ∧ OwnS w' w.heap.size v' l ∧ Below w.heap.size w w'
theorem padZ_rem (n j : Nat) (h : j < padZ n) : (n + 1 + j) % 64 ≠ 56 := by unfold padZ at h; omega
theorem padZ_end (n : Nat) : (n + 1 + padZ n) % 64 = 56 := by unfold padZ; omega
set_option maxRecDepth 100000 in
set_option maxHeartbeats 16000000 in
theorem r1filled_any {T : Nat → Prop} (bs : Str) (src : Value) (w : World) (h : RowAt T w src (bs.map bv)) (_hT : ∀ k, T k → k < w.heap.size) (hl : bs.length ≤ 17592186044416) :
  Calls Tryz.prog 108 #[src] w fun e w' => FillQ (filled bs) w e w' := by
 obtain ⟨B, hB⟩ : ∃ B, w.heap.size = B := ⟨_, rfl⟩
 have HBQ := Lib.hid hB
 obtain ⟨so, sc, rfl, s1, s2⟩ := h.form
 rw [List.length_map] at s1 h ⊢
 unfold maxLen at s2
 obtain ⟨n, hn⟩ : ∃ n, bs.length = n := ⟨_, rfl⟩
 rw [hn] at s1 h hl ⊢
 have HN := Lib.hid hn
 have HS := Lib.hid h
 clear hB h _hT hn
 go_enter Tryz.func108, Tryz.ntmps108
 go_upto_block 0 with (first
   | ((with_reducible refine wpList_at (.call { callee := .builtin .append, args := #[.const (.slice none 0 0), .tmp 6], argTypes := #[72, 72] }) rfl ?_); refine wp_app_bytes (v := .slice none 0 0) (src := .slice so n sc) rfl _ _ rfl rfl rfl (OwnS.nil w B) HS.out (by rw [HN.out]; simp; omega) (by rw [HBQ.out]; exact Nat.le_refl _) ?_; intro v1 w1 hO hgr _; rw [List.nil_append] at hO; have HO1 := Lib.hid hO; obtain ⟨a1, c1, rfl⟩ := hO.form; rw [HN.out] at HO1 ⊢; have HB1 : Hid (Below B w w1) := Lib.hid ((Below.refl _ _).grown hgr (by rw [HBQ.out]; exact Nat.le_refl _) (fun b hb => by cases hb)); have HZ1 : Hid (B ≤ w1.heap.size) := Lib.hid (by have := hgr.size; have := HBQ.out; omega); clear hO hgr)
   | ((with_reducible refine wpList_at (.call { callee := .builtin .append, args := #[.tmp 7, .tmp 8], argTypes := #[72, 72] }) rfl ?_); go_loud (refine wp_app1 (v := .slice a1 n c1) (l := bs) rfl _ _ rfl 128 rfl rfl HO1.out (by rw [HN.out]; omega) HZ1.out ?_); intro v2 w2 hO hgr; have HO2 := Lib.hid hO; have HB2 : Hid (Below B w w2) := Lib.hid (HB1.out.grown hgr HZ1.out (fun b hb => (own_lt HO1.out hb).1)); have HZ2 : Hid (B ≤ w2.heap.size) := Lib.hid (Nat.le_trans HZ1.out hgr.size); clear hO hgr))
 go_wp2_with fail
 go_loopw [3] (fun v wr => ∃ j : Nat, j ≤ padZ n ∧ Hid (OwnS wr B v (bs ++ [128] ++ List.replicate j 0)) ∧ Hid (Below B w wr)) (fun v _ => padZ n + n + 1 - (match v with | .slice _ l _ => l | _ => 0))
 case atStart => exact ⟨0, Nat.zero_le _, Lib.hid (by rw [List.replicate_zero, List.append_nil]; exact HO2.out), HB2⟩
 case round =>
  obtain ⟨j, hj, HOJ, HBJ⟩ := hrel
  obtain ⟨va, vc, rfl⟩ := HOJ.out.form
  have hlen : (bs ++ [128] ++ List.replicate j 0).length = n + 1 + j := by rw [List.length_append, List.length_append, HN.out, List.length_replicate]; rfl
  rw [hlen]
  have HLEN := Lib.hid hlen
  have hp : padZ n < 64 := by unfold padZ; omega
  clear hlen
  obtain ⟨nj, hnj⟩ : ∃ m, n + 1 + j = m := ⟨_, rfl⟩
  rw [hnj]
  have HNJ := Lib.hid hnj
  have HOJ2 : Hid (OwnS wr B (.slice va nj vc) (bs ++ [128] ++ List.replicate j 0)) := Lib.hid (by rw [← hnj, ← HLEN.out]; exact HOJ.out)
  obtain ⟨LJ, hLJ⟩ : ∃ L, bs ++ [128] ++ List.replicate j 0 = L := ⟨_, rfl⟩
  rw [hLJ] at HOJ2 HLEN
  have HLJ := Lib.hid hLJ
  clear hLJ HOJ
  by_cases hjl : j < padZ n
  · have g1 : ((nj : Int) % 64 != 56) = true := by
     have := padZ_rem n j hjl
     rw [bne_iff_ne]; omega
    clear hnj
    go_wp2_with ((with_reducible refine wpList_at (.call { callee := .builtin .append, args := #[.tmp 14, .tmp 15], argTypes := #[72, 72] }) rfl ?_); go_loud (refine wp_app1 (w := wr) (v := .slice va nj vc) (l := LJ) rfl _ _ rfl 0 rfl rfl HOJ2.out (by rw [HLEN.out]; omega) (below_le' HBQ HBJ.out) ?_); go_loud (intro v3 w3 hO hgr; have HO3 := Lib.hid hO; have HB3 : Hid (Below B w w3) := Lib.hid (HBJ.out.grown hgr (below_le' HBQ HBJ.out) (fun b hb => (own_lt HOJ2.out hb).1)); clear hO hgr))
    go_roundw
    case rel => exact ⟨j + 1, by omega, Lib.hid (by rw [List.replicate_succ', ← List.append_assoc, HLJ.out]; exact HO3.out), HB3⟩
    case measure =>
     obtain ⟨_, _, rfl⟩ := HO3.out.form
     rw [List.length_append, HLEN.out, List.length_singleton]
     simp only
     have := HNJ.out
     omega
  · obtain rfl : j = padZ n := by omega
    have g1 : ((nj : Int) % 64 != 56) = false := by
     have := padZ_end n
     rw [bne_eq_false_iff_eq]; omega
    clear hnj
    go_upto_block 2 with fail
    obtain ⟨wo, hwo⟩ : ∃ wo : World, wo = wr := ⟨_, rfl⟩
    rw [← hwo] at HOJ2 HBJ ⊢
    clear hwo wr
    go_wp2_with fail
    go_loopg [3, 5] 8 (fun g tv kv wr => ∃ (i : Nat) (kk : Int) (ta : Option Addr) (tc : Nat), i ≤ 8 ∧ g = 8 - i ∧ kk = 56 - 8 * (i : Int) ∧ kv = .int .i64 kk ∧ tv = .slice ta (nj + i) tc ∧ Hid (OwnS wr B (.slice ta (nj + i) tc) (LJ ++ (be8 (n * 8)).take i)) ∧ Hid (Below B w wr))
    case atStart => exact ⟨0, 56, va, vc, by omega, rfl, by omega, rfl, rfl, Lib.hid (by rw [List.take_zero, List.append_nil]; exact HOJ2.out), HBJ⟩
    case round =>
     obtain ⟨i, kk, ta, tc, hi, hg, hkk, rfl, rfl, HTR, HBR⟩ := hrel
     obtain ⟨n1, hn1⟩ : ∃ n, nj + i = n := ⟨_, rfl⟩
     rw [hn1] at HTR ⊢
     have HN1 := Lib.hid hn1
     have hzr := below_le' HBQ HBR.out
     by_cases hi8 : i < 8
     · have b1 : (0 : Int) ≤ kk := by omega
       obtain ⟨sh, hsh⟩ : ∃ sh, 56 - 8 * i = sh := ⟨_, rfl⟩
       obtain rfl : kk = (sh : Int) := by omega
       obtain ⟨N, hN⟩ : ∃ N, n * 8 = N := ⟨_, rfl⟩
       have hs64 : sh ≤ 56 := by omega
       obtain ⟨cc, hcc⟩ : ∃ c, UInt8.ofNat (N / 2 ^ sh) = c := ⟨_, rfl⟩
       have g3 : (n : Int) * 8 / 2 ^ sh % 256 = (cc.toNat : Int) := by
        rw [show (n : Int) * 8 = (N : Int) by omega, ← hcc, ← bv_shr, Int.natCast_ediv, Int.natCast_pow]; rfl
       have HTK : Hid (LJ ++ (be8 (n * 8)).take i ++ [cc] = LJ ++ (be8 (n * 8)).take (i + 1)) := Lib.hid (by
        have e : (be8 (n * 8))[i]? = some cc := by rw [hN, ← hcc, ← hsh]; simp [be8, hi8]
        rw [List.take_add_one, e, List.append_assoc]; rfl)
       have HLN : Hid ((LJ ++ (be8 (n * 8)).take i).length = n1 ∧ (LJ ++ (be8 (n * 8)).take (i + 1)).length = nj + (i + 1)) := Lib.hid (by
        have hjj := HNJ.out
        constructor
        · rw [List.length_append, HLEN.out, List.length_take, be8_len]; omega
        · rw [List.length_append, HLEN.out, List.length_take, be8_len]; omega)
       have hnl : n1 ≤ 17592186044600 := by have := HNJ.out; omega
       have HKK : Hid (((sh : Int) - 8) = 56 - 8 * ((i + 1 : Nat) : Int)) := Lib.hid (by omega)
       clear hsh hN hkk hn1 hcc
       go_wp2_with (at_builtin; go_loud (refine wp_app1 rfl _ _ rfl (w := wr) (B := B) (v := .slice ta n1 tc) (l := LJ ++ (be8 (n * 8)).take i) cc rfl rfl HTR.out ?d1 hzr ?_; (case d1 => rw [HLN.out.1]; omega); intro v6 w6 hO6 hgr; rw [HTK.out] at hO6; obtain ⟨xa, xc, rfl⟩ := OwnS.form hO6; rw [HLN.out.2] at hO6 ⊢; have HO6 := Lib.hid hO6; have HB6 : Hid (Below B w w6) := Lib.hid (below_grownO HBR.out HTR.out hgr hzr); clear hO6 hgr))
       go_roundg (8 - (i + 1))
       case rel => exact ⟨i + 1, _, xa, xc, by omega, rfl, HKK.out, rfl, rfl, HO6, HB6⟩
       case measure => rw [hg]; omega
     · obtain rfl : i = 8 := by omega
       have b1 : decide ((0 : Int) ≤ kk) = false := by rw [decide_eq_false_iff_not]; omega
       have b2 : ¬ (0 : Int) ≤ kk := by omega
       clear hkk hn1
       have HF : Hid (OwnS wr B (.slice ta n1 tc) (filled bs)) := Lib.hid (by
        have h0 := HTR.out
        rw [List.take_of_length_le (by rw [be8_len]; exact Nat.le_refl _), ← HLJ.out] at h0
        have e : filled bs = bs ++ [128] ++ List.replicate (padZ n) 0 ++ be8 (n * 8) := by
         unfold filled shaT; rw [HN.out]; simp
        rw [e]; exact h0)
       go_wp2_with fail
       go_ret
       exact ⟨_, rfl, by rw [HBQ.out]; exact HF.out, by rw [HBQ.out]; exact HBR.out⟩
theorem shaK_len : shaK.length = 64 := rfl
theorem zeroK : ∀ w, (zeroValue 224).run Tryz.prog w = .ok (.agg (pad64 []).toArray) w := fun _ => by kernel_rfl
theorem res_w64 {fn : Func} {p : Tmp} (h : fn.results = #[.cell p 224]) (tmps : Array Value) {w : World} {g : Nat} {cs : Array Value} {t : TypeId} (hp : tmps.getD p undef = .pointer (some ⟨g, 0, none⟩))
  (hg : w.heap[g]? = some (.cells cs t (0, 0))) (hs : cs.size = 64) : (results fn tmps).run Tryz.prog w = .ok (.agg cs) w := by
 rw [results_cell1 h, hp]
 have hl : (loadVar 224 ⟨g, 0, none⟩).run Tryz.prog w = .ok (.agg cs) w := run_loadVar_row w g t 224 cs (0, 0) _ hg Tryz.underlying224 rfl (by rw [hs]; kernel_rfl)
 simp [asAddr, hl, Result.andThen]
set_option maxRecDepth 100000 in
set_option maxHeartbeats 16000000 in
theorem r1constants_any (w : World) : Calls Tryz.prog 149 #[] w fun e w' => e = .returned (.agg (shaK.map uv).toArray) ∧ Below w.heap.size w w' := by
 obtain ⟨B, hB⟩ : ∃ B, w.heap.size = B := ⟨_, rfl⟩
 have HBQ := Lib.hid hB
 obtain ⟨w1, hw1⟩ : ∃ u, w.alloc (.cells (pad64 []).toArray 224) = u := ⟨_, rfl⟩
 have HC1 : Hid (w1.heap[B]? = some (.cells (pad64 []).toArray 224 (0, 0))) := Lib.hid (by rw [← hw1, ← hB]; exact heap_alloc_new _ _)
 have HB1 : Hid (Below B w w1) := Lib.hid (by rw [← hw1, ← hB]; exact (Below.refl _ _).alloc (Nat.le_refl _) _)
 have HW1 := Lib.hid hw1
 clear hB hw1
 go_enter Tryz.func149, Tryz.ntmps149
 go_upto_region 1 with ((with_reducible refine wpList_at (.alloc 224) rfl ?_); go_loud (refine wpList_alloc_cells rfl _ rfl _ zeroK ?_))
 rw [HW1.out, HBQ.out]
 go_wp2_with (first
   | ((with_reducible refine wpList_at (.store 224 (.tmp 0) (.tmp 1)) rfl ?_); go_loud (refine wpList_store_agg rfl _ _ _ rfl B 0 (shaK.map uv) rfl rfl (there_of HC1.out 64 (by decide)) (by kernel_rfl) rfl ?_))
   | (refine wpList_val (v := .agg (shaK.map uv).toArray) (w' := w1) rfl (by kernel_rfl) ?_))
 refine bodyPost_ret (res_w64 rfl _ rfl (putL_heap (cs := pad64 []) HC1.out (shaK.map uv) rfl) rfl) rfl ?_
 exact ⟨rfl, by rw [HBQ.out]; exact putL_below (Nat.le_refl _) _ _ _ HB1.out⟩
end Go.Proofs.YtgfijlamhjjecaaGreatDoor
