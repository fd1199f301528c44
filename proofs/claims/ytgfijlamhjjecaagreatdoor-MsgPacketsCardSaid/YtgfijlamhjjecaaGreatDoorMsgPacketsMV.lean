/-
  MsgPacketsV: the walk of MsgPackets for every input. No condition but the laid variables.
-/
import Derived.Test.YtgfijlamhjjecaaGreatDoorMp13
import Derived.Test.YtgfijlamhjjecaaGreatDoorMp16
import Derived.Test.YtgfijlamhjjecaaGreatDoorMp11
import Derived.Test.YtgfijlamhjjecaaGreatDoorMp17
import Derived.Test.YtgfijlamhjjecaaGreatDoorMp14
import Derived.Test.YtgfijlamhjjecaaGreatDoorMp12
import Derived.IntWalk
namespace Go.Proofs.YtgfijlamhjjecaaGreatDoor
open Go.RowKit
theorem mem_sum {α : Type} (f : α → Nat) : ∀ {l : List α} {x : α}, x ∈ l → f x ≤ (l.map f).sum
  | a :: l, x, h => by
    rw [List.map_cons, List.sum_cons]
    rcases List.mem_cons.1 h with rfl | h
    · omega
    · have := mem_sum f h
      omega
theorem light_lim {x : WD} (h : LightS x.segs) : wordsLim x := fun s hs e he c hc => by
  have h1 : c.length ≤ bytesC e := mem_sum List.length hc
  have h2 : bytesC e ≤ bytesE s.elems := mem_sum bytesC he
  have h3 : bytesE s.elems ≤ bytesL x.segs := mem_sum (fun s => bytesE s.elems) hs
  have h4 := h.bytes
  omega
def BoxP (w : World) (b : Nat) (x : WD) (v : Value) : Prop := w.heap[b]? = some (.cells #[.int .u8 (x.fr : Int), .int .u8 (x.dst : Int), .int .u64 (x.rf : Int), v] 41 (0, 0))
theorem BoxP.cells {w : World} {b : Nat} {x : WD} {v : Value} (h : BoxP w b x v) : w.cell? ⟨b, 0, none⟩ = some (.int .u8 (x.fr : Int)) ∧ w.cell? ⟨b, 1, none⟩ = some (.int .u8 (x.dst : Int)) ∧ w.cell? ⟨b, 2, none⟩ = some (.int .u64 (x.rf : Int)) ∧ w.cell? ⟨b, 3, none⟩ = some v := (cells4 h).1
theorem SegsAt.anyP {S T : Nat → Prop} {w w' : World} {v : Value} {l : List Seg} {B : Nat} (h : SegsAt S w v l) (hb : Below B w w') (hS : ∀ k, S k → k < B ∧ T k) : SegsAt T w' v l :=
  h.cong (fun k hk => (hS k hk).2) (fun k hk => hb.block k (hS k hk).1)
set_option maxRecDepth 100000 in
set_option maxHeartbeats 16000000 in
theorem msgPackets_walk {W : World} (hv : VarsOk W) (x : WD) (v : Value) (hb : x.fr < 256 ∧ x.dst < 256 ∧ x.rf < 18446744073709551616) (h : SegsAt (Low W) W v x.segs) : Calls Tryz.prog 4 #[wv x v] W fun e w' => e = .returned (.bool true) ∧ Below W.heap.size W w' := by
  obtain ⟨B, hB⟩ : ∃ B, W.heap.size = B := ⟨_, rfl⟩
  have HBQ := Lib.hid hB
  have HV := Lib.hid hv
  obtain ⟨w1, hw1⟩ : ∃ w1, W.alloc (.cells #[.int .u8 (x.fr : Int), .int .u8 (x.dst : Int), .int .u64 (x.rf : Int), v] 41) = w1 := ⟨_, rfl⟩
  have hz1 : w1.heap.size = B + 1 := by rw [← hw1]; simp [hB]
  have HB1 : Hid (Below B W w1) := Lib.hid (by rw [← hw1, ← hB]; exact (Below.refl _ _).alloc (Nat.le_refl _) _)
  have HX : Hid (BoxP w1 B x v) := Lib.hid (by rw [← hw1, ← hB]; exact heap_alloc_new _ _)
  have HS1 : Hid (SegsAt (fun k => k < B) w1 v x.segs) := Lib.hid (h.anyP HB1.out (fun k hk => ⟨by rw [← hB]; exact hk, by rw [← hB]; exact hk⟩))
  have HBD := Lib.hid hb
  have HHV := Lib.hid (wheavy_any x v w1 HS1.out (fun k hk => by rw [hz1]; omega))
  have HW1 := Lib.hid hw1
  have HZ1 := Lib.hid hz1
  obtain ⟨ao, cap, rfl, hc1, hc2⟩ := h.form
  unfold maxLen at hc2
  rw [hB]
  obtain ⟨d0, d1, d2, d3⟩ := HX.out.cells
  clear h hv hB hw1 hz1 hb
  unfold wv at HHV ⊢
  go_enter Tryz.func4, Tryz.ntmps4
  go_upto_region 1 with fail
  rw [HW1.out, HBQ.out]
  obtain ⟨n, hn⟩ : ∃ n, x.segs.length = n := ⟨_, rfl⟩
  have HN := Lib.hid hn
  rw [hn] at HHV HX HS1 d3 hc1 ⊢
  clear hn
  go_wp2_with fail
  refine HHV.out.mono ?_
  rintro e w2 ⟨⟨bv, rfl, hlt⟩, hb2⟩
  rw [HZ1.out] at hb2
  have HB2 := Lib.hid hb2
  clear hb2 d0 d1 d2 d3 HHV
  cases bv with
  | true =>
    clear hlt
    go_wp2_with fail
    go_ret
    exact ⟨rfl, HB1.out.trans (HB2.out.mono (by omega))⟩
  | false =>
    have HP := Lib.hid (hlt rfl).print
    have HLM : Hid (wordsLim x) := Lib.hid (light_lim (hlt rfl))
    have HL80 := Lib.hid (hlt rfl).n
    clear hlt
    have hz2 := HB2.out.size
    rw [HZ1.out] at hz2
    have HX2 : Hid (BoxP w2 B x (.slice ao n cap)) := Lib.hid ((HB2.out.block B (by omega)).trans HX.out)
    obtain ⟨d0, d1, d2, d3⟩ := HX2.out.cells
    have HOWN := Lib.hid (wown_any (S := fun k => k < B) x (.slice ao n cap) w2 (HS1.out.anyP HB2.out (fun k hk => ⟨by omega, hk⟩)) (fun k hk => by omega) HP.out)
    unfold WOwnQ wv at HOWN
    go_upto_region 4 with ((with_reducible refine HOWN.out.mono ?_); rintro e w3 ⟨v3, xs, rfl, ho, hb3⟩; obtain ⟨oa, oc, rfl⟩ := own_slice ho.row; rw [HN.out] at ho ⊢; have HO := Lib.hid ho; have HB3 := Lib.hid hb3; clear ho hb3)
    clear HOWN d0 d1 d2 d3
    obtain ⟨D, hD⟩ : ∃ D, w3.heap.size = D := ⟨_, rfl⟩
    obtain ⟨w4, hw4⟩ : ∃ w4, w3.alloc (.cells #[.int .u8 (x.fr : Int), .int .u8 (x.dst : Int), .int .u64 (x.rf : Int), .slice oa n oc] 41) = w4 := ⟨_, rfl⟩
    have hz4 : w4.heap.size = D + 1 := by rw [← hw4, ← hD]; simp
    have HI : Hid (BoxP w4 D x (.slice oa n oc)) := Lib.hid (by rw [← hw4, ← hD]; exact heap_alloc_new _ _)
    have HB4 : Hid (Below D w3 w4) := Lib.hid (by rw [← hw4, ← hD]; exact (Below.refl _ _).alloc (Nat.le_refl _) _)
    have hz3 := HB3.out.size
    rw [hD] at hz3
    have HSI : Hid (SegsAt (fun b => b < D) w4 (.slice oa n oc) x.segs) := Lib.hid ((HO.out.ogt.rest (S := fun b => b < D) (fun k hk _ => by rw [← hD]; exact hk.2) (fun k hk => by rw [← hD]; exact (own_lt HO.out.row hk).2)).anyP HB4.out (fun k hk => ⟨hk, hk⟩))
    rw [hw4, hD]
    have HBC : Hid (Below (B + 1) w1 w4) := Lib.hid (HB2.out.trans ((HB3.out.trans (HB4.out.mono (by omega))).mono (by omega)))
    have HBW4 : Hid (Below B W w4) := Lib.hid (HB1.out.trans (HBC.out.mono (by omega)))
    have HDB : Hid (B + 1 ≤ D) := Lib.hid (by omega)
    have HZ4 := Lib.hid hz4
    clear hw4 hD hz4 hz3 hz2 HO HB3 HB4
    obtain ⟨R, hR⟩ : ∃ R, packetM x = R := ⟨_, rfl⟩
    obtain ⟨q, k⟩ := R
    have HPK := Lib.hid (mPacket_is (HV.out.on HBW4.out (by rw [HBQ.out]; exact Nat.le_refl _)) HSI.out (fun b hb => by rw [HZ4.out]; omega) HLM.out hR)
    have HR := Lib.hid hR
    have hself := fun w => eql_pkt q q w
    rw [show eqP q q = true from eqP_iff.2 rfl] at hself
    unfold MPQ wv at HPK
    unfold pktA msgA at HPK hself
    simp only [List.cons_append, List.nil_append] at HPK hself
    have HSF := Lib.hid hself
    clear hR hself
    obtain ⟨q0, q1, q2, q3⟩ := HI.out.cells
    go_upto_region 5 with (go_at_call 19; refine HPK.out.mono ?_; rintro e w5 ⟨rfl, hb⟩; rw [HZ4.out] at hb; have HB5 := Lib.hid hb; clear hb)
    obtain ⟨G, hG⟩ : ∃ G, w5.heap.size = G := ⟨_, rfl⟩
    generalize hw6 : World.alloc w5 _ = w6
    have HA6 : Hid (w6.heap[G]? = some (.cells (pktA q).toArray 38 (0, 0))) := Lib.hid (by rw [← hw6, ← hG]; exact heap_alloc_new _ _)
    have hz5 := HB5.out.size
    rw [HZ4.out, hG] at hz5
    have HB6 : Hid (Below (D + 1) w4 w6) := Lib.hid (by rw [← hw6]; exact HB5.out.alloc (by rw [hG]; exact hz5) _)
    have HZ6 : Hid (w6.heap.size = G + 1) := Lib.hid (by rw [← hw6, ← hG]; simp)
    have HGD : Hid (D + 1 ≤ G) := Lib.hid hz5
    rw [hG]
    clear hw6 hG hz5 q0 q1 q2 q3 HB5 HPK
    have HBC6 : Hid (Below (B + 1) w1 w6) := Lib.hid (HBC.out.trans (HB6.out.mono (by have := HDB.out; omega)))
    have HX6 : Hid (BoxP w6 B x (.slice ao n cap)) := Lib.hid ((HBC6.out.block B (by omega)).trans HX.out)
    have hrp := rPacket_any x (.slice ao n cap) w6 (HS1.out.anyP HBC6.out (fun k hk => ⟨by omega, hk⟩)) (fun k hk => by rw [HZ6.out]; have := HDB.out; have := HGD.out; omega)
    unfold PacketQ wv at hrp
    rw [HR.out] at hrp
    unfold pktA msgA at hrp
    simp only [List.cons_append, List.nil_append] at hrp
    have HRP := Lib.hid hrp
    clear hrp
    obtain ⟨p0, p1, p2, p3⟩ := HX6.out.cells
    go_upto_region 6 with (go_at_call 20; refine HRP.out.mono ?_; rintro e w7 ⟨rfl, hb⟩; rw [HZ6.out] at hb; have HB7 := Lib.hid hb; clear hb)
    obtain ⟨H, hH⟩ : ∃ H, w7.heap.size = H := ⟨_, rfl⟩
    generalize hw8 : World.alloc w7 _ = w8
    have HA8 : Hid (w8.heap[H]? = some (.cells (pktA q).toArray 38 (0, 0))) := Lib.hid (by rw [← hw8, ← hH]; exact heap_alloc_new _ _)
    have hz7 := HB7.out.size
    rw [HZ6.out, hH] at hz7
    have HB8 : Hid (Below (G + 1) w6 w8) := Lib.hid (by rw [← hw8]; exact HB7.out.alloc (by rw [hH]; exact hz7) _)
    have HZ8 : Hid (w8.heap.size = H + 1) := Lib.hid (by rw [← hw8, ← hH]; simp)
    have HHG : Hid (G + 1 ≤ H) := Lib.hid hz7
    rw [hH]
    clear hw8 hH hz7 p0 p1 p2 p3 HB7 HRP
    have HG8 : Hid (w8.heap[G]? = some (.cells (pktA q).toArray 38 (0, 0))) := Lib.hid ((HB8.out.block G (by omega)).trans HA6.out)
    have HB48 : Hid (Below (D + 1) w4 w8) := Lib.hid (HB6.out.trans (HB8.out.mono (by have := HGD.out; omega)))
    have HI8 : Hid (BoxP w8 D x (.slice oa n oc)) := Lib.hid ((HB48.out.block D (by omega)).trans HI.out)
    have HBC8 : Hid (Below (B + 1) w1 w8) := Lib.hid (HBC6.out.trans (HB8.out.mono (by have := HGD.out; have := HDB.out; omega)))
    have HX8 : Hid (BoxP w8 B x (.slice ao n cap)) := Lib.hid ((HBC8.out.block B (by omega)).trans HX.out)
    have HBW8 : Hid (Below B W w8) := Lib.hid (HB1.out.trans (HBC8.out.mono (by omega)))
    have hsm := wsame_any x x (.slice oa n oc) (.slice ao n cap) w8 (HSI.out.anyP HB48.out (T := fun b => b < D) (fun k hk => ⟨by omega, hk⟩)) (HS1.out.anyP HBC8.out (T := fun b => b < B) (fun k hk => ⟨by omega, hk⟩)) (fun k hk => by rw [HZ8.out]; have := HGD.out; have := HHG.out; omega) (fun k hk => by rw [HZ8.out]; have := HDB.out; have := HGD.out; have := HHG.out; omega)
    rw [wsameB_self] at hsm
    unfold WSameQ wv at hsm
    have HSM := Lib.hid hsm
    have hg8 := HG8.out
    have ha8 := HA8.out
    unfold pktA msgA at hg8 ha8
    simp only [List.cons_append, List.nil_append] at hg8 ha8
    obtain ⟨d0, d1, d2, d3, d4, d5, d6, d7, d8, d9, d10, d11, d12, d13, d14, d15⟩ := (cells16 hg8).1
    obtain ⟨g0, g1, g2, g3, g4, g5, g6, g7, g8, g9, g10, g11, g12, g13, g14, g15⟩ := (cells16 ha8).1
    obtain ⟨q0, q1, q2, q3⟩ := HI8.out.cells
    obtain ⟨p0, p1, p2, p3⟩ := HX8.out.cells
    have hself := HSF.out
    have kk := int_same k
    clear hsm hg8 ha8
    go_wp2_with (first
      | (go_at_call 15; refine HSM.out.mono ?_; rintro e w9 ⟨rfl, hb⟩; have HB9 : Hid (Below B W w9) := Lib.hid (HBW8.out.trans (hb.mono (by have := HBW8.out.size; rw [HBQ.out] at this; exact this))); clear hb)
      | (go_at_call 16; refine (tells_any _ (HV.out.on HB9.out (by rw [HBQ.out]; exact Nat.le_refl _))).mono ?_; rintro e w10 ⟨rfl, hb⟩; have HB10 : Hid (Below B W w10) := Lib.hid (HB9.out.trans (hb.mono (by have := HB9.out.size; rw [HBQ.out] at this; exact this))); clear hb))
    go_ret
    exact ⟨rfl, HB10.out⟩
end Go.Proofs.YtgfijlamhjjecaaGreatDoor
