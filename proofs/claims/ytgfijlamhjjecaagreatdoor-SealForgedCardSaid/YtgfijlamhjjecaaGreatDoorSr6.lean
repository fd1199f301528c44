/-
  Texts ShaD, EdiW, WrapP, WrapL, WrapQ, WrapV, WrapD, NumP, MsgP, MsgM, one behind the other. No condition beyond those stated in each.
-/
import Derived.Test.YtgfijlamhjjecaaGreatDoorSr5
import Derived.Test.YtgfijlamhjjecaaGreatDoorSr4
import Derived.Lib.ItoaNum
import Derived.Lib.ParseIntBCases
import Derived.Test.YtgfijlamhjjecaaGreatDoorEdiShelf
import Derived.Lib.AppendIntMem
import Derived.Lib.LaidTab
import Derived.Lib.AtoiErrMem
import Derived.BigQuiet
/-
  ShaD: a hash in memory; contracts of sha's New and Write. No condition beyond those stated.
-/
namespace Go.Proofs.YtgfijlamhjjecaaGreatDoor
open Go.RowKit
/-- a hash to which these bytes were written; its bytes left lie in block L -/
structure HashAt (w : World) (hb : Nat) (L : Option Nat) (msg : Str) : Prop where
  ex : ∃ lv, w.heap[hb]? = some (.cells (W8c (shaW msg) ++ [lv, .int .u64 (msg.length : Int)]).toArray 229 (0, 0)) ∧ OwnS w 0 lv (shaL msg) ∧ lv.ownBlock = L
  ne : L ≠ some hb
theorem HashAt.lt {w : World} {hb : Nat} {L : Option Nat} {msg : Str} (h : HashAt w hb L msg) : hb < w.heap.size := by
  obtain ⟨lv, h1, _⟩ := h.ex
  exact (Array.getElem?_eq_some_iff.1 h1).1
theorem HashAt.fr {w w' : World} {hb : Nat} {L : Option Nat} {msg : Str} {F : List Nat} (h : HashAt w hb L msg) (hf : Fr F w w') (h1 : hb ∉ F) (h2 : ∀ k, L = some k → k ∉ F) : HashAt w' hb L msg := by
  obtain ⟨lv, a, b, c⟩ := h.ex
  refine ⟨⟨lv, (hf.block hb h.lt h1).trans a, own_cong b (fun k hk => ?_), c⟩, h.ne⟩
  exact hf.block k (own_lt b hk).2 (h2 k (by rw [← c]; exact hk))
/-- bytes behind -/
theorem wp_app_bytes {ops : Array Oper} {rest : List Oper} {o : Oper} {a : Act} {Q : Exit → Act → World → Prop} (hgd : o.guard = none) (s x : Operand)
    (ho : o.op = .call { callee := .builtin .append, args := #[s, x], argTypes := #[72, 72] })
    {w : World} {B : Nat} {v src : Value} {l e : Str} {T : Nat → Prop} (hs : a.eval s = v) (hx : a.eval x = src) (hown : OwnS w B v l) (hco : RowAt T w src (e.map bv)) (hl : l.length + e.length ≤ 140737488355328) (hB : B ≤ w.heap.size)
    (h : ∀ v' w', OwnS w' B v' (l ++ e) → w.grownBy w' v.ownBlock → (v'.ownBlock = v.ownBlock ∨ v'.ownBlock = some w.heap.size) → wpList Tryz.prog ops Q rest (a.put o.dst v') w') :
    wpList Tryz.prog ops Q (o :: rest) a w := by
  obtain ⟨i0, hi, hz0, hz1, hz2⟩ := info_parts einfo_u8
  obtain ⟨ao, cap, rfl, h1, h2, h3, h4⟩ := hco
  rw [List.length_map] at h1 hx
  have hj : ∀ (v' : Value) (w' : World), w'.ownsRow B 5 1 v' (l.length + e.length) (l.map bv ++ e.map bv) → OwnS w' B v' (l ++ e) := fun v' w' h0 => by
    unfold OwnS
    rw [List.length_append, List.map_append]; exact h0
  cases ao with
  | none =>
    have hc := h3 rfl
    have hz : e.length = 0 := by omega
    have he := List.length_eq_zero_iff.1 hz
    subst he
    subst hc
    exact wpList_append_own_none hgd s x 72 ho B 5 i0 1 Tryz.underlying72 hi v l.length (l.map bv) hs hown hx (h v w (hj v w (by have h0 := hown; unfold OwnS at h0; simpa using h0)) ⟨rfl, rfl, rfl, Nat.le_refl _, fun _ _ _ => rfl⟩ (.inl rfl))
  | some ad =>
    refine wpList_append_own_at _ hgd s x 72 ho B 5 i0 (.int .u8 0) 1 1 Tryz.underlying72 hi hz0 hz1 hz2 rfl (by decide) v l.length (l.map bv) hs hown ad e.length cap (e.map bv) hx (by simp) (fun j u hu => ?_) (by simp [Value.oneCell', bv]) (by unfold maxLen; omega) (by omega) hB ?_
    · obtain ⟨b, off, rb, _, hc⟩ := h4 (by intro e0; rw [e0] at hu; simp at hu)
      cases rb
      rw [Addr.add_mid]; exact hc j u hu
    · intro v' w' g1 g2 _ g4
      exact h v' w' (hj v' w' g1) g2 g4
set_option maxHeartbeats 2000000 in
theorem hnew_any (w : World) : Calls Tryz.prog 112 #[] w fun e w' => e = .returned (.pointer (some ⟨w.heap.size, 0, none⟩)) ∧ HashAt w' w.heap.size none [] ∧ Below w.heap.size w w' := by
  go_enter Tryz.func112, Tryz.ntmps112
  go_wp2_with fail
  go_ret
  refine ⟨rfl, ⟨⟨.slice none 0 0, heap_alloc_new _ _, OwnS.nil _ _, rfl⟩, by simp⟩, (Below.refl _ _).alloc (Nat.le_refl _) _⟩
theorem OwnS.base {w : World} {B : Nat} {v : Value} {l : Str} (h : OwnS w B v l) : OwnS w 0 v l := by
  obtain ⟨a, b | ⟨g, cap, cur, r, _, hh⟩⟩ := h
  · exact ⟨a, .inl b⟩
  · exact ⟨a, .inr ⟨g, cap, cur, r, Nat.zero_le _, hh⟩⟩
theorem own_block {w : World} {B k : Nat} {v : Value} {l : Str} (h : OwnS w B v l) (hk : v.ownBlock = some k) : B ≤ k := (own_lt h hk).1
/-- an owned row read as bytes -/
theorem OwnS.row {w : World} {B : Nat} {v : Value} {l : Str} (h : OwnS w B v l) : RowAt (fun k => v.ownBlock = some k) w v (l.map bv) := by
  have h0 := h
  obtain ⟨hlen, ⟨rfl, h2⟩ | ⟨g, cap, cur, rfl, hg, hh, hc1, hc2, hs, ht⟩⟩ := h
  · have : l = [] := List.length_eq_zero_iff.1 h2
    subst this
    exact ⟨none, 0, rfl, Nat.zero_le _, by unfold maxLen; omega, fun _ => rfl, fun h => absurd rfl h⟩
  · refine ⟨some ⟨g, 0, none⟩, cap, by rw [List.length_map], by rw [List.length_map]; exact hc1, hc2, (fun e => by cases e), fun _ => ⟨g, 0, rfl, rfl, fun i x hi => ?_⟩⟩
    have := World.ownsRow.cells h0 (g := g) rfl i x hi
    rw [Addr.add_mid] at this
    exact this
theorem hash_row {w : World} {hb : Nat} {v : V8} {lv nv : Value} (h : w.heap[hb]? = some (.cells (W8c v ++ [lv, nv]).toArray 229 (0, 0))) : w.cell? ⟨hb, 8, none⟩ = some lv ∧ w.cell? ⟨hb, 9, none⟩ = some nv ∧ w.frozen? ⟨hb, 8, none⟩ = false ∧ w.frozen? ⟨hb, 9, none⟩ = false :=
  ⟨cell_of_row w hb 8 _ _ _ h, cell_of_row w hb 9 _ _ _ h, frozen_of_row w hb 8 _ _ h, frozen_of_row w hb 9 _ _ h⟩
theorem hash_set8 {w : World} {hb : Nat} {v : V8} {lv nv : Value} (h : w.heap[hb]? = some (.cells (W8c v ++ [lv, nv]).toArray 229 (0, 0))) (x : Value) : (w.setCell ⟨hb, 8, none⟩ x).heap[hb]? = some (.cells (W8c v ++ [x, nv]).toArray 229 (0, 0)) := heap_setCell_same w hb 8 _ _ _ h
theorem hash_set9 {w : World} {hb : Nat} {v : V8} {lv nv : Value} (h : w.heap[hb]? = some (.cells (W8c v ++ [lv, nv]).toArray 229 (0, 0))) (x : Value) : (w.setCell ⟨hb, 9, none⟩ x).heap[hb]? = some (.cells (W8c v ++ [lv, x]).toArray 229 (0, 0)) := heap_setCell_same w hb 9 _ _ _ h
def HWriteQ (hb : Nat) (L : Option Nat) (msg : Str) (w : World) (e : Ending) (w' : World) : Prop :=
  e = .returned (.tuple #[]) ∧ ∃ L', HashAt w' hb L' msg ∧ (∀ k, L' = some k → w.heap.size ≤ k) ∧ Fr (hb :: L.toList) w w'
set_option maxRecDepth 100000 in
set_option maxHeartbeats 8000000 in
theorem hwrite_any {T : Nat → Prop} (hb : Nat) (L : Option Nat) (msg bs : Str) (src : Value) (w : World) (h : HashAt w hb L msg) (hs : RowAt T w src (bs.map bv)) (hT : ∀ k, T k → k ≠ hb) (hK : VarsK w) (hg : 0 ∉ hb :: L.toList) (hl : msg.length + bs.length ≤ 70368744177664) :
    Calls Tryz.prog 113 #[.pointer (some ⟨hb, 0, none⟩), src] w fun e w' => HWriteQ hb L (msg ++ bs) w e w' := by
  obtain ⟨⟨lv, hH, hO, hLb⟩, hne⟩ := h
  obtain ⟨so, sc, rfl, sc1, sc2, sc3, sc4⟩ := id hs
  rw [List.length_map] at sc1 hs ⊢
  obtain ⟨ml, hml⟩ : ∃ m, msg.length = m := ⟨_, rfl⟩
  obtain ⟨bl, hbl⟩ : ∃ m, bs.length = m := ⟨_, rfl⟩
  obtain ⟨r, hr⟩ : ∃ r, shaL msg ++ bs = r := ⟨_, rfl⟩
  have hrl : r.length ≤ bl + 63 := by rw [← hr, List.length_append, shaL_len]; omega
  obtain ⟨rl, hrle⟩ : ∃ n, r.length = n := ⟨_, rfl⟩
  rw [hrle] at hrl
  have HRL := Lib.hid hrle
  clear hrle
  rw [hml] at hH hl
  rw [hbl] at hl hs sc1 ⊢
  unfold maxLen at sc2
  have g1 : IntKind.u64.wrap (bl : Int) = (bl : Int) := IntWalk.u64_in _ (by omega)
  have g2 : IntKind.u64.wrap ((ml : Int) + (bl : Int)) = ((ml + bl : Nat) : Int) := by rw [IntWalk.u64_in _ (by omega)]; rfl
  obtain ⟨tl, htl⟩ : ∃ t, ml + bl = t := ⟨_, rfl⟩
  rw [htl] at g2
  obtain ⟨s, hs8⟩ : ∃ s, shaW msg = s := ⟨_, rfl⟩
  rw [hs8] at hH
  obtain ⟨c8, c9, f8, f9⟩ := hash_row hH
  have HH := Lib.hid hH
  have HO := Lib.hid hO
  have HS := Lib.hid hs
  have HK := Lib.hid hK
  have HLB := Lib.hid hLb
  have HNE := Lib.hid hne
  have HG := Lib.hid hg
  have HT := Lib.hid hT
  have HSOK : Hid s.ok := Lib.hid (by rw [← hs8]; exact mixB_ok V8i_ok _ _)
  have HML := Lib.hid hml
  have HBL := Lib.hid hbl
  have HR := Lib.hid hr
  have HTL := Lib.hid htl
  have HS8 := Lib.hid hs8
  clear hH hO hs hK hLb hne hg hT hml hbl hr htl hs8 sc3 sc4
  go_enter Tryz.func113, Tryz.ntmps113
  go_upto_region 2 with fail
  obtain ⟨w1, hw1⟩ : ∃ u, w.setCell ⟨hb, 9, none⟩ (.int .u64 (tl : Int)) = u := ⟨_, rfl⟩
  rw [hw1]
  have HH1 : Hid (w1.heap[hb]? = some (.cells (W8c s ++ [lv, .int .u64 (tl : Int)]).toArray 229 (0, 0))) := Lib.hid (by rw [← hw1]; exact hash_set9 HH.out _)
  have HF1 : Hid (Fr [hb] w w1) := Lib.hid (by rw [← hw1]; exact Fr.setCell _ (by simp) _)
  have HZ1 : Hid (w1.heap.size = w.heap.size) := Lib.hid (by rw [← hw1]; simp)
  clear hw1 c8 c9 f8 f9 g1 g2
  obtain ⟨c8, c9, f8, f9⟩ := hash_row HH1.out
  have HO1 : Hid (OwnS w1 0 lv (shaL msg)) := Lib.hid (own_cong HO.out (fun k hk => HF1.out.block k (own_lt HO.out hk).2 (by rw [List.mem_singleton]; rintro rfl; exact HNE.out (HLB.out.symm.trans hk))))
  have HS1 : Hid (RowAt T w1 (.slice so bl sc) (bs.map bv)) := Lib.hid (HS.out.cong (fun _ h => h) (fun k hk => by
    by_cases hkz : k < w.heap.size
    · exact HF1.out.block k hkz (by rw [List.mem_singleton]; exact HT.out k hk)
    · rw [Array.getElem?_eq_none (by rw [HZ1.out]; omega), Array.getElem?_eq_none (by omega)]))
  go_upto_region 3 with (at_builtin; go_loud (refine wp_app_bytes (T := T) (v := lv) (src := .slice so bl sc) rfl _ _ rfl (B := 0) rfl rfl HO1.out HS1.out ?c1 (Nat.zero_le _) ?_; (case c1 => rw [shaL_len, HBL.out]; omega); intro v2 w2 hO2 hgr hnew; rw [HR.out] at hO2; obtain ⟨va, vc, rfl⟩ := OwnS.form hO2; rw [HRL.out] at hO2; rw [HRL.out]; rw [HRL.out] at hnew; have HO2 := Lib.hid hO2; have HGR := Lib.hid hgr; have HNW := Lib.hid hnew; clear hO2 hgr hnew; have HF2 : Hid (Fr L.toList w1 w2) := Lib.hid (grownBy.fr HGR.out _ (fun k hk => .inl (by rw [← HLB.out, hk]; simp))); have HH2 : Hid (w2.heap[hb]? = some (.cells (W8c s ++ [lv, .int .u64 (tl : Int)]).toArray 229 (0, 0))) := Lib.hid ((HF2.out.block hb (by rw [HZ1.out]; exact (Array.getElem?_eq_some_iff.1 HH.out).1) (by have := HNE.out; simpa using this)).trans HH1.out); clear c8 c9 f8 f9; obtain ⟨c8, c9, f8, f9⟩ := hash_row HH2.out))
  obtain ⟨w3, hw3⟩ : ∃ u, w2.setCell ⟨hb, 8, none⟩ (.slice va rl vc) = u := ⟨_, rfl⟩
  rw [hw3]
  have HH3 : Hid (w3.heap[hb]? = some (.cells (W8c s ++ [Value.slice va rl vc, Value.int .u64 (tl : Int)]).toArray 229 (0, 0))) := Lib.hid (by rw [← hw3]; exact hash_set8 HH2.out _)
  have HF3 : Hid (Fr (hb :: L.toList) w w3) := Lib.hid (by
    rw [← hw3]
    exact ((HF1.out.mono (fun k hk => .inl (by simp at hk; simp [hk]))).trans (HF2.out.mono (fun k hk => .inl (by simp at hk; simp [hk])))).trans (Fr.setCell _ (by simp) _))
  have HR3 : Hid (RowAt (fun k => k ≠ hb) w3 (.slice va rl vc) (r.map bv)) := Lib.hid (HO2.out.row.cong (fun k hk => by
      rcases HNW.out with h | h
      · rw [h, HLB.out] at hk; rintro rfl; exact HNE.out hk
      · rw [h] at hk; have := Option.some.inj hk; have h2 := (Array.getElem?_eq_some_iff.1 HH1.out).1; omega) (fun k hk => by
      rw [← hw3]
      refine heap_setCell_other _ _ _ _ (show k ≠ hb from ?_)
      rcases HNW.out with h | h
      · rw [h, HLB.out] at hk; rintro rfl; exact HNE.out hk
      · rw [h] at hk; have := Option.some.inj hk; have h2 := (Array.getElem?_eq_some_iff.1 HH1.out).1; omega))
  have HHL : Hid (hb < w3.heap.size ∧ w.heap.size ≤ w3.heap.size) := Lib.hid ⟨(Array.getElem?_eq_some_iff.1 HH3.out).1, HF3.out.size⟩
  have HK3 : Hid (VarsK w3) := Lib.hid (HK.out.fr HF3.out HG.out)
  clear hw3 c8 c9 f8 f9 HH1 HF1 HZ1 HO1 HS1 HO2 HGR HNW HF2 HH2
  go_wp2_with fail
  go_loopg [] (rl / 64) (fun g wr => ∃ (k : Nat) (ao : Option Addr) (ck : Nat), 64 * k ≤ rl ∧ g = rl / 64 - k ∧ Hid (wr.heap[hb]? = some (.cells (W8c (mixB s r k) ++ [Value.slice ao (rl - 64 * k) ck, Value.int .u64 (tl : Int)]).toArray 229 (0, 0))) ∧ Hid (RowAt (fun k => k ≠ hb) wr (.slice ao (rl - 64 * k) ck) ((r.drop (64 * k)).map bv)) ∧ Hid (Fr [hb] w3 wr))
  case atStart => exact ⟨0, va, vc, Nat.zero_le _, rfl, HH3, HR3, Lib.hid (Fr.refl _ _)⟩
  case round =>
    obtain ⟨k, ao, ck, hk, hg, HHR, HRR, HFR⟩ := hrel
    obtain ⟨m, hm⟩ : ∃ m, rl - 64 * k = m := ⟨_, rfl⟩
    rw [hm] at HHR HRR
    obtain ⟨c8, c9, f8, f9⟩ := hash_row HHR.out
    obtain ⟨q, hq⟩ : ∃ q, mixB s r k = q := ⟨_, rfl⟩
    obtain ⟨d, hd⟩ : ∃ d, r.drop (64 * k) = d := ⟨_, rfl⟩
    have hdl : d.length = m := by rw [← hd, List.length_drop, HRL.out, hm]
    rw [hq] at HHR
    rw [hd] at HRR
    have HQOK : Hid q.ok := Lib.hid (by rw [← hq]; exact mixB_ok HSOK.out _ _)
    by_cases hge : 64 ≤ m
    · have b1 : (64 : Int) ≤ (m : Int) := by omega
      obtain ⟨ao', ck', e1, e2, e3, e4, e5⟩ := id HRR.out
      injection e1 with h1 h2 h3
      subst h1 h3
      clear h2
      rw [List.length_map, hdl] at e2
      unfold maxLen at e3
      obtain ⟨gb, off, rfl, hgb, hcell⟩ := e5 (by intro e; rw [List.map_eq_nil_iff] at e; rw [e] at hdl; simp at hdl; omega)
      have HCELL := Lib.hid hcell
      have HMX := Lib.hid (mix_any q HQOK.out (d.take 64) (by rw [List.length_take, hdl]; omega) hb gb off ck (Value.slice (some ⟨gb, off, none⟩) m ck) (Value.int .u64 (tl : Int)) wr HHR.out (fun i c hi => by
        refine hcell i _ ?_
        rw [List.getElem?_map]
        have h1 := (List.getElem?_eq_some_iff.1 hi).1
        rw [List.length_take] at h1
        rw [List.getElem?_take_of_lt (by omega)] at hi
        rw [hi]; rfl) (HK3.out.fr HFR.out (by have := HG.out; rw [List.mem_singleton]; intro e; exact this (by rw [e]; simp))))
      have HNX : Hid (mixN q (d.take 64) = mixB s r (k + 1)) := Lib.hid (by rw [← hq, ← hd]; rfl)
      have HD := Lib.hid hd
      have HDL := Lib.hid hdl
      have HM := Lib.hid hm
      have b2 : (64 : Int) ≤ (ck : Int) := by omega
      have b3 : 64 ≤ ck := by omega
      clear hq hd hdl hm hcell e4 e5
      go_upto_region 5 with (go_at_call 150; refine HMX.out.mono ?_; rintro e w5 ⟨rfl, hh, hf⟩; rw [HNX.out] at hh; have HH5 := Lib.hid hh; have HF5 : Hid (Fr [hb] w3 w5) := Lib.hid (HFR.out.trans hf); have HRR5 : Hid (∀ i x, (d.map bv)[i]? = some x → w5.cell? ⟨gb, off + i, none⟩ = some x) := Lib.hid (fun i x hx => (World.cell?_of_block (a := ⟨gb, off + i, none⟩) (hf.block gb (cell_lt' (HCELL.out i x hx)) (by rw [List.mem_singleton]; exact hgb))).trans (HCELL.out i x hx)); clear hh hf c8 c9 f8 f9; obtain ⟨c8, c9, f8, f9⟩ := hash_row HH5.out)
      have HRW : Hid (∀ (a2 : Option Addr) (c2 : Nat), (64 < m → a2 = some ⟨gb, off + 64, none⟩ ∧ c2 = ck - 64) → a2 ≠ none → m - 64 ≤ c2 → c2 ≤ ck → RowAt (fun k => k ≠ hb) (w5.setCell ⟨hb, 8, none⟩ (.slice a2 (m - 64) c2)) (.slice a2 (rl - 64 * (k + 1)) c2) ((r.drop (64 * (k + 1))).map bv)) := Lib.hid (by
        intro a2 c2 h1 h0 h2 h3
        have hm' : rl - 64 * (k + 1) = m - 64 := by have := HM.out; omega
        have hd' : r.drop (64 * (k + 1)) = d.drop 64 := by rw [← HD.out, List.drop_drop]; congr 1
        have hl' : (d.drop 64).length = m - 64 := by rw [List.length_drop, HDL.out]
        rw [hm', hd']
        refine ⟨a2, c2, by rw [List.length_map, hl'], by rw [List.length_map, hl']; exact h2, by unfold maxLen; omega, fun e => absurd e h0, fun hne => ?_⟩
        have hlt : 64 < m := by
          rcases Nat.lt_or_ge 64 m with h | h
          · exact h
          · exfalso; apply hne; rw [List.map_eq_nil_iff]; exact List.length_eq_zero_iff.1 (by rw [hl']; omega)
        refine ⟨gb, off + 64, (h1 hlt).1, hgb, fun i x hx => ?_⟩
        rw [List.map_drop, List.getElem?_drop] at hx
        have := HRR5.out _ _ hx
        rw [show off + 64 + i = off + (64 + i) by omega]
        exact (World.cell?_of_block (a := ⟨gb, off + (64 + i), none⟩) (heap_setCell_other _ _ _ _ (show gb ≠ hb from hgb))).trans this)
      have HML2 : Hid (rl - 64 * (k + 1) = m - 64) := Lib.hid (by have := HM.out; omega)
      have HKK : Hid (64 * (k + 1) ≤ rl) := Lib.hid (by have := HM.out; omega)
      by_cases hck : ck = 64
      · obtain rfl : m = 64 := by omega
        subst hck
        go_wp2_with fail
        go_roundg (rl / 64 - (k + 1))
        case rel => exact ⟨k + 1, _, 0, HKK.out, rfl, Lib.hid (by rw [HML2.out]; exact hash_set8 HH5.out _), Lib.hid (HRW.out _ 0 (fun h => absurd h (by omega)) (by simp) (by omega) (by omega)), Lib.hid (HF5.out.trans (Fr.setCell _ (by simp) _))⟩
        case measure => rw [hg]; have := HKK.out; omega
      · have b4 : (ck : Int) ≠ 64 := by omega
        go_wp2_with fail
        go_roundg (rl / 64 - (k + 1))
        case rel => exact ⟨k + 1, _, ck - 64, HKK.out, rfl, Lib.hid (by rw [HML2.out]; exact hash_set8 HH5.out _), Lib.hid (HRW.out _ (ck - 64) (fun _ => ⟨rfl, rfl⟩) (by simp) (by omega) (by omega)), Lib.hid (HF5.out.trans (Fr.setCell _ (by simp) _))⟩
        case measure => rw [hg]; have := HKK.out; omega
    · have b1 : decide ((64 : Int) ≤ (m : Int)) = false := by rw [decide_eq_false_iff_not]; omega
      have HD := Lib.hid hd
      have HDL := Lib.hid hdl
      have HQ := Lib.hid hq
      have HKE : Hid (rl / 64 = k) := Lib.hid (by omega)
      clear hd hdl hq hm
      go_wp2_with (at_builtin; go_loud (refine wp_app_bytes (T := fun k => k ≠ hb) (v := .slice none 0 0) (src := .slice ao m ck) (l := []) (e := d) rfl _ _ rfl (B := wr.heap.size) rfl rfl (OwnS.nil _ _) HRR.out ?d1 (Nat.le_refl _) ?_; (case d1 => rw [HDL.out, List.length_nil]; omega); intro v6 w6 hO6 hgr _; rw [List.nil_append] at hO6; obtain ⟨xa, xc, rfl⟩ := OwnS.form hO6; have HO6 := Lib.hid hO6; have HF6 : Hid (Fr [] wr w6) := Lib.hid (grownBy.fr hgr _ (fun k hk => by cases hk)); have HH6 : Hid (w6.heap[hb]? = some (.cells (W8c q ++ [Value.slice ao m ck, Value.int .u64 (tl : Int)]).toArray 229 (0, 0))) := Lib.hid ((HF6.out.block hb (Array.getElem?_eq_some_iff.1 HHR.out).1 (by simp)).trans HHR.out); clear hO6 hgr c8 c9 f8 f9; obtain ⟨c8, c9, f8, f9⟩ := hash_row HH6.out))
      go_end0
      have HQ2 : shaW (msg ++ bs) = q := by rw [shaW_app, HS8.out, HR.out, HRL.out, HKE.out, HQ.out]
      have HD2 : shaL (msg ++ bs) = d := by rw [shaL_app, HR.out, HRL.out, HKE.out, HD.out]
      have HL2 : ((msg ++ bs).length : Int) = (tl : Int) := by rw [List.length_append, HML.out, HBL.out, HTL.out]
      have hzz : wr.heap.size ≥ w.heap.size := Nat.le_trans HF3.out.size HFR.out.size
      have hnb : ∀ k, (Value.slice xa d.length xc).ownBlock = some k → w.heap.size ≤ k := fun k hk => Nat.le_trans hzz (own_block HO6.out hk)
      refine ⟨rfl, (Value.slice xa d.length xc).ownBlock, ⟨⟨_, by rw [HQ2, HL2]; exact hash_set8 HH6.out _, ?_, rfl⟩, fun e => ?_⟩, hnb, ?_⟩
      · rw [HD2]
        exact own_cong HO6.out.base (fun k hk => heap_setCell_other _ _ _ _ (show k ≠ hb from fun e => by
          have h1 := own_block HO6.out hk
          have h2 := (Array.getElem?_eq_some_iff.1 HHR.out).1
          omega))
      · have h1 := hnb hb e
        have h2 := (Array.getElem?_eq_some_iff.1 HH.out).1
        omega
      · refine (HF3.out.trans (HFR.out.mono (fun j hj => .inl (by simp at hj; simp [hj])))).trans ((HF6.out.mono (fun j hj => by cases hj)).trans (Fr.setCell _ (by simp) _))
end Go.Proofs.YtgfijlamhjjecaaGreatDoor


/-
  EdiW: plain laws of texts of segments: what was read is printed as the text, texts one behind the other, cuts, lengths. No condition beyond those stated.
-/
namespace Go.Proofs.YtgfijlamhjjecaaGreatDoor
/-! ### what was read, told again -/
/-- the text that a state stands for -/
def curT (t : Str) (es : List (List Str)) (cs : List Str) (p : Str) : Str := t ++ (es ++ [cs ++ [p]]).flatMap (fun e => 43 :: elemT e)
def textE : EC → Str
  | .btw l => printT l
  | .tag l t => printT l ++ t
  | .bhd l t => printT l ++ t
  | .cmp l t es cs p => printT l ++ curT t es cs p
  | .rel l t es cs p => printT l ++ curT t es cs p ++ [63]
/-- what a state has taken is in order -/
def okE : EC → Prop
  | .btw l => okL l
  | .tag l t => okL l ∧ l.length < 64 ∧ t.length < 3 ∧ ∀ c ∈ t, tagB c = true
  | .bhd l t => okL l ∧ l.length < 64 ∧ okT t
  | .cmp l t es cs p => okL l ∧ l.length < 64 ∧ okT t ∧ es.length < 16 ∧ (∀ e ∈ es, okEl e) ∧ cs.length < 8 ∧ (∀ q ∈ cs, okP q) ∧ okP p
  | .rel l t es cs p => okL l ∧ l.length < 64 ∧ okT t ∧ es.length < 16 ∧ (∀ e ∈ es, okEl e) ∧ cs.length < 8 ∧ (∀ q ∈ cs, okP q) ∧ okP p
theorem joinB_snoc (s : UInt8) : ∀ (l : List Str) (a : Str), l ≠ [] → joinB s (l ++ [a]) = joinB s l ++ s :: a
  | [], _, h => absurd rfl h
  | [x], a, _ => by simp [joinB]
  | x :: y :: l, a, _ => by
    have ih := joinB_snoc s (y :: l) a (by simp)
    simp only [List.cons_append] at ih ⊢
    rw [joinB, ih, joinB, List.append_assoc]; rfl
theorem elemT_snoc (cs : List Str) (p : Str) (h : cs ≠ []) : elemT (cs ++ [p]) = elemT cs ++ 58 :: compT p := by
  unfold elemT
  rw [List.map_append, List.map_singleton, joinB_snoc _ _ _ (by simpa using h)]
theorem compT_snoc (p : Str) (c : UInt8) : compT (p ++ [c]) = compT p ++ escB c := by simp [compT]
theorem elemT_put (cs : List Str) (p : Str) (c : UInt8) : elemT (cs ++ [p ++ [c]]) = elemT (cs ++ [p]) ++ escB c := by
  by_cases h : cs = []
  · subst h; simp [elemT, joinB, compT_snoc]
  · rw [elemT_snoc _ _ h, elemT_snoc _ _ h, compT_snoc]; simp
theorem curT_put (t : Str) (es : List (List Str)) (cs : List Str) (p : Str) (c : UInt8) : curT t es cs (p ++ [c]) = curT t es cs p ++ escB c := by
  unfold curT
  rw [List.flatMap_append, List.flatMap_append, List.flatMap_singleton, List.flatMap_singleton, elemT_put]; simp
theorem curT_comp (t : Str) (es : List (List Str)) (cs : List Str) (p : Str) : curT t es (cs ++ [p]) [] = curT t es cs p ++ [58] := by
  unfold curT
  rw [List.flatMap_append, List.flatMap_append, List.flatMap_singleton, List.flatMap_singleton, elemT_snoc _ _ (by simp)]; simp [compT]
theorem curT_elem (t : Str) (es : List (List Str)) (cs : List Str) (p : Str) : curT t (es ++ [cs ++ [p]]) [] [] = curT t es cs p ++ [43] := by
  unfold curT
  rw [List.flatMap_append]; simp [elemT, joinB, compT]
theorem printT_snoc (l : List Seg) (s : Seg) : printT (l ++ [s]) = printT l ++ segT s := by simp [printT]
theorem okP_put {p : Str} {c : UInt8} (h : okP p) (hc : okB c) (hl : p.length ≠ 256) : okP (p ++ [c]) := by
  refine ⟨by have := h.1; simp; omega, fun x hx => ?_⟩
  rw [List.mem_append, List.mem_singleton] at hx
  rcases hx with hx | rfl
  · exact h.2 x hx
  · exact hc
theorem okL_snoc {l : List Seg} {s : Seg} (h : okL l) (hl : l.length < 64) (hs : okS s) : okL (l ++ [s]) := by
  refine ⟨by simp; omega, fun x hx => ?_⟩
  rw [List.mem_append, List.mem_singleton] at hx
  rcases hx with hx | rfl
  · exact h.2 x hx
  · exact hs
theorem mem_snoc {α : Type} {P : α → Prop} {l : List α} {a : α} (h : ∀ x ∈ l, P x) (ha : P a) : ∀ x ∈ l ++ [a], P x := fun x hx => by
  rw [List.mem_append, List.mem_singleton] at hx
  rcases hx with hx | rfl
  · exact h x hx
  · exact ha
theorem okEl_snoc {cs : List Str} {p : Str} (h1 : cs.length < 8) (h2 : ∀ q ∈ cs, okP q) (h3 : okP p) : okEl (cs ++ [p]) := ⟨by simp, by simp; omega, mem_snoc h2 h3⟩
theorem okP_nil : okP [] := ⟨by simp, by simp⟩
theorem tagS_text {l : List Seg} {t : Str} {c : UInt8} {s : EC} (h : tagS l t c = .ok s) (hl : okL l) (hn : l.length < 64) (ht : t.length < 3) (hc : ∀ x ∈ t, tagB x = true) : textE s = printT l ++ t ++ [c] ∧ okE s := by
  unfold tagS at h
  split at h
  · cases h
  · rename_i hb
    rw [Bool.not_eq_false] at hb
    split at h
    · cases h; exact ⟨by simp [textE], hl, hn, by simp; omega, mem_snoc hc hb⟩
    · cases h; exact ⟨by simp [textE], hl, hn, by simp; omega, mem_snoc hc hb⟩
theorem putS_text {l : List Seg} {t : Str} {es : List (List Str)} {cs : List Str} {p : Str} {c : UInt8} {s : EC} (h : putS l t es cs p c = .ok s) (ho : okE (.cmp l t es cs p)) (hc : okB c) : textE s = printT l ++ curT t es cs p ++ escB c ∧ okE s := by
  unfold putS at h
  obtain ⟨h1, h2, h3, h4, h5, h6, h7, h8⟩ := ho
  split at h
  · cases h
  · cases h
    exact ⟨by simp [textE, curT_put], h1, h2, h3, h4, h5, h6, h7, okP_put h8 hc (by assumption)⟩
theorem signB_ok {c : UInt8} (h : signB c = true) : okB c := by
  unfold signB at h
  simp only [Bool.or_eq_true, beq_iff_eq] at h
  unfold okB
  rcases h with ((rfl | rfl) | rfl) | rfl <;> decide
theorem signB_no {c : UInt8} (h : signB c = true) (h1 : c ≠ 63) (h2 : c ≠ 39) (h3 : c ≠ 43) : c = 58 := by
  unfold signB at h
  simp only [Bool.or_eq_true, beq_iff_eq] at h
  rcases h with ((rfl | rfl) | rfl) | rfl
  · exact absurd rfl h3
  · rfl
  · exact absurd rfl h2
  · exact absurd rfl h1
theorem step_text {s s' : EC} {c : UInt8} (h : stepE s c = .ok s') (ho : okE s) : textE s' = textE s ++ (if c = 10 then [] else [c]) ∧ okE s' := by
  cases s with
  | btw l =>
    simp only [stepE] at h
    split at h
    · rename_i h10
      cases h
      rw [if_pos h10.1]; exact ⟨by simp, ho⟩
    · split at h
      · cases h
      · have hn : l.length < 64 := by have := ho.1; omega
        have hb : c ≠ 10 := by
          rintro rfl
          unfold tagS at h
          rw [if_pos (by decide)] at h
          cases h
        obtain ⟨e1, e2⟩ := tagS_text h ho hn (by simp) (by simp)
        rw [if_neg hb]
        exact ⟨by rw [e1]; simp [textE], e2⟩
  | tag l t =>
    obtain ⟨h1, h2, h3, h4⟩ := ho
    have hb : c ≠ 10 := by
      rintro rfl
      simp only [stepE] at h
      unfold tagS at h
      rw [if_pos (by decide)] at h
      cases h
    rw [if_neg hb]
    exact tagS_text h h1 h2 h3 h4
  | bhd l t =>
    obtain ⟨h1, h2, h3⟩ := ho
    simp only [stepE] at h
    split at h
    · rename_i hc
      cases h
      subst hc
      rw [if_neg (by decide)]
      exact ⟨by simp [textE, printT_snoc, segT], okL_snoc h1 h2 ⟨h3, by simp, by simp⟩⟩
    · split at h
      · rename_i hc
        cases h
        subst hc
        rw [if_neg (by decide)]
        exact ⟨by simp [textE, curT, elemT, joinB, compT], h1, h2, h3, by simp, by simp, by simp, by simp, okP_nil⟩
      · cases h
  | cmp l t es cs p =>
    have ho' := ho
    obtain ⟨h1, h2, h3, h4, h5, h6, h7, h8⟩ := ho
    simp only [stepE] at h
    split at h
    · rename_i hc
      cases h; subst hc
      rw [if_neg (by decide)]
      exact ⟨rfl, ho'⟩
    · rename_i h63
      split at h
      · rename_i hs
        have hb : c ≠ 10 := by rintro rfl; exact absurd hs (by decide)
        rw [if_neg hb]
        unfold signS at h
        split at h
        · rename_i hc
          cases h; subst hc
          exact ⟨by simp [textE, printT_snoc, segT, curT], okL_snoc h1 h2 ⟨h3, by simp; omega, mem_snoc h5 (okEl_snoc h6 h7 h8)⟩⟩
        · rename_i h39
          split at h
          · rename_i hc
            subst hc
            split at h
            · cases h
            · cases h
              exact ⟨by simp [textE, curT_elem], h1, h2, h3, by simp; omega, mem_snoc h5 (okEl_snoc h6 h7 h8), by simp, by simp, okP_nil⟩
          · rename_i h43
            have := signB_no hs h63 h39 h43
            subst this
            split at h
            · cases h
            · cases h
              exact ⟨by simp [textE, curT_comp], h1, h2, h3, h4, h5, by simp; omega, mem_snoc h7 h8, okP_nil⟩
      · rename_i hs
        split at h
        · cases h
        · rename_i hr
          rw [Bool.not_eq_true] at hs
          have hb : c ≠ 10 := by rintro rfl; exact hr (by decide)
          rw [if_neg hb]
          obtain ⟨e1, e2⟩ := putS_text h ho' ⟨by omega, by omega⟩
          refine ⟨?_, e2⟩
          rw [e1]
          unfold escB
          rw [hs]; rfl
  | rel l t es cs p =>
    simp only [stepE] at h
    split at h
    · rename_i hs
      have hb : c ≠ 10 := by rintro rfl; exact absurd hs (by decide)
      rw [if_neg hb]
      obtain ⟨e1, e2⟩ := putS_text h ho (signB_ok hs)
      refine ⟨?_, e2⟩
      rw [e1]
      unfold escB
      rw [hs]; simp [textE]
    · cases h
def no10 (t : Str) : Str := t.filter (fun c => c != 10)
theorem run_text : ∀ (t : Str) (s s' : EC) (i : Nat), runE s i t = .ok s' → okE s → textE s' = textE s ++ no10 t ∧ okE s'
  | [], s, s', i, h, ho => by simp only [runE, EO.ok.injEq] at h; subst h; exact ⟨by simp [no10], ho⟩
  | c :: t, s, s', i, h, ho => by
    simp only [runE] at h
    cases hs : stepE s c with
    | err k => rw [hs] at h; cases h
    | ok s1 =>
      rw [hs] at h
      obtain ⟨e1, e2⟩ := step_text hs ho
      obtain ⟨e3, e4⟩ := run_text t s1 s' (i + 1) h e2
      refine ⟨?_, e4⟩
      rw [e3, e1, List.append_assoc]
      congr 1
      unfold no10
      rw [List.filter_cons]
      by_cases hc : c = 10
      · subst hc; simp
      · simp [hc]
theorem parse_ok {t : Str} {m : List Seg} {at_ : Nat} (h : parseE t = (m, at_, 0)) (h' : t.length ≤ 65536) : at_ = 0 ∧ runE (.btw []) 0 t = .ok (.btw m) := by
  unfold parseE at h
  rw [if_neg (by omega)] at h
  split at h
  · rename_i i k hr
    injection h with h1 h2; injection h2 with h2 h3
    subst h3
    exfalso
    have : ∀ (t : Str) (s : EC) (i j : Nat), runE s i t ≠ .err j 0 := by
      intro t
      induction t with
      | nil => intro s i j; simp [runE]
      | cons c t ih =>
        intro s i j h
        simp only [runE] at h
        cases hs : stepE s c with
        | ok s1 => rw [hs] at h; exact ih _ _ _ h
        | err k =>
          rw [hs] at h
          simp only [EO.err.injEq] at h
          obtain ⟨_, rfl⟩ := h
          have hT : ∀ l t, tagS l t c ≠ .err 0 := fun l t h => by
            unfold tagS at h; split at h
            · cases h
            · split at h <;> cases h
          have hP : ∀ l t es cs p, putS l t es cs p c ≠ .err 0 := fun l t es cs p h => by
            unfold putS at h; split at h <;> cases h
          cases s with
          | btw l => simp only [stepE] at hs; split at hs; cases hs; split at hs; cases hs; exact hT _ _ hs
          | tag l t => exact hT _ _ hs
          | bhd l t => simp only [stepE] at hs; split at hs; cases hs; split at hs <;> cases hs
          | cmp l t es cs p =>
            simp only [stepE, signS] at hs
            split at hs; cases hs; split at hs
            · split at hs; cases hs; split at hs
              · split at hs <;> cases hs
              · split at hs <;> cases hs
            · split at hs; cases hs; exact hP _ _ _ _ _ hs
          | rel l t es cs p => simp only [stepE] at hs; split at hs; exact hP _ _ _ _ _ hs; cases hs
    exact this _ _ _ _ hr
  · rename_i l hr
    injection h with h1 h2; injection h2 with h2 h3
    subst h1
    exact ⟨h2.symm, hr⟩
  · injection h with h1 h2; injection h2 with h2 h3; cases h3
theorem okE_start : okE (.btw []) := ⟨by simp, by simp⟩
theorem no10_le (t : Str) : (no10 t).length ≤ t.length := List.length_filter_le _ _
/-- BACK AND THERE -/
theorem print_parse {t : Str} {m : List Seg} {at_ : Nat} (h : parseE t = (m, at_, 0)) (h' : t.length ≤ 65536) : printE m = (no10 t, 0) ∧ okL m := by
  obtain ⟨_, hr⟩ := parse_ok h h'
  obtain ⟨e1, e2⟩ := run_text t _ _ 0 hr okE_start
  have e3 : printT m = no10 t := e1
  have := no10_le t
  rw [printE_ok e2 (by rw [e3]; omega), e3]
  exact ⟨rfl, e2⟩
/-! ### cuts -/
theorem runE_err_lt : ∀ (t : Str) (s : EC) (i j : Nat) (k : Int), runE s i t = .err j k → i ≤ j ∧ j < i + t.length ∧ ∃ s', runE s i (t.take (j - i)) = .ok s'
  | [], s, i, j, k, h => by simp [runE] at h
  | c :: t, s, i, j, k, h => by
    simp only [runE] at h
    cases hs : stepE s c with
    | err k' =>
      rw [hs] at h
      simp only [EO.err.injEq] at h
      obtain ⟨rfl, rfl⟩ := h
      exact ⟨Nat.le_refl _, by simp, s, by simp [runE]⟩
    | ok s1 =>
      rw [hs] at h
      obtain ⟨h1, h2, s', h3⟩ := runE_err_lt t s1 (i + 1) j k h
      refine ⟨by omega, by simp; omega, s', ?_⟩
      rw [show j - i = (j - (i + 1)) + 1 by omega, List.take_succ_cons]
      simp only [runE, hs]
      exact h3
theorem step_err31 {s : EC} {c : UInt8} {k : Int} (h : stepE s c = .err k) : k ≠ 31 ∧ k ≠ 0 := by
  have hT : ∀ l t, tagS l t c = .err k → k ≠ 31 ∧ k ≠ 0 := fun l t h => by
    unfold tagS at h; split at h
    · cases h; decide
    · split at h <;> cases h
  have hP : ∀ l t es cs p, putS l t es cs p c = .err k → k ≠ 31 ∧ k ≠ 0 := fun l t es cs p h => by
    unfold putS at h; split at h
    · cases h; decide
    · cases h
  cases s with
  | btw l =>
    simp only [stepE] at h; split at h
    · cases h
    · split at h
      · cases h; decide
      · exact hT _ _ h
  | tag l t => exact hT _ _ h
  | bhd l t =>
    simp only [stepE] at h; split at h
    · cases h
    · split at h
      · cases h
      · cases h; decide
  | cmp l t es cs p =>
    simp only [stepE, signS] at h
    split at h
    · cases h
    · split at h
      · split at h
        · cases h
        · split at h
          · split at h
            · cases h; decide
            · cases h
          · split at h
            · cases h; decide
            · cases h
      · split at h
        · cases h; decide
        · exact hP _ _ _ _ _ h
  | rel l t es cs p =>
    simp only [stepE] at h; split at h
    · exact hP _ _ _ _ _ h
    · cases h; decide
theorem runE_err31 : ∀ (t : Str) (s : EC) (i j : Nat) (k : Int), runE s i t = .err j k → k ≠ 31 ∧ k ≠ 0
  | [], s, i, j, k, h => by simp [runE] at h
  | c :: t, s, i, j, k, h => by
    simp only [runE] at h
    cases hs : stepE s c with
    | err k' =>
      rw [hs] at h
      simp only [EO.err.injEq] at h
      obtain ⟨rfl, rfl⟩ := h
      exact step_err31 hs
    | ok s1 => rw [hs] at h; exact runE_err31 t s1 (i + 1) j k h
/-- an error: its place, and what comes of the text up to it -/
theorem parse_cut {t : Str} {m : List Seg} {at_ : Nat} {k : Int} (h : parseE t = (m, at_, k)) (h' : t.length ≤ 65536) (hk : k ≠ 0) : at_ ≤ t.length ∧ (k = 31 ↔ at_ = t.length) ∧ m = [] ∧
    ((∃ m', parseE (t.take at_) = (m', 0, 0)) ∨ parseE (t.take at_) = ([], at_, 31)) := by
  have hfin : ∀ s, runE (.btw []) 0 (t.take at_) = .ok s → at_ ≤ t.length → ((∃ m', parseE (t.take at_) = (m', 0, 0)) ∨ parseE (t.take at_) = ([], at_, 31)) := fun s hs hle => by
    have hlen : (t.take at_).length = at_ := by simp; omega
    unfold parseE
    rw [if_neg (by omega), hs, hlen]
    cases s with
    | btw l => exact .inl ⟨l, rfl⟩
    | tag l t => exact .inr rfl
    | bhd l t => exact .inr rfl
    | cmp l t es cs p => exact .inr rfl
    | rel l t es cs p => exact .inr rfl
  unfold parseE at h
  rw [if_neg (by omega)] at h
  split at h
  · rename_i i k' hr
    injection h with h1 h2; injection h2 with h2 h3
    subst h2; subst h3
    obtain ⟨a1, a2, s, a3⟩ := runE_err_lt _ _ _ _ _ hr
    rw [Nat.sub_zero] at a3
    obtain ⟨b1, b2⟩ := runE_err31 _ _ _ _ _ hr
    exact ⟨by omega, ⟨fun e => absurd e b1, fun e => by omega⟩, h1.symm, hfin s a3 (by omega)⟩
  · injection h with h1 h2; injection h2 with h2 h3
    exact absurd h3.symm hk
  · rename_i s hs hr
    injection h with h1 h2; injection h2 with h2 h3
    subst h2; subst h3
    exact ⟨Nat.le_refl _, ⟨fun _ => rfl, fun _ => rfl⟩, h1.symm, hfin s (by rw [List.take_length]; exact hr) (Nat.le_refl _)⟩
/-! ### texts one behind the other -/
end Go.Proofs.YtgfijlamhjjecaaGreatDoor


/-
  WrapP: numbers in decimal, plain words and laws. No condition.
-/
namespace Go.Proofs.YtgfijlamhjjecaaGreatDoor
/-- the digits of a number -/
abbrev decT (v : Nat) : Str := Lib.decDigits v
/-- a digit -/
def digB (c : UInt8) : Bool := decide (48 ≤ c.toNat) && decide (c.toNat ≤ 57)
/-- what digits spell, behind what others have spelt; none: no digit, or too great for 64 bits -/
def valW : Nat → Str → Option Nat
  | v, [] => some v
  | v, c :: r => if digB c then (if v * 10 + (c.toNat - 48) < 18446744073709551616 then valW (v * 10 + (c.toNat - 48)) r else none) else none
/-- a number's text -/
def numW (s : Str) : Option Nat := match s with
  | [] => none
  | c :: r => if c = 48 ∧ r ≠ [] then none else valW 0 (c :: r)
theorem valW_append : ∀ (a b : Str) (v : Nat), valW v (a ++ b) = (valW v a).bind fun u => valW u b
  | [], b, v => rfl
  | c :: a, b, v => by
    simp only [List.cons_append, valW]
    split
    · split
      · exact valW_append a b _
      · rfl
    · rfl
theorem digB_of {d : Nat} (h : d < 10) : digB (UInt8.ofNat (48 + d)) = true ∧ (UInt8.ofNat (48 + d)).toNat = 48 + d := by
  have e : (UInt8.ofNat (48 + d)).toNat = 48 + d := by rw [UInt8.toNat_ofNat']; omega
  refine ⟨?_, e⟩
  unfold digB; rw [e]; simp; omega
theorem dec_small {v : Nat} (h : v < 10) : decT v = [UInt8.ofNat (48 + v)] := Lib.decDigits_one h
theorem dec_step {v : Nat} (h : ¬ v < 10) : decT v = decT (v / 10) ++ [UInt8.ofNat (48 + v % 10)] := by
  show Lib.decDigits v = _
  rw [Lib.decDigits, dif_neg h]
theorem dec_ne (v : Nat) : decT v ≠ [] := by
  by_cases h : v < 10
  · rw [dec_small h]; simp
  · rw [dec_step h]; simp
theorem dec_digs : ∀ (v : Nat), ∀ c ∈ decT v, digB c = true := fun v => by
  induction v using Nat.strongRecOn with
  | ind v ih =>
    by_cases h : v < 10
    · rw [dec_small h]; intro c hc; rw [List.mem_singleton] at hc; subst hc; exact (digB_of h).1
    · rw [dec_step h]
      intro c hc
      rcases List.mem_append.1 hc with hc | hc
      · exact ih (v / 10) (by omega) c hc
      · rw [List.mem_singleton] at hc; subst hc; exact (digB_of (Nat.mod_lt _ (by omega))).1
/-- no 0 ahead, but of 0 itself -/
theorem dec_head : ∀ (v : Nat), 0 < v → (decT v).head? ≠ some 48 := fun v => by
  induction v using Nat.strongRecOn with
  | ind v ih =>
    intro h0
    by_cases h : v < 10
    · rw [dec_small h]
      simp only [List.head?_cons, ne_eq, Option.some.injEq]
      intro e
      have := congrArg UInt8.toNat e
      rw [(digB_of h).2] at this
      have h48 : (48 : UInt8).toNat = 48 := rfl
      omega
    · rw [dec_step h]
      have := ih (v / 10) (by omega) (by omega)
      cases hd : decT (v / 10) with
      | nil => exact absurd hd (dec_ne _)
      | cons a l => rw [hd] at this; simpa using this
theorem val_dec : ∀ (v : Nat), v < 18446744073709551616 → valW 0 (decT v) = some v := fun v => by
  induction v using Nat.strongRecOn with
  | ind v ih =>
    intro hv
    by_cases h : v < 10
    · rw [dec_small h]
      obtain ⟨e1, e2⟩ := digB_of h
      simp only [valW, e1, e2, if_true]
      rw [if_pos (by omega)]
      congr 1; omega
    · rw [dec_step h, valW_append, ih (v / 10) (by omega) (by omega)]
      obtain ⟨e1, e2⟩ := digB_of (Nat.mod_lt v (by omega : 0 < 10))
      simp only [Option.bind_some, valW, e1, e2, if_true]
      rw [if_pos (by omega)]
      congr 1; omega
theorem num_dec {v : Nat} (h : v < 18446744073709551616) : numW (decT v) = some v := by
  have hv := val_dec v h
  have hh := dec_head v
  cases hd : decT v with
  | nil => exact absurd hd (dec_ne v)
  | cons c r =>
    rw [hd] at hv hh
    unfold numW
    simp only
    rw [if_neg, hv]
    rintro ⟨rfl, hr⟩
    rcases Nat.eq_zero_or_pos v with h0 | h0
    · subst h0
      rw [dec_small (by omega)] at hd
      injection hd with _ hd
      exact hr hd.symm
    · exact hh h0 (by simp)
/-- a number's text is its digits -/
theorem val_inj : ∀ (s : Str) (v u : Nat), 0 < v → valW v s = some u → decT u = decT v ++ s
  | [], v, u, _, h => by simp only [valW, Option.some.injEq] at h; subst h; simp
  | c :: r, v, u, h0, h => by
    simp only [valW] at h
    split at h
    · rename_i hd
      split at h
      · have h1 := val_inj r _ u (by omega) h
        have hc : 48 ≤ c.toNat ∧ c.toNat ≤ 57 := by simpa [digB] using hd
        have e : decT (v * 10 + (c.toNat - 48)) = decT v ++ [c] := by
          rw [dec_step (by omega), show (v * 10 + (c.toNat - 48)) / 10 = v by omega, show (v * 10 + (c.toNat - 48)) % 10 = c.toNat - 48 by omega]
          congr 2
          apply UInt8.toNat_inj.1
          rw [(digB_of (show c.toNat - 48 < 10 by omega)).2]; omega
        rw [h1, e, List.append_assoc]; rfl
      · cases h
    · cases h
theorem num_inj {s : Str} {v : Nat} (h : numW s = some v) : s = decT v := by
  cases s with
  | nil => cases h
  | cons c r =>
    simp only [numW] at h
    split at h
    · cases h
    · rename_i hn
      simp only [valW] at h
      split at h
      · rename_i hd
        have hc : 48 ≤ c.toNat ∧ c.toNat ≤ 57 := by simpa [digB] using hd
        rw [if_pos (by omega), Nat.zero_mul, Nat.zero_add] at h
        have e1 : decT (c.toNat - 48) = [c] := by
          rw [dec_small (by omega)]
          congr 1
          apply UInt8.toNat_inj.1
          rw [(digB_of (show c.toNat - 48 < 10 by omega)).2]; omega
        by_cases h0 : c = 48
        · have hr : r = [] := Classical.byContradiction fun hr => hn ⟨h0, hr⟩
          subst hr
          simp only [valW, Option.some.injEq] at h
          rw [← h, e1]
        · have h0' : 0 < c.toNat - 48 := by
            have : c.toNat ≠ 48 := fun e => h0 (UInt8.toNat_inj.1 e)
            omega
          rw [val_inj r _ v h0' h, e1]; rfl
      · cases h
theorem valW_lt : ∀ (s : Str) (v u : Nat), v < 18446744073709551616 → valW v s = some u → u < 18446744073709551616
  | [], v, u, hv, h => by simp only [valW, Option.some.injEq] at h; omega
  | c :: r, v, u, hv, h => by
    simp only [valW] at h
    split at h
    · split at h
      · rename_i hlt; exact valW_lt r _ u hlt h
      · cases h
    · cases h
theorem num_lt {s : Str} {v : Nat} (h : numW s = some v) : v < 18446744073709551616 := by
  cases s with
  | nil => cases h
  | cons c r =>
    simp only [numW] at h
    split at h
    · cases h
    · exact valW_lt _ 0 v (by omega) h
end Go.Proofs.YtgfijlamhjjecaaGreatDoor


/-
  WrapL: interchanges, read and told: plain words and laws. No condition.
-/
namespace Go.Proofs.YtgfijlamhjjecaaGreatDoor
def oneN : List Str → Option Nat
  | [s] => numW s
  | _ => none
structure WD where
  fr : Nat
  dst : Nat
  rf : Nat
  segs : List Seg
def wd0 : WD := ⟨0, 0, 0, []⟩
def unb : Str := [85, 78, 66]
def unz : Str := [85, 78, 90]
def numsL : List (List Str) → Option (List Nat)
  | [] => some []
  | e :: es => match oneN e, numsL es with
    | some v, some l => some (v :: l)
    | _, _ => none
def numsW (s : Seg) (t : Str) (n : Nat) : Option (List Nat) := if s.tag = t ∧ s.elems.length = n then numsL s.elems else none
/-- what comes of head and tail -/
def wrapHT (h z : Seg) (m : List Seg) : WD × Int :=
  match numsW h unb 3, numsW z unz 2 with
  | some [a, b, c], some [d, f] => if 8 ≤ a ∨ 8 ≤ b then (wd0, 40) else if d ≠ m.length then (wd0, 41) else if c ≠ f then (wd0, 42) else (⟨a, b, c, m⟩, 0)
  | _, _ => (wd0, 40)
def wrapOf (l : List Seg) : WD × Int :=
  match l with
  | [] => (wd0, 40)
  | h :: r => match r.getLast? with
    | none => (wd0, 40)
    | some z => wrapHT h z r.dropLast
def wrapParseE (t : Str) : WD × Int := if (parseE t).2.2 = 0 then wrapOf (parseE t).1 else (wd0, (parseE t).2.2)
def numSeg (t : Str) (l : List Nat) : Seg := ⟨t, l.map fun v => [decT v]⟩
def wrapL (a b c d f : Nat) (m : List Seg) : List Seg := numSeg unb [a, b, c] :: m ++ [numSeg unz [d, f]]
def wrapPrintE (x : WD) : Str × Int :=
  if 8 ≤ x.fr ∨ 8 ≤ x.dst then ([], 1) else if 62 < x.segs.length then ([], 2) else printE (wrapL x.fr x.dst x.rf x.segs.length x.rf x.segs)
theorem wrapOf_snoc (h z : Seg) (m : List Seg) : wrapOf (h :: (m ++ [z])) = wrapHT h z m := by
  unfold wrapOf
  simp
theorem numsL_dec : ∀ (l : List Nat), (∀ v ∈ l, v < 18446744073709551616) → numsL (l.map fun v => [decT v]) = some l
  | [], _ => rfl
  | v :: l, h => by
    simp only [List.map_cons, numsL]
    rw [numsL_dec l (fun u hu => h u (by simp [hu]))]
    simp only [oneN]
    rw [num_dec (h v (by simp))]
theorem numsW_seg {t : Str} {l : List Nat} (h : ∀ v ∈ l, v < 18446744073709551616) : numsW (numSeg t l) t l.length = some l := by
  unfold numsW numSeg
  simp only
  rw [if_pos ⟨trivial, by simp⟩]
  exact numsL_dec l h
theorem wrapOf_L {a b c d f : Nat} {m : List Seg} (ha : a < 18446744073709551616) (hb : b < 18446744073709551616) (hc : c < 18446744073709551616) (hd : d < 18446744073709551616) (hf : f < 18446744073709551616) :
    wrapOf (wrapL a b c d f m) = if 8 ≤ a ∨ 8 ≤ b then (wd0, 40) else if d ≠ m.length then (wd0, 41) else if c ≠ f then (wd0, 42) else (⟨a, b, c, m⟩, 0) := by
  unfold wrapL
  rw [List.cons_append, wrapOf_snoc]
  unfold wrapHT
  have e1 : numsW (numSeg unb [a, b, c]) unb 3 = some [a, b, c] := numsW_seg (l := [a, b, c]) (by simp [ha, hb, hc])
  have e2 : numsW (numSeg unz [d, f]) unz 2 = some [d, f] := numsW_seg (l := [d, f]) (by simp [hd, hf])
  rw [e1, e2]
theorem digB_okB {c : UInt8} (h : digB c = true) : okB c ∧ signB c = false := by
  unfold digB at h
  simp at h
  refine ⟨⟨by omega, by omega⟩, ?_⟩
  unfold signB
  have e : ∀ x : UInt8, (c == x) = decide (c.toNat = x.toNat) := fun x => by rw [Bool.eq_iff_iff, beq_iff_eq, decide_eq_true_eq]; exact UInt8.toNat_inj.symm
  rw [e, e, e, e]
  simp
  refine ⟨⟨⟨?_, ?_⟩, ?_⟩, ?_⟩ <;> omega
theorem dec_len : ∀ (n v : Nat), v < 10 ^ (n + 1) → (decT v).length ≤ n + 1
  | 0, v, h => by rw [dec_small (by omega)]; simp
  | n + 1, v, h => by
    by_cases hv : v < 10
    · rw [dec_small hv]; simp
    · rw [dec_step hv]
      have := dec_len n (v / 10) (by rw [Nat.pow_succ] at h; omega)
      simp; omega
theorem dec_len20 {v : Nat} (h : v < 18446744073709551616) : (decT v).length ≤ 20 := dec_len 19 v (by omega)
theorem okP_dec {v : Nat} (h : v < 18446744073709551616) : okP (decT v) := ⟨by have := dec_len20 h; omega, fun c hc => (digB_okB (dec_digs v c hc)).1⟩
theorem compT_dec (v : Nat) : compT (decT v) = decT v := by
  have h := dec_digs v
  generalize decT v = l at h
  induction l with
  | nil => rfl
  | cons c l ih =>
    have h1 : compT (c :: l) = escB c ++ compT l := by simp [compT]
    rw [h1, ih (fun x hx => h x (by simp [hx]))]
    unfold escB
    rw [(digB_okB (h c (by simp))).2]
    rfl
theorem okS_num {t : Str} {l : List Nat} (ht : okT t) (hn : l.length ≤ 16) (h : ∀ v ∈ l, v < 18446744073709551616) : okS (numSeg t l) := by
  refine ⟨ht, by simpa [numSeg] using hn, fun e he => ?_⟩
  simp only [numSeg, List.mem_map] at he
  obtain ⟨v, hv, rfl⟩ := he
  exact ⟨by simp, by simp, fun p hp => by simp at hp; subst hp; exact okP_dec (h v hv)⟩
theorem okT_unb : okT unb := ⟨rfl, by decide⟩
theorem okT_unz : okT unz := ⟨rfl, by decide⟩
/-! ### telling -/
theorem elemT_dec (v : Nat) : elemT [decT v] = decT v := by
  show joinB 58 ([decT v].map compT) = _
  simp only [List.map_cons, List.map_nil, joinB]
  exact compT_dec v
theorem segT_num (t : Str) (l : List Nat) : segT (numSeg t l) = t ++ l.flatMap (fun v => 43 :: decT v) ++ [39] := by
  unfold segT numSeg
  simp only [List.flatMap_map]
  congr 2
  congr 1
  funext v
  rw [elemT_dec]
theorem printT_cons (s : Seg) (l : List Seg) : printT (s :: l) = segT s ++ printT l := by simp [printT]
theorem printT_app (l m : List Seg) : printT (l ++ m) = printT l ++ printT m := by simp [printT]
theorem printT_wrap (a b c d f : Nat) (m : List Seg) : printT (wrapL a b c d f m) = segT (numSeg unb [a, b, c]) ++ printT m ++ segT (numSeg unz [d, f]) := by
  unfold wrapL
  rw [printT_app, printT_cons, printT_cons]
  simp [printT]
/-- there and back -/
theorem wrap_back {x : WD} {s : Str} (hr : x.rf < 18446744073709551616) (h : wrapPrintE x = (s, 0)) : wrapParseE s = (x, 0) ∧ parseE s = (wrapL x.fr x.dst x.rf x.segs.length x.rf x.segs, 0, 0) ∧ x.fr < 8 ∧ x.dst < 8 ∧ x.segs.length ≤ 62 ∧ s.length ≤ 65536 := by
  unfold wrapPrintE at h
  split at h
  · cases h
  · rename_i h1
    split at h
    · cases h
    · rename_i h2
      obtain ⟨ho, hp, hl⟩ := okL_of h
      have hb := parse_print ho (by rw [← hp]; exact hl)
      rw [← hp] at hb
      refine ⟨?_, hb, by omega, by omega, by omega, hl⟩
      unfold wrapParseE
      rw [hb, if_pos rfl, wrapOf_L (by omega) (by omega) hr (by omega) hr, if_neg h1, if_neg (by simp), if_neg (by simp)]
/-! ### the reference's way of telling -/
theorem any_wrap (f : Seg → Bool) (a b c d g : Nat) (m : List Seg) (h1 : f (numSeg unb [a, b, c]) = false) (h2 : f (numSeg unz [d, g]) = false) : (wrapL a b c d g m).any f = m.any f := by
  unfold wrapL
  rw [List.any_append, List.any_cons, h1, List.any_cons, h2]
  simp
theorem okS_flags {s : Seg} (h : okS s) : (tagBad s.tag || s.elems.any fun e => e.isEmpty) = false ∧ (s.elems.any fun e => e.any fun p => p.any badB) = false ∧ (decide (16 < s.elems.length) || s.elems.any fun e => decide (8 < e.length) || e.any fun p => decide (256 < p.length)) = false := by
  refine ⟨?_, ?_, ?_⟩
  · rw [Bool.or_eq_false_iff]
    refine ⟨?_, ?_⟩
    · unfold tagBad
      rw [Bool.or_eq_false_iff]
      refine ⟨by simp [h.1.1], ?_⟩
      simp only [Bool.not_eq_false', List.all_eq_true]
      exact h.1.2
    · rw [List.any_eq_false]; intro e he; have := h.2.2 e he
      cases e with
      | nil => exact absurd rfl this.1
      | cons a b => simp
  · rw [List.any_eq_false]; intro e he
    rw [Bool.not_eq_true, List.any_eq_false]; intro p hp
    rw [Bool.not_eq_true, List.any_eq_false]; intro c hc
    rw [Bool.not_eq_true]
    exact (badB_iff c).2 (((h.2.2 e he).2.2 p hp).2 c hc)
  · rw [Bool.or_eq_false_iff]; refine ⟨by have := h.2.1; simp; omega, ?_⟩
    rw [List.any_eq_false]; intro e he
    rw [Bool.not_eq_true, Bool.or_eq_false_iff]; refine ⟨by have := (h.2.2 e he).2.1; simp; omega, ?_⟩
    rw [List.any_eq_false]; intro p hp
    have := ((h.2.2 e he).2.2 p hp).1
    simp; omega
/-- the text of an interchange round a text of segments -/
def roundT (a b c d f : Nat) (s : Str) : Str := unb ++ 43 :: decT a ++ 43 :: decT b ++ 43 :: decT c ++ 39 :: s ++ unz ++ 43 :: decT d ++ 43 :: decT f ++ [39]
theorem roundT_eq (a b c d f : Nat) (m : List Seg) : printT (wrapL a b c d f m) = roundT a b c d f (printT m) := by
  rw [printT_wrap, segT_num, segT_num]
  unfold roundT
  simp
theorem wrapPrintE_ref (x : WD) (hr : x.rf < 18446744073709551616) (h1 : ¬ (8 ≤ x.fr ∨ 8 ≤ x.dst)) (h2 : ¬ 62 < x.segs.length) :
    wrapPrintE x = if (printE x.segs).2 ≠ 0 then ([], (printE x.segs).2) else
      if 65536 < (roundT x.fr x.dst x.rf x.segs.length x.rf (printE x.segs).1).length then ([], 2) else (roundT x.fr x.dst x.rf x.segs.length x.rf (printE x.segs).1, 0) := by
  unfold wrapPrintE
  rw [if_neg h1, if_neg h2]
  have o1 : okS (numSeg unb [x.fr, x.dst, x.rf]) := okS_num okT_unb (by simp) (by simp [hr]; omega)
  have o2 : okS (numSeg unz [x.segs.length, x.rf]) := okS_num okT_unz (by simp) (by simp [hr]; omega)
  obtain ⟨a1, s1, l1⟩ := okS_flags o1
  obtain ⟨a2, s2, l2⟩ := okS_flags o2
  have eA : argP (wrapL x.fr x.dst x.rf x.segs.length x.rf x.segs) = argP x.segs := any_wrap _ _ _ _ _ _ _ a1 a2
  have eS : signP (wrapL x.fr x.dst x.rf x.segs.length x.rf x.segs) = signP x.segs := any_wrap _ _ _ _ _ _ _ s1 s2
  have eL : longP (wrapL x.fr x.dst x.rf x.segs.length x.rf x.segs) = longP x.segs := by
    unfold longP
    rw [any_wrap _ _ _ _ _ _ _ l1 l2]
    have e1 : decide (64 < (wrapL x.fr x.dst x.rf x.segs.length x.rf x.segs).length) = false := by simp [wrapL]; omega
    have e2 : decide (64 < x.segs.length) = false := by simp; omega
    rw [e1, e2]
  unfold printE
  rw [eA, eS, eL, roundT_eq]
  by_cases ha : argP x.segs = true
  · simp [ha]
  · rw [Bool.not_eq_true] at ha
    by_cases hs : signP x.segs = true
    · simp [ha, hs]
    · rw [Bool.not_eq_true] at hs
      by_cases hl : longP x.segs = true
      · simp [ha, hs, hl]
      · rw [Bool.not_eq_true] at hl
        rw [ha, hs, hl]
        simp only [Bool.false_or, Bool.false_eq_true, if_false, decide_eq_true_eq]
        by_cases hp : 65536 < (printT x.segs).length
        · rw [if_pos hp]
          have : 65536 < (roundT x.fr x.dst x.rf x.segs.length x.rf (printT x.segs)).length := by
            unfold roundT; simp only [List.length_append, List.length_cons]; omega
          rw [if_pos this]
          simp
        · rw [if_neg hp]
          simp
end Go.Proofs.YtgfijlamhjjecaaGreatDoor


/-
  WrapQ: numbers as the program and the reference read them: plain laws. No condition.
-/
namespace Go.Proofs.YtgfijlamhjjecaaGreatDoor
def numEnd : Lib.NumEnd Nat → Option Nat
  | .ok u => some u
  | _ => none
theorem parseM_val : ∀ (l : Str) (acc : Nat), acc < 18446744073709551616 → numEnd (Lib.parseUintM 18446744073709551615 acc l) = valW acc l
  | [], acc, _ => rfl
  | c :: r, acc, h => by
    have hD : digB c = true ↔ (48 ≤ c.toNat ∧ c.toNat ≤ 57) := by unfold digB; simp
    rw [Lib.parseUintM, valW]
    by_cases hd : 48 ≤ c.toNat ∧ c.toNat ≤ 57
    · rw [if_pos hd, if_pos (hD.2 hd)]
      by_cases h1 : 1844674407370955162 ≤ acc
      · rw [if_pos h1, if_neg (by omega)]; rfl
      · rw [if_neg h1]
        by_cases h2 : 18446744073709551615 < acc * 10 + (c.toNat - 48)
        · rw [if_pos h2, if_neg (by omega)]; rfl
        · rw [if_neg h2, if_pos (by omega)]
          exact parseM_val r _ (by omega)
    · rw [if_neg hd, if_neg (fun h => hd (hD.1 h))]; rfl
theorem num_pu {s : Str} (h0 : s ≠ []) (h1 : ¬ (s.head? = some 48 ∧ 1 < s.length)) : numEnd (Lib.parseUintB 64 s) = numW s := by
  cases s with
  | nil => exact absurd rfl h0
  | cons c r =>
    unfold Lib.parseUintB numW
    rw [if_neg (by simp)]
    have hn : ¬ (c = 48 ∧ r ≠ []) := fun ⟨a, b⟩ => h1 ⟨by simp [a], by
      have := List.length_pos_iff.2 b
      simp; omega⟩
    simp only
    rw [if_neg hn]
    exact parseM_val _ 0 (by omega)
theorem num_zero {s : Str} (h1 : s.head? = some 48 ∧ 1 < s.length) : numW s = none := by
  cases s with
  | nil => rfl
  | cons c r =>
    obtain ⟨h, hl⟩ := h1
    simp only [List.head?_cons, Option.some.injEq] at h
    unfold numW
    simp only
    rw [if_pos ⟨h, by rintro rfl; simp at hl⟩]
theorem num_plus {s : Str} (h1 : s.head? = some 43) : numW s = none := by
  cases s with
  | nil => rfl
  | cons c r =>
    simp only [List.head?_cons, Option.some.injEq] at h1
    subst h1
    unfold numW
    simp only
    rw [if_neg (fun h => absurd h.1 (by decide))]
    rfl
end Go.Proofs.YtgfijlamhjjecaaGreatDoor


/-
  WrapV: the package-level variables that numbers are read and told by; contract of ParseUint at base 10. No condition beyond those stated.
-/
namespace Go.Proofs.YtgfijlamhjjecaaGreatDoor
open Go.RowKit
/-- the variables read as their initialisers lay them -/
structure VarsOk (w : World) : Prop where
  tab : Lib.TabIs Tryz.prog w "internal/strconv.uint64pow10" .u64 Lib.pow10Tab
  syn : ∃ te pe, w.cell? ⟨2, 0, none⟩ = some (.iface te pe)
  rng : ∃ te pe, w.cell? ⟨3, 0, none⟩ = some (.iface te pe)
theorem VarsOk.on {w w' : World} {B : Nat} (h : VarsOk w) (hb : Below B w w') (hB : w.heap.size ≤ B) : VarsOk w' := by
  obtain ⟨h1, ⟨a, b, h2⟩, ⟨c, d, h3⟩⟩ := h
  exact ⟨Lib.tabBelow_of_tabIs h1 w' (hb.mono hB), ⟨a, b, (hb.cell (Nat.lt_of_lt_of_le (cell_lt' h2) hB)).trans h2⟩, ⟨c, d, (hb.cell (Nat.lt_of_lt_of_le (cell_lt' h3) hB)).trans h3⟩⟩
def PuQ (s : Str) (u : Nat) (ev : Value) : Prop := (numEnd (Lib.parseUintB 64 s) = some u ∧ ev = .nilIface) ∨ (numEnd (Lib.parseUintB 64 s) = none ∧ ∃ te pe, ev = .iface te pe)
theorem pu_any (s : ByteArray) (hl : s.size ≤ 1048576) (w : World) (hv : VarsOk w) : Calls Tryz.prog 146 #[.string s, .int .i64 10, .int .i64 64] w fun e w' => ∃ (u : Nat) (ev : Value), e = .returned (.tuple #[.int .u64 (u : Int), ev]) ∧ PuQ s.data.toList u ev ∧ Below w.heap.size w w' := by
  by_cases h1 : ∃ u, Lib.parseUintB 64 s.data.toList = .ok u
  · obtain ⟨u, h⟩ := h1
    refine (Tryz.strconv_ParseUint_10_at64_ok s (by omega) u h w).mono ?_
    rintro e w' ⟨rfl, hw⟩
    refine ⟨u, _, rfl, .inl ⟨by rw [h]; rfl, rfl⟩, ?_⟩
    rcases hw with rfl | rfl
    · exact Below.refl _ _
    · exact Lib.bytesWorld_below _ _ _
  by_cases h2 : Lib.parseUintB 64 s.data.toList = .range
  · obtain ⟨te, pe, hc⟩ := hv.rng
    refine (Tryz.strconv_ParseUint_10_at64_range s (by omega) h2 _ w hc (.inr ⟨te, pe, rfl⟩)).mono ?_
    rintro e w' ⟨N, rfl, _, _, hb⟩
    exact ⟨18446744073709551615, _, rfl, .inr ⟨by rw [h2]; rfl, _, _, rfl⟩, hb⟩
  · have hn : numEnd (Lib.parseUintB 64 s.data.toList) = none := by
      cases hx : Lib.parseUintB 64 s.data.toList <;> first | rfl | exact absurd ⟨_, hx⟩ h1
    obtain ⟨te, pe, hc⟩ := hv.syn
    refine (Tryz.strconv_ParseUint_10_at64_syntax s (by omega) ⟨fun u e => h1 ⟨u, e⟩, h2⟩ _ w hc (.inr ⟨te, pe, rfl⟩)).mono ?_
    rintro e w' ⟨N, rfl, _, _, hb⟩
    exact ⟨0, _, rfl, .inr ⟨hn, _, _, rfl⟩, hb⟩
end Go.Proofs.YtgfijlamhjjecaaGreatDoor


/-
  WrapD: contract of the reference's Decimal. No condition beyond those stated.
-/
namespace Go.Proofs.YtgfijlamhjjecaaGreatDoor
open Go.RowKit
/-- a digit's byte -/
def digC (d : Nat) : UInt8 := UInt8.ofNat (48 + d)
end Go.Proofs.YtgfijlamhjjecaaGreatDoor


/-
  NumP: numbers of tickets, plain words and laws. No condition.
-/
namespace Go.Proofs.YtgfijlamhjjecaaGreatDoor
/-- the last w digits of a number -/
def padN : Nat → Nat → Str
  | 0, _ => []
  | w + 1, n => padN w (n / 10) ++ [digC (n % 10)]
/-- what digits spell, behind what others have spelt -/
def valF : Nat → Str → Nat
  | v, [] => v
  | v, c :: r => valF (v * 10 + (c.toNat - 48)) r
def valN (s : Str) : Nat := valF 0 s
theorem valF_append (a b : Str) : ∀ v : Nat, valF v (a ++ b) = valF (valF v a) b := by
  induction a with
  | nil => intro v; rfl
  | cons c a ih => intro v; exact ih _
theorem digC_nat {d : Nat} (h : d < 10) : (digC d).toNat = 48 + d := by unfold digC; exact (digB_of h).2
theorem digC_B {d : Nat} (h : d < 10) : digB (digC d) = true := by unfold digC; exact (digB_of h).1
theorem padN_len (w : Nat) : ∀ (n : Nat), (padN w n).length = w := by
  induction w with
  | zero => intro n; rfl
  | succ w ih =>
    intro n
    show (padN w (n / 10) ++ [digC (n % 10)]).length = _
    rw [List.length_append, ih]; rfl
theorem padN_digs (w : Nat) : ∀ (n : Nat), ∀ c ∈ padN w n, digB c = true := by
  induction w with
  | zero => intro n c h; simp [padN] at h
  | succ w ih =>
    intro n c h
    have h' : c ∈ padN w (n / 10) ++ [digC (n % 10)] := h
    rcases List.mem_append.1 h' with h | h
    · exact ih _ c h
    · rw [List.mem_singleton.1 h]; exact digC_B (Nat.mod_lt _ (by omega))
theorem valF_padN (w : Nat) : ∀ (n v : Nat), valF v (padN w n) = v * 10 ^ w + n % 10 ^ w := by
  induction w with
  | zero => intro n v; rw [Nat.pow_zero, Nat.mul_one, Nat.mod_one]; rfl
  | succ w ih =>
    intro n v
    show valF v (padN w (n / 10) ++ [digC (n % 10)]) = _
    rw [valF_append, ih]
    show (v * 10 ^ w + n / 10 % 10 ^ w) * 10 + ((digC (n % 10)).toNat - 48) = _
    rw [digC_nat (Nat.mod_lt _ (by omega))]
    have h2 : n % (10 * 10 ^ w) = n % 10 + 10 * (n / 10 % 10 ^ w) := Nat.mod_mul
    rw [Nat.pow_succ, Nat.mul_comm (10 ^ w) 10, h2]
    have h3 : v * (10 * 10 ^ w) = v * 10 ^ w * 10 := by rw [Nat.mul_comm 10, Nat.mul_assoc]
    omega
theorem padN_front (w : Nat) : ∀ (n : Nat), padN (w + 1) n = digC (n / 10 ^ w % 10) :: padN w n := by
  induction w with
  | zero => intro n; rw [Nat.pow_zero, Nat.div_one]; rfl
  | succ w ih =>
    intro n
    show padN (w + 1) (n / 10) ++ [digC (n % 10)] = _
    rw [ih (n / 10)]
    simp only [List.cons_append]
    rw [Nat.div_div_eq_div_mul, show 10 * 10 ^ w = 10 ^ (w + 1) by rw [Nat.pow_succ, Nat.mul_comm]]
    rfl
theorem padN_zero (w : Nat) : padN w 0 = List.replicate w 48 := by
  induction w with
  | zero => rfl
  | succ w ih =>
    rw [padN_front, ih, Nat.zero_div]
    rfl
/-- a number that fits: noughts ahead of its digits -/
theorem padN_dec : ∀ (w n : Nat), n < 10 ^ (w + 1) → padN (w + 1) n = List.replicate (w + 1 - (decT n).length) 48 ++ decT n := fun w => by
  induction w with
  | zero =>
    intro n h
    have h' : n < 10 := by simpa using h
    rw [dec_small h']
    simp [padN, digC, Nat.mod_eq_of_lt h']
  | succ w ih =>
    intro n h
    by_cases hn : n < 10
    · rw [dec_small hn]
      show padN (w + 1) (n / 10) ++ [digC (n % 10)] = _
      rw [Nat.div_eq_of_lt hn, padN_zero, Nat.mod_eq_of_lt hn]
      rfl
    · show padN (w + 1) (n / 10) ++ [digC (n % 10)] = _
      rw [ih (n / 10) (by rw [Nat.pow_succ] at h; omega), dec_step hn, List.append_assoc]
      simp only [List.length_append, List.length_singleton]
      rw [show w + 1 + 1 - ((decT (n / 10)).length + 1) = w + 1 - (decT (n / 10)).length by omega]
      rfl
/-! ### tickets -/
def mayT (c s : Nat) : Bool := decide (c < 8) && decide (0 < s) && decide (s ≤ 9999999999)
def body7 (c s : Nat) : Str := padN 3 c ++ padN 10 s
def text7 (c s : Nat) : Str × Int := if mayT c s then (body7 c s ++ [digC ((c * 10000000000 + s) % 7)], 0) else ([], 1)
def parse7 (t : Str) : (Nat × Nat) × Int :=
  if t.length ≠ 14 ∨ ¬ t.all digB then ((0, 0), 90) else
  if valN t / 10 % 7 ≠ valN t % 10 then ((0, 0), 70) else
  if mayT (valN t / 100000000000) (valN t / 10 % 10000000000) then ((valN t / 100000000000, valN t / 10 % 10000000000), 0) else ((0, 0), 1)
theorem mayT_iff {c s : Nat} : mayT c s = true ↔ c < 8 ∧ 0 < s ∧ s ≤ 9999999999 := by unfold mayT; simp [and_assoc]
theorem body7_val {c s : Nat} (h : mayT c s = true) : valN (body7 c s) = c * 10000000000 + s := by
  obtain ⟨h1, h2, h3⟩ := mayT_iff.1 h
  unfold valN body7
  rw [valF_append, valF_padN, valF_padN, Nat.mod_eq_of_lt (show c < 10 ^ 3 by omega), Nat.mod_eq_of_lt (show s < 10 ^ 10 by omega)]
  omega
theorem body7_len (c s : Nat) : (body7 c s).length = 13 := by unfold body7; rw [List.length_append, padN_len, padN_len]
theorem body7_digs (c s : Nat) : ∀ d ∈ body7 c s, digB d = true := fun d hd => by
  unfold body7 at hd
  rcases List.mem_append.1 hd with h | h
  · exact padN_digs _ _ d h
  · exact padN_digs _ _ d h
theorem valN_snoc (s : Str) (c : UInt8) : valN (s ++ [c]) = valN s * 10 + (c.toNat - 48) := by
  unfold valN
  rw [valF_append]
  rfl
/-- what is told is read as it was -/
theorem parse_text7 {c s : Nat} (h : mayT c s = true) : parse7 (body7 c s ++ [digC ((c * 10000000000 + s) % 7)]) = ((c, s), 0) := by
  have hv : valN (body7 c s ++ [digC ((c * 10000000000 + s) % 7)]) = (c * 10000000000 + s) * 10 + (c * 10000000000 + s) % 7 := by
    rw [valN_snoc, body7_val h, digC_nat (by omega), Nat.add_sub_cancel_left]
  obtain ⟨h1, h2, h3⟩ := mayT_iff.1 h
  obtain ⟨X, hX⟩ : ∃ X, c * 10000000000 + s = X := ⟨_, rfl⟩
  have e0 : (X * 10 + X % 7) / 10 = X := by omega
  have e1 : (X * 10 + X % 7) % 10 = X % 7 := by omega
  have e2 : (X * 10 + X % 7) / 100000000000 = c := by
    rw [show (100000000000 : Nat) = 10 * 10000000000 from rfl, ← Nat.div_div_eq_div_mul, e0]; omega
  have e3 : X % 10000000000 = s := by omega
  unfold parse7
  rw [if_neg, hv, hX, e0, e1, if_neg (by simp), e2, e3, if_pos h]
  · rw [not_or]
    refine ⟨by rw [List.length_append, body7_len]; simp, ?_⟩
    simp only [Classical.not_not, List.all_eq_true]
    intro d hd
    rcases List.mem_append.1 hd with hd | hd
    · exact body7_digs c s d hd
    · rw [List.mem_singleton.1 hd]; exact digC_B (by omega)
theorem digC_of {c : UInt8} (h : digB c = true) : digC (c.toNat - 48) = c ∧ c.toNat - 48 < 10 ∧ 48 ≤ c.toNat := by
  unfold digB at h
  rw [Bool.and_eq_true, decide_eq_true_eq, decide_eq_true_eq] at h
  refine ⟨?_, by omega, h.1⟩
  unfold digC
  rw [show 48 + (c.toNat - 48) = c.toNat by omega]
  exact UInt8.ofNat_toNat
end Go.Proofs.YtgfijlamhjjecaaGreatDoor


/-
  MsgP: whole numbers as messages tell and read them: plain words and laws. No condition.
-/
namespace Go.Proofs.YtgfijlamhjjecaaGreatDoor
/-- a whole number's text -/
def sgnT (v : Int) : Str := if v < 0 then 45 :: decT v.natAbs else decT v.natAbs
/-- what a text spells; none: it is no whole number -/
def intW : Str → Option Int
  | [] => none
  | c :: r => if c = 45 then (match numW r with
      | some v => if v = 0 then none else some (-(v : Int))
      | none => none)
    else (match numW (c :: r) with
      | some v => some (v : Int)
      | none => none)
theorem intW_minus (r : Str) : intW (45 :: r) = (match numW r with
      | some v => if v = 0 then none else some (-(v : Int))
      | none => none) := by
  unfold intW
  simp
theorem intW_plain {c : UInt8} (r : Str) (hc : c ≠ 45) : intW (c :: r) = (match numW (c :: r) with
      | some v => some (v : Int)
      | none => none) := by
  unfold intW
  simp [hc]
/-- a whole number between bounds -/
def wholeE (s : Str) (lo hi : Int) : Option Int := match intW s with
  | some v => if lo ≤ v ∧ v ≤ hi then some v else none
  | none => none
theorem dec_ne45 (v : Nat) : ∃ c r, decT v = c :: r ∧ c ≠ 45 := by
  cases hd : decT v with
  | nil => exact absurd hd (dec_ne v)
  | cons c r =>
    refine ⟨c, r, rfl, ?_⟩
    rintro rfl
    have h := dec_digs v 45 (by rw [hd]; simp)
    exact absurd h (by decide)
theorem intW_sgn {v : Int} (h : v.natAbs < 18446744073709551616) : intW (sgnT v) = some v := by
  unfold sgnT
  by_cases hv : v < 0
  · rw [if_pos hv]
    rw [intW_minus, num_dec h]
    simp only
    rw [if_neg (by omega)]
    congr 1; omega
  · rw [if_neg hv]
    obtain ⟨c, r, hd, hc⟩ := dec_ne45 v.natAbs
    rw [hd]
    rw [intW_plain r hc, ← hd, num_dec h]
    simp only [Option.some.injEq]
    omega
theorem intW_inj {s : Str} {v : Int} (h : intW s = some v) : s = sgnT v ∧ v.natAbs < 18446744073709551616 := by
  cases s with
  | nil => cases h
  | cons c r =>
    by_cases hc : c = 45
    · subst hc
      rw [intW_minus] at h
      cases hn : numW r with
      | none => rw [hn] at h; cases h
      | some u =>
        rw [hn] at h
        simp only at h
        by_cases h0 : u = 0
        · rw [if_pos h0] at h; cases h
        · rw [if_neg h0] at h
          cases h
          have hu := num_lt hn
          unfold sgnT
          rw [if_pos (by omega), num_inj hn, show (-(u : Int)).natAbs = u by omega]
          exact ⟨rfl, hu⟩
    · rw [intW_plain r hc] at h
      cases hn : numW (c :: r) with
      | none => rw [hn] at h; cases h
      | some u =>
        rw [hn] at h
        simp only [Option.some.injEq] at h
        subst h
        unfold sgnT
        rw [if_neg (by omega), num_inj hn, show ((u : Int)).natAbs = u by omega]
        exact ⟨rfl, num_lt hn⟩
theorem whole_iff {s : Str} {lo hi v : Int} (h1 : -9223372036854775808 ≤ lo) (h2 : hi ≤ 9223372036854775807) : wholeE s lo hi = some v ↔ s = sgnT v ∧ lo ≤ v ∧ v ≤ hi := by
  unfold wholeE
  constructor
  · intro h
    cases hi' : intW s with
    | none => rw [hi'] at h; cases h
    | some u =>
      rw [hi'] at h
      simp only at h
      split at h
      · rename_i hb
        cases h
        exact ⟨(intW_inj hi').1, hb⟩
      · cases h
  · rintro ⟨rfl, h3, h4⟩
    rw [intW_sgn (by omega)]
    simp only
    rw [if_pos ⟨h3, h4⟩]
/-- as the program reads them: what ParseInt says, no sign +, no nought ahead -/
def wholePI (s : Str) (lo hi : Int) : Option Int := match Lib.parseIntB 64 s with
  | .ok v => if s.head? = some 43 ∨ ((if s.head? = some 45 then s.tail else s).head? = some 48 ∧ s ≠ [48]) ∨ v < lo ∨ hi < v then none else some v
  | _ => none
def okI : Lib.NumEnd Int → Option Int
  | .ok v => some v
  | _ => none
theorem numEnd_signless (x : Lib.NumEnd Nat) : okI (Lib.signlessC 9223372036854775808 x) = (match numEnd x with | some u => if 9223372036854775808 ≤ u then none else some (u : Int) | none => none) := by
  cases x with
  | ok u =>
    simp only [Lib.signlessC, numEnd]
    by_cases h : 9223372036854775808 ≤ u
    · rw [if_pos h, if_pos h]; rfl
    · rw [if_neg h, if_neg h]; rfl
  | _ => rfl
theorem numEnd_signed (x : Lib.NumEnd Nat) : okI (Lib.signedC 9223372036854775808 x) = (match numEnd x with | some u => if 9223372036854775808 < u then none else some (-(u : Int)) | none => none) := by
  cases x with
  | ok u =>
    simp only [Lib.signedC, numEnd]
    by_cases h : 9223372036854775808 < u
    · rw [if_pos h, if_pos h]; rfl
    · rw [if_neg h, if_neg h]; rfl
  | _ => rfl
theorem wholePI_eq (s : Str) (lo hi : Int) : wholePI s lo hi = (match okI (Lib.parseIntB 64 s) with
    | some v => if s.head? = some 43 ∨ ((if s.head? = some 45 then s.tail else s).head? = some 48 ∧ s ≠ [48]) ∨ v < lo ∨ hi < v then none else some v
    | none => none) := by
  unfold wholePI
  cases Lib.parseIntB 64 s <;> rfl
theorem num_48 {r : Str} {u : Nat} (hn : numW (48 :: r) = some u) : u = 0 ∧ r = [] := by
  unfold numW at hn
  simp only at hn
  split at hn
  · cases hn
  · rename_i h
    have hr : r = [] := Classical.byContradiction fun h0 => h ⟨trivial, h0⟩
    subst hr
    have e : valW 0 [48] = some 0 := rfl
    rw [e] at hn
    cases hn
    exact ⟨rfl, rfl⟩
theorem whole_pi {s : Str} {lo hi : Int} (h1 : -9223372036854775808 ≤ lo) (h2 : hi ≤ 9223372036854775807) : wholePI s lo hi = wholeE s lo hi := by
  rw [wholePI_eq]
  unfold wholeE
  cases s with
  | nil => rfl
  | cons c r =>
    by_cases hc : c = 45
    · subst hc
      rw [Lib.parseIntB_minus, intW_minus]
      show (match okI (Lib.signedC 9223372036854775808 (Lib.parseUintB 64 r)) with
        | some v => if some (45 : UInt8) = some 43 ∨ ((if some (45 : UInt8) = some 45 then r else 45 :: r).head? = some 48 ∧ (45 :: r) ≠ [48]) ∨ v < lo ∨ hi < v then none else some v
        | none => none) = _
      rw [numEnd_signed, if_pos rfl]
      cases r with
      | nil => rfl
      | cons d r =>
        by_cases hd : d = 48
        · subst hd
          have hL : (match numW (48 :: r) with | some v => if v = 0 then none else some (-(v : Int)) | none => none) = (none : Option Int) := by
            cases hn : numW (48 :: r) with
            | none => rfl
            | some u => obtain ⟨rfl, _⟩ := num_48 hn; rfl
          rw [hL]
          simp only
          split
          · rename_i v _
            rw [if_pos (by simp)]
          · rfl
        · rw [num_pu (by simp) (by rintro ⟨h, _⟩; simp at h; exact hd h)]
          cases hn : numW (d :: r) with
          | none => rfl
          | some u =>
            have hu : u ≠ 0 := by
              rintro rfl
              have h3 := num_inj hn
              rw [dec_small (by omega)] at h3
              injection h3 with h4 _
              exact hd h4
            simp only
            rw [if_neg hu]
            simp only
            by_cases hb : 9223372036854775808 < u
            · rw [if_pos hb, if_neg (by omega)]
            · rw [if_neg hb]
              simp only
              by_cases hr : lo ≤ -(u : Int) ∧ -(u : Int) ≤ hi
              · rw [if_pos hr, if_neg]
                rintro (h | ⟨h, _⟩ | h | h)
                · simp at h
                · simp at h; exact hd h
                · omega
                · omega
              · rw [if_neg hr, if_pos]
                by_cases h : -(u : Int) < lo
                · exact .inr (.inr (.inl h))
                · exact .inr (.inr (.inr (by omega)))
    · rw [intW_plain r hc]
      by_cases hp : c = 43
      · subst hp
        have hn : numW (43 :: r) = none := num_plus (s := 43 :: r) rfl
        rw [hn]
        simp only
        split
        · rw [if_pos (.inl rfl)]
        · rfl
      · have e1 : c.toNat ≠ 43 := fun e => hp (UInt8.toNat_inj.1 e)
        have e2 : c.toNat ≠ 45 := fun e => hc (UInt8.toNat_inj.1 e)
        rw [Lib.parseIntB_plain _ _ _ e1 e2]
        show (match okI (Lib.signlessC 9223372036854775808 (Lib.parseUintB 64 (c :: r))) with
          | some v => if some c = some 43 ∨ ((if some c = some 45 then r else c :: r).head? = some 48 ∧ (c :: r) ≠ [48]) ∨ v < lo ∨ hi < v then none else some v
          | none => none) = _
        rw [numEnd_signless, if_neg (by simpa using hc)]
        by_cases hz : c = 48 ∧ r ≠ []
        · obtain ⟨rfl, hr⟩ := hz
          have hn : numW (48 :: r) = none := num_zero (s := 48 :: r) ⟨rfl, by
            have := List.length_pos_iff.2 hr
            simp; omega⟩
          rw [hn]
          simp only
          split
          · rw [if_pos (by simp [hr])]
          · rfl
        · rw [num_pu (by simp) (by
            rintro ⟨h, hl⟩
            simp at h
            exact hz ⟨h, by rintro rfl; simp at hl⟩)]
          cases hn : numW (c :: r) with
          | none => rfl
          | some u =>
            simp only
            by_cases hb : 9223372036854775808 ≤ u
            · rw [if_pos hb, if_neg (by omega)]
            · rw [if_neg hb]
              simp only
              by_cases hr : lo ≤ (u : Int) ∧ (u : Int) ≤ hi
              · rw [if_pos hr, if_neg]
                rintro (h | ⟨h, h'⟩ | h | h)
                · simp at h; exact hp h
                · simp at h
                  subst h
                  obtain ⟨_, hr'⟩ := num_48 hn
                  exact h' (by rw [hr'])
                · omega
                · omega
              · rw [if_neg hr, if_pos]
                by_cases h : (u : Int) < lo
                · exact .inr (.inr (.inl h))
                · exact .inr (.inr (.inr (by omega)))
end Go.Proofs.YtgfijlamhjjecaaGreatDoor


/-
  MsgM: messages and packets, told and read: plain words and laws. No condition.
-/
namespace Go.Proofs.YtgfijlamhjjecaaGreatDoor
structure CD where
  car : Nat
  fl : Nat
  we : Nat
  va : Int
  st : Nat
  no : Nat
structure MD where
  kind : Nat
  tc : Nat
  ts : Nat
  pl : Nat
  c : CD
  am : Int
  co : Int
structure PD where
  fr : Nat
  dst : Nat
  ack : Bool
  num : Nat
  m : MD
def cd0 : CD := ⟨0, 0, 0, 0, 0, 0⟩
def md0 : MD := ⟨0, 0, 0, 0, cd0, 0, 0⟩
def pd0 : PD := ⟨0, 0, false, 0, md0⟩
/-- what fields a kind's messages have: coupon, amount, code -/
def hasK (k : Nat) : Option (Bool × Bool × Bool) :=
  if k = 1 ∨ k = 4 then some (false, false, false) else if k = 2 ∨ k = 5 then some (true, false, false) else if k = 3 then some (false, false, true)
  else if k = 6 ∨ k = 7 then some (false, true, false) else if k = 8 then some (false, true, true) else none
abbrev M50 : Int := 1125899906842624
/-- bounds of a part's fields -/
def cpnB : List (Int × Int) := [(0, 7), (0, 65535), (0, 4294967295), (-M50, M50), (1, 7), (0, 4294967295)]
def amtB : List (Int × Int) := [(-M50, M50)]
def codB : List (Int × Int) := [(0, 999)]
def tMSG : Str := [77, 83, 71]
def tKEY : Str := [75, 69, 89]
def tACK : Str := [65, 67, 75]
def tCPN : Str := [67, 80, 78]
def tAMT : Str := [65, 77, 84]
def tCOD : Str := [67, 79, 68]
def partsB (h : Bool × Bool × Bool) : List (Str × List (Int × Int)) :=
  (if h.1 then [(tCPN, cpnB)] else []) ++ (if h.2.1 then [(tAMT, amtB)] else []) ++ (if h.2.2 then [(tCOD, codB)] else [])
def valsB (h : Bool × Bool × Bool) (m : MD) : List (List Int) :=
  (if h.1 then [[(m.c.car : Int), m.c.fl, m.c.we, m.c.va, m.c.st, m.c.no]] else []) ++ (if h.2.1 then [[m.am]] else []) ++ (if h.2.2 then [[m.co]] else [])
/-- a segment of words -/
def wordSeg (t : Str) (l : List Str) : Seg := ⟨t, l.map fun w => [w]⟩
def partSeg (t : Str) (l : List Int) : Seg := wordSeg t (l.map sgnT)
/-- all within their bounds, as many as there are bounds -/
def inB : List (Int × Int) → List Int → Bool
  | [], [] => true
  | b :: bs, v :: vs => decide (b.1 ≤ v) && decide (v ≤ b.2) && inB bs vs
  | _, _ => false
def inBB : List (Str × List (Int × Int)) → List (List Int) → Bool
  | [], [] => true
  | p :: ps, v :: vs => inB p.2 v && inBB ps vs
  | _, _ => false
def c0B (c : CD) : Bool := decide (c.car = 0) && decide (c.fl = 0) && decide (c.we = 0) && decide (c.va = 0) && decide (c.st = 0) && decide (c.no = 0)
def m0B (m : MD) : Bool := decide (m.kind = 0) && decide (m.tc = 0) && decide (m.ts = 0) && decide (m.pl = 0) && c0B m.c && decide (m.am = 0) && decide (m.co = 0)
/-- may a message of fields h be told? -/
def mayM (h : Bool × Bool × Bool) (m : MD) : Bool :=
  decide (m.pl < 4) && inBB (partsB h) (valsB h m) && (h.1 || c0B m.c) && (h.2.1 || decide (m.am = 0)) && (h.2.2 || decide (m.co = 0))
def msgSegs (h : Bool × Bool × Bool) (m : MD) (t : Str) : List Seg :=
  partSeg tMSG [(m.kind : Int)] :: wordSeg tKEY [t, sgnT (m.pl : Int)] :: ((partsB h).zip (valsB h m)).map fun p => partSeg p.1.1 p.2
/-- telling -/
def wrapM (p : PD) : WD × Int :=
  if 8 ≤ p.fr ∨ 8 ≤ p.dst then (wd0, 1) else
  if p.ack then (if m0B p.m then (⟨p.fr, p.dst, p.num, [wordSeg tACK []]⟩, 0) else (wd0, 101)) else
  match hasK p.m.kind with
  | none => (wd0, 100)
  | some h =>
    if (text7 p.m.tc p.m.ts).2 ≠ 0 then (wd0, (text7 p.m.tc p.m.ts).2) else
    if mayM h p.m then (⟨p.fr, p.dst, p.num, msgSegs h p.m (text7 p.m.tc p.m.ts).1⟩, 0) else (wd0, 101)
/-! ### reading -/
def oneW : List Str → Option Str
  | [s] => some s
  | _ => none
def wordsL : List (List Str) → Option (List Str)
  | [] => some []
  | e :: es => match oneW e, wordsL es with
    | some v, some l => some (v :: l)
    | _, _ => none
/-- the words of a segment of a tag -/
def wordsS (s : Seg) (t : Str) (n : Nat) : Option (List Str) := if s.tag = t ∧ s.elems.length = n then wordsL s.elems else none
def wholeL : List (Int × Int) → List Str → Option (List Int)
  | [], [] => some []
  | b :: bs, s :: ss => match wholeE s b.1 b.2, wholeL bs ss with
    | some v, some l => some (v :: l)
    | _, _ => none
  | _, _ => none
def partR (p : Str × List (Int × Int)) (s : Seg) : Option (List Int) := match wordsS s p.1 p.2.length with
  | some l => wholeL p.2 l
  | none => none
def partsR : List (Str × List (Int × Int)) → List Seg → Option (List (List Int))
  | [], [] => some []
  | p :: ps, s :: ss => match partR p s, partsR ps ss with
    | some v, some l => some (v :: l)
    | _, _ => none
  | _, _ => none
def cdOf : List Int → CD
  | [a, b, c, d, e, f] => ⟨a.toNat, b.toNat, c.toNat, d, e.toNat, f.toNat⟩
  | _ => cd0
def mdOf (h : Bool × Bool × Bool) (k c s a : Nat) (vs : List (List Int)) : MD :=
  match h, vs with
  | (false, false, false), _ => ⟨k, c, s, a, cd0, 0, 0⟩
  | (true, false, false), [v] => ⟨k, c, s, a, cdOf v, 0, 0⟩
  | (false, true, false), [[v]] => ⟨k, c, s, a, cd0, v, 0⟩
  | (false, false, true), [[v]] => ⟨k, c, s, a, cd0, 0, v⟩
  | (false, true, true), [[v], [u]] => ⟨k, c, s, a, cd0, v, u⟩
  | _, _ => md0
def ackS (s : Seg) : Bool := decide (s.tag = tACK) && s.elems.isEmpty
def packetM (x : WD) : PD × Int :=
  if 8 ≤ x.fr ∨ 8 ≤ x.dst then (pd0, 1) else
  match x.segs with
  | [] => (pd0, 100)
  | s :: r =>
    if ackS s then (if r = [] then (⟨x.fr, x.dst, true, x.rf, md0⟩, 0) else (pd0, 101)) else
    match (wordsS s tMSG 1).bind fun l => wholeL [(0, 255)] l with
    | some [k] =>
      (match hasK k.toNat with
      | none => (pd0, 100)
      | some h => match r with
        | [] => (pd0, 101)
        | y :: r => match wordsS y tKEY 2 with
          | some [t, u] =>
            if (parse7 t).2 ≠ 0 then (pd0, (parse7 t).2) else
            (match wholeE u 0 3, partsR (partsB h) r with
            | some a, some vs => (⟨x.fr, x.dst, false, x.rf, mdOf h k.toNat (parse7 t).1.1 (parse7 t).1.2 a.toNat vs⟩, 0)
            | _, _ => (pd0, 101))
          | _ => (pd0, 101))
    | _ => (pd0, 100)
end Go.Proofs.YtgfijlamhjjecaaGreatDoor

