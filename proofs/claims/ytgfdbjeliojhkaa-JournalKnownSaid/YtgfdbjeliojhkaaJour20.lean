/-
  Jour20: JournalRoom, its walk. No condition beyond those stated.
-/
import Derived.Test.YtgfdbjeliojhkaaJour19
import Derived.Test.YtgfdbjeliojhkaaTrod2
namespace Go.Proofs.Ytgfdbjeliojhkaa
open Go.RowKit
theorem add_full_held {jb db lb mb : Nat} {D : DK} {rs : List (List UInt8)} (ao : Option Addr) (m c : Nat) (w : World) (hj : JAt w jb db rs.length (encAll rs) false) (h : DH w db lb mb D rs) (hm : m ≤ 65536)
    (hf : ¬ (encAll rs).length + 4 + m ≤ (D.n - 2) * 64) :
    Calls Try.prog 28 #[.pointer (some ⟨jb, 0, none⟩), .slice ao m c] w fun e w' => e = .returned (.int .i64 3) ∧ Fr [] w w' := by
  have n4 := h.c.n4
  exact jadd_full ao m c w hj h.k h.len hm (by omega)
theorem waiting_held {db lb mb : Nat} {D : DK} {rs : List (List UInt8)} (w : World) (h : DH w db lb mb D rs) (hM : D.M = fun _ => none) : Calls Try.prog 15 #[.pointer (some ⟨db, 0, none⟩)] w fun e w' => e = .returned (.int .i64 0) ∧ w = w' :=
  (waiting_some w h.k).mono fun e w' ⟨a, b⟩ => by rw [hM, cntM_none] at a; exact ⟨a, b⟩
/-- records that are wanted: a row of slices that came in -/
def WantV (B : Nat) (W w : World) (wv : Value) (rs : List (List UInt8)) : Prop :=
  ∃ vals : List Value, w.ownsRow B 31 1 wv rs.length vals ∧ ∀ (i : Nat) (r : List UInt8), rs[i]? = some r → ∃ u, vals[i]? = some u ∧ BytesAt W u r.length (lsec r)
theorem WantV.nil (B : Nat) (W w : World) : WantV B W w (.slice none 0 0) [] := by
  refine ⟨[], World.ownsRow_nil _ _ _ _, fun i r h => ?_⟩
  simp at h
theorem WantV.at {B : Nat} {W w : World} {wv : Value} {rs : List (List UInt8)} (h : WantV B W w wv rs) (hf : Fr [] W w) : BytessAt w wv rs := by
  obtain ⟨vals, ⟨hl, ⟨rfl, h0⟩ | ⟨g, cap, cur, rfl, hg, hh, hc, hm, hs, hx⟩⟩, h2⟩ := h
  · have : rs = [] := List.length_eq_zero_iff.1 h0
    subst this
    exact ⟨none, 0, rfl, Nat.le_refl _, Nat.zero_le _, fun h => absurd rfl h⟩
  · refine ⟨some ⟨g, 0, none⟩, cap, rfl, hc, hm, fun _ => ⟨g, 0, rfl, fun i r hi => ?_⟩⟩
    obtain ⟨u, h3, h4⟩ := h2 i r hi
    have hlt : i < rs.length := (List.getElem?_eq_some_iff.1 hi).1
    refine ⟨u, ?_, h4.fr hf (by simp)⟩
    rw [cell_of_row w g (0 + i) _ _ _ hh, Nat.zero_add]
    have e := congrArg (fun l => l[i]?) hx
    simp only [Nat.mul_one, List.getElem?_take_of_lt hlt, h3] at e
    simpa using e
theorem WantV.fr {B : Nat} {W w w' : World} {wv : Value} {rs : List (List UInt8)} {F : List Nat} (h : WantV B W w wv rs) (hf : Fr F w w') (hF : ∀ k ∈ F, ∀ C, w.heap[k]? ≠ some (.cells C 31 (0, 0))) : WantV B W w' wv rs := by
  obtain ⟨vals, h1, h2⟩ := h
  refine ⟨vals, ownsRow_cong h1 (fun k hk => hf.block k (h1.lt k hk).2 (fun hm => ?_)), h2⟩
  obtain ⟨_, ⟨rfl, _⟩ | ⟨g, cap, cur, rfl, hg, hh, _⟩⟩ := h1
  · simp [Value.ownBlock] at hk
  · simp [Value.ownBlock] at hk; subst hk; exact hF _ hm _ hh
theorem grown_fr {w w' : World} {o : Obj} {ob : Option Nat} (h : (w.alloc o).grownBy w' ob) : Fr ob.toList w w' := by
  refine ⟨h.os, h.tape, h.output, ?_, fun k hk hn => ?_⟩
  · have h1 := h.size
    simp at h1
    omega
  · exact (h.block k (by simp; omega) (fun e => hn (by rw [← e]; simp))).trans (Below.heap_alloc _ _ _ hk)
theorem own_rows {w : World} {B n : Nat} {v : Value} {xs : List Value} (h : w.ownsRow B 31 1 v n xs) : ∀ k ∈ v.ownBlock.toList, B ≤ k ∧ ∃ C, w.heap[k]? = some (.cells C 31 (0, 0)) := by
  intro k hk
  have hk' : v.ownBlock = some k := by cases e : v.ownBlock with
    | none => rw [e] at hk; simp at hk
    | some q => rw [e] at hk; simp at hk; rw [hk]
  obtain ⟨_, ⟨rfl, _⟩ | ⟨g, cap, cur, rfl, hg, hh, _⟩⟩ := h
  · simp [Value.ownBlock] at hk'
  · simp [Value.ownBlock] at hk'; subst hk'; exact ⟨hg, cur, hh⟩
theorem ne_bytes {w : World} {jb db lb mb N : Nat} {d : List UInt8} {dd : Bool} {D : DK} (hj : JAt w jb db N d dd) (h : DiskAt w db lb mb D) : ∀ k ∈ [jb, db, lb, mb], ∀ C, w.heap[k]? ≠ some (.cells C 31 (0, 0)) := by
  intro k hk C e
  rcases List.mem_cons.1 hk with rfl | hk
  · obtain ⟨ao, cap, h1, _⟩ := hj.ex
    rw [h1] at e; have h2 := Option.some.inj e; injection h2 with _ h3; exact absurd h3 (by decide)
  · obtain ⟨n1, n2, n3⟩ := Add1At.ne h e (by decide) (by decide)
    simp [n1, n2, n3] at hk
set_option maxRecDepth 100000 in
set_option maxHeartbeats 4000000 in
theorem journalRoom_main (n : Nat) (v : Value) (ls : List (List UInt8)) (w : World) (h4 : 4 ≤ n) (h60 : n ≤ 60) (hv : BytessAt w v ls) (hl : ls.length ≤ 60) : Calls Try.prog 10 #[.int .i64 (n : Int), v] w fun e w' => e = .returned (.bool true) ∧ Fr [] w w' := by
  have hv' := hv
  obtain ⟨ao, cap, rfl, hb1, hb2, _⟩ := hv'
  have HV := Lib.hid hv
  unfold maxLen at hb2
  clear hv
  have g1 : ¬ (n : Int) < 4 := by omega
  have g2 : ¬ (60 : Int) < (n : Int) := by omega
  have g3 : ¬ (60 : Int) < (ls.length : Int) := by omega
  go_enter Try.func10, Try.ntmps10
  go_wp2_with fail
  refine (new_held n w h4 (by omega)).mono ?_
  rintro e w1 ⟨rfl, hd1, hf1, hs1⟩
  have HD1 := Lib.hid hd1
  have HF1 := Lib.hid hf1
  have s1 : w.heap.size + 3 ≤ w1.heap.size := by omega
  clear hd1 hf1 hs1
  go_wp2_with fail
  refine (open_held w1 HD1.out).mono ?_
  rintro e w2 ⟨jb, rfl, hj2, hjb, hf2⟩
  have HD2 := Lib.hid (HD1.out.fr0 hf2)
  have HF2 := Lib.hid (HF1.out.trans hf2)
  have HJ2 := Lib.hid hj2
  have s2 := hf2.size
  clear hj2 hf2 HD1 HF1
  go_wp2_with fail
  obtain ⟨B, hB⟩ : ∃ B, w2.heap.size = B := ⟨_, rfl⟩
  go_loopw [9, 10, 11] (fun lv wv i wr => ∃ (k : Nat) (rs : List (List UInt8)) (D : DK), k ≤ ls.length ∧ i = .int .i64 (k : Int) ∧ lv = .int .i64 (((n : Int) - 2) * 64 - ((encAll rs).length : Int)) ∧ B ≤ wr.heap.size ∧ Hid ((encAll rs).length ≤ (n - 2) * 64) ∧ Hid (DH wr (w.heap.size + 2) w.heap.size (w.heap.size + 1) D rs) ∧ Hid (D.n = n ∧ D.M = fun _ => none) ∧ Hid (JAt wr jb (w.heap.size + 2) rs.length (encAll rs) false) ∧ Hid (WantV B w wr wv rs) ∧ Hid (Fr [] w wr))
    (fun _ _ i _ => ls.length - (intOf i).toNat)
  case atStart =>
    exact ⟨0, [], DK.fresh n, Nat.zero_le _, rfl, by simp [encAll], by omega, Lib.hid (by simp [encAll]), HD2, Lib.hid ⟨rfl, rfl⟩, HJ2, Lib.hid (WantV.nil _ _ _), HF2⟩
  case round =>
    obtain ⟨k, rs, D, hk, rfl, rfl, hBw, HFIT, HD, HDN, HJ, HW, HF⟩ := hrel
    by_cases hlt : k < ls.length
    · have hltd : decide ((k : Int) < (ls.length : Int)) = true := by rw [decide_eq_true_eq]; omega
      obtain ⟨r, hr⟩ : ∃ r, ls[k]? = some r := ⟨_, List.getElem?_eq_getElem hlt⟩
      obtain ⟨b1, o1, u1, rfl, c1, y1⟩ := (HV.out.fr0 HF.out).get hr
      obtain ⟨b0, o0, u0, e0, c0, y0⟩ := HV.out.get hr
      cases e0
      have eu : u0 = u1 := by
        have h1 := (World.cell?_of_block (a := ⟨b1, o1 + k, none⟩) (HF.out.block b1 (cell_lt c0) (by simp))).trans c0
        rw [c1] at h1
        exact (Option.some.inj h1).symm
      subst eu
      have hbw : b1 < w.heap.size := cell_lt c0
      have HR := Lib.hid hr
      have HY0 := Lib.hid y0
      have HC1 := Lib.hid c1
      obtain ⟨uo, uc, rfl, hu1, hu2, _⟩ := y1
      unfold maxLen at hu2
      clear y0 hr c0
      by_cases h400 : r.length ≤ 400
      · have h400i : ¬ (400 : Int) < (r.length : Int) := by omega
        go_wp2_with fail
        refine (room_held wr HJ.out HD.out).mono ?_
        rintro e w3 ⟨rfl, hf3⟩
        rw [HDN.out.1]
        have HF3 := Lib.hid (HF.out.trans hf3)
        have HD3 := Lib.hid (HD.out.fr0 hf3)
        have HJ3 := Lib.hid (HJ.out.fr0 hf3)
        have HW3 := Lib.hid (HW.out.fr hf3 (by simp))
        have c3 : w3.cell? ⟨b1, o1 + k, none⟩ = some (.slice uo r.length uc) := (World.cell?_of_block (a := ⟨b1, o1 + k, none⟩) (hf3.block b1 (cell_lt c1) (by simp))).trans c1
        have s3 := hf3.size
        clear hf3 HD HJ HW c1
        have hfb : (encAll rs).length ≤ 3712 := by have := HFIT.out; omega
        obtain ⟨R, hR⟩ : ∃ R, roomI n (encAll rs).length = R := ⟨_, rfl⟩
        have hmx : (if 4 < ((n : Int) - 2) * 64 - ((encAll rs).length : Int) then ((n : Int) - 2) * 64 - ((encAll rs).length : Int) - 4 else 0) = R := by
          rw [← hR]; unfold roomI; split <;> omega
        rw [hR]
        clear hR
        by_cases hfit : (encAll rs).length + 4 + r.length ≤ (n - 2) * 64
        · have hle : decide (4 + (r.length : Int) ≤ ((n : Int) - 2) * 64 - ((encAll rs).length : Int)) = true := by rw [decide_eq_true_eq]; omega
          have HFI := Lib.hid hfit
          have hfi2 : 4 + (r.length : Int) ≤ ((n : Int) - 2) * 64 - ((encAll rs).length : Int) := by omega
          clear hfit
          go_wp2_with fail
          refine (add_held uo uc w3 HJ3.out HD3.out (HY0.out.fr HF3.out (by simp)) (by omega) (by rw [HDN.out.1]; exact HFI.out)).mono ?_
          rintro e w4 ⟨rfl, ⟨D4, hd4, hn4, hm4⟩, hj4, hf4, _⟩
          have HD4 := Lib.hid hd4
          have HJ4 := Lib.hid hj4
          have HN4 := Lib.hid (show D4.n = n ∧ D4.M = fun _ => none from ⟨hn4.trans HDN.out.1, hm4⟩)
          have hnb := ne_bytes HJ3.out HD3.out.k
          have c4 : w4.cell? ⟨b1, o1 + k, none⟩ = some (.slice uo r.length uc) := (World.cell?_of_block (a := ⟨b1, o1 + k, none⟩) (hf4.block b1 (cell_lt c3) (by simp; omega))).trans c3
          have HF4 := Lib.hid (HF3.out.then_new hf4 (by simp; omega))
          have HW4 := Lib.hid (HW3.out.fr hf4 hnb)
          have s4 := hf4.size
          have hrl := HD3.out.c.cnt.1
          obtain ⟨i0, hi, hz0, hz1, hz2⟩ := info_parts info_bytes
          obtain ⟨vals, hw1, hw2⟩ := HW4.out
          have HOW := Lib.hid hw1
          have HVL := Lib.hid hw2
          have HZ := Lib.hid hi
          clear hmx hd4 hn4 hm4 hj4 hf4 hnb HF3 HD3 HJ3 HW3 c3 hw1 hw2 HW4
          go_wp2_with ((with_reducible refine wpList_at (.call { callee := .builtin .append, args := #[.tmp 96, .tmp 101], argTypes := #[29, 29] }) rfl ?_); refine wpList_append_own _ rfl _ _ 29 rfl B 31 i0 (.slice none 0 0) 1 24 Try.underlying29 hi hz0 hz1 hz2 rfl (by decide) _ _ _ rfl (HOW.out.alloc _) ⟨w4.heap.size, 0, none⟩ 1 1 [.slice uo r.length uc] rfl rfl (cell_one_new _ _ _) (by simp [Value.oneCell']) (by unfold maxLen; omega) (by omega) (by simp; omega) ?_; intro wv' w5a hown' hgrow _; have HOWN := Lib.hid hown'; have HGR := Lib.hid hgrow; clear hown' hgrow)
          have hOR := own_rows HOW.out
          have fr5 := grown_fr HGR.out
          have HF5 := Lib.hid (HF4.out.then_new fr5 (fun k hk => .inr (by have := (hOR k hk).1; omega)))
          have HD5 := Lib.hid (HD4.out.fr fr5 (fun hm => by obtain ⟨_, C, h1⟩ := hOR _ hm; exact (Add1At.ne HD4.out.k h1 (by decide) (by decide)).1 rfl) (fun hm => by obtain ⟨_, C, h1⟩ := hOR _ hm; exact (Add1At.ne HD4.out.k h1 (by decide) (by decide)).2.1 rfl) (fun hm => by obtain ⟨_, C, h1⟩ := hOR _ hm; exact (Add1At.ne HD4.out.k h1 (by decide) (by decide)).2.2 rfl))
          have HJ5 := Lib.hid (HJ4.out.frT fr5 (fun hm => by
            obtain ⟨_, C, h1⟩ := hOR _ hm
            obtain ⟨ao', cap', h2, _⟩ := HJ4.out.ex
            rw [h1] at h2; have h3 := Option.some.inj h2; injection h3 with _ h4'; exact absurd h4' (by decide)) (fun q hq C e => by
            obtain ⟨_, C', h1⟩ := hOR _ hq
            rw [h1] at e; have h3 := Option.some.inj e; injection h3 with _ h4'; exact absurd h4' (by decide)))
          have HW5 : Hid (WantV B w w5a wv' (rs ++ [r])) := Lib.hid ⟨vals ++ [.slice uo r.length uc], by rw [List.length_append, List.length_singleton]; exact HOWN.out, fun i q hq => by
            rcases Nat.lt_or_ge i rs.length with h1 | h1
            · rw [List.getElem?_append_left h1] at hq
              obtain ⟨u, h2, h3⟩ := HVL.out i q hq
              exact ⟨u, by rw [List.getElem?_append_left (List.getElem?_eq_some_iff.1 h2).1]; exact h2, h3⟩
            · have hvl : vals.length = rs.length := by have := HOW.out.1; simpa using this
              rw [List.getElem?_append_right h1] at hq
              have h2 : i - rs.length = 0 := by have := (List.getElem?_eq_some_iff.1 hq).1; simp at this; omega
              rw [h2] at hq
              have h3 : q = r := by simpa using hq.symm
              subst h3
              exact ⟨_, by rw [List.getElem?_append_right (by omega), hvl, h2]; rfl, HY0.out⟩⟩
          have s5 := fr5.size
          clear hOR fr5 HF4 HD4 HJ4 HOW HVL HOWN HGR
          refine (recs_held w5a HJ5.out HD5.out.c.sm HD5.out.len).mono ?_
          rintro e w5 ⟨v5, rfl, hb5, hf5⟩
          have HB6 := Lib.hid hb5.at
          have HF6 := Lib.hid (HF5.out.trans hf5)
          have HD6 := Lib.hid (HD5.out.fr0 hf5)
          have HJ6 := Lib.hid (HJ5.out.fr0 hf5)
          have HW6 := Lib.hid (HW5.out.fr hf5 (by simp))
          have s6 := hf5.size
          clear hb5 hf5 HF5 HD5 HJ5 HW5
          go_wp2_with fail
          refine (same_any w5 HB6.out (HW6.out.at HF6.out)).mono ?_
          rintro e w6 ⟨rfl, hf6⟩
          rw [decide_eq_true rfl]
          have HF7 := Lib.hid (HF6.out.trans hf6)
          have HD7 := Lib.hid (HD6.out.fr0 hf6)
          have HJ7 := Lib.hid (HJ6.out.fr0 hf6)
          have HW7 := Lib.hid (HW6.out.fr hf6 (by simp))
          have s7 := hf6.size
          clear hf6 HF6 HD6 HJ6 HW6 HB6
          go_wp2_with fail
          refine (waiting_held w6 HD7.out HN4.out.2).mono ?_
          rintro e w7 ⟨rfl, rfl⟩
          go_wp2_with fail
          have el : (encAll (rs ++ [r])).length = (encAll rs).length + 4 + r.length := by rw [encAll_append, encAll_one, List.length_append, encR_len]; omega
          exact ⟨⟨k + 1, rs ++ [r], D4, by omega, by go_num, by rw [el]; congr 1; omega, by omega, Lib.hid (by rw [el]; exact HFI.out), HD7, HN4, HJ7, HW7, HF7⟩, by simp [intOf]; omega⟩
        · have hle : decide (4 + (r.length : Int) ≤ ((n : Int) - 2) * 64 - ((encAll rs).length : Int)) = false := by rw [decide_eq_false_iff_not]; omega
          have hfi2 : ((n : Int) - 2) * 64 - ((encAll rs).length : Int) < 4 + (r.length : Int) := by omega
          have HFI := Lib.hid hfit
          have HLE := Lib.hid hle
          have HF2' := Lib.hid hfi2
          clear hfit hle hfi2
          go_wp2_with fail
          refine (add_full_held uo r.length uc w3 HJ3.out HD3.out (by omega) (by rw [HDN.out.1]; exact HFI.out)).mono ?_
          rintro e w4 ⟨rfl, hf4⟩
          have c4 : w4.cell? ⟨b1, o1 + k, none⟩ = some (.slice uo r.length uc) := (World.cell?_of_block (a := ⟨b1, o1 + k, none⟩) (hf4.block b1 (cell_lt c3) (by simp))).trans c3
          have HF4 := Lib.hid (HF3.out.trans hf4)
          have HD4 := Lib.hid (HD3.out.fr0 hf4)
          have HJ4 := Lib.hid (HJ3.out.fr0 hf4)
          have HW4 := Lib.hid (HW3.out.fr hf4 (by simp))
          have s4 := hf4.size
          have hle := HLE.out
          have hfi2 := HF2'.out
          clear hf4 HF3 HD3 HJ3 HW3 c3 hmx HLE HF2'
          go_wp2_with fail
          refine (recs_held w4 HJ4.out HD4.out.c.sm HD4.out.len).mono ?_
          rintro e w5 ⟨v5, rfl, hb5, hf5⟩
          have HB5 := Lib.hid hb5.at
          have HF5 := Lib.hid (HF4.out.trans hf5)
          have HD5 := Lib.hid (HD4.out.fr0 hf5)
          have HJ5 := Lib.hid (HJ4.out.fr0 hf5)
          have HW5 := Lib.hid (HW4.out.fr hf5 (by simp))
          have s5 := hf5.size
          clear hb5 hf5 HF4 HD4 HJ4 HW4
          go_wp2_with fail
          refine (same_any w5 HB5.out (HW5.out.at HF5.out)).mono ?_
          rintro e w6 ⟨rfl, hf6⟩
          rw [decide_eq_true rfl]
          have HF6 := Lib.hid (HF5.out.trans hf6)
          have HD6 := Lib.hid (HD5.out.fr0 hf6)
          have HJ6 := Lib.hid (HJ5.out.fr0 hf6)
          have HW6 := Lib.hid (HW5.out.fr hf6 (by simp))
          have s6 := hf6.size
          clear hf6 HF5 HD5 HJ5 HW5 HB5
          go_wp2_with fail
          refine (waiting_held w6 HD6.out HDN.out.2).mono ?_
          rintro e w7 ⟨rfl, rfl⟩
          go_wp2_with fail
          exact ⟨⟨k + 1, rs, D, by omega, by go_num, rfl, by omega, HFIT, HD6, HDN, HJ6, HW6, HF6⟩, by simp [intOf]; omega⟩
      · have h400i : (400 : Int) < (r.length : Int) := by omega
        go_wp2_with fail
        go_ret
        exact ⟨rfl, HF.out⟩
    · have hke : k = ls.length := by omega
      subst hke
      go_wp2_with fail
      refine (keeps13_true wr).mono ?_
      rintro e w9 ⟨rfl, hf9⟩
      go_wp2_with fail
      go_ret
      exact ⟨rfl, HF.out.trans hf9⟩
end Go.Proofs.Ytgfdbjeliojhkaa
