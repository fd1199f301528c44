/-
  Jour24: JournalKeeps, its walk. No condition beyond those stated.
-/
import Derived.Test.YtgfdbjeliojhkaaJour23
import Derived.Deep.LoopGhost
import Derived.Deep.CutBlock
import Derived.Deep.CutRange
namespace Go.Proofs.Ytgfdbjeliojhkaa
open Go.RowKit
theorem WantV.form {B : Nat} {W w : World} {wv : Value} {rs : List (List UInt8)} (h : WantV B W w wv rs) : ∃ ao cap, wv = .slice ao rs.length cap ∧ rs.length ≤ cap ∧ cap ≤ maxLen := by
  obtain ⟨vals, ⟨hl, ⟨rfl, h0⟩ | ⟨g, cap, cur, rfl, hg, hh, hc, hm, _⟩⟩, _⟩ := h
  · exact ⟨none, 0, by rw [h0], by omega, Nat.zero_le _⟩
  · exact ⟨_, cap, rfl, hc, hm⟩
/-- one record more is wanted -/
theorem WantV.snoc {B : Nat} {W w w1 : World} {o : Obj} {wv wv' : Value} {vals : List Value} {rs : List (List UInt8)} {r : List UInt8} {u : Value} (how : w.ownsRow B 31 1 wv rs.length vals) (hvl : ∀ (i : Nat) (r : List UInt8), rs[i]? = some r → ∃ u, vals[i]? = some u ∧ BytesAt W u r.length (lsec r))
    (hown : w1.ownsRow B 31 1 wv' (rs.length + 1) (vals ++ [u])) (hg : (w.alloc o).grownBy w1 wv.ownBlock) (hB : W.heap.size ≤ B) (hy : BytesAt W u r.length (lsec r)) {F : List Nat} {W0 : World} (hf : Fr F W0 w) (hB0 : W0.heap.size ≤ B) : WantV B W w1 wv' (rs ++ [r]) ∧ Fr F W0 w1 := by
  have hOR := own_rows how
  refine ⟨⟨vals ++ [u], by rw [List.length_append, List.length_singleton]; exact hown, fun i q hq => ?_⟩, hf.then_new (grown_fr hg) (fun k hk => .inr (by have := (hOR k hk).1; omega))⟩
  rcases Nat.lt_or_ge i rs.length with h1 | h1
  · rw [List.getElem?_append_left h1] at hq
    obtain ⟨u', h2, h3⟩ := hvl i q hq
    exact ⟨u', by rw [List.getElem?_append_left (List.getElem?_eq_some_iff.1 h2).1]; exact h2, h3⟩
  · have hl : vals.length = rs.length := by have := how.1; simpa using this
    rw [List.getElem?_append_right h1] at hq
    have h2 : i - rs.length = 0 := by have := (List.getElem?_eq_some_iff.1 hq).1; simp at this; omega
    rw [h2] at hq
    have h3 : q = r := by simpa using hq.symm
    subst h3
    exact ⟨_, by rw [List.getElem?_append_right (by omega), hl, h2]; rfl, hy⟩
theorem WantV.grown {B : Nat} {W w w' : World} {v : Value} {rs : List (List UInt8)} {row : Option Nat} (h : WantV B W w v rs) (hg : w.grownBy w' row) (hne : ∀ k, v.ownBlock = some k → row ≠ some k) : WantV B W w' v rs := by
  obtain ⟨vals, h1, h2⟩ := h
  refine ⟨vals, h1.kept hg ?_, h2⟩
  cases hk : v.ownBlock with
  | none => exact .inl rfl
  | some q => exact .inr (fun e => hne q hk e.symm)
theorem WantV.lt {B : Nat} {W w : World} {v : Value} {rs : List (List UInt8)} (h : WantV B W w v rs) : ∀ k, v.ownBlock = some k → k < w.heap.size := by
  obtain ⟨vals, h1, _⟩ := h
  exact fun k hk => (h1.lt k hk).2
theorem WantV.ones {B : Nat} {W w : World} {v : Value} {rs : List (List UInt8)} {vals : List Value} (h1 : w.ownsRow B 31 1 v rs.length vals) (h2 : ∀ (i : Nat) (r : List UInt8), rs[i]? = some r → ∃ u, vals[i]? = some u ∧ BytesAt W u r.length (lsec r)) : ∀ u ∈ vals, u.oneCell' = true := by
  intro u hu
  obtain ⟨i, hi, rfl⟩ := List.getElem_of_mem hu
  have hl : vals.length = rs.length := by have := h1.1; simpa using this
  obtain ⟨u', h3, ao, cap, h4, _⟩ := h2 i _ (List.getElem?_eq_getElem (by omega))
  rw [List.getElem?_eq_getElem hi] at h3
  rw [Option.some.inj h3, h4]
  rfl
/-- rows of slices, one behind the other -/
theorem wpList_append_WW {ops : Array Oper} {rest : List Oper} {o : Oper} {a : Act} {Q : Exit → Act → World → Prop} {W w : World} (hgd : o.guard = none) (s x : Operand)
    (ho : o.op = .call { callee := .builtin .append, args := #[s, x], argTypes := #[29, 29] }) (B : Nat) {v xv : Value} {rs1 rs2 : List (List UInt8)} (hs : a.eval s = v) (hv : WantV B W w v rs1) (hx : a.eval x = xv) (hxv : WantV B W w xv rs2)
    (hB : B ≤ w.heap.size) (hlim : rs1.length + rs2.length ≤ 100000000) (h : ∀ v' w', WantV B W w' v' (rs1 ++ rs2) → w.grownBy w' v.ownBlock → (v'.ownBlock = v.ownBlock ∨ v'.ownBlock = some w.heap.size) → wpList Try.prog ops Q rest (a.put o.dst v') w') : wpList Try.prog ops Q (o :: rest) a w := by
  obtain ⟨i0, hi, hz0, hz1, hz2⟩ := info_parts info_bytes
  obtain ⟨vals1, a1, a2⟩ := hv
  obtain ⟨vals2, b1, b2⟩ := hxv
  have key : ∀ (v' : Value) (w' : World), w'.ownsRow B 31 1 v' (rs1.length + rs2.length) (vals1 ++ vals2) → WantV B W w' v' (rs1 ++ rs2) := fun v' w' h5 => by
    have hl : vals1.length = rs1.length := by have := a1.1; simpa using this
    refine ⟨vals1 ++ vals2, by rw [List.length_append]; exact h5, fun i r hr => ?_⟩
    rcases Nat.lt_or_ge i rs1.length with h1 | h1
    · rw [List.getElem?_append_left h1] at hr
      obtain ⟨u, h2, h3⟩ := a2 i r hr
      exact ⟨u, by rw [List.getElem?_append_left (by omega)]; exact h2, h3⟩
    · rw [List.getElem?_append_right h1] at hr
      obtain ⟨u, h2, h3⟩ := b2 _ r hr
      exact ⟨u, by rw [List.getElem?_append_right (by omega), hl]; exact h2, h3⟩
  have hone := WantV.ones (v := xv) b1 b2
  obtain ⟨hb0, ⟨rfl, hm0⟩ | ⟨g, cap, cur, rfl, hg, hh, hc, hm, hsz, htk⟩⟩ := b1
  · have hvn : vals2 = [] := List.length_eq_zero_iff.1 (by rw [hb0, hm0])
    refine wpList_append_own_none hgd s x 29 ho B 31 i0 1 Try.underlying29 hi v _ _ hs a1 hx (h v w (key v w ?_) ⟨rfl, rfl, rfl, Nat.le_refl _, fun _ _ _ => rfl⟩ (.inl rfl))
    rw [hvn, hm0, List.append_nil]; exact a1
  · refine wpList_append_own_at w hgd s x 29 ho B 31 i0 (.slice none 0 0) 1 24 Try.underlying29 hi hz0 hz1 hz2 rfl (by decide) v _ _ hs a1 ⟨g, 0, none⟩ rs2.length cap vals2 hx (by simpa using hb0) (fun j u hu => ?_) hone (by unfold maxLen; omega) (by omega) hB (fun v' w' h5 h6 _ h8 => h v' w' (key v' w' h5) h6 h8)
    rw [Addr.add_mid, Nat.zero_add, cell_of_row w g j _ _ _ hh]
    have hj : j < rs2.length := by have := (List.getElem?_eq_some_iff.1 hu).1; rw [hb0] at this; omega
    rw [← htk, Nat.mul_one, List.getElem?_take_of_lt hj] at hu
    simpa using hu
/-- what an append onto a row of slices leaves as it is -/
theorem rows_ne {w : World} {B n jb db lb mb N : Nat} {v : Value} {xs : List Value} {d : List UInt8} {dd : Bool} {D : DK} (h : w.ownsRow B 31 1 v n xs) (hj : JAt w jb db N d dd) (hd : DiskAt w db lb mb D) : db ∉ v.ownBlock.toList ∧ lb ∉ v.ownBlock.toList ∧ mb ∉ v.ownBlock.toList ∧ jb ∉ v.ownBlock.toList ∧ ∀ q ∈ v.ownBlock.toList, ∀ C, w.heap[q]? ≠ some (.cells C 5 (0, 0)) := by
  have hOR := own_rows h
  have hne := ne_bytes hj hd
  have n0 : ∀ q ∈ [jb, db, lb, mb], q ∉ v.ownBlock.toList := fun q hq hm => by obtain ⟨_, C, h1⟩ := hOR q hm; exact hne q hq C h1
  refine ⟨n0 _ (by simp), n0 _ (by simp), n0 _ (by simp), n0 _ (by simp), fun q hq C e => ?_⟩
  obtain ⟨_, C', h1⟩ := hOR q hq
  rw [h1] at e; have h3 := Option.some.inj e; injection h3 with _ h4'; exact absurd h4' (by decide)
set_option maxRecDepth 100000 in
set_option maxHeartbeats 4000000 in
theorem journalKeeps_main (n : Nat) (v : Value) (ls : List RunR) (w : World) (h4 : 4 ≤ n) (h60 : n ≤ 60) (hv : RunsAt w v ls) : Calls Try.prog 11 #[.int .i64 (n : Int), v] w fun e w' => e = .returned (.bool true) ∧ Fr [] w w' := by
  have hv' := hv
  obtain ⟨ao, cap, rfl, hb1, hb2, _⟩ := hv'
  have HV := Lib.hid hv
  unfold maxLen at hb2
  clear hv
  have g1 : ¬ (n : Int) < 4 := by omega
  have g2 : ¬ (60 : Int) < (n : Int) := by omega
  go_enter Try.func11, Try.ntmps11
  go_wp2_with fail
  refine (heavy_any w HV.out).mono ?_
  rintro e w0 ⟨⟨bh, rfl, hlight⟩, rfl⟩
  cases bh with
  | true =>
    go_wp2_with fail
    go_ret
    exact ⟨rfl, Fr.refl _ _⟩
  | false =>
  have HLT := Lib.hid (hlight rfl)
  have hl12 : ls.length ≤ 12 := (hlight rfl).1
  clear hlight
  go_wp2_with fail
  refine (new_kd n w h4 (by omega)).mono ?_
  rintro e w1 ⟨rfl, hd1, hf1, hs1⟩
  have HD1 := Lib.hid hd1
  have HF1 := Lib.hid hf1
  have s1 : w.heap.size + 3 ≤ w1.heap.size := by omega
  clear hd1 hf1 hs1
  go_wp2_with fail
  obtain ⟨B, hB⟩ : ∃ B, w1.heap.size = B := ⟨_, rfl⟩
  go_loopg [7, 8] ls.length (fun gk hv i wr => ∃ (k : Nat) (rs : List (List UInt8)) (D : DK), k ≤ ls.length ∧ gk = ls.length - k ∧ i = .int .i64 (k : Int) ∧ B ≤ wr.heap.size ∧ Hid (KD wr (w.heap.size + 2) w.heap.size (w.heap.size + 1) D rs) ∧ Hid (D.n = n) ∧ Hid (WantV B w wr hv rs) ∧ Hid (Fr [] w wr))
  case atStart => exact ⟨0, [], DK.fresh n, Nat.zero_le _, rfl, rfl, by omega, HD1, Lib.hid rfl, Lib.hid (WantV.nil _ _ _), HF1⟩
  case round =>
    obtain ⟨k, rs, D, hk, hgk, rfl, hBr, HD, HDN, HW, HF⟩ := hrel
    have HGK := Lib.hid hgk
    clear hgk
    by_cases hlt : k < ls.length
    · obtain ⟨r, hr⟩ : ∃ r, ls[k]? = some r := ⟨_, List.getElem?_eq_getElem hlt⟩
      obtain ⟨b0, o0, rfl, hra⟩ := HV.out.get hr
      have HR := Lib.hid hr
      have HRA := Lib.hid hra
      have HLR := Lib.hid (HLT.out.2 k r hr)
      have hbw : b0 < w.heap.size := cell_lt hra.c0
      have hfu := hra.f2
      clear hr hra
      go_wp2_with fail
      refine (open_kd wr HD.out).mono ?_
      rintro e w2 ⟨jb, rfl, hj2, hjb, hf2⟩
      have HD2 := Lib.hid (HD.out.fr0 hf2)
      have HF2 := Lib.hid (HF.out.trans hf2)
      have HW2 := Lib.hid (HW.out.fr hf2 (by simp))
      have HJ2 := Lib.hid hj2
      have s2 := hf2.size
      clear hj2 hf2 HD HF HW
      go_wp2_with fail
      refine (recs_held w2 HJ2.out HD2.out.c.c.sm HD2.out.len).mono ?_
      rintro e w3 ⟨v3, rfl, hb3, hf3⟩
      have HB3 := Lib.hid hb3.at
      have HF3 := Lib.hid (HF2.out.trans hf3)
      have HD3 := Lib.hid (HD2.out.fr0 hf3)
      have HJ3 := Lib.hid (HJ2.out.fr0 hf3)
      have HW3 := Lib.hid (HW2.out.fr hf3 (by simp))
      have s3 := hf3.size
      clear hb3 hf3 HF2 HD2 HJ2 HW2
      go_wp2_with fail
      refine (same_any w3 HB3.out (HW3.out.at HF3.out)).mono ?_
      rintro e w4 ⟨rfl, hf4⟩
      rw [decide_eq_true rfl]
      have HF4 := Lib.hid (HF3.out.trans hf4)
      have HD4 := Lib.hid (HD3.out.fr0 hf4)
      have HJ4 := Lib.hid (HJ3.out.fr0 hf4)
      have HW4 := Lib.hid (HW3.out.fr hf4 (by simp))
      have HRA4 := Lib.hid (HRA.out.fr0 HF4.out)
      have c1 := HRA4.out.c1
      have s4 := hf4.size
      clear hf4 HF3 HD3 HJ3 HW3 HB3
      go_wp2_with fail
      refine (fuse_kd r.fu hfu w4 HD4.out).mono ?_
      rintro e w5 ⟨rfl, ⟨D5, hd5, hn5⟩, hf5⟩
      have HD5 := Lib.hid hd5
      have HN5 := Lib.hid (hn5.trans HDN.out)
      have HJ5 := Lib.hid (HJ4.out.frD HD4.out.k hf5 (by simp))
      have HW5 := Lib.hid (HW4.out.fr hf5 (fun q hq => ne_bytes HJ4.out HD4.out.k q (by simp at hq; simp [hq])))
      have HF5 := Lib.hid (HF4.out.then_new hf5 (by simp))
      have s5 := hf5.size
      clear hd5 hn5 hf5 HD4 HJ4 HW4 HF4 HDN HRA4 c1
      have sB : w.heap.size ≤ B := by omega
      obtain ⟨la, lc, hle, hl1, hl2, _⟩ := HRA.out.hl
      unfold maxLen at hl2
      have HLE := Lib.hid hle
      clear hle
      have hl20 := HLR.out.1
      go_upto_block 2 with fail
      go_cut [7, 11, 12, 13, 14] from 38 to 216 (fun hv flv _s12 _s13 _s14 wx => ∃ (rs fl : List (List UInt8)) (D : DK), Hid (WantV B w wx hv rs) ∧ Hid (WantV B w wx flv fl) ∧ Hid (DiskAt wx (w.heap.size + 2) w.heap.size (w.heap.size + 1) D) ∧ Hid (Surv { D with dead := true } rs fl) ∧ Hid (D.n = n) ∧ B ≤ wx.heap.size ∧ Hid (Fr [] w wx) ∧ fl.length ≤ 1)
      case first =>
        go_wp2_with fail
        go_loopg [7, 11, 12] r.L.length (fun g2 hv flv i wr => ∃ (m : Nat) (rs : List (List UInt8)) (D : DK), m ≤ r.L.length ∧ g2 = r.L.length - m ∧ i = .int .i64 (m : Int) ∧ flv = .slice none 0 0 ∧ B ≤ wr.heap.size ∧ Hid (KD wr (w.heap.size + 2) w.heap.size (w.heap.size + 1) D rs) ∧ Hid (D.n = n) ∧ Hid (JAt wr jb (w.heap.size + 2) rs.length (encAll rs) false) ∧ Hid (WantV B w wr hv rs) ∧ Hid (Fr [] w wr))
        case atStart => exact ⟨0, rs, D5, Nat.zero_le _, rfl, rfl, rfl, by omega, HD5, HN5, HJ5, HW5, HF5⟩
        case round =>
          obtain ⟨m, rs2, D6, hm, hg2, rfl, rfl, hBr2, HD6, HN6, HJ6, HW6, HF6⟩ := hrel
          have HG2 := Lib.hid hg2
          clear hg2
          have HRA6 := Lib.hid (HRA.out.fr0 HF6.out)
          have c0 := HRA6.out.c0
          rw [HLE.out] at c0
          have hfb : (encAll rs2).length ≤ 3712 := by have h1 := HD6.out.c.c.fit; have h2 := HN6.out; rw [h2] at h1; omega
          by_cases hmlt : m < r.L.length
          · obtain ⟨x, hx⟩ : ∃ x, r.L[m]? = some x := ⟨_, List.getElem?_eq_getElem hmlt⟩
            have hlw := HRA.out.hl
            rw [HLE.out] at hlw
            obtain ⟨b1, o1, u0, rfl, cw, y0⟩ := hlw.get hx
            have hbw1 : b1 < w.heap.size := cell_lt cw
            have hx400 : x.length ≤ 400 := HLR.out.2.2 m x hx
            have c1 : wr.cell? ⟨b1, o1 + m, none⟩ = some u0 := (World.cell?_of_block (a := ⟨b1, o1 + m, none⟩) (HF6.out.block b1 hbw1 (by simp))).trans cw
            have HX := Lib.hid hx
            have HY0 := Lib.hid y0
            obtain ⟨xo, xc, rfl, hx1, hx2, _⟩ := y0
            unfold maxLen at hx2
            clear hx hlw cw
            go_wp2_with fail
            refine (room_kd wr HJ6.out HD6.out).mono ?_
            rintro e w7 ⟨rfl, hf7⟩
            rw [HN6.out]
            obtain ⟨R, hR⟩ : ∃ R, roomI n (encAll rs2).length = R := ⟨_, rfl⟩
            have HR7 := Lib.hid hR
            rw [hR]
            have HF7 := Lib.hid (HF6.out.trans hf7)
            have HD7 := Lib.hid (HD6.out.fr0 hf7)
            have HJ7 := Lib.hid (HJ6.out.fr0 hf7)
            have HW7 := Lib.hid (HW6.out.fr hf7 (by simp))
            have c07 : w7.cell? ⟨b0, o0 + k * 3, none⟩ = some (.slice (some ⟨b1, o1, none⟩) r.L.length lc) := (World.cell?_of_block (a := ⟨b0, o0 + k * 3, none⟩) (hf7.block b0 (cell_lt c0) (by simp))).trans c0
            have c17 : w7.cell? ⟨b1, o1 + m, none⟩ = some (.slice xo x.length xc) := (World.cell?_of_block (a := ⟨b1, o1 + m, none⟩) (hf7.block b1 (cell_lt c1) (by simp))).trans c1
            have s7 := hf7.size
            clear hf7 hR HD6 HJ6 HW6 HF6 HRA6 c0 c1
            by_cases hfit : (encAll rs2).length + 4 + x.length ≤ (n - 2) * 64
            · have HFI := Lib.hid hfit
              clear hfit
              go_wp2_with fail
              refine (add_kd xo xc w7 HJ7.out HD7.out (HY0.out.fr HF7.out (by simp)) (by omega) (by rw [HN6.out]; exact HFI.out)).mono ?_
              rintro e w8 ⟨hres, hf8⟩
              have hnb := ne_bytes HJ7.out HD7.out.k
              have HW8 := Lib.hid (HW7.out.fr hf8 hnb)
              have HF8 := Lib.hid (HF7.out.then_new hf8 (by simp; omega))
              have c08 : w8.cell? ⟨b0, o0 + k * 3, none⟩ = some (.slice (some ⟨b1, o1, none⟩) r.L.length lc) := (World.cell?_of_block (a := ⟨b0, o0 + k * 3, none⟩) (hf8.block b0 (cell_lt c07) (by simp; omega))).trans c07
              have c18 : w8.cell? ⟨b1, o1 + m, none⟩ = some (.slice xo x.length xc) := (World.cell?_of_block (a := ⟨b1, o1 + m, none⟩) (hf8.block b1 (cell_lt c17) (by simp; omega))).trans c17
              have s8 := hf8.size
              obtain ⟨i0, hi, hz0, hz1, hz2⟩ := info_parts info_bytes
              have HI := Lib.hid hi
              have HZ0 := Lib.hid hz0
              have HZ1 := Lib.hid hz1
              have HZ2 := Lib.hid hz2
              have hsm := HD7.out.c.c.cnt.1
              have HSM := Lib.hid HD7.out.c.c.sm
              clear hf8 hnb hi hz0 hz1 hz2 HD7 HJ7 HW7 HF7 c07 c17
              rcases hres with ⟨D9, rfl, hd9, hn9, hj9⟩ | ⟨D9, rfl, hd9, hdd9, hn9, hs9, hj9⟩
              · have HD9 := Lib.hid hd9
                have HN9 := Lib.hid (hn9.trans HN6.out)
                have HJ9 := Lib.hid hj9
                obtain ⟨vals, hw1, hw2⟩ := HW8.out
                have HOW := Lib.hid hw1
                have HVL := Lib.hid hw2
                clear hd9 hn9 hj9 hw1 hw2 HW8
                go_wp2_with ((with_reducible refine wpList_at (.call { callee := .builtin .append, args := #[.tmp 93, .tmp 102], argTypes := #[29, 29] }) rfl ?_); refine wpList_append_own _ rfl _ _ 29 rfl B 31 i0 (.slice none 0 0) 1 24 Try.underlying29 HI.out HZ0.out HZ1.out HZ2.out rfl (by decide) _ _ _ rfl (HOW.out.alloc _) ⟨w8.heap.size, 0, none⟩ 1 1 [.slice xo x.length xc] rfl rfl (cell_one_new _ _ _) (by simp [Value.oneCell']) (by unfold maxLen; omega) (by omega) (by simp; omega) ?_; intro wv' w5a hown' hgrow _; have HOWN := Lib.hid hown'; have HGR := Lib.hid hgrow; clear hown' hgrow)
                have hsn := WantV.snoc HOW.out HVL.out HOWN.out HGR.out sB HY0.out HF8.out sB
                obtain ⟨n1, n2, n3, n4, n5⟩ := rows_ne HOW.out HJ9.out HD9.out.k
                have fr5 := grown_fr HGR.out
                have HW10 := Lib.hid hsn.1
                have HF10 := Lib.hid hsn.2
                have HD10 := Lib.hid (HD9.out.fr fr5 n1 n2 n3)
                have HJ10 := Lib.hid (HJ9.out.frT fr5 n4 n5)
                have s10 := fr5.size
                have hg10 : r.L.length - (m + 1) < gk := by have := HG2.out; omega
                clear hsn n1 n2 n3 n4 n5 fr5 HD9 HJ9 HOW HVL HOWN HGR HF8
                go_wp2_with fail
                go_roundg (r.L.length - (m + 1))
                case measure => exact hg10
                case rel => exact ⟨m + 1, rs2 ++ [x], D9, by omega, rfl, by go_num, rfl, by omega, HD10, HN9, HJ10, HW10, HF10⟩
              · have HD9 := Lib.hid hd9
                have HDD9 := Lib.hid hdd9
                have HN9 := Lib.hid (hn9.trans HN6.out)
                have HS9 := Lib.hid hs9
                have HJ9 := Lib.hid hj9
                clear hd9 hdd9 hn9 hs9 hj9
                go_wp2_with ((with_reducible refine wpList_at (.call { callee := .builtin .append, args := #[.tmp 106, .tmp 115], argTypes := #[29, 29] }) rfl ?_); refine wpList_append_own _ rfl _ _ 29 rfl B 31 i0 (.slice none 0 0) 1 24 Try.underlying29 HI.out HZ0.out HZ1.out HZ2.out rfl (by decide) _ _ _ rfl ((World.ownsRow_nil _ _ _ _).alloc _) ⟨w8.heap.size, 0, none⟩ 1 1 [.slice xo x.length xc] rfl rfl (cell_one_new _ _ _) (by simp [Value.oneCell']) (by unfold maxLen; omega) (by omega) (by simp; omega) ?_; intro flv' w5a hown' hgrow _; have HOWN := Lib.hid hown'; have HGR := Lib.hid hgrow; clear hown' hgrow)
                have fr5 : Fr [] w8 w5a := grown_fr HGR.out
                have hsn := WantV.snoc (rs := []) (World.ownsRow_nil w8 B 31 1) (fun i r h => by simp at h) HOWN.out HGR.out sB HY0.out HF8.out sB
                have HFL := Lib.hid hsn.1
                have HF10 := Lib.hid hsn.2
                have HD10 := Lib.hid (HD9.out.fr0 fr5)
                have HJ10 := Lib.hid (HJ9.out.fr0 fr5)
                have HW10 := Lib.hid (HW8.out.fr fr5 (by simp))
                have s10 := fr5.size
                clear hsn fr5 HOWN HGR HD9 HJ9 HW8 HF8 c08 c18
                refine (dead_some w5a HD10.out).mono ?_
                rintro e w11 ⟨rfl, rfl⟩
                rw [HDD9.out]
                go_wp2_with fail
                refine (jadd_deadJ none 0 0 w5a HJ10.out HD10.out (by omega) (by omega) (by have := HFI.out; have := HN9.out; omega)).mono ?_
                rintro e w12 ⟨rfl, hf12⟩
                have HD12 := Lib.hid (HD10.out.fr0 hf12)
                have HJ12 := Lib.hid (HJ10.out.fr0 hf12)
                have HW12 := Lib.hid (HW10.out.fr hf12 (by simp))
                have HFL12 := Lib.hid (HFL.out.fr hf12 (by simp))
                have HF12 := Lib.hid (HF10.out.trans hf12)
                have s12 := hf12.size
                clear hf12 HD10 HJ10 HW10 HFL HF10
                go_wp2_with fail
                refine (recs_held w12 HJ12.out HSM.out (by omega)).mono ?_
                rintro e w13 ⟨v13, rfl, hb13, hf13⟩
                have HB13 := Lib.hid hb13.at
                have HD13 := Lib.hid (HD12.out.fr0 hf13)
                have HW13 := Lib.hid (HW12.out.fr hf13 (by simp))
                have HFL13 := Lib.hid (HFL12.out.fr hf13 (by simp))
                have HF13 := Lib.hid (HF12.out.trans hf13)
                have s13 := hf13.size
                clear hb13 hf13 HD12 HJ12 HW12 HFL12 HF12
                go_wp2_with fail
                refine (same_any w13 HB13.out (HW13.out.at HF13.out)).mono ?_
                rintro e w14 ⟨rfl, hf14⟩
                rw [decide_eq_true rfl]
                have HD14 := Lib.hid (HD13.out.fr0 hf14)
                have HW14 := Lib.hid (HW13.out.fr hf14 (by simp))
                have HFL14 := Lib.hid (HFL13.out.fr hf14 (by simp))
                have HF14 := Lib.hid (HF13.out.trans hf14)
                have s14 := hf14.size
                have HS14 : Hid (Surv { D9 with dead := true } rs2 ([] ++ [x])) := Lib.hid (by rw [dead_eta HDD9.out]; exact HS9.out)
                clear hf14 HD13 HW13 HFL13 HF13 HB13
                go_wp2_with fail
                go_meet
                case rel => exact ⟨rs2, [] ++ [x], D9, HW14, HFL14, HD14, HS14, HN9, by omega, HF14, Nat.le_refl _⟩
            · have hle : ¬ (x.length : Int) < R := by
                have h1 := HR7.out
                unfold roomI at h1
                omega
              have hled : decide ((x.length : Int) < R) = false := by rw [decide_eq_false_iff_not]; exact hle
              have HFI := Lib.hid hfit
              clear hfit
              go_wp2_with fail
              refine (add_full_kd xo x.length xc w7 HJ7.out HD7.out (by omega) (by rw [HN6.out]; exact HFI.out)).mono ?_
              rintro e w8 ⟨rfl, hf8⟩
              have HF8 := Lib.hid (HF7.out.trans hf8)
              have HD8 := Lib.hid (HD7.out.fr0 hf8)
              have HJ8 := Lib.hid (HJ7.out.fr0 hf8)
              have HW8 := Lib.hid (HW7.out.fr hf8 (by simp))
              have c08 : w8.cell? ⟨b0, o0 + k * 3, none⟩ = some (.slice (some ⟨b1, o1, none⟩) r.L.length lc) := (World.cell?_of_block (a := ⟨b0, o0 + k * 3, none⟩) (hf8.block b0 (cell_lt c07) (by simp))).trans c07
              have c18 : w8.cell? ⟨b1, o1 + m, none⟩ = some (.slice xo x.length xc) := (World.cell?_of_block (a := ⟨b1, o1 + m, none⟩) (hf8.block b1 (cell_lt c17) (by simp))).trans c17
              have s8 := hf8.size
              clear hf8 HD7 HJ7 HW7 HF7 c07 c17
              go_wp2_with fail
              refine (recs_held w8 HJ8.out HD8.out.c.c.sm HD8.out.len).mono ?_
              rintro e w13 ⟨v13, rfl, hb13, hf13⟩
              have HB13 := Lib.hid hb13.at
              have HD13 := Lib.hid (HD8.out.fr0 hf13)
              have HJ13 := Lib.hid (HJ8.out.fr0 hf13)
              have HW13 := Lib.hid (HW8.out.fr hf13 (by simp))
              have HF13 := Lib.hid (HF8.out.trans hf13)
              have s13 := hf13.size
              clear hb13 hf13 HD8 HJ8 HW8 HF8 c08 c18
              go_wp2_with fail
              refine (same_any w13 HB13.out (HW13.out.at HF13.out)).mono ?_
              rintro e w14 ⟨rfl, hf14⟩
              rw [decide_eq_true rfl]
              have HD14 := Lib.hid (HD13.out.fr0 hf14)
              have HJ14 := Lib.hid (HJ13.out.fr0 hf14)
              have HW14 := Lib.hid (HW13.out.fr hf14 (by simp))
              have HF14 := Lib.hid (HF13.out.trans hf14)
              have s14 := hf14.size
              have hg10 : r.L.length - (m + 1) < gk := by have := HG2.out; omega
              clear hf14 HD13 HJ13 HW13 HF13 HB13
              go_wp2_with fail
              go_roundg (r.L.length - (m + 1))
              case measure => exact hg10
              case rel => exact ⟨m + 1, rs2, D6, by omega, rfl, by go_num, rfl, by omega, HD14, HN6, HJ14, HW14, HF14⟩
          · have hme : m = r.L.length := by omega
            subst hme
            have HS6 := Lib.hid HD6.out.surv
            have HK6 := Lib.hid HD6.out.k
            go_wp2_with fail
            go_meet
            case rel => exact ⟨rs2, [], D6, HW6, Lib.hid (WantV.nil _ _ _), HK6, HS6, HN6, by omega, HF6, Nat.zero_le _⟩
      case rest =>
        obtain ⟨rs2, fl, D6, HW6, HFL6, HK6, HS6, HN6, hB6, HF6, hfl1⟩ := hcut
        obtain ⟨fa, fc, rfl, hfc1, hfc2⟩ := HFL6.out.form
        unfold maxLen at hfc2
        go_wp2_with fail
        refine (kill_kd wc HK6.out HS6.out).mono ?_
        rintro e w7 ⟨rfl, ⟨D7, hd7, hdd7, hn7, hs7⟩, hf7⟩
        have HK7 := Lib.hid hd7
        have HDD7 := Lib.hid hdd7
        have HN7 := Lib.hid (hn7.trans HN6.out)
        have HS7 := Lib.hid hs7
        have hdisk : ∀ q ∈ [w.heap.size + 2, w.heap.size, w.heap.size + 1], ∀ C, wc.heap[q]? ≠ some (.cells C 31 (0, 0)) := fun q hq C e => by
          obtain ⟨n1, n2, n3⟩ := Add1At.ne HK6.out e (by decide) (by decide)
          simp [n1, n2, n3] at hq
        have HW7 := Lib.hid (HW6.out.fr hf7 (fun q hq => hdisk q (by simp at hq; simp [hq])))
        have HFL7 := Lib.hid (HFL6.out.fr hf7 (fun q hq => hdisk q (by simp at hq; simp [hq])))
        have HF7 := Lib.hid (HF6.out.then_new hf7 (by simp))
        have s7 := hf7.size
        clear hd7 hdd7 hn7 hs7 hf7 hdisk HW6 HFL6 HK6 HS6 HN6 HF6
        go_wp2_with fail
        refine (open_dead w7 HK7.out HDD7.out).mono ?_
        rintro e w8 ⟨rfl, hf8⟩
        have HK8 := Lib.hid (HK7.out.fr0 hf8)
        have HW8 := Lib.hid (HW7.out.fr hf8 (by simp))
        have HFL8 := Lib.hid (HFL7.out.fr hf8 (by simp))
        have HF8 := Lib.hid (HF7.out.trans hf8)
        have HRA8 := Lib.hid (HRA.out.fr0 HF8.out)
        have c2 := HRA8.out.c2
        have s8 := hf8.size
        clear hf8 HK7 HW7 HFL7 HF7
        go_wp2_with fail
        refine (restart_kd w8 HK8.out HS7.out HRA8.out.hf (fun h0 q hq => by have := HRA.out.hf.lt h0 q hq; omega)).mono ?_
        rintro e w9 ⟨rfl, ⟨D9, rs9, hd9, hn9, hrs9⟩, hf9⟩
        have HD9 := Lib.hid hd9
        have HN9 := Lib.hid (hn9.trans HN7.out)
        have HRS9 := Lib.hid hrs9
        have hdisk : ∀ q ∈ [w.heap.size + 2, w.heap.size, w.heap.size + 1], ∀ C, w8.heap[q]? ≠ some (.cells C 31 (0, 0)) := fun q hq C e => by
          obtain ⟨n1, n2, n3⟩ := Add1At.ne HK8.out e (by decide) (by decide)
          simp [n1, n2, n3] at hq
        have HW9 := Lib.hid (HW8.out.fr hf9 hdisk)
        have HFL9 := Lib.hid (HFL8.out.fr hf9 hdisk)
        have HF9 := Lib.hid (HF8.out.then_new hf9 (by simp))
        have s9 := hf9.size
        clear hd9 hn9 hrs9 hf9 hdisk HK8 HW8 HFL8 HF8 HRA8 HDD7 HS7 HN7 c2
        go_wp2_with fail
        refine (open_kd w9 HD9.out).mono ?_
        rintro e w10 ⟨ja, rfl, hj10, hja, hf10⟩
        have HD10 := Lib.hid (HD9.out.fr0 hf10)
        have HJA10 := Lib.hid hj10
        have HW10 := Lib.hid (HW9.out.fr hf10 (by simp))
        have HFL10 := Lib.hid (HFL9.out.fr hf10 (by simp))
        have HF10 := Lib.hid (HF9.out.trans hf10)
        have s10 := hf10.size
        clear hj10 hf10 HD9 HW9 HFL9 HF9
        go_wp2_with fail
        refine (open_kd w10 HD10.out).mono ?_
        rintro e w11 ⟨jb', rfl, hj11, hjb', hf11⟩
        have HD11 := Lib.hid (HD10.out.fr0 hf11)
        have HJA11 := Lib.hid (HJA10.out.fr0 hf11)
        have HJB11 := Lib.hid hj11
        have HW11 := Lib.hid (HW10.out.fr hf11 (by simp))
        have HFL11 := Lib.hid (HFL10.out.fr hf11 (by simp))
        have HF11 := Lib.hid (HF10.out.trans hf11)
        have s11 := hf11.size
        clear hj11 hf11 HD10 HJA10 HW10 HFL10 HF10
        go_wp2_with fail
        refine (recs_held w11 HJA11.out HD11.out.c.c.sm HD11.out.len).mono ?_
        rintro e w12 ⟨v12, rfl, hb12, hf12⟩
        have HB12 := Lib.hid hb12.at
        have HD12 := Lib.hid (HD11.out.fr0 hf12)
        have HJA12 := Lib.hid (HJA11.out.fr0 hf12)
        have HJB12 := Lib.hid (HJB11.out.fr0 hf12)
        have HW12 := Lib.hid (HW11.out.fr hf12 (by simp))
        have HFL12 := Lib.hid (HFL11.out.fr hf12 (by simp))
        have HF12 := Lib.hid (HF11.out.trans hf12)
        have s12 := hf12.size
        clear hb12 hf12 HD11 HJA11 HJB11 HW11 HFL11 HF11
        go_wp2_with fail
        refine (recs_held w12 HJB12.out HD12.out.c.c.sm HD12.out.len).mono ?_
        rintro e w13 ⟨v13, rfl, hb13, hf13⟩
        have HB13 := Lib.hid hb13.at
        have HA13 := Lib.hid (HB12.out.fr0 hf13)
        have HD13 := Lib.hid (HD12.out.fr0 hf13)
        have HJA13 := Lib.hid (HJA12.out.fr0 hf13)
        have HW13 := Lib.hid (HW12.out.fr hf13 (by simp))
        have HFL13 := Lib.hid (HFL12.out.fr hf13 (by simp))
        have HF13 := Lib.hid (HF12.out.trans hf13)
        have s13 := hf13.size
        clear hb13 hf13 HD12 HJA12 HJB12 HW12 HFL12 HF12 HB12
        go_wp2_with fail
        refine (same_any w13 HA13.out HB13.out).mono ?_
        rintro e w14 ⟨rfl, hf14⟩
        rw [decide_eq_true rfl]
        have HD14 := Lib.hid (HD13.out.fr0 hf14)
        have HJA14 := Lib.hid (HJA13.out.fr0 hf14)
        have HW14 := Lib.hid (HW13.out.fr hf14 (by simp))
        have HFL14 := Lib.hid (HFL13.out.fr hf14 (by simp))
        have HF14 := Lib.hid (HF13.out.trans hf14)
        have s14 := hf14.size
        have hrb : rs2.length ≤ 100000 := by
          have h1 := HD14.out.c.c.cnt.1
          have h2 := encAll_ge rs9
          have h3 := HD14.out.c.c.fit
          have h5 := HN9.out
          rw [h5] at h3
          rcases HRS9.out with e | e
          · rw [← e]; omega
          · have := congrArg List.length e
            rw [List.length_append] at this
            omega
        clear hf14 HD13 HJA13 HW13 HFL13 HF13 HB13 HA13
        go_upto_region 35 with fail
        have fE : Fr [] w14 (w14.alloc (.cells #[] 31)) := Fr.alloc _ _ _
        have sE : (w14.alloc (.cells #[] 31)).heap.size = w14.heap.size + 1 := by simp
        have HE := Lib.hid (show WantV B w (w14.alloc (.cells #[] 31)) (.slice (some ⟨w14.heap.size, 0, none⟩) 0 0) [] from
          ⟨[], ⟨rfl, .inr ⟨_, 0, #[], rfl, by omega, heap_alloc_new _ _, Nat.le_refl _, Nat.zero_le _, rfl, rfl⟩⟩, fun i r h => by simp at h⟩)
        have HWE := Lib.hid (HW14.out.fr fE (by simp))
        have HFLE := Lib.hid (HFL14.out.fr fE (by simp))
        have HDE := Lib.hid (HD14.out.fr0 fE)
        have HJAE := Lib.hid (HJA14.out.fr0 fE)
        have HFE := Lib.hid (HF14.out.trans fE)
        have HKW := Lib.hid HW14.out.lt
        have HKF := Lib.hid HFL14.out.lt
        obtain ⟨wE, hwE⟩ : ∃ wE, w14.alloc (.cells #[] 31) = wE := ⟨_, rfl⟩
        rw [hwE] at sE HE HWE HFLE HDE HJAE HFE
        have HWEQ := Lib.hid hwE
        clear fE hwE HD14 HJA14 HW14 HFL14 HF14
        go_wp2_with (first
          | ((with_reducible refine wpList_at (.call { callee := .builtin .append, args := #[.tmp 196, .tmp 197], argTypes := #[29, 29] }) rfl ?_); rw [HWEQ.out]; refine wpList_append_WW rfl _ _ rfl B rfl HE.out rfl HWE.out (by omega) (by simp; omega) ?_; intro v15 w15 hv15 hg15 hk15; have HV15 : Hid (WantV B w w15 v15 ([] ++ rs2)) := hv15; have HG15 : Hid (wE.grownBy w15 (some w14.heap.size)) := hg15; have HK15 : Hid (v15.ownBlock = some w14.heap.size ∨ v15.ownBlock = some wE.heap.size) := hk15; have s15 := hg15.size; clear hv15 hg15 hk15; have HFL15 := Lib.hid (HFLE.out.grown HG15.out (fun q hq e => by have h1 := HKF.out q hq; have h2 := Option.some.inj e; omega)))
          | ((with_reducible refine wpList_at (.call { callee := .builtin .append, args := #[.tmp 198, .tmp 199], argTypes := #[29, 29] }) rfl ?_); refine wpList_append_WW rfl _ _ rfl B rfl HV15.out rfl HFL15.out (by omega) (by simp; omega) ?_; intro v16 w16 hv16 hg16 hk16; have HV16 : Hid (WantV B w w16 v16 ([] ++ rs2 ++ fl)) := hv16; have HG16 : Hid (w15.grownBy w16 v15.ownBlock) := hg16; have s16 := hg16.size; clear hv16 hg16 hk16))
        obtain ⟨hd16, hja16, hw16, hf16⟩ : KD w16 (w.heap.size + 2) w.heap.size (w.heap.size + 1) D9 rs9 ∧ JAt w16 ja (w.heap.size + 2) rs9.length (encAll rs9) false ∧ WantV B w w16 u7 rs2 ∧ Fr [] w w16 := by
          have e1 : Fr ((Value.slice (some ⟨w14.heap.size, 0, none⟩) 0 0).ownBlock.toList) wE w15 := grown_fr' HG15.out
          obtain ⟨vals, ho, _⟩ := HE.out
          obtain ⟨n1, n2, n3, n4, n5⟩ := rows_ne ho HJAE.out HDE.out.k
          have hd15 := HDE.out.fr e1 n1 n2 n3
          have hj15 := HJAE.out.frT e1 n4 n5
          have hw15 := HWE.out.grown HG15.out (fun q hq e => by have h1 := HKW.out q hq; have h2 := Option.some.inj e; omega)
          have hf15 := HFE.out.then_new e1 (fun q hq => .inr (by have := (own_rows ho q hq).1; omega))
          have e2 := grown_fr' HG16.out
          obtain ⟨vals2, ho2, _⟩ := HV15.out
          obtain ⟨m1, m2, m3, m4, m5⟩ := rows_ne ho2 hj15 hd15.k
          refine ⟨hd15.fr e2 m1 m2 m3, hj15.frT e2 m4 m5, hw15.grown HG16.out (fun q hq e => ?_), hf15.then_new e2 (fun q hq => .inr (by have := (own_rows ho2 q hq).1; omega))⟩
          have h1 := HKW.out q hq
          rcases HK15.out with h2 | h2
          · rw [h2] at e; have := Option.some.inj e; omega
          · rw [h2] at e; have := Option.some.inj e; omega
        have HD16 := Lib.hid hd16
        have HJA16 := Lib.hid hja16
        have HW16 := Lib.hid hw16
        have HF16 := Lib.hid hf16
        clear hd16 hja16 hw16 hf16 HE HWE HFLE HDE HJAE HFE HKW HKF HWEQ HV15 HG15 HK15 HFL15 HG16
        refine (recs_held w16 HJA16.out HD16.out.c.c.sm HD16.out.len).mono ?_
        rintro e w17 ⟨v17, rfl, hb17, hf17⟩
        have HB17 := Lib.hid hb17.at
        have HD17 := Lib.hid (HD16.out.fr0 hf17)
        have HJA17 := Lib.hid (HJA16.out.fr0 hf17)
        have HW17 := Lib.hid (HW16.out.fr hf17 (by simp))
        have HM17 := Lib.hid (HV16.out.fr hf17 (by simp))
        have HF17 := Lib.hid (HF16.out.trans hf17)
        have s17 := hf17.size
        clear hb17 hf17 HD16 HJA16 HW16 HV16 HF16
        go_wp2_with fail
        refine (same_any w17 HB17.out (HW17.out.at HF17.out)).mono ?_
        rintro e w18 ⟨rfl, hf18⟩
        have HD18 := Lib.hid (HD17.out.fr0 hf18)
        have HJA18 := Lib.hid (HJA17.out.fr0 hf18)
        have HW18 := Lib.hid (HW17.out.fr hf18 (by simp))
        have HM18 := Lib.hid (HM17.out.fr hf18 (by simp))
        have HF18 := Lib.hid (HF17.out.trans hf18)
        have s18 := hf18.size
        have hg18 : ls.length - (k + 1) < gk := by have := HGK.out; omega
        clear hf18 HD17 HJA17 HW17 HM17 HF17 HB17
        by_cases hsame : rs9 = rs2
        · rw [decide_eq_true hsame]
          subst hsame
          go_wp2_with fail
          go_roundg (ls.length - (k + 1))
          case measure => exact hg18
          case rel => exact ⟨k + 1, rs9, D9, by omega, rfl, by go_num, by omega, HD18, HN9, HW18, HF18⟩
        · rw [decide_eq_false hsame]
          have hmore : rs9 = rs2 ++ fl := by
            rcases HRS9.out with h1 | h1
            · exact absurd h1 hsame
            · exact h1
          have hflp : 0 < fl.length := by
            rcases Nat.eq_zero_or_pos fl.length with h1 | h1
            · rw [List.length_eq_zero_iff.1 h1, List.append_nil] at hmore; exact absurd hmore hsame
            · exact h1
          have hflpi : (0 : Int) < (fl.length : Int) := by omega
          have hflpd : decide ((0 : Int) < (fl.length : Int)) = true := by rw [decide_eq_true_eq]; exact hflpi
          have HMORE := Lib.hid hmore
          clear hsame hmore
          go_wp2_with fail
          refine (recs_held w18 HJA18.out HD18.out.c.c.sm HD18.out.len).mono ?_
          rintro e w19 ⟨v19, rfl, hb19, hf19⟩
          have HB19 := Lib.hid hb19.at
          have HD19 := Lib.hid (HD18.out.fr0 hf19)
          have HM19 := Lib.hid (HM18.out.fr hf19 (by simp))
          have HF19 := Lib.hid (HF18.out.trans hf19)
          have s19 := hf19.size
          clear hb19 hf19 HD18 HJA18 HM18 HF18 HW18
          go_wp2_with fail
          refine (same_any w19 HB19.out (HM19.out.at HF19.out)).mono ?_
          rintro e w20 ⟨rfl, hf20⟩
          rw [decide_eq_true (show rs9 = [] ++ rs2 ++ fl by rw [HMORE.out]; rfl)]
          have HD20 := Lib.hid (HD19.out.fr0 hf20)
          have HM20 : Hid (WantV B w w20 v16 rs9) := Lib.hid (by rw [HMORE.out]; exact HM19.out.fr hf20 (by simp))
          have HF20 := Lib.hid (HF19.out.trans hf20)
          have s20 := hf20.size
          clear hf20 HD19 HM19 HF19 HB19
          go_wp2_with fail
          go_roundg (ls.length - (k + 1))
          case measure => exact hg18
          case rel => exact ⟨k + 1, rs9, D9, by omega, rfl, by go_num, by omega, HD20, HN9, HM20, HF20⟩
    · have hke : k = ls.length := by omega
      subst hke
      go_wp2_with fail
      refine (keeps13_true wr).mono ?_
      rintro e w9 ⟨rfl, hf9⟩
      go_wp2_with fail
      go_ret
      exact ⟨rfl, HF.out.trans hf9⟩
end Go.Proofs.Ytgfdbjeliojhkaa
