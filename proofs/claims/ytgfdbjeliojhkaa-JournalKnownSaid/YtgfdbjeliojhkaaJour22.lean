/-
  Jour22: JournalHeads, its walk. No condition beyond those stated.
-/
import Derived.Test.YtgfdbjeliojhkaaJour21
import Derived.Test.YtgfdbjeliojhkaaJLaw2
namespace Go.Proofs.Ytgfdbjeliojhkaa
open Go.RowKit
theorem add_heldS {jb db lb mb : Nat} {D : DK} {rs : List (List UInt8)} {r : List UInt8} (ao : Option Addr) (c : Nat) (w : World) (hj : JAt w jb db rs.length (encAll rs) false) (h : DH w db lb mb D rs) (hS : JS D.n D.now rs) (hb : BytesAt w (.slice ao r.length c) r.length (lsec r)) (hm : r.length ≤ 65536)
    (hf : (encAll rs).length + 4 + r.length ≤ (D.n - 2) * 64) :
    Calls Try.prog 28 #[.pointer (some ⟨jb, 0, none⟩), .slice ao r.length c] w fun e w' => e = .returned (.int .i64 0) ∧ (∃ D', DH w' db lb mb D' (rs ++ [r]) ∧ JS D'.n D'.now (rs ++ [r]) ∧ D'.n = D.n ∧ D'.M = fun _ => none) ∧ JAt w' jb db (rs ++ [r]).length (encAll (rs ++ [r])) false ∧ Fr [jb, db, lb, mb] w w' ∧ (∃ g cap, w'.cell? ⟨jb, 2, none⟩ = some (.slice (some ⟨g, 0, none⟩) (encAll (rs ++ [r])).length cap) ∧ w.heap.size ≤ g) := by
  have n4 := h.c.n4
  obtain ⟨c1, c2⟩ := h.c.cnt
  obtain ⟨g1, g2, g3, g4, g5, g6⟩ := st4_off (N := rs.length) (d := encAll rs) (nd := encAll rs ++ encR r) h.fuse
  refine (jadd_main ao c w hj h.k h.len hb hm (by omega) (by omega) h.dead).mono ?_
  rintro e w' ⟨hfr, ⟨_, rfl, hd, hjt, hg⟩ | ⟨k, hk, _, hz, _⟩⟩
  · refine ⟨rfl, ⟨_, ⟨hd, ?_, g2.trans h.dead, g1⟩, ?_, st4_n D rs.length _ _, g3⟩, ?_, hfr, ?_⟩
    · rw [st4_n]; exact h.c.add (by omega) hf
    · rw [st4_n]; exact hS.add h.c hf
    · rw [List.length_append, List.length_singleton, encAll_append, encAll_one]; exact hjt
    · rw [encAll_append, encAll_one]; exact hg
  · exfalso
    have hz' : (stg D rs.length (encAll rs) (encAll rs ++ encR r) k).fuse = -1 := by
      rcases (by omega : k = 0 ∨ k = 1 ∨ k = 2 ∨ k = 3) with rfl | rfl | rfl | rfl
      · exact h.fuse
      · exact g4
      · exact g5
      · exact g6
    omega
theorem OwnB.form {w : World} {B : Nat} {v : Value} {l : List UInt8} (h : OwnB w B v l) : ∃ ao cap, v = .slice ao l.length cap := by
  obtain ⟨⟨ao, cap, e, _⟩, _⟩ := h.bytes
  exact ⟨ao, cap, e⟩
theorem ne_u8 {w : World} {jb db lb mb N : Nat} {d : List UInt8} {dd : Bool} {D : DK} (hj : JAt w jb db N d dd) (h : DiskAt w db lb mb D) : ∀ k ∈ [jb, db, lb, mb], ∀ C, w.heap[k]? ≠ some (.cells C 5 (0, 0)) := by
  intro k hk C e
  rcases List.mem_cons.1 hk with rfl | hk
  · obtain ⟨ao, cap, h1, _⟩ := hj.ex
    rw [h1] at e; have h2 := Option.some.inj e; injection h2 with _ h3; exact absurd h3 (by decide)
  · obtain ⟨n1, n2, n3⟩ := Add1At.ne h e (by decide) (by decide)
    simp [n1, n2, n3] at hk
theorem OwnB.frT {w w' : World} {B : Nat} {v : Value} {l : List UInt8} {F : List Nat} (h : OwnB w B v l) (hf : Fr F w w') (hF : ∀ k ∈ F, ∀ C, w.heap[k]? ≠ some (.cells C 5 (0, 0))) : OwnB w' B v l :=
  ownsRow_cong h (fun k hk => by
    obtain ⟨_, C, h1⟩ := h.blk k hk
    exact hf.block k (World.ownsRow.lt h k hk).2 (fun hm => hF k hm C h1))
theorem grown_fr' {w w' : World} {v : Value} (h : w.grownBy w' v.ownBlock) : Fr v.ownBlock.toList w w' :=
  ⟨h.os, h.tape, h.output, h.size, fun k hk hn => h.block k hk (fun e => hn (by rw [← e]; simp))⟩
/-- the data of the journal do not lie where these bytes lie -/
def ApartD (w : World) (jb : Nat) (dv : Value) : Prop := ∃ vj, w.cell? ⟨jb, 2, none⟩ = some vj ∧ ∀ k, vj.ownBlock = some k → dv.ownBlock ≠ some k
theorem ApartD.fr {w w' : World} {jb db N : Nat} {d : List UInt8} {dd : Bool} {dv : Value} {F : List Nat} (h : ApartD w jb dv) (hj : JAt w jb db N d dd) (hf : Fr F w w') (hn : jb ∉ F) : ApartD w' jb dv := by
  obtain ⟨vj, h1, h2⟩ := h
  exact ⟨vj, (World.cell?_of_block (a := ⟨jb, 2, none⟩) (hf.block jb hj.lt hn)).trans h1, h2⟩
theorem step_grown {w w' : World} {B jb db lb mb N : Nat} {d l l' : List UInt8} {dd : Bool} {D : DK} {rs : List (List UInt8)} {dv dv' : Value} (hd : DH w db lb mb D rs) (hj : JAt w jb db N d dd) (ha : ApartD w jb dv) (ho : OwnB w B dv l) (hg : w.grownBy w' dv.ownBlock)
    (hk : dv'.ownBlock = dv.ownBlock ∨ dv'.ownBlock = some w.heap.size) (_ : OwnB w' B dv' l') : DH w' db lb mb D rs ∧ JAt w' jb db N d dd ∧ ApartD w' jb dv' := by
  have hf := grown_fr' hg
  have hmem : ∀ k ∈ dv.ownBlock.toList, ∃ C, w.heap[k]? = some (.cells C 5 (0, 0)) := fun k hk => by
    have e : dv.ownBlock = some k := by cases h : dv.ownBlock with
      | none => rw [h] at hk; simp at hk
      | some q => rw [h] at hk; simp at hk; rw [hk]
    exact (ho.blk k e).2
  have hne := ne_u8 hj hd.k
  have n0 : ∀ q ∈ [jb, db, lb, mb], q ∉ dv.ownBlock.toList := fun q hq hm => by obtain ⟨C, h1⟩ := hmem q hm; exact hne q hq C h1
  obtain ⟨vj, h1, h2⟩ := ha
  have h3 := hj.fr2 h1 hf (n0 _ (by simp)) (fun k hk hm => by
    have e : dv.ownBlock = some k := by cases h : dv.ownBlock with
      | none => rw [h] at hm; simp at hm
      | some q => rw [h] at hm; simp at hm; rw [hm]
    exact h2 k hk e)
  refine ⟨hd.fr hf (n0 _ (by simp)) (n0 _ (by simp)) (n0 _ (by simp)), h3.1, vj, h3.2, fun k hk' e => ?_⟩
  rcases hk with hk | hk
  · exact h2 k hk' (hk ▸ e)
  · rw [hk] at e
    have := hj.data_lt h1 k hk'
    have := Option.some.inj e
    omega
theorem read_int {db lb mb : Nat} {D : DK} (a m : Int) (w : World) (h : DiskAt w db lb mb D) (hd : D.dead = false) (ha : 0 ≤ a) (hm : 0 ≤ m) (ham : a + m ≤ D.n) :
    Calls Try.prog 17 #[.pointer (some ⟨db, 0, none⟩), .int .i64 a, .int .i64 m] w fun e w' => ∃ v, e = .returned (.tuple #[v, .int .i64 0]) ∧
      BytesAt w' v (64 * m.toNat) (fun j => D.now (64 * a.toNat + j)) ∧ Fr [] w w' := by
  obtain ⟨p, rfl⟩ := Int.eq_ofNat_of_zero_le ha
  obtain ⟨q, rfl⟩ := Int.eq_ofNat_of_zero_le hm
  exact (read_ok p q w h hd (by omega)).mono fun e w' ⟨v, h1, h2, h3⟩ => ⟨v, h1, (owns_bytes h2).1, h3⟩
theorem wrap_u64_nat (n : Nat) (h : n < 2 ^ 64) : IntKind.u64.wrap (n : Int) = (n : Int) := by
  simp only [IntKind.wrap, IntKind.bits, IntKind.signed]
  simp
  omega
theorem wpList_valG {P : Program} {ops : Array Oper} {Q : Exit → Act → World → Prop} {a : Act} {w w' : World} {rest : List Oper} {o : Oper} {v : Value} (hw : Region.wanted o (yielded ops a.tmps) = true) (hrun : (execOp a.eval o).run P w = .ok (.value v) w')
    (h : wpList P ops Q rest (a.put o.dst v) w') : wpList P ops Q (o :: rest) a w := by
  simp only [wpList]
  rw [if_pos hw]
  refine .inl ?_
  unfold Oper.wp
  rw [hrun]
  exact h
theorem BytesAt.preL {w : World} {ao : Option Addr} {M m cap : Nat} {f : Sec} (h : BytesAt w (.slice ao M cap) M f) (hm : m ≤ M) : BytesAt w (.slice ao m cap) m f := by
  obtain ⟨ao', cap', e, h1, h2, h3, h4⟩ := h
  cases e
  refine ⟨ao, cap, rfl, by omega, h2, fun e => ?_, fun h0 => ?_⟩
  · obtain ⟨a, b⟩ := h3 e
    exact ⟨by omega, b⟩
  · obtain ⟨b, off, rfl, hr⟩ := h4 (by omega)
    exact ⟨b, off, rfl, rangeAt_pre hr hm⟩
theorem conv_listN {w : World} {u : Value} {r : List UInt8} {m : Nat} (hr : r.length = m) (h : BytesAt w u m (lsec r)) : (convert 31 9 u).run Try.prog w = .ok (.string ⟨r.toArray⟩) w := by
  subst hr; exact conv_list h
set_option maxRecDepth 100000 in
set_option maxHeartbeats 4000000 in
theorem journalHeads_main (n : Nat) (v : Value) (ls : List (List UInt8)) (w : World) (h4 : 4 ≤ n) (h60 : n ≤ 60) (hv : BytessAt w v ls) (hl : ls.length ≤ 60) : Calls Try.prog 8 #[.int .i64 (n : Int), v] w fun e w' => e = .returned (.bool true) ∧ Fr [] w w' := by
  have hv' := hv
  obtain ⟨ao, cap, rfl, hb1, hb2, _⟩ := hv'
  have HV := Lib.hid hv
  unfold maxLen at hb2
  clear hv
  have g1 : ¬ (n : Int) < 4 := by omega
  have g2 : ¬ (60 : Int) < (n : Int) := by omega
  have g3 : ¬ (60 : Int) < (ls.length : Int) := by omega
  go_enter Try.func8, Try.ntmps8
  go_wp2_with fail
  refine (new_held n w h4 (by omega)).mono ?_
  rintro e w1 ⟨rfl, hd1, hf1, hs1⟩
  have HD1 := Lib.hid hd1
  have HF1 := Lib.hid hf1
  have s1 : w.heap.size + 3 ≤ w1.heap.size := by omega
  clear hd1 hf1 hs1
  go_wp2_with fail
  refine (open_held w1 HD1.out).mono ?_
  rintro e w2 ⟨jb, rfl, hj2, hjb, hf2⟩
  have HD2 := Lib.hid (HD1.out.fr0 hf2)
  have HF2 := Lib.hid (HF1.out.trans hf2)
  have HJ2 := Lib.hid hj2
  have s2 := hf2.size
  clear hj2 hf2 HD1 HF1
  go_wp2_with fail
  obtain ⟨B, hB⟩ : ∃ B, w2.heap.size = B := ⟨_, rfl⟩
  have hap0 : ApartD w2 jb (.slice none 0 0) := by
    obtain ⟨ao', cap', h1, _⟩ := HJ2.out.ex
    exact ⟨.slice ao' _ cap', by rw [cell_of_row w2 jb 2 _ _ _ h1]; rfl, fun k _ e => by simp [Value.ownBlock] at e⟩
  have HAP0 := Lib.hid hap0
  clear hap0
  go_loopw [9, 10, 11, 12] (fun dv av nv i wr => ∃ (k : Nat) (rs : List (List UInt8)) (D : DK) (da : Option Addr) (dc : Nat), k ≤ ls.length ∧ i = .int .i64 (k : Int) ∧ dv = .slice da (encAll rs).length dc ∧ av = .int .i64 ((encAll rs.dropLast).length : Int) ∧ nv = .int .i64 (rs.length : Int) ∧ B ≤ wr.heap.size ∧
      Hid (DH wr (w.heap.size + 2) w.heap.size (w.heap.size + 1) D rs) ∧ Hid (D.n = n ∧ D.M = fun _ => none) ∧ Hid (JS D.n D.now rs) ∧ Hid (JAt wr jb (w.heap.size + 2) rs.length (encAll rs) false) ∧ Hid (OwnB wr B (.slice da (encAll rs).length dc) (encAll rs)) ∧ Hid (ApartD wr jb (.slice da (encAll rs).length dc)) ∧ Hid (Fr [] w wr))
    (fun _ _ _ i _ => ls.length - (intOf i).toNat)
  case atStart =>
    exact ⟨0, [], DK.fresh n, none, 0, Nat.zero_le _, rfl, rfl, rfl, rfl, by omega, HD2, Lib.hid ⟨rfl, rfl⟩, Lib.hid (JS.fresh n), HJ2, Lib.hid (OwnB.nil _ _), HAP0, HF2⟩
  case round =>
    obtain ⟨k, rs, D, da, dc, hk, rfl, rfl, rfl, rfl, hBr, HD, HDN, HS, HJ, HO, HA, HF⟩ := hrel
    by_cases hlt : k < ls.length
    · have hltd : decide ((k : Int) < (ls.length : Int)) = true := by rw [decide_eq_true_eq]; omega
      obtain ⟨r, hr⟩ : ∃ r, ls[k]? = some r := ⟨_, List.getElem?_eq_getElem hlt⟩
      obtain ⟨b1, o1, u1, rfl, c1, y1⟩ := (HV.out.fr0 HF.out).get hr
      obtain ⟨b0, o0, u0, e0, c0, y0⟩ := HV.out.get hr
      cases e0
      have eu : u0 = u1 := by
        have h1 := (World.cell?_of_block (a := ⟨b1, o1 + k, none⟩) (HF.out.block b1 (cell_lt c0) (by simp))).trans c0
        rw [c1] at h1
        exact (Option.some.inj h1).symm
      subst eu
      have hbw : b1 < w.heap.size := cell_lt c0
      have HR := Lib.hid hr
      have HY0 := Lib.hid y0
      have HC0 := Lib.hid c0
      obtain ⟨uo, uc, rfl, hu1, hu2, _⟩ := y1
      unfold maxLen at hu2
      clear y0 hr c0
      by_cases h400 : r.length ≤ 400
      · have h400i : ¬ (400 : Int) < (r.length : Int) := by omega
        have hfb : (encAll rs).length ≤ 3712 := by have h1 := HD.out.c.fit; have h2 := HDN.out.1; rw [h2] at h1; omega
        have hrl := HD.out.c.cnt.1
        by_cases hfit : (encAll rs).length + 4 + r.length ≤ (n - 2) * 64
        · have HFI := Lib.hid hfit
          clear hfit
          go_wp2_with fail
          refine (add_heldS uo uc wr HJ.out HD.out HS.out (HY0.out.fr HF.out (by simp)) (by omega) (by rw [HDN.out.1]; exact HFI.out)).mono ?_
          rintro e w4 ⟨rfl, ⟨D4, hd4, hs4', hn4, hm4⟩, hj4, hf4, g4, cap4, hg4, hgs4⟩
          have HD4 := Lib.hid hd4
          have HS4 := Lib.hid hs4'
          have HJ4 := Lib.hid hj4
          have HN4 := Lib.hid (show D4.n = n ∧ D4.M = fun _ => none from ⟨hn4.trans HDN.out.1, hm4⟩)
          have HO4 := Lib.hid (HO.out.frT hf4 (ne_u8 HJ.out HD.out.k))
          have HA4 : Hid (ApartD w4 jb (.slice da (encAll rs).length dc)) := Lib.hid ⟨_, hg4, fun q hq e => by
            have h1 : g4 = q := by simpa [Value.ownBlock] using hq
            have h2 := (World.ownsRow.lt HO.out q e).2
            omega⟩
          have c4 : w4.cell? ⟨b1, o1 + k, none⟩ = some (.slice uo r.length uc) := (World.cell?_of_block (a := ⟨b1, o1 + k, none⟩) (hf4.block b1 (cell_lt c1) (by simp; omega))).trans c1
          have HF4 := Lib.hid (HF.out.then_new hf4 (by simp; omega))
          have s4 := hf4.size
          clear hd4 hs4' hn4 hm4 hj4 hf4 hg4 hgs4 HF HD HJ HO HA HS c1
          have hwu := wrap_u64_nat r.length (by omega)
          go_wp2_with fail
          refine wp_region_plan [(0, false), (1, false), (2, false), (3, false), (4, false), (5, false), (6, false), (9, false), (10, false), (11, false), (12, false), (7, true), (8, true), (13, true), (14, false)] (fun w' => w'.cell? ⟨b1, o1 + k, none⟩ = some (.slice uo r.length uc)) (by kernel_rfl) (by kernel_rfl) c4 ?_
          iterate 11 (refine' plan_val rfl rfl (fun w' hS => ?_) ?_; rotate_left; (focus (go_simp; rfl)); simp only [Act.put, List.setIfInBounds_toArray, List.set_cons_zero, List.set_cons_succ])
          refine plan_do rfl (fun K hK => ?_)
          go_wp2_with fail
          refine (number_own r.length 4 B (by omega) (by omega) w4.drew (by show B ≤ w4.heap.size; omega)).mono ?_
          rintro e w5 ⟨u5, rfl, _, _, hb5, hf5⟩
          have c5 : w5.cell? ⟨b1, o1 + k, none⟩ = some (.slice uo r.length uc) := (World.cell?_of_block (a := ⟨b1, o1 + k, none⟩) (hf5.block b1 (cell_lt c4) (by simp))).trans c4
          have hf5' : Fr [] w4 w5 := (Fr.drew _ _).trans hf5
          have HD5 := Lib.hid (HD4.out.fr0 hf5')
          have HJ5 := Lib.hid (HJ4.out.fr0 hf5')
          have HO5 := Lib.hid (HO4.out.fr0 hf5')
          have HA5 := Lib.hid (HA4.out.fr HJ4.out hf5' (by simp))
          have HF5 := Lib.hid (HF4.out.trans hf5')
          have HB5 := Lib.hid hb5
          have s5 := hf5'.size
          clear hb5 hf5 hf5' HD4 HJ4 HO4 HA4 HF4
          go_wp2_with fail
          refine hK _ _ c5 ?_
          clear hK K
          refine plan_do rfl (fun K hK => ?_)
          refine wpList_append_G rfl _ _ rfl B rfl HO5.out rfl HB5.out (by omega) (by omega) (fun u6 w6 ho6 hg6 hk6 => ?_)
          obtain ⟨h61, h62, h63⟩ := step_grown HD5.out HJ5.out HA5.out HO5.out hg6 hk6 ho6
          have hfr6 := HF5.out.then_grown HO5.out (by omega) hg6
          have c6 : w6.cell? ⟨b1, o1 + k, none⟩ = some (.slice uo r.length uc) := (World.cell?_of_block (a := ⟨b1, o1 + k, none⟩) (hg6.block b1 (cell_lt c5) (fun e => by have := (HO5.out.blk _ e.symm).1; omega))).trans c5
          have s6 := hg6.size
          have HD6 := Lib.hid h61
          have HJ6 := Lib.hid h62
          have HA6 := Lib.hid h63
          have HO6 := Lib.hid ho6
          have HF6 := Lib.hid hfr6
          have HY6 := Lib.hid (HY0.out.fr hfr6 (by simp))
          clear h61 h62 h63 hfr6 hg6 hk6 ho6 HD5 HJ5 HO5 HA5 HF5 HB5
          refine wpList_nil ?_
          refine hK _ _ c6 ?_
          clear hK K
          refine plan_do rfl (fun K hK => ?_)
          refine wpList_append_G rfl _ _ rfl B rfl HO6.out rfl HY6.out (by omega) (by rw [List.length_append, secL_len]; omega) (fun u7 w7 ho7 hg7 hk7 => ?_)
          obtain ⟨h71, h72, h73⟩ := step_grown HD6.out HJ6.out HA6.out HO6.out hg7 hk7 ho7
          have hfr7 := HF6.out.then_grown HO6.out (by omega) hg7
          have c7 : w7.cell? ⟨b1, o1 + k, none⟩ = some (.slice uo r.length uc) := (World.cell?_of_block (a := ⟨b1, o1 + k, none⟩) (hg7.block b1 (cell_lt c6) (fun e => by have := (HO6.out.blk _ e.symm).1; omega))).trans c6
          have s7 := hg7.size
          have hel : encAll rs ++ secL 4 (lsec (be 4 r.length)) ++ secL r.length (lsec r) = encAll (rs ++ [r]) := by
            have e1 : secL 4 (lsec (be 4 r.length)) = be 4 r.length := by have := secL_lsec (be 4 r.length); rw [be_len] at this; exact this
            rw [e1, secL_lsec, encAll_append, encAll_one, List.append_assoc]; rfl
          rw [hel] at ho7
          obtain ⟨da7, dc7, rfl⟩ := ho7.form
          have HD7 := Lib.hid h71
          have HJ7 := Lib.hid h72
          have HA7 := Lib.hid h73
          have HO7 := Lib.hid ho7
          have HF7 := Lib.hid hfr7
          clear h71 h72 h73 hfr7 hg7 hk7 ho7 HD6 HJ6 HO6 HA6 HF6 HY6 hel
          refine wpList_nil ?_
          refine hK _ _ c7 ?_
          clear hK K
          (refine' plan_val rfl rfl (fun w' hS => ?_) ?_; rotate_left; (focus (go_simp; rfl)); simp only [Act.put, List.setIfInBounds_toArray, List.set_cons_zero, List.set_cons_succ])
          refine plan_nil ?_
          clear hwu
          go_wp2_with fail
          exact ⟨⟨k + 1, rs ++ [r], D4, da7, dc7, by omega, by go_num, rfl, by rw [List.dropLast_concat], by rw [List.length_append, List.length_singleton]; go_num, by omega, HD7, HN4, HS4, HJ7, HO7, HA7, HF7⟩, by simp [intOf]; omega⟩
        · have HFI := Lib.hid hfit
          clear hfit
          go_wp2_with fail
          refine (add_full_held uo r.length uc wr HJ.out HD.out (by omega) (by rw [HDN.out.1]; exact HFI.out)).mono ?_
          rintro e w4 ⟨rfl, hf4⟩
          have HF4 := Lib.hid (HF.out.trans hf4)
          have HD4 := Lib.hid (HD.out.fr0 hf4)
          have HJ4 := Lib.hid (HJ.out.fr0 hf4)
          have HO4 := Lib.hid (HO.out.fr0 hf4)
          have HA4 := Lib.hid (HA.out.fr HJ.out hf4 (by simp))
          have s4 := hf4.size
          clear hf4 HF HD HJ HO HA c1
          go_wp2_with fail
          exact ⟨⟨k + 1, rs, D, da, dc, by omega, by go_num, rfl, rfl, rfl, by omega, HD4, HDN, HS, HJ4, HO4, HA4, HF4⟩, by simp [intOf]; omega⟩
      · have h400i : (400 : Int) < (r.length : Int) := by omega
        go_wp2_with fail
        go_ret
        exact ⟨rfl, HF.out⟩
    · have hke : k = ls.length := by omega
      subst hke
      have hfb : (encAll rs).length ≤ 64 * (n - 2) := by have h1 := HD.out.c.fit; have h2 := HDN.out.1; rw [h2] at h1; omega
      have hrl := HD.out.c.cnt.1
      have hfb2 : (encAll rs).length ≤ 3712 := by omega
      by_cases hne : rs = []
      · subst hne
        obtain ⟨L, hL⟩ : ∃ L, (encAll ([] : List (List UInt8))).length = L := ⟨_, rfl⟩
        obtain ⟨A, hA⟩ : ∃ A, (encAll ([] : List (List UInt8)).dropLast).length = A := ⟨_, rfl⟩
        obtain ⟨N, hN⟩ : ∃ N, ([] : List (List UInt8)).length = N := ⟨_, rfl⟩
        obtain ⟨M, hM⟩ : ∃ M, 64 * (n - 2) = M := ⟨_, rfl⟩
        have HM := Lib.hid hM
        have HO' : Hid (OwnB wr B (.slice da 0 dc) []) := HO
        have HDC := Lib.hid HD.out.c
        rw [hN, hL, hA]
        obtain rfl : L = 0 := hL.symm
        obtain rfl : A = 0 := hA.symm
        obtain rfl : N = 0 := hN.symm
        clear hL hA hN hM HO HA hrl hfb hfb2
        go_wp2_with fail
        refine (read_int _ _ wr HD.out.k HD.out.dead (by omega) (by omega) (by rw [HDN.out.1]; omega)).mono ?_
        rintro e w3 ⟨va, rfl, _, hf3⟩
        have HD3 := Lib.hid (HD.out.fr0 hf3)
        have HO3 := Lib.hid (HO'.out.fr0 hf3)
        have HF3 := Lib.hid (HF.out.trans hf3)
        have s3 := hf3.size
        clear hf3 HD HO' HF HJ
        go_wp2_with fail
        refine (read_int _ _ w3 HD3.out.k HD3.out.dead (by omega) (by omega) (by rw [HDN.out.1]; omega)).mono ?_
        rintro e w4 ⟨vb, rfl, _, hf4⟩
        have HD4 := Lib.hid (HD3.out.fr0 hf4)
        have HO4 := Lib.hid (HO3.out.fr0 hf4)
        have HF4 := Lib.hid (HF3.out.trans hf4)
        have s4 := hf4.size
        clear hf4 HD3 HO3 HF3
        go_wp2_with fail
        refine (read_int _ _ w4 HD4.out.k HD4.out.dead (by omega) (by omega) (by rw [HDN.out.1]; omega)).mono ?_
        rintro e w5 ⟨vc, rfl, hbc, hf5⟩
        have HBC : Hid (BytesAt w5 vc M (fun j => D.now (64 * 2 + j))) := Lib.hid (by
          have e : 64 * ((n : Int) - 2).toNat = M := by have := HM.out; omega
          rw [e] at hbc; exact hbc)
        have HO5 := Lib.hid (HO4.out.fr0 hf5)
        have HF5 := Lib.hid (HF4.out.trans hf5)
        have s5 := hf5.size
        have hMp : 128 ≤ M := by have := HM.out; omega
        obtain ⟨ca, cc, rfl, hcc1, hcc2, _, hcc4⟩ := HBC.out
        obtain ⟨bc, oc, rfl, _⟩ := hcc4 (by omega)
        unfold maxLen at hcc2
        clear hbc hf5 HD4 HO4 HF4
        have hLM : ¬ (M : Int) < 0 := by omega
        have hLMd : decide ((M : Int) < 0) = false := by rw [decide_eq_false_iff_not]; omega
        go_wp2_with fail
        refine (head_any 0 0 (by omega) (by omega) w5).mono ?_
        rintro e w6 ⟨vw, rfl, _, hf6⟩
        have HBC6 := Lib.hid (HBC.out.fr hf6 (by simp))
        have HBD6 : Hid (BytesAt w6 (.slice da 0 dc) 0 (lsec [])) := Lib.hid (HO5.out.fr0 hf6).bytes.1
        have HF6 := Lib.hid (HF5.out.trans hf6)
        have s6 := hf6.size
        clear hf6 HBC HF5 HO5 hLM hLMd
        go_wp2_with fail
        have hS0 : Hid (BytesAt w6.drew (.slice (some ⟨bc, oc, none⟩) M cc) M (fun j => D.now (64 * 2 + j)) ∧ BytesAt w6.drew (.slice da 0 dc) 0 (lsec [])) := Lib.hid ⟨HBC6.out, HBD6.out⟩
        refine wp_region_plan [(0, false), (1, false), (2, false), (3, false), (4, false), (5, false), (6, false), (7, false), (8, false), (9, false), (10, false), (11, false), (12, false), (13, false), (14, false), (15, false), (16, false), (17, false), (18, false), (19, false), (20, false), (21, false), (22, false), (23, false), (24, false), (25, false), (26, false), (27, false), (28, false), (29, false), (30, false), (31, false), (32, false), (33, false), (34, false)]
          (fun u => Hid (BytesAt u (.slice (some ⟨bc, oc, none⟩) M cc) M (fun j => D.now (64 * 2 + j)) ∧ BytesAt u (.slice da 0 dc) 0 (lsec []))) (by kernel_rfl) (by kernel_rfl) hS0 ?_
        have hLcc : 0 ≤ cc := by omega
        iterate 3 (refine' plan_val rfl rfl (fun w' hS => ?_) ?_; rotate_left; (focus (go_simp; rfl)); simp only [Act.put, List.setIfInBounds_toArray, List.set_cons_zero, List.set_cons_succ])
        iterate 10 (refine plan_skip rfl rfl ?_; simp only [Act.put, List.setIfInBounds_toArray, List.set_cons_zero, List.set_cons_succ])
        iterate 5 (refine' plan_val rfl rfl (fun w' hS => ?_) ?_; rotate_left; (focus (go_simp; rfl)); simp only [Act.put, List.setIfInBounds_toArray, List.set_cons_zero, List.set_cons_succ])
        iterate 5 (refine plan_skip rfl rfl ?_; simp only [Act.put, List.setIfInBounds_toArray, List.set_cons_zero, List.set_cons_succ])
        iterate 7 (refine' plan_val rfl rfl (fun w' hS => ?_) ?_; rotate_left; (focus (go_simp; rfl)); simp only [Act.put, List.setIfInBounds_toArray, List.set_cons_zero, List.set_cons_succ])
        refine plan_val rfl rfl (fun w' hS => exec_convert (src := 31) (dst := 9) (x := .tmp 160) rfl rfl (conv_listN (r := []) rfl ((hS.out.1.preL (Nat.zero_le _)).congr (fun j hj => absurd hj (Nat.not_lt_zero _))))) ?_
        simp only [Act.put, List.setIfInBounds_toArray, List.set_cons_zero, List.set_cons_succ]
        (refine' plan_val rfl rfl (fun w' hS => ?_) ?_; rotate_left; (focus (go_simp; rfl)); simp only [Act.put, List.setIfInBounds_toArray, List.set_cons_zero, List.set_cons_succ])
        refine plan_val rfl rfl (fun w' hS => exec_convert (src := 31) (dst := 9) (x := .tmp 162) rfl rfl (conv_listN (r := []) rfl hS.out.2)) ?_
        simp only [Act.put, List.setIfInBounds_toArray, List.set_cons_zero, List.set_cons_succ]
        iterate 2 (refine' plan_val rfl rfl (fun w' hS => ?_) ?_; rotate_left; (focus (go_simp; rfl)); simp only [Act.put, List.setIfInBounds_toArray, List.set_cons_zero, List.set_cons_succ])
        refine plan_nil ?_
        go_wp2_with fail
        have hM4 : (M : Int) ≤ 3712 := by have := HM.out; omega
        go_loop [20] (fun i => ∃ m : Nat, m ≤ M ∧ i = .int .i64 (m : Int)) (fun i => M - (intOf i).toNat)
        case atStart => exact ⟨0, Nat.zero_le _, rfl⟩
        case round =>
          obtain ⟨m, hm2, rfl⟩ := hrel
          by_cases hmlt : m < M
          · have cm : w6.drew.cell? ⟨bc, oc + m, none⟩ = some (.int .u8 0) := by
              obtain ⟨_, _, e1, _, _, _, e2⟩ := hS0.out.1
              cases e1
              obtain ⟨_, _, e3, hr⟩ := e2 (by omega)
              cases e3
              have h1 := hr m _ (rowL_get _ hmlt)
              have h2 := HS.out.zf m (Nat.zero_le _) (by have := HM.out; rw [HDN.out.1]; omega)
              rw [h2] at h1
              exact h1
            go_wp2_with fail
            go_round
            case rel => exact ⟨m + 1, by omega, by go_num⟩
            case measure => simp [intOf]; omega
          · have hme : m = M := by omega
            subst hme
            go_wp2_with fail
            refine (keeps13_true w6.drew).mono ?_
            rintro e w9 ⟨rfl, hf9⟩
            go_wp2_with fail
            go_ret
            exact ⟨rfl, (HF6.out.trans (Fr.drew _ _)).trans hf9⟩
      · obtain ⟨p, hp⟩ : ∃ p, rs.length = p + 1 := ⟨rs.length - 1, by have := List.length_pos_iff.2 hne; omega⟩
        obtain ⟨L, hL⟩ : ∃ L, (encAll rs).length = L := ⟨_, rfl⟩
        obtain ⟨A, hA⟩ : ∃ A, (encAll rs.dropLast).length = A := ⟨_, rfl⟩
        obtain ⟨M, hM⟩ : ∃ M, 64 * (n - 2) = M := ⟨_, rfl⟩
        have HP := Lib.hid hp
        have HL := Lib.hid hL
        have HAA := Lib.hid hA
        have HM := Lib.hid hM
        rw [hp] at hrl
        rw [hL] at hfb hfb2
        rw [hM] at hfb
        have hAl : A ≤ L := by
          have e := List.dropLast_concat_getLast hne
          have h1 : encAll rs = encAll rs.dropLast ++ encAll [rs.getLast hne] := by rw [← encAll_append, e]
          have h2 := congrArg List.length h1
          rw [List.length_append] at h2
          omega
        have HO' : Hid (OwnB wr B (.slice da L dc) (encAll rs)) := Lib.hid (by rw [← HL.out]; exact HO.out)
        have HDC := Lib.hid HD.out.c
        rw [hp, hL, hA]
        clear hp hL hA hM HO HA
        go_wp2_with fail
        refine (read_int _ _ wr HD.out.k HD.out.dead (by omega) (by omega) (by rw [HDN.out.1]; omega)).mono ?_
        rintro e w3 ⟨va, rfl, hba, hf3⟩
        have HBA : Hid (BytesAt w3 va 64 (lsec (headL (p + 1) L))) := Lib.hid (hba.congr (fun j hj => by
          have h1 := HD.out.c.hp j hj
          rw [HP.out, HL.out] at h1
          rw [← h1]; congr 1))
        have HD3 := Lib.hid (HD.out.fr0 hf3)
        have HJ3 := Lib.hid (HJ.out.fr0 hf3)
        have HO3 := Lib.hid (HO'.out.fr0 hf3)
        have HF3 := Lib.hid (HF.out.trans hf3)
        have s3 := hf3.size
        clear hba hf3 HD HJ HO' HF
        go_wp2_with fail
        refine (read_int _ _ w3 HD3.out.k HD3.out.dead (by omega) (by omega) (by rw [HDN.out.1]; omega)).mono ?_
        rintro e w4 ⟨vb, rfl, hbb, hf4⟩
        have HBB : Hid (BytesAt w4 vb 64 (lsec (headL p A))) := Lib.hid (hbb.congr (fun j hj => by
          have h1 := HS.out.hx hne j hj
          rw [HP.out, HAA.out, Nat.add_sub_cancel] at h1
          rw [← h1]; congr 2; omega))
        have HBA4 := Lib.hid (HBA.out.fr hf4 (by simp))
        have HD4 := Lib.hid (HD3.out.fr0 hf4)
        have HJ4 := Lib.hid (HJ3.out.fr0 hf4)
        have HO4 := Lib.hid (HO3.out.fr0 hf4)
        have HF4 := Lib.hid (HF3.out.trans hf4)
        have s4 := hf4.size
        clear hbb hf4 HD3 HJ3 HO3 HF3 HBA
        go_wp2_with fail
        refine (read_int _ _ w4 HD4.out.k HD4.out.dead (by omega) (by omega) (by rw [HDN.out.1]; omega)).mono ?_
        rintro e w5 ⟨vc, rfl, hbc, hf5⟩
        have HBC : Hid (BytesAt w5 vc M (fun j => D.now (64 * 2 + j))) := Lib.hid (by
          have e : 64 * ((n : Int) - 2).toNat = M := by have := HM.out; omega
          rw [e] at hbc; exact hbc)
        have HBA5 := Lib.hid (HBA4.out.fr hf5 (by simp))
        have HBB5 := Lib.hid (HBB.out.fr hf5 (by simp))
        have HD5 := Lib.hid (HD4.out.fr0 hf5)
        have HO5 := Lib.hid (HO4.out.fr0 hf5)
        have HF5 := Lib.hid (HF4.out.trans hf5)
        have s5 := hf5.size
        have hMp : 128 ≤ M := by have := HM.out; omega
        obtain ⟨ca, cc, rfl, hcc1, hcc2, _, hcc4⟩ := HBC.out
        obtain ⟨bc, oc, rfl, _⟩ := hcc4 (by omega)
        unfold maxLen at hcc2
        clear hbc hf5 HD4 HJ4 HO4 HF4 HBA4 HBB
        have hpw := wrap_u64_nat p (by omega)
        have hAw := wrap_u64_nat A (by omega)
        have hLM : ¬ (M : Int) < (L : Int) := by omega
        have hLMd : decide ((M : Int) < (L : Int)) = false := by rw [decide_eq_false_iff_not]; omega
        go_wp2_with fail
        refine (head_any p A (by omega) (by omega) w5).mono ?_
        rintro e w6 ⟨vw, rfl, how, hf6⟩
        have HBW : Hid (BytesAt w6 vw 64 (lsec (headL p A))) := Lib.hid (by have h := how.bytes.1; rw [headL_len] at h; exact h)
        have HBA6 := Lib.hid (HBA5.out.fr hf6 (by simp))
        have HBB6 := Lib.hid (HBB5.out.fr hf6 (by simp))
        have HBC6 := Lib.hid (HBC.out.fr hf6 (by simp))
        have HBD6 : Hid (BytesAt w6 (.slice da L dc) L (lsec (encAll rs))) := Lib.hid (by have h := (HO5.out.fr0 hf6).bytes.1; rw [HL.out] at h; exact h)
        have HF6 := Lib.hid (HF5.out.trans hf6)
        have s6 := hf6.size
        clear how hf6 HBA5 HBB5 HBC HF5 HD5 HO5 hpw hAw hLM hLMd
        go_wp2_with fail
        have hS0 : Hid (BytesAt w6.drew va 64 (lsec (headL (p + 1) L)) ∧ BytesAt w6.drew vb 64 (lsec (headL p A)) ∧ BytesAt w6.drew (.slice (some ⟨bc, oc, none⟩) M cc) M (fun j => D.now (64 * 2 + j)) ∧ BytesAt w6.drew (.slice da L dc) L (lsec (encAll rs)) ∧ BytesAt w6.drew vw 64 (lsec (headL p A))) := Lib.hid ⟨HBA6.out, HBB6.out, HBC6.out, HBD6.out, HBW.out⟩
        refine wp_region_plan [(0, false), (1, false), (2, false), (3, false), (4, false), (5, false), (6, false), (7, false), (8, false), (9, false), (10, true), (11, true), (12, false), (13, false), (14, false), (15, false), (16, false), (17, false), (18, false), (19, false), (20, false), (21, false), (22, false), (23, false), (24, false), (25, false), (26, false), (27, false), (28, false), (29, false), (30, false), (31, false), (32, false), (33, false), (34, false)]
          (fun u => Hid (BytesAt u va 64 (lsec (headL (p + 1) L)) ∧ BytesAt u vb 64 (lsec (headL p A)) ∧ BytesAt u (.slice (some ⟨bc, oc, none⟩) M cc) M (fun j => D.now (64 * 2 + j)) ∧ BytesAt u (.slice da L dc) L (lsec (encAll rs)) ∧ BytesAt u vw 64 (lsec (headL p A)))) (by kernel_rfl) (by kernel_rfl) hS0 ?_
        have hpw : IntKind.u64.wrap ((p : Int) + 1) = (p : Int) + 1 := by have := wrap_u64_nat (p + 1) (by omega); push_cast at this; exact this
        have hLw := wrap_u64_nat L (by omega)
        have hpp : (0 : Int) < (p : Int) + 1 := by omega
        iterate 4 (refine' plan_val rfl rfl (fun w' hS => ?_) ?_; rotate_left; (focus (go_simp; rfl)); simp only [Act.put, List.setIfInBounds_toArray, List.set_cons_zero, List.set_cons_succ])
        refine plan_val rfl rfl (fun w' hS => exec_convert rfl rfl (conv_listN (headL_len (p + 1) L) hS.out.1)) ?_
        simp only [Act.put, List.setIfInBounds_toArray, List.set_cons_zero, List.set_cons_succ]
        iterate 5 (refine' plan_val rfl rfl (fun w' hS => ?_) ?_; rotate_left; (focus (go_simp; rfl)); simp only [Act.put, List.setIfInBounds_toArray, List.set_cons_zero, List.set_cons_succ])
        refine plan_do rfl (fun K hK => ?_)
        go_wp2_with fail
        rw [show ((p : Int) + 1) = ((p + 1 : Nat) : Int) by omega]
        refine (head_any (p + 1) L (by omega) (by omega) _).mono ?_
        rintro e w7 ⟨vh, rfl, hoh, hf7⟩
        have HS7 : Hid (BytesAt w7 va 64 (lsec (headL (p + 1) L)) ∧ BytesAt w7 vb 64 (lsec (headL p A)) ∧ BytesAt w7 (.slice (some ⟨bc, oc, none⟩) M cc) M (fun j => D.now (64 * 2 + j)) ∧ BytesAt w7 (.slice da L dc) L (lsec (encAll rs)) ∧ BytesAt w7 vw 64 (lsec (headL p A))) :=
          Lib.hid ⟨hS0.out.1.fr hf7 (by simp), hS0.out.2.1.fr hf7 (by simp), hS0.out.2.2.1.fr hf7 (by simp), hS0.out.2.2.2.1.fr hf7 (by simp), hS0.out.2.2.2.2.fr hf7 (by simp)⟩
        have HBH : Hid (BytesAt w7 vh 64 (lsec (headL (p + 1) L))) := Lib.hid (by have h := hoh.bytes.1; rw [headL_len] at h; exact h)
        have HF7 : Hid (Fr [] w w7) := Lib.hid (HF6.out.trans ((Fr.drew _ _).trans hf7))
        have s7 := hf7.size
        clear hoh hf7 hS0 HBA6 HBB6 HBC6 HBD6 HBW HF6
        go_wp2_with fail
        refine hK _ _ HS7 ?_
        clear hK K
        refine plan_do rfl (fun K hK => ?_)
        refine wpList_valG rfl (exec_convert rfl rfl (conv_listN (headL_len (p + 1) L) HBH.out)) ?_
        refine wpList_nil ?_
        refine hK _ _ HS7 ?_
        clear hK K HBH hpw hLw
        obtain ⟨s1', hs1'⟩ : ∃ s : ByteArray, (⟨(headL (p + 1) L).toArray⟩ : ByteArray) = s := ⟨_, rfl⟩
        rw [hs1']
        clear hs1'
        iterate 7 (refine' plan_val rfl rfl (fun w' hS => ?_) ?_; rotate_left; (focus (go_simp; rfl)); simp only [Act.put, List.setIfInBounds_toArray, List.set_cons_zero, List.set_cons_succ])
        refine plan_val rfl rfl (fun w' hS => exec_convert (src := 31) (dst := 9) (x := .tmp 149) rfl rfl (conv_listN (headL_len p A) hS.out.2.1)) ?_
        simp only [Act.put, List.setIfInBounds_toArray, List.set_cons_zero, List.set_cons_succ]
        (refine' plan_val rfl rfl (fun w' hS => ?_) ?_; rotate_left; (focus (go_simp; rfl)); simp only [Act.put, List.setIfInBounds_toArray, List.set_cons_zero, List.set_cons_succ])
        refine plan_val rfl rfl (fun w' hS => exec_convert (src := 31) (dst := 9) (x := .tmp 151) rfl rfl (conv_listN (headL_len p A) hS.out.2.2.2.2)) ?_
        simp only [Act.put, List.setIfInBounds_toArray, List.set_cons_zero, List.set_cons_succ]
        obtain ⟨s2', hs2'⟩ : ∃ s : ByteArray, (⟨(headL p A).toArray⟩ : ByteArray) = s := ⟨_, rfl⟩
        rw [hs2']
        clear hs2'
        have hLcc : L ≤ cc := by omega
        iterate 8 (refine' plan_val rfl rfl (fun w' hS => ?_) ?_; rotate_left; (focus (go_simp; rfl)); simp only [Act.put, List.setIfInBounds_toArray, List.set_cons_zero, List.set_cons_succ])
        refine plan_val rfl rfl (fun w' hS => exec_convert (src := 31) (dst := 9) (x := .tmp 160) rfl rfl (conv_listN HL.out ((hS.out.2.2.1.preL hfb).congr (fun j hj => HDC.out.dat j (by rw [HL.out]; exact hj))))) ?_
        simp only [Act.put, List.setIfInBounds_toArray, List.set_cons_zero, List.set_cons_succ]
        (refine' plan_val rfl rfl (fun w' hS => ?_) ?_; rotate_left; (focus (go_simp; rfl)); simp only [Act.put, List.setIfInBounds_toArray, List.set_cons_zero, List.set_cons_succ])
        refine plan_val rfl rfl (fun w' hS => exec_convert (src := 31) (dst := 9) (x := .tmp 162) rfl rfl (conv_listN HL.out hS.out.2.2.2.1)) ?_
        simp only [Act.put, List.setIfInBounds_toArray, List.set_cons_zero, List.set_cons_succ]
        obtain ⟨s3', hs3'⟩ : ∃ s : ByteArray, (⟨(encAll rs).toArray⟩ : ByteArray) = s := ⟨_, rfl⟩
        rw [hs3']
        clear hs3'
        iterate 2 (refine' plan_val rfl rfl (fun w' hS => ?_) ?_; rotate_left; (focus (go_simp; rfl)); simp only [Act.put, List.setIfInBounds_toArray, List.set_cons_zero, List.set_cons_succ])
        refine plan_nil ?_
        go_wp2_with fail
        have hM4 : (M : Int) ≤ 3712 := by have := HM.out; omega
        go_loop [20] (fun i => ∃ m : Nat, L ≤ m ∧ m ≤ M ∧ i = .int .i64 (m : Int)) (fun i => M - (intOf i).toNat)
        case atStart => exact ⟨L, Nat.le_refl _, hfb, rfl⟩
        case round =>
          obtain ⟨m, hm1, hm2, rfl⟩ := hrel
          by_cases hmlt : m < M
          · have cm : w7.cell? ⟨bc, oc + m, none⟩ = some (.int .u8 0) := by
              obtain ⟨_, _, e1, _, _, _, e2⟩ := HS7.out.2.2.1
              cases e1
              obtain ⟨_, _, e3, hr⟩ := e2 (by omega)
              cases e3
              have h1 := hr m _ (rowL_get _ hmlt)
              have h2 := HS.out.zf m (by rw [HL.out]; exact hm1) (by have := HM.out; rw [HDN.out.1]; omega)
              rw [h2] at h1
              exact h1
            go_wp2_with fail
            go_round
            case rel => exact ⟨m + 1, by omega, by omega, by go_num⟩
            case measure => simp [intOf]; omega
          · have hme : m = M := by omega
            subst hme
            go_wp2_with fail
            refine (keeps13_true w7).mono ?_
            rintro e w9 ⟨rfl, hf9⟩
            go_wp2_with fail
            go_ret
            exact ⟨rfl, HF7.out.trans hf9⟩
end Go.Proofs.Ytgfdbjeliojhkaa
