/-
  Texts RefC, WrapI, RefD, WrapO, RefE, one behind the other. No condition beyond those stated in each.
-/
import Derived.Test.YtgfijlamhjjecaaGreatDoorMt11
import Derived.Test.YtgfijlamhjjecaaGreatDoorMt5
import Derived.IntWalk
import Derived.Test.YtgfijlamhjjecaaGreatDoorMt7
import Derived.Test.YtgfijlamhjjecaaGreatDoorMt4
namespace Go.Proofs.YtgfijlamhjjecaaGreatDoor
open Go.RowKit
def RSegQ (T : Str) (k : Nat) (l : List Seg) (w : World) (e : Ending) (w' : World) : Prop :=
  ((∃ (t : Str) (es : List (List Str)) (ev : Value) (k' : Nat), e = .returned (.tuple #[.agg #[sv t, ev], .int .i64 (k' : Int), .int .i64 0]) ∧ AtR T (.btw (l ++ [⟨t, es⟩])) k' ∧ k < k' ∧ k' ≤ T.length ∧ ElemsAt (fun b => w.heap.size ≤ b ∧ b < w'.heap.size) w' ev es) ∨
   (∃ (tb : ByteArray) (ea : Option Addr) (em ec k' : Nat) (n : Int), e = .returned (.tuple #[.agg #[.string tb, .slice ea em ec], .int .i64 (k' : Int), .int .i64 n]) ∧ n ≠ 0 ∧ parseE T = ([], k', n))) ∧ Below w.heap.size w w'
theorem results_cell_tmp2 {fn : Func} {p u v : Tmp} {ty : TypeId} (h : fn.results = #[.cell p ty, .tmp u, .tmp v]) (tmps : Array Value) (P : Program) (w : World) :
    (results fn tmps).run P w = ((asAddr (tmps.getD p undef)).run P w).andThen fun a w₁ => ((loadVar ty a).run P w₁).andThen fun x w₂ => .ok (.tuple #[x, tmps.getD u undef, tmps.getD v undef]) w₂ := by
  simp [results, h, Sem.run_bind]
theorem res_seg3 {fn : Func} {p u v : Tmp} (h : fn.results = #[.cell p 94, .tmp u, .tmp v]) (tmps : Array Value) {w : World} {g : Nat} {cs : Array Value} {x y : Value} {t : TypeId} (hp : tmps.getD p undef = .pointer (some ⟨g, 0, none⟩)) (hu : tmps.getD u undef = x) (hv : tmps.getD v undef = y)
    (hg : w.heap[g]? = some (.cells cs t (0, 0))) (hs : cs.size = 2) : (results fn tmps).run Tryz.prog w = .ok (.tuple #[.agg cs, x, y]) w := by
  rw [results_cell_tmp2 h, hp, hu, hv]
  have hl : (loadVar 94 ⟨g, 0, none⟩).run Tryz.prog w = .ok (.agg cs) w := run_loadVar_row w g t 94 cs (0, 0) _ hg Tryz.underlying94 rfl (by rw [hs]; kernel_rfl)
  simp [asAddr, hl, Result.andThen]
theorem cells2 {w : World} {g : Nat} {x y : Value} {t : TypeId} (h : w.heap[g]? = some (.cells #[x, y] t (0, 0))) : w.cell? ⟨g, 0, none⟩ = some x ∧ w.cell? ⟨g, 1, none⟩ = some y ∧ w.frozen? ⟨g, 0, none⟩ = false ∧ w.frozen? ⟨g, 1, none⟩ = false :=
  ⟨cell_of_row w g 0 _ _ _ h, cell_of_row w g 1 _ _ _ h, frozen_of_row w g 0 _ _ h, frozen_of_row w g 1 _ _ h⟩
theorem put2_heap {w : World} {g : Nat} {x y : Value} {t : TypeId} (h : w.heap[g]? = some (.cells #[x, y] t (0, 0))) (a b : Value) : ((w.setCell ⟨g, 0, none⟩ a).setCell ⟨g, 1, none⟩ b).heap[g]? = some (.cells #[a, b] t (0, 0)) :=
  heap_setCell_same _ g 1 _ _ _ (heap_setCell_same _ g 0 _ _ _ h)
def tagC (l : List Seg) (t : Str) : EC := if t.length < 3 then .tag l t else .bhd l t
def SBox (w : World) (b : Nat) (tb : ByteArray) (ev : Value) : Prop := w.heap[b]? = some (.cells #[.string tb, ev] 94 (0, 0))
theorem rseg_err {T : Str} {k : Nat} {l : List Seg} {w w' : World} {tb : ByteArray} {ea : Option Addr} {em ec k' : Nat} {n : Int} (hp : parseE T = ([], k', n)) (hn : n ≠ 0) (hb : Below w.heap.size w w') : RSegQ T k l w (.returned (.tuple #[.agg #[.string tb, .slice ea em ec], .int .i64 (k' : Int), .int .i64 n])) w' :=
  ⟨.inr ⟨tb, ea, em, ec, k', n, rfl, hn, hp⟩, hb⟩
theorem below_put2 {w0 w : World} {B : Nat} (h : Below B w0 w) (a b : Value) : Below B w0 ((w.setCell ⟨B, 0, none⟩ a).setCell ⟨B, 1, none⟩ b) := (h.setCell (show B ≤ B from Nat.le_refl _) _).setCell (show B ≤ B from Nat.le_refl _) _
theorem str_add (a b : ByteArray) (h : a.size + b.size ≤ 1000000) (W : World) : (Op.stringOp .add a b).run Tryz.prog W = .ok (.string (a ++ b)) W := run_string_add_sum _ _ _ (by omega)
def RHead (T : Str) (l : List Seg) (H sp : Nat) (tb : ByteArray) (w : World) (q : Nat) (c : UInt8) : Prop :=
  (SBox w sp tb (.slice none 0 0) ∧ AtR T (.bhd l tb.data.toList) q ∧ (c = 43 ∨ c = 39)) ∨
  (∃ es cs p ev cv ys, SG H sp tb w ev cv ys es (cs ++ [p]) ∧ es.length ≤ 15 ∧ cs.length ≤ 7 ∧ AtR T (.cmp l tb.data.toList es cs p) q ∧ (c = 43 ∨ c = 58 ∨ c = 39))
theorem sv_dat (r : ByteArray) : sv r.data.toList = .string r := by cases r; rfl
theorem RHead.exit {T : Str} {l : List Seg} {H sp : Nat} {tb : ByteArray} {w : World} {q : Nat} (h : RHead T l H sp tb w q 39) (hc : T[q]? = some 39) : ∃ E ev, SBox w sp tb ev ∧ ElemsAt (fun b => H ≤ b ∧ b < w.heap.size) w ev E ∧ AtR T (.btw (l ++ [⟨tb.data.toList, E⟩])) (q + 1) := by
  rcases h with ⟨h1, h2, _⟩ | ⟨es, cs, p, ev, cv, ys, h1, _, _, h2, _⟩
  · exact ⟨[], _, h1, ElemsAt.nil _ _, h2.step hc (st_bhd39 _ _)⟩
  · exact ⟨_, ev, h1.c, h1.close.rest, h2.step hc (st_39 _ _ _ _ _)⟩
theorem RHead.plus {T : Str} {l : List Seg} {H sp : Nat} {tb : ByteArray} {w : World} {q : Nat} (h : RHead T l H sp tb w q 43) (hc : T[q]? = some 43) (hl : T.length ≤ 65536) : ∃ E ev ys, OE H sp tb w ev ys E ∧ E.length ≤ 16 ∧ (E.length = 16 → parseE T = ([], q, 2)) ∧ (E.length ≠ 16 → AtR T (.cmp l tb.data.toList E [] []) (q + 1)) := by
  rcases h with ⟨h1, h2, _⟩ | ⟨es, cs, p, ev, cv, ys, h1, h3, _, h2, _⟩
  · exact ⟨[], _, [], OE.start h1, by simp, fun h => by simp at h, fun _ => h2.step hc (st_bhd43 _ _)⟩
  · refine ⟨_, ev, _, h1.close, by simp; omega, fun h => ?_, fun h => ?_⟩
    · exact h2.err hl hc (st_43l (by simpa using h))
    · exact h2.step hc (st_43 (by simpa using h))
theorem RHead.colon {T : Str} {l : List Seg} {H sp : Nat} {tb : ByteArray} {w : World} {q : Nat} (h : RHead T l H sp tb w q 58) (hc : T[q]? = some 58) (hl : T.length ≤ 65536) : ∃ es cs ev cv ys, SG H sp tb w ev cv ys es cs ∧ es.length ≤ 15 ∧ cs.length ≤ 8 ∧ (cs.length = 8 → parseE T = ([], q, 2)) ∧ (cs.length ≠ 8 → AtR T (.cmp l tb.data.toList es cs []) (q + 1)) := by
  rcases h with ⟨h1, h2, h3⟩ | ⟨es, cs, p, ev, cv, ys, h1, h3, h4, h2, _⟩
  · rcases h3 with h3 | h3 <;> exact absurd h3 (by decide)
  · refine ⟨es, cs ++ [p], ev, cv, ys, h1, h3, by simp; omega, fun h => ?_, fun h => ?_⟩
    · exact h2.err hl hc (st_58l (by simpa using h))
    · exact h2.step hc (st_58 (by simpa using h))
def RCut (T : Str) (l : List Seg) (H sp : Nat) (tb : ByteArray) (q : Nat) (w : World) : Prop :=
  ∃ es cs ev cv ys, SG H sp tb w ev cv ys es cs ∧ es.length ≤ 15 ∧ cs.length ≤ 8 ∧ (cs.length = 8 → parseE T = ([], q, 2)) ∧ (cs.length ≠ 8 → AtR T (.cmp l tb.data.toList es cs []) (q + 1))
set_option maxRecDepth 100000 in
set_option maxHeartbeats 8000000 in
theorem rsegment_any (s : ByteArray) (hs : s.size ≤ 65536) (k : Nat) (hk : k ≤ s.size) (l : List Seg) (h : AtR s.data.toList (.tag l []) k) (w : World) :
    Calls Tryz.prog 107 #[.string s, .int .i64 (k : Int)] w fun e w' => RSegQ s.data.toList k l w e w' := by
  obtain ⟨T, hT⟩ : ∃ T, s.data.toList = T := ⟨_, rfl⟩
  have HT := Lib.hid hT
  have HPT := Lib.hid (fun k' hk' l' t' es' cs' h' w' => part_any s hs k' hk' l' t' es' cs' h' w')
  rw [hT] at h HPT
  have hl0 : T.length = s.size := by rw [← hT]; simp
  have HL := Lib.hid hl0
  have HL6 : Hid (T.length ≤ 65536) := Lib.hid (by omega)
  have HA0 := Lib.hid h
  rw [hT]
  obtain ⟨B, hB⟩ : ∃ B, w.heap.size = B := ⟨_, rfl⟩
  have HBQ := Lib.hid hB
  obtain ⟨w1, hw1⟩ : ∃ w1, w.alloc (.cells #[.string ⟨#[]⟩, .slice none 0 0] 94) = w1 := ⟨_, rfl⟩
  obtain ⟨w2, hw2⟩ : ∃ w2, w1.alloc (.cells #[.string ⟨#[]⟩, .slice none 0 0] 94) = w2 := ⟨_, rfl⟩
  have hz1 : w1.heap.size = B + 1 := by rw [← hw1]; simp [hB]
  have hz2 : w2.heap.size = B + 2 := by rw [← hw2]; simp [hz1]
  have HB1 : Hid (Below B w w1) := Lib.hid (by rw [← hw1, ← hB]; exact (Below.refl _ _).alloc (Nat.le_refl _) _)
  have HB2 : Hid (Below (B + 1) w1 w2) := Lib.hid (by rw [← hw2, ← hz1]; exact (Below.refl _ _).alloc (Nat.le_refl _) _)
  have HR1 : Hid (SBox w1 B ⟨#[]⟩ (.slice none 0 0)) := Lib.hid (by rw [← hw1, ← hB]; exact heap_alloc_new _ _)
  have HP2 : Hid (SBox w2 (B + 1) ⟨#[]⟩ (.slice none 0 0)) := Lib.hid (by rw [← hw2, ← hz1]; exact heap_alloc_new _ _)
  have HW1 := Lib.hid hw1
  have HW2 := Lib.hid hw2
  have HZ1 := Lib.hid hz1
  have HZ2 := Lib.hid hz2
  clear hT h hl0 hB hw1 hw2 hz1 hz2
  go_enter Tryz.func107, Tryz.ntmps107
  go_wp2_with fail
  rw [HW1.out, HW2.out, HBQ.out]
  go_loopw [1, 8] (fun at_ i wr => ∃ (q m : Nat) (tb : ByteArray), q ≤ s.size ∧ k ≤ q ∧ (m = 0 ∨ k < q) ∧ m ≤ 3 ∧ at_ = .int .i64 (q : Int) ∧ i = .int .i64 (m : Int) ∧ Hid (tb.data.toList.length = m) ∧ Hid (AtR T (tagC l tb.data.toList) q) ∧ Hid (SBox wr (B + 1) tb (.slice none 0 0)) ∧ Hid (Below (B + 1) w1 wr)) (fun _ i _ => 3 - (intOf i).toNat)
  case atStart => exact ⟨k, 0, ⟨#[]⟩, hk, Nat.le_refl _, .inl rfl, by omega, rfl, rfl, Lib.hid rfl, HA0, HP2, HB2⟩
  case round =>
    obtain ⟨q, m, tb, hq, hkq, hmq, hm, rfl, rfl, HTB, HA, HP, HB⟩ := hrel
    clear HA0 HP2
    have hBs := HB.out.size
    rw [HZ1.out] at hBs
    have HRB : Hid (SBox wr B ⟨#[]⟩ (.slice none 0 0)) := Lib.hid ((HB.out.block B (Nat.lt_succ_self B)).trans HR1.out)
    obtain ⟨r0, r1, z0, z1⟩ := cells2 HRB.out
    obtain ⟨p0, p1, y0, y1⟩ := cells2 HP.out
    have HBW := Lib.hid (HB1.out.trans (HB.out.mono (Nat.le_succ B)))
    by_cases hm3 : m < 3
    · skip
      have b1 : (m : Int) < 3 := by omega
      by_cases hql : q < s.size
      · have e1 : ((q : Int) == (s.size : Int)) = false := by rw [beq_eq_false_iff_ne]; omega
        obtain ⟨c, hc⟩ : ∃ c, T[q]? = some c := ⟨_, by rw [← HT.out]; exact at_byte s q hql⟩
        have hcq : (s[q]'hql).toNat = c.toNat := by
          have h1 := at_byte s q hql
          rw [HT.out, hc] at h1
          injection h1 with h1
          exact congrArg UInt8.toNat h1.symm
        have HC := Lib.hid hc
        have b5 : (0 : Int) ≤ q := by omega
        have b6 : (q : Int) < s.size := by omega
        have HTG := Lib.hid (fun w => rTag_any c w)
        have HA1 : Hid (AtR T (.tag l tb.data.toList) q) := Lib.hid (by have h1 := HA.out; unfold tagC at h1; rw [if_pos (by rw [HTB.out]; exact hm3)] at h1; exact h1)
        clear hc
        cases htg : tagB c with
        | false =>
          have HE := Lib.hid (HA1.out.err HL6.out HC.out (st_tagbad (l := l) (t := tb.data.toList) htg))
          rw [htg] at HTG
          clear htg
          go_wp2_with ((with_reducible refine (HTG.out _).mono ?_); rintro e w' ⟨rfl, rfl⟩)
          refine bodyPost_ret (res_seg3 rfl _ rfl rfl rfl (put2_heap HRB.out _ _) rfl) rfl (rseg_err HE.out (by decide) ?_)
          rw [HBQ.out]
          exact below_put2 HBW.out _ _
        | true =>
          have HTC := Lib.hid htg
          rw [htg] at HTG
          clear htg
          have hadd := fun W => str_add tb (s.extract q (q + 1)) (by
            have h1 : tb.size = m := by rw [← HTB.out]; simp
            have h2 : (s.extract q (q + 1)).size ≤ 1 := by rw [ByteArray.size_extract]; omega
            omega) W
          obtain ⟨tb', htb'⟩ : ∃ tb', tb ++ s.extract q (q + 1) = tb' := ⟨_, rfl⟩
          have HTB' : Hid (tb'.data.toList = tb.data.toList ++ [c]) := Lib.hid (by
            rw [← htb']
            simp only [ByteArray.data_append, Array.toList_append, ByteArray.data_extract, Array.toList_extract]
            rw [HT.out, List.extract_eq_take_drop, show q + 1 - q = 1 by omega, drop_at HC.out]; rfl)
          rw [htb'] at hadd
          clear htb'
          go_upto_region 9 with ((with_reducible refine (HTG.out _).mono ?_); rintro e w' ⟨rfl, rfl⟩)
          obtain ⟨wd, hwd⟩ : ∃ wd, wr.drew = wd := ⟨_, rfl⟩
          have hwh : wd.heap = wr.heap := by rw [← hwd]; rfl
          have HBd : Hid (Below (B + 1) w1 wd) := Lib.hid (by rw [← hwd]; exact HB.out.drew)
          have HPd : Hid (SBox wd (B + 1) tb (.slice none 0 0)) := Lib.hid (by show wd.heap[B + 1]? = _; rw [hwh]; exact HP.out)
          clear p0 p1 y0 y1 r0 r1 z0 z1
          obtain ⟨p0, p1, y0, y1⟩ := cells2 HPd.out
          refine wp_region_planF 9 [(0, false), (1, false), (2, false), (3, false), (4, false), (5, false), (6, false), (7, false), (8, false), (9, true)]
            (fun w' => w'.cell? ⟨B + 1, 0, none⟩ = some (.string tb)) (by kernel_rfl) (by kernel_rfl) (by rw [hwd]; exact p0) ?_
          rw [hwd]
          have HP0 := Lib.hid p0
          have b7 : (q : Int) + 1 ≤ s.size := by omega
          clear hwd hwh p0
          have g4 : (q : Int) ≤ (q : Int) + 1 := by omega
          have g2 : (0 : Int) ≤ (q : Int) + 1 := by omega
          have g3 : ((q : Int) + 1).toNat = q + 1 := by omega
          have g1 : IntKind.i64.wrap ((q : Int) + 1) = (q : Int) + 1 := IntWalk.i64_in _ (by omega)
          iterate 9 (refine' planF_val rfl rfl (fun w' hS => ?_) ?_; rotate_left; (focus (go_simp; rfl)); simp only [Act.put, List.setIfInBounds_toArray, List.set_cons_zero, List.set_cons_succ])
          clear g1 g2 g3 g4
          refine planF_do rfl (fun K hK => ?_)
          have p0 := HP0.out
          go_wp2_with fail
          refine hK _ _ (.inl trivial) ?_
          clear hK K p0 p1 y0 y1
          refine planF_nil ?_
          go_wp2_with fail
          go_roundw
          case rel => exact ⟨q + 1, m + 1, tb', by omega, by omega, .inr (by omega), by omega, by go_num, by go_num, Lib.hid (by rw [HTB'.out, List.length_append, HTB.out]; rfl), Lib.hid (by
            rw [HTB'.out]
            unfold tagC
            by_cases h2 : m + 1 < 3
            · rw [if_pos (by rw [List.length_append, HTB.out]; exact h2)]
              exact HA1.out.step HC.out (st_tag HTC.out (by rw [HTB.out]; exact h2))
            · rw [if_neg (by rw [List.length_append, HTB.out]; exact h2)]
              exact HA1.out.step HC.out (st_tag3 HTC.out (by rw [HTB.out]; omega))), Lib.hid (heap_setCell_same _ (B + 1) 0 _ _ _ HPd.out), Lib.hid (HBd.out.setCell (show B + 1 ≤ B + 1 from Nat.le_refl _) _)⟩
          case measure => simp [intOf]; omega
      · have hqe : q = s.size := by omega
        subst hqe
        have e1 : ((s.size : Int) == (s.size : Int)) = true := by simp
        have HE : Hid (parseE T = ([], T.length, 31)) := Lib.hid ((show AtR T (tagC l tb.data.toList) T.length by rw [HL.out]; exact HA.out).ends HL6.out (by unfold tagC; split <;> rfl))
        go_wp2_with fail
        refine bodyPost_ret (res_seg3 rfl _ rfl rfl rfl (put2_heap HRB.out _ _) rfl) rfl (rseg_err (by rw [HE.out, HL.out]) (by decide) ?_)
        rw [HBQ.out]
        exact below_put2 HBW.out _ _
    · skip
      have hm3' : m = 3 := by omega
      subst hm3'
      have HA1 : Hid (AtR T (.bhd l tb.data.toList) q) := Lib.hid (by have h1 := HA.out; unfold tagC at h1; rw [if_neg (by rw [HTB.out]; omega)] at h1; exact h1)
      have hkq' : k < q := by omega
      clear hm3 hmq hkq hm
      by_cases hql : q < s.size
      · have e1 : ((q : Int) == (s.size : Int)) = false := by rw [beq_eq_false_iff_ne]; omega
        obtain ⟨c, hc⟩ : ∃ c, T[q]? = some c := ⟨_, by rw [← HT.out]; exact at_byte s q hql⟩
        have hcq : (s[q]'hql).toNat = c.toNat := by
          have h1 := at_byte s q hql
          rw [HT.out, hc] at h1
          injection h1 with h1
          exact congrArg UInt8.toNat h1.symm
        have HC := Lib.hid hc
        have b5 : (0 : Int) ≤ q := by omega
        have b6 : (q : Int) < s.size := by omega
        clear hc
        by_cases hcc : c = 43 ∨ c = 39
        · skip
          obtain ⟨bb, hb1, hb2⟩ : ∃ b : Bool, ((c.toNat : Int) != 43) = b ∧ (b = true → ((c.toNat : Int) != 39) = false) := by
            rcases hcc with rfl | rfl
            · exact ⟨false, rfl, fun h => by cases h⟩
            · exact ⟨true, rfl, fun _ => rfl⟩
          have HH0 : Hid (RHead T l (B + 2) (B + 1) tb wr q c) := Lib.hid (.inl ⟨HP.out, HA1.out, hcc⟩)
          clear hcc p0 p1 y0 y1 r0 r1 z0 z1
          have hx : (bb = true ∧ ((c.toNat : Int) != 39) = false) ∨ bb = false := by
            cases bb
            · exact .inr rfl
            · exact .inl ⟨rfl, hb2 rfl⟩
          clear hb2
          rcases hx with ⟨rfl, hb2⟩ | rfl
          all_goals
            go_wp2_with fail
            clear hb1 hcq
            try clear hb2
            have h33 : ((3 : Nat) : Int) = 3 := rfl
            rw [h33]
            clear h33
            go_loopw [1] (fun at_ wr => ∃ (q : Nat) (c : UInt8), q < s.size ∧ k < q ∧ at_ = .int .i64 (q : Int) ∧ Hid (T[q]? = some c) ∧ Hid (RHead T l (B + 2) (B + 1) tb wr q c) ∧ Hid (Below (B + 1) w1 wr) ∧ B + 2 ≤ wr.heap.size) (fun at_ _ => s.size - (intOf at_).toNat)
            case atStart => exact ⟨q, c, hql, hkq', rfl, HC, HH0, HB, by have h1 := (Array.getElem?_eq_some_iff.1 HP.out).1; omega⟩
            case round =>
              clear b5 b6 e1 HC HH0 HA1 HP HRB HBW HTB hBs hql hkq'
              obtain ⟨q, c, hql, hkq, rfl, HC, HH, HBX, hzx⟩ := hrel
              have hcq : (s[q]'hql).toNat = c.toNat := by
                have h1 := at_byte s q hql
                rw [HT.out, HC.out] at h1
                injection h1 with h1
                exact congrArg UInt8.toNat h1.symm
              have b5 : (0 : Int) ≤ q := by omega
              have b6 : (q : Int) < s.size := by omega
              have HRB : Hid (SBox wr B ⟨#[]⟩ (.slice none 0 0)) := Lib.hid ((HBX.out.block B (Nat.lt_succ_self B)).trans HR1.out)
              have HBW := Lib.hid (HB1.out.trans (HBX.out.mono (Nat.le_succ B)))
              obtain ⟨r0, r1, z0, z1⟩ := cells2 HRB.out
              by_cases h39 : c = 39
              · skip
                subst h39
                have hcq' : (s[q]'hql).toNat = 39 := hcq
                obtain ⟨E, ev, hE⟩ := HH.out.exit HC.out
                obtain ⟨ea, ec, rfl, _, _⟩ := hE.2.1.form
                have HE := Lib.hid hE
                obtain ⟨p0, p1, y0, y1⟩ := cells2 hE.1
                clear hcq hE
                go_wp2_with fail
                refine bodyPost_ret (res_seg3 rfl _ rfl rfl rfl (put2_heap HRB.out _ _) rfl) rfl ?_
                refine ⟨.inl ⟨tb.data.toList, E, _, q + 1, by rw [sv_dat]; go_num, HE.out.2.2, by omega, by rw [HL.out]; omega, HE.out.2.1.cong (fun b hb => ⟨by rw [HBQ.out]; omega, by simp; exact hb.2⟩) (fun b hb => ?_)⟩, by rw [HBQ.out]; exact below_put2 HBW.out _ _⟩
                rw [heap_setCell_other _ _ _ _ (by simp; omega), heap_setCell_other _ _ _ _ (by simp; omega)]
              · skip
                have f39 : ((c.toNat : Int) != 39) = true := by
                  rw [bne_iff_ne]; intro e
                  exact h39 (UInt8.toNat_inj.1 (by have : c.toNat = 39 := by omega
                                                   rw [this]; rfl))
                have H39 := Lib.hid h39
                obtain ⟨E0, hE0⟩ : ∃ b, ((c.toNat : Int) == 43) = b := ⟨_, rfl⟩
                clear h39
                go_upto_if 66 with fail
                go_cut [] (fun wy => Hid (RCut T l (B + 2) (B + 1) tb q wy ∧ Below (B + 1) w1 wy))
                case first =>
                  cases E0 with
                  | true =>
                    have h43 : c = 43 := UInt8.toNat_inj.1 (by
                      have h1 : ((c.toNat : Int) == 43) = true := hE0
                      rw [beq_iff_eq] at h1
                      show c.toNat = 43
                      omega)
                    subst h43
                    obtain ⟨E, ev, ys, hoe, hl16, he16, hn16⟩ := HH.out.plus HC.out HL6.out
                    obtain ⟨n, hn⟩ : ∃ n, E.length = n := ⟨_, rfl⟩
                    obtain ⟨oa, oc, rfl⟩ := own_slice hoe.row
                    rw [hn] at hoe hl16 he16 hn16
                    have HOE := Lib.hid hoe
                    have HN := Lib.hid hn
                    obtain ⟨p0, p1, y0, y1⟩ := cells2 hoe.c
                    have HE16 := Lib.hid he16
                    have HN16 := Lib.hid hn16
                    clear hoe hn he16 hn16 hE0
                    by_cases h16 : n = 16
                    · have HP16 := Lib.hid (HE16.out h16)
                      clear HE16 HN16
                      subst h16
                      go_wp2_with fail
                      refine bodyPost_ret (res_seg3 rfl _ rfl rfl rfl (put2_heap HRB.out _ _) rfl) rfl (rseg_err HP16.out (by decide) ?_)
                      rw [HBQ.out]
                      exact below_put2 HBW.out _ _
                    · have e16 : ((n : Int) == 16) = false := by rw [beq_eq_false_iff_ne]; omega
                      have e16n : (n == 16) = false := by rw [beq_eq_false_iff_ne]; exact h16
                      have HX16 := Lib.hid h16
                      obtain ⟨i2, hi2, hz20, hz21, hz22⟩ := info_parts einfo_strs
                      have HI2 := Lib.hid hi2
                      have HZ20 := Lib.hid hz20
                      have HZ21 := Lib.hid hz21
                      have HZ22 := Lib.hid hz22
                      have hrow : wr.ownsRow (B + 2) 58 1 (.slice oa n oc) n ys := by
                        have h1 := HOE.out.row
                        rw [HN.out] at h1
                        exact h1
                      have HRW := Lib.hid hrow
                      clear hi2 hz20 hz21 hz22 h16 hrow
                      go_wp2_with ((with_reducible refine wpList_at (.call { callee := .builtin .append, args := #[.tmp 74, .tmp 75], argTypes := #[92, 92] }) rfl ?_); go_loud (refine wpList_append_own_at _ rfl _ _ 92 rfl (B + 2) 58 i2 (.slice none 0 0) 1 24 Tryz.underlying92 HI2.out HZ20.out HZ21.out HZ22.out rfl (by decide) _ _ _ rfl (HRW.out.alloc _) ⟨wr.heap.size, 0, none⟩ 1 1 [.slice none 0 0] rfl rfl (cell_one_new _ _ _) (by simp [Value.oneCell']) (by unfold maxLen; omega) (by omega) (by simp; omega) ?_); intro ev' wg hog hgg _ hkg; obtain ⟨ev'a, ev'c, rfl⟩ := own_slice hog; have hgg' := grown_alloc hgg; have hne1 : (Value.slice oa n oc).ownBlock ≠ some (B + 1) := own_not HOE.out.row HOE.out.c (by decide); have cg : wg.heap[B + 1]? = some (.cells #[.string tb, .slice oa n oc] 94 (0, 0)) := (hgg'.block (B + 1) (by omega) (fun e => hne1 e.symm)).trans HOE.out.c; have HCG := Lib.hid cg; obtain ⟨p0', p1', y0', y1'⟩ := cells2 cg; have HSTEP : Hid (OE (B + 2) (B + 1) tb (wg.setCell ⟨B + 1, 1, none⟩ (.slice ev'a (n + 1) ev'c)) (.slice ev'a (n + 1) ev'c) (ys ++ [.slice none 0 0]) (E ++ [[]])) := Lib.hid (OE.step HOE.out hzx ((Below.refl _ _).alloc (Nat.le_refl _) _) (RowAt.nil _ _) hgg (by rw [HN.out]; exact hog) (hkg.elim .inl (fun h => .inr ⟨_, h, by simp⟩))); have HBG : Hid (Below (B + 1) w1 (wg.setCell ⟨B + 1, 1, none⟩ (.slice ev'a (n + 1) ev'c))) := Lib.hid (((HBX.out.alloc (by omega) _).grown hgg (by simp; omega) (fun b hb => by have h1 := (own_lt HRW.out hb).1; omega)).setCell (show B + 1 ≤ B + 1 from Nat.le_refl _) _); clear p0 p1 y0 y1 hog hgg hkg hgg' hne1 cg)
                      go_meet
                      case rel => exact Lib.hid ⟨⟨E, [], _, _, ys, SG.of HSTEP.out (by have h1 := HOE.out.len; rw [h1]), by rw [HN.out]; have := HX16.out; omega, by simp, fun h => by simp at h, fun _ => HN16.out HX16.out⟩, HBG.out⟩
                  | false =>
                    have h58 : c = 58 := by
                      have h43 : c ≠ 43 := by rintro rfl; exact absurd hE0 (by decide)
                      rcases HH.out with ⟨_, _, h | h⟩ | ⟨_, _, _, _, _, _, _, _, _, _, h | h | h⟩
                      · exact absurd h h43
                      · exact absurd h H39.out
                      · exact absurd h h43
                      · exact h
                      · exact absurd h H39.out
                    subst h58
                    have HCU := Lib.hid (HH.out.colon HC.out HL6.out)
                    go_wp2_with fail
                    go_meet
                    case rel => exact Lib.hid ⟨HCU.out, HBX.out⟩
                case rest =>
                  obtain ⟨⟨es, cs, ev, cv, ys, hsg, hes, hcs, h8, hn8⟩, hbw⟩ := hcut.out
                  obtain ⟨g, cap, ca, cc, rfl, hcp1, hcp2, rfl, gc0, gf0, hHg, hgl, hgsp⟩ := hsg.form
                  obtain ⟨m, hm⟩ : ∃ m, es.length = m := ⟨_, rfl⟩
                  obtain ⟨n, hn⟩ : ∃ n, cs.length = n := ⟨_, rfl⟩
                  have HSG := Lib.hid hsg
                  have HM := Lib.hid hm
                  have HN := Lib.hid hn
                  have HBC := Lib.hid hbw
                  rw [hm] at hes hcp1 gc0 gf0 HSG
                  rw [hn] at hcs h8 hn8 gc0 HSG
                  have HE8 := Lib.hid h8
                  have HN8 := Lib.hid hn8
                  obtain ⟨p0, p1, y0, y1⟩ := cells2 HSG.out.c
                  have HRC : Hid (SBox wc B ⟨#[]⟩ (.slice none 0 0)) := Lib.hid ((HBC.out.block B (Nat.lt_succ_self B)).trans HR1.out)
                  have HBCW := Lib.hid (HB1.out.trans (HBC.out.mono (Nat.le_succ B)))
                  unfold maxLen at hcp2
                  clear r0 r1 z0 z1 hcut hsg hm hn hbw h8 hn8 hE0
                  obtain ⟨r0, r1, z0, z1⟩ := cells2 HRC.out
                  by_cases h8 : n = 8
                  · have HP8 := Lib.hid (HE8.out h8)
                    clear HE8 HN8
                    subst h8
                    go_wp2_with fail
                    refine bodyPost_ret (res_seg3 rfl _ rfl rfl rfl (put2_heap HRC.out _ _) rfl) rfl (rseg_err HP8.out (by decide) ?_)
                    rw [HBQ.out]
                    exact below_put2 HBCW.out _ _
                  · have e8 : ((n : Int) == 8) = false := by rw [beq_eq_false_iff_ne]; omega
                    have e8n : (n == 8) = false := by rw [beq_eq_false_iff_ne]; exact h8
                    have HPP := Lib.hid (HPT.out (q + 1) (by omega) l tb.data.toList es cs (HN8.out h8) wc)
                    rw [show ((q + 1 : Nat) : Int) = (q : Int) + 1 from rfl] at HPP
                    have HX8 := Lib.hid h8
                    clear h8
                    go_wp2_with fail
                    refine HPP.out.mono ?_
                    rintro e w3 ⟨hq3, hb3⟩
                    have HB3 := Lib.hid hb3
                    have HBD3 := Lib.hid (HBC.out.trans (hb3.mono (by omega)))
                    have HSG3 := Lib.hid (HSG.out.below hb3)
                    have HRD : Hid (SBox w3 B ⟨#[]⟩ (.slice none 0 0)) := Lib.hid ((HBD3.out.block B (Nat.lt_succ_self B)).trans HR1.out)
                    have HBDW := Lib.hid (HB1.out.trans (HBD3.out.mono (Nat.le_succ B)))
                    have HGC := Lib.hid ((hb3.cell (p := ⟨g, m, none⟩) hgl).trans gc0)
                    have HGF := Lib.hid ((hb3.frozen (p := ⟨g, m, none⟩) hgl).trans gf0)
                    have hz3 := hb3.size
                    clear hb3 HPP p0 p1 y0 y1 r0 r1 z0 z1 gc0 gf0 HSG HBC HRC HBCW
                    obtain ⟨p0, p1, y0, y1⟩ := cells2 HSG3.out.c
                    obtain ⟨r0, r1, z0, z1⟩ := cells2 HRD.out
                    rcases hq3 with ⟨p, k', c', rfl, ha, hc', hcc', hp', hk'⟩ | ⟨k', en, rfl, hne, hpe⟩
                    · have HAT := Lib.hid ha
                      have HC' := Lib.hid hc'
                      have HCC := Lib.hid hcc'
                      have hks : k' < s.size := by rw [← HL.out]; exact (List.getElem?_eq_some_iff.1 hc').1
                      obtain ⟨pb, hpb⟩ : ∃ pb : ByteArray, (⟨p.toArray⟩ : ByteArray) = pb := ⟨_, rfl⟩
                      have HPB := Lib.hid hpb
                      clear ha hc' hcc' r0 r1 z0 z1
                      unfold sv
                      rw [hpb]
                      clear hpb
                      go_upto_region 26 with fail
                      clear p0 p1 y0 y1
                      obtain ⟨wd, hwd⟩ : ∃ wd, w3.drew = wd := ⟨_, rfl⟩
                      have hwh : wd.heap = w3.heap := by rw [← hwd]; rfl
                      have HSGd := Lib.hid (HSG3.out.drew hwh)
                      have HBd : Hid (Below (B + 1) w1 wd) := Lib.hid (by rw [← hwd]; exact HBD3.out.drew)
                      have gcd : wd.cell? ⟨g, m, none⟩ = some (.slice ca n cc) := (cell_ag (by rw [hwh])).trans HGC.out
                      have gfd : wd.frozen? ⟨g, m, none⟩ = false := (fz_ag (by rw [hwh])).trans HGF.out
                      have hzd : g < wd.heap.size ∧ B + 2 ≤ wd.heap.size := by rw [hwh]; omega
                      obtain ⟨hzd1, hzd2⟩ := hzd
                      obtain ⟨p0, p1, y0, y1⟩ := cells2 HSGd.out.c
                      refine wp_region_planF 12 [(0, false), (1, false), (2, false), (3, false), (4, false), (5, false), (6, false), (7, false), (8, false), (9, true), (10, true), (11, false), (12, true)]
                        (fun w' => w'.cell? ⟨B + 1, 1, none⟩ = some (.slice (some ⟨g, 0, none⟩) (m + 1) cap) ∧ w'.cell? ⟨g, m, none⟩ = some (.slice ca n cc)) (by kernel_rfl) (by kernel_rfl) (by rw [hwd]; exact ⟨p1, gcd⟩) ?_
                      rw [hwd]
                      have HP1 := Lib.hid p1
                      have HGD := Lib.hid gcd
                      have HFD := Lib.hid gfd
                      have m1 : (0 : Int) ≤ m := by omega
                      have m2 : (m : Int) < (m : Int) + 1 := by omega
                      clear hwd hwh p0 p1 y0 y1 gcd gfd
                      iterate 9 (refine' planF_val rfl rfl (fun w' hS => ?_) ?_; rotate_left; (focus (obtain ⟨hS1, hS2⟩ := hS; go_simp; rfl)); simp only [Act.put, List.setIfInBounds_toArray, List.set_cons_zero, List.set_cons_succ])
                      refine planF_do rfl (fun K hK => ?_)
                      go_wp2_with fail
                      refine hK _ _ (.inr ⟨(cell_ag (Below.heap_alloc _ _ _ (cell_lt' HP1.out))).trans HP1.out, (cell_ag (Below.heap_alloc _ _ _ (cell_lt' HGD.out))).trans HGD.out⟩) ?_
                      clear hK K
                      refine planF_do rfl (fun K hK => ?_)
                      obtain ⟨i1, hi1, hz10, hz11, hz12⟩ := info_parts einfo_str
                      have hco : wd.ownsRow (B + 2) 9 1 (.slice ca n cc) n (cs.map sv) := by
                        have h1 := HSGd.out.co
                        rw [HN.out] at h1
                        exact h1
                      refine wpList_append_own_at _ rfl _ _ 58 rfl (B + 2) 9 i1 (.string ⟨#[]⟩) 1 16 Tryz.underlying58 hi1 hz10 hz11 hz12 rfl (by decide) _ _ _ rfl (hco.alloc _) ⟨wd.heap.size, 0, none⟩ 1 1 [.string pb] rfl rfl (cell_one_new _ _ _) (by simp [Value.oneCell']) (by unfold maxLen; omega) (by omega) (by simp; omega) ?_
                      intro cv' wg hog hgg _ hkg
                      obtain ⟨cva, cvc, rfl⟩ := own_slice hog
                      have hgg' := grown_alloc hgg
                      have hzg := hgg'.size
                      have hns : (Value.slice ca n cc).ownBlock ≠ some (B + 1) := own_not hco HSGd.out.c (by decide)
                      have hng : (Value.slice ca n cc).ownBlock ≠ some g := own_ne HSGd.out.row hco (by decide) (k := g) rfl
                      have p1g : wg.cell? ⟨B + 1, 1, none⟩ = some (.slice (some ⟨g, 0, none⟩) (m + 1) cap) := (cell_ag (hgg'.block (B + 1) (by omega) (fun e => hns e.symm))).trans HP1.out
                      have gcg : wg.cell? ⟨g, m, none⟩ = some (.slice ca n cc) := (cell_ag (hgg'.block g hzd1 (fun e => hng e.symm))).trans HGD.out
                      have gfg : wg.frozen? ⟨g, m, none⟩ = false := (fz_ag (hgg'.block g hzd1 (fun e => hng e.symm))).trans HFD.out
                      have HSTEP : Hid (SG (B + 2) (B + 1) tb (wg.setCell ⟨g, m, none⟩ (.slice cva (n + 1) cvc)) (.slice (some ⟨g, 0, none⟩) (m + 1) cap) (.slice cva (n + 1) cvc) ys es (cs ++ [p])) := Lib.hid (by
                        have h1 := HSGd.out
                        rw [← HM.out] at h1
                        have h2 := SG.comp (c := p) h1 hgg (by rw [HN.out]; unfold sv; rw [HPB.out]; exact hog) (hkg.elim .inl (fun h => .inr ⟨_, h, by simp⟩))
                        rw [HM.out] at h2
                        exact h2)
                      have HBG : Hid (Below (B + 1) w1 (wg.setCell ⟨g, m, none⟩ (.slice cva (n + 1) cvc))) := Lib.hid (((HBd.out.alloc (by omega) _).grown hgg (by simp; omega) (fun b hb => by have h1 := (own_lt hco hb).1; omega)).setCell (show B + 1 ≤ g by omega) _)
                      have hzG : B + 2 ≤ (wg.setCell ⟨g, m, none⟩ (.slice cva (n + 1) cvc)).heap.size := by simp; omega
                      have HKS := Lib.hid (And.intro p1g gcg)
                      clear hi1 hz10 hz11 hz12 hco hog hgg hkg hgg' hns hng
                      go_wp2_with fail
                      refine hK _ _ (.inr HKS.out) ?_
                      clear hK K
                      iterate 1 (refine' planF_val rfl rfl (fun w' hS => ?_) ?_; rotate_left; (focus (obtain ⟨hS1, hS2⟩ := hS; go_simp; rfl)); simp only [Act.put, List.setIfInBounds_toArray, List.set_cons_zero, List.set_cons_succ])
                      refine planF_do rfl (fun K hK => ?_)
                      go_wp2_with fail
                      refine hK _ _ (.inl trivial) ?_
                      clear hK K
                      refine planF_nil ?_
                      clear p1g gcg gfg m1 m2
                      go_wp2_with fail
                      go_roundw
                      case rel => exact ⟨k', c', hks, by omega, rfl, HC', Lib.hid (.inr ⟨es, cs, p, _, _, ys, HSTEP.out, by rw [HM.out]; exact hes, by rw [HN.out]; have := HX8.out; omega, HAT.out, HCC.out⟩), HBG, hzG⟩
                      case measure => simp [intOf]; omega
                    · have HPE := Lib.hid hpe
                      have HNE := Lib.hid hne
                      have d0 : (en != 0) = true := by rw [bne_iff_ne]; exact hne
                      clear hpe hne
                      unfold sv
                      go_wp2_with fail
                      refine bodyPost_ret (res_seg3 rfl _ rfl rfl rfl (put2_heap HRD.out _ _) rfl) rfl (rseg_err HPE.out HNE.out ?_)
                      rw [HBQ.out]
                      exact below_put2 HBDW.out _ _
        · skip
          have h43 : c ≠ 43 := fun e => hcc (.inl e)
          have h39 : c ≠ 39 := fun e => hcc (.inr e)
          have f1 : ((c.toNat : Int) != 43) = true := by
            rw [bne_iff_ne]; intro e
            exact h43 (UInt8.toNat_inj.1 (by have : c.toNat = 43 := by omega
                                             rw [this]; rfl))
          have f2 : ((c.toNat : Int) != 39) = true := by
            rw [bne_iff_ne]; intro e
            exact h39 (UInt8.toNat_inj.1 (by have : c.toNat = 39 := by omega
                                             rw [this]; rfl))
          have HE := Lib.hid (HA1.out.err HL6.out HC.out (st_bhdbad (l := l) (t := tb.data.toList) h39 h43))
          clear hcc h43 h39
          go_wp2_with fail
          refine bodyPost_ret (res_seg3 rfl _ rfl rfl rfl (put2_heap HRB.out _ _) rfl) rfl (rseg_err HE.out (by decide) ?_)
          rw [HBQ.out]
          exact below_put2 HBW.out _ _
      · have hqe : q = s.size := by omega
        subst hqe
        have e1 : ((s.size : Int) == (s.size : Int)) = true := by simp
        have HE : Hid (parseE T = ([], T.length, 31)) := Lib.hid ((show AtR T (.bhd l tb.data.toList) T.length by rw [HL.out]; exact HA1.out).ends HL6.out rfl)
        go_wp2_with fail
        refine bodyPost_ret (res_seg3 rfl _ rfl rfl rfl (put2_heap HRB.out _ _) rfl) rfl (rseg_err (by rw [HE.out, HL.out]) (by decide) ?_)
        rw [HBQ.out]
        exact below_put2 HBW.out _ _
end Go.Proofs.YtgfijlamhjjecaaGreatDoor


namespace Go.Proofs.YtgfijlamhjjecaaGreatDoor
open Go.RowKit
structure OGT (T : Nat → Prop) (B : Nat) (w : World) (ov : Value) (xs : List Value) (l : List Seg) : Prop where
  row : w.ownsRow B 94 2 ov l.length (segCells l xs)
  len : xs.length = l.length
  el : ∀ (i : Nat) (s : Seg) (x : Value), l[i]? = some s → xs[i]? = some x → ElemsAt (fun b => T b ∧ b < w.heap.size ∧ ov.ownBlock ≠ some b) w x s.elems
theorem ElemsAt.empty {S T : Nat → Prop} {w w' : World} {x : Value} (h : ElemsAt S w x []) : ElemsAt T w' x [] := by
  obtain ⟨xs, ⟨ao, cap, rfl, h1, h2, h3, _⟩, hl, _⟩ := h
  obtain rfl : xs = [] := List.length_eq_zero_iff.1 hl
  exact ⟨[], ⟨ao, cap, rfl, h1, h2, h3, fun h => absurd rfl h⟩, rfl, fun i e x h => by simp at h⟩
theorem OGT.below {T : Nat → Prop} {B : Nat} {w w' : World} {ov : Value} {xs : List Value} {l : List Seg} (h : OGT T B w ov xs l) (hb : Below w.heap.size w w') : OGT T B w' ov xs l :=
  ⟨own_cong h.row (fun k hk => hb.block k (own_lt h.row hk).2), h.len, fun i s x h1 h2 => (h.el i s x h1 h2).cong (fun k hk => ⟨hk.1, by have := hb.size; omega, hk.2.2⟩) (fun k hk => hb.block k hk.2.1)⟩
theorem OGT.rest {T S : Nat → Prop} {B : Nat} {w : World} {ov : Value} {xs : List Value} {l : List Seg} (h : OGT T B w ov xs l) (hT : ∀ k, T k → k < w.heap.size → S k) (hR : ∀ k, ov.ownBlock = some k → S k) : SegsAt S w ov l :=
  segs_rest h.row h.len hR (fun i s x h1 h2 => (h.el i s x h1 h2).cong (fun _ hb => hT _ hb.1 hb.2.1) (fun _ _ => rfl))
theorem SegsAt.cap {S : Nat → Prop} {w : World} {ao : Option Addr} {m cap : Nat} {l : List Seg} (h : SegsAt S w (.slice ao m cap) l) : m = l.length ∧ m ≤ cap ∧ cap ≤ maxLen := by
  obtain ⟨ao', cap', xs, he, h2, h3, _⟩ := h
  injection he with e1 e2 e3
  subst e3; subst e2
  exact ⟨rfl, h2, h3⟩
theorem SegsAt.take {S : Nat → Prop} {w : World} {ao : Option Addr} {cap : Nat} {l m : List Seg} (h : SegsAt S w (.slice ao (l ++ m).length cap) (l ++ m)) : SegsAt S w (.slice ao l.length cap) l := by
  obtain ⟨ao', cap', xs, he, h2, h3, h4, h5, h6, h7⟩ := h
  cases he
  have hl : l.length ≤ (l ++ m).length := by simp
  have key : ∀ (i : Nat) (s : Seg), l[i]? = some s → (l ++ m)[i]? = some s := fun i s hs => by rw [List.getElem?_append_left (List.getElem?_eq_some_iff.1 hs).1]; exact hs
  have key2 : ∀ (i : Nat) (x : Value), (xs.take l.length)[i]? = some x → xs[i]? = some x := fun i x hx => by
    rw [List.getElem?_take] at hx
    split at hx
    · exact hx
    · cases hx
  refine ⟨ao, cap, xs.take l.length, rfl, by omega, h3, h4, by rw [List.length_take, h5]; omega, fun i s x hs hx => h6 i s x (key i s hs) (key2 i x hx), fun hne => ?_⟩
  obtain ⟨b, off, e, hS, hc⟩ := h7 (by intro e; exact hne (List.append_eq_nil_iff.1 e).1)
  exact ⟨b, off, e, hS, fun i s x hs hx => hc i s x (key i s hs) (key2 i x hx)⟩
end Go.Proofs.YtgfijlamhjjecaaGreatDoor


namespace Go.Proofs.YtgfijlamhjjecaaGreatDoor
open Go.RowKit
theorem AtR.intag {T : Str} {l : List Seg} {k : Nat} {b : UInt8} (h : AtR T (.btw l) k) (hb : T[k]? = some b) (h1 : ¬ (b = 10 ∧ l ≠ [])) (h2 : l.length ≠ 64) : AtR T (.tag l []) k := by
  unfold AtR at *
  rw [h, drop_at hb]
  simp only [runE]
  rw [st_btw h1 h2]
theorem wp_app_ogx {ops : Array Oper} {rest : List Oper} {o : Oper} {a : Act} {Q : Exit → Act → World → Prop} (s x : Operand)
    (ho : o.op = .call { callee := .builtin .append, args := #[s, x], argTypes := #[39, 39] }) (hw : Region.wanted o (yielded ops a.tmps) = true)
    {w : World} {B : Nat} {v mv : Value} {xs : List Value} {l m : List Seg} {S T : Nat → Prop} (hs : a.eval s = v) (hx : a.eval x = mv) (hO : OGT T B w v xs l) (hm : SegsAt S w mv m) (hS : ∀ k, S k → T k ∧ k < w.heap.size ∧ v.ownBlock ≠ some k) (hl : l.length + m.length ≤ 1048576) (hB : B ≤ w.heap.size)
    (h : ∀ v' w' xs', OGT T B w' v' xs' (l ++ m) → Below B w w' → wpList Tryz.prog ops Q rest (a.put o.dst v') w') :
    wpList Tryz.prog ops Q (o :: rest) a w := by
  obtain ⟨i0, hi, hz0, hz1, hz2⟩ := info_parts einfo_seg
  have hm0 := hm
  obtain ⟨ao, cap, ys, rfl, g1, g2, g3, g4, g5⟩ := hm.row
  simp only [wpList, hw, if_true]
  left
  have fin : ∀ v' w', w'.ownsRow B 94 2 v' (l.length + m.length) (segCells l xs ++ segCells m ys) → w.grownBy w' v.ownBlock → (v'.ownBlock = v.ownBlock ∨ v'.ownBlock = some w.heap.size) → OGT T B w' v' (xs ++ ys) (l ++ m) ∧ Below B w w' := fun v' w' f1 f2 f3 => by
    have hov : ∀ k, v.ownBlock = some k → B ≤ k := fun k hk => (own_lt hO.row hk).1
    have hb : Below B w w' := (Below.refl B w).grown f2 hB hov
    have hz := f2.size
    have hc : ∀ b, b < w.heap.size → v.ownBlock ≠ some b → v'.ownBlock ≠ some b := fun b hb2 hne he => by
      rcases f3 with f3 | f3
      · exact hne (f3 ▸ he)
      · rw [f3] at he; cases he; omega
    refine ⟨⟨by rw [List.length_append, segCells_app l m xs ys hO.len]; exact f1, by simp [hO.len, g1], fun i s x h1 h2 => ?_⟩, hb⟩
    rcases Nat.lt_or_ge i l.length with hil | hil
    · rw [List.getElem?_append_left hil] at h1
      rw [List.getElem?_append_left (by rw [hO.len]; exact hil)] at h2
      exact (hO.el i s x h1 h2).cong (fun b hb' => ⟨hb'.1, by omega, hc b hb'.2.1 hb'.2.2⟩) (fun b hb' => f2.block b hb'.2.1 (fun e => hb'.2.2 e.symm))
    · rw [List.getElem?_append_right hil] at h1
      rw [List.getElem?_append_right (by rw [hO.len]; exact hil), hO.len] at h2
      exact (g4 _ s x h1 h2).cong (fun b hb' => ⟨(hS b hb').1, by have := (hS b hb').2.1; omega, hc b (hS b hb').2.1 (hS b hb').2.2⟩) (fun b hb' => f2.block b (hS b hb').2.1 (fun e => (hS b hb').2.2 e.symm))
  cases ao with
  | none =>
    obtain ⟨rfl, rfl⟩ := g2 rfl
    have hr := run_append_owned_none (P := Tryz.prog) (w := w) B 39 o.type 94 i0 2 Tryz.underlying39 hi v l.length (segCells l xs) hO.row
    unfold Oper.wp
    simp [execOp, ho, resolve, invoke, builtin, hs, hx, hr, Result.andThen]
    obtain ⟨k1, k2⟩ := fin v w (by
      have : ys = [] := List.length_eq_zero_iff.1 g1
      subst this
      simpa [segCells] using hO.row) ⟨rfl, rfl, rfl, Nat.le_refl _, fun _ _ _ => rfl⟩ (.inl rfl)
    exact h v w _ k1 k2
  | some ad =>
    obtain ⟨v', w', hr, h2, h3, _, h5⟩ := run_append_own_at (P := Tryz.prog) w B 39 o.type 94 i0 (.agg #[.string ⟨#[]⟩, .slice none 0 0]) 2 40 Tryz.underlying39 hi hz0 hz1 hz2 rfl (by decide) v l.length (segCells l xs) hO.row ad m.length cap (segCells m ys) (segCells_len m ys g1) (g5 ad rfl) (segCells_one m ys g3) (by unfold maxLen; omega) (by omega) hB
    unfold Oper.wp execOp
    simp only [ho, resolve, invoke, builtin, Sem.run_bind, Sem.run_pure, Result.andThen_ok, List.map_toArray, List.map_cons, List.map_nil, hs, hx, hr]
    obtain ⟨k1, k2⟩ := fin v' w' h2 h3 h5
    exact h v' w' _ k1 k2
def RParseQ (T : Str) (w : World) (e : Ending) (w' : World) : Prop := ∃ v, e = .returned (.tuple #[v, .int .i64 ((parseE T).2.1 : Int), .int .i64 (parseE T).2.2]) ∧ SegsAt (fun k => w.heap.size ≤ k ∧ k < w'.heap.size) w' v (parseE T).1 ∧ Below w.heap.size w w'
theorem rparse_err {T : Str} {w w' : World} {k : Nat} {n : Int} (hp : parseE T = ([], k, n)) (hb : Below w.heap.size w w') : RParseQ T w (.returned (.tuple #[.slice none 0 0, .int .i64 (k : Int), .int .i64 n])) w' := by
  unfold RParseQ
  rw [hp]
  exact ⟨_, rfl, SegsAt.nil _ _, hb⟩
set_option maxRecDepth 100000 in
set_option maxHeartbeats 8000000 in
theorem r3parse_any (s : ByteArray) (w : World) : Calls Tryz.prog 61 #[.string s] w fun e w' => RParseQ s.data.toList w e w' := by
  obtain ⟨T, hT⟩ : ∃ T, s.data.toList = T := ⟨_, rfl⟩
  have HT := Lib.hid hT
  have hl0 : T.length = s.size := by rw [← hT]; simp
  have HL := Lib.hid hl0
  by_cases hbig : 65536 < s.size
  · have HE := Lib.hid (show parseE T = ([], 0, 2) by unfold parseE; rw [if_pos (by omega)])
    have d1 : decide ((65536 : Int) < (s.size : Int)) = true := by rw [decide_eq_true_eq]; omega
    rw [hT]
    clear hT hl0
    go_enter Tryz.func61, Tryz.ntmps61
    go_wp2_with fail
    go_ret3
    exact rparse_err HE.out (Below.refl _ _)
  have hs : s.size ≤ 65536 := by omega
  have d1 : decide ((65536 : Int) < (s.size : Int)) = false := by rw [decide_eq_false_iff_not]; omega
  have HSE := Lib.hid (fun k hk l h w => rsegment_any s hs k hk l h w)
  rw [hT] at HSE ⊢
  have HL6 : Hid (T.length ≤ 65536) := Lib.hid (by omega)
  obtain ⟨B, hB⟩ : ∃ B, w.heap.size = B := ⟨_, rfl⟩
  have HBQ := Lib.hid hB
  clear hT hl0 hB hbig
  go_enter Tryz.func61, Tryz.ntmps61
  go_wp2_with fail
  go_loopw [5, 6] (fun ov at_ wr => ∃ (q : Nat) (l : List Seg) (xs : List Value), q ≤ s.size ∧ l.length ≤ 64 ∧ at_ = .int .i64 (q : Int) ∧ Hid (AtR T (.btw l) q) ∧ Hid (OGT (fun b => B ≤ b) B wr ov xs l) ∧ Hid (Below B w wr)) (fun _ at_ _ => s.size - (intOf at_).toNat)
  case atStart => exact ⟨0, [], [], Nat.zero_le _, by simp, rfl, Lib.hid (AtR.start T), Lib.hid ⟨World.ownsRow_nil _ _ _ _, rfl, fun i s x h => by simp at h⟩, Lib.hid (by rw [← HBQ.out]; exact Below.refl _ _)⟩
  case round =>
    obtain ⟨q, l, xs, hq, hl, rfl, HA, HO, HB⟩ := hrel
    have hBs := HB.out.size
    rw [HBQ.out] at hBs
    obtain ⟨n, hn⟩ : ∃ n, l.length = n := ⟨_, rfl⟩
    have HN := Lib.hid hn
    obtain ⟨oa, oc, rfl⟩ := own_slice HO.out.row
    rw [hn] at HO hl ⊢
    clear hn
    by_cases hql : q < s.size
    · obtain ⟨c, hc⟩ : ∃ c, T[q]? = some c := ⟨_, by rw [← HT.out]; exact at_byte s q hql⟩
      have hcq : (s[q]'hql).toNat = c.toNat := by
        have h1 := at_byte s q hql
        rw [HT.out, hc] at h1
        injection h1 with h1
        exact congrArg UInt8.toNat h1.symm
      have HC := Lib.hid hc
      have b5 : (0 : Int) ≤ q := by omega
      have b6 : (q : Int) < s.size := by omega
      clear hc
      by_cases h10 : c = 10 ∧ l ≠ []
      · skip
        obtain ⟨rfl, hne⟩ := h10
        have hcq' : (s[q]'hql).toNat = 10 := hcq
        have hn0 : 0 < n := by rw [← HN.out]; exact List.length_pos_iff.2 hne
        have d3 : decide (0 < n) = true := by rw [decide_eq_true_eq]; exact hn0
        have HA1 := Lib.hid (HA.out.step HC.out (st_btw10 hne))
        clear hcq hne
        go_wp2_with fail
        go_roundw
        case rel => exact ⟨q + 1, l, xs, by omega, by rw [HN.out]; exact hl, by go_num, HA1, HO, HB⟩
        case measure => simp [intOf]; omega
      · have hx : ((c.toNat : Int) == 10) = false ∨ (((c.toNat : Int) == 10) = true ∧ decide (0 < n) = false) := by
          by_cases h : c = 10
          · right
            subst h
            refine ⟨rfl, ?_⟩
            have hn0 : n = 0 := by
              rw [← HN.out]
              exact List.length_eq_zero_iff.2 (Classical.byContradiction fun hne => h10 ⟨rfl, hne⟩)
            rw [hn0]; rfl
          · left
            rw [beq_eq_false_iff_ne]; intro e
            exact h (UInt8.toNat_inj.1 (by have : c.toNat = 10 := by omega
                                           rw [this]; rfl))
        have H10 := Lib.hid h10
        clear h10
        rcases hx with d3 | ⟨d3, d4⟩
        all_goals
          go_upto_region 8 with fail
          clear d3 hcq b5 b6
          try clear d4
          by_cases h64 : l.length = 64
          · have hn64 := HN.out.symm.trans h64
            have HE := Lib.hid (HA.out.err HL6.out HC.out (st_full H10.out h64))
            subst hn64
            go_wp2_with fail
            go_ret3
            exact rparse_err HE.out (by rw [HBQ.out]; exact HB.out)
          · have HX := Lib.hid (HA.out.intag HC.out H10.out h64)
            have H64 := Lib.hid h64
            have HSG := Lib.hid (HSE.out q hq l HX.out wr)
            have e64 : ((n : Int) == 64) = false := by rw [beq_eq_false_iff_ne, ← HN.out]; omega
            have e64n : (n == 64) = false := by rw [beq_eq_false_iff_ne, ← HN.out]; exact h64
            have hl63 : n < 64 := by have := HN.out; omega
            clear h64
            go_upto_region 10 with fail
            go_wp2_with fail
            refine HSG.out.mono ?_
            rintro e w1 ⟨hq1, hb1⟩
            have HB1 := Lib.hid hb1
            have hz1 := hb1.size
            clear hb1 HSG e64 e64n
            rcases hq1 with ⟨t, es, ev, k', rfl, ha, hk1, hk2, hel⟩ | ⟨tb, ea, em, ec, k', en, rfl, hne, hpe⟩
            · have HAT := Lib.hid ha
              obtain ⟨ea, ec, rfl, _, _⟩ := hel.form
              obtain ⟨st, hst⟩ : ∃ st : ByteArray, (⟨t.toArray⟩ : ByteArray) = st := ⟨_, rfl⟩
              have HST := Lib.hid hst
              unfold sv
              rw [hst]
              obtain ⟨D, hD⟩ : ∃ D, w1.heap.size = D := ⟨_, rfl⟩
              obtain ⟨w2, hw2⟩ : ∃ w2, w1.alloc (.cells #[.string st, .slice ea es.length ec] 94) = w2 := ⟨_, rfl⟩
              have HP2 : Hid (SBox w2 D st (.slice ea es.length ec)) := Lib.hid (by rw [← hw2, ← hD]; exact heap_alloc_new _ _)
              have HB2 : Hid (Below wr.heap.size wr w2) := Lib.hid (by rw [← hw2]; exact HB1.out.trans ((Below.refl _ _).alloc (by omega) _))
              have HBB : Hid (Below D w1 w2) := Lib.hid (by rw [← hw2, ← hD]; exact (Below.refl _ _).alloc (Nat.le_refl _) _)
              have hz2 : w2.heap.size = D + 1 := by rw [← hw2, ← hD]; simp
              rw [hD] at hel hz1
              have HEL : Hid (ElemsAt (fun b => wr.heap.size ≤ b ∧ b < D) w2 (.slice ea es.length ec) es) := Lib.hid (hel.cong (fun _ h => h) (fun b hb => HBB.out.block b hb.2))
              have HW2 := Lib.hid hw2
              have HDQ := Lib.hid hD
              have HZ2 := Lib.hid hz2
              have HBW2 := Lib.hid (HB.out.trans (HB2.out.mono hBs))
              obtain ⟨p0, p1, _, _⟩ := cells2 HP2.out
              have HO2 : Hid (OGT (fun b => B ≤ b) B w2 (.slice oa n oc) xs l) := Lib.hid (HO.out.below HB2.out)
              have HO3 : Hid (OGT (fun b => B ≤ b) B (w2.alloc (.cells #[.string st, .slice ea es.length ec] 94)) (.slice oa n oc) xs l) := Lib.hid (HO2.out.below ((Below.refl _ _).alloc (Nat.le_refl _) _))
              have HSG3 : Hid (SegsAt (fun k => (wr.heap.size ≤ k ∧ k < D) ∨ k = w2.heap.size) (w2.alloc (.cells #[.string st, .slice ea es.length ec] 94)) (.slice (some ⟨w2.heap.size, 0, none⟩) 1 1) [⟨t, es⟩]) := Lib.hid (segs_one hst HEL.out (fun k hk => by omega))
              clear hst hw2 hD hz2 hel ha
              go_upto_region 11 with fail
              rw [HW2.out, HDQ.out]
              go_wp2_with ((with_reducible refine wpList_at (.call { callee := .builtin .append, args := #[.tmp 43, .tmp 45], argTypes := #[39, 39] }) rfl ?_); go_loud (refine wp_app_ogx _ _ rfl rfl rfl rfl HO3.out HSG3.out (fun k hk => ⟨by have := HZ2.out; omega, by simp [HZ2.out]; have := HZ2.out; omega, fun e => by have h1 := own_lt HO.out.row e; have := HZ2.out; omega⟩) (by rw [HN.out]; simp; omega) (by simp; have := HBW2.out.size; rw [HBQ.out] at this; omega) ?_); intro v3 w3 xs3 ho3 hb3; have HO4 := Lib.hid ho3; have HB3 := Lib.hid ((HBW2.out.alloc (by have := HBW2.out.size; rw [HBQ.out] at this; exact this) _).trans hb3); clear ho3 hb3)
              go_roundw
              case rel => exact ⟨k', l ++ [⟨t, es⟩], xs3, by rw [← HL.out]; exact hk2, by rw [List.length_append, HN.out]; simp; omega, rfl, HAT, HO4, HB3⟩
              case measure => simp [intOf]; omega
            · have HPE := Lib.hid hpe
              have d0 : (en != 0) = true := by rw [bne_iff_ne]; exact hne
              clear hpe hne
              go_wp2_with fail
              go_ret3
              exact rparse_err HPE.out (by rw [HBQ.out]; exact (HB.out.trans (HB1.out.mono hBs)).alloc (by omega) _)
    · skip
      have hqe : q = s.size := by omega
      subst hqe
      have HE : Hid (parseE T = (l, 0, 0)) := Lib.hid ((show AtR T (.btw l) T.length by rw [HL.out]; exact HA.out).done HL6.out)
      go_wp2_with fail
      go_ret3
      refine ⟨_, by rw [HE.out]; rfl, ?_, by rw [HBQ.out]; exact HB.out⟩
      rw [HE.out, HBQ.out]
      exact HO.out.rest (fun k hk h2 => ⟨hk, h2⟩) (fun k hk => own_lt HO.out.row hk)
end Go.Proofs.YtgfijlamhjjecaaGreatDoor


namespace Go.Proofs.YtgfijlamhjjecaaGreatDoor
open Go.RowKit
def RNumQ (l : Str) (e : Ending) : Prop := (∃ u : Nat, numW l = some u ∧ e = .returned (.tuple #[.int .u64 (u : Int), .bool true])) ∨ (numW l = none ∧ e = .returned (.tuple #[.int .u64 0, .bool false]))
theorem valW_dig {v n : Nat} {c : UInt8} (hc : c.toNat = 48 + n) (hn : n ≤ 9) (hv : v * 10 + n < 18446744073709551616) : valW v [c] = some (v * 10 + n) := by
  have hd : digB c = true := by unfold digB; rw [hc]; simp; omega
  simp only [valW, hd, if_true]
  rw [if_pos (by rw [hc]; omega), hc]
  congr 1; omega
theorem valW_over {v n : Nat} {c : UInt8} (hc : c.toNat = 48 + n) (hn : n ≤ 9) (hv : ¬ v * 10 + n < 18446744073709551616) : valW v [c] = none := by
  have hd : digB c = true := by unfold digB; rw [hc]; simp; omega
  simp only [valW, hd, if_true]
  rw [if_neg (by rw [hc]; omega)]
theorem valW_bad {v : Nat} {c : UInt8} (hc : c.toNat < 48 ∨ 57 < c.toNat) : valW v [c] = none := by
  have hd : digB c = false := by unfold digB; simp; omega
  simp [valW, hd]
set_option maxRecDepth 100000 in
set_option maxHeartbeats 4000000 in
theorem rnum_any (s : ByteArray) (w : World) : Calls Tryz.prog 57 #[.string s] w fun e w' => RNumQ s.data.toList e ∧ w = w' := by
  obtain ⟨l, hl⟩ : ∃ l, s.data.toList = l := ⟨_, rfl⟩
  have hsz : s.size = l.length := by rw [← hl]; simp
  have HL := Lib.hid hl
  have HSZ := Lib.hid hsz
  rw [hl]
  by_cases h0 : s.size = 0
  · have i0 : ((s.size : Int) == 0) = true := by rw [beq_iff_eq]; omega
    have hN : numW l = none := by rw [show l = [] from List.length_eq_zero_iff.1 (hsz.symm.trans h0)]; rfl
    clear hl hsz h0
    go_enter Tryz.func57, Tryz.ntmps57
    go_wp2_with fail
    go_ret2
    exact ⟨.inr ⟨hN, rfl⟩, rfl⟩
  have i0 : ((s.size : Int) == 0) = false := by rw [beq_eq_false_iff_ne]; omega
  by_cases h20 : 20 < s.size
  · have i1 : decide ((20 : Int) < (s.size : Int)) = true := by rw [decide_eq_true_eq]; omega
    have hN : numW l = none := num_long (by rw [← hsz]; exact h20)
    clear hl hsz h0 h20
    go_enter Tryz.func57, Tryz.ntmps57
    go_wp2_with fail
    go_ret2
    exact ⟨.inr ⟨hN, rfl⟩, rfl⟩
  have i1 : decide ((20 : Int) < (s.size : Int)) = false := by rw [decide_eq_false_iff_not]; omega
  have hs0 : 0 < s.size := by omega
  have hs0i : (0 : Int) < (s.size : Int) := by omega
  obtain ⟨c0, hc0⟩ : ∃ c, l[0]? = some c := ⟨_, List.getElem?_eq_getElem (by rw [← hsz]; exact hs0)⟩
  have hA : s[0]'hs0 = c0 := by
    have h1 := at_byte s 0 hs0
    rw [hl, hc0] at h1
    simpa using h1.symm
  have hhd : l.head? = some c0 := by rw [List.head?_eq_getElem?]; exact hc0
  by_cases h48 : 1 < s.size ∧ c0 = 48
  · obtain ⟨hl1, rfl⟩ := h48
    have i2 : decide ((1 : Int) < (s.size : Int)) = true := by rw [decide_eq_true_eq]; omega
    have hN : numW l = none := num_zero ⟨hhd, by rw [← hsz]; exact hl1⟩
    clear hl hsz h0 h20 hc0 hhd hl1
    go_enter Tryz.func57, Tryz.ntmps57
    go_wp2_with fail
    go_ret2
    exact ⟨.inr ⟨hN, rfl⟩, rfl⟩
  have HN := Lib.hid (val_num (s := l) (by intro e; rw [e] at hsz; exact h0 (by simpa using hsz)) (fun h => h48 ⟨by rw [hsz]; exact h.2, by
    have h1 := h.1
    rw [hhd] at h1
    injection h1⟩))
  have HX : Hid (decide ((1 : Int) < (s.size : Int)) = false ∨ (decide ((1 : Int) < (s.size : Int)) = true ∧ ((c0.toNat : Int) == 48) = false)) := Lib.hid (by
    by_cases h1 : 1 < s.size
    · exact .inr ⟨by rw [decide_eq_true_eq]; omega, nat_eq c0 48 (fun h => h48 ⟨h1, h⟩)⟩
    · exact .inl (by rw [decide_eq_false_iff_not]; omega))
  clear hl hsz h0 hc0 hhd h48
  rcases HX.out with i2 | ⟨i2, i3⟩
  all_goals (
    clear HX
    go_enter Tryz.func57, Tryz.ntmps57
    go_wp2_with fail
    clear i0 i1 hA
    go_loop [4, 5] (fun v i => ∃ (k u : Nat), k ≤ s.size ∧ u < 18446744073709551616 ∧ i = .int .i64 (k : Int) ∧ v = .int .u64 (u : Int) ∧ Hid (valW 0 (l.take k) = some u)) (fun _ i => s.size - (intOf i).toNat)
    case atStart => exact ⟨0, 0, Nat.zero_le _, by omega, rfl, rfl, Lib.hid rfl⟩
    case round =>
      obtain ⟨k, u, hk, hu, rfl, rfl, HVL⟩ := hrel
      clear i2
      by_cases hlt : k < s.size
      · obtain ⟨c, hc⟩ : ∃ c, l[k]? = some c := ⟨_, List.getElem?_eq_getElem (by rw [← HSZ.out]; exact hlt)⟩
        have hcq : (s[k]'hlt).toNat = c.toNat := by
          have h1 := at_byte s k hlt
          rw [HL.out, hc] at h1
          injection h1 with h1
          exact congrArg UInt8.toNat h1.symm
        obtain ⟨n, hn⟩ : ∃ n, c.toNat = n := ⟨_, rfl⟩
        have hn2 : n < 256 := by rw [← hn]; exact c.toNat_lt
        rw [hn] at hcq
        have b5 : (0 : Int) ≤ k := by omega
        have b6 : (k : Int) < s.size := by omega
        have HC := Lib.hid hc
        have HCN := Lib.hid hn
        clear hc hn
        by_cases l48 : n < 48
        · have j1 : decide ((n : Int) < 48) = true := by rw [decide_eq_true_eq]; omega
          have hN : numW l = none := HN.out.trans (val_stop HVL.out HC.out (valW_bad (.inl (by rw [HCN.out]; exact l48))))
          go_wp2_with fail
          go_ret2
          exact ⟨.inr ⟨hN, rfl⟩, rfl⟩
        · have j1 : decide ((n : Int) < 48) = false := by rw [decide_eq_false_iff_not]; omega
          by_cases g57 : 57 < n
          · have j2 : decide ((57 : Int) < (n : Int)) = true := by rw [decide_eq_true_eq]; omega
            have hN : numW l = none := HN.out.trans (val_stop HVL.out HC.out (valW_bad (.inr (by rw [HCN.out]; exact g57))))
            go_wp2_with fail
            go_ret2
            exact ⟨.inr ⟨hN, rfl⟩, rfl⟩
          · have j2 : decide ((57 : Int) < (n : Int)) = false := by rw [decide_eq_false_iff_not]; omega
            obtain ⟨d, hd⟩ : ∃ d, n = 48 + d := ⟨n - 48, by omega⟩
            have hd9 : d ≤ 9 := by omega
            have e1 : (n : Int) - 48 = (d : Int) := by omega
            have w1 : IntKind.u8.wrap (d : Int) = (d : Int) := by rw [IntKind.wrap_u8]; omega
            have w2 : IntKind.u64.wrap (d : Int) = (d : Int) := by rw [IntKind.wrap_u64]; omega
            obtain ⟨m, hm⟩ : ∃ m, m = 18446744073709551615 - d := ⟨_, rfl⟩
            have e2 : (18446744073709551615 : Int) - (d : Int) = (m : Int) := by omega
            have w3 : IntKind.u64.wrap (m : Int) = (m : Int) := by rw [IntKind.wrap_u64]; omega
            obtain ⟨q, hq⟩ : ∃ q, q = m / 10 := ⟨_, rfl⟩
            have e3 : (m : Int).tdiv 10 = (q : Int) := by rw [Int.tdiv_eq_ediv_of_nonneg (by omega)]; omega
            have w4 : IntKind.u64.wrap (q : Int) = (q : Int) := by rw [IntKind.wrap_u64]; omega
            have hcd : c.toNat = 48 + d := by rw [HCN.out]; exact hd
            by_cases hov : q < u
            · have j3 : decide ((q : Int) < (u : Int)) = true := by rw [decide_eq_true_eq]; omega
              have hN : numW l = none := HN.out.trans (val_stop HVL.out HC.out (valW_over hcd hd9 (by omega)))
              clear hd hm hq hcd
              go_wp2_with fail
              go_ret2
              exact ⟨.inr ⟨hN, rfl⟩, rfl⟩
            · have j3 : decide ((q : Int) < (u : Int)) = false := by rw [decide_eq_false_iff_not]; omega
              obtain ⟨t, ht⟩ : ∃ t, t = 10 * u := ⟨_, rfl⟩
              have e4 : 10 * (u : Int) = (t : Int) := by omega
              have w5 : IntKind.u64.wrap (t : Int) = (t : Int) := by rw [IntKind.wrap_u64]; omega
              obtain ⟨z, hz⟩ : ∃ z, z = t + d := ⟨_, rfl⟩
              have e5 : (t : Int) + (d : Int) = (z : Int) := by omega
              have w6 : IntKind.u64.wrap (z : Int) = (z : Int) := by rw [IntKind.wrap_u64]; omega
              have hVS : Hid (valW 0 (l.take (k + 1)) = some z) := Lib.hid (by rw [val_step HVL.out HC.out, valW_dig hcd hd9 (by omega)]; congr 1; omega)
              have hzz : z < 18446744073709551616 := by omega
              clear hd hm hq hcd ht hz
              go_wp2_with fail
              go_round
              case rel => exact ⟨k + 1, z, by omega, hzz, by go_num, rfl, hVS⟩
              case measure => simp [intOf]; omega
      · obtain rfl : k = s.size := by omega
        have hN : numW l = some u := HN.out.trans (by
          have h1 := HVL.out
          rw [List.take_of_length_le (by rw [HSZ.out]; exact Nat.le_refl _)] at h1
          exact h1)
        go_wp2_with fail
        go_ret2
        exact ⟨.inl ⟨u, hN, rfl⟩, rfl⟩)
end Go.Proofs.YtgfijlamhjjecaaGreatDoor


namespace Go.Proofs.YtgfijlamhjjecaaGreatDoor
open Go.RowKit
theorem einfo_u64 : (Tryz.prog.info? 22).map (fun i => (i.zero, i.size, i.bytes)) = some (some (.int .u64 0), 1, 8) := by kernel_rfl
def uv64 (v : Nat) : Value := .int .u64 (v : Int)
theorem numsL_append : ∀ (a b : List (List Str)), numsL (a ++ b) = (numsL a).bind fun x => (numsL b).map (x ++ ·)
  | [], b => by simp [numsL]
  | e :: a, b => by
    simp only [List.cons_append, numsL, numsL_append a b]
    cases oneN e <;> cases numsL a <;> cases numsL b <;> simp
theorem numsL_step {es : List (List Str)} {k : Nat} {e : List Str} {ls : List Nat} {v : Nat} (h : numsL (es.take k) = some ls) (he : es[k]? = some e) (hv : oneN e = some v) : numsL (es.take (k + 1)) = some (ls ++ [v]) := by
  rw [List.take_add_one, he, numsL_append, h]
  simp [numsL, hv]
theorem numsL_none {es : List (List Str)} {k : Nat} {e : List Str} (he : es[k]? = some e) (hv : oneN e = none) : numsL es = none := by
  obtain ⟨hl, hx⟩ := List.getElem?_eq_some_iff.1 he
  rw [← List.take_append_drop k es, numsL_append, List.drop_eq_getElem_cons hl, hx]
  cases numsL (es.take k) <;> simp [numsL, hv]
theorem oneN_len {e : List Str} (h : e.length ≠ 1) : oneN e = none := by
  match e, h with
  | [], _ => rfl
  | [_], h => simp at h
  | _ :: _ :: _, _ => rfl
def U64s (w : World) (B : Nat) (v : Value) (ls : List Nat) : Prop := w.ownsRow B 22 1 v ls.length (ls.map uv64)
def RNumsQ (s : Seg) (t : Str) (n : Nat) (w : World) (e : Ending) (w' : World) : Prop :=
  ((∃ ls v, numsW s t n = some ls ∧ e = .returned (.tuple #[v, .bool true]) ∧ U64s w' w.heap.size v ls) ∨ (numsW s t n = none ∧ e = .returned (.tuple #[.slice none 0 0, .bool false]))) ∧ Below w.heap.size w w'
theorem rnums_no {s : Seg} {t : Str} {n : Nat} {w w' : World} (h : numsW s t n = none) (hb : Below w.heap.size w w') : RNumsQ s t n w (.returned (.tuple #[.slice none 0 0, .bool false])) w' := ⟨.inr ⟨h, rfl⟩, hb⟩
set_option maxRecDepth 100000 in
set_option maxHeartbeats 8000000 in
theorem rnums_any {S : Nat → Prop} (tb t : ByteArray) (ev : Value) (es : List (List Str)) (n : Nat) (hn3 : n ≤ 16) (w : World) (h : ElemsAt S w ev es) (hS : ∀ k, S k → k < w.heap.size) :
    Calls Tryz.prog 62 #[.agg #[.string tb, ev], .string t, .int .i64 (n : Int)] w fun e w' => RNumsQ ⟨tb.data.toList, es⟩ t.data.toList n w e w' := by
  obtain ⟨B, hB⟩ : ∃ B, w.heap.size = B := ⟨_, rfl⟩
  have HBQ := Lib.hid hB
  obtain ⟨ao, cap, rfl, hc1, hc2⟩ := h.form
  obtain ⟨m, hm⟩ : ∃ m, es.length = m := ⟨_, rfl⟩
  have HM := Lib.hid hm
  rw [hm] at hc1 h ⊢
  obtain ⟨w1, hw1⟩ : ∃ w1, w.alloc (.cells #[.string tb, .slice ao m cap] 94) = w1 := ⟨_, rfl⟩
  have hz1 : w1.heap.size = B + 1 := by rw [← hw1]; simp [hB]
  have HB1 : Hid (Below B w w1) := Lib.hid (by rw [← hw1, ← hB]; exact (Below.refl _ _).alloc (Nat.le_refl _) _)
  have HX1 : Hid (SBox w1 B tb (.slice ao m cap)) := Lib.hid (by rw [← hw1, ← hB]; exact heap_alloc_new _ _)
  have HE1 : Hid (ElemsAt (fun k => k < B) w1 (.slice ao m cap) es) := Lib.hid (h.cong (fun k hk => by rw [← hB]; exact hS k hk) (fun k hk => HB1.out.block k (by rw [← hB]; exact hS k hk)))
  have HW1 := Lib.hid hw1
  have HZ1 := Lib.hid hz1
  unfold maxLen at hc2
  clear hB hm hw1 hz1 h hS
  obtain ⟨p0, p1, _, _⟩ := cells2 HX1.out
  by_cases hte : tb = t
  · skip
    subst hte
    have d1 := str_same tb
    have d1n : (tb.toList != tb.toList) = false := by simp
    by_cases hmn : m = n
    · subst hmn
      have HNW : Hid (numsW ⟨tb.data.toList, es⟩ tb.data.toList m = numsL es) := Lib.hid (by unfold numsW; rw [if_pos ⟨rfl, HM.out⟩])
      go_enter Tryz.func62, Tryz.ntmps62
      go_upto_region 1 with fail
      rw [HW1.out, HBQ.out]
      go_wp2_with fail
      clear p0 p1
      go_loopw [8, 9] (fun ov i wr => ∃ (k : Nat) (ls : List Nat), k ≤ m ∧ i = .int .i64 (k : Int) ∧ Hid (numsL (es.take k) = some ls) ∧ Hid (U64s wr (B + 1) ov ls) ∧ Hid (Below (B + 1) w1 wr)) (fun _ i _ => m - (intOf i).toNat)
      case atStart => exact ⟨0, [], Nat.zero_le _, rfl, Lib.hid rfl, Lib.hid (World.ownsRow_nil _ _ _ _), Lib.hid (by rw [← HZ1.out]; exact Below.refl _ _)⟩
      case round =>
        obtain ⟨k, ls, hk, rfl, HK, HO, HB2⟩ := hrel
        have hz2 := HB2.out.size
        rw [HZ1.out] at hz2
        obtain ⟨p0, p1, _, _⟩ := cells2 ((HB2.out.block B (Nat.lt_succ_self B)).trans HX1.out)
        have HBW := Lib.hid (HB1.out.trans (HB2.out.mono (Nat.le_succ B)))
        have hlk : ls.length = k := by have h1 := numsL_len HK.out; rw [h1, List.length_take, HM.out]; omega
        have HLK := Lib.hid hlk
        obtain ⟨oa, oc, rfl⟩ := own_slice HO.out
        rw [hlk] at ⊢
        clear hlk
        by_cases hlt : k < m
        · obtain ⟨e, he⟩ : ∃ e, es[k]? = some e := ⟨_, List.getElem?_eq_getElem (by rw [HM.out]; exact hlt)⟩
          obtain ⟨eb, eoff, x2, rfl, heb, e0, hco⟩ := HE1.out.get he
          obtain ⟨ca, cc, rfl, hcc1, hcc2⟩ := hco.form
          obtain ⟨q, hq⟩ : ∃ q, e.length = q := ⟨_, rfl⟩
          have HQ := Lib.hid hq
          have HE := Lib.hid he
          have b1 : (0 : Int) ≤ k := by omega
          have b2 : (k : Int) < m := by omega
          have e1 := (HB2.out.cell (p := ⟨eb, eoff + k, none⟩) (show eb < B + 1 by omega)).trans e0
          rw [hq] at e1 hcc1
          have HCO : Hid (CompsAt (fun b => b < B) wr (.slice ca q cc) e) := Lib.hid (by rw [hq] at hco; exact hco.cong (fun _ h => h) (fun b hb => HB2.out.block b (by omega)))
          clear e0 hco hq he heb
          by_cases hq1 : q = 1
          · have hx : ∃ pb : ByteArray, e = [pb.data.toList] := by
              have hl := HQ.out
              rw [hq1] at hl
              obtain ⟨p, rfl⟩ := List.length_eq_one_iff.1 hl
              exact ⟨⟨p.toArray⟩, rfl⟩
            obtain ⟨pb, rfl⟩ := hx
            subst hq1
            obtain ⟨cb, coff, hca, _, hcc⟩ := HCO.out.get (k := 0) (p := pb.data.toList) rfl
            obtain rfl : ca = some ⟨cb, coff, none⟩ := hca
            rw [sv_dat, Nat.add_zero] at hcc
            go_wp2_with fail
            refine (rnum_any pb _).mono ?_
            rintro e w' ⟨hq, rfl⟩
            rcases hq with ⟨u, hu, rfl⟩ | ⟨hu, rfl⟩
            · have HU := Lib.hid (numsL_step HK.out HE.out (show oneN [pb.data.toList] = some u from hu))
              obtain ⟨i0, hi, hz0, hzz1, hzz2⟩ := info_parts einfo_u64
              have HI := Lib.hid hi
              have HZ0 := Lib.hid hz0
              have HZZ1 := Lib.hid hzz1
              have HZZ2 := Lib.hid hzz2
              have HRW : Hid (wr.ownsRow (B + 1) 22 1 (.slice oa k oc) k (ls.map uv64)) := Lib.hid (by have h1 := HO.out; unfold U64s at h1; rw [HLK.out] at h1; exact h1)
              clear hu hi hz0 hzz1 hzz2 p0 p1 e1 hcc
              go_wp2_with ((with_reducible refine wpList_at (.call { callee := .builtin .append, args := #[.tmp 48, .tmp 50], argTypes := #[131, 131] }) rfl ?_); go_loud (refine wpList_append_own_at _ rfl _ _ 131 rfl (B + 1) 22 i0 (.int .u64 0) 1 8 Tryz.underlying131 HI.out HZ0.out HZZ1.out HZZ2.out rfl (by decide) _ _ _ rfl (HRW.out.alloc _) ⟨wr.heap.size, 0, none⟩ 1 1 [.int .u64 (u : Int)] rfl rfl (cell_one_new _ _ _) (by simp [Value.oneCell']) (by unfold maxLen; omega) (by omega) (by simp; omega) ?_); intro v8 w8 hog hgg _ _; have HO8 : Hid (U64s w8 (B + 1) v8 (ls ++ [u])) := Lib.hid (by unfold U64s; rw [List.length_append, HLK.out, List.map_append]; exact hog); have HB8 := Lib.hid ((HB2.out.alloc (by omega) _).grown hgg (by simp; omega) (fun b hb => (own_lt HRW.out hb).1)); clear hog hgg)
              go_roundw
              case rel => exact ⟨k + 1, ls ++ [u], by omega, by go_num, HU, HO8, HB8⟩
              case measure => simp [intOf]; omega
            · have HNN := Lib.hid (HNW.out.trans (numsL_none HE.out (show oneN [pb.data.toList] = none from hu)))
              clear hu
              go_wp2_with fail
              go_ret2
              exact rnums_no HNN.out (by rw [HBQ.out]; exact HBW.out)
          · have d2 : ((q : Int) != 1) = true := by rw [bne_iff_ne]; omega
            have d2n : ((q : Int) == 1) = false := by rw [beq_eq_false_iff_ne]; omega
            have d2m : (q == 1) = false := by rw [beq_eq_false_iff_ne]; exact hq1
            have HNN := Lib.hid (HNW.out.trans (numsL_none HE.out (oneN_len (by rw [HQ.out]; exact hq1))))
            go_wp2_with fail
            go_ret2
            exact rnums_no HNN.out (by rw [HBQ.out]; exact HBW.out)
        · have hkm : k = m := by omega
          have HK2 : Hid (numsL es = some ls) := Lib.hid (by have h1 := HK.out; rw [hkm, ← HM.out, List.take_length] at h1; exact h1)
          subst hkm
          go_wp2_with fail
          go_ret2
          refine ⟨.inl ⟨ls, _, by rw [HNW.out]; exact HK2.out, rfl, ?_⟩, by rw [HBQ.out]; exact HBW.out⟩
          rw [HBQ.out]
          have h1 := HO.out
          unfold U64s at h1 ⊢
          rw [HLK.out] at h1 ⊢
          obtain ⟨a1, a2 | ⟨gb, gc, gcur, r1, r2, r3⟩⟩ := h1
          · exact ⟨a1, .inl a2⟩
          · exact ⟨a1, .inr ⟨gb, gc, gcur, r1, by omega, r3⟩⟩
    · have d2 : ((m : Int) != (n : Int)) = true := by rw [bne_iff_ne]; omega
      have d2n : ((m : Int) == (n : Int)) = false := by rw [beq_eq_false_iff_ne]; omega
      have d2m : (m == n) = false := by rw [beq_eq_false_iff_ne]; exact hmn
      have HNO : Hid (numsW ⟨tb.data.toList, es⟩ tb.data.toList n = none) := Lib.hid (by
        unfold numsW
        rw [if_neg]
        rintro ⟨_, h1⟩
        exact hmn (by rw [← HM.out]; exact h1))
      clear hmn
      go_enter Tryz.func62, Tryz.ntmps62
      go_upto_region 1 with fail
      rw [HW1.out, HBQ.out]
      go_wp2_with fail
      go_ret2
      exact rnums_no HNO.out (by rw [HBQ.out]; exact HB1.out)
  · skip
    have d1 := str_ne hte
    have d1n : (tb.toList != t.toList) = true := by rw [bne, d1]; rfl
    have HNO : Hid (numsW ⟨tb.data.toList, es⟩ t.data.toList n = none) := Lib.hid (by
      unfold numsW
      rw [if_neg]
      rintro ⟨h1, _⟩
      exact hte (by cases tb; cases t; simp at h1; simp [h1]))
    clear hte
    go_enter Tryz.func62, Tryz.ntmps62
    go_upto_region 1 with fail
    rw [HW1.out, HBQ.out]
    go_wp2_with fail
    go_ret2
    exact rnums_no HNO.out (by rw [HBQ.out]; exact HB1.out)
end Go.Proofs.YtgfijlamhjjecaaGreatDoor

