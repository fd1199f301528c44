/-
  Jour21: append of zeros; contracts of the document's Number and Head. No condition beyond those stated.
-/
import Derived.Test.YtgfdbjeliojhkaaJour20
import Derived.Maps.AppendAt
namespace Go.Proofs.Ytgfdbjeliojhkaa
open Go.RowKit
theorem zeroCells_one (x : Value) (n : Nat) : Builtin.zeroCells #[x] n = (List.replicate n x).toArray := by
  apply Array.ext_getElem?
  intro j
  by_cases hj : j < n
  · simp [Builtin.zeroCells, hj, Nat.mod_one]
  · rw [Array.getElem?_eq_none (by simp [Builtin.zeroCells]; omega), Array.getElem?_eq_none (by simp; omega)]
/-- append(v, make([]T, m)...): one operation -/
theorem run_append_zeros {P : Program} (w : World) (base : Nat) (t u ty e : TypeId) (i : TypeInfo) (z : Value) (ht : P.underlying t = some (.slice e)) (hu : P.underlying u = some (.int .i64)) (hi : P.info? e = some i) (hz : i.zero = some z)
    (hsize : i.size = 1) (hby : i.bytes = 1) (hz1 : z.oneCell' = true) (hzc : z.cells = #[z]) (v : Value) (n : Nat) (xs : List Value) (hown : w.ownsRow base e 1 v n xs) (m : Nat) (hm : 0 < m) (h63 : n + m ≤ 1000000) (hbase : base ≤ w.heap.size) :
    ∃ v' w', (Builtin.append_ #[t, u] ty #[v, .int .i64 (m : Int)]).run P w = .ok v' w' ∧ w'.ownsRow base e 1 v' (n + m) (xs ++ List.replicate m z) ∧ w.grownBy w' v.ownBlock := by
  have hwr : IntKind.i64.wrap (m : Int) = (m : Int) := IntWalk.i64_in _ (by omega)
  have hneg : ¬ (m : Int) < 0 := by omega
  have hbig : ¬ (2 : Int) ^ 48 < (m : Int) := by omega
  have hbig' : ¬ (281474976710656 : Int) < (m : Int) := by omega
  have hm0 : ¬ m = 0 := by omega
  have hlen : (xs ++ List.replicate m z).length = (n + m) * 1 := by rw [List.length_append, hown.1, List.length_replicate]; omega
  have grown : ∀ (old : Nat), old < n + m → ∀ (row : Option Nat),
      (w.drew.alloc (.cells (xs.toArray ++ (List.replicate m z).toArray ++ Builtin.zeroCells z.cells (grownCap w (n + m) old e - (n + m))) e)).ownsRow base e 1
        (.slice (some ⟨w.heap.size, 0, none⟩) (n + m) (grownCap w (n + m) old e)) (n + m) (xs ++ List.replicate m z) ∧
      w.grownBy (w.drew.alloc (.cells (xs.toArray ++ (List.replicate m z).toArray ++ Builtin.zeroCells z.cells (grownCap w (n + m) old e - (n + m))) e)) row := by
    intro old ho row
    have hge := grownCap_ge w (n + m) old e
    have hcm : grownCap w (n + m) old e ≤ maxLen := grownCap_le_maxLen w (n + m) old e (by unfold maxLen; omega)
    refine ⟨⟨hlen, .inr ⟨w.heap.size, _, _, rfl, hbase, heap_alloc_new w.drew _, hge, hcm, ?_, ?_⟩⟩, ⟨rfl, rfl, rfl, by simp, fun k hk _ => Below.heap_alloc w.drew _ _ hk⟩⟩
    · have h1 := hown.1
      simp only [Array.size_append, List.size_toArray, size_zeroCells, hzc, List.length_replicate, h1]
      simp
      omega
    · simp only [Array.toList_append, List.append_assoc]
      rw [← List.append_assoc, ← hlen]
      exact List.take_left
  rcases hown.2 with ⟨rfl, rfl⟩ | ⟨g, cap, cur, rfl, hbg, hg, hnc, hcm, hcs, htake⟩
  · have hx : xs = [] := List.eq_nil_of_length_eq_zero (by simpa using hown.1)
    subst hx
    have hgr := grown 0 (by omega) (Value.ownBlock (.slice none 0 0))
    simp only [Nat.zero_add, List.nil_append, Array.empty_append] at hgr ⊢
    refine ⟨_, _, ?_, hgr.1, hgr.2⟩
    have h48' : ¬ (281474976710656 < Builtin.nextslicecap m 0 * 1) := by rw [nextslicecap_zero hm]; omega
    have h64 : ¬ (9223372036854775807 < (m : Int)) := by omega
    simp [Builtin.append_, run_underlying ht, run_underlying hu, sizeOf, typeInfo, zeroValue, hi, hz, hsize, hby, asInt, asIntOf, hwr, hneg, hbig', hm0, h64, Question.forced, run_firstCells_none, newRow, grownCap, hzc, zeroCells_one]
    try (intro h; exact absurd h (by simpa using h48'))
  · by_cases hroom : n + m ≤ cap
    · have hst := run_storeCells_at P g n e (List.replicate m z) 0 cur w hg (by rw [List.length_replicate]; omega) (fun u hu => by rw [(List.mem_replicate.1 hu).2]; exact hz1)
      simp only [Nat.add_zero, List.length_replicate] at hst
      refine ⟨.slice (some ⟨g, 0, none⟩) (n + m) cap, w.setRow g (cur.toList.take n ++ List.replicate m z ++ cur.toList.drop (n + m)).toArray, ?_, ⟨hlen, .inr ⟨g, cap, _, rfl, hbg, setRow_heap w g cur _ e _ hg, hroom, hcm, ?_, ?_⟩⟩, ⟨rfl, rfl, rfl, by simp, fun k _ hk => setRow_other w g k _ (fun e => hk (by simp [Value.ownBlock, e]))⟩⟩
      · simp [Builtin.append_, run_underlying ht, run_underlying hu, sizeOf, typeInfo, zeroValue, hi, hz, hsize, hby, asInt, asIntOf, hwr, hneg, hbig', hm0, hroom, Addr.add_lit, hzc, zeroCells_one, hst]
      · have h1 := hown.1
        simp only [List.size_toArray, List.length_append, List.length_take, List.length_drop, Array.length_toList, List.length_replicate]
        omega
      · rw [Nat.mul_one] at htake
        rw [htake, ← hlen]
        exact List.take_left
    · have hgr := grown cap (by omega) (Value.ownBlock (.slice (some ⟨g, 0, none⟩) n cap))
      refine ⟨_, _, ?_, hgr.1, hgr.2⟩
      have holds : ∀ j u, xs[j]? = some u → w.cell? ((⟨g, 0, none⟩ : Addr).add j) = some u := hown.cells (g := g) rfl
      have hfo := run_firstCells_some (P := P) w.drew 1 n ⟨g, 0, none⟩ n cap xs hown.1 (by simpa using holds)
      have h64 : ¬ (9223372036854775807 < ((n : Int) + (m : Int))) := by omega
      have h48' : ¬ (281474976710656 < Builtin.nextslicecap (n + m) cap * 1) := by have := growslice_fits (need := n + m) (old := cap) (bytes := 1) (by omega) (by omega); omega
      simp [Builtin.append_, run_underlying ht, run_underlying hu, sizeOf, typeInfo, zeroValue, hi, hz, hsize, hby, asInt, asIntOf, hwr, hneg, hbig', hm0, hroom, h64, Question.forced, hfo, newRow, grownCap, hzc, zeroCells_one]
      try (intro h; exact absurd h (by simpa using h48'))
theorem wpList_append_zeros {P : Program} {w : World} {ops : Array Oper} {rest : List Oper} {o : Oper} {a : Act} {Q : Exit → Act → World → Prop} (hgd : o.guard = none) (s x : Operand) (t u : TypeId)
    (ho : o.op = .call { callee := .builtin .append, args := #[s, x], argTypes := #[t, u] }) (base : Nat) (e : TypeId) (i : TypeInfo) (z : Value) (ht : P.underlying t = some (.slice e)) (hu : P.underlying u = some (.int .i64)) (hi : P.info? e = some i) (hz : i.zero = some z)
    (hsize : i.size = 1) (hby : i.bytes = 1) (hz1 : z.oneCell' = true) (hzc : z.cells = #[z]) (v : Value) (n : Nat) (xs : List Value) (hs : a.eval s = v) (hown : w.ownsRow base e 1 v n xs) (m : Nat) (hx : a.eval x = .int .i64 (m : Int)) (hm : 0 < m) (h63 : n + m ≤ 1000000) (hbase : base ≤ w.heap.size)
    (h : ∀ v' w', w'.ownsRow base e 1 v' (n + m) (xs ++ List.replicate m z) → w.grownBy w' v.ownBlock → wpList P ops Q rest (a.put o.dst v') w') : wpList P ops Q (o :: rest) a w := by
  obtain ⟨v', w', hr, h2, h3⟩ := run_append_zeros (P := P) w base t u o.type e i z ht hu hi hz hsize hby hz1 hzc v n xs hown m hm h63 hbase
  refine wpList_val (v := v') (w' := w') hgd ?_ (h v' w' h2 h3)
  unfold execOp
  simp only [ho, resolve, invoke, builtin, Sem.run_bind, Sem.run_pure, Result.andThen_ok, List.map_toArray, List.map_cons, List.map_nil, hs, hx, hr]
/-- bytes, nil or not, appended to an owned row, and where the new slice lies -/
theorem wpList_append_G {ops : Array Oper} {rest : List Oper} {o : Oper} {a : Act} {Q : Exit → Act → World → Prop} {w : World} (hgd : o.guard = none) (s x : Operand)
    (ho : o.op = .call { callee := .builtin .append, args := #[s, x], argTypes := #[31, 31] }) (B : Nat) {v xv : Value} {l : List UInt8} {m : Nat} {f : Sec} (hs : a.eval s = v) (hown : OwnB w B v l) (hx : a.eval x = xv) (hxb : BytesAt w xv m f)
    (hB : B ≤ w.heap.size) (hlim : l.length + m ≤ 100000000) (h : ∀ v' w', OwnB w' B v' (l ++ secL m f) → w.grownBy w' v.ownBlock → (v'.ownBlock = v.ownBlock ∨ v'.ownBlock = some w.heap.size) → wpList Try.prog ops Q rest (a.put o.dst v') w') : wpList Try.prog ops Q (o :: rest) a w := by
  obtain ⟨i0, hi, hz0, hz1, hz2⟩ := info_parts info_u8
  obtain ⟨ao, cap, rfl, h1, h2, h3, h4⟩ := hxb
  cases ao with
  | none =>
    obtain ⟨rfl, rfl⟩ := h3 rfl
    refine wpList_append_own_none hgd s x 31 ho B 5 i0 1 Try.underlying31 hi v _ _ hs hown hx (h v w ?_ ⟨rfl, rfl, rfl, Nat.le_refl _, fun _ _ _ => rfl⟩ (.inl rfl))
    have e : secL 0 f = [] := rfl
    rw [e, List.append_nil]; exact hown
  | some ad =>
    refine wpList_append_own_at w hgd s x 31 ho B 5 i0 (.int .u8 0) 1 1 Try.underlying31 hi hz0 hz1 hz2 rfl (by decide) v _ _ hs hown ad m cap (rowL m f) hx (by rw [rowL_length, Nat.mul_one]) (fun j u hu => ?_) rowL_one (by unfold maxLen; omega) (by omega) hB (fun v' w' h5 h6 _ h8 => h v' w' ?_ h6 h8)
    · have hj : j < m := by have := (List.getElem?_eq_some_iff.1 hu).1; rw [rowL_length] at this; exact this
      obtain ⟨b, off, e, hr⟩ := h4 (by omega)
      obtain rfl : ad = ⟨b, off, none⟩ := by simpa using e
      rw [Addr.add_mid]; exact hr j u hu
    · unfold OwnB; rw [List.length_append, secL_len, List.map_append, secL_map]; exact h5
theorem be_at : ∀ (n v k : Nat), k < n → lsec (be n v) k = UInt8.ofNat (v / 256 ^ (n - 1 - k) % 256)
  | 0, _, _, h => by omega
  | n + 1, v, k, h => by
    by_cases hk : k < n
    · rw [be, lsec_append_lt (by rw [be_len]; exact hk), be_at n _ k hk, Nat.div_div_eq_div_mul, Nat.mul_comm 256, ← Nat.pow_succ, show n + 1 - 1 - k = n - 1 - k + 1 by omega]
    · obtain rfl : k = n := by omega
      rw [be, lsec_append_ge (by rw [be_len]; omega), be_len]
      simp [lsec]
set_option maxRecDepth 100000 in
set_option maxHeartbeats 1000000 in
theorem number_any (v n : Nat) (hv : v < 2 ^ 64) (hn : n ≤ 8) (w : World) : Calls Try.prog 30 #[.int .u64 (v : Int), .int .i64 (n : Int)] w fun e w' => e = .returned (.slice (some ⟨w.heap.size, 0, none⟩) n n) ∧ w'.heap[w.heap.size]? = some (.cells (rowA n (lsec (be n v))) 5 (0, 0)) ∧ Fr [] w w' := by
  have hmk := run_make_bytes n (by omega)
  have HV := Lib.hid hv
  clear hv
  go_enter Try.func30, Try.ntmps30
  go_wp2
  obtain ⟨w1, hw1⟩ : ∃ w1, w.alloc (.cells (rowA n fun _ => 0) 5) = w1 := ⟨_, rfl⟩
  have h0 : w1.heap[w.heap.size]? = some (.cells (rowA n fun _ => 0) 5 (0, 0)) := by rw [← hw1]; exact heap_alloc_new _ _
  have f0 : Fr [] w w1 := by rw [← hw1]; exact Fr.alloc _ _ _
  rw [hw1]
  have H0 := Lib.hid h0
  have F0 := Lib.hid f0
  clear hw1 hmk h0 f0
  go_loopw [0, 6] (fun vs i wr => ∃ m : Nat, m ≤ n ∧ i = .int .i64 ((m : Int) - 1) ∧ vs = .int .u64 ((v / 256 ^ (n - m) : Nat) : Int) ∧ Hid (wr.heap[w.heap.size]? = some (.cells (rowA n fun j => if m ≤ j then lsec (be n v) j else 0) 5 (0, 0))) ∧ Hid (Fr [w.heap.size] w1 wr)) (fun _ i _ => (intOf i + 1).toNat)
  case atStart =>
    refine ⟨n, Nat.le_refl _, rfl, by simp, Lib.hid ?_, Lib.hid (Fr.refl _ _)⟩
    rw [H0.out, rowA_congr (f := fun _ => 0) (g := fun j => if n ≤ j then lsec (be n v) j else 0) (fun j hj => (if_neg (by omega)).symm)]
  case round =>
    obtain ⟨m, hm, rfl, rfl, HR, HF⟩ := hrel
    obtain ⟨q, hq⟩ : ∃ q, v / 256 ^ (n - m) = q := ⟨_, rfl⟩
    have hqb : q < 2 ^ 64 := by rw [← hq]; exact Nat.lt_of_le_of_lt (Nat.div_le_self _ _) HV.out
    rw [hq]
    rcases m with _ | k
    · rw [show (((0 : Nat) : Int) - 1) = -1 from rfl]
      clear hq hqb
      go_wp2
      go_ret
      refine ⟨rfl, ?_, ((F0.out.mono (G := [w.heap.size]) (by simp)).trans HF.out).mono (by simp)⟩
      rw [HR.out, rowA_congr (g := lsec (be n v)) (fun j hj => if_pos (Nat.zero_le _))]
    · rw [show (((k + 1 : Nat) : Int) - 1) = (k : Int) by omega]
      have HQ := Lib.hid hq
      have hlt : k < n := by omega
      have ck : wr.cell? ⟨w.heap.size, k, none⟩ = some (bv 0) := by rw [cell_of_row wr _ k _ _ _ HR.out, rowA_get _ hlt, if_neg (by omega)]
      have fk := frozen_of_row wr w.heap.size k _ _ HR.out
      have hqb' : q < 18446744073709551616 := by omega
      clear hq hqb
      go_wp2
      go_roundw
      case rel =>
        refine ⟨k, by omega, rfl, ?_, Lib.hid ?_, Lib.hid (HF.out.trans (Fr.setCell _ (by simp) _))⟩
        · have e : v / 256 ^ (n - k) = q / 256 := by
            rw [← HQ.out, Nat.div_div_eq_div_mul, ← Nat.pow_succ, show n - k = n - (k + 1) + 1 by omega]
          rw [e]; congr 1
        · have e1 : lsec (be n v) k = UInt8.ofNat (q % 256) := by
            rw [be_at n v k hlt, ← HQ.out, show n - 1 - k = n - (k + 1) by omega]
          have e2 : Value.int .u8 ((q : Int) % 256) = .int .u8 (((lsec (be n v) k).toNat : Nat) : Int) := by rw [e1, u8_mod]; congr 1
          rw [heap_setCell_same wr w.heap.size k _ _ _ HR.out, e2, set_row]
          congr 2
          apply rowA_congr
          intro j hj
          by_cases h1 : j = k
          · subst h1; rw [if_pos rfl, if_pos (Nat.le_refl _)]
          · rw [if_neg h1]
            by_cases h2 : k + 1 ≤ j
            · rw [if_pos h2, if_pos (by omega)]
            · rw [if_neg h2, if_neg (by omega)]
      case measure => simp [intOf]
theorem OwnB.row {w : World} {B b n : Nat} {l : List UInt8} (h : w.heap[b]? = some (.cells (rowA n (lsec l)) 5 (0, 0))) (hb : B ≤ b) (hl : l.length = n) (hn : n ≤ 1000000) : OwnB w B (.slice (some ⟨b, 0, none⟩) n n) l := by
  subst hl
  refine ⟨by simp, .inr ⟨b, _, _, rfl, hb, h, Nat.le_refl _, by unfold maxLen; omega, by rw [rowA_size, Nat.mul_one], ?_⟩⟩
  rw [← rowL_lsec]
  exact List.take_of_length_le (by simp [rowA, rowL_length])
theorem OwnB.grown {w w' : World} {B : Nat} {v v' : Value} {l : List UInt8} {row : Option Nat} (h : OwnB w B v l) (hg : w.grownBy w' row) (hne : v.ownBlock = none ∨ v.ownBlock ≠ row) : OwnB w' B v l := World.ownsRow.kept h hg hne
theorem OwnB.fr0 {w w' : World} {B : Nat} {v : Value} {l : List UInt8} (h : OwnB w B v l) (hf : Fr [] w w') : OwnB w' B v l :=
  ownsRow_cong h (fun k hk => hf.block k (World.ownsRow.lt h k hk).2 (by simp))
theorem Fr.then_grown {F : List Nat} {a b c : World} {B : Nat} {v : Value} {l : List UInt8} (h : Fr F a b) (ho : OwnB b B v l) (hB : a.heap.size ≤ B) (hg : b.grownBy c v.ownBlock) : Fr F a c :=
  ⟨hg.os.trans h.os, hg.tape.trans h.tape, hg.output.trans h.output, Nat.le_trans h.size hg.size, fun k hk hn => (hg.block k (Nat.lt_of_lt_of_le hk h.size) (fun e => by have := (ho.blk k e.symm).1; omega)).trans (h.block k hk hn)⟩
theorem number_own (v n B : Nat) (hv : v < 2 ^ 64) (hn : n ≤ 8) (w : World) (hB : B ≤ w.heap.size) : Calls Try.prog 30 #[.int .u64 (v : Int), .int .i64 (n : Int)] w fun e w' => ∃ u, e = .returned u ∧ OwnB w' B u (be n v) ∧ u.ownBlock = some w.heap.size ∧ BytesAt w' u n (lsec (be n v)) ∧ Fr [] w w' :=
  (number_any v n hv hn w).mono fun e w' ⟨a, b, c⟩ => ⟨_, a, OwnB.row b hB (be_len _ _) (by omega), rfl, by have h := (OwnB.row b hB (be_len _ _) (by omega)).bytes.1; rw [be_len] at h; exact h, c⟩
set_option maxRecDepth 100000 in
set_option maxHeartbeats 2000000 in
theorem head_any (N L : Nat) (hN : N < 2 ^ 64) (hL : L < 2 ^ 64) (w : World) : Calls Try.prog 31 #[.int .u64 (N : Int), .int .u64 (L : Int)] w fun e w' => ∃ v, e = .returned v ∧ OwnB w' w.heap.size v (headL N L) ∧ Fr [] w w' := by
  have HN := Lib.hid hN
  have HL := Lib.hid hL
  obtain ⟨a, ha⟩ : ∃ a, be 8 N = a := ⟨_, rfl⟩
  obtain ⟨b, hb⟩ : ∃ b, be 8 L = b := ⟨_, rfl⟩
  have HE := Lib.hid (show headL N L = a ++ b ++ List.replicate 40 0 ++ a by rw [← ha, ← hb]; rfl)
  have la : a.length = 8 := by rw [← ha]; exact be_len _ _
  have lb : b.length = 8 := by rw [← hb]; exact be_len _ _
  have HLA := Lib.hid la
  have HLB := Lib.hid lb
  have HA := Lib.hid ha
  have HBB := Lib.hid hb
  clear hN hL la lb ha hb
  obtain ⟨B, hB⟩ : ∃ B, B = w.heap.size := ⟨_, rfl⟩
  have HB := Lib.hid hB
  have sb : B ≤ w.heap.size := by omega
  clear hB
  go_enter Try.func31, Try.ntmps31
  go_wp2_with fail
  refine (number_own N 8 B HN.out (by omega) _ sb).mono ?_
  rintro e w1 ⟨u1, rfl, ho1, hk1, _, hf1⟩
  rw [HA.out] at ho1
  have HO1 := Lib.hid ho1
  have HK1 := Lib.hid hk1
  have HF1 := Lib.hid hf1
  have s1 := hf1.size
  clear ho1 hk1 hf1
  go_wp2_with fail
  refine (number_own L 8 B HL.out (by omega) _ (by omega)).mono ?_
  rintro e w2 ⟨u2, rfl, _, _, hb2, hf2⟩
  rw [HBB.out] at hb2
  have HO2 := Lib.hid (HO1.out.fr0 hf2)
  have HB2 := Lib.hid hb2
  have HF2 := Lib.hid (HF1.out.trans hf2)
  have s2 := hf2.size
  clear hb2 hf2 HO1 HF1
  obtain ⟨i0, hi, hz0, hz1, hz2⟩ := info_parts info_u8
  have HI := Lib.hid hi
  have HZ0 := Lib.hid hz0
  have HZ1 := Lib.hid hz1
  have HZ2 := Lib.hid hz2
  have hlA := HLA.out
  have hlB := HLB.out
  have HLAB := Lib.hid (show (a ++ secL 8 (lsec (be 8 L))).length = 16 by rw [List.length_append, secL_len, hlA])
  have HSB := Lib.hid (show secL 8 (lsec (be 8 L)) = b by rw [HBB.out, ← hlB, secL_lsec])
  clear hi hz0 hz1 hz2 hlA hlB
  rw [HBB.out] at HLAB HSB
  go_wp2_with (first
    | ((with_reducible refine wpList_at (.call { callee := .builtin .append, args := #[.tmp 7, .tmp 9], argTypes := #[31, 31] }) rfl ?_); refine wpList_append_G rfl _ _ rfl B rfl HO2.out rfl HB2.out (by omega) (by rw [HLA.out]; omega) ?_; intro u3 w3 ho3 hg3 _; have HO3 := Lib.hid ho3; have HG3 := Lib.hid hg3; have s3 := hg3.size; clear ho3 hg3)
    | ((with_reducible refine wpList_at (.call { callee := .builtin .append, args := #[.tmp 11, .const (.int .i64 40)], argTypes := #[31, 3] }) rfl ?_); refine wpList_append_zeros rfl _ _ 31 3 rfl B 5 i0 (.int .u8 0) Try.underlying31 Try.underlying3 HI.out HZ0.out HZ1.out HZ2.out rfl rfl _ _ _ rfl HO3.out 40 rfl (by omega) (by rw [HLAB.out]; omega) (by omega) ?_; intro u4 w4 ho4 hg4; have HO4 := Lib.hid ho4; have HG4 := Lib.hid hg4; have s4 := hg4.size; clear ho4 hg4))
  have HO5 : Hid (OwnB w4 B u4 (a ++ b ++ List.replicate 40 0)) := Lib.hid (by
    have h := HO4.out
    rw [HSB.out] at h
    unfold OwnB
    rw [List.length_append (bs := List.replicate 40 0), List.length_replicate, List.map_append, List.map_replicate, show bv 0 = Value.int .u8 0 from rfl]
    exact h)
  have HF4 : Hid (Fr [] w w4) := Lib.hid (by
    have hb := HB.out
    have h3 : OwnB w3 B u3 (a ++ secL 8 (lsec b)) := HO3.out
    exact (HF2.out.then_grown HO2.out (by omega) HG3.out).then_grown h3 (by omega) HG4.out)
  refine (number_own N 8 B HN.out (by omega) _ (by omega)).mono ?_
  rintro e w5 ⟨u5, rfl, _, _, hb5, hf5⟩
  rw [HA.out] at hb5
  have HO6 := Lib.hid (HO5.out.fr0 hf5)
  have HB5 := Lib.hid hb5
  have HF5 := Lib.hid (HF4.out.trans hf5)
  have s5 := hf5.size
  have HLC := Lib.hid (show (a ++ b ++ List.replicate 40 0).length = 56 by rw [List.length_append, List.length_append, HLA.out, HLB.out, List.length_replicate])
  clear hb5 hf5 HO2 HB2 HO3 HO4 HO5 HG3 HG4
  go_wp2_with ((with_reducible refine wpList_at (.call { callee := .builtin .append, args := #[.tmp 13, .tmp 15], argTypes := #[31, 31] }) rfl ?_); refine wpList_append_G rfl _ _ rfl B rfl HO6.out rfl HB5.out (by omega) (by rw [HLC.out]; omega) ?_; intro u6 w6 ho6 hg6 _; have HO7 := Lib.hid ho6; have HG6 := Lib.hid hg6; have s6 := hg6.size; clear ho6 hg6)
  go_ret
  refine ⟨u6, rfl, ?_, ?_⟩
  · have h := HO7.out
    have e : secL 8 (lsec a) = a := by have := secL_lsec a; rw [HLA.out] at this; exact this
    rw [e] at h
    rw [HE.out, ← HB.out]; exact h
  · exact HF5.out.then_grown HO6.out (by have := HB.out; omega) HG6.out
end Go.Proofs.Ytgfdbjeliojhkaa
