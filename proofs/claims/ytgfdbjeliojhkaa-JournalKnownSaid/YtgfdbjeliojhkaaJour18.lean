/-
  Jour18: JournalNil, its parts. No condition beyond those stated.
-/
import Derived.Test.YtgfdbjeliojhkaaJour17
namespace Go.Proofs.Ytgfdbjeliojhkaa
open Go.RowKit
/-- the block that a slice leads to -/
def blkL : Option Addr → List Nat
  | none => []
  | some a => [a.block]
/-- bytes that may be written, in a block from B on -/
def Inc (w : World) (B : Nat) (ao : Option Addr) (m : Nat) : Prop := 0 < m → ∃ g o, ao = some ⟨g, o, none⟩ ∧ B ≤ g ∧ ∃ C, w.heap[g]? = some (.cells C 5 (0, 0)) ∧ ∀ j, j < m → ∃ x, C[o + j]? = some (.int .u8 x)
theorem Inc.of {w : World} {B m : Nat} {ao : Option Addr} {c : Nat} {f : Sec} (h : BytesAt w (.slice ao m c) m f) (hk : ∀ k, (Value.slice ao m c).ownBlock = some k → B ≤ k ∧ ∃ C, w.heap[k]? = some (.cells C 5 (0, 0))) : Inc w B ao m := by
  intro hm
  obtain ⟨_, _, e, _, _, _, h4⟩ := h
  cases e
  obtain ⟨b, off, rfl, hr⟩ := h4 hm
  obtain ⟨h1, C, h2⟩ := hk b rfl
  refine ⟨b, off, rfl, h1, C, h2, fun j hj => ⟨((f j).toNat : Int), ?_⟩⟩
  have h3 := hr j _ (rowL_get f hj)
  rw [cell_of_row w b (off + j) _ _ _ h2] at h3
  exact h3
theorem OwnB.blk {w : World} {B : Nat} {v : Value} {l : List UInt8} (h : OwnB w B v l) : ∀ k, v.ownBlock = some k → B ≤ k ∧ ∃ C, w.heap[k]? = some (.cells C 5 (0, 0)) := by
  intro k hk
  obtain ⟨_, ⟨rfl, _⟩ | ⟨g, cap, cur, rfl, hg, hh, _⟩⟩ := h
  · simp [Value.ownBlock] at hk
  · cases hk; exact ⟨hg, cur, hh⟩
theorem own_blkL {ao : Option Addr} {n c k : Nat} (h : k ∈ blkL ao) : (Value.slice ao n c).ownBlock = some k := by
  cases ao with
  | none => cases h
  | some a => simp [blkL] at h; subst h; rfl
theorem Inc.set {w : World} {B m g o k : Nat} {y : Int} (h : Inc w B (some ⟨g, o, none⟩) m) (hk : k < m) : Inc (w.setCell ⟨g, o + k, none⟩ (.int .u8 y)) B (some ⟨g, o, none⟩) m := by
  intro hm
  obtain ⟨g', o', e, hB, C, hC, hx⟩ := h hm
  cases e
  refine ⟨g, o, rfl, hB, _, heap_setCell_same w g (o + k) _ _ _ hC, fun j hj => ?_⟩
  obtain ⟨x, h1⟩ := hx j hj
  obtain ⟨x2, h2⟩ := hx k hk
  by_cases e : j = k
  · subst e
    refine ⟨y, ?_⟩
    have : o + j < C.size := (Array.getElem?_eq_some_iff.1 h1).1
    simp [Array.getElem?_setIfInBounds, this]
  · refine ⟨x, ?_⟩
    rw [Array.getElem?_setIfInBounds_ne (by omega)]; exact h1
theorem JAt.fr2 {w w' : World} {jb db N : Nat} {d : List UInt8} {dd : Bool} {v : Value} {F : List Nat} (h : JAt w jb db N d dd) (hc : w.cell? ⟨jb, 2, none⟩ = some v) (hf : Fr F w w') (h1 : jb ∉ F) (h2 : ∀ k, v.ownBlock = some k → k ∉ F) : JAt w' jb db N d dd ∧ w'.cell? ⟨jb, 2, none⟩ = some v := by
  obtain ⟨ao, cap, h3, h4, h5⟩ := h.ex
  have e : v = .slice ao d.length cap := by
    rw [cell_of_row w jb 2 _ _ _ h3] at hc
    exact (Option.some.inj hc).symm
  subst e
  have e1 := hf.block jb h.lt h1
  refine ⟨⟨ao, cap, e1.trans h3, h4.fr hf h2, fun k hk => ?_⟩, (World.cell?_of_block (a := ⟨jb, 2, none⟩) e1).trans hc⟩
  obtain ⟨C, t, h6, h7⟩ := h5 k hk
  exact ⟨C, t, (hf.block k (Array.getElem?_eq_some_iff.1 h6).1 (h2 k hk)).trans h6, h7⟩
theorem cell_lt {w : World} {b o : Nat} {v : Value} (h : w.cell? ⟨b, o, none⟩ = some v) : b < w.heap.size := by
  rcases Nat.lt_or_ge b w.heap.size with h1 | h1
  · exact h1
  · have h2 : w.heap[b]? = none := by simp [h1]
    simp [World.cell?, h2] at h
theorem JAt.data_lt {w : World} {jb db N : Nat} {d : List UInt8} {dd : Bool} {v : Value} (h : JAt w jb db N d dd) (hc : w.cell? ⟨jb, 2, none⟩ = some v) : ∀ k, v.ownBlock = some k → k < w.heap.size := by
  obtain ⟨ao, cap, h3, h4, h5⟩ := h.ex
  have e : v = .slice ao d.length cap := by
    rw [cell_of_row w jb 2 _ _ _ h3] at hc
    exact (Option.some.inj hc).symm
  subst e
  intro k hk
  obtain ⟨C, t, h6, _⟩ := h5 k hk
  exact (Array.getElem?_eq_some_iff.1 h6).1
theorem DH.fr {w w' : World} {db lb mb : Nat} {D : DK} {rs : List (List UInt8)} {F : List Nat} (h : DH w db lb mb D rs) (hf : Fr F w w') (a : db ∉ F) (b : lb ∉ F) (c : mb ∉ F) : DH w' db lb mb D rs := ⟨h.k.fr hf a b c, h.c, h.dead, h.fuse⟩
set_option maxRecDepth 100000 in
set_option maxHeartbeats 4000000 in
theorem journalNil_main (v : Value) (l : List UInt8) (w : World) (hb : BytesAt w v l.length (lsec l)) (hl : l.length ≤ 60) : Calls Try.prog 7 #[v] w fun e w' => e = .returned (.bool true) ∧ Fr [] w w' := by
  obtain ⟨ao, cap, rfl, hb1, hb2, hb3, hb4⟩ := hb
  have HB := Lib.hid (show BytesAt w (.slice ao l.length cap) l.length (lsec l) from ⟨ao, cap, rfl, hb1, hb2, hb3, hb4⟩)
  clear hb3 hb4
  have hli : ¬ (60 : Int) < (l.length : Int) := by omega
  go_enter Try.func7, Try.ntmps7
  go_wp2_with fail
  refine (open_nil w).mono ?_
  rintro e w1 ⟨rfl, hf1⟩
  have HF1 := Lib.hid hf1
  clear hf1
  go_wp2_with fail
  refine (jrecs_nil w1).mono ?_
  rintro e w2 ⟨rfl, rfl⟩
  go_wp2_with fail
  refine (jroom_nil w1).mono ?_
  rintro e w2 ⟨rfl, rfl⟩
  go_wp2_with fail
  refine (jadd_nil _ w1).mono ?_
  rintro e w2 ⟨rfl, hf2⟩
  have HF2 := Lib.hid (HF1.out.trans hf2)
  have sw2 := HF2.out.size
  clear hf2 HF1
  go_wp2_with fail
  refine (new_held 4 w2 (by omega) (by omega)).mono ?_
  rintro e w3 ⟨rfl, hd3, hf3, hs3⟩
  have HD3 := Lib.hid hd3
  have HF3 := Lib.hid (HF2.out.trans hf3)
  have s3 : w2.heap.size + 3 ≤ w3.heap.size := by omega
  clear hd3 hf3 hs3 HF2
  go_wp2_with fail
  refine (open_held w3 HD3.out).mono ?_
  rintro e w4 ⟨jb, rfl, hj4, hjb, hf4⟩
  have HD4 := Lib.hid (HD3.out.fr0 hf4)
  have HF4 := Lib.hid (HF3.out.trans hf4)
  have HJ4 := Lib.hid hj4
  have s4 := hf4.size
  clear hj4 hf4 HD3 HF3
  have HOW := Lib.hid (show OwnB (w4.alloc (.cells #[] 5)) w4.heap.size (.slice (some ⟨w4.heap.size, 0, none⟩) 0 0) [] from ⟨rfl, .inr ⟨w4.heap.size, 0, #[], rfl, Nat.le_refl _, heap_alloc_new _ _, Nat.le_refl _, Nat.zero_le _, rfl, rfl⟩⟩)
  have HB5 := Lib.hid (HB.out.fr (HF4.out.trans (Fr.alloc [] w4 (.cells #[] 5))) (by simp))
  go_wp2_with ((with_reducible refine wpList_at (.call { callee := .builtin .append, args := #[.tmp 60, .tmp 61], argTypes := #[31, 31] }) rfl ?_); refine wpList_append_B rfl _ _ rfl w4.heap.size rfl HOW.out rfl HB5.out (by simp) (by simp; omega) ?_; intro v6 w6 ho6 hb6; rw [secL_lsec, List.nil_append] at ho6; have h6 := ho6.bytes; obtain ⟨h61, h62⟩ := h6; obtain ⟨ao6, cap6, rfl, h63, h64, h65, h66⟩ := h61; have HO6 := Lib.hid ho6; have HF46 := Lib.hid ((Fr.alloc [] w4 (.cells #[] 5)).then_below hb6 (by simp)); have HF6 := Lib.hid (HF4.out.trans ((Fr.alloc [] w4 (.cells #[] 5)).then_below hb6 (by simp))); clear h65 h66 h62 ho6 hb6)
  have HK6 := Lib.hid HO6.out.blk
  have HB6 := Lib.hid HO6.out.bytes.1
  have f46 : Fr [] w4 w6 := HF46.out
  have HD6 := Lib.hid (HD4.out.fr0 f46)
  have HJ6 := Lib.hid (HJ4.out.fr0 f46)
  have s6 := f46.size
  have jl := HJ4.out.lt
  clear HD4 HJ4 HO6 HF46 f46 HOW HB5 HF4
  refine (add_held (rs := []) (r := l) ao6 cap6 w6 HJ6.out HD6.out HB6.out (by omega) (by show 0 + 4 + l.length ≤ (4 - 2) * 64; omega)).mono ?_
  rintro e w7 ⟨rfl, ⟨D7, hd7, hn7, hm7⟩, hj7, hf7, g7, cap7, hc7, hg7⟩
  have hs7 := hf7.size
  have hk7 : ∀ k, (Value.slice ao6 l.length cap6).ownBlock = some k → w4.heap.size ≤ k ∧ ∃ C, w7.heap[k]? = some (.cells C 5 (0, 0)) := fun k hk => by
    obtain ⟨h1, C, h2⟩ := HK6.out k hk
    exact ⟨h1, C, (hf7.block k (Array.getElem?_eq_some_iff.1 h2).1 (by simp; omega)).trans h2⟩
  have hk67 : ∀ k, k ∈ blkL ao6 → w4.heap.size ≤ k ∧ k < w6.heap.size := fun k hk => by
    obtain ⟨h1, C, h2⟩ := HK6.out k (own_blkL hk)
    exact ⟨h1, (Array.getElem?_eq_some_iff.1 h2).1⟩
  have HKL := Lib.hid hk67
  have HI7 := Lib.hid (Inc.of (HB6.out.fr hf7 (fun k hk => by have := (HK6.out k hk).1; simp; omega)) hk7)
  have HF7 := Lib.hid (HF6.out.then_new hf7 (by simp; omega))
  have hg7l : g7 < w7.heap.size := hj7.data_lt hc7 g7 rfl
  have HD7 := Lib.hid hd7
  have HJ7 := Lib.hid hj7
  have HC7 := Lib.hid hc7
  clear hd7 hn7 hm7 hj7 hf7 hc7 hk7 hk67 HD6 HJ6 HB6 HK6 HF6
  go_wp2_with fail
  go_loopw [11] (fun i wr => ∃ k : Nat, k ≤ l.length ∧ i = .int .i64 (k : Int) ∧ Hid (Inc wr w4.heap.size ao6 l.length) ∧ Hid (Fr (blkL ao6) w7 wr)) (fun i _ => l.length - (intOf i).toNat)
  case atStart => exact ⟨0, Nat.zero_le _, rfl, HI7, Lib.hid (Fr.refl _ _)⟩
  case round =>
    obtain ⟨k, hk, rfl, HI, HF⟩ := hrel
    by_cases hlt : k < l.length
    · obtain ⟨g, o, rfl, hB, C, hC, hx⟩ := HI.out (by omega)
      obtain ⟨x, hxk⟩ := hx k hlt
      have ck : wr.cell? ⟨g, o + k, none⟩ = some (.int .u8 x) := by rw [cell_of_row wr g (o + k) _ _ _ hC]; exact hxk
      have fk := frozen_of_row wr g (o + k) _ _ hC
      have hltd : decide ((k : Int) < (l.length : Int)) = true := by rw [decide_eq_true_eq]; omega
      clear hC hx hxk
      go_wp2_with fail
      exact ⟨⟨k + 1, by omega, by go_num, Lib.hid (HI.out.set hlt), Lib.hid (HF.out.trans (Fr.setCell _ (by simp [blkL]) _))⟩, by simp [intOf]; omega⟩
    · have hke : k = l.length := by omega
      subst hke
      have hkl := HKL.out
      have HJ8 := Lib.hid (HJ7.out.fr2 HC7.out HF.out (fun h => by have := hkl _ h; omega) (fun k hk h => by have e7 : g7 = k := Option.some.inj hk; have := hkl _ h; omega))
      have HD8 := Lib.hid (HD7.out.fr HF.out (fun h => by have := hkl _ h; omega) (fun h => by have := hkl _ h; omega) (fun h => by have := hkl _ h; omega))
      have HF8 := Lib.hid (HF7.out.then_new HF.out (fun k h => .inr (by have := hkl _ h; omega)))
      have s8 := HF.out.size
      clear hkl HJ7 HC7 HD7 HF7 HF HI HI7
      go_wp2_with fail
      refine (recs_held wr HJ8.out.1 HD8.out.c.sm HD8.out.len).mono ?_
      rintro e w9 ⟨v9, rfl, hb9, hf9⟩
      obtain ⟨ao9, cap9, rfl, h91, h92, h93⟩ := hb9
      obtain ⟨b9, rfl, hB9, ⟨C9, hC9⟩, h94⟩ := h93 (by simp)
      obtain ⟨u9, h95, h96, h97⟩ := h94 0 l rfl
      have HB9 := Lib.hid h96
      have HK9 := Lib.hid h97
      obtain ⟨uo, ucap, rfl, hu1, hu2, _⟩ := h96
      have HC9 := Lib.hid hC9
      have HJ9 := Lib.hid (HJ8.out.1.fr2 HJ8.out.2 hf9 (by simp) (by simp))
      have HD9 := Lib.hid (HD8.out.fr0 hf9)
      have HF9 := Lib.hid (HF8.out.trans hf9)
      have s9 := hf9.size
      have HX9 := Lib.hid h95
      clear h93 h94 hC9 hf9 HJ8 HD8 HF8 h97 h95
      go_wp2_with fail
      obtain ⟨wd, hwd⟩ : ∃ wd, w9.drew = wd := ⟨_, rfl⟩
      have fd : Fr [] w9 wd := by rw [← hwd]; exact Fr.drew _ _
      have HBd := Lib.hid (HB.out.fr (HF9.out.trans fd) (by simp))
      have hcv1 := conv_bytes (HB9.out.fr fd (by simp))
      have hcv2 := conv_bytes HBd.out
      have cX : wd.cell? ⟨b9, 0, none⟩ = some (.slice uo l.length ucap) := (World.cell?_of_block (a := ⟨b9, 0, none⟩) (fd.block b9 (Array.getElem?_eq_some_iff.1 HC9.out).1 (by simp))).trans HX9.out
      refine wp_region_plan [(0, false), (1, false), (2, false), (3, false), (4, false), (5, false), (6, false), (7, false), (8, false), (9, false), (10, false), (11, false)] (fun u => u = w9.drew) (by kernel_rfl) (by kernel_rfl) rfl ?_
      rw [hwd]
      iterate 12 (refine' plan_val rfl rfl (fun w' hS => ?_) ?_; rotate_left; (focus (subst hS; go_simp; rfl)); simp only [Act.put, List.setIfInBounds_toArray, List.set_cons_zero, List.set_cons_succ])
      refine plan_nil ?_
      have HJd := Lib.hid (HJ9.out.1.fr2 HJ9.out.2 fd (by simp) (by simp))
      have HDd := Lib.hid (HD9.out.fr0 fd)
      have HFd := Lib.hid (HF9.out.trans fd)
      have HCd := Lib.hid ((fd.block b9 (Array.getElem?_eq_some_iff.1 HC9.out).1 (by simp)).trans HC9.out)
      have hkd : ∀ k, (Value.slice uo l.length ucap).ownBlock = some k → wr.heap.size ≤ k ∧ ∃ C, wd.heap[k]? = some (.cells C 5 (0, 0)) := fun k hk => by
        obtain ⟨h1, C, h2⟩ := HK9.out k hk
        exact ⟨h1, C, (fd.block k (Array.getElem?_eq_some_iff.1 h2).1 (by simp)).trans h2⟩
      have HId := Lib.hid (Inc.of (HB9.out.fr fd (by simp)) hkd)
      have HKd := Lib.hid (fun k (hk : k ∈ blkL uo) => hkd k (own_blkL hk))
      have sd := fd.size
      clear hwd fd hcv1 hcv2 hkd HJ9 HD9 HF9 HC9 HB9 HK9 HX9
      go_wp2_with fail
      have hnb : b9 ∉ blkL uo := fun h => by
        obtain ⟨_, C, h2⟩ := HKd.out _ h
        have h3 := HCd.out
        rw [h2] at h3
        have h4 := Option.some.inj h3
        injection h4 with _ h5
        exact absurd h5 (by decide)
      have hbl9 := (Array.getElem?_eq_some_iff.1 HCd.out).1
      obtain ⟨B8, hB8⟩ : ∃ B8, wr.heap.size = B8 := ⟨_, rfl⟩
      rw [hB8] at HId HKd s8
      go_loopw [13] (fun i wq => ∃ k : Nat, k ≤ l.length ∧ i = .int .i64 (k : Int) ∧ Hid (Inc wq B8 uo l.length) ∧ Hid (Fr (blkL uo) wd wq)) (fun i _ => l.length - (intOf i).toNat)
      case atStart => exact ⟨0, Nat.zero_le _, rfl, HId, Lib.hid (Fr.refl _ _)⟩
      case round =>
        obtain ⟨k, hk, rfl, HI, HF⟩ := hrel
        have c9 : wr.cell? ⟨b9, 0, none⟩ = some (.slice uo l.length ucap) := (World.cell?_of_block (a := ⟨b9, 0, none⟩) (HF.out.block b9 hbl9 hnb)).trans cX
        by_cases hlt : k < l.length
        · obtain ⟨g, o, rfl, hB, C, hC, hx⟩ := HI.out (by omega)
          obtain ⟨x, hxk⟩ := hx k hlt
          have ck : wr.cell? ⟨g, o + k, none⟩ = some (.int .u8 x) := by rw [cell_of_row wr g (o + k) _ _ _ hC]; exact hxk
          have fk := frozen_of_row wr g (o + k) _ _ hC
          have hltd : decide ((k : Int) < (l.length : Int)) = true := by rw [decide_eq_true_eq]; omega
          clear hC hx hxk
          go_wp2_with fail
          refine wp_region_still_tail 12 (by kernel_rfl) (by kernel_rfl) ?_
          simp only [List.take_succ_cons, List.take_zero, List.drop_succ_cons, List.drop_zero]
          iterate 12 still_step
          refine wpStill_nil ?_
          change wpList _ _ _ _ _ wr.drew
          try simp only [Act.put, List.setIfInBounds_toArray, List.set_cons_zero, List.set_cons_succ]
          go_wp2_with fail
          exact ⟨⟨k + 1, by omega, by go_num, Lib.hid (HI.out.set hlt), Lib.hid ((HF.out.trans (Fr.setCell _ (by simp [blkL]) _)).trans (Fr.drew _ _))⟩, by simp [intOf]; omega⟩
        · have hke : k = l.length := by omega
          subst hke
          have hkl := HKd.out
          have HJe := Lib.hid (HJd.out.1.fr2 HJd.out.2 HF.out (fun h => by have := (hkl _ h).1; omega) (fun k hk h => by have e7 : g7 = k := Option.some.inj hk; have := (hkl _ h).1; omega))
          have HDe := Lib.hid (HDd.out.fr HF.out (fun h => by have := (hkl _ h).1; omega) (fun h => by have := (hkl _ h).1; omega) (fun h => by have := (hkl _ h).1; omega))
          have HFe := Lib.hid (HFd.out.then_new HF.out (fun k h => .inr (by have := (hkl _ h).1; omega)))
          clear hkl HJd HDd HFd HF HI HId HKd HBd HCd
          go_wp2_with fail
          refine (recs_held wr HJe.out.1 HDe.out.c.sm HDe.out.len).mono ?_
          rintro e wt ⟨vt, rfl, hbt, hft⟩
          obtain ⟨aot, capt, rfl, ht1, ht2, ht3⟩ := hbt.at
          obtain ⟨bt, ot, rfl, ht4⟩ := ht3 (by simp)
          obtain ⟨ut, ht5, ht6⟩ := ht4 0 l rfl
          have HFt := Lib.hid (HFe.out.trans hft)
          have HT5 := Lib.hid (show wt.cell? ⟨bt, ot, none⟩ = some ut from ht5)
          have HT6 := Lib.hid ht6
          clear hbt ht3 ht4 ht5 ht6 hft HJe HDe HFe
          go_wp2_with fail
          have hbtl : bt < wt.heap.size := cell_lt HT5.out
          have hcX : ∀ u, Fr [] wt u → u.cell? ⟨bt, ot, none⟩ = some ut := fun u hu => (World.cell?_of_block (a := ⟨bt, ot, none⟩) (hu.block bt hbtl (by simp))).trans HT5.out
          have hcv1 : ∀ u, Fr [] wt u → (convert 31 9 ut).run Try.prog u = .ok (.string (strOf l.length (lsec l))) u := fun u hu => conv_bytes (HT6.out.fr hu (by simp))
          have hcv2 : ∀ u, Fr [] wt u → (convert 31 9 (.slice ao l.length cap)).run Try.prog u = .ok (.string (strOf l.length (lsec l))) u := fun u hu => conv_bytes (HB.out.fr (HFt.out.trans hu) (by simp))
          refine wp_region_plan [(0, false), (1, false), (2, false), (3, false), (4, false), (5, false), (6, false), (7, false), (8, false), (9, false), (10, false), (11, false), (12, false), (13, true), (14, false), (15, false)] (fun u => Fr [] wt u) (by kernel_rfl) (by kernel_rfl) (Fr.drew _ _) ?_
          have hft : Fr [] wt wt.drew := Fr.drew _ _
          obtain ⟨wd2, hwd2⟩ : ∃ wd2, wt.drew = wd2 := ⟨_, rfl⟩
          rw [hwd2] at hft ⊢
          iterate 13 (refine' plan_val rfl rfl (fun w' hS => ?_) ?_; rotate_left; (focus (have cX := hcX _ hS; have hv1 := hcv1 _ hS; have hv2 := hcv2 _ hS; go_simp; rfl)); simp only [Act.put, List.setIfInBounds_toArray, List.set_cons_zero, List.set_cons_succ])
          have HCX := Lib.hid hcX
          have HCV1 := Lib.hid hcv1
          have HCV2 := Lib.hid hcv2
          clear hcX hcv1 hcv2
          refine plan_do rfl (fun K hK => ?_)
          go_wp2_with fail
          refine (keeps13_true _).mono ?_
          rintro e wk ⟨rfl, hfk⟩
          go_wp2_with fail
          refine hK _ _ (hft.trans hfk) ?_
          clear hK K
          iterate 2 (refine' plan_val rfl rfl (fun w' hS => ?_) ?_; rotate_left; (focus (go_simp; rfl)); simp only [Act.put, List.setIfInBounds_toArray, List.set_cons_zero, List.set_cons_succ])
          refine plan_nil ?_
          go_wp2_with fail
          go_ret
          exact ⟨rfl, (HFt.out.trans hft).trans hfk⟩
set_option maxRecDepth 100000 in
theorem journalNil_long (v : Value) (l : List UInt8) (w : World) (hb : BytesAt w v l.length (lsec l)) (hl : ¬ l.length ≤ 60) : Calls Try.prog 7 #[v] w fun e w' => e = .returned (.bool true) ∧ Fr [] w w' := by
  obtain ⟨ao, cap, rfl, hb1, hb2, _⟩ := hb
  have hli : (60 : Int) < (l.length : Int) := by omega
  unfold maxLen at hb2
  go_enter Try.func7, Try.ntmps7
  go_wp2_with fail
  go_ret
  exact ⟨rfl, Fr.refl _ _⟩
theorem journalNil_walk {W : World} (v : Value) (m : Nat) (f : Sec) (hB : BytesAt W v m f) : Calls Try.prog 7 #[v] W fun e w' => e = .returned (.bool true) ∧ Below W.heap.size W w' := by
  have hb : BytesAt W v (secL m f).length (lsec (secL m f)) := by
    rw [secL_len]; exact hB.congr (fun j hj => (lsec_secL f hj).symm)
  by_cases hl : (secL m f).length ≤ 60
  · exact (journalNil_main v _ W hb hl).mono fun e w' ⟨a, b⟩ => ⟨a, b.below⟩
  · exact (journalNil_long v _ W hb hl).mono fun e w' ⟨a, b⟩ => ⟨a, b.below⟩
end Go.Proofs.Ytgfdbjeliojhkaa
