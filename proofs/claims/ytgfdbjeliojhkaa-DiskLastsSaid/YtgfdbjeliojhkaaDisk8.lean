/-
  Disk8: acts of a disk as they come in: what a slice of them reads as; contract of great. No condition.
-/
import Derived.Test.YtgfdbjeliojhkaaDisk7
import Derived.Deep.Slices
namespace Go.Proofs.Ytgfdbjeliojhkaa
open Go.RowKit Go.ChangeShapes Go.WideShapes Go.Deep

/-- what an act holds -/
structure ActR where
  d : Int
  at_ : Int
  n : Int
  bv : Value
  bl : Nat
  bf : Sec
  fv : Value
  fl : Nat
  fg : Nat → Int
instance : Inhabited ActR := ⟨⟨0, 0, 0, .slice none 0 0, 0, fun _ => 0, .slice none 0 0, 0, fun _ => 0⟩⟩

theorem IntsAt.below {w w' : World} {v : Value} {m : Nat} {g : Nat → Int} (h : IntsAt w v m g) (hb : Below w.heap.size w w') : IntsAt w' v m g := by
  obtain ⟨ao, cap, rfl, h1, h2, h3, h4⟩ := h
  refine ⟨ao, cap, rfl, h1, h2, h3, fun hm => ?_⟩
  obtain ⟨b, off, rfl, hr⟩ := h4 hm
  have hlt : b < w.heap.size := World.block_lt_of_cell? w _ (hr 0 hm)
  exact ⟨b, off, rfl, fun j hj => (hb.cell (p := ⟨b, off + j, none⟩) hlt).trans (hr j hj)⟩
theorem BytesAt.below {w w' : World} {v : Value} {m : Nat} {f : Sec} (h : BytesAt w v m f) (hb : Below w.heap.size w w') : BytesAt w' v m f := by
  obtain ⟨ao, cap, rfl, h1, h2, h3, h4⟩ := h
  refine ⟨ao, cap, rfl, h1, h2, h3, fun hm => ?_⟩
  obtain ⟨b, off, rfl, hr⟩ := h4 hm
  exact ⟨b, off, rfl, rangeAt_congr hr (hb.block b (rangeAt_lt hr hm))⟩
theorem BytesAt.lt {w : World} {v : Value} {m : Nat} {f : Sec} (h : BytesAt w v m f) (hm : 0 < m) (k : Nat) (hk : v.ownBlock = some k) : k < w.heap.size := by
  obtain ⟨ao, cap, rfl, h1, h2, h3, h4⟩ := h
  obtain ⟨b, off, rfl, hr⟩ := h4 hm
  cases hk; exact rangeAt_lt hr hm
theorem IntsAt.lt {w : World} {v : Value} {m : Nat} {g : Nat → Int} (h : IntsAt w v m g) (hm : 0 < m) (k : Nat) (hk : v.ownBlock = some k) : k < w.heap.size := by
  obtain ⟨ao, cap, rfl, h1, h2, h3, h4⟩ := h
  obtain ⟨b, off, rfl, hr⟩ := h4 hm
  cases hk; exact World.block_lt_of_cell? w _ (hr 0 hm)

structure ActAt (w : World) (b off : Nat) (r : ActR) : Prop where
  c0 : w.cell? ⟨b, off, none⟩ = some (.int .u8 r.d)
  c1 : w.cell? ⟨b, off + 1, none⟩ = some (.int .i64 r.at_)
  c2 : w.cell? ⟨b, off + 2, none⟩ = some (.int .i64 r.n)
  c3 : w.cell? ⟨b, off + 3, none⟩ = some r.bv
  c4 : w.cell? ⟨b, off + 4, none⟩ = some r.fv
  d1 : 0 ≤ r.d
  d2 : r.d ≤ 255
  a1 : -9223372036854775808 ≤ r.at_
  a2 : r.at_ ≤ 9223372036854775807
  n1 : -9223372036854775808 ≤ r.n
  n2 : r.n ≤ 9223372036854775807
  hb : BytesAt w r.bv r.bl r.bf
  hf : IntsAt w r.fv r.fl r.fg
/-- a slice value that reads as n acts -/
def ActsAt (w : World) (v : Value) (n : Nat) (R : Nat → ActR) : Prop :=
  ∃ ao cap, v = .slice ao n cap ∧ n ≤ cap ∧ cap ≤ maxLen ∧ (0 < n → ∃ b off, ao = some ⟨b, off, none⟩ ∧ ∀ i, i < n → ActAt w b (off + i * 5) (R i))
theorem ActAt.below {w w' : World} {b off : Nat} {r : ActR} (h : ActAt w b off r) (hb : Below w.heap.size w w') : ActAt w' b off r := by
  have hlt : b < w.heap.size := World.block_lt_of_cell? w _ h.c0
  exact ⟨(hb.cell (p := ⟨b, off, none⟩) hlt).trans h.c0, (hb.cell (p := ⟨b, off + 1, none⟩) hlt).trans h.c1, (hb.cell (p := ⟨b, off + 2, none⟩) hlt).trans h.c2, (hb.cell (p := ⟨b, off + 3, none⟩) hlt).trans h.c3, (hb.cell (p := ⟨b, off + 4, none⟩) hlt).trans h.c4,
    h.d1, h.d2, h.a1, h.a2, h.n1, h.n2, h.hb.below hb, h.hf.below hb⟩

theorem wf_i64 {x : Int} (h : (Lit.int .i64 x).wf = true) : -9223372036854775808 ≤ x ∧ x ≤ 9223372036854775807 := by
  simp [Lit.wf, IntKind.min, IntKind.max, IntKind.signed, IntKind.bits] at h
  exact ⟨by omega, by omega⟩
theorem wf_u8 {x : Int} (h : (Lit.int .u8 x).wf = true) : 0 ≤ x ∧ x ≤ 255 := by
  simp [Lit.wf, IntKind.min, IntKind.max, IntKind.signed, IntKind.bits] at h
  exact ⟨by omega, by omega⟩
theorem spot_of_cell {w : World} {a : Addr} {v : Value} (h : w.cell? a = some v) : a.spot = none := by
  unfold World.cell? at h
  split at h
  · cases hs : a.spot with
    | none => rfl
    | some s => simp [hs] at h
  · simp at h
theorem addr_of_cell {w : World} {a : Addr} {v : Value} (h : w.cell? a = some v) : a = ⟨a.block, a.off, none⟩ := by
  have := spot_of_cell h
  cases a; simp_all

section
variable {H : Type} {enc : TypeId × Value → H} {P : Program} {w : World} {base : Nat} {spare : Nat → Bool} {held : Bool}
/-- a slice of bytes that came in -/
theorem bytes_of_trod {t e : TypeId} {fuel : Nat} {v : Value} {x : DataW H × List MemPlace} (ht : P.underlying t = some (.slice e)) (he : P.underlying e = some (.int .u8)) (hc : P.cellsOf e = 1)
    (h : DataW.trod enc P w base spare held fuel t [v] = some x) : ∃ m f, BytesAt w v m f := by
  rcases open_ints ht he hc h with ⟨hcs, _⟩ | ⟨x, l, c, zs, hcs, _, hl, hm, hz, _, hcell, hwz⟩
  · simp at hcs; subst hcs
    exact ⟨0, fun _ => 0, none, 0, rfl, Nat.le_refl _, Nat.zero_le _, fun _ => ⟨rfl, rfl⟩, fun h => absurd h (by omega)⟩
  · simp at hcs; subst hcs
    refine ⟨l, fun j => UInt8.ofNat (zs.getD j 0).toNat, some x, c, rfl, hl, hm, (fun e => by cases e), fun h0 => ?_⟩
    have hz' : l ≤ zs.length := by rw [hz]; split <;> omega
    have hx := addr_of_cell (by have := hcell 0 (by omega); simpa [Addr.add] using this)
    refine ⟨x.block, x.off, by rw [← hx], fun j v hv => ?_⟩
    have hj : j < l := by have := (List.getElem?_eq_some_iff.1 hv).1; rw [rowL_length] at this; exact this
    rw [rowL_get _ hj] at hv
    have h1 := hcell j (by omega)
    rw [hx, Addr.add_mid] at h1
    rw [h1, ← hv]
    have hw := wf_u8 (hwz (zs.getD j 0) (by rw [List.getD_eq_getElem?_getD, List.getElem?_eq_getElem (by omega)]; simp))
    simp only [bv]
    congr 2
    rw [UInt8.toNat_ofNat_of_lt' (by show _ < 256; omega)]; omega
theorem ints_of_trod {t e : TypeId} {fuel : Nat} {v : Value} {x : DataW H × List MemPlace} (ht : P.underlying t = some (.slice e)) (he : P.underlying e = some (.int .i64)) (hc : P.cellsOf e = 1)
    (h : DataW.trod enc P w base spare held fuel t [v] = some x) : ∃ m g, IntsAt w v m g := by
  rcases open_ints ht he hc h with ⟨hcs, _⟩ | ⟨x, l, c, zs, hcs, _, hl, hm, hz, _, hcell, hwz⟩
  · simp at hcs; subst hcs
    exact ⟨0, fun _ => 0, none, 0, rfl, Nat.le_refl _, Nat.zero_le _, fun _ => ⟨by simp, by simp⟩, fun h => absurd h (by omega)⟩
  · simp at hcs; subst hcs
    refine ⟨l, fun j => zs.getD j 0, some x, c, rfl, hl, hm, fun j => ?_, fun h0 => ?_⟩
    · by_cases hj : j < zs.length
      · exact wf_i64 (hwz (zs.getD j 0) (by rw [List.getD_eq_getElem?_getD, List.getElem?_eq_getElem hj]; simp))
      · show -9223372036854775808 ≤ zs.getD j 0 ∧ zs.getD j 0 ≤ 9223372036854775807
        rw [List.getD_eq_getElem?_getD, List.getElem?_eq_none (by omega)]; simp
    · have hz' : l ≤ zs.length := by rw [hz]; split <;> omega
      have hx := addr_of_cell (by have := hcell 0 (by omega); simpa [Addr.add] using this)
      refine ⟨x.block, x.off, by rw [← hx], fun j hj => ?_⟩
      have h1 := hcell j (by omega)
      rw [hx, Addr.add_mid] at h1
      exact h1
theorem cell_add {w : World} {a : Addr} {n : Nat} {v : Value} (h : w.cell? (a.add n) = some v) : w.cell? ⟨a.block, a.off + n, none⟩ = some v := by
  unfold Addr.add at h
  split at h
  · rename_i h0
    subst h0
    rw [addr_of_cell h] at h; exact h
  · exact h
theorem cells_at {w : World} {base i : Nat} {a : Addr} {cs : List Value} (h : w.cells? base (a.add (i * 5)) 5 = some cs) : (i = 0 → some (⟨a.block, a.off, none⟩ : Addr) = some a) ∧ ∀ j v, cs[j]? = some v → w.cell? ⟨a.block, a.off + i * 5 + j, none⟩ = some v := by
  obtain ⟨_, hl, hc⟩ := World.cells?_some h
  refine ⟨fun h0 => ?_, fun j v hv => ?_⟩
  · subst h0
    have h1 := hc 0 (by omega)
    rw [List.getElem?_eq_getElem (by omega)] at h1
    simp only [Nat.zero_mul, Addr.add, if_true] at h1
    rw [addr_of_cell h1]
  · have hj : j < 5 := by have := (List.getElem?_eq_some_iff.1 hv).1; omega
    have h1 := (hc j hj).trans hv
    rw [Deep.add_add] at h1
    have := cell_add h1
    rw [← Nat.add_assoc] at this; exact this
theorem list5 {α : Type} {l : List α} (h : l.length = 5) : ∃ a b c d e, l = [a, b, c, d, e] := by
  rcases l with _ | ⟨a, _ | ⟨b, _ | ⟨c, _ | ⟨d, _ | ⟨e, _ | ⟨f, r⟩⟩⟩⟩⟩⟩ <;> simp at h
  exact ⟨a, b, c, d, e, rfl⟩
/-- a slice of acts that came in -/
theorem acts_of_trod {enc : TypeId × Value → H} {fuel : Nat} {v : Value} {x : DataW H × List MemPlace} (h : DataW.trod enc Try.prog w base spare held fuel 22 [v] = some x) : ∃ n R, ActsAt w v n R := by
  rcases open_slice Try.underlying22 h with ⟨hcs, _⟩ | ⟨a, len, cap, m, q, D, Pl, hcs, _, hl, hm, hmm, _, hel⟩
  · simp at hcs; subst hcs
    exact ⟨0, fun _ => default, none, 0, rfl, Nat.le_refl _, Nat.zero_le _, fun h => absurd h (by omega)⟩
  · simp at hcs; subst hcs
    have hlm : len ≤ m := by rw [hmm]; split <;> omega
    have hcells : Try.prog.cellsOf 33 = 5 := by kernel_rfl
    rw [hcells] at hel
    have key : ∀ i, i < len → ∃ r, ActAt w a.block (a.off + i * 5) r := fun i hi => by
      obtain ⟨cs, hcs, htr⟩ := hel i (by omega)
      obtain ⟨hsz, hce⟩ := cells_at hcs
      obtain ⟨xs, q', _, _, hl5, hxl, hf⟩ := DataW.trod_struct Try.underlying33 htr
      rw [hcells] at hl5
      obtain ⟨c0, c1, c2, c3, c4, rfl⟩ := list5 hl5
      have e1 : Try.prog.cellsOf 5 = 1 := by kernel_rfl
      have e2 : Try.prog.cellsOf 3 = 1 := by kernel_rfl
      have e3 : Try.prog.cellsOf 31 = 1 := by kernel_rfl
      have e4 : Try.prog.cellsOf 23 = 1 := by kernel_rfl
      have f0 := hf 0 { name := "Do", type := 5, offset := 0, embedded := false, tag := "", pkgPath := "", byteOffset := 0 } rfl
      change DataW.trod enc Try.prog w base spare held q' 5 (List.take (Try.prog.cellsOf 5) (List.drop 0 [c0, c1, c2, c3, c4])) = _ at f0
      rw [e1] at f0
      change DataW.trod enc Try.prog w base spare held q' 5 [c0] = _ at f0
      have f1 := hf 1 { name := "At", type := 3, offset := 1, embedded := false, tag := "", pkgPath := "", byteOffset := 8 } rfl
      change DataW.trod enc Try.prog w base spare held q' 3 (List.take (Try.prog.cellsOf 3) (List.drop 1 [c0, c1, c2, c3, c4])) = _ at f1
      rw [e2] at f1
      change DataW.trod enc Try.prog w base spare held q' 3 [c1] = _ at f1
      have f2 := hf 2 { name := "N", type := 3, offset := 2, embedded := false, tag := "", pkgPath := "", byteOffset := 16 } rfl
      change DataW.trod enc Try.prog w base spare held q' 3 (List.take (Try.prog.cellsOf 3) (List.drop 2 [c0, c1, c2, c3, c4])) = _ at f2
      rw [e2] at f2
      change DataW.trod enc Try.prog w base spare held q' 3 [c2] = _ at f2
      have f3 := hf 3 { name := "B", type := 31, offset := 3, embedded := false, tag := "", pkgPath := "", byteOffset := 24 } rfl
      change DataW.trod enc Try.prog w base spare held q' 31 (List.take (Try.prog.cellsOf 31) (List.drop 3 [c0, c1, c2, c3, c4])) = _ at f3
      rw [e3] at f3
      change DataW.trod enc Try.prog w base spare held q' 31 [c3] = _ at f3
      have f4 := hf 4 { name := "Fates", type := 23, offset := 4, embedded := false, tag := "", pkgPath := "", byteOffset := 48 } rfl
      change DataW.trod enc Try.prog w base spare held q' 23 (List.take (Try.prog.cellsOf 23) (List.drop 4 [c0, c1, c2, c3, c4])) = _ at f4
      rw [e4] at f4
      change DataW.trod enc Try.prog w base spare held q' 23 [c4] = _ at f4
      have hxl5 : xs.length = 5 := hxl
      rw [List.getElem?_eq_getElem (by omega)] at f0 f1 f2 f3 f4
      obtain ⟨d, hd, _, wd⟩ := DataW.trod_int Try.underlying5 f0
      obtain ⟨ea, ha, _, wa⟩ := DataW.trod_int Try.underlying3 f1
      obtain ⟨en, hn, _, wn⟩ := DataW.trod_int Try.underlying3 f2
      obtain ⟨bl, bf, hbb⟩ := bytes_of_trod Try.underlying31 Try.underlying5 e1 f3
      obtain ⟨fl, fg, hff⟩ := ints_of_trod Try.underlying23 Try.underlying3 e2 f4
      obtain rfl : c0 = _ := (List.cons.inj hd).1
      obtain rfl : c1 = _ := (List.cons.inj ha).1
      obtain rfl : c2 = _ := (List.cons.inj hn).1
      exact ⟨⟨d, ea, en, c3, bl, bf, c4, fl, fg⟩, hce 0 _ rfl, hce 1 _ rfl, hce 2 _ rfl, hce 3 _ rfl, hce 4 _ rfl, (wf_u8 wd).1, (wf_u8 wd).2, (wf_i64 wa).1, (wf_i64 wa).2, (wf_i64 wn).1, (wf_i64 wn).2, hbb, hff⟩
    obtain ⟨R, hR⟩ := choose_lt key
    refine ⟨len, R, some a, cap, rfl, hl, hm, fun h0 => ⟨a.block, a.off, ?_, fun i hi => hR i hi⟩⟩
    obtain ⟨cs, hcs, _⟩ := hel 0 (by omega)
    exact ((cells_at (i := 0) hcs).1 rfl).symm
end

def greatP (n : Nat) (R : Nat → ActR) : Bool := decide (60 < n) || (List.range n).any fun i => decide (1000 < (R i).bl) || decide (60 < (R i).fl)
theorem greatP_false {n : Nat} {R : Nat → ActR} (h : greatP n R = false) : n ≤ 60 ∧ ∀ i, i < n → (R i).bl ≤ 1000 ∧ (R i).fl ≤ 60 := by
  simp [greatP] at h
  exact ⟨h.1, h.2⟩
theorem greatP_long {n : Nat} {R : Nat → ActR} (h : 60 < n) : greatP n R = true := by simp [greatP, h]
theorem greatP_at {n i : Nat} {R : Nat → ActR} (hi : i < n) (h : 1000 < (R i).bl ∨ 60 < (R i).fl) : greatP n R = true := by
  have : ((List.range n).any fun i => decide (1000 < (R i).bl) || decide (60 < (R i).fl)) = true := by
    rw [List.any_eq_true]
    exact ⟨i, by simpa using hi, by simpa using h⟩
  rw [greatP, this, Bool.or_true]
theorem greatP_small {n : Nat} {R : Nat → ActR} (h1 : n ≤ 60) (h2 : ∀ i, i < n → (R i).bl ≤ 1000 ∧ (R i).fl ≤ 60) : greatP n R = false := by
  cases h : greatP n R with
  | false => rfl
  | true =>
    exfalso
    simp only [greatP, Bool.or_eq_true, decide_eq_true_eq, List.any_eq_true] at h
    rcases h with h | ⟨i, hi, h⟩
    · omega
    · have := h2 i (by simpa using hi); omega
theorem ret_bool {a b : Bool} (h : a = b) : Ending.returned (.bool a) = .returned (.bool b) := by rw [h]

set_option maxHeartbeats 1000000 in
theorem great_pos {n b off cap : Nat} {R : Nat → ActR} (w : World) (hn : n ≤ cap) (_hcap : cap ≤ maxLen) (h0 : 0 < n) (hR : ∀ i, i < n → ActAt w b (off + i * 5) (R i)) :
    Calls Try.prog 12 #[.slice (some ⟨b, off, none⟩) n cap] w fun e w' => e = .returned (.bool (greatP n R)) ∧ w = w' := by
  unfold maxLen at _hcap
  by_cases hl : 60 < n
  · have HE := Lib.hid (greatP_long (R := R) hl)
    have hl' : (60 : Int) < (n : Int) := by omega
    have HR := Lib.hid hR
    clear hR
    go_enter Try.func12, Try.ntmps12
    go_wp2
    go_ret
    exact ⟨ret_bool HE.out.symm, rfl⟩
  · have hl' : (n : Int) ≤ 60 := by omega
    have HR := Lib.hid hR
    clear hR
    go_enter Try.func12, Try.ntmps12
    go_wp2
    go_loop [3] (fun i => ∃ k : Nat, k ≤ n ∧ i = .int .i64 (k : Int) ∧ Hid (∀ j, j < k → (R j).bl ≤ 1000 ∧ (R j).fl ≤ 60)) (fun i => n - (intOf i).toNat)
    case atStart => exact ⟨0, Nat.zero_le _, rfl, fun j hj => absurd hj (by omega)⟩
    case round =>
      obtain ⟨k, hk, rfl, HS⟩ := hrel
      by_cases hlt : k < n
      · have hA := HR.out k hlt
        have c3 := hA.c3
        have c4 := hA.c4
        obtain ⟨bo, bc, hbv, hb1, hb2, _⟩ := hA.hb
        obtain ⟨fo, fc, hfv, hf1, hf2, _⟩ := hA.hf
        rw [hbv] at c3
        rw [hfv] at c4
        unfold maxLen at hb2 hf2
        have hkn : (k : Int) < (n : Int) := by omega
        clear hA hbv hfv
        by_cases g1 : 1000 < (R k).bl
        · have g1' : (1000 : Int) < ((R k).bl : Int) := by omega
          have HE := Lib.hid (greatP_at hlt (.inl g1))
          clear g1
          go_wp2
          go_ret
          exact ⟨ret_bool HE.out.symm, rfl⟩
        · have g1' : ¬ (1000 : Int) < ((R k).bl : Int) := by omega
          by_cases g2 : 60 < (R k).fl
          · have g2' : (60 : Int) < ((R k).fl : Int) := by omega
            have HE := Lib.hid (greatP_at hlt (.inr g2))
            clear g2
            go_wp2
            go_ret
            exact ⟨ret_bool HE.out.symm, rfl⟩
          · have g2' : ¬ (60 : Int) < ((R k).fl : Int) := by omega
            have HS' : Hid (∀ j, j < k + 1 → (R j).bl ≤ 1000 ∧ (R j).fl ≤ 60) := fun j hj => by
              by_cases e : j = k
              · subst e; omega
              · exact HS.out j (by omega)
            clear g1 g2
            go_wp2
            go_round
            case rel => exact ⟨k + 1, by omega, by go_num, HS'⟩
            case measure => simp [intOf]; omega
      · obtain rfl : k = n := by omega
        have HE := Lib.hid (greatP_small (R := R) (by omega) HS.out)
        go_wp2
        go_ret
        exact ⟨ret_bool HE.out.symm, rfl⟩
theorem great_zero (ao : Option Addr) (cap : Nat) (w : World) :
    Calls Try.prog 12 #[.slice ao 0 cap] w fun e w' => e = .returned (.bool false) ∧ w = w' := by
  go_enter Try.func12, Try.ntmps12
  go_wp2
  refine wp_loop_rounds 1 ?_
  rw [rounds_succ]
  go_wp2
  go_ret
  exact ⟨rfl, rfl⟩
theorem great_any {n : Nat} {v : Value} {R : Nat → ActR} (w : World) (h : ActsAt w v n R) : Calls Try.prog 12 #[v] w fun e w' => e = .returned (.bool (greatP n R)) ∧ w = w' := by
  obtain ⟨ao, cap, rfl, h1, h2, h3⟩ := h
  rcases Nat.eq_zero_or_pos n with rfl | hp
  · exact great_zero ao cap w
  · obtain ⟨b, off, rfl, hR⟩ := h3 hp
    exact great_pos w h1 h2 hp hR
end Go.Proofs.Ytgfdbjeliojhkaa
