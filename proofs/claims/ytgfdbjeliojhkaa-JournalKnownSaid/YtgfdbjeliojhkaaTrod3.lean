/-
  Trod3: a slice of runs that came in; contract of heavy. No condition beyond those stated.
-/
import Derived.Test.YtgfdbjeliojhkaaJour19
import Derived.Test.YtgfdbjeliojhkaaTrod2
namespace Go.Proofs.Ytgfdbjeliojhkaa
open Go.RowKit Go.ChangeShapes Go.WideShapes Go.Deep
/-- a run -/
structure RunR where
  L : List (List UInt8)
  fu : Int
  lv : Value
  fv : Value
  fl : Nat
  fg : Nat → Int
structure RunAt (w : World) (b off : Nat) (r : RunR) : Prop where
  c0 : w.cell? ⟨b, off, none⟩ = some r.lv
  c1 : w.cell? ⟨b, off + 1, none⟩ = some (.int .i64 r.fu)
  c2 : w.cell? ⟨b, off + 2, none⟩ = some r.fv
  f1 : -9223372036854775808 ≤ r.fu
  f2 : r.fu ≤ 9223372036854775807
  hl : BytessAt w r.lv r.L
  hf : IntsAt w r.fv r.fl r.fg
def RunsAt (w : World) (v : Value) (l : List RunR) : Prop :=
  ∃ ao cap, v = .slice ao l.length cap ∧ l.length ≤ cap ∧ cap ≤ maxLen ∧ (l ≠ [] → ∃ b off, ao = some ⟨b, off, none⟩ ∧ ∀ i r, l[i]? = some r → RunAt w b (off + i * 3) r)
theorem IntsAt.fr0 {w w' : World} {v : Value} {m : Nat} {g : Nat → Int} (h : IntsAt w v m g) (hf : Fr [] w w') : IntsAt w' v m g := h.below hf.below
theorem RunAt.fr0 {w w' : World} {b off : Nat} {r : RunR} (h : RunAt w b off r) (hf : Fr [] w w') : RunAt w' b off r := by
  have hlt := cell_lt h.c0
  have e := hf.block b hlt (by simp)
  exact ⟨(World.cell?_of_block (a := ⟨b, off, none⟩) e).trans h.c0, (World.cell?_of_block (a := ⟨b, off + 1, none⟩) e).trans h.c1, (World.cell?_of_block (a := ⟨b, off + 2, none⟩) e).trans h.c2, h.f1, h.f2, h.hl.fr0 hf, h.hf.fr0 hf⟩
theorem RunsAt.fr0 {w w' : World} {v : Value} {l : List RunR} (h : RunsAt w v l) (hf : Fr [] w w') : RunsAt w' v l := by
  obtain ⟨ao, cap, rfl, h1, h2, h3⟩ := h
  exact ⟨ao, cap, rfl, h1, h2, fun h0 => by
    obtain ⟨b, off, rfl, h4⟩ := h3 h0
    exact ⟨b, off, rfl, fun i r hi => (h4 i r hi).fr0 hf⟩⟩
theorem RunsAt.get {w : World} {ao : Option Addr} {n cap : Nat} {l : List RunR} (h : RunsAt w (.slice ao n cap) l) {k : Nat} {r : RunR} (hk : l[k]? = some r) : ∃ b off, ao = some ⟨b, off, none⟩ ∧ RunAt w b (off + k * 3) r := by
  obtain ⟨_, _, e, h1, h2, h3⟩ := h
  cases e
  obtain ⟨b, off, rfl, h4⟩ := h3 (by intro e; rw [e] at hk; simp at hk)
  exact ⟨b, off, rfl, h4 k r hk⟩
theorem cells_at3 {w : World} {base i : Nat} {a : Addr} {cs : List Value} (h : w.cells? base (a.add (i * 3)) 3 = some cs) : (i = 0 → some (⟨a.block, a.off, none⟩ : Addr) = some a) ∧ ∀ j v, cs[j]? = some v → w.cell? ⟨a.block, a.off + i * 3 + j, none⟩ = some v := by
  obtain ⟨_, hl, hc⟩ := World.cells?_some h
  refine ⟨fun h0 => ?_, fun j v hv => ?_⟩
  · subst h0
    have h1 := hc 0 (by omega)
    rw [List.getElem?_eq_getElem (by omega)] at h1
    simp only [Nat.zero_mul, Addr.add, if_true] at h1
    rw [addr_of_cell h1]
  · have hj : j < 3 := by have := (List.getElem?_eq_some_iff.1 hv).1; omega
    have h1 := (hc j hj).trans hv
    rw [Deep.add_add] at h1
    have := cell_add h1
    rw [← Nat.add_assoc] at this; exact this
theorem list3 {α : Type} {l : List α} (h : l.length = 3) : ∃ a b c, l = [a, b, c] := by
  rcases l with _ | ⟨a, _ | ⟨b, _ | ⟨c, _ | ⟨f, r⟩⟩⟩⟩ <;> simp at h
  exact ⟨a, b, c, rfl⟩
instance : Inhabited RunR := ⟨⟨[], 0, .slice none 0 0, .slice none 0 0, 0, fun _ => 0⟩⟩
theorem runs_of_trod {H : Type} {enc : TypeId × Value → H} {w : World} {base : Nat} {spare : Nat → Bool} {held : Bool} {fuel : Nat} {v : Value} {x : DataW H × List MemPlace} (h : DataW.trod enc Try.prog w base spare held fuel 58 [v] = some x) : ∃ l, RunsAt w v l := by
  rcases open_slice Try.underlying58 h with ⟨hcs, _⟩ | ⟨a, len, cap, m, q, D, Pl, hcs, _, hl, hm, hmm, _, hel⟩
  · simp at hcs; subst hcs
    exact ⟨[], none, 0, rfl, Nat.le_refl _, Nat.zero_le _, fun h => absurd rfl h⟩
  · simp at hcs; subst hcs
    have hlm : len ≤ m := by rw [hmm]; split <;> omega
    have hcells : Try.prog.cellsOf 61 = 3 := by kernel_rfl
    rw [hcells] at hel
    have key : ∀ i, i < len → ∃ r, RunAt w a.block (a.off + i * 3) r := fun i hi => by
      obtain ⟨cs, hcs, htr⟩ := hel i (by omega)
      obtain ⟨hsz, hce⟩ := cells_at3 hcs
      obtain ⟨xs, q', _, _, hl3, hxl, hf⟩ := DataW.trod_struct Try.underlying61 htr
      rw [hcells] at hl3
      obtain ⟨c0, c1, c2, rfl⟩ := list3 hl3
      have e1 : Try.prog.cellsOf 29 = 1 := by kernel_rfl
      have e2 : Try.prog.cellsOf 3 = 1 := by kernel_rfl
      have e4 : Try.prog.cellsOf 23 = 1 := by kernel_rfl
      have f0 := hf 0 { name := "L", type := 29, offset := 0, embedded := false, tag := "", pkgPath := "", byteOffset := 0 } rfl
      change DataW.trod enc Try.prog w base spare held q' 29 (List.take (Try.prog.cellsOf 29) (List.drop 0 [c0, c1, c2])) = _ at f0
      rw [e1] at f0
      change DataW.trod enc Try.prog w base spare held q' 29 [c0] = _ at f0
      have f1 := hf 1 { name := "Fuse", type := 3, offset := 1, embedded := false, tag := "", pkgPath := "", byteOffset := 24 } rfl
      change DataW.trod enc Try.prog w base spare held q' 3 (List.take (Try.prog.cellsOf 3) (List.drop 1 [c0, c1, c2])) = _ at f1
      rw [e2] at f1
      change DataW.trod enc Try.prog w base spare held q' 3 [c1] = _ at f1
      have f2 := hf 2 { name := "Fates", type := 23, offset := 2, embedded := false, tag := "", pkgPath := "", byteOffset := 32 } rfl
      change DataW.trod enc Try.prog w base spare held q' 23 (List.take (Try.prog.cellsOf 23) (List.drop 2 [c0, c1, c2])) = _ at f2
      rw [e4] at f2
      change DataW.trod enc Try.prog w base spare held q' 23 [c2] = _ at f2
      have hxl3 : xs.length = 3 := hxl
      rw [List.getElem?_eq_getElem (by omega)] at f0 f1 f2
      obtain ⟨ea, ha, _, wa⟩ := DataW.trod_int Try.underlying3 f1
      obtain ⟨bl, hbb⟩ := bytess_of_trod f0
      obtain ⟨fl, fg, hff⟩ := ints_of_trod Try.underlying23 Try.underlying3 e2 f2
      obtain rfl : c1 = _ := (List.cons.inj ha).1
      have w1 := wf_i64 wa
      exact ⟨⟨bl, ea, c0, c2, fl, fg⟩, hce 0 _ rfl, hce 1 _ rfl, hce 2 _ rfl, w1.1, w1.2, hbb, hff⟩
    obtain ⟨R, hR⟩ := choose_lt key
    refine ⟨(List.range len).map R, some a, cap, by simp, by simpa using hl, hm, fun h0 => ⟨a.block, a.off, ?_, fun i r hi => ?_⟩⟩
    · have hp : 0 < len := by
        rcases Nat.eq_zero_or_pos len with e | e
        · subst e; exact absurd rfl h0
        · exact e
      obtain ⟨cs, hcs, _⟩ := hel 0 (by omega)
      exact ((cells_at3 (i := 0) hcs).1 rfl).symm
    · have hlt : i < len := by have := (List.getElem?_eq_some_iff.1 hi).1; simpa using this
      have e : r = R i := by
        rw [List.getElem?_map, List.getElem?_range hlt] at hi
        exact (Option.some.inj hi).symm
      rw [e]; exact hR i hlt
/-- a run that is not heavy -/
def LightR (r : RunR) : Prop := r.L.length ≤ 20 ∧ r.fl ≤ 60 ∧ ∀ (j : Nat) (x : List UInt8), r.L[j]? = some x → x.length ≤ 400
def Light (l : List RunR) : Prop := l.length ≤ 12 ∧ ∀ (i : Nat) (r : RunR), l[i]? = some r → LightR r
def HeavyQ (l : List RunR) (e : Ending) : Prop := ∃ b, e = .returned (.bool b) ∧ (b = false → Light l)
theorem HeavyQ.yes (l : List RunR) : HeavyQ l (.returned (.bool true)) := ⟨true, rfl, fun h => by cases h⟩
set_option maxRecDepth 100000 in
set_option maxHeartbeats 2000000 in
theorem heavy_any {v : Value} {l : List RunR} (w : World) (h : RunsAt w v l) : Calls Try.prog 33 #[v] w fun e w' => HeavyQ l e ∧ w = w' := by
  have h' := h
  obtain ⟨ao, cap, rfl, h1, h2, _⟩ := h'
  unfold maxLen at h2
  have H := Lib.hid h
  clear h
  by_cases h12 : l.length ≤ 12
  · have h12i : ¬ (12 : Int) < (l.length : Int) := by omega
    go_enter Try.func33, Try.ntmps33
    go_wp2_with fail
    go_loop [3] (fun i => ∃ k : Nat, k ≤ l.length ∧ i = .int .i64 (k : Int) ∧ Hid (∀ (j : Nat) (r : RunR), j < k → l[j]? = some r → LightR r)) (fun i => l.length - (intOf i).toNat)
    case atStart => exact ⟨0, Nat.zero_le _, rfl, Lib.hid (fun j r hj => absurd hj (Nat.not_lt_zero _))⟩
    case round =>
      obtain ⟨k, hk, rfl, HA⟩ := hrel
      by_cases hlt : k < l.length
      · obtain ⟨r, hr⟩ : ∃ r, l[k]? = some r := ⟨_, List.getElem?_eq_getElem hlt⟩
        obtain ⟨b, o, rfl, ra⟩ := H.out.get hr
        obtain ⟨la, lc, hle, hl1, hl2, _⟩ := ra.hl
        obtain ⟨fa, fc, hfe, hf1, hf2, _⟩ := ra.hf
        have c0 := ra.c0
        have c2 := ra.c2
        rw [hle] at c0
        rw [hfe] at c2
        unfold maxLen at hl2 hf2
        have HR := Lib.hid hr
        have HRA := Lib.hid ra
        have HLE := Lib.hid hle
        clear hr ra hle hfe
        by_cases h20 : r.L.length ≤ 20
        · have h20i : ¬ (20 : Int) < (r.L.length : Int) := by omega
          by_cases h60 : r.fl ≤ 60
          · have h60i : ¬ (60 : Int) < (r.fl : Int) := by omega
            go_wp2_with fail
            go_loop [4] (fun i => ∃ m : Nat, m ≤ r.L.length ∧ i = .int .i64 (m : Int) ∧ Hid (∀ (j : Nat) (x : List UInt8), j < m → r.L[j]? = some x → x.length ≤ 400)) (fun i => r.L.length - (intOf i).toNat)
            case atStart => exact ⟨0, Nat.zero_le _, rfl, Lib.hid (fun j x hj => absurd hj (Nat.not_lt_zero _))⟩
            case round =>
              obtain ⟨m, hm, rfl, HB⟩ := hrel
              by_cases hmlt : m < r.L.length
              · obtain ⟨x, hx⟩ : ∃ x, r.L[m]? = some x := ⟨_, List.getElem?_eq_getElem hmlt⟩
                have hl := HRA.out.hl
                rw [HLE.out] at hl
                obtain ⟨b1, o1, u1, rfl, c1, y1⟩ := hl.get hx
                obtain ⟨xa, xc, rfl, hx1, hx2, _⟩ := y1
                unfold maxLen at hx2
                have HX := Lib.hid hx
                clear hx hl
                by_cases h400 : x.length ≤ 400
                · have h400i : ¬ (400 : Int) < (x.length : Int) := by omega
                  go_wp2_with fail
                  go_round
                  case rel => exact ⟨m + 1, by omega, by go_num, Lib.hid (fun j y hj hy => by
                    by_cases e : j = m
                    · subst e; rw [HX.out] at hy; cases hy; exact h400
                    · exact HB.out j y (by omega) hy)⟩
                  case measure => simp [intOf]; omega
                · have h400i : (400 : Int) < (x.length : Int) := by omega
                  go_wp2_with fail
                  go_ret
                  exact ⟨HeavyQ.yes l, rfl⟩
              · have hme : m = r.L.length := by omega
                subst hme
                go_wp2_with fail
                go_round
                case rel => exact ⟨k + 1, by omega, by go_num, Lib.hid (fun j y hj hy => by
                  by_cases e : j = k
                  · subst e; rw [HR.out] at hy; cases hy
                    exact ⟨h20, h60, fun i z hz => HB.out i z (List.getElem?_eq_some_iff.1 hz).1 hz⟩
                  · exact HA.out j y (by omega) hy)⟩
                case measure => simp [intOf]; omega
          · have h60i : (60 : Int) < (r.fl : Int) := by omega
            go_wp2_with fail
            go_ret
            exact ⟨HeavyQ.yes l, rfl⟩
        · have h20i : (20 : Int) < (r.L.length : Int) := by omega
          go_wp2_with fail
          go_ret
          exact ⟨HeavyQ.yes l, rfl⟩
      · have hke : k = l.length := by omega
        subst hke
        go_wp2_with fail
        go_ret
        refine ⟨⟨false, rfl, fun _ => ⟨h12, fun i r hr => HA.out i r (List.getElem?_eq_some_iff.1 hr).1 hr⟩⟩, rfl⟩
  · have h12i : (12 : Int) < (l.length : Int) := by omega
    go_enter Try.func33, Try.ntmps33
    go_wp2_with fail
    go_ret
    exact ⟨HeavyQ.yes l, rfl⟩
end Go.Proofs.Ytgfdbjeliojhkaa
