/-
  Texts SealX, one behind the other. No condition beyond those stated in each.
-/
import Derived.Test.YtgfijlamhjjecaaGreatDoorSn16
import Derived.ChangeSlices
/-
  SealX: what the rows of the ring's laws give: the package-level variables as they are laid, bytes that came in. No condition beyond those stated.
-/
namespace Go.Proofs.YtgfijlamhjjecaaGreatDoor
open Go.Lib Go.RowKit Go.ChangeShapes Go.WideShapes Go.ChangeAt Go.WideElems
theorem gSha : Tryz.prog.globalNamed "tarmac/sha.constants" = some 0 := by kernel_rfl
theorem gShaT : (Tryz.prog.globals[0]?).map (·.type) = some 224 := by kernel_rfl
theorem cellsU32 : Tryz.prog.cellsOf 28 = 1 := by kernel_rfl
theorem cellsSha : Tryz.prog.cellsOf 224 = 64 := by kernel_rfl
theorem varsG {W : World} (h : laidMetH Tryz.prog Rows.sealNilRow.laid W) : VarsOk W ∧ VarsK W := by
  rw [MakeChecks.laidMetH_plain _ _ _ (by kernel_rfl)] at h
  have h2 := h.tail.tail
  have h3 := h2.tail
  have h4 := h3.tail
  have h5 := h4.tail
  obtain ⟨a0, s0, hv0, -, -, -⟩ := laid_sentinel h3 gRng gRngT Tryz.underlying177 errRow Tryz.underlying280 Tryz.underlying282 rfl rfl Tryz.underlying9 cellsErr cellsStr
  obtain ⟨a1, s1, hv1, -, -, -⟩ := laid_sentinel h4 gSyn gSynT Tryz.underlying177 errRow Tryz.underlying280 Tryz.underlying282 rfl rfl Tryz.underlying9 cellsErr cellsStr
  refine ⟨⟨Lib.tabIs_of_head gPow gPowT Tryz.underlying264 Tryz.underlying22 cellsU64 cellsPow h2, ⟨_, _, by have h0 := World.var?_cell gSyn hv1 0; simpa using h0⟩, ⟨_, _, by have h0 := World.var?_cell gRng hv0 0; simpa using h0⟩⟩, ⟨fun i k hk => ?_⟩⟩
  have ht : Lib.TabIs Tryz.prog W "tarmac/sha.constants" .u32 (shaK.map (fun k : Nat => (k : Int))) := Lib.tabIs_of_head gSha gShaT Tryz.underlying224 Tryz.underlying28 cellsU32 cellsSha h5
  unfold Lib.TabIs at ht
  rw [World.var?_cell gSha ht i, List.getElem?_toArray, List.map_map, List.getElem?_map, hk]; rfl
theorem door_metG (os : Os) (args : Array Value) : laidMet Tryz.prog Rows.sealNilRow.laid ((World.doorLaid Tryz.prog 3000 os).forCall (fun _ _ => 0) ⟨#[], args, []⟩).memory :=
  laidMet_of_run' 8 (by kernel_rfl) (by kernel_rfl)
section
variable {H : Type} {enc : TypeId × Value → H} {w : World} {base : Nat} {spare : Nat → Bool} {held : Bool}
theorem addr_ofc {w : World} {a : Addr} {v : Value} (h : w.cell? a = some v) : a = ⟨a.block, a.off, none⟩ := by
  have hs : a.spot = none := by
    unfold World.cell? at h
    split at h
    · cases hs : a.spot with
      | none => rfl
      | some s => simp [hs] at h
    · simp at h
  cases a; simp_all
/-- bytes that came in -/
theorem str_of_trod {fuel : Nat} {v : Value} {x : DataW H × List MemPlace} (h : DataW.trod enc Tryz.prog w base spare held fuel 72 [v] = some x) : ∃ l : Str, RowAt (Low w) w v (l.map bv) := by
  rcases open_ints Tryz.underlying72 Tryz.underlying5 (by kernel_rfl) h with ⟨hcs, _⟩ | ⟨x, l, c, zs, hcs, _, hl, hm, hz, _, hcell, hwz⟩
  · simp at hcs; subst hcs
    exact ⟨[], row_nilB _ _⟩
  · simp at hcs; subst hcs
    have hz' : l ≤ zs.length := by rw [hz]; split <;> omega
    have hlen : (((zs.take l).map fun z => UInt8.ofNat z.toNat).map bv).length = l := by simp; omega
    refine ⟨(zs.take l).map fun z => UInt8.ofNat z.toNat, some x, c, by rw [hlen], by rw [hlen]; exact hl, hm, (fun e => by cases e), fun h0 => ?_⟩
    have h0 : 0 < l := by
      rcases Nat.eq_zero_or_pos l with e | e
      · exact absurd (List.eq_nil_of_length_eq_zero (hlen.trans e)) h0
      · exact e
    have hc0 := hcell 0 (by omega)
    have hx := addr_ofc (by simpa [Addr.add] using hc0)
    refine ⟨x.block, x.off, by rw [← hx], ?_, fun j v hv => ?_⟩
    · rw [hx, Addr.add_mid] at hc0
      exact cell_lt' hc0
    · have hj : j < l := by have := (List.getElem?_eq_some_iff.1 hv).1; rw [hlen] at this; exact this
      rw [List.getElem?_map, List.getElem?_map, List.getElem?_take_of_lt hj, List.getElem?_eq_getElem (by omega)] at hv
      have h1 := hcell j (by omega)
      rw [hx, Addr.add_mid] at h1
      rw [h1, ← Option.some.inj hv]
      have hw : (0 : Int) ≤ zs[j] ∧ zs[j] ≤ 255 := (Lit.wf_int_iff _ _).1 (hwz zs[j] (List.getElem_mem _))
      simp only [bv]
      rw [List.getD_eq_getElem?_getD, List.getElem?_eq_getElem (by omega), Option.getD_some]
      rw [UInt8.toNat_ofNat_of_lt' (by show _ < 256; omega)]
      congr 2; omega
end
end Go.Proofs.YtgfijlamhjjecaaGreatDoor

