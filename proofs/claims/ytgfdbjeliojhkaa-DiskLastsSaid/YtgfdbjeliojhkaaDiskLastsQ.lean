/-
  DiskLastsQ: slices of slices, bytes as strings, in regions that draw. No condition beyond those stated.
-/
import Derived.Test.YtgfdbjeliojhkaaDiskLastsP
import Derived.Test.YtgfdbjeliojhkaaPlan
namespace Go.Proofs.Ytgfdbjeliojhkaa
open Go.RowKit
/-- the place of a slice of a slice: at the end of all, it stays where it was -/
def slQ (b off cap k : Nat) : Addr := if cap = k then ⟨b, off, none⟩ else ⟨b, off + k, none⟩
theorem slQ_in {b off cap k : Nat} (h : k < cap) : slQ b off cap k = ⟨b, off + k, none⟩ := by unfold slQ; rw [if_neg (by omega)]
section
variable {P : Program} {o : Oper} {a : Act} {w : World} {b off len cap : Nat} {t : TypeId} {x lo hi : Operand}
theorem sliced_q (k m : Nat) : sliced (some ⟨b, off, none⟩) k m cap 1 = .slice (some (slQ b off cap k)) (m - k) (cap - k) := by
  unfold sliced slQ
  split
  · rfl
  · simp only [Option.map_some, Nat.mul_one, Addr.add_mid]
theorem exec_sl_lh {kl kh : IntKind} {k m : Int} (ho : o.op = .slice t x (some lo) (some hi) none) (hx : a.eval x = .slice (some ⟨b, off, none⟩) len cap) (hl : a.eval lo = .int kl k) (hh : a.eval hi = .int kh m) (h0 : 0 ≤ k) (h1 : k ≤ m) (h2 : m ≤ cap)
    (ht : P.underlying t = some (.slice (P.elem t))) (hs : (P.info? (P.elem t)).map (·.size) = some 1) : (execOp a.eval o).run P w = .ok (.value (.slice (some (slQ b off cap k.toNat)) (m.toNat - k.toNat) (cap - k.toNat))) w := by
  obtain ⟨k, rfl⟩ := Int.eq_ofNat_of_zero_le h0
  obtain ⟨m, rfl⟩ := Int.eq_ofNat_of_zero_le (show 0 ≤ m by omega)
  have h := run_slice_lh (P := P) w t (some ⟨b, off, none⟩) len cap ht kl kh (k : Int) (m : Int) (by omega) (by omega) (by omega)
  cases hq : P.info? (P.elem t) with
  | none => simp [hq] at hs
  | some i =>
    simp [hq] at hs
    unfold execOp
    simp only [ho, hx, Option.map_some, Option.map_none, hl, hh, Sem.run_bind, run_sliceAt_slice w t _ _ _ _ ht, h]
    simp [sizeOf, typeInfo, hq, hs, sliced_q]
theorem exec_sl_l {kl : IntKind} {k : Nat} (ho : o.op = .slice t x (some lo) none none) (hx : a.eval x = .slice (some ⟨b, off, none⟩) len cap) (hl : a.eval lo = .int kl (k : Int)) (h1 : k ≤ len)
    (ht : P.underlying t = some (.slice (P.elem t))) (hs : (P.info? (P.elem t)).map (·.size) = some 1) : (execOp a.eval o).run P w = .ok (.value (.slice (some (slQ b off cap k)) (len - k) (cap - k))) w := by
  have h := run_slice_l (P := P) w t (some ⟨b, off, none⟩) len cap ht kl (k : Int) (by omega) (by omega)
  cases hq : P.info? (P.elem t) with
  | none => simp [hq] at hs
  | some i =>
    simp [hq] at hs
    unfold execOp
    simp only [ho, hx, Option.map_some, Option.map_none, hl, Sem.run_bind, run_sliceAt_slice w t _ _ _ _ ht, h]
    simp [sizeOf, typeInfo, hq, hs, sliced_q]
end
/-- bytes of a slice of a slice as a string -/
theorem conv_slQ {w : World} {b off len cap : Nat} {f : Sec} (h : w.rangeAt b off (rowL len f)) (k : Nat) (hk : k ≤ len) (hl : len ≤ cap) (c : Nat) : (convert 31 9 (.slice (some (slQ b off cap k)) (len - k) c)).run Try.prog w = .ok (.string (strOf (len - k) fun j => f (k + j))) w := by
  unfold slQ
  split
  · obtain rfl : len = k := by omega
    rw [Nat.sub_self]
    rw [run_zero_string w 31 9 5 b off c Try.underlying31 Try.underlying5 Try.underlying9]
    rfl
  · exact run_bytes_string w 31 9 5 b (off + k) (len - k) c _ Try.underlying31 Try.underlying5 Try.underlying9 (rangeAt_sub h k (len - k) (by omega))
end Go.Proofs.Ytgfdbjeliojhkaa
