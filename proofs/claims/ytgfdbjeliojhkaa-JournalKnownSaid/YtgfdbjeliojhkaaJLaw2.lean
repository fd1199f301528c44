/-
  JLaw2: what else lies on a disk to which records were added: the other head, zeros behind the data. Plain law. No condition beyond those stated.
-/
import Derived.Test.YtgfdbjeliojhkaaJLaw
namespace Go.Proofs.Ytgfdbjeliojhkaa
structure JS (n : Nat) (F : Sec) (rs : List (List UInt8)) : Prop where
  zf : ∀ j, (encAll rs).length ≤ j → j < (n - 2) * 64 → F (64 * 2 + j) = 0
  hx : rs ≠ [] → ∀ j, j < 64 → F (64 * ((rs.length + 1) % 2) + j) = lsec (headL (rs.length - 1) (encAll rs.dropLast).length) j
theorem lsec_ge {l : List UInt8} {j : Nat} (h : l.length ≤ j) : lsec l j = 0 := by simp [lsec, List.getElem?_eq_none h]
theorem JS.fresh (n : Nat) : JS (DK.fresh n).n (DK.fresh n).now [] := ⟨fun _ _ _ => rfl, fun h => absurd rfl h⟩
theorem JS.add {D : DK} {rs : List (List UInt8)} {r : List UInt8} (h : JS D.n D.now rs) (hc : JC D.n D.now rs) (hf : (encAll rs).length + 4 + r.length ≤ (D.n - 2) * 64) : JS D.n (st4 D rs.length (encAll rs) (encAll rs ++ encR r)).now (rs ++ [r]) := by
  have e : encAll (rs ++ [r]) = encAll rs ++ encR r := by rw [encAll_append, encAll_one]
  have el : (encAll rs ++ encR r).length = (encAll rs).length + 4 + r.length := by rw [List.length_append, encR_len]; omega
  have hN := hc.hp
  have hz := h.zf
  have n4 := hc.n4
  refine ⟨fun j h1 h2 => ?_, fun _ j hj => ?_⟩
  · rw [e] at h1
    rw [show 64 * 2 + j = 64 * (2 + j / 64) + j % 64 by omega, st4_now, st3_now _ _ _ _ _ _ (by omega), if_neg (by omega)]
    split
    · rw [show 64 * (2 + j / 64 - 2) + j % 64 = j by omega]
      exact lsec_ge h1
    · rw [show 64 * (2 + j / 64) + j % 64 = 64 * 2 + j by omega]
      exact hz j (by omega) h2
  · rw [List.length_append, List.length_singleton, List.dropLast_concat, Nat.add_sub_cancel, st4_now, st3_now _ _ _ _ _ _ hj, if_neg (by omega), if_neg (by omega), show (rs.length + 1 + 1) % 2 = rs.length % 2 by omega]
    exact hN j hj
end Go.Proofs.Ytgfdbjeliojhkaa
