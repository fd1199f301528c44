/-
  Jour4: equality of arrays of bytes; contract of read (a head in a sector). No condition beyond those stated.
-/
import Derived.Test.YtgfdbjeliojhkaaJour3
import Derived.Test.YtgfdbjeliojhkaaDiskLastsP
namespace Go.Proofs.Ytgfdbjeliojhkaa
open Go.RowKit
section
variable {P : Program} {w : World}
theorem run_sizeOf {t : TypeId} {n : Nat} (h : (P.info? t).map (·.size) = some n) (w : World) : (sizeOf t).run P w = .ok n w := by
  cases hq : P.info? t with
  | none => simp [hq] at h
  | some i => simp [hq] at h; simp [sizeOf, typeInfo, hq, h]
theorem run_part_u8 {e : TypeId} (he : P.underlying e = some (.int .u8)) (n : Nat) (f : Sec) {i : Nat} (hi : i < n) (w : World) : (part e (rowA n f) i).run P w = .ok (bv (f i)) w := by
  unfold part isAgg
  simp only [Sem.run_bind, run_underlying he, Result.andThen_ok, Sem.run_pure, Bool.false_eq_true, if_false, rowA_get f hi]
theorem run_forIn_all (B : Nat → Bool) (F : Nat → (Option Bool × Unit) → Sem (ForInStep (Option Bool × Unit))) (w : World) :
    ∀ (l : List Nat), (∀ i ∈ l, ∀ s, (F i s).run P w = .ok (if B i then .yield (none, ()) else .done (some false, ())) w) →
    (forIn l ((none : Option Bool), ()) F).run P w = .ok (if l.all B then (none, ()) else (some false, ())) w
  | [], _ => by simp
  | i :: l, h => by
    have h0 := h i (by simp) (none, ())
    have ih := run_forIn_all B F w l (fun j hj => h j (by simp [hj]))
    simp only [List.forIn_cons, Sem.run_bind, h0, Result.andThen_ok]
    cases hb : B i
    · simp [hb]
    · simp only [if_true, ih, List.all_cons, hb, Bool.true_and]
/-- equality of arrays of bytes -/
theorem run_equalIn_arr {t e : TypeId} {n : Nat} (ht : P.underlying t = some (.array n e)) (he : P.underlying e = some (.int .u8)) (hs : (P.info? e).map (·.size) = some 1) (d : Nat) (f g : Sec) (w : World) :
    (Op.equalIn (d + 1 + 1) t (.agg (rowA n f)) (.agg (rowA n g))).run P w = .ok (decide (secL n f = secL n g)) w := by
  unfold Op.equalIn
  simp only [Sem.run_bind, run_underlying ht, Result.andThen_ok, run_sizeOf hs]
  rw [Std.Legacy.Range.forIn_eq_forIn_range']
  have hsz : Std.Legacy.Range.size [0:n] = n := by simp [Std.Legacy.Range.size]
  rw [hsz]
  rw [run_forIn_all (fun i => f i == g i)]
  · simp only [Result.andThen_ok]
    by_cases h : secL n f = secL n g
    · have : ((List.range' 0 n 1).all fun i => f i == g i) = true := by
        rw [List.all_eq_true]
        intro i hi
        have := secL_inj h i (by simp [List.mem_range'] at hi; omega)
        simp [this]
      simp [this, h]
    · have : ((List.range' 0 n 1).all fun i => f i == g i) = false := by
        cases hh : (List.range' 0 n 1).all fun i => f i == g i with
        | false => rfl
        | true =>
          exfalso
          apply h
          rw [List.all_eq_true] at hh
          exact secL_congr (fun j hj => by simpa using hh j (by simp [List.mem_range']; omega))
      simp [this, h]
  · intro i hi s
    have hi' : i < n := by simp [List.mem_range'] at hi; omega
    simp only [Nat.mul_one, Sem.run_bind, run_part_u8 he n _ hi', Result.andThen_ok, bv, run_equalIn_int w d e _ _ _ _ he]
    by_cases h : f i = g i
    · have e1 : (((f i).toNat : Int) == ((g i).toNat : Int)) = true := by simp [h]
      simp [h]
    · have e1 : (((f i).toNat : Int) == ((g i).toNat : Int)) = false := by
        simp; intro e2; exact h (UInt8.toNat_inj.1 (by omega))
      simp [e1, h]
theorem run_eql_arr {t e : TypeId} {n : Nat} (ht : P.underlying t = some (.array n e)) (he : P.underlying e = some (.int .u8)) (hs : (P.info? e).map (·.size) = some 1) (f g : Sec) (w : World) :
    (binOp .eql t (.agg (rowA n f)) (.agg (rowA n g))).run P w = .ok (.bool (decide (secL n f = secL n g))) w := by
  unfold binOp
  simp only [Op.equal, Sem.run_bind]
  rw [show Op.maxDepth = 9998 + 1 + 1 from rfl, run_equalIn_arr ht he hs]
  simp
end
end Go.Proofs.Ytgfdbjeliojhkaa
