/-
  Jour7: the records of data: the iterator's walk. No condition beyond those stated.
-/
import Derived.Test.YtgfdbjeliojhkaaJour6
import Derived.Test.YtgfdbjeliojhkaaIter
namespace Go.Proofs.Ytgfdbjeliojhkaa
open Go.RowKit Go.Shelf
attribute [local go_sem] Oper.semAt_some

/-- the place of a slice of a slice: at the end of all, it stays where it was -/
def slPt (b off cap k : Nat) : Addr := if cap = k then ⟨b, off, none⟩ else ⟨b, off + k, none⟩
theorem slPt_block (b off cap k : Nat) : (slPt b off cap k).block = b := by unfold slPt; split <;> rfl
theorem slPt_own (b off cap k m c : Nat) : (Value.slice (some (slPt b off cap k)) m c).ownBlock = some b := by simp [Value.ownBlock, slPt_block]
section
variable {P : Program} {o : Oper} {a : Act} {w : World} {b off len cap : Nat} {t e : TypeId} {x lo hi : Operand}
theorem sliced_pt (k m : Nat) : sliced (some ⟨b, off, none⟩) k m cap 1 = .slice (some (slPt b off cap k)) (m - k) (cap - k) := by
  unfold sliced slPt
  split
  · rfl
  · simp only [Option.map_some, Nat.mul_one, Addr.add_mid]
theorem exec_slice_lh {kl kh : IntKind} {k m : Nat} (ho : o.op = .slice t x (some lo) (some hi) none) (hx : a.eval x = .slice (some ⟨b, off, none⟩) len cap) (hl : a.eval lo = .int kl (k : Int)) (hh : a.eval hi = .int kh (m : Int)) (h1 : k ≤ m) (h2 : m ≤ cap)
    (ht : P.underlying t = some (.slice (P.elem t))) (hs : (P.info? (P.elem t)).map (·.size) = some 1) : (execOp a.eval o).run P w = .ok (.value (.slice (some (slPt b off cap k)) (m - k) (cap - k))) w := by
  have h := run_slice_lh (P := P) w t (some ⟨b, off, none⟩) len cap ht kl kh (k : Int) (m : Int) (by omega) (by omega) (by omega)
  cases hq : P.info? (P.elem t) with
  | none => simp [hq] at hs
  | some i =>
    simp [hq] at hs
    unfold execOp
    simp only [ho, hx, Option.map_some, Option.map_none, hl, hh, Sem.run_bind, run_sliceAt_slice w t _ _ _ _ ht, h]
    simp [sizeOf, typeInfo, hq, hs, sliced_pt]
theorem exec_slice_l {kl : IntKind} {k : Nat} (ho : o.op = .slice t x (some lo) none none) (hx : a.eval x = .slice (some ⟨b, off, none⟩) len cap) (hl : a.eval lo = .int kl (k : Int)) (h1 : k ≤ len)
    (ht : P.underlying t = some (.slice (P.elem t))) (hs : (P.info? (P.elem t)).map (·.size) = some 1) : (execOp a.eval o).run P w = .ok (.value (.slice (some (slPt b off cap k)) (len - k) (cap - k))) w := by
  have h := run_slice_l (P := P) w t (some ⟨b, off, none⟩) len cap ht kl (k : Int) (by omega) (by omega)
  cases hq : P.info? (P.elem t) with
  | none => simp [hq] at hs
  | some i =>
    simp [hq] at hs
    unfold execOp
    simp only [ho, hx, Option.map_some, Option.map_none, hl, Sem.run_bind, run_sliceAt_slice w t _ _ _ _ ht, h]
    simp [sizeOf, typeInfo, hq, hs, sliced_pt]
theorem bytes_slPt {f : Sec} (h : w.rangeAt b off (rowL len f)) (k m : Nat) (hk : k + m ≤ len) (hl : len ≤ cap) (hc : cap ≤ maxLen) : BytesAt w (.slice (some (slPt b off cap k)) m (cap - k)) m (fun j => f (k + j)) := by
  refine ⟨_, _, rfl, by omega, by omega, (fun e => by cases e), fun hm => ⟨b, off + k, ?_, rangeAt_sub h k m hk⟩⟩
  unfold slPt; rw [if_neg (by omega)]
end
theorem BytesAt.congr {w : World} {v : Value} {m : Nat} {f g : Sec} (h : BytesAt w v m f) (e : ∀ j, j < m → f j = g j) : BytesAt w v m g := by
  obtain ⟨ao, cap, rfl, h1, h2, h3, h4⟩ := h
  refine ⟨ao, cap, rfl, h1, h2, h3, fun hm => ?_⟩
  obtain ⟨b, off, rfl, hr⟩ := h4 hm
  exact ⟨b, off, rfl, by rw [← rowL_congr e]; exact hr⟩
/-- d0 is these records, and then d -/
inductive CutS (d0 : List UInt8) : List (List UInt8) → List UInt8 → Prop
  | nil : CutS d0 [] d0
  | snoc {rs d r d'} : CutS d0 rs d → d ≠ [] → cutR d = some (r, d') → CutS d0 (rs ++ [r]) d'
theorem cutR_len {d r d' : List UInt8} (h : cutR d = some (r, d')) : d'.length + 4 + r.length = d.length := by
  unfold cutR at h
  split at h
  · cases h
  · rename_i hc
    simp only [Option.some.injEq, Prod.mk.injEq] at h
    obtain ⟨rfl, rfl⟩ := h
    simp only [List.length_take, List.length_drop]
    omega
theorem recsF_more : ∀ (f : Nat) (d : List UInt8), d.length ≤ f → recsF f d = recs d := by
  have key : ∀ (n f g : Nat) (d : List UInt8), d.length ≤ n → d.length ≤ f → d.length ≤ g → recsF f d = recsF g d := by
    intro n
    induction n with
    | zero =>
      intro f g d hn hf hg
      obtain rfl : d = [] := List.length_eq_zero_iff.1 (by omega)
      cases f <;> cases g <;> simp [recsF]
    | succ n ih =>
      intro f g d hn hf hg
      by_cases hd : d = []
      · subst hd; cases f <;> cases g <;> simp [recsF]
      · have : 0 < d.length := List.length_pos_iff.2 hd
        obtain ⟨f, rfl⟩ : ∃ f', f = f' + 1 := ⟨f - 1, by omega⟩
        obtain ⟨g, rfl⟩ : ∃ g', g = g' + 1 := ⟨g - 1, by omega⟩
        simp only [recsF, hd, if_false]
        cases hc : cutR d with
        | none => rfl
        | some p =>
          obtain ⟨r, e⟩ := p
          have := cutR_len hc
          simp only
          rw [ih f g e (by omega) (by omega) (by omega)]
  exact fun f d h => key d.length f d.length d (Nat.le_refl _) h (Nat.le_refl _)
theorem recs_nil : recs [] = some [] := rfl
theorem recs_none {d : List UInt8} (hd : d ≠ []) (h : cutR d = none) : recs d = none := by
  have : 0 < d.length := List.length_pos_iff.2 hd
  unfold recs
  obtain ⟨f, hf⟩ : ∃ f', d.length = f' + 1 := ⟨d.length - 1, by omega⟩
  rw [hf, recsF, if_neg hd, h]
theorem recs_some {d r e : List UInt8} (hd : d ≠ []) (h : cutR d = some (r, e)) : recs d = (recs e).map (r :: ·) := by
  have h0 : 0 < d.length := List.length_pos_iff.2 hd
  have hl := cutR_len h
  unfold recs
  obtain ⟨f, hf⟩ : ∃ f', d.length = f' + 1 := ⟨d.length - 1, by omega⟩
  rw [hf, recsF, if_neg hd, h]
  simp only
  rw [recsF_more f e (by omega)]
  rfl
theorem CutS.recs {d0 : List UInt8} {rs : List (List UInt8)} {d : List UInt8} (h : CutS d0 rs d) : recs d0 = (recs d).map (rs ++ ·) := by
  induction h with
  | nil => simp
  | snoc h hd hc ih =>
    rw [ih, recs_some hd hc]
    simp [Option.map_map, Function.comp_def]
theorem CutS.done {d0 : List UInt8} {rs : List (List UInt8)} (h : CutS d0 rs []) : Go.Proofs.Ytgfdbjeliojhkaa.recs d0 = some rs := by
  rw [h.recs, recs_nil]; simp
theorem CutS.broken {d0 : List UInt8} {rs : List (List UInt8)} {d : List UInt8} (h : CutS d0 rs d) (hd : d ≠ []) (hc : cutR d = none) : Go.Proofs.Ytgfdbjeliojhkaa.recs d0 = none := by
  rw [h.recs, recs_none hd hc]; rfl
theorem CutS.len {d0 : List UInt8} {rs : List (List UInt8)} {d : List UInt8} (h : CutS d0 rs d) : d.length ≤ d0.length := by
  induction h with
  | nil => exact Nat.le_refl _
  | snoc h hd hc ih => have := cutR_len hc; omega
theorem CutS.count {d0 : List UInt8} {rs : List (List UInt8)} {d : List UInt8} (h : CutS d0 rs d) : rs.length + d.length ≤ d0.length := by
  induction h with
  | nil => simp
  | snoc h hd hc ih => have := cutR_len hc; rw [List.length_append, List.length_singleton]; omega
theorem lsec_drop (d : List UInt8) (k j : Nat) : lsec (d.drop k) j = lsec d (k + j) := by simp [lsec, List.getElem?_drop]
theorem secL_take_drop (d : List UInt8) (k m : Nat) (h : k + m ≤ d.length) : secL m (fun j => lsec d (k + j)) = (d.drop k).take m := by
  apply List.ext_getElem?
  intro i
  by_cases hi : i < m
  · rw [List.getElem?_take_of_lt hi, List.getElem?_drop]
    simp [secL, lsec, hi, show k + i < d.length by omega]
  · rw [List.getElem?_eq_none (by rw [secL_len]; omega), List.getElem?_eq_none (by simp; omega)]
end Go.Proofs.Ytgfdbjeliojhkaa
