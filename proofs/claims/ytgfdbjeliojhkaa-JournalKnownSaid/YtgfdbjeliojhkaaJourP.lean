/-
  JourP: big endian numbers, heads and records as lists of bytes: plain laws, no program in sight. No condition.
-/
import Derived.Test.YtgfdbjeliojhkaaDisk7
namespace Go.Proofs.Ytgfdbjeliojhkaa

/-- k bytes of a number, the highest first -/
def be : Nat → Nat → List UInt8
  | 0, _ => []
  | k + 1, n => be k (n / 256) ++ [UInt8.ofNat (n % 256)]
/-- the number that bytes are -/
def rdL (l : List UInt8) : Nat := l.foldl (fun a c => a * 256 + c.toNat) 0
theorem be_len : ∀ k n, (be k n).length = k
  | 0, _ => rfl
  | k + 1, n => by simp [be, be_len k]
theorem rdL_snoc (l : List UInt8) (c : UInt8) : rdL (l ++ [c]) = rdL l * 256 + c.toNat := by simp [rdL]
theorem u8_mod (n : Nat) : (UInt8.ofNat (n % 256)).toNat = n % 256 := by
  rw [UInt8.toNat_ofNat_of_lt' (by show _ < 256; omega)]
theorem rdL_be : ∀ k n, rdL (be k n) = n % 256 ^ k
  | 0, n => by simp [be, rdL, Nat.mod_one]
  | k + 1, n => by
    rw [be, rdL_snoc, rdL_be k, u8_mod, Nat.pow_succ, Nat.mul_comm (256 ^ k) 256, Nat.mod_mul]
    omega
theorem rdL_lt : ∀ l : List UInt8, rdL l < 256 ^ l.length := by
  intro l
  have key : ∀ (l : List UInt8) (a m : Nat), a < m → l.foldl (fun a c => a * 256 + c.toNat) a < m * 256 ^ l.length := by
    intro l
    induction l with
    | nil => intro a m h; simpa using h
    | cons c r ih =>
      intro a m h
      rw [List.foldl_cons, List.length_cons, Nat.pow_succ, Nat.mul_comm (256 ^ r.length) 256, ← Nat.mul_assoc]
      exact ih _ _ (by have := c.toNat_lt; omega)
  have := key l 0 1 (by omega)
  simpa [rdL] using this
theorem be_rdL : ∀ (l : List UInt8), be l.length (rdL l) = l := by
  intro l
  induction h : l.length generalizing l with
  | zero => have : l = [] := List.length_eq_zero_iff.1 h; subst this; rfl
  | succ k ih =>
    have hne : l ≠ [] := by intro e; rw [e] at h; simp at h
    have e := List.dropLast_concat_getLast hne
    have hl : l.dropLast.length = k := by simp [h]
    rw [← e, rdL_snoc, be]
    have hc := (l.getLast hne).toNat_lt
    rw [show (rdL l.dropLast * 256 + (l.getLast hne).toNat) / 256 = rdL l.dropLast by omega, show (rdL l.dropLast * 256 + (l.getLast hne).toNat) % 256 = (l.getLast hne).toNat by omega, ih _ hl]
    simp
theorem be_inj {k a b : Nat} (h : be k a = be k b) (ha : a < 256 ^ k) (hb : b < 256 ^ k) : a = b := by
  have := congrArg rdL h
  rw [rdL_be, rdL_be, Nat.mod_eq_of_lt ha, Nat.mod_eq_of_lt hb] at this
  exact this
theorem be_mod : ∀ k n, be k (n % 256 ^ k) = be k n := fun k n => by
  have h := be_rdL (be k n)
  rw [be_len, rdL_be] at h; exact h
theorem be_append (k : Nat) : ∀ m n, be (k + m) n = be k (n / 256 ^ m) ++ be m n
  | 0, n => by simp [be]
  | m + 1, n => by
    have e : n / 256 ^ (m + 1) = n / 256 / 256 ^ m := by rw [Nat.pow_succ, Nat.mul_comm, Nat.div_div_eq_div_mul]
    rw [show k + (m + 1) = (k + m) + 1 by omega, be, be_append k m (n / 256), e, be, List.append_assoc]
theorem be_zero (k : Nat) : be k 0 = List.replicate k 0 := by
  induction k with
  | zero => rfl
  | succ k ih => simp [be, ih, List.replicate_succ']

/-- a list of bytes, by places -/
def lsec (l : List UInt8) : Sec := fun j => l.getD j 0
def secL (m : Nat) (f : Sec) : List UInt8 := (List.range m).map f
theorem secL_len (m : Nat) (f : Sec) : (secL m f).length = m := by simp [secL]
theorem secL_congr {m : Nat} {f g : Sec} (h : ∀ j, j < m → f j = g j) : secL m f = secL m g := by
  unfold secL; apply List.map_congr_left; intro j hj; exact h j (by simpa using hj)
theorem secL_inj {m : Nat} {f g : Sec} (h : secL m f = secL m g) : ∀ j, j < m → f j = g j := fun j hj => by
  have h4 := congrArg (fun l => l[j]?) h
  simpa [secL, hj] using h4
theorem secL_lsec (l : List UInt8) : secL l.length (lsec l) = l := by
  apply List.ext_getElem?
  intro i
  by_cases h : i < l.length
  · simp [secL, lsec, h]
  · rw [List.getElem?_eq_none (by rw [secL_len]; omega), List.getElem?_eq_none (by omega)]
theorem lsec_secL {m j : Nat} (f : Sec) (h : j < m) : lsec (secL m f) j = f j := by simp [lsec, secL, h]
theorem rowL_secL (m : Nat) (f : Sec) : rowL m f = (secL m f).map bv := by simp [rowL, secL]
theorem rowL_lsec (l : List UInt8) : rowL l.length (lsec l) = l.map bv := by rw [rowL_secL, secL_lsec]
theorem strOf_lsec (l : List UInt8) : strOf l.length (lsec l) = ⟨l.toArray⟩ := by
  have := secL_lsec l; unfold secL at this; unfold strOf; rw [this]

/-- a head, as it lies in a sector -/
def headL (N L : Nat) : List UInt8 := be 8 N ++ be 8 L ++ List.replicate 40 0 ++ be 8 N
theorem headL_len (N L : Nat) : (headL N L).length = 64 := by simp [headL, be_len]
/-- what a sector reads as -/
def readS (s : List UInt8) (room : Nat) : Option (Nat × Nat) :=
  if s = headL (rdL (s.take 8)) (rdL ((s.drop 8).take 8)) ∧ rdL ((s.drop 8).take 8) ≤ room then some (rdL (s.take 8), rdL ((s.drop 8).take 8)) else none
theorem headL_take (N L : Nat) : (headL N L).take 8 = be 8 N := by
  unfold headL
  rw [List.append_assoc, List.append_assoc, List.take_append_of_le_length (by rw [be_len]; omega), List.take_of_length_le (by rw [be_len]; omega)]
theorem headL_drop (N L : Nat) : ((headL N L).drop 8).take 8 = be 8 L := by
  unfold headL
  rw [List.append_assoc, List.append_assoc]
  have h : (be 8 N).length = 8 := be_len 8 N
  rw [List.drop_append_of_le_length (by omega), List.drop_of_length_le (by omega), List.nil_append]
  rw [List.take_append_of_le_length (by rw [be_len]; omega), List.take_of_length_le (by rw [be_len]; omega)]
theorem readS_head {N L room : Nat} (hN : N < 2 ^ 64) (hL : L < 2 ^ 64) (h : L ≤ room) : readS (headL N L) room = some (N, L) := by
  unfold readS
  rw [headL_take, headL_drop, rdL_be, rdL_be, Nat.mod_eq_of_lt (by omega), Nat.mod_eq_of_lt (by omega), if_pos ⟨rfl, h⟩]
theorem readS_some {s : List UInt8} {room N L : Nat} (h : readS s room = some (N, L)) : s = headL N L ∧ L ≤ room ∧ N < 2 ^ 64 := by
  unfold readS at h
  split at h
  · rename_i hc
    obtain ⟨rfl, rfl⟩ := (Prod.mk.injEq ..) ▸ Option.some.inj h
    refine ⟨hc.1, hc.2, ?_⟩
    have := rdL_lt (s.take 8)
    have h2 : (s.take 8).length ≤ 8 := by simp; omega
    exact Nat.lt_of_lt_of_le this (Nat.pow_le_pow_right (by omega) h2)
  · cases h
/-- the head that is taken -/
def pickH : Option (Nat × Nat) → Option (Nat × Nat) → Option (Nat × Nat)
  | some x, some y => if x.1 < y.1 then some y else some x
  | some x, none => some x
  | none, y => y

/-- a record, as it lies among the data -/
def encR (r : List UInt8) : List UInt8 := be 4 r.length ++ r
def encAll (l : List (List UInt8)) : List UInt8 := l.flatMap encR
theorem encAll_nil : encAll [] = [] := rfl
theorem encAll_cons (r : List UInt8) (l : List (List UInt8)) : encAll (r :: l) = encR r ++ encAll l := by simp [encAll]
theorem encAll_append (a b : List (List UInt8)) : encAll (a ++ b) = encAll a ++ encAll b := by simp [encAll]
theorem encAll_one (r : List UInt8) : encAll [r] = encR r := by simp [encAll]
theorem encR_len (r : List UInt8) : (encR r).length = 4 + r.length := by simp [encR, be_len]
/-- the first record of data, and what is behind it -/
def cutR (d : List UInt8) : Option (List UInt8 × List UInt8) :=
  if d.length < 4 ∨ d.length - 4 < rdL (d.take 4) then none else some ((d.drop 4).take (rdL (d.take 4)), (d.drop 4).drop (rdL (d.take 4)))
theorem encR_take (r d : List UInt8) : (encR r ++ d).take 4 = be 4 r.length := by
  unfold encR
  rw [List.append_assoc, List.take_append_of_le_length (by rw [be_len]; omega), List.take_of_length_le (by rw [be_len]; omega)]
theorem encR_drop (r d : List UInt8) : (encR r ++ d).drop 4 = r ++ d := by
  unfold encR
  have h : (be 4 r.length).length = 4 := be_len 4 _
  rw [List.append_assoc, List.drop_append_of_le_length (by omega), List.drop_of_length_le (by omega), List.nil_append]
theorem cutR_enc (r d : List UInt8) (h : r.length < 2 ^ 32) : cutR (encR r ++ d) = some (r, d) := by
  unfold cutR
  rw [encR_take, encR_drop, rdL_be, Nat.mod_eq_of_lt (by omega), if_neg (by rw [List.length_append, encR_len]; omega)]
  simp
/-- the records of data; none: what is left is none -/
def recsF : Nat → List UInt8 → Option (List (List UInt8))
  | 0, _ => some []
  | f + 1, d => if d = [] then some [] else match cutR d with
    | none => none
    | some (r, e) => (recsF f e).map (r :: ·)
def recs (d : List UInt8) : Option (List (List UInt8)) := recsF d.length d
theorem recsF_enc : ∀ (l : List (List UInt8)) (f : Nat), (∀ r ∈ l, r.length < 2 ^ 32) → (encAll l).length ≤ f → recsF f (encAll l) = some l
  | [], 0, _, _ => rfl
  | [], f + 1, _, _ => by simp [recsF, encAll]
  | r :: l, 0, _, hf => by rw [encAll_cons, List.length_append, encR_len] at hf; omega
  | r :: l, f + 1, h, hf => by
    rw [encAll_cons] at hf ⊢
    rw [List.length_append, encR_len] at hf
    have hne : encR r ++ encAll l ≠ [] := by intro e; have := congrArg List.length e; rw [List.length_append, encR_len] at this; simp at this
    rw [recsF, if_neg hne, cutR_enc r _ (h r (by simp))]
    simp only
    rw [recsF_enc l f (fun x hx => h x (by simp [hx])) (by omega)]
    rfl
theorem recs_enc (l : List (List UInt8)) (h : ∀ r ∈ l, r.length < 2 ^ 32) : recs (encAll l) = some l := recsF_enc l _ h (Nat.le_refl _)
end Go.Proofs.Ytgfdbjeliojhkaa
