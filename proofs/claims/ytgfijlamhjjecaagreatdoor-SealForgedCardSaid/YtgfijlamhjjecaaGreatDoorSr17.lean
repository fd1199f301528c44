/-
  Texts SealY, SealZ, one behind the other. No condition beyond those stated in each.
-/
import Derived.Test.YtgfijlamhjjecaaGreatDoorSr16
/-
  SealY: keys of which one to itself is set; rings of the same keys. No condition beyond those stated.
-/
namespace Go.Proofs.YtgfijlamhjjecaaGreatDoor
open Go.RowKit
theorem OwnS.setCell {w : World} {B B' : Nat} {y v : Value} {s : Str} {n : Nat} {zs : List Value} {e : TypeId} {g c j : Nat} (h : OwnS w B y s) (hv : w.ownsRow B' e 1 v n zs) (he : 5 ≠ e) (hg : v = .slice (some ⟨g, 0, none⟩) n c) (x : Value) : OwnS (w.setCell ⟨g, j, none⟩ x) B y s := by
  subst hg
  refine own_cong h (fun k hk => heap_setCell_other _ _ _ _ ?_)
  intro e2
  exact own_ne h hv he hk (by rw [e2]; rfl)
theorem RowsO.setCell {w : World} {B g j : Nat} {v : Value} {l : List Str} (h : RowsO w B v l) (hv : v.ownBlock ≠ some g) {B' n c : Nat} {zs : List Value} (hg : w.ownsRow B' 72 1 (.slice (some ⟨g, 0, none⟩) n c) n zs) (x : Value) : RowsO (w.setCell ⟨g, j, none⟩ x) B v l := by
  obtain ⟨ys, h1, h2, h3⟩ := h.ex
  refine ⟨ys, own_cong h1 (fun k hk => heap_setCell_other _ _ _ _ (fun e => hv (by rw [hk, e]))), h2, fun j s y hs hy => (h3 j s y hs hy).setCell hg (by decide) rfl x⟩
/-- one key is set -/
theorem KeysO.set {w : World} {B : Nat} {v y : Value} {L : List (List Str)} {i j : Nat} {r : List Str} {s : Str} {xs : List Value} {g c : Nat} (h1 : w.ownsRow B 73 1 v L.length xs) (h2 : xs.length = L.length)
    (hd : ∀ (i j : Nat) (x y : Value) (b : Nat), i ≠ j → xs[i]? = some x → xs[j]? = some y → x.ownBlock = some b → y.ownBlock ≠ some b) (h3 : ∀ (i : Nat) (r : List Str) (x : Value), L[i]? = some r → xs[i]? = some x → RowsO w B x r)
    (hi : L[i]? = some r) (hx : xs[i]? = some (.slice (some ⟨g, 0, none⟩) r.length c)) (hj : j < r.length) (hy : OwnS w B y s) : KeysO (w.setCell ⟨g, j, none⟩ y) B v (L.set i (r.set j s)) := by
  have hil : i < L.length := (List.getElem?_eq_some_iff.1 hi).1
  obtain ⟨ys, y1, y2, y3⟩ := (h3 i r _ hi hx).ex
  refine ⟨xs, ?_, by rw [List.length_set]; exact h2, hd, fun i' r' x' hr hx' => ?_⟩
  · rw [List.length_set]
    refine own_cong h1 (fun k hk => heap_setCell_other _ _ _ _ (fun e => ?_))
    exact own_ne y1 h1 (by decide) (k := g) rfl (by have e' : k = g := e; rw [← e']; exact hk)
  · by_cases e : i' = i
    · subst e
      rw [List.getElem?_set_self hil] at hr
      cases hr
      rw [hx] at hx'
      cases hx'
      refine ⟨ys.set j y, by rw [List.length_set]; exact own_set y1 (by rw [y2]; exact hj) y, by simp [y2], fun j' s' y' hs' hy' => ?_⟩
      by_cases e : j' = j
      · subst e
        rw [List.getElem?_set_self hj] at hs'
        rw [List.getElem?_set_self (by rw [y2]; exact hj)] at hy'
        cases hs'; cases hy'
        exact hy.setCell y1 (by decide) rfl y
      · rw [List.getElem?_set_ne (fun h => e h.symm)] at hs' hy'
        exact (y3 j' s' y' hs' hy').setCell y1 (by decide) rfl y
    · rw [List.getElem?_set_ne (fun h => e h.symm)] at hr
      exact (h3 i' r' x' hr hx').setCell (fun h => hd i i' _ _ g (fun h => e h.symm) hx hx' rfl h) y1 y
/-- keys of which the first ones to itself are set -/
def selfM (n : Nat) (more self : Str) (m : Nat) : List (List Str) := (List.range n).map fun i => if i < m then (keysRow n i more).set i self else keysRow n i more
theorem selfM_zero (n : Nat) (more self : Str) : selfM n more self 0 = keysM n more := by unfold selfM keysM; simp
theorem selfM_len (n m : Nat) (more self : Str) : (selfM n more self m).length = n := by unfold selfM; simp
theorem keysRow_len (n i : Nat) (more : Str) : (keysRow n i more).length = n := by unfold keysRow; simp
theorem selfM_get {n m i : Nat} {more self : Str} (hi : i < n) : (selfM n more self m)[i]? = some (if i < m then (keysRow n i more).set i self else keysRow n i more) := by
  unfold selfM; rw [List.getElem?_map, List.getElem?_range hi]; rfl
theorem selfM_step {n m : Nat} {more self : Str} (hm : m < n) : (selfM n more self m).set m ((keysRow n m more).set m self) = selfM n more self (m + 1) := by
  apply List.ext_getElem?
  intro i
  by_cases hi : i < n
  · by_cases e : m = i
    · subst e
      rw [List.getElem?_set_self (by rw [selfM_len]; exact hm), selfM_get hm, if_pos (by omega)]
    · rw [List.getElem?_set_ne e, selfM_get hi, selfM_get hi]
      by_cases h : i < m
      · rw [if_pos h, if_pos (by omega)]
      · rw [if_neg h, if_neg (by omega)]
  · rw [List.getElem?_eq_none (by rw [List.length_set, selfM_len]; omega), List.getElem?_eq_none (by rw [selfM_len]; omega)]
theorem keyAt_self {n m i k : Nat} {more self : Str} (hi : i < n) (hk : k < n) (hne : i ≠ k) : keyAt (selfM n more self m) i k = keyC i k :: more := by
  have h0 := keyAt_keys (more := more) hi hk
  unfold keyAt keysM at h0
  rw [List.getD_eq_getElem?_getD, List.getD_eq_getElem?_getD, List.getElem?_map, List.getElem?_range hi, Option.map_some, Option.getD_some] at h0
  unfold keyAt
  rw [List.getD_eq_getElem?_getD, List.getD_eq_getElem?_getD, selfM_get hi, Option.getD_some]
  by_cases h : i < m
  · rw [if_pos h, List.getElem?_set_ne hne]; exact h0
  · rw [if_neg h]; exact h0
theorem selfM_rows {n m : Nat} {more self : Str} : ∀ r ∈ selfM n more self m, r.length = n := fun r hr => by
  unfold selfM at hr
  obtain ⟨i, _, rfl⟩ := List.mem_map.1 hr
  split
  · rw [List.length_set, keysRow_len]
  · rw [keysRow_len]
theorem keyAt_selfle {n m : Nat} {more self : Str} (hn : n ≤ 8) (hm : more.length ≤ 60) (hs : self.length ≤ 2000) (i k : Nat) : (keyAt (selfM n more self m) i k).length ≤ 2000 := by
  by_cases hi : i < n
  · by_cases hk : k < n
    · by_cases e : i = k
      · subst e
        unfold keyAt
        rw [List.getD_eq_getElem?_getD, List.getD_eq_getElem?_getD, selfM_get hi, Option.getD_some]
        by_cases h : i < m
        · rw [if_pos h, List.getElem?_set_self (by rw [keysRow_len]; exact hi)]; exact hs
        · rw [if_neg h]
          have h0 := keyAt_keys (more := more) hi hi
          unfold keyAt keysM at h0
          rw [List.getD_eq_getElem?_getD, List.getD_eq_getElem?_getD, List.getElem?_map, List.getElem?_range hi, Option.map_some, Option.getD_some] at h0
          rw [h0]; simp; omega
      · rw [keyAt_self hi hk e]; simp; omega
    · have : keyAt (selfM n more self m) i k = [] := by
        unfold keyAt
        rw [List.getD_eq_getElem?_getD, List.getElem?_eq_none]
        · rfl
        · rw [List.getD_eq_getElem?_getD, selfM_get hi, Option.getD_some]
          split
          · rw [List.length_set, keysRow_len]; omega
          · rw [keysRow_len]; omega
      rw [this]; simp
  · have : keyAt (selfM n more self m) i k = [] := by
      unfold keyAt
      rw [List.getD_eq_getElem?_getD, List.getD_eq_getElem?_getD, List.getElem?_eq_none (l := selfM n more self m) (by rw [selfM_len]; omega)]; rfl
    rw [this]; simp
theorem goodB_selfM {n m : Nat} {more self : Str} (h2 : 2 ≤ n) (h8 : n ≤ 8) (hm : more.length ≤ 60) : goodB (selfM n more self m) = true :=
  good_keys h2 h8 hm (selfM_len _ _ _ _) selfM_rows (fun _ _ hi hk hne => keyAt_self hi hk hne)
theorem sealM_same {n m : Nat} {more self : Str} (p : PD) : sealM (selfM n more self m) p = sealM (keysM n more) p := by
  have hiff : ∀ K : List (List Str), K.length = n → (mayS K p ↔ (p.fr < n ∧ p.dst < n ∧ p.fr ≠ p.dst)) := fun K hK => by unfold mayS; rw [hK]
  have h1 := hiff _ (selfM_len n m more self)
  have h2 := hiff _ (keysM_len n more)
  unfold sealM
  by_cases h : p.fr < n ∧ p.dst < n ∧ p.fr ≠ p.dst
  · rw [if_pos (h1.2 h), if_pos (h2.2 h), keyAt_self h.1 h.2.1 h.2.2, keyAt_keys h.1 h.2.1]
  · rw [if_neg (fun e => h (h1.1 e)), if_neg (fun e => h (h2.1 e))]
end Go.Proofs.YtgfijlamhjjecaaGreatDoor


/-
  SealZ: when Open says that a mac is not right: plain words. No condition.
-/
namespace Go.Proofs.YtgfijlamhjjecaaGreatDoor
open Go.RowKit
theorem stepE_110 {s : EC} {c : UInt8} {k : Int} (h : stepE s c = .err k) : k ≠ 110 := by
  cases s <;> simp only [stepE, tagS, putS, signS] at h <;> (repeat' split at h) <;> first | (cases h; decide) | (cases h)
theorem runE_110 : ∀ (t : Str) (s : EC) (i j : Nat) (k : Int), runE s i t = .err j k → k ≠ 110
  | [], s, i, j, k, h => by simp [runE] at h
  | c :: r, s, i, j, k, h => by
    unfold runE at h
    split at h
    · rename_i k' hk
      cases h
      exact stepE_110 hk
    · exact runE_110 r _ _ _ _ h
theorem parseE_110 (t : Str) : (parseE t).2.2 ≠ 110 := by
  unfold parseE
  split
  · show (2 : Int) ≠ 110; decide
  · split
    · rename_i i k h; exact runE_110 _ _ _ _ _ h
    · show (0 : Int) ≠ 110; decide
    · show (31 : Int) ≠ 110; decide
theorem wrapHT_110 (h z : Seg) (m : List Seg) : (wrapHT h z m).2 ≠ 110 := by
  unfold wrapHT
  repeat' split
  all_goals (first | (show (40 : Int) ≠ 110; decide) | (show (41 : Int) ≠ 110; decide) | (show (42 : Int) ≠ 110; decide) | (show (0 : Int) ≠ 110; decide))
theorem wrapParseE_110 (t : Str) : (wrapParseE t).2 ≠ 110 := by
  unfold wrapParseE
  split
  · unfold wrapOf
    split
    · show (40 : Int) ≠ 110; decide
    · split
      · show (40 : Int) ≠ 110; decide
      · exact wrapHT_110 _ _ _
  · exact parseE_110 t
theorem parse7_110 (t : Str) : (parse7 t).2 ≠ 110 := by
  unfold parse7
  repeat' split
  all_goals (first | (show (90 : Int) ≠ 110; decide) | (show (70 : Int) ≠ 110; decide) | (show (1 : Int) ≠ 110; decide) | (show (0 : Int) ≠ 110; decide))
theorem packetM_110 (x : WD) : (packetM x).2 ≠ 110 := by
  unfold packetM
  repeat' split
  all_goals (first | (show (1 : Int) ≠ 110; decide) | (show (100 : Int) ≠ 110; decide) | (show (101 : Int) ≠ 110; decide) | (show (0 : Int) ≠ 110; decide) | exact parse7_110 _)
theorem parseTM_110 (t : Str) : (parseTM t).2 ≠ 110 := by
  unfold parseTM
  split
  · exact packetM_110 _
  · exact wrapParseE_110 t
/-- a mac that is not right -/
theorem openM_110 (M : List (List Str)) {to_ : Nat} (bs : Str) (h : to_ < M.length) : (openM M to_ bs).2 = 110 ↔ (bs.length < 32 ∨ someR M to_ (cutT bs) (cutD bs) M.length = false) := by
  unfold openM
  rw [if_neg (by omega)]
  by_cases h1 : bs.length < 32
  · rw [if_pos h1]; simp [h1]
  · rw [if_neg h1]
    by_cases h2 : someR M to_ (cutT bs) (cutD bs) M.length = false
    · rw [if_pos h2]; simp [h2]
    · rw [if_neg h2]
      constructor
      · intro h3
        split at h3
        · exact absurd h3 (parseTM_110 _)
        · split at h3
          · cases h3
          · cases h3
      · rintro (h3 | h3)
        · exact absurd h3 h1
        · exact absurd h3 h2
theorem openM_err {M : List (List Str)} {to_ : Nat} {bs : Str} (h : (openM M to_ bs).2 ≠ 0) : (openM M to_ bs).1 = pd0 := by
  unfold openM at *
  repeat' split
  all_goals (first | rfl | skip)
  simp_all
end Go.Proofs.YtgfijlamhjjecaaGreatDoor

