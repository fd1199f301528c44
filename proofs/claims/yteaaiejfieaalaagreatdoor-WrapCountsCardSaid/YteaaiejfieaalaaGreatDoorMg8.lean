/-
  Texts WrapL, WrapC, WrapQ, WrapV, WrapW, WrapX0, one behind the other. No condition beyond those stated in each.
-/
import Derived.Test.YteaaiejfieaalaaGreatDoorMg7
import Derived.Test.YteaaiejfieaalaaGreatDoorEdiShelf
import Derived.Test.YteaaiejfieaalaaGreatDoorMg6
import Derived.Lib.AppendIntMem
import Derived.Lib.LaidTab
import Derived.Lib.AtoiErrMem
import Derived.LoopN
import Derived.Laws.EntriesVeiled
/-
  WrapL: interchanges, read and told: plain words and laws. No condition.
-/
namespace Go.Proofs.YteaaiejfieaalaaGreatDoor
def oneN : List Str → Option Nat
  | [s] => numW s
  | _ => none
structure WD where
  fr : Nat
  dst : Nat
  rf : Nat
  segs : List Seg
def wd0 : WD := ⟨0, 0, 0, []⟩
def unb : Str := [85, 78, 66]
def unz : Str := [85, 78, 90]
def numsL : List (List Str) → Option (List Nat)
  | [] => some []
  | e :: es => match oneN e, numsL es with
    | some v, some l => some (v :: l)
    | _, _ => none
def numsW (s : Seg) (t : Str) (n : Nat) : Option (List Nat) := if s.tag = t ∧ s.elems.length = n then numsL s.elems else none
/-- what comes of head and tail -/
def wrapHT (h z : Seg) (m : List Seg) : WD × Int :=
  match numsW h unb 3, numsW z unz 2 with
  | some [a, b, c], some [d, f] => if 8 ≤ a ∨ 8 ≤ b then (wd0, 40) else if d ≠ m.length then (wd0, 41) else if c ≠ f then (wd0, 42) else (⟨a, b, c, m⟩, 0)
  | _, _ => (wd0, 40)
def wrapOf (l : List Seg) : WD × Int :=
  match l with
  | [] => (wd0, 40)
  | h :: r => match r.getLast? with
    | none => (wd0, 40)
    | some z => wrapHT h z r.dropLast
def wrapParseE (t : Str) : WD × Int := if (parseE t).2.2 = 0 then wrapOf (parseE t).1 else (wd0, (parseE t).2.2)
def numSeg (t : Str) (l : List Nat) : Seg := ⟨t, l.map fun v => [decT v]⟩
def wrapL (a b c d f : Nat) (m : List Seg) : List Seg := numSeg unb [a, b, c] :: m ++ [numSeg unz [d, f]]
def wrapPrintE (x : WD) : Str × Int :=
  if 8 ≤ x.fr ∨ 8 ≤ x.dst then ([], 1) else if 62 < x.segs.length then ([], 2) else printE (wrapL x.fr x.dst x.rf x.segs.length x.rf x.segs)
theorem wrapOf_snoc (h z : Seg) (m : List Seg) : wrapOf (h :: (m ++ [z])) = wrapHT h z m := by
  unfold wrapOf
  simp
theorem numsL_len : ∀ {es : List (List Str)} {l : List Nat}, numsL es = some l → l.length = es.length
  | [], l, h => by simp [numsL] at h; subst h; rfl
  | e :: es, l, h => by
    simp only [numsL] at h
    split at h
    · rename_i v l' h1 h2
      cases h
      simp [numsL_len h2]
    · cases h
theorem numsL_dec : ∀ (l : List Nat), (∀ v ∈ l, v < 18446744073709551616) → numsL (l.map fun v => [decT v]) = some l
  | [], _ => rfl
  | v :: l, h => by
    simp only [List.map_cons, numsL]
    rw [numsL_dec l (fun u hu => h u (by simp [hu]))]
    simp only [oneN]
    rw [num_dec (h v (by simp))]
theorem oneN_inj {e : List Str} {v : Nat} (h : oneN e = some v) : e = [decT v] ∧ v < 18446744073709551616 := by
  unfold oneN at h
  split at h
  · rename_i s
    rw [num_inj h]
    exact ⟨rfl, num_lt h⟩
  · cases h
theorem numsL_inj : ∀ {es : List (List Str)} {l : List Nat}, numsL es = some l → es = l.map (fun v => [decT v]) ∧ ∀ v ∈ l, v < 18446744073709551616
  | [], l, h => by simp [numsL] at h; subst h; simp
  | e :: es, l, h => by
    simp only [numsL] at h
    split at h
    · rename_i v l' h1 h2
      cases h
      obtain ⟨e1, b1⟩ := oneN_inj h1
      obtain ⟨e2, b2⟩ := numsL_inj h2
      refine ⟨by rw [e1, e2]; rfl, fun u hu => ?_⟩
      rcases List.mem_cons.1 hu with rfl | hu
      · exact b1
      · exact b2 u hu
    · cases h
theorem numsW_seg {t : Str} {l : List Nat} (h : ∀ v ∈ l, v < 18446744073709551616) : numsW (numSeg t l) t l.length = some l := by
  unfold numsW numSeg
  simp only
  rw [if_pos ⟨trivial, by simp⟩]
  exact numsL_dec l h
theorem numsW_inj {s : Seg} {t : Str} {n : Nat} {l : List Nat} (h : numsW s t n = some l) : s = numSeg t l ∧ l.length = n ∧ ∀ v ∈ l, v < 18446744073709551616 := by
  unfold numsW at h
  split at h
  · rename_i hc
    obtain ⟨e1, e2⟩ := numsL_inj h
    refine ⟨?_, by rw [numsL_len h]; exact hc.2, e2⟩
    cases s
    simp only at hc e1
    rw [hc.1, e1]; rfl
  · cases h
theorem wrapOf_L {a b c d f : Nat} {m : List Seg} (ha : a < 18446744073709551616) (hb : b < 18446744073709551616) (hc : c < 18446744073709551616) (hd : d < 18446744073709551616) (hf : f < 18446744073709551616) :
    wrapOf (wrapL a b c d f m) = if 8 ≤ a ∨ 8 ≤ b then (wd0, 40) else if d ≠ m.length then (wd0, 41) else if c ≠ f then (wd0, 42) else (⟨a, b, c, m⟩, 0) := by
  unfold wrapL
  rw [List.cons_append, wrapOf_snoc]
  unfold wrapHT
  have e1 : numsW (numSeg unb [a, b, c]) unb 3 = some [a, b, c] := numsW_seg (l := [a, b, c]) (by simp [ha, hb, hc])
  have e2 : numsW (numSeg unz [d, f]) unz 2 = some [d, f] := numsW_seg (l := [d, f]) (by simp [hd, hf])
  rw [e1, e2]
theorem wrapOf_ok {l : List Seg} {x : WD} (h : wrapOf l = (x, 0)) : l = wrapL x.fr x.dst x.rf x.segs.length x.rf x.segs ∧ x.fr < 8 ∧ x.dst < 8 ∧ x.rf < 18446744073709551616 := by
  unfold wrapOf at h
  split at h
  · cases h
  · rename_i hd r
    split at h
    · cases h
    · rename_i z hz
      have hr : r = r.dropLast ++ [z] := by
        have hne : r ≠ [] := by rintro rfl; cases hz
        have h1 := List.dropLast_concat_getLast hne
        rw [List.getLast?_eq_some_getLast hne] at hz
        cases hz
        exact h1.symm
      unfold wrapHT at h
      split at h
      · rename_i a b c d f h1 h2
        obtain ⟨e1, _, b1⟩ := numsW_inj h1
        obtain ⟨e2, _, b2⟩ := numsW_inj h2
        split at h
        · cases h
        · rename_i hab
          split at h
          · cases h
          · rename_i hdm
            split at h
            · cases h
            · rename_i hcf
              cases h
              have hdm' : d = r.dropLast.length := Classical.byContradiction fun e => hdm e
              have hcf' : c = f := Classical.byContradiction fun e => hcf e
              subst hcf'
              refine ⟨?_, by simp only; omega, by simp only; omega, b1 c (by simp)⟩
              unfold wrapL
              simp only
              rw [List.cons_append, ← hdm', ← e1, ← e2, ← hr]
      · cases h
theorem digB_okB {c : UInt8} (h : digB c = true) : okB c ∧ signB c = false := by
  unfold digB at h
  simp at h
  refine ⟨⟨by omega, by omega⟩, ?_⟩
  unfold signB
  have e : ∀ x : UInt8, (c == x) = decide (c.toNat = x.toNat) := fun x => by rw [Bool.eq_iff_iff, beq_iff_eq, decide_eq_true_eq]; exact UInt8.toNat_inj.symm
  rw [e, e, e, e]
  simp
  refine ⟨⟨⟨?_, ?_⟩, ?_⟩, ?_⟩ <;> omega
theorem dec_len : ∀ (n v : Nat), v < 10 ^ (n + 1) → (decT v).length ≤ n + 1
  | 0, v, h => by rw [dec_small (by omega)]; simp
  | n + 1, v, h => by
    by_cases hv : v < 10
    · rw [dec_small hv]; simp
    · rw [dec_step hv]
      have := dec_len n (v / 10) (by rw [Nat.pow_succ] at h; omega)
      simp; omega
theorem dec_len20 {v : Nat} (h : v < 18446744073709551616) : (decT v).length ≤ 20 := dec_len 19 v (by omega)
theorem okP_dec {v : Nat} (h : v < 18446744073709551616) : okP (decT v) := ⟨by have := dec_len20 h; omega, fun c hc => (digB_okB (dec_digs v c hc)).1⟩
theorem compT_dec (v : Nat) : compT (decT v) = decT v := by
  have h := dec_digs v
  generalize decT v = l at h
  induction l with
  | nil => rfl
  | cons c l ih =>
    have h1 : compT (c :: l) = escB c ++ compT l := by simp [compT]
    rw [h1, ih (fun x hx => h x (by simp [hx]))]
    unfold escB
    rw [(digB_okB (h c (by simp))).2]
    rfl
theorem okS_num {t : Str} {l : List Nat} (ht : okT t) (hn : l.length ≤ 16) (h : ∀ v ∈ l, v < 18446744073709551616) : okS (numSeg t l) := by
  refine ⟨ht, by simpa [numSeg] using hn, fun e he => ?_⟩
  simp only [numSeg, List.mem_map] at he
  obtain ⟨v, hv, rfl⟩ := he
  exact ⟨by simp, by simp, fun p hp => by simp at hp; subst hp; exact okP_dec (h v hv)⟩
theorem okT_unb : okT unb := ⟨rfl, by decide⟩
theorem okT_unz : okT unz := ⟨rfl, by decide⟩
theorem okL_wrap {a b c d f : Nat} {m : List Seg} (ha : a < 18446744073709551616) (hb : b < 18446744073709551616) (hc : c < 18446744073709551616) (hd : d < 18446744073709551616) (hf : f < 18446744073709551616) (hm : okL m) (hn : m.length ≤ 62) : okL (wrapL a b c d f m) := by
  refine ⟨by simp [wrapL]; omega, fun s hs => ?_⟩
  simp only [wrapL, List.cons_append, List.mem_cons, List.mem_append, List.not_mem_nil, or_false] at hs
  rcases hs with rfl | hs | rfl
  · exact okS_num okT_unb (by simp) (by simp [ha, hb, hc])
  · exact hm.2 s hs
  · exact okS_num okT_unz (by simp) (by simp [hd, hf])
theorem okL_mid {h z : Seg} {m : List Seg} (ho : okL (h :: m ++ [z])) : okL m ∧ m.length ≤ 62 ∧ okS h ∧ okS z := by
  obtain ⟨h1, h2⟩ := ho
  simp at h1
  exact ⟨⟨by omega, fun s hs => h2 s (by simp [hs])⟩, by omega, h2 h (by simp), h2 z (by simp)⟩
/-! ### telling -/
theorem elemT_dec (v : Nat) : elemT [decT v] = decT v := by
  show joinB 58 ([decT v].map compT) = _
  simp only [List.map_cons, List.map_nil, joinB]
  exact compT_dec v
theorem segT_num (t : Str) (l : List Nat) : segT (numSeg t l) = t ++ l.flatMap (fun v => 43 :: decT v) ++ [39] := by
  unfold segT numSeg
  simp only [List.flatMap_map]
  congr 2
  congr 1
  funext v
  rw [elemT_dec]
theorem printT_cons (s : Seg) (l : List Seg) : printT (s :: l) = segT s ++ printT l := by simp [printT]
theorem printT_app (l m : List Seg) : printT (l ++ m) = printT l ++ printT m := by simp [printT]
theorem printT_wrap (a b c d f : Nat) (m : List Seg) : printT (wrapL a b c d f m) = segT (numSeg unb [a, b, c]) ++ printT m ++ segT (numSeg unz [d, f]) := by
  unfold wrapL
  rw [printT_app, printT_cons, printT_cons]
  simp [printT]
/-- there and back -/
theorem wrap_back {x : WD} {s : Str} (hr : x.rf < 18446744073709551616) (h : wrapPrintE x = (s, 0)) : wrapParseE s = (x, 0) ∧ parseE s = (wrapL x.fr x.dst x.rf x.segs.length x.rf x.segs, 0, 0) ∧ x.fr < 8 ∧ x.dst < 8 ∧ x.segs.length ≤ 62 ∧ s.length ≤ 65536 := by
  unfold wrapPrintE at h
  split at h
  · cases h
  · rename_i h1
    split at h
    · cases h
    · rename_i h2
      obtain ⟨ho, hp, hl⟩ := okL_of h
      have hb := parse_print ho (by rw [← hp]; exact hl)
      rw [← hp] at hb
      refine ⟨?_, hb, by omega, by omega, by omega, hl⟩
      unfold wrapParseE
      rw [hb, if_pos rfl, wrapOf_L (by omega) (by omega) hr (by omega) hr, if_neg h1, if_neg (by simp), if_neg (by simp)]
theorem wrap_there {x : WD} {t : Str} (hl : t.length ≤ 65536) (h : wrapParseE t = (x, 0)) : wrapPrintE x = (no10 t, 0) := by
  unfold wrapParseE at h
  split at h
  · rename_i h0
    obtain ⟨l, i, k, hp⟩ : ∃ l i k, parseE t = (l, i, k) := ⟨_, _, _, rfl⟩
    rw [hp] at h h0
    simp only at h h0
    subst h0
    obtain ⟨e1, h1, h2, h3⟩ := wrapOf_ok h
    obtain ⟨hpr, hok⟩ := print_parse hp hl
    rw [e1] at hpr hok
    obtain ⟨hm, hn, _⟩ := okL_mid hok
    unfold wrapPrintE
    rw [if_neg (by omega), if_neg (by omega)]
    exact hpr
  · rename_i h0
    simp only [Prod.mk.injEq] at h
    exact absurd h.2 h0
theorem wrap_err {t : Str} {x : WD} {e : Int} (h : wrapParseE t = (x, e)) (he : e ≠ 0) : x = wd0 := by
  unfold wrapParseE at h
  split at h
  · unfold wrapOf at h
    split at h
    · cases h; rfl
    · split at h
      · cases h; rfl
      · unfold wrapHT at h
        split at h
        · split at h
          · cases h; rfl
          · split at h
            · cases h; rfl
            · split at h
              · cases h; rfl
              · cases h; exact absurd rfl he
        · cases h; rfl
  · cases h; rfl
theorem printE_no {l : List Seg} {t : Str} {n : Int} (h : printE l = (t, n)) (hn : n ≠ 0) : t = [] := by
  unfold printE at h
  split at h
  · cases h; rfl
  · split at h
    · cases h; rfl
    · split at h
      · cases h; rfl
      · cases h; exact absurd rfl hn
theorem wprint_err {x : WD} {s : Str} {e : Int} (h : wrapPrintE x = (s, e)) (he : e ≠ 0) : s = [] := by
  unfold wrapPrintE at h
  split at h
  · cases h; rfl
  · split at h
    · cases h; rfl
    · exact printE_no h he
/-! ### the reference's way of telling -/
theorem any_wrap (f : Seg → Bool) (a b c d g : Nat) (m : List Seg) (h1 : f (numSeg unb [a, b, c]) = false) (h2 : f (numSeg unz [d, g]) = false) : (wrapL a b c d g m).any f = m.any f := by
  unfold wrapL
  rw [List.any_append, List.any_cons, h1, List.any_cons, h2]
  simp
theorem okS_flags {s : Seg} (h : okS s) : (tagBad s.tag || s.elems.any fun e => e.isEmpty) = false ∧ (s.elems.any fun e => e.any fun p => p.any badB) = false ∧ (decide (16 < s.elems.length) || s.elems.any fun e => decide (8 < e.length) || e.any fun p => decide (256 < p.length)) = false := by
  refine ⟨?_, ?_, ?_⟩
  · rw [Bool.or_eq_false_iff]
    refine ⟨?_, ?_⟩
    · unfold tagBad
      rw [Bool.or_eq_false_iff]
      refine ⟨by simp [h.1.1], ?_⟩
      simp only [Bool.not_eq_false', List.all_eq_true]
      exact h.1.2
    · rw [List.any_eq_false]; intro e he; have := h.2.2 e he
      cases e with
      | nil => exact absurd rfl this.1
      | cons a b => simp
  · rw [List.any_eq_false]; intro e he
    rw [Bool.not_eq_true, List.any_eq_false]; intro p hp
    rw [Bool.not_eq_true, List.any_eq_false]; intro c hc
    rw [Bool.not_eq_true]
    exact (badB_iff c).2 (((h.2.2 e he).2.2 p hp).2 c hc)
  · rw [Bool.or_eq_false_iff]; refine ⟨by have := h.2.1; simp; omega, ?_⟩
    rw [List.any_eq_false]; intro e he
    rw [Bool.not_eq_true, Bool.or_eq_false_iff]; refine ⟨by have := (h.2.2 e he).2.1; simp; omega, ?_⟩
    rw [List.any_eq_false]; intro p hp
    have := ((h.2.2 e he).2.2 p hp).1
    simp; omega
/-- the text of an interchange round a text of segments -/
def roundT (a b c d f : Nat) (s : Str) : Str := unb ++ 43 :: decT a ++ 43 :: decT b ++ 43 :: decT c ++ 39 :: s ++ unz ++ 43 :: decT d ++ 43 :: decT f ++ [39]
theorem roundT_eq (a b c d f : Nat) (m : List Seg) : printT (wrapL a b c d f m) = roundT a b c d f (printT m) := by
  rw [printT_wrap, segT_num, segT_num]
  unfold roundT
  simp
theorem wrapPrintE_ref (x : WD) (hr : x.rf < 18446744073709551616) (h1 : ¬ (8 ≤ x.fr ∨ 8 ≤ x.dst)) (h2 : ¬ 62 < x.segs.length) :
    wrapPrintE x = if (printE x.segs).2 ≠ 0 then ([], (printE x.segs).2) else
      if 65536 < (roundT x.fr x.dst x.rf x.segs.length x.rf (printE x.segs).1).length then ([], 2) else (roundT x.fr x.dst x.rf x.segs.length x.rf (printE x.segs).1, 0) := by
  unfold wrapPrintE
  rw [if_neg h1, if_neg h2]
  have o1 : okS (numSeg unb [x.fr, x.dst, x.rf]) := okS_num okT_unb (by simp) (by simp [hr]; omega)
  have o2 : okS (numSeg unz [x.segs.length, x.rf]) := okS_num okT_unz (by simp) (by simp [hr]; omega)
  obtain ⟨a1, s1, l1⟩ := okS_flags o1
  obtain ⟨a2, s2, l2⟩ := okS_flags o2
  have eA : argP (wrapL x.fr x.dst x.rf x.segs.length x.rf x.segs) = argP x.segs := any_wrap _ _ _ _ _ _ _ a1 a2
  have eS : signP (wrapL x.fr x.dst x.rf x.segs.length x.rf x.segs) = signP x.segs := any_wrap _ _ _ _ _ _ _ s1 s2
  have eL : longP (wrapL x.fr x.dst x.rf x.segs.length x.rf x.segs) = longP x.segs := by
    unfold longP
    rw [any_wrap _ _ _ _ _ _ _ l1 l2]
    have e1 : decide (64 < (wrapL x.fr x.dst x.rf x.segs.length x.rf x.segs).length) = false := by simp [wrapL]; omega
    have e2 : decide (64 < x.segs.length) = false := by simp; omega
    rw [e1, e2]
  unfold printE
  rw [eA, eS, eL, roundT_eq]
  by_cases ha : argP x.segs = true
  · simp [ha]
  · rw [Bool.not_eq_true] at ha
    by_cases hs : signP x.segs = true
    · simp [ha, hs]
    · rw [Bool.not_eq_true] at hs
      by_cases hl : longP x.segs = true
      · simp [ha, hs, hl]
      · rw [Bool.not_eq_true] at hl
        rw [ha, hs, hl]
        simp only [Bool.false_or, Bool.false_eq_true, if_false, decide_eq_true_eq]
        by_cases hp : 65536 < (printT x.segs).length
        · rw [if_pos hp]
          have : 65536 < (roundT x.fr x.dst x.rf x.segs.length x.rf (printT x.segs)).length := by
            unfold roundT; simp only [List.length_append, List.length_cons]; omega
          rw [if_pos this]
          simp
        · rw [if_neg hp]
          simp
end Go.Proofs.YteaaiejfieaalaaGreatDoor

/-
  WrapC: interchanges with a segment more or less, with other numbers: plain laws. No condition.
-/
namespace Go.Proofs.YteaaiejfieaalaaGreatDoor
theorem wparse_print {l : List Seg} {a : Str} (h : printE l = (a, 0)) : wrapParseE a = wrapOf l ∧ a.length ≤ 65536 := by
  obtain ⟨ho, hp, hl⟩ := okL_of h
  have hb := parse_print ho (by rw [← hp]; exact hl)
  rw [← hp] at hb
  refine ⟨?_, hl⟩
  unfold wrapParseE
  rw [hb, if_pos rfl]
theorem wrapOf_head {h : Seg} {r : List Seg} (ht : h.tag ≠ unb) : wrapOf (h :: r) = (wd0, 40) := by
  unfold wrapOf
  simp only
  split
  · rfl
  · unfold wrapHT numsW
    rw [if_neg (fun hc => ht hc.1)]
theorem wrapOf_tail {l : List Seg} {z : Seg} (hz : l.getLast? = some z) (ht : z.tag ≠ unz) : wrapOf l = (wd0, 40) := by
  unfold wrapOf
  split
  · rfl
  · rename_i h r
    split
    · rfl
    · rename_i z' hz'
      have : z' = z := by
        cases r with
        | nil => cases hz'
        | cons a r =>
          rw [List.getLast?_cons_cons] at hz
          rw [hz] at hz'; cases hz'; rfl
      subst this
      unfold wrapHT
      have : numsW z' unz 2 = none := by unfold numsW; rw [if_neg (fun hc => ht hc.1)]
      rw [this]
      split
      · rename_i h2; cases h2
      · rfl
theorem wrapOf_one (h : Seg) : wrapOf [h] = (wd0, 40) := rfl
/-! ### a segment more, a segment less -/
theorem take_more {α : Type} (h w z : α) (m : List α) {k : Nat} (hk : k ≤ m.length) : (h :: m ++ [z]).take (1 + k) ++ [w] ++ (h :: m ++ [z]).drop (1 + k) = h :: (m.take k ++ w :: m.drop k) ++ [z] := by
  rw [Nat.add_comm 1 k]
  simp only [List.cons_append, List.take_succ_cons, List.drop_succ_cons]
  rw [List.take_append_of_le_length hk, List.drop_append_of_le_length hk]
  simp
theorem take_less {α : Type} (h z : α) (m : List α) {k : Nat} (hk : k < m.length) : (h :: m ++ [z]).take (1 + k) ++ (h :: m ++ [z]).drop (2 + k) = h :: (m.take k ++ m.drop (k + 1)) ++ [z] := by
  rw [Nat.add_comm 1 k, show 2 + k = (k + 1) + 1 by omega]
  simp only [List.cons_append, List.take_succ_cons, List.drop_succ_cons]
  rw [List.take_append_of_le_length (by omega), List.drop_append_of_le_length (by omega)]
  simp
theorem wrapL_eq (a b c d f : Nat) (m : List Seg) : wrapL a b c d f m = numSeg unb [a, b, c] :: m ++ [numSeg unz [d, f]] := rfl
structure WOk (x : WD) (s : Str) (l : List Seg) : Prop where
  r : x.rf < 18446744073709551616
  fr : x.fr < 8
  dst : x.dst < 8
  n : x.segs.length ≤ 62
  e : l = wrapL x.fr x.dst x.rf x.segs.length x.rf x.segs
  o : okL l
  p : printE l = (s, 0)
  t : s = printT l
  len : s.length ≤ 65536
theorem wok {x : WD} {s : Str} (hr : x.rf < 18446744073709551616) (h : wrapPrintE x = (s, 0)) : WOk x s (wrapL x.fr x.dst x.rf x.segs.length x.rf x.segs) := by
  obtain ⟨_, _, a, b, c, d⟩ := wrap_back hr h
  have h' := h
  unfold wrapPrintE at h'
  rw [if_neg (by omega), if_neg (by omega)] at h'
  obtain ⟨ho, hp, hl⟩ := okL_of h'
  exact ⟨hr, a, b, c, rfl, ho, h', hp, hl⟩
theorem WOk.l {x : WD} {s : Str} {l : List Seg} (h : WOk x s l) : l.length = x.segs.length + 2 := by rw [h.e]; simp [wrapL]
theorem w_more {x : WD} {s a : Str} {l : List Seg} (h : WOk x s l) {k : Nat} (hk : k ≤ x.segs.length) {w : Seg} (hp : printE (l.take (1 + k) ++ [w] ++ l.drop (1 + k)) = (a, 0)) : (wrapParseE a).2 = 41 ∧ a.length ≤ 65536 := by
  obtain ⟨e1, e2⟩ := wparse_print hp
  refine ⟨?_, e2⟩
  rw [e1, h.e, wrapL_eq, take_more _ _ _ _ hk, ← wrapL_eq, wrapOf_L (by have := h.fr; omega) (by have := h.dst; omega) h.r (by have := h.n; omega) h.r]
  rw [if_neg (by have := h.fr; have := h.dst; omega), if_pos (by simp; omega)]
theorem printT_drop (l : List Seg) (i j : Nat) (hij : i ≤ j) : (printT (l.take i ++ l.drop j)).length ≤ (printT l).length := by
  have h1 : l = l.take i ++ (l.take j).drop i ++ l.drop j := by
    have h2 : l.take j = l.take i ++ (l.take j).drop i := by
      conv => lhs; rw [← List.take_append_drop i (l.take j)]
      rw [List.take_take, Nat.min_eq_left hij]
    rw [← h2, List.take_append_drop]
  have h3 := congrArg (fun m => (printT m).length) h1
  simp only [printT_app, List.length_append] at h3 ⊢
  omega
theorem okL_sub {l m : List Seg} (h : okL l) (hl : m.length ≤ l.length) (hm : ∀ s ∈ m, s ∈ l) : okL m := ⟨by have := h.1; omega, fun s hs => h.2 s (hm s hs)⟩
theorem w_sub {x : WD} {s : Str} {l : List Seg} (h : WOk x s l) {i j : Nat} (hij : i ≤ j) : printE (l.take i ++ l.drop j) = (printT (l.take i ++ l.drop j), 0) ∧ (printT (l.take i ++ l.drop j)).length ≤ 65536 := by
  have h1 := printT_drop l i j hij
  have h2 := h.len
  rw [h.t] at h2
  refine ⟨printE_ok (okL_sub h.o (by simp; omega) (fun s hs => ?_)) (by omega), by omega⟩
  rcases List.mem_append.1 hs with hs | hs
  · exact List.mem_of_mem_take hs
  · exact List.mem_of_mem_drop hs
theorem w_less {x : WD} {s : Str} {l : List Seg} (h : WOk x s l) {k : Nat} (hk : k < x.segs.length) : ∃ b, printE (l.take (1 + k) ++ l.drop (2 + k)) = (b, 0) ∧ (wrapParseE b).2 = 41 ∧ b.length ≤ 65536 := by
  obtain ⟨h1, h2⟩ := w_sub h (show 1 + k ≤ 2 + k by omega)
  obtain ⟨e1, e2⟩ := wparse_print h1
  refine ⟨_, h1, ?_, h2⟩
  rw [e1, h.e, wrapL_eq, take_less _ _ _ hk, ← wrapL_eq, wrapOf_L (by have := h.fr; omega) (by have := h.dst; omega) h.r (by have := h.n; omega) h.r]
  rw [if_neg (by have := h.fr; have := h.dst; omega), if_pos (by simp; omega)]
theorem w_nohead {x : WD} {s : Str} {l : List Seg} (h : WOk x s l) : ∃ c, printE (l.drop 1) = (c, 0) ∧ c.length ≤ 65536 ∧ ∀ z, l[1]? = some z → z.tag ≠ unb → (wrapParseE c).2 = 40 := by
  obtain ⟨h1, h2⟩ := w_sub h (show 0 ≤ 1 by omega)
  rw [List.take_zero, List.nil_append] at h1 h2
  obtain ⟨e1, _⟩ := wparse_print h1
  refine ⟨_, h1, h2, fun z hz ht => ?_⟩
  rw [e1]
  have hl := h.l
  have : l.drop 1 = z :: l.drop 2 := by
    obtain ⟨hl, he⟩ := List.getElem?_eq_some_iff.1 hz
    rw [List.drop_eq_getElem_cons hl, he]
  rw [this, wrapOf_head ht]
theorem w_notail {x : WD} {s : Str} {l : List Seg} (h : WOk x s l) : ∃ d, printE (l.take (x.segs.length + 1)) = (d, 0) ∧ d.length ≤ 65536 ∧ (x.segs.length = 0 → (wrapParseE d).2 = 40) ∧ ∀ z, l[x.segs.length]? = some z → z.tag ≠ unz → (wrapParseE d).2 = 40 := by
  have hl := h.l
  obtain ⟨h1, h2⟩ := w_sub h (show x.segs.length + 1 ≤ l.length by omega)
  rw [List.drop_length, List.append_nil] at h1 h2
  obtain ⟨e1, _⟩ := wparse_print h1
  refine ⟨_, h1, h2, fun h0 => ?_, fun z hz ht => ?_⟩
  · rw [e1, h0]
    cases l with
    | nil => simp at hl
    | cons a l => rfl
  · rw [e1, wrapOf_tail (z := z) ?_ ht]
    rw [List.take_add_one, hz]
    simp
theorem w_other {x : WD} {s o : Str} {l : List Seg} {rf : Nat} (h : WOk x s l) (hr : rf < 18446744073709551616) (ho : wrapPrintE { x with rf := rf } = (o, 0)) :
    ∃ n z, parseE o = (n, 0, 0) ∧ o.length ≤ 65536 ∧ n.length = l.length ∧ n[x.segs.length + 1]? = some z ∧ ∃ p, printE (l.take (x.segs.length + 1) ++ [z]) = (p, 0) ∧ p.length ≤ 65536 ∧ ((wrapParseE p).2 = 0 ↔ rf = x.rf) ∧ ((wrapParseE p).2 = 0 ∨ (wrapParseE p).2 = 42) := by
  have h2 := wok (x := { x with rf := rf }) hr ho
  have hb := parse_print h2.o (by rw [← h2.t]; exact h2.len)
  rw [← h2.t] at hb
  have hn := h.n
  have hfr := h.fr
  have hds := h.dst
  have hrr := h.r
  have et : l.take (x.segs.length + 1) = numSeg unb [x.fr, x.dst, x.rf] :: x.segs := by
    rw [h.e, wrapL_eq, List.cons_append, List.take_succ_cons, List.take_left]
  have e3 : l.take (x.segs.length + 1) ++ [numSeg unz [x.segs.length, rf]] = wrapL x.fr x.dst x.rf x.segs.length rf x.segs := by rw [et]; rfl
  have hle : (printT (wrapL x.fr x.dst x.rf x.segs.length rf x.segs)).length ≤ 65536 := by
    have a1 := h.len
    have a2 := h2.len
    rw [h.t, h.e, roundT_eq] at a1
    rw [h2.t, roundT_eq] at a2
    rw [roundT_eq]
    unfold roundT at a1 a2 ⊢
    simp only [List.length_append, List.length_cons] at a1 a2 ⊢
    omega
  have hok : okL (wrapL x.fr x.dst x.rf x.segs.length rf x.segs) := okL_wrap (by omega) (by omega) hrr (by omega) hr (by
    have h5 := h.o
    rw [h.e, wrapL_eq] at h5
    exact (okL_mid h5).1) hn
  have hpp := printE_ok hok hle
  obtain ⟨e1, _⟩ := wparse_print hpp
  refine ⟨_, numSeg unz [x.segs.length, rf], hb, h2.len, by rw [h.l]; simp [wrapL], ?_, _, by rw [e3]; exact hpp, hle, ?_⟩
  · show (numSeg unb [x.fr, x.dst, rf] :: x.segs ++ [numSeg unz [x.segs.length, rf]])[x.segs.length + 1]? = _
    rw [List.cons_append, List.getElem?_cons_succ, List.getElem?_append_right (Nat.le_refl _), Nat.sub_self]; rfl
  · rw [e1, wrapOf_L (by omega) (by omega) hrr (by omega) hr, if_neg (by omega), if_neg (by simp)]
    by_cases hc : x.rf = rf
    · rw [if_neg (by simpa using hc)]
      exact ⟨⟨fun _ => hc.symm, fun _ => rfl⟩, .inl rfl⟩
    · rw [if_pos hc]
      exact ⟨⟨fun e => absurd (show (42 : Int) = 0 from e) (by decide), fun e => absurd e.symm hc⟩, .inr rfl⟩
/-- any numbers in head and tail -/
theorem w_heads {a b c d f : Nat} {m : List Seg} {s : Str} (ha : a < 18446744073709551616) (hb : b < 18446744073709551616) (hc : c < 18446744073709551616) (hd : d < 18446744073709551616) (hf : f < 18446744073709551616) (hm : m.length ≤ 60) (h : printE m = (s, 0)) (hl : s.length ≤ 60000) :
    (roundT a b c d f s).length ≤ 65536 ∧ wrapParseE (roundT a b c d f s) = if 8 ≤ a ∨ 8 ≤ b then (wd0, 40) else if d ≠ m.length then (wd0, 41) else if c ≠ f then (wd0, 42) else (⟨a, b, c, m⟩, 0) := by
  obtain ⟨ho, hp, _⟩ := okL_of h
  have e := roundT_eq a b c d f m
  rw [← hp] at e
  have hle : (roundT a b c d f s).length ≤ 65536 := by
    have h1 := dec_len20 ha
    have h2 := dec_len20 hb
    have h3 := dec_len20 hc
    have h4 := dec_len20 hd
    have h5 := dec_len20 hf
    unfold roundT unb unz
    simp only [List.length_append, List.length_cons, List.length_nil]
    omega
  have hok := okL_wrap ha hb hc hd hf ho (by omega)
  have hpp := printE_ok hok (by rw [e]; exact hle)
  rw [e] at hpp
  exact ⟨hle, by rw [(wparse_print hpp).1, wrapOf_L ha hb hc hd hf]⟩
end Go.Proofs.YteaaiejfieaalaaGreatDoor

/-
  WrapQ: numbers as the program and the reference read them: plain laws. No condition.
-/
namespace Go.Proofs.YteaaiejfieaalaaGreatDoor
def numEnd : Lib.NumEnd Nat → Option Nat
  | .ok u => some u
  | _ => none
theorem parseM_val : ∀ (l : Str) (acc : Nat), acc < 18446744073709551616 → numEnd (Lib.parseUintM 18446744073709551615 acc l) = valW acc l
  | [], acc, _ => rfl
  | c :: r, acc, h => by
    have hD : digB c = true ↔ (48 ≤ c.toNat ∧ c.toNat ≤ 57) := by unfold digB; simp
    rw [Lib.parseUintM, valW]
    by_cases hd : 48 ≤ c.toNat ∧ c.toNat ≤ 57
    · rw [if_pos hd, if_pos (hD.2 hd)]
      by_cases h1 : 1844674407370955162 ≤ acc
      · rw [if_pos h1, if_neg (by omega)]; rfl
      · rw [if_neg h1]
        by_cases h2 : 18446744073709551615 < acc * 10 + (c.toNat - 48)
        · rw [if_pos h2, if_neg (by omega)]; rfl
        · rw [if_neg h2, if_pos (by omega)]
          exact parseM_val r _ (by omega)
    · rw [if_neg hd, if_neg (fun h => hd (hD.1 h))]; rfl
theorem num_pu {s : Str} (h0 : s ≠ []) (h1 : ¬ (s.head? = some 48 ∧ 1 < s.length)) : numEnd (Lib.parseUintB 64 s) = numW s := by
  cases s with
  | nil => exact absurd rfl h0
  | cons c r =>
    unfold Lib.parseUintB numW
    rw [if_neg (by simp)]
    have hn : ¬ (c = 48 ∧ r ≠ []) := fun ⟨a, b⟩ => h1 ⟨by simp [a], by
      have := List.length_pos_iff.2 b
      simp; omega⟩
    simp only
    rw [if_neg hn]
    exact parseM_val _ 0 (by omega)
theorem num_zero {s : Str} (h1 : s.head? = some 48 ∧ 1 < s.length) : numW s = none := by
  cases s with
  | nil => rfl
  | cons c r =>
    obtain ⟨h, hl⟩ := h1
    simp only [List.head?_cons, Option.some.injEq] at h
    unfold numW
    simp only
    rw [if_pos ⟨h, by rintro rfl; simp at hl⟩]
theorem num_plus {s : Str} (h1 : s.head? = some 43) : numW s = none := by
  cases s with
  | nil => rfl
  | cons c r =>
    simp only [List.head?_cons, Option.some.injEq] at h1
    subst h1
    unfold numW
    simp only
    rw [if_neg (fun h => absurd h.1 (by decide))]
    rfl
/-- the reference: no longer than 20 -/
theorem num_long {s : Str} (h : 20 < s.length) : numW s = none := by
  cases hn : numW s with
  | none => rfl
  | some v =>
    have e := num_inj hn
    have := dec_len20 (num_lt hn)
    rw [← e] at this
    omega
theorem val_step {s : Str} {i v : Nat} {c : UInt8} (h : valW 0 (s.take i) = some v) (hc : s[i]? = some c) : valW 0 (s.take (i + 1)) = valW v [c] := by
  rw [List.take_add_one, hc]
  show valW 0 (s.take i ++ [c]) = _
  rw [valW_append, h]; rfl
theorem val_stop {s : Str} {i v : Nat} {c : UInt8} (h : valW 0 (s.take i) = some v) (hc : s[i]? = some c) (hs : valW v [c] = none) : valW 0 s = none := by
  have h1 := val_step h hc
  rw [hs] at h1
  rw [← List.take_append_drop (i + 1) s, valW_append, h1]; rfl
theorem val_num {s : Str} (h0 : s ≠ []) (h1 : ¬ (s.head? = some 48 ∧ 1 < s.length)) : numW s = valW 0 s := by
  cases s with
  | nil => exact absurd rfl h0
  | cons c r =>
    unfold numW
    simp only
    rw [if_neg]
    exact fun ⟨a, b⟩ => h1 ⟨by simp [a], by
      have := List.length_pos_iff.2 b
      simp; omega⟩
end Go.Proofs.YteaaiejfieaalaaGreatDoor

/-
  WrapV: the package-level variables that numbers are read and told by; contract of ParseUint at base 10. No condition beyond those stated.
-/
namespace Go.Proofs.YteaaiejfieaalaaGreatDoor
open Go.RowKit
/-- the variables read as their initialisers lay them -/
structure VarsOk (w : World) : Prop where
  tab : Lib.TabIs Tryz.prog w "internal/strconv.uint64pow10" .u64 Lib.pow10Tab
  syn : ∃ te pe, w.cell? ⟨0, 0, none⟩ = some (.iface te pe)
  rng : ∃ te pe, w.cell? ⟨1, 0, none⟩ = some (.iface te pe)
theorem VarsOk.on {w w' : World} {B : Nat} (h : VarsOk w) (hb : Below B w w') (hB : w.heap.size ≤ B) : VarsOk w' := by
  obtain ⟨h1, ⟨a, b, h2⟩, ⟨c, d, h3⟩⟩ := h
  exact ⟨Lib.tabBelow_of_tabIs h1 w' (hb.mono hB), ⟨a, b, (hb.cell (Nat.lt_of_lt_of_le (cell_lt' h2) hB)).trans h2⟩, ⟨c, d, (hb.cell (Nat.lt_of_lt_of_le (cell_lt' h3) hB)).trans h3⟩⟩
def PuQ (s : Str) (u : Nat) (ev : Value) : Prop := (numEnd (Lib.parseUintB 64 s) = some u ∧ ev = .nilIface) ∨ (numEnd (Lib.parseUintB 64 s) = none ∧ ∃ te pe, ev = .iface te pe)
theorem pu_any (s : ByteArray) (hl : s.size ≤ 1048576) (w : World) (hv : VarsOk w) : Calls Tryz.prog 43 #[.string s, .int .i64 10, .int .i64 64] w fun e w' => ∃ (u : Nat) (ev : Value), e = .returned (.tuple #[.int .u64 (u : Int), ev]) ∧ PuQ s.data.toList u ev ∧ Below w.heap.size w w' := by
  by_cases h1 : ∃ u, Lib.parseUintB 64 s.data.toList = .ok u
  · obtain ⟨u, h⟩ := h1
    refine (Tryz.strconv_ParseUint_10_at64_ok s (by omega) u h w).mono ?_
    rintro e w' ⟨rfl, hw⟩
    refine ⟨u, _, rfl, .inl ⟨by rw [h]; rfl, rfl⟩, ?_⟩
    rcases hw with rfl | rfl
    · exact Below.refl _ _
    · exact Lib.bytesWorld_below _ _ _
  by_cases h2 : Lib.parseUintB 64 s.data.toList = .range
  · obtain ⟨te, pe, hc⟩ := hv.rng
    refine (Tryz.strconv_ParseUint_10_at64_range s (by omega) h2 _ w hc (.inr ⟨te, pe, rfl⟩)).mono ?_
    rintro e w' ⟨N, rfl, _, _, hb⟩
    exact ⟨18446744073709551615, _, rfl, .inr ⟨by rw [h2]; rfl, _, _, rfl⟩, hb⟩
  · have hn : numEnd (Lib.parseUintB 64 s.data.toList) = none := by
      cases hx : Lib.parseUintB 64 s.data.toList <;> first | rfl | exact absurd ⟨_, hx⟩ h1
    obtain ⟨te, pe, hc⟩ := hv.syn
    refine (Tryz.strconv_ParseUint_10_at64_syntax s (by omega) ⟨fun u e => h1 ⟨u, e⟩, h2⟩ _ w hc (.inr ⟨te, pe, rfl⟩)).mono ?_
    rintro e w' ⟨N, rfl, _, _, hb⟩
    exact ⟨0, _, rfl, .inr ⟨hn, _, _, rfl⟩, hb⟩
end Go.Proofs.YteaaiejfieaalaaGreatDoor

/-
  WrapW: contracts of number and is. No condition beyond those stated.
-/
namespace Go.Proofs.YteaaiejfieaalaaGreatDoor
open Go.RowKit
/-- what number makes of an element: a number below a bound (0: none) -/
def NumQ (bound : Nat) (cs : List Str) (r : Int) (b : Bool) : Prop := (b = true ∧ ∃ u : Nat, oneN cs = some u ∧ (bound = 0 ∨ u < bound) ∧ r = (u : Int)) ∨ (b = false ∧ ∀ u, oneN cs = some u → ¬ (bound = 0 ∨ u < bound))
def NumR (k : IntKind) (bound : Nat) (cs : List Str) (w : World) (e : Ending) (w' : World) : Prop := ∃ (r : Int) (b : Bool), e = .returned (.tuple #[.int k r, .bool b]) ∧ NumQ bound cs r b ∧ Below w.heap.size w w'
theorem NumQ.no {bound : Nat} {cs : List Str} {r : Int} (h : oneN cs = none) : NumQ bound cs r false := .inr ⟨rfl, fun u hu => by rw [h] at hu; cases hu⟩
theorem head_at {p : Str} {c : UInt8} {r : Str} (h : p = c :: r) : (⟨p.toArray⟩ : ByteArray).data.toList = c :: r := by rw [h]
set_option maxRecDepth 100000 in
set_option maxHeartbeats 4000000 in
theorem num8_any {S : Nat → Prop} (w : World) (v : Value) (cs : List Str) (h : CompsAt S w v cs) (hl : ∀ p ∈ cs, p.length ≤ 1048576) (hv : VarsOk w) :
    Calls Tryz.prog 21 #[v, .int .u64 8] w fun e w' => NumR .u8 8 cs w e w' := by
  obtain ⟨ao, cap, rfl, h1, h2⟩ := h.form
  unfold maxLen at h2
  match cs, h, hl, h1 with
  | [], h, hl, h1 =>
    simp only [List.length_nil]
    go_enter Tryz.func21, Tryz.ntmps21
    go_wp2_with fail
    go_ret2
    exact ⟨0, false, rfl, .no rfl, Below.refl _ _⟩
  | a :: b :: cs, h, hl, h1 =>
    obtain ⟨n, hn⟩ : ∃ n, (a :: b :: cs).length = n := ⟨_, rfl⟩
    have d0 : ((n : Int) != 1) = true := by rw [bne_iff_ne, ← hn]; simp; omega
    have hO : oneN (a :: b :: cs) = none := rfl
    rw [hn]
    clear hn
    go_enter Tryz.func21, Tryz.ntmps21
    go_wp2_with fail
    go_ret2
    exact ⟨0, false, rfl, .no hO, Below.refl _ _⟩
  | [p], h, hl, h1 =>
    obtain ⟨b, off, rfl, _, hc⟩ := h.get (k := 0) (p := p) rfl
    simp only [List.length_cons, List.length_nil, Nat.zero_add, Nat.add_zero] at h1 hc ⊢
    obtain ⟨s, hs⟩ : ∃ s : ByteArray, (⟨p.toArray⟩ : ByteArray) = s := ⟨_, rfl⟩
    have hsz : s.size = p.length := by rw [← hs]; rfl
    have hsl : s.data.toList = p := by rw [← hs]
    have hpl := hl p (by simp)
    unfold sv at hc
    rw [hs] at hc
    clear hl h hs
    cases p with
    | nil =>
      have e0 : s = ⟨#[]⟩ := by
        cases s with | mk d => cases d with | mk l => simp at hsl; rw [hsl]
      subst e0
      go_enter Tryz.func21, Tryz.ntmps21
      go_wp2_with fail
      go_ret2
      exact ⟨0, false, rfl, .no rfl, Below.refl _ _⟩
    | cons c p =>
      have hs0 : 0 < s.size := by rw [hsz]; simp
      have hA : s[0]'hs0 = c := by
        have h1 := at_byte s 0 hs0
        rw [hsl] at h1
        simpa using h1.symm
      have ne0 : s.toList.isEmpty = false := by
        have h1 := str_ne (s := s) (t := ⟨#[]⟩) (fun h => by rw [h] at hs0; exact absurd hs0 (by decide))
        cases h2 : s.toList with
        | nil => rw [h2] at h1; simp at h1
        | cons a l => rfl
      have i0 : (0 : Int) < (s.size : Int) := by omega
      have HSZ := Lib.hid hsz
      have HSL := Lib.hid hsl
      clear hsz hsl
      by_cases h43 : c = 43
      · subst h43
        go_enter Tryz.func21, Tryz.ntmps21
        go_wp2_with fail
        go_ret2
        exact ⟨0, false, rfl, .no (num_plus (s := 43 :: p) rfl : numW (43 :: p) = none), Below.refl _ _⟩
      · have n43 : ((c.toNat : Int) == 43) = false := nat_eq c 43 h43
        by_cases h48 : 1 < s.size ∧ c = 48
        · obtain ⟨hl1, rfl⟩ := h48
          have i1 : (1 : Int) < (s.size : Int) := by omega
          go_enter Tryz.func21, Tryz.ntmps21
          go_wp2_with fail
          go_ret2
          exact ⟨0, false, rfl, .no (num_zero (s := 48 :: p) ⟨rfl, by rw [← HSZ.out]; exact hl1⟩ : numW (48 :: p) = none), Below.refl _ _⟩
        · have HPU := Lib.hid (pu_any s (by rw [HSZ.out]; exact hpl) w hv)
          have HN := Lib.hid (num_pu (s := c :: p) (by simp) (fun h => h48 ⟨by rw [HSZ.out]; exact h.2, by simpa using h.1⟩))
          rw [HSL.out] at HPU
          by_cases hl1 : 1 < s.size
          · have i1 : (1 : Int) < (s.size : Int) := by omega
            have n48 : ((c.toNat : Int) == 48) = false := nat_eq c 48 (fun h => h48 ⟨hl1, h⟩)
            go_enter Tryz.func21, Tryz.ntmps21
            go_wp2_with (go_at_call 43; refine HPU.out.mono ?_; rintro e w' ⟨u, ev, rfl, hq, hb⟩; have HQ := Lib.hid hq; have HB := Lib.hid hb; clear hq hb)
            have hn : oneN [c :: p] = numEnd (Lib.parseUintB 64 (c :: p)) := HN.out.symm
            have HNN := Lib.hid hn
            clear hn
            rcases HQ.out with ⟨hq, rfl⟩ | ⟨hq, te, pe, rfl⟩
            · have HE := Lib.hid (HNN.out.trans hq)
              clear hq
              by_cases hu : u < 8
              · have u8 : decide ((u : Int) < 8) = true := by rw [decide_eq_true_eq]; omega
                go_simp
                go_wp2_with fail
                go_ret2
                exact ⟨_, true, rfl, .inl ⟨rfl, u, HE.out, .inr hu, by omega⟩, HB.out⟩
              · have u8 : decide ((u : Int) < 8) = false := by rw [decide_eq_false_iff_not]; omega
                go_simp
                go_wp2_with fail
                go_ret2
                exact ⟨_, false, rfl, .inr ⟨rfl, fun x hx => by rw [HE.out] at hx; cases hx; omega⟩, HB.out⟩
            · have HE := Lib.hid (HNN.out.trans hq)
              clear hq
              go_simp
              go_wp2_with fail
              go_ret2
              exact ⟨_, false, rfl, .no HE.out, HB.out⟩
          · have i1 : ¬ (1 : Int) < (s.size : Int) := by omega
            go_enter Tryz.func21, Tryz.ntmps21
            go_wp2_with (go_at_call 43; refine HPU.out.mono ?_; rintro e w' ⟨u, ev, rfl, hq, hb⟩; have HQ := Lib.hid hq; have HB := Lib.hid hb; clear hq hb)
            have hn : oneN [c :: p] = numEnd (Lib.parseUintB 64 (c :: p)) := HN.out.symm
            have HNN := Lib.hid hn
            clear hn
            rcases HQ.out with ⟨hq, rfl⟩ | ⟨hq, te, pe, rfl⟩
            · have HE := Lib.hid (HNN.out.trans hq)
              clear hq
              by_cases hu : u < 8
              · have u8 : decide ((u : Int) < 8) = true := by rw [decide_eq_true_eq]; omega
                go_simp
                go_wp2_with fail
                go_ret2
                exact ⟨_, true, rfl, .inl ⟨rfl, u, HE.out, .inr hu, by omega⟩, HB.out⟩
              · have u8 : decide ((u : Int) < 8) = false := by rw [decide_eq_false_iff_not]; omega
                go_simp
                go_wp2_with fail
                go_ret2
                exact ⟨_, false, rfl, .inr ⟨rfl, fun x hx => by rw [HE.out] at hx; cases hx; omega⟩, HB.out⟩
            · have HE := Lib.hid (HNN.out.trans hq)
              clear hq
              go_simp
              go_wp2_with fail
              go_ret2
              exact ⟨_, false, rfl, .no HE.out, HB.out⟩
set_option maxRecDepth 100000 in
set_option maxHeartbeats 4000000 in
theorem num64_any {S : Nat → Prop} (w : World) (v : Value) (cs : List Str) (h : CompsAt S w v cs) (hl : ∀ p ∈ cs, p.length ≤ 1048576) (hv : VarsOk w) :
    Calls Tryz.prog 22 #[v, .int .u64 0] w fun e w' => NumR .u64 0 cs w e w' := by
  obtain ⟨ao, cap, rfl, h1, h2⟩ := h.form
  unfold maxLen at h2
  match cs, h, hl, h1 with
  | [], h, hl, h1 =>
    simp only [List.length_nil]
    go_enter Tryz.func22, Tryz.ntmps22
    go_wp2_with fail
    go_ret2
    exact ⟨0, false, rfl, .no rfl, Below.refl _ _⟩
  | a :: b :: cs, h, hl, h1 =>
    obtain ⟨n, hn⟩ : ∃ n, (a :: b :: cs).length = n := ⟨_, rfl⟩
    have d0 : ((n : Int) != 1) = true := by rw [bne_iff_ne, ← hn]; simp; omega
    have hO : oneN (a :: b :: cs) = none := rfl
    rw [hn]
    clear hn
    go_enter Tryz.func22, Tryz.ntmps22
    go_wp2_with fail
    go_ret2
    exact ⟨0, false, rfl, .no hO, Below.refl _ _⟩
  | [p], h, hl, h1 =>
    obtain ⟨b, off, rfl, _, hc⟩ := h.get (k := 0) (p := p) rfl
    simp only [List.length_cons, List.length_nil, Nat.zero_add, Nat.add_zero] at h1 hc ⊢
    obtain ⟨s, hs⟩ : ∃ s : ByteArray, (⟨p.toArray⟩ : ByteArray) = s := ⟨_, rfl⟩
    have hsz : s.size = p.length := by rw [← hs]; rfl
    have hsl : s.data.toList = p := by rw [← hs]
    have hpl := hl p (by simp)
    unfold sv at hc
    rw [hs] at hc
    clear hl h hs
    cases p with
    | nil =>
      have e0 : s = ⟨#[]⟩ := by
        cases s with | mk d => cases d with | mk l => simp at hsl; rw [hsl]
      subst e0
      go_enter Tryz.func22, Tryz.ntmps22
      go_wp2_with fail
      go_ret2
      exact ⟨0, false, rfl, .no rfl, Below.refl _ _⟩
    | cons c p =>
      have hs0 : 0 < s.size := by rw [hsz]; simp
      have hA : s[0]'hs0 = c := by
        have h1 := at_byte s 0 hs0
        rw [hsl] at h1
        simpa using h1.symm
      have ne0 : s.toList.isEmpty = false := by
        have h1 := str_ne (s := s) (t := ⟨#[]⟩) (fun h => by rw [h] at hs0; exact absurd hs0 (by decide))
        cases h2 : s.toList with
        | nil => rw [h2] at h1; simp at h1
        | cons a l => rfl
      have i0 : (0 : Int) < (s.size : Int) := by omega
      have HSZ := Lib.hid hsz
      have HSL := Lib.hid hsl
      clear hsz hsl
      by_cases h43 : c = 43
      · subst h43
        go_enter Tryz.func22, Tryz.ntmps22
        go_wp2_with fail
        go_ret2
        exact ⟨0, false, rfl, .no (num_plus (s := 43 :: p) rfl : numW (43 :: p) = none), Below.refl _ _⟩
      · have n43 : ((c.toNat : Int) == 43) = false := nat_eq c 43 h43
        by_cases h48 : 1 < s.size ∧ c = 48
        · obtain ⟨hl1, rfl⟩ := h48
          have i1 : (1 : Int) < (s.size : Int) := by omega
          go_enter Tryz.func22, Tryz.ntmps22
          go_wp2_with fail
          go_ret2
          exact ⟨0, false, rfl, .no (num_zero (s := 48 :: p) ⟨rfl, by rw [← HSZ.out]; exact hl1⟩ : numW (48 :: p) = none), Below.refl _ _⟩
        · have HPU := Lib.hid (pu_any s (by rw [HSZ.out]; exact hpl) w hv)
          have HN := Lib.hid (num_pu (s := c :: p) (by simp) (fun h => h48 ⟨by rw [HSZ.out]; exact h.2, by simpa using h.1⟩))
          rw [HSL.out] at HPU
          by_cases hl1 : 1 < s.size
          · have i1 : (1 : Int) < (s.size : Int) := by omega
            have n48 : ((c.toNat : Int) == 48) = false := nat_eq c 48 (fun h => h48 ⟨hl1, h⟩)
            go_enter Tryz.func22, Tryz.ntmps22
            go_wp2_with (go_at_call 43; refine HPU.out.mono ?_; rintro e w' ⟨u, ev, rfl, hq, hb⟩; have HQ := Lib.hid hq; have HB := Lib.hid hb; clear hq hb)
            have hn : oneN [c :: p] = numEnd (Lib.parseUintB 64 (c :: p)) := HN.out.symm
            have HNN := Lib.hid hn
            clear hn
            rcases HQ.out with ⟨hq, rfl⟩ | ⟨hq, te, pe, rfl⟩
            · have HE := Lib.hid (HNN.out.trans hq)
              clear hq
              go_simp
              go_wp2_with fail
              go_ret2
              exact ⟨_, true, rfl, .inl ⟨rfl, u, HE.out, .inl rfl, rfl⟩, HB.out⟩
            · have HE := Lib.hid (HNN.out.trans hq)
              clear hq
              go_simp
              go_wp2_with fail
              go_ret2
              exact ⟨_, false, rfl, .no HE.out, HB.out⟩
          · have i1 : ¬ (1 : Int) < (s.size : Int) := by omega
            go_enter Tryz.func22, Tryz.ntmps22
            go_wp2_with (go_at_call 43; refine HPU.out.mono ?_; rintro e w' ⟨u, ev, rfl, hq, hb⟩; have HQ := Lib.hid hq; have HB := Lib.hid hb; clear hq hb)
            have hn : oneN [c :: p] = numEnd (Lib.parseUintB 64 (c :: p)) := HN.out.symm
            have HNN := Lib.hid hn
            clear hn
            rcases HQ.out with ⟨hq, rfl⟩ | ⟨hq, te, pe, rfl⟩
            · have HE := Lib.hid (HNN.out.trans hq)
              clear hq
              go_simp
              go_wp2_with fail
              go_ret2
              exact ⟨_, true, rfl, .inl ⟨rfl, u, HE.out, .inl rfl, rfl⟩, HB.out⟩
            · have HE := Lib.hid (HNN.out.trans hq)
              clear hq
              go_simp
              go_wp2_with fail
              go_ret2
              exact ⟨_, false, rfl, .no HE.out, HB.out⟩
set_option maxRecDepth 100000 in
set_option maxHeartbeats 4000000 in
/-- is a segment of a tag, and so many elements? -/
theorem is_any {S : Nat → Prop} (w : World) (t : Str) (ev : Value) (es : List (List Str)) (h : ElemsAt S w ev es) (tag : ByteArray) (n : Nat) :
    Calls Tryz.prog 20 #[.agg #[sv t, ev], .string tag, .int .i64 (n : Int)] w fun e w' => e = .returned (.bool (decide (t = tag.data.toList ∧ es.length = n))) ∧ Below w.heap.size w w' := by
  obtain ⟨ao, cap, rfl, h1, h2⟩ := h.form
  unfold sv
  obtain ⟨st, hst⟩ : ∃ st : ByteArray, (⟨t.toArray⟩ : ByteArray) = st := ⟨_, rfl⟩
  obtain ⟨m, hm⟩ : ∃ m, es.length = m := ⟨_, rfl⟩
  rw [hst, hm]
  have hte : t = st.data.toList := by rw [← hst]
  by_cases ht : st = tag
  · subst ht
    have s1 := str_same st
    by_cases hn : m = n
    · have d1 : ((m : Int) == (n : Int)) = true := by rw [beq_iff_eq]; omega
      have hd : decide (t = st.data.toList ∧ m = n) = true := by rw [decide_eq_true_eq]; exact ⟨hte, hn⟩
      rw [hd]
      clear hd hte hst hm hn
      go_enter Tryz.func20, Tryz.ntmps20
      go_wp2_with fail
      go_ret
      exact ⟨rfl, (Below.refl _ _).alloc (Nat.le_refl _) _⟩
    · have d1 : ((m : Int) == (n : Int)) = false := by rw [beq_eq_false_iff_ne]; omega
      have hd : decide (t = st.data.toList ∧ m = n) = false := by rw [decide_eq_false_iff_not]; exact fun h => hn h.2
      rw [hd]
      clear hd hte hst hm hn
      go_enter Tryz.func20, Tryz.ntmps20
      go_wp2_with fail
      go_ret
      exact ⟨rfl, (Below.refl _ _).alloc (Nat.le_refl _) _⟩
  · have s1 := str_ne ht
    have hd : decide (t = tag.data.toList ∧ m = n) = false := by
      rw [decide_eq_false_iff_not]; rintro ⟨h, _⟩
      apply ht
      rw [hte] at h
      cases st; cases tag
      simp only [ByteArray.mk.injEq]
      exact Array.toList_inj.1 h
    rw [hd]
    clear hd hte hst hm
    go_enter Tryz.func20, Tryz.ntmps20
    go_wp2_with fail
    go_ret
    exact ⟨rfl, (Below.refl _ _).alloc (Nat.le_refl _) _⟩
end Go.Proofs.YteaaiejfieaalaaGreatDoor

/-
  WrapX0: contracts of the three questions that wrap.Parse asks of its numbers. No condition beyond those stated.
-/
namespace Go.Proofs.YteaaiejfieaalaaGreatDoor
open Go.RowKit
set_option maxRecDepth 100000 in
set_option maxHeartbeats 2000000 in
theorem p1_any {p0 p1 p2 p3 p4 : Nat} (w : World) {b0 b1 b2 b3 b4 : Bool} (h0 : w.cell? ⟨p0, 0, none⟩ = some (.bool b0)) (h1 : w.cell? ⟨p1, 0, none⟩ = some (.bool b1)) (h2 : w.cell? ⟨p2, 0, none⟩ = some (.bool b2)) (h3 : w.cell? ⟨p3, 0, none⟩ = some (.bool b3)) (h4 : w.cell? ⟨p4, 0, none⟩ = some (.bool b4)) :
    Calls Tryz.prog 23 #[.pointer (some ⟨p0, 0, none⟩), .pointer (some ⟨p1, 0, none⟩), .pointer (some ⟨p2, 0, none⟩), .pointer (some ⟨p3, 0, none⟩), .pointer (some ⟨p4, 0, none⟩)] w fun e w' => e = .returned (.bool (b0 && b1 && b2 && b3 && b4)) ∧ w = w' := by
  cases b0
  · go_enter Tryz.func23, Tryz.ntmps23
    go_wp2_with fail
    go_ret
    exact ⟨rfl, rfl⟩
  cases b1
  · go_enter Tryz.func23, Tryz.ntmps23
    go_wp2_with fail
    go_ret
    exact ⟨rfl, rfl⟩
  cases b2
  · go_enter Tryz.func23, Tryz.ntmps23
    go_wp2_with fail
    go_ret
    exact ⟨rfl, rfl⟩
  cases b3
  · go_enter Tryz.func23, Tryz.ntmps23
    go_wp2_with fail
    go_ret
    exact ⟨rfl, rfl⟩
  · go_enter Tryz.func23, Tryz.ntmps23
    go_wp2_with fail
    go_ret
    exact ⟨rfl, rfl⟩
set_option maxRecDepth 100000 in
theorem p2_any {p0 p1 : Nat} (w : World) {r : Int} {n : Nat} (hn : 2 ≤ n) (hn2 : n ≤ 64) (h0 : w.cell? ⟨p0, 0, none⟩ = some (.int .u64 r)) (h1 : w.cell? ⟨p1, 0, none⟩ = some (.int .i64 (n : Int))) :
    Calls Tryz.prog 24 #[.pointer (some ⟨p0, 0, none⟩), .pointer (some ⟨p1, 0, none⟩)] w fun e w' => e = .returned (.bool (r == ((n - 2 : Nat) : Int))) ∧ w = w' := by
  have en : (n : Int) - 2 = ((n - 2 : Nat) : Int) := by omega
  have hc : IntKind.u64.wrap ((n - 2 : Nat) : Int) = ((n - 2 : Nat) : Int) := by rw [IntKind.wrap_u64]; omega
  go_enter Tryz.func24, Tryz.ntmps24
  go_wp2_with fail
  go_ret
  exact ⟨rfl, rfl⟩
set_option maxRecDepth 100000 in
theorem p3_any {p0 p1 : Nat} (w : World) {r s : Int} (h0 : w.cell? ⟨p0, 0, none⟩ = some (.int .u64 r)) (h1 : w.cell? ⟨p1, 0, none⟩ = some (.int .u64 s)) :
    Calls Tryz.prog 25 #[.pointer (some ⟨p0, 0, none⟩), .pointer (some ⟨p1, 0, none⟩)] w fun e w' => e = .returned (.bool (r == s)) ∧ w = w' := by
  go_enter Tryz.func25, Tryz.ntmps25
  go_wp2_with fail
  go_ret
  exact ⟨rfl, rfl⟩
theorem oneN_head {e : List Str} (es : List (List Str)) : numsL (e :: es) = match oneN e, numsL es with | some v, some l => some (v :: l) | _, _ => none := rfl
/-- what the numbers of head and tail make of an interchange -/
theorem wrapHT_num {e0 e1 e2 g0 g1 : List Str} {m : List Seg} {r0 r1 r2 r3 r4 : Int} {b0 b1 b2 b3 b4 : Bool} (q0 : NumQ 8 e0 r0 b0) (q1 : NumQ 8 e1 r1 b1) (q2 : NumQ 0 e2 r2 b2) (q3 : NumQ 0 g0 r3 b3) (q4 : NumQ 0 g1 r4 b4) :
    ((b0 && b1 && b2 && b3 && b4) = false → wrapHT ⟨unb, [e0, e1, e2]⟩ ⟨unz, [g0, g1]⟩ m = (wd0, 40)) ∧
    ((b0 && b1 && b2 && b3 && b4) = true → ∃ u0 u1 u2 u3 u4 : Nat, (r0 = u0 ∧ r1 = u1 ∧ r2 = u2 ∧ r3 = u3 ∧ r4 = u4) ∧ wrapHT ⟨unb, [e0, e1, e2]⟩ ⟨unz, [g0, g1]⟩ m = if u3 ≠ m.length then (wd0, 41) else if u2 ≠ u4 then (wd0, 42) else (⟨u0, u1, u2, m⟩, 0)) := by
  have eh : numsW ⟨unb, [e0, e1, e2]⟩ unb 3 = numsL [e0, e1, e2] := by unfold numsW; rw [if_pos ⟨rfl, rfl⟩]
  have ez : numsW ⟨unz, [g0, g1]⟩ unz 2 = numsL [g0, g1] := by unfold numsW; rw [if_pos ⟨rfl, rfl⟩]
  unfold wrapHT
  rw [eh, ez]
  simp only [numsL]
  refine ⟨fun h => ?_, fun h => ?_⟩
  · cases o0 : oneN e0 with
    | none => rfl
    | some v0 =>
    cases o1 : oneN e1 with
    | none => rfl
    | some v1 =>
    cases o2 : oneN e2 with
    | none => rfl
    | some v2 =>
    cases o3 : oneN g0 with
    | none => rfl
    | some v3 =>
    cases o4 : oneN g1 with
    | none => rfl
    | some v4 =>
    simp only
    have hb2 : b2 = true := by rcases q2 with ⟨h, _⟩ | ⟨_, h⟩; exact h; exact absurd (.inl rfl) (h _ o2)
    have hb3 : b3 = true := by rcases q3 with ⟨h, _⟩ | ⟨_, h⟩; exact h; exact absurd (.inl rfl) (h _ o3)
    have hb4 : b4 = true := by rcases q4 with ⟨h, _⟩ | ⟨_, h⟩; exact h; exact absurd (.inl rfl) (h _ o4)
    rw [if_pos]
    subst hb2; subst hb3; subst hb4
    rcases q0 with ⟨h0, _⟩ | ⟨_, h0⟩
    · rcases q1 with ⟨h1, _⟩ | ⟨_, h1⟩
      · subst h0; subst h1; exact absurd h (by decide)
      · have := h1 _ o1; right; omega
    · have := h0 _ o0; left; omega
  · simp only [Bool.and_eq_true] at h
    obtain ⟨⟨⟨⟨h0, h1⟩, h2⟩, h3⟩, h4⟩ := h
    rcases q0 with ⟨_, u0, o0, k0, s0⟩ | ⟨h, _⟩
    · rcases q1 with ⟨_, u1, o1, k1, s1⟩ | ⟨h, _⟩
      · rcases q2 with ⟨_, u2, o2, k2, s2⟩ | ⟨h, _⟩
        · rcases q3 with ⟨_, u3, o3, k3, s3⟩ | ⟨h, _⟩
          · rcases q4 with ⟨_, u4, o4, k4, s4⟩ | ⟨h, _⟩
            · rw [o0, o1, o2, o3, o4]
              simp only
              exact ⟨u0, u1, u2, u3, u4, ⟨s0, s1, s2, s3, s4⟩, by rw [if_neg (by omega)]⟩
            · rw [h] at h4; cases h4
          · rw [h] at h3; cases h3
        · rw [h] at h2; cases h2
      · rw [h] at h1; cases h1
    · rw [h] at h0; cases h0
end Go.Proofs.YteaaiejfieaalaaGreatDoor
