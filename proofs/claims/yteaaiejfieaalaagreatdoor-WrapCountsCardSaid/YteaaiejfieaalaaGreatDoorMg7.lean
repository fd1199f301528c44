/-
  Texts EdiA3, EdiA4, EdiA5, EdiA6, EdiA7, EdiA9, WrapP, one behind the other. No condition beyond those stated in each.
-/
import Derived.Test.YteaaiejfieaalaaGreatDoorMg6
import Derived.Lib.AppendStr
import Derived.Test.YteaaiejfieaalaaGreatDoorMg1
import Derived.Test.YteaaiejfieaalaaGreatDoorMg5
import Derived.Lib.ItoaNum
import Derived.Lib.ParseIntBCases
/-
  EdiA3: contract of Same: two lists of segments in memory. No condition beyond those stated.
-/
namespace Go.Proofs.YteaaiejfieaalaaGreatDoor
open Go.RowKit
instance : DecidableEq Seg := fun a b => if h : a.tag = b.tag ∧ a.elems = b.elems then isTrue (by cases a; cases b; simp_all) else isFalse (by rintro rfl; exact h ⟨rfl, rfl⟩)
def sameB (l m : List Seg) : Bool := decide (l = m)
def Drew (w w' : World) : Prop := ∃ d, w' = w.drewN d
theorem Drew.below {w w' : World} (h : Drew w w') (B : Nat) : Below B w w' := by
  obtain ⟨d, rfl⟩ := h; exact below_drewN (Below.refl _ _) d
theorem Drew.heap {w w' : World} (h : Drew w w') : w'.heap = w.heap := by obtain ⟨d, rfl⟩ := h; rfl
theorem ret_bool {a b : Bool} (h : a = b) : Ending.returned (.bool a) = .returned (.bool b) := by rw [h]
theorem sameB_no {l m : List Seg} (h : l ≠ m) : Ending.returned (.bool false) = .returned (.bool (sameB l m)) := ret_bool (by unfold sameB; rw [decide_eq_false h])
theorem take_succ_eq {α : Type} {l m : List α} {k : Nat} {x : α} (h : l.take k = m.take k) (h1 : l[k]? = some x) (h2 : m[k]? = some x) : l.take (k + 1) = m.take (k + 1) := by
  rw [List.take_add_one, List.take_add_one, h, h1, h2]
theorem sv_inj {a b : Str} {s : ByteArray} (h1 : (⟨a.toArray⟩ : ByteArray) = s) (h2 : (⟨b.toArray⟩ : ByteArray) = s) : a = b := by
  rw [← h2] at h1
  injection h1 with h1
  exact congrArg Array.toList h1
theorem str_same (s : ByteArray) : (s.toList == s.toList) = true := by simp
theorem str_ne {s t : ByteArray} (h : s ≠ t) : (s.toList == t.toList) = false := by
  rw [beq_eq_false_iff_ne, ByteArray.toList_eq, ByteArray.toList_eq]
  intro e
  apply h
  cases s; cases t
  exact congrArg ByteArray.mk (Array.toList_inj.1 e)
theorem sv_ne {a b : Str} {s t : ByteArray} (h1 : (⟨a.toArray⟩ : ByteArray) = s) (h2 : (⟨b.toArray⟩ : ByteArray) = t) (h : s ≠ t) : a ≠ b := by
  rintro rfl; exact h (h1.symm.trans h2)
set_option maxRecDepth 100000 in
set_option maxHeartbeats 4000000 in
theorem same_any {S T : Nat → Prop} {v v' : Value} {l m : List Seg} (w : World) (h : SegsAt S w v l) (h' : SegsAt T w v' m) : Calls Tryz.prog 28 #[v, v'] w fun e w' => e = .returned (.bool (sameB l m)) ∧ Drew w w' := by
  obtain ⟨ao, cap, rfl, h1, h2⟩ := h.form
  obtain ⟨ao', cap', rfl, h1', h2'⟩ := h'.form
  unfold maxLen at h2 h2'
  have H := Lib.hid h
  have H' := Lib.hid h'
  clear h h'
  by_cases hlen : l.length = m.length
  · obtain ⟨n, hn⟩ : ∃ n, l.length = n := ⟨_, rfl⟩
    have hn' : m.length = n := by omega
    have HN := Lib.hid hn
    have HN' := Lib.hid hn'
    rw [hn] at h1 H ⊢
    rw [hn'] at h1' H' ⊢
    clear hn hn' hlen
    have d0 : ((n : Int) != (n : Int)) = false := by simp
    go_enter Tryz.func28, Tryz.ntmps28
    go_wp2_with fail
    go_loopw [5] (fun i wr => ∃ (k d : Nat), k ≤ n ∧ i = .int .i64 (k : Int) ∧ wr = w.drewN d ∧ Hid (l.take k = m.take k)) (fun i _ => n - (intOf i).toNat)
    case atStart => exact ⟨0, 0, Nat.zero_le _, rfl, rfl, Lib.hid (by simp)⟩
    case round =>
      obtain ⟨k, d, hk, rfl, rfl, HT⟩ := hrel
      by_cases hlt : k < n
      · obtain ⟨s, hs⟩ : ∃ s, l[k]? = some s := ⟨_, List.getElem?_eq_getElem (by rw [HN.out]; exact hlt)⟩
        obtain ⟨s', hs'⟩ : ∃ s, m[k]? = some s := ⟨_, List.getElem?_eq_getElem (by rw [HN'.out]; exact hlt)⟩
        obtain ⟨b, off, x, rfl, _, c0, c1, hel⟩ := H.out.get hs
        obtain ⟨b', off', x', rfl, _, c0', c1', hel'⟩ := H'.out.get hs'
        obtain ⟨t, es⟩ := s
        obtain ⟨t', es'⟩ := s'
        obtain ⟨eo, ecap, rfl, he1, he2⟩ := hel.form
        obtain ⟨eo', ecap', rfl, he1', he2'⟩ := hel'.form
        have HEL := Lib.hid hel
        have HEL' := Lib.hid hel'
        have HS := Lib.hid hs
        have HS' := Lib.hid hs'
        obtain ⟨st, hst⟩ : ∃ st : ByteArray, (⟨t.toArray⟩ : ByteArray) = st := ⟨_, rfl⟩
        obtain ⟨st', hst'⟩ : ∃ st : ByteArray, (⟨t'.toArray⟩ : ByteArray) = st := ⟨_, rfl⟩
        simp only [sv] at c0 c0'
        rw [hst] at c0
        rw [hst'] at c0'
        unfold maxLen at he2 he2'
        clear hs hs' hel hel'
        have b1 : (0 : Int) ≤ k := by omega
        have b2 : (k : Int) < n := by omega
        by_cases hstt : st = st'
        · subst hstt
          obtain rfl := sv_inj hst hst'
          clear hst hst'
          by_cases hll : es.length = es'.length
          · obtain ⟨m0, hm0⟩ : ∃ m0, es.length = m0 := ⟨_, rfl⟩
            have hm0' : es'.length = m0 := by omega
            simp only [hm0] at c1 he1
            simp only [hm0'] at c1' he1'
            have HM0 := Lib.hid hm0
            have HM0' := Lib.hid hm0'
            clear hm0 hm0' hll
            have d1 := str_same st
            have d2 : ((m0 : Int) != (m0 : Int)) = false := by simp
            go_upto_region 6 with fail
            go_quiet (fail)
            clear d1 d2
            go_wp2_with fail
            go_loopw [6] (fun i wr => ∃ (q d2 : Nat), q ≤ m0 ∧ i = .int .i64 (q : Int) ∧ wr = w.drewN d2 ∧ Hid (es.take q = es'.take q)) (fun i _ => m0 - (intOf i).toNat)
            case atStart => exact ⟨0, _, Nat.zero_le _, rfl, rfl, Lib.hid (by simp)⟩
            case round =>
              obtain ⟨q, d2, hq, rfl, rfl, HQ⟩ := hrel
              by_cases hqlt : q < m0
              · obtain ⟨e, he⟩ : ∃ s, es[q]? = some s := ⟨_, List.getElem?_eq_getElem (by rw [HM0.out]; exact hqlt)⟩
                obtain ⟨e', he'⟩ : ∃ s, es'[q]? = some s := ⟨_, List.getElem?_eq_getElem (by rw [HM0'.out]; exact hqlt)⟩
                obtain ⟨b2, off2, x2, rfl, _, f0, hco⟩ := HEL.out.get he
                obtain ⟨b2', off2', x2', rfl, _, f0', hco'⟩ := HEL'.out.get he'
                obtain ⟨co, ccap, rfl, hc1, hc2⟩ := hco.form
                obtain ⟨co', ccap', rfl, hc1', hc2'⟩ := hco'.form
                have HCO := Lib.hid hco
                have HCO' := Lib.hid hco'
                have HE := Lib.hid he
                have HE' := Lib.hid he'
                unfold maxLen at hc2 hc2'
                have b3 : (0 : Int) ≤ q := by omega
                have b4 : (q : Int) < m0 := by omega
                clear he he' hco hco'
                by_cases hll : e.length = e'.length
                · obtain ⟨r0, hr0⟩ : ∃ m0, e.length = m0 := ⟨_, rfl⟩
                  have hr0' : e'.length = r0 := by omega
                  simp only [hr0] at f0 hc1
                  simp only [hr0'] at f0' hc1'
                  have HR0 := Lib.hid hr0
                  have HR0' := Lib.hid hr0'
                  clear hr0 hr0' hll
                  have d3 : ((r0 : Int) != (r0 : Int)) = false := by simp
                  go_wp2_with fail
                  clear d3
                  go_loopw [9] (fun i wr => ∃ (z d3 : Nat), z ≤ r0 ∧ i = .int .i64 (z : Int) ∧ wr = w.drewN d3 ∧ Hid (e.take z = e'.take z)) (fun i _ => r0 - (intOf i).toNat)
                  case atStart => exact ⟨0, _, Nat.zero_le _, rfl, rfl, Lib.hid (by simp)⟩
                  case round =>
                    obtain ⟨z, d3, hz, rfl, rfl, HZ⟩ := hrel
                    by_cases hzlt : z < r0
                    · obtain ⟨p, hp⟩ : ∃ s, e[z]? = some s := ⟨_, List.getElem?_eq_getElem (by rw [HR0.out]; exact hzlt)⟩
                      obtain ⟨p', hp'⟩ : ∃ s, e'[z]? = some s := ⟨_, List.getElem?_eq_getElem (by rw [HR0'.out]; exact hzlt)⟩
                      obtain ⟨b3, off3, rfl, _, g0⟩ := HCO.out.get hp
                      obtain ⟨b3', off3', rfl, _, g0'⟩ := HCO'.out.get hp'
                      have b5 : (0 : Int) ≤ z := by omega
                      have b6 : (z : Int) < r0 := by omega
                      have HP := Lib.hid hp
                      have HP' := Lib.hid hp'
                      obtain ⟨sp, hsp⟩ : ∃ st : ByteArray, (⟨p.toArray⟩ : ByteArray) = st := ⟨_, rfl⟩
                      obtain ⟨sp', hsp'⟩ : ∃ st : ByteArray, (⟨p'.toArray⟩ : ByteArray) = st := ⟨_, rfl⟩
                      simp only [sv] at g0 g0'
                      rw [hsp] at g0
                      rw [hsp'] at g0'
                      clear hp hp'
                      by_cases hpp : sp = sp'
                      · subst hpp
                        obtain rfl := sv_inj hsp hsp'
                        have d4 := str_same sp
                        clear hsp hsp'
                        go_upto_region 18 with fail
                        go_quiet (fail)
                        clear d4
                        go_wp2_with fail
                        go_roundw
                        case rel => exact ⟨z + 1, _, by omega, by go_num, rfl, Lib.hid (take_succ_eq HZ.out HP.out HP'.out)⟩
                        case measure => simp [intOf]; omega
                      · have d4 := str_ne hpp
                        have HPN := Lib.hid (sv_ne hsp hsp' hpp)
                        clear hsp hsp' hpp
                        go_upto_region 18 with fail
                        go_quiet (fail)
                        go_wp2_with fail
                        go_ret
                        exact ⟨sameB_no (fun e0 => by
                          have h1 := HS.out
                          rw [e0, HS'.out] at h1
                          injection h1 with h1
                          injection h1 with _ h1
                          have h2 := HE.out
                          rw [← h1, HE'.out] at h2
                          injection h2 with h2
                          have h3 := HP.out
                          rw [← h2, HP'.out] at h3
                          injection h3 with h3
                          exact HPN.out h3.symm), _, World.drewN_drewN _ _ _⟩
                    · obtain rfl : z = r0 := by omega
                      go_wp2_with fail
                      go_roundw
                      case rel =>
                        have e1 : e.take z = e := List.take_of_length_le (by rw [HR0.out]; exact Nat.le_refl _)
                        have e2 : e'.take z = e' := List.take_of_length_le (by rw [HR0'.out]; exact Nat.le_refl _)
                        have hT := HZ.out
                        rw [e1, e2] at hT
                        exact ⟨q + 1, _, by omega, by go_num, rfl, Lib.hid (take_succ_eq HQ.out HE.out (by rw [hT]; exact HE'.out))⟩
                      case measure => simp [intOf]; omega
                · obtain ⟨r0, hr0⟩ : ∃ m0, e.length = m0 := ⟨_, rfl⟩
                  obtain ⟨r0', hr0'⟩ : ∃ m0, e'.length = m0 := ⟨_, rfl⟩
                  have d3 : ((r0 : Int) != (r0' : Int)) = true := by rw [bne_iff_ne]; omega
                  simp only [hr0] at f0 hc1
                  simp only [hr0'] at f0' hc1'
                  clear hr0 hr0'
                  have HLL := Lib.hid hll
                  clear hll
                  go_wp2_with fail
                  go_ret
                  exact ⟨sameB_no (fun e0 => by
                    have h1 := HS.out
                    rw [e0, HS'.out] at h1
                    injection h1 with h1
                    injection h1 with _ h1
                    have h2 := HE.out
                    rw [← h1, HE'.out] at h2
                    injection h2 with h2
                    exact HLL.out (by rw [h2])), _, rfl⟩
              · obtain rfl : q = m0 := by omega
                go_wp2_with fail
                go_roundw
                case rel =>
                  have e1 : es.take q = es := List.take_of_length_le (by rw [HM0.out]; exact Nat.le_refl _)
                  have e2 : es'.take q = es' := List.take_of_length_le (by rw [HM0'.out]; exact Nat.le_refl _)
                  have hT := HQ.out
                  rw [e1, e2] at hT
                  exact ⟨k + 1, _, by omega, by go_num, rfl, Lib.hid (take_succ_eq HT.out HS.out (by rw [hT]; exact HS'.out))⟩
                case measure => simp [intOf]; omega
          · obtain ⟨m0, hm0⟩ : ∃ m0, es.length = m0 := ⟨_, rfl⟩
            obtain ⟨m0', hm0'⟩ : ∃ m0, es'.length = m0 := ⟨_, rfl⟩
            have d1 := str_same st
            have d2 : ((m0 : Int) != (m0' : Int)) = true := by rw [bne_iff_ne]; omega
            simp only [hm0] at c1 he1
            simp only [hm0'] at c1' he1'
            clear hm0 hm0'
            have HLL := Lib.hid hll
            clear hll
            go_upto_region 6 with fail
            go_quiet (fail)
            go_wp2_with fail
            go_ret
            exact ⟨sameB_no (fun e => by
              have h1 := HS.out
              rw [e, HS'.out] at h1
              injection h1 with h1
              injection h1 with _ h1
              exact HLL.out (by rw [h1])), _, rfl⟩
        · have d1 := str_ne hstt
          have HNE := Lib.hid hstt
          have HST := Lib.hid hst
          have HST' := Lib.hid hst'
          clear hst hst' hstt
          go_upto_region 6 with fail
          go_quiet (fail)
          go_wp2_with fail
          go_ret
          exact ⟨sameB_no (fun e => by
            have h1 := HS.out
            rw [e, HS'.out] at h1
            injection h1 with h1
            injection h1 with h1
            exact sv_ne HST.out HST'.out HNE.out h1.symm), _, rfl⟩
      · obtain rfl : k = n := by omega
        go_wp2_with fail
        go_ret
        have e1 : l.take k = l := List.take_of_length_le (by rw [HN.out]; exact Nat.le_refl _)
        have e2 : m.take k = m := List.take_of_length_le (by rw [HN'.out]; exact Nat.le_refl _)
        have hT := HT.out
        rw [e1, e2] at hT
        exact ⟨ret_bool (by unfold sameB; rw [decide_eq_true hT]), _, rfl⟩
  · have d0 : ((l.length : Int) != (m.length : Int)) = true := by rw [bne_iff_ne]; omega
    clear H H'
    have HL := Lib.hid hlen
    clear hlen
    go_enter Tryz.func28, Tryz.ntmps28
    go_wp2_with fail
    go_ret
    exact ⟨sameB_no (fun e => HL.out (by rw [e])), 0, rfl⟩
end Go.Proofs.YteaaiejfieaalaaGreatDoor

/-
  EdiA4: contracts of the reference's Tag and Sign; appends to owned bytes. No condition beyond those stated.
-/
namespace Go.Proofs.YteaaiejfieaalaaGreatDoor
open Go.RowKit
set_option maxHeartbeats 1000000 in
theorem rTag_any (c : UInt8) (w : World) : Calls Tryz.prog 47 #[.int .u8 (c.toNat : Int)] w fun e w' => e = .returned (.bool (tagB c)) ∧ w = w' := by
  have hE : tagB c = ((decide (65 ≤ c.toNat) && decide (c.toNat ≤ 90)) || (decide (48 ≤ c.toNat) && decide (c.toNat ≤ 57))) := rfl
  have HE := Lib.hid hE
  obtain ⟨n, hn⟩ : ∃ n : Nat, c.toNat = n := ⟨_, rfl⟩
  rw [hn] at HE ⊢
  clear hE hn
  by_cases h1 : 65 ≤ n
  · have d1 : decide ((65 : Int) ≤ (n : Int)) = true := by rw [decide_eq_true_eq]; omega
    by_cases h2 : n ≤ 90
    · have d2 : decide ((n : Int) ≤ 90) = true := by rw [decide_eq_true_eq]; omega
      go_enter Tryz.func47, Tryz.ntmps47
      go_wp2_with fail
      go_ret
      exact ⟨by rw [HE.out]; simp [h1, h2], rfl⟩
    · have d2 : decide ((n : Int) ≤ 90) = false := by rw [decide_eq_false_iff_not]; omega
      have d3 : decide ((48 : Int) ≤ (n : Int)) = true := by rw [decide_eq_true_eq]; omega
      have d4 : decide ((n : Int) ≤ 57) = false := by rw [decide_eq_false_iff_not]; omega
      go_enter Tryz.func47, Tryz.ntmps47
      go_wp2_with fail
      go_ret
      exact ⟨by rw [HE.out]; simp; omega, rfl⟩
  · have d1 : decide ((65 : Int) ≤ (n : Int)) = false := by rw [decide_eq_false_iff_not]; omega
    by_cases h3 : 48 ≤ n
    · have d3 : decide ((48 : Int) ≤ (n : Int)) = true := by rw [decide_eq_true_eq]; omega
      by_cases h4 : n ≤ 57
      · have d4 : decide ((n : Int) ≤ 57) = true := by rw [decide_eq_true_eq]; omega
        go_enter Tryz.func47, Tryz.ntmps47
        go_wp2_with fail
        go_ret
        exact ⟨by rw [HE.out]; simp [h3, h4], rfl⟩
      · have d4 : decide ((n : Int) ≤ 57) = false := by rw [decide_eq_false_iff_not]; omega
        go_enter Tryz.func47, Tryz.ntmps47
        go_wp2_with fail
        go_ret
        exact ⟨by rw [HE.out]; simp [h1, h4], rfl⟩
    · have d3 : decide ((48 : Int) ≤ (n : Int)) = false := by rw [decide_eq_false_iff_not]; omega
      go_enter Tryz.func47, Tryz.ntmps47
      go_wp2_with fail
      go_ret
      exact ⟨by rw [HE.out]; simp [h1, h3], rfl⟩
set_option maxHeartbeats 1000000 in
theorem rSign_any (c : UInt8) (w : World) : Calls Tryz.prog 48 #[.int .u8 (c.toNat : Int)] w fun e w' => e = .returned (.bool (signB c)) ∧ w = w' := by
  have e : ∀ x : UInt8, (c == x) = decide (c.toNat = x.toNat) := fun x => by rw [Bool.eq_iff_iff, beq_iff_eq, decide_eq_true_eq]; exact UInt8.toNat_inj.symm
  have hE : signB c = (decide (c.toNat = 43) || decide (c.toNat = 58) || decide (c.toNat = 39) || decide (c.toNat = 63)) := by unfold signB; rw [e, e, e, e]; rfl
  have HE := Lib.hid hE
  obtain ⟨n, hn⟩ : ∃ n : Nat, c.toNat = n := ⟨_, rfl⟩
  rw [hn] at HE ⊢
  clear hE hn e
  by_cases h1 : n = 43
  · subst h1
    go_enter Tryz.func48, Tryz.ntmps48
    go_wp2_with fail
    go_ret
    exact ⟨by rw [HE.out]; rfl, rfl⟩
  · have d1 : ((n : Int) == 43) = false := by rw [beq_eq_false_iff_ne]; omega
    by_cases h2 : n = 58
    · subst h2
      clear d1
      go_enter Tryz.func48, Tryz.ntmps48
      go_wp2_with fail
      go_ret
      exact ⟨by rw [HE.out]; rfl, rfl⟩
    · have d2 : ((n : Int) == 58) = false := by rw [beq_eq_false_iff_ne]; omega
      by_cases h3 : n = 39
      · subst h3
        clear d1 d2
        go_enter Tryz.func48, Tryz.ntmps48
        go_wp2_with fail
        go_ret
        exact ⟨by rw [HE.out]; rfl, rfl⟩
      · have d3 : ((n : Int) == 39) = false := by rw [beq_eq_false_iff_ne]; omega
        by_cases h4 : n = 63
        · subst h4
          clear d1 d2 d3
          go_enter Tryz.func48, Tryz.ntmps48
          go_wp2_with fail
          go_ret
          exact ⟨by rw [HE.out]; rfl, rfl⟩
        · have d4 : ((n : Int) == 63) = false := by rw [beq_eq_false_iff_ne]; omega
          go_enter Tryz.func48, Tryz.ntmps48
          go_wp2_with fail
          go_ret
          exact ⟨by rw [HE.out]; simp [h1, h2, h3, h4], rfl⟩
theorem grown_alloc {w w' : World} {o : Obj} {row : Option Nat} (h : (w.alloc o).grownBy w' row) : w.grownBy w' row :=
  ⟨h.os, h.tape, h.output, by have := h.size; rw [World.size_alloc] at this; omega, fun k hk hne => (h.block k (by rw [World.size_alloc]; omega) hne).trans (Below.heap_alloc _ _ _ hk)⟩
/-- one byte more -/
theorem wp_app1 {ops : Array Oper} {rest : List Oper} {o : Oper} {a : Act} {Q : Exit → Act → World → Prop} (hgd : o.guard = none) (s x : Operand)
    (ho : o.op = .call { callee := .builtin .append, args := #[s, x], argTypes := #[39, 39] })
    {w : World} {B : Nat} {v : Value} {l : Str} (c : UInt8) (hs : a.eval s = v) (hx : a.eval x = .slice (some ⟨w.heap.size, 0, none⟩) 1 1) (hown : OwnS w B v l) (hl : l.length + 1 ≤ 140737488355328) (hB : B ≤ w.heap.size)
    (h : ∀ v' w', OwnS w' B v' (l ++ [c]) → w.grownBy w' v.ownBlock → wpList Tryz.prog ops Q rest (a.put o.dst v') w') :
    wpList Tryz.prog ops Q (o :: rest) a (w.alloc (.cells #[bv c] 5)) := by
  obtain ⟨i0, hi, hz0, hz1, hz2⟩ := info_parts einfo_u8
  refine wpList_append_own_at _ hgd s x 39 ho B 5 i0 (.int .u8 0) 1 1 Tryz.underlying39 hi hz0 hz1 hz2 rfl (by decide) v l.length (l.map bv) hs (World.ownsRow.alloc hown _) ⟨w.heap.size, 0, none⟩ 1 1 [bv c] hx rfl (cell_one_new _ _ _) (by simp [Value.oneCell', bv]) (by unfold maxLen; omega) (by omega) (by simp; omega) ?_
  intro v' w' h1 h2 _ _
  refine h v' w' ?_ (grown_alloc h2)
  unfold OwnS
  rw [List.length_append, List.map_append]
  exact h1
/-- a string behind -/
theorem wp_app_str {ops : Array Oper} {rest : List Oper} {o : Oper} {a : Act} {Q : Exit → Act → World → Prop} (hgd : o.guard = none) (s x : Operand)
    (ho : o.op = .call { callee := .builtin .append, args := #[s, x], argTypes := #[39, 9] })
    {w : World} {B : Nat} {v : Value} {l : Str} (t : ByteArray) (hs : a.eval s = v) (hx : a.eval x = .string t) (hown : OwnS w B v l) (hl : l.length + t.size ≤ 140737488355328) (hB : B ≤ w.heap.size)
    (h : ∀ v' w', OwnS w' B v' (l ++ t.data.toList) → w.grownBy w' v.ownBlock → wpList Tryz.prog ops Q rest (a.put o.dst v') w') :
    wpList Tryz.prog ops Q (o :: rest) a w := by
  obtain ⟨i0, hi, hz0, hz1, hz2⟩ := info_parts einfo_u8
  refine Lib.wpList_append_own_string _ hgd s x 39 9 ho B 5 i0 Tryz.underlying39 Tryz.underlying9 hi hz0 hz1 hz2 v l.length (l.map bv) hs hown t hx (by unfold maxLen; omega) (by omega) hB ?_
  intro v' w' h1 h2 _
  refine h v' w' ?_ h2
  unfold OwnS
  rw [List.length_append, List.map_append]
  have e : (t.data.toList).length = t.size := by simp
  rw [e]
  exact h1
theorem OwnS.nil (w : World) (B : Nat) : OwnS w B (.slice none 0 0) [] := World.ownsRow_nil _ _ _ _
theorem OwnS.form {w : World} {B : Nat} {v : Value} {l : Str} (h : OwnS w B v l) : ∃ a c, v = .slice a l.length c := by
  obtain ⟨_, ⟨h1, h2⟩ | ⟨g, cap, _, h1, _⟩⟩ := h
  · exact ⟨none, 0, by rw [h1, h2]⟩
  · exact ⟨_, cap, h1⟩
theorem OwnS.cong {w w' : World} {B : Nat} {v : Value} {l : Str} (h : OwnS w B v l) (e : ∀ k, k < w.heap.size → w'.heap[k]? = w.heap[k]?) : OwnS w' B v l := own_cong h fun k hk => e k (own_lt h hk).2
theorem below_grownO {w0 w w' : World} {B : Nat} {v : Value} {l : Str} (h : Below B w0 w) (ho : OwnS w B v l) (hg : w.grownBy w' v.ownBlock) (hB : B ≤ w.heap.size) : Below B w0 w' := h.grown hg hB (fun _ hk => (own_lt ho hk).1)
end Go.Proofs.YteaaiejfieaalaaGreatDoor

/-
  EdiA5: contract of the reference's Print. No condition beyond those stated.
-/
namespace Go.Proofs.YteaaiejfieaalaaGreatDoor
open Go.RowKit
/-- the reference's printer in memory: its bytes, its copy of a segment, all else as before -/
def PI (B sp : Nat) (C : Array Value) (w0 : World) (v : Value) (txt : Str) (w : World) : Prop := OwnS w B v txt ∧ w.heap[sp]? = some (.cells C 36 (0, 0)) ∧ Below B w0 w
theorem PI.grow {B sp : Nat} {C : Array Value} {w0 w w' : World} {v v' : Value} {l l' : Str} (h : PI B sp C w0 v l w) (ho : OwnS w' B v' l') (hg : w.grownBy w' v.ownBlock) (hB : B ≤ w.heap.size) : PI B sp C w0 v' l' w' := by
  refine ⟨ho, (hg.block sp (Array.getElem?_eq_some_iff.1 h.2.1).1 (fun e => ?_)).trans h.2.1, below_grownO h.2.2 h.1 hg hB⟩
  obtain ⟨C', hC, _⟩ := own_ty h.1 e.symm
  rw [h.2.1] at hC
  cases hC
theorem PI.c {B sp : Nat} {C : Array Value} {w0 w : World} {v : Value} {l : Str} (h : PI B sp C w0 v l w) (j : Nat) : w.cell? ⟨sp, j, none⟩ = C[j]? := cell_of_row w sp j _ _ _ h.2.1
theorem PI.le {B sp : Nat} {C : Array Value} {w0 w : World} {v : Value} {l : Str} (h : PI B sp C w0 v l w) (hB : B = w0.heap.size) : B ≤ w.heap.size := by rw [hB]; exact h.2.2.size
def preT (e : List Str) (j : Nat) : Str := if j = 0 then [] else elemT (e.take j) ++ [58]
theorem preT_comp {e : List Str} {j : Nat} {p : Str} (h : e[j]? = some p) : elemT (e.take (j + 1)) = preT e j ++ compT p := by
  unfold preT
  have hj : j < e.length := (List.getElem?_eq_some_iff.1 h).1
  rw [List.take_add_one, h]
  by_cases h0 : j = 0
  · subst h0; rw [if_pos rfl]; rfl
  · rw [if_neg h0]
    have hne : e.take j ≠ [] := by intro e0; have := congrArg List.length e0; rw [List.length_take, List.length_nil] at this; omega
    have h1 : ∀ (l : List Str), l ≠ [] → elemT (l ++ [p]) = elemT l ++ 58 :: compT p := fun l hl => by
      cases l with
      | nil => exact absurd rfl hl
      | cons a l => rw [List.cons_append, elemT_cons, elemT_cons]; unfold restT; rw [List.flatMap_append]; simp
    show elemT (e.take j ++ [p]) = _
    rw [h1 _ hne]; simp
theorem flat_take {α : Type} {l : List α} {k : Nat} {x : α} (f : α → Str) (h : l[k]? = some x) : (l.take (k + 1)).flatMap f = (l.take k).flatMap f ++ f x := by
  rw [List.take_add_one, h]; simp
theorem flat_take_len {α : Type} (f : α → Str) (l : List α) (k : Nat) : ((l.take k).flatMap f).length ≤ (l.flatMap f).length := by
  have h := congrArg (fun m => (List.flatMap f m).length) (List.take_append_drop k l)
  simp only [List.flatMap_append, List.length_append] at h
  omega
/-- what the printer has told, when it stands in the middle of a component -/
def toldT (l : List Seg) (i : Nat) (t : Str) (es : List (List Str)) (k : Nat) (x : Str) : Str := printT (l.take i) ++ t ++ (es.take k).flatMap (fun e => 43 :: elemT e) ++ x
theorem told_len {l : List Seg} {i : Nat} {t : Str} {es : List (List Str)} {k : Nat} {e : List Str} {x : Str} (hs : l[i]? = some ⟨t, es⟩) (he : es[k]? = some e) (hx : x.length ≤ (elemT e).length + 1) : (toldT l i t es k x).length + 1 ≤ (printT l).length := by
  have h1 := flat_take_len segT l (i + 1)
  rw [flat_take segT hs, List.length_append] at h1
  have h2 := flat_take_len (fun e => 43 :: elemT e) es (k + 1)
  rw [flat_take (fun e => 43 :: elemT e) he, List.length_append] at h2
  have h3 := segT_len ⟨t, es⟩
  unfold toldT printT
  simp only [List.length_append, List.length_cons] at h1 h2 h3 ⊢
  omega
theorem preT_len {e : List Str} {j : Nat} {p : Str} (h : e[j]? = some p) : (preT e j).length + (compT p).length ≤ (elemT e).length := by
  rw [← List.length_append, ← preT_comp h]
  have h0 : ∀ (a b : List Str), (elemT a).length ≤ (elemT (a ++ b)).length := fun a b => by
    cases a with
    | nil => simp [elemT, joinB]
    | cons x a => rw [List.cons_append, elemT_cons, elemT_cons]; unfold restT; rw [List.flatMap_append]; simp
  have := h0 (e.take (j + 1)) (e.drop (j + 1))
  rw [List.take_append_drop] at this; exact this
set_option maxRecDepth 100000 in
set_option maxHeartbeats 8000000 in
theorem rPrint_any {S : Nat → Prop} (w : World) (v : Value) (l : List Seg) (h : SegsAt S w v l) (hS : ∀ k, S k → k < w.heap.size) (hP : (printT l).length ≤ 1048576) :
    Calls Tryz.prog 30 #[v] w fun e w' => e = .returned (.tuple #[sv (printE l).1, .int .i64 (printE l).2]) ∧ Below w.heap.size w w' := by
  have hb := bds_of hP
  have HPL := Lib.hid hP
  obtain ⟨ao, cap, rfl, h1, h2⟩ := h.form
  have H := Lib.hid (h.cong (T := Low w) hS (fun _ _ => rfl))
  have hn := hb.n
  have HBD := Lib.hid hb
  obtain ⟨R, hR⟩ : ∃ R, printE l = R := ⟨_, rfl⟩
  have HR := Lib.hid hR
  rw [hR]
  obtain ⟨n, hln⟩ : ∃ n, l.length = n := ⟨_, rfl⟩
  have HLN := Lib.hid hln
  rw [hln] at h1 hn H ⊢
  clear hb hR hP hln h hS
  unfold maxLen at h2
  obtain ⟨B, hB⟩ : ∃ B, w.heap.size = B := ⟨_, rfl⟩
  have HBQ := Lib.hid hB
  obtain ⟨LG, hLG⟩ : ∃ b, decide ((64 : Int) < (n : Int)) = b := ⟨_, rfl⟩
  have HLG := Lib.hid (show decide (64 < n) = LG by rw [← hLG]; simp only [decide_eq_decide]; omega)
  rw [hB]
  go_enter Tryz.func30, Tryz.ntmps30
  go_wp2_with fail
  clear hB hLG
  go_loopw [4, 5, 6, 7, 8] (fun bv a sg lo i wr => ∃ (k : Nat) (A G L : Bool), k ≤ n ∧ i = .int .i64 (k : Int) ∧ a = .bool A ∧ sg = .bool G ∧ lo = .bool L ∧ Hid (A = (l.take k).any argS) ∧ Hid (G = (l.take k).any fun s => signE s.elems) ∧ Hid (L = (LG || (l.take k).any longS)) ∧ Hid (OwnS wr B bv (printT (l.take k))) ∧ Hid (Below B w wr)) (fun _ _ _ _ i _ => n - (intOf i).toNat)
  case atStart => exact ⟨0, false, false, LG, by omega, rfl, rfl, rfl, rfl, Lib.hid rfl, Lib.hid rfl, Lib.hid (by simp), Lib.hid (OwnS.nil _ _), Lib.hid (Below.refl _ _)⟩
  case round =>
    obtain ⟨k, A, G, L, hk, rfl, rfl, rfl, rfl, HA, HG, HL, HO, HBE⟩ := hrel
    by_cases hlt : k < n
    · skip
      obtain ⟨s, hs⟩ : ∃ s, l[k]? = some s := ⟨_, List.getElem?_eq_getElem (by rw [HLN.out]; exact hlt)⟩
      obtain ⟨sb, off, x, rfl, hsb, c0, c1, hel⟩ := H.out.get hs
      obtain ⟨t, es⟩ := s
      obtain ⟨eo, ecap, rfl, he1, he2⟩ := hel.form
      have HEL := Lib.hid hel
      have hsb' : sb < B := by rw [← HBQ.out]; exact hsb
      have d0 := (HBE.out.cell (p := ⟨sb, off + k * 2, none⟩) hsb').trans c0
      have d1 := (HBE.out.cell (p := ⟨sb, off + k * 2 + 1, none⟩) hsb').trans c1
      have HS := Lib.hid hs
      have hbs := HBD.out.seg ⟨t, es⟩ (List.mem_of_getElem? hs)
      have HBE1 := Lib.hid (HBD.out.el ⟨t, es⟩ (List.mem_of_getElem? hs))
      have HBE2 := Lib.hid (HBD.out.co ⟨t, es⟩ (List.mem_of_getElem? hs))
      have hws := HBE.out.size
      rw [HBQ.out] at hws
      obtain ⟨hbt, hbe, hbg⟩ := hbs
      obtain ⟨st, hst⟩ : ∃ st : ByteArray, (⟨t.toArray⟩ : ByteArray) = st := ⟨_, rfl⟩
      have hss : st.size = t.length := by rw [← hst]; rfl
      have HST := Lib.hid hst
      obtain ⟨m0, hm0⟩ : ∃ m0, es.length = m0 := ⟨_, rfl⟩
      have HM0 := Lib.hid hm0
      simp only [sv] at d0
      rw [hst] at d0
      simp only at d1 he1 hbe hbt
      rw [hm0] at d1 he1 hbe
      clear hs hsb c0 c1 hel hst hm0
      unfold maxLen at he2
      have b1 : (0 : Int) ≤ k := by omega
      have b2 : (k : Int) < n := by omega
      obtain ⟨lt, hlt'⟩ : ∃ x, (printT (l.take k)) = x := ⟨_, rfl⟩
      have hlq : lt.length + t.length + 1 ≤ 1048576 := by
        have h1 := flat_take_len segT l (k + 1)
        rw [flat_take segT HS.out, List.length_append, segT_len] at h1
        have h2 := HPL.out
        unfold printT at h2 hlt'
        rw [← hlt']; simp only at h1; omega
      have HLT := Lib.hid hlt'
      rw [← hss] at hlq
      have HSS := Lib.hid hss
      clear hss hbt hbg
      rw [hlt'] at HO
      clear hlt'
      go_upto_region 9 with fail
      obtain ⟨sp, hsp⟩ : ∃ sp, wr.heap.size = sp := ⟨_, rfl⟩
      obtain ⟨w2, hw2⟩ : ∃ w2, wr.alloc (.cells #[.string st, .slice eo m0 ecap] 36) = w2 := ⟨_, rfl⟩
      obtain ⟨C, hC⟩ : ∃ C : Array Value, #[.string st, .slice eo m0 ecap] = C := ⟨_, rfl⟩
      have HC0 := Lib.hid (show C[0]? = some (.string st) by rw [← hC]; rfl)
      have HC1 := Lib.hid (show C[1]? = some (.slice eo m0 ecap) by rw [← hC]; rfl)
      have HPI := Lib.hid (show PI B sp C w u4 lt w2 by
        rw [← hw2, ← hsp, ← hC]
        exact ⟨HO.out.cong (fun k hk => Below.heap_alloc _ _ _ hk), heap_alloc_new _ _, HBE.out.alloc hws _⟩)
      have s0 : w2.cell? ⟨sp, 0, none⟩ = some (.string st) := (HPI.out.c 0).trans HC0.out
      have s1 : w2.cell? ⟨sp, 1, none⟩ = some (.slice eo m0 ecap) := (HPI.out.c 1).trans HC1.out
      rw [hsp, hw2]
      clear hsp hw2 d0 d1 HO HBE hws hC
      obtain ⟨T3, hT3⟩ : ∃ b, (t.length != 3) = b := ⟨_, rfl⟩
      have d3 : ((st.size : Int) != 3) = T3 := by rw [← hT3, HSS.out, Bool.eq_iff_iff]; simp; omega
      have HT3 := Lib.hid hT3
      clear hT3
      go_cut [5] (fun a wx => a = .bool (A || T3) ∧ w2 = wx)
      case first =>
        cases A with
        | true => clear d3; go_wp2_with fail; go_meet; case rel => exact ⟨rfl, rfl⟩
        | false =>
          cases T3
          all_goals
            go_wp2_with fail
            go_meet
            case rel => exact ⟨rfl, rfl⟩
      case rest =>
        obtain ⟨rfl, rfl⟩ := hcut
        clear d3
        obtain ⟨A1, hA1⟩ : ∃ b, (A || T3) = b := ⟨_, rfl⟩
        have HA1 := Lib.hid hA1
        rw [hA1]
        clear hA1
        go_wp2_with fail
        go_loop [5, 10] (fun a i => ∃ (q : Nat) (A2 : Bool), q ≤ st.size ∧ i = .int .i64 (q : Int) ∧ a = .bool A2 ∧ Hid (A2 = (A1 || (t.take q).any fun c => !tagB c))) (fun _ i => st.size - (intOf i).toNat)
        case atStart => exact ⟨0, A1, Nat.zero_le _, rfl, rfl, Lib.hid (by simp)⟩
        case round =>
          obtain ⟨q, A2, hq, rfl, rfl, HA2⟩ := hrel
          by_cases hqlt : q < st.size
          · skip
            obtain ⟨c, hc⟩ : ∃ c, t[q]? = some c := ⟨_, List.getElem?_eq_getElem (by rw [← HSS.out]; exact hqlt)⟩
            have hcq : (st[q]'hqlt).toNat = c.toNat := by
              have h1 := at_byte st q hqlt
              have hd : st.data.toList = t := by rw [← HST.out]
              rw [hd, hc] at h1
              injection h1 with h1
              exact congrArg UInt8.toNat h1.symm
            have HT := Lib.hid (any_take (fun c => !tagB c) hc)
            have htc := fun w => rTag_any c w
            obtain ⟨TC, hTC⟩ : ∃ b, tagB c = b := ⟨_, rfl⟩
            have HTC := Lib.hid hTC
            rw [hTC] at htc
            obtain ⟨cn, hcn⟩ : ∃ n, c.toNat = n := ⟨_, rfl⟩
            rw [hcn] at hcq htc
            have HTA := Lib.hid htc
            have b5 : (0 : Int) ≤ q := by omega
            have b6 : (q : Int) < st.size := by omega
            clear hc hTC hcn htc
            cases A2 with
            | true =>
              go_wp2_with fail
              go_round
              case rel => exact ⟨q + 1, true, by omega, by go_num, rfl, Lib.hid (by rw [HT.out, ← Bool.or_assoc, ← HA2.out]; rfl)⟩
              case measure => simp [intOf]; omega
            | false =>
              cases TC
              all_goals
                go_wp2_with (go_at_call 47; (with_reducible refine (HTA.out _).mono ?_); rintro e w' ⟨rfl, rfl⟩)
                go_round
                case rel => exact ⟨q + 1, _, by omega, by go_num, rfl, Lib.hid (by rw [HT.out, ← Bool.or_assoc, ← HA2.out, HTC.out]; rfl)⟩
                case measure => simp [intOf]; omega
          · skip
            obtain rfl : q = st.size := by omega
            have hA2 : A2 = (A || tagBad t) := by
              have h1 := HA2.out
              rw [HSS.out, List.take_of_length_le (Nat.le_refl _), ← HA1.out, ← HT3.out] at h1
              rw [h1]; unfold tagBad; rw [Bool.or_assoc, List.not_all_eq_any_not]
            have HA2' := Lib.hid hA2
            obtain ⟨LE, hLE⟩ : ∃ b, decide (16 < m0) = b := ⟨_, rfl⟩
            have HLE := Lib.hid hLE
            clear hA2
            go_upto_region 15 with ((with_reducible refine wpList_at (.call { callee := .builtin .append, args := #[.tmp 52, .tmp 54], argTypes := #[39, 9] }) rfl ?_); go_loud (refine wp_app_str rfl _ _ rfl st rfl rfl HPI.out.1 (by omega) (HPI.out.le HBQ.out.symm) ?_); intro v3 w3 ho3 hg3; have HPI3 := Lib.hid (HPI.out.grow ho3 hg3 (HPI.out.le HBQ.out.symm)); clear ho3 hg3)
            have s0' : w3.cell? ⟨sp, 0, none⟩ = some (.string st) := (HPI3.out.c 0).trans HC0.out
            have s1' : w3.cell? ⟨sp, 1, none⟩ = some (.slice eo m0 ecap) := (HPI3.out.c 1).trans HC1.out
            have d16 : decide ((16 : Int) < (m0 : Int)) = LE := by rw [← hLE]; simp only [decide_eq_decide]; omega
            clear s0 s1 hLE
            go_cut [7] (fun lo wx => lo = .bool (L || LE) ∧ w3 = wx)
            case first =>
              cases L with
              | true => clear d16; go_wp2_with fail; go_meet; case rel => exact ⟨rfl, rfl⟩
              | false =>
                cases LE
                all_goals
                  go_wp2_with fail
                  go_meet
                  case rel => exact ⟨rfl, rfl⟩
            case rest =>
              obtain ⟨rfl, rfl⟩ := hcut
              clear d16
              obtain ⟨L1, hL1⟩ : ∃ b, (L || LE) = b := ⟨_, rfl⟩
              have HL1 := Lib.hid hL1
              rw [hL1]
              clear hL1
              have HP4 : Hid (PI B sp C w v3 (toldT l k t es 0 []) w3) := Lib.hid (by
                have h := HPI3.out
                have e1 : lt ++ st.data.toList = toldT l k t es 0 [] := by unfold toldT; rw [← HST.out, ← HLT.out]; simp
                rw [e1] at h; exact h)
              clear HPI3 HPI
              go_wp2_with fail
              clear s0' s1'
              go_loopw [4, 5, 6, 7, 11] (fun bv a sg lo i wr => ∃ (m : Nat) (A4 G2 L2 : Bool), m ≤ m0 ∧ i = .int .i64 (m : Int) ∧ a = .bool A4 ∧ sg = .bool G2 ∧ lo = .bool L2 ∧ Hid (A4 = (A2 || argE (es.take m))) ∧ Hid (G2 = (G || signE (es.take m))) ∧ Hid (L2 = (L1 || longE (es.take m))) ∧ Hid (PI B sp C w bv (toldT l k t es m []) wr)) (fun _ _ _ _ i _ => m0 - (intOf i).toNat)
              case atStart => exact ⟨0, A2, G, L1, Nat.zero_le _, rfl, rfl, rfl, rfl, Lib.hid (by simp [argE]), Lib.hid (by simp [signE]), Lib.hid (by simp [longE]), HP4⟩
              case round =>
                obtain ⟨m, A4, G2, L2, hm, rfl, rfl, rfl, rfl, HA4, HG2, HL2, HP5⟩ := hrel
                clear HP4
                have s0 : wr.cell? ⟨sp, 0, none⟩ = some (.string st) := (HP5.out.c 0).trans HC0.out
                have s1 : wr.cell? ⟨sp, 1, none⟩ = some (.slice eo m0 ecap) := (HP5.out.c 1).trans HC1.out
                by_cases hml : m < m0
                · skip
                  obtain ⟨e, he⟩ : ∃ e, es[m]? = some e := ⟨_, List.getElem?_eq_getElem (by rw [HM0.out]; exact hml)⟩
                  obtain ⟨eb, eoff, x2, rfl, heb, e0, hco⟩ := HEL.out.get he
                  obtain ⟨ea, ecap2, rfl, hc1, hc2⟩ := hco.form
                  have heb' : eb < B := by rw [← HBQ.out]; exact heb
                  have e1 := (HP5.out.2.2.cell (p := ⟨eb, eoff + m, none⟩) heb').trans e0
                  have HCO := Lib.hid hco
                  have hmem := List.mem_of_getElem? he
                  obtain ⟨hne1, hne2⟩ := HBE1.out e hmem
                  have HPE := Lib.hid (HBE2.out e hmem)
                  have HE := Lib.hid he
                  obtain ⟨ne, hne⟩ : ∃ ne, e.length = ne := ⟨_, rfl⟩
                  have HNE := Lib.hid hne
                  rw [hne] at e1 hne1 hc1
                  have b3 : (0 : Int) ≤ m := by omega
                  have b4 : (m : Int) < m0 := by omega
                  obtain ⟨EE, hEE⟩ : ∃ b, decide (ne = 0) = b := ⟨_, rfl⟩
                  have HEE := Lib.hid hEE
                  obtain ⟨LC, hLC⟩ : ∃ b, decide (8 < ne) = b := ⟨_, rfl⟩
                  have HLC := Lib.hid hLC
                  have d0 : ((ne : Int) == 0) = EE := by rw [← hEE]; rw [Bool.eq_iff_iff]; simp
                  have d8 : decide ((8 : Int) < (ne : Int)) = LC := by rw [← hLC]; simp only [decide_eq_decide]; omega
                  unfold maxLen at hc2
                  clear he heb e0 hco hmem hne hEE hLC
                  go_upto_region 20 with fail
                  clear e1
                  go_cut [5] (fun a wx => a = .bool (A4 || EE) ∧ wr = wx)
                  case first =>
                    clear d8
                    cases A4 with
                    | true => clear d0; go_wp2_with fail; go_meet; case rel => exact ⟨rfl, rfl⟩
                    | false =>
                      cases EE
                      all_goals
                        go_wp2_with fail
                        go_meet
                        case rel => exact ⟨rfl, rfl⟩
                  case rest =>
                    obtain ⟨rfl, rfl⟩ := hcut
                    clear d0
                    go_upto_region 21 with fail
                    go_cut [7] (fun lo wx => lo = .bool (L2 || LC) ∧ wr = wx)
                    case first =>
                      cases L2 with
                      | true => clear d8; go_wp2_with fail; go_meet; case rel => exact ⟨rfl, rfl⟩
                      | false =>
                        cases LC
                        all_goals
                          go_wp2_with fail
                          go_meet
                          case rel => exact ⟨rfl, rfl⟩
                    case rest =>
                      obtain ⟨rfl, rfl⟩ := hcut
                      clear d8
                      obtain ⟨A5, hA5⟩ : ∃ b, (A4 || EE) = b := ⟨_, rfl⟩
                      have HA5 := Lib.hid hA5
                      obtain ⟨L3, hL3⟩ : ∃ b, (L2 || LC) = b := ⟨_, rfl⟩
                      have HL3 := Lib.hid hL3
                      rw [hA5, hL3]
                      clear hA5 hL3
                      have HTL := Lib.hid (fun (x : Str) (hx : x.length ≤ (elemT e).length + 1) => Nat.le_trans (told_len HS.out HE.out hx) HPL.out)
                      have hbn := HTL.out [] (by simp)
                      have d43 : bv 43 = .int .u8 43 := rfl
                      go_wp2_with ((with_reducible refine wpList_at (.call { callee := .builtin .append, args := #[.tmp 87, .tmp 88], argTypes := #[39, 39] }) rfl ?_); go_loud (refine wp_app1 rfl _ _ rfl 43 rfl rfl HP5.out.1 (by omega) (HP5.out.le HBQ.out.symm) ?_); intro v4 w4 ho4 hg4; have HPI4 := Lib.hid (HP5.out.grow ho4 hg4 (HP5.out.le HBQ.out.symm)); clear ho4 hg4)
                      clear hbn
                      have HP6 : Hid (PI B sp C w v4 (toldT l k t es m (43 :: elemT (e.take 0))) w4) := Lib.hid (by
                        have h := HPI4.out
                        have e1 : toldT l k t es m [] ++ [43] = toldT l k t es m (43 :: elemT (e.take 0)) := by unfold toldT; simp [elemT, joinB]
                        rw [e1] at h; exact h)
                      clear HPI4 s0 s1
                      go_loopw [4, 6, 7, 13] (fun bv sg lo i wr => ∃ (j : Nat) (G3 L4 : Bool), j ≤ ne ∧ i = .int .i64 (j : Int) ∧ sg = .bool G3 ∧ lo = .bool L4 ∧ Hid (G3 = (G2 || signC (e.take j))) ∧ Hid (L4 = (L3 || longC (e.take j))) ∧ Hid (PI B sp C w bv (toldT l k t es m (43 :: elemT (e.take j))) wr)) (fun _ _ _ i _ => ne - (intOf i).toNat)
                      case atStart => exact ⟨0, G2, L3, Nat.zero_le _, rfl, rfl, rfl, Lib.hid (by simp [signC]), Lib.hid (by simp [longC]), HP6⟩
                      case round =>
                        obtain ⟨j, G3, L4, hj, rfl, rfl, rfl, HG3, HL4, HP7⟩ := hrel
                        clear HP6
                        by_cases hjl : j < ne
                        · skip
                          obtain ⟨p, hp⟩ : ∃ p, e[j]? = some p := ⟨_, List.getElem?_eq_getElem (by rw [HNE.out]; exact hjl)⟩
                          obtain ⟨pb, poff, rfl, hpb, g0⟩ := HCO.out.get hp
                          have hpb' : pb < B := by rw [← HBQ.out]; exact hpb
                          have hpl := preT_len hp
                          have hps := HPE.out p (List.mem_of_getElem? hp)
                          have HP := Lib.hid hp
                          obtain ⟨ps, hpse⟩ : ∃ ps : ByteArray, (⟨p.toArray⟩ : ByteArray) = ps := ⟨_, rfl⟩
                          have hpsz : ps.size = p.length := by rw [← hpse]; rfl
                          simp only [sv] at g0
                          rw [hpse] at g0
                          have HPS := Lib.hid hpse
                          have HG0 := Lib.hid g0
                          have b5 : (0 : Int) ≤ j := by omega
                          have b6 : (j : Int) < ne := by omega
                          clear hp hpb hpse g0
                          have hbn := HTL.out (43 :: elemT (e.take j)) (by
                            rw [List.length_cons]
                            have h0 : (elemT (e.take j)).length ≤ (elemT e).length := by
                              have h1 : ∀ (a b : List Str), (elemT a).length ≤ (elemT (a ++ b)).length := fun a b => by
                                cases a with
                                | nil => simp [elemT, joinB]
                                | cons x a => rw [List.cons_append, elemT_cons, elemT_cons]; unfold restT; rw [List.flatMap_append]; simp
                              have := h1 (e.take j) (e.drop j)
                              rw [List.take_append_drop] at this; exact this
                            omega)
                          go_upto_if 97 with fail
                          go_cut [4] (fun bv wx => Hid (PI B sp C w bv (toldT l k t es m (43 :: preT e j)) wx))
                          case first =>
                            by_cases hj0 : j = 0
                            · subst hj0
                              go_wp2_with fail
                              go_meet
                              case rel => exact Lib.hid HP7.out
                            · have dj : decide ((0 : Int) < (j : Int)) = true := by rw [decide_eq_true_eq]; omega
                              have HJ := Lib.hid hj0
                              have dj2 : (0 : Int) < (j : Int) := by omega
                              clear hj0
                              go_wp2_with ((with_reducible refine wpList_at (.call { callee := .builtin .append, args := #[.tmp 98, .tmp 99], argTypes := #[39, 39] }) rfl ?_); go_loud (refine wp_app1 rfl _ _ rfl 58 rfl rfl HP7.out.1 (by omega) (HP7.out.le HBQ.out.symm) ?_); intro v5 w5 ho5 hg5; have HPI5 := Lib.hid (HP7.out.grow ho5 hg5 (HP7.out.le HBQ.out.symm)); clear ho5 hg5)
                              go_meet
                              case rel =>
                                exact Lib.hid (by
                                  have h := HPI5.out
                                  have e1 : toldT l k t es m (43 :: elemT (e.take j)) ++ [58] = toldT l k t es m (43 :: preT e j) := by unfold toldT preT; rw [if_neg HJ.out]; simp
                                  rw [e1] at h; exact h)
                          case rest =>
                            have HP8 := hcut
                            clear hcut HP7 hbn
                            obtain ⟨LP, hLP⟩ : ∃ b, decide (256 < p.length) = b := ⟨_, rfl⟩
                            have HLP := Lib.hid hLP
                            have d256 : decide ((256 : Int) < (ps.size : Int)) = LP := by rw [← hLP, hpsz]; simp only [decide_eq_decide]; omega
                            have g1 := (HP8.out.2.2.cell (p := ⟨pb, poff + j, none⟩) hpb').trans HG0.out
                            have HPSZ := Lib.hid hpsz
                            have hpsb : ps.size ≤ 1048576 := by omega
                            clear hLP hpsz
                            go_upto_region 28 with fail
                            go_cut [7] (fun lo wx => lo = .bool (L4 || LP) ∧ wc = wx)
                            case first =>
                              cases L4 with
                              | true => clear d256; go_wp2_with fail; go_meet; case rel => exact ⟨rfl, rfl⟩
                              | false =>
                                cases LP
                                all_goals
                                  go_wp2_with fail
                                  go_meet
                                  case rel => exact ⟨rfl, rfl⟩
                            case rest =>
                              obtain ⟨rfl, rfl⟩ := hcut
                              clear d256
                              obtain ⟨L5, hL5⟩ : ∃ b, (L4 || LP) = b := ⟨_, rfl⟩
                              have HL5 := Lib.hid hL5
                              rw [hL5]
                              clear hL5
                              have HP9 : Hid (PI B sp C w u4 (toldT l k t es m (43 :: (preT e j ++ compT (p.take 0)))) wc) := Lib.hid (by
                                have h := HP8.out
                                have e1 : preT e j ++ compT (p.take 0) = preT e j := by simp [compT]
                                rw [e1]; exact h)
                              go_wp2_with fail
                              clear g1
                              go_loopw [4, 6, 14] (fun bv sg i wr => ∃ (z : Nat) (G4 : Bool), z ≤ ps.size ∧ i = .int .i64 (z : Int) ∧ sg = .bool G4 ∧ Hid (G4 = (G3 || (p.take z).any badB)) ∧ Hid (PI B sp C w bv (toldT l k t es m (43 :: (preT e j ++ compT (p.take z)))) wr)) (fun _ _ i _ => ps.size - (intOf i).toNat)
                              case atStart => exact ⟨0, G3, Nat.zero_le _, rfl, rfl, Lib.hid (by simp), HP9⟩
                              case round =>
                                obtain ⟨z, G4, hz, rfl, rfl, HG4, HPA⟩ := hrel
                                clear HP9 HP8
                                have g1 := (HPA.out.2.2.cell (p := ⟨pb, poff + j, none⟩) hpb').trans HG0.out
                                by_cases hzl : z < ps.size
                                · skip
                                  obtain ⟨c, hc⟩ : ∃ c, p[z]? = some c := ⟨_, List.getElem?_eq_getElem (by rw [← HPSZ.out]; exact hzl)⟩
                                  have hcq : (ps[z]'hzl).toNat = c.toNat := by
                                    have h1 := at_byte ps z hzl
                                    have hd : ps.data.toList = p := by rw [← HPS.out]
                                    rw [hd, hc] at h1
                                    injection h1 with h1
                                    exact congrArg UInt8.toNat h1.symm
                                  have HB := Lib.hid (any_take badB hc)
                                  have HCT := Lib.hid (compT_take hc)
                                  have hcl : (compT (p.take (z + 1))).length ≤ (compT p).length := by rw [compT_len p]; exact outF_fit p (z + 1)
                                  have hx2 : 1 ≤ (escB c).length := by unfold escB; split <;> simp
                                  have hcl2 : (compT (p.take z)).length + (escB c).length ≤ (compT p).length := by rw [HCT.out, List.length_append] at hcl; exact hcl
                                  have hbn1 := HTL.out (43 :: (preT e j ++ compT (p.take z))) (by rw [List.length_cons, List.length_append]; omega)
                                  obtain ⟨B1, hB1⟩ : ∃ b, decide (c.toNat < 32) = b := ⟨_, rfl⟩
                                  obtain ⟨B2, hB2⟩ : ∃ b, decide (126 < c.toNat) = b := ⟨_, rfl⟩
                                  have HBB := Lib.hid (show badB c = (B1 || B2) by unfold badB; rw [hB1, hB2])
                                  have d32 : decide ((c.toNat : Int) < 32) = B1 := by rw [← hB1]; simp only [decide_eq_decide]; omega
                                  have d126 : decide ((126 : Int) < (c.toNat : Int)) = B2 := by rw [← hB2]; simp only [decide_eq_decide]; omega
                                  have b7 : (0 : Int) ≤ z := by omega
                                  have b8 : (z : Int) < ps.size := by omega
                                  have hts := fun w => rSign_any c w
                                  obtain ⟨SB, hSB⟩ : ∃ b, signB c = b := ⟨_, rfl⟩
                                  have HSB := Lib.hid hSB
                                  rw [hSB] at hts
                                  have HTS := Lib.hid hts
                                  have HEB := Lib.hid (show escB c = if SB then [63, c] else [c] by unfold escB; rw [hSB])
                                  have hbn2 : (toldT l k t es m (43 :: (preT e j ++ compT (p.take z))) ++ [63]).length + 1 ≤ 140737488355328 := by rw [List.length_append, List.length_singleton]; omega
                                  clear hc hB1 hB2 hSB hts hcl
                                  go_upto_region 33 with fail
                                  go_cut [6] (fun sg wx => sg = .bool (G4 || (B1 || B2)) ∧ wr = wx)
                                  case first =>
                                    cases G4 with
                                    | true => clear d32 d126; go_wp2_with fail; go_meet; case rel => exact ⟨rfl, rfl⟩
                                    | false =>
                                      cases B1 with
                                      | true => clear d126; go_wp2_with fail; go_meet; case rel => exact ⟨rfl, rfl⟩
                                      | false =>
                                        cases B2
                                        all_goals
                                          go_wp2_with fail
                                          go_meet
                                          case rel => exact ⟨rfl, rfl⟩
                                  case rest =>
                                    obtain ⟨rfl, rfl⟩ := hcut
                                    clear d32 d126
                                    obtain ⟨G5, hG5⟩ : ∃ b, (G4 || (B1 || B2)) = b := ⟨_, rfl⟩
                                    have HG5 := Lib.hid hG5
                                    rw [hG5]
                                    clear hG5
                                    cases SB with
                                    | true =>
                                      go_wp2_with first
                                        | (go_at_call 48; (with_reducible refine (HTS.out _).mono ?_); rintro e w' ⟨rfl, rfl⟩)
                                        | ((with_reducible refine wpList_at (.call { callee := .builtin .append, args := #[.tmp 136, .tmp 137], argTypes := #[39, 39] }) rfl ?_); go_loud (refine wp_app1 rfl _ _ rfl 63 rfl rfl HPA.out.1 (by omega) (HPA.out.le HBQ.out.symm) ?_); intro v8 w8 ho8 hg8; have HPI8 := Lib.hid (HPA.out.grow ho8 hg8 (HPA.out.le HBQ.out.symm)); clear ho8 hg8)
                                        | ((with_reducible refine wpList_at (.call { callee := .builtin .append, args := #[.tmp 139, .tmp 141], argTypes := #[39, 39] }) rfl ?_); go_loud (refine wp_app1 rfl _ _ rfl c rfl rfl HPI8.out.1 (by exact hbn2) (HPI8.out.le HBQ.out.symm) ?_); intro v9 w9 ho9 hg9; have HPI9 := Lib.hid (HPI8.out.grow ho9 hg9 (HPI8.out.le HBQ.out.symm)); clear ho9 hg9)
                                      go_roundw
                                      case rel =>
                                        refine ⟨z + 1, G5, by omega, by go_num, rfl, Lib.hid ?_, Lib.hid ?_⟩
                                        · rw [HB.out, ← Bool.or_assoc, ← HG4.out, HBB.out, HG5.out]
                                        · have h := HPI9.out
                                          have e1 : toldT l k t es m (43 :: (preT e j ++ compT (p.take z))) ++ [63] ++ [c] = toldT l k t es m (43 :: (preT e j ++ compT (p.take (z + 1)))) := by
                                            rw [HCT.out, HEB.out]; unfold toldT; simp
                                          rw [e1] at h; exact h
                                      case measure => simp [intOf]; omega
                                    | false =>
                                      go_wp2_with first
                                        | (go_at_call 48; (with_reducible refine (HTS.out _).mono ?_); rintro e w' ⟨rfl, rfl⟩)
                                        | ((with_reducible refine wpList_at (.call { callee := .builtin .append, args := #[.tmp 139, .tmp 141], argTypes := #[39, 39] }) rfl ?_); go_loud (refine wp_app1 rfl _ _ rfl c rfl rfl HPA.out.1 (by omega) (HPA.out.le HBQ.out.symm) ?_); intro v9 w9 ho9 hg9; have HPI9 := Lib.hid (HPA.out.grow ho9 hg9 (HPA.out.le HBQ.out.symm)); clear ho9 hg9)
                                      go_roundw
                                      case rel =>
                                        refine ⟨z + 1, G5, by omega, by go_num, rfl, Lib.hid ?_, Lib.hid ?_⟩
                                        · rw [HB.out, ← Bool.or_assoc, ← HG4.out, HBB.out, HG5.out]
                                        · have h := HPI9.out
                                          have e1 : toldT l k t es m (43 :: (preT e j ++ compT (p.take z))) ++ [c] = toldT l k t es m (43 :: (preT e j ++ compT (p.take (z + 1)))) := by
                                            rw [HCT.out, HEB.out]; unfold toldT; simp
                                          rw [e1] at h; exact h
                                      case measure => simp [intOf]; omega
                                · skip
                                  obtain rfl : z = ps.size := by omega
                                  have hte : p.take ps.size = p := List.take_of_length_le (by rw [HPSZ.out]; exact Nat.le_refl _)
                                  have HTE := Lib.hid hte
                                  clear hte
                                  go_wp2_with fail
                                  go_roundw
                                  case rel =>
                                    refine ⟨j + 1, G4, L5, by omega, by go_num, rfl, rfl, Lib.hid ?_, Lib.hid ?_, Lib.hid ?_⟩
                                    · rw [HG4.out, HTE.out, HG3.out]; unfold signC; rw [any_take (fun p => p.any badB) HP.out, Bool.or_assoc]
                                    · rw [← HL5.out, HL4.out, ← HLP.out]; unfold longC; rw [any_take (fun p => decide (256 < p.length)) HP.out, Bool.or_assoc]
                                    · have h := HPA.out
                                      rw [HTE.out, ← preT_comp HP.out] at h; exact h
                                  case measure => simp [intOf]; omega
                        · skip
                          obtain rfl : j = ne := by omega
                          have hte : e.take j = e := List.take_of_length_le (by rw [HNE.out]; exact Nat.le_refl _)
                          have HTE := Lib.hid hte
                          clear hte
                          go_wp2_with fail
                          go_roundw
                          case rel =>
                            refine ⟨m + 1, A5, G3, L4, by omega, by go_num, rfl, rfl, rfl, Lib.hid ?_, Lib.hid ?_, Lib.hid ?_, Lib.hid ?_⟩
                            · rw [← HA5.out, HA4.out, ← HEE.out]; unfold argE; rw [any_take (fun e : List Str => e.isEmpty) HE.out, ← HNE.out]; cases e <;> simp
                            · rw [HG3.out, HTE.out, HG2.out]; unfold signE; rw [any_take signC HE.out, Bool.or_assoc]
                            · rw [HL4.out, HTE.out, ← HL3.out, HL2.out, ← HLC.out]; unfold longE; rw [any_take (fun e => decide (8 < e.length) || longC e) HE.out, HNE.out]; simp only [Bool.or_assoc]
                            · have h := HP7.out
                              have e1 : toldT l k t es m (43 :: elemT (e.take j)) = toldT l k t es (m + 1) [] := by
                                rw [HTE.out]; unfold toldT; rw [flat_take (fun e => 43 :: elemT e) HE.out]; simp
                              rw [e1] at h; exact h
                          case measure => simp [intOf]; omega
                · skip
                  obtain rfl : m = m0 := by omega
                  have hte : es.take m = es := List.take_of_length_le (by rw [HM0.out]; exact Nat.le_refl _)
                  have HTE := Lib.hid hte
                  have htt : toldT l k t es m [] ++ [39] = printT (l.take (k + 1)) := by
                    rw [printT_take HS.out]; unfold toldT segT; rw [hte]; simp
                  have HTT := Lib.hid htt
                  have hbn : (toldT l k t es m []).length + 1 ≤ 1048576 := by
                    have h1 := congrArg List.length htt
                    have h2 := flat_take_len segT l (k + 1)
                    have h3 := HPL.out
                    unfold printT at h1 h3
                    rw [List.length_append, List.length_singleton] at h1
                    omega
                  clear hte htt
                  go_wp2_with ((with_reducible refine wpList_at (.call { callee := .builtin .append, args := #[.tmp 143, .tmp 144], argTypes := #[39, 39] }) rfl ?_); go_loud (refine wp_app1 rfl _ _ rfl 39 rfl rfl HP5.out.1 (by omega) (HP5.out.le HBQ.out.symm) ?_); intro v4 w4 ho4 hg4; have HPI4 := Lib.hid (HP5.out.grow ho4 hg4 (HP5.out.le HBQ.out.symm)); clear ho4 hg4)
                  go_roundw
                  case rel =>
                    refine ⟨k + 1, A4, G2, L2, by omega, by go_num, rfl, rfl, rfl, Lib.hid ?_, Lib.hid ?_, Lib.hid ?_, Lib.hid ?_, Lib.hid ?_⟩
                    · rw [any_take argS HS.out, ← HA.out, HA4.out, HTE.out, HA2'.out, Bool.or_assoc]; rfl
                    · rw [any_take (fun s => signE s.elems) HS.out, ← HG.out]; have h := HG2.out; rw [HTE.out] at h; exact h
                    · rw [HL2.out, HTE.out, ← HL1.out, HL.out, ← HLE.out, any_take longS HS.out, show longS ⟨t, es⟩ = (decide (16 < es.length) || longE es) from rfl, HM0.out]; simp only [Bool.or_assoc]
                    · have h := HPI4.out.1; rw [HTT.out] at h; exact h
                    · exact HPI4.out.2.2
                  case measure => simp [intOf]; omega
    · skip
      obtain rfl : k = n := by omega
      have hte : l.take k = l := List.take_of_length_le (by rw [HLN.out]; exact Nat.le_refl _)
      have hB0 := HO.out
      have hA := HA.out
      have hG := HG.out
      have hL := HL.out
      rw [hte] at hB0 hA hG hL
      have hLP : longP l = L := by rw [longP_eq, hL, ← HLG.out, HLN.out]
      have hpe : printE l = if A then ([], 1) else if G then ([], 30) else if L || decide (65536 < (printT l).length) then ([], 2) else (printT l, 0) := by
        unfold printE; rw [argP_eq, ← hA, signP_eq, ← hG, hLP]
      have hBw := HBE.out.size
      rw [HBQ.out] at hBw
      have HBE2 := HBE.out
      have HLN' := HLN.out
      have hlp := HPL.out
      rw [HR.out] at hpe
      obtain ⟨PT, hPT⟩ : ∃ PT, printT l = PT := ⟨_, rfl⟩
      rw [hPT] at hpe hB0 hlp
      clear hA hG hL hte hLP HA HG HL HO HLG HR HPL HBD HLN' hPT
      have hHBE2 := Lib.hid HBE2
      obtain ⟨ba, bc, rfl⟩ := hB0.form
      have hcv : (convert 39 9 (.slice ba PT.length bc)).run Tryz.prog wr = .ok (.string ⟨PT.toArray⟩) wr := conv_own hB0
      clear hB0 HBE2
      cases A with
      | true =>
        obtain rfl : R = ([], 1) := hpe
        clear hcv
        go_wp2_with fail
        go_ret2
        exact ⟨rfl, hHBE2.out⟩
      | false =>
        cases G with
        | true =>
          obtain rfl : R = ([], 30) := hpe
          go_wp2_with fail
          go_ret2
          exact ⟨rfl, hHBE2.out⟩
        | false =>
          cases L with
          | true =>
            obtain rfl : R = ([], 2) := hpe
            go_wp2_with fail
            go_ret2
            exact ⟨rfl, hHBE2.out⟩
          | false =>
            by_cases hbig : 65536 < PT.length
            · obtain rfl : R = ([], 2) := by rw [hpe]; simp [hbig]
              have hd : decide ((65536 : Int) < (PT.length : Int)) = true := by simp; omega
              clear hcv
              go_wp2_with fail
              go_ret2
              exact ⟨rfl, hHBE2.out⟩
            · obtain rfl : R = (PT, 0) := by rw [hpe]; simp [hbig]
              have hd : decide ((65536 : Int) < (PT.length : Int)) = false := by simp; omega
              go_wp2_with fail
              go_ret2
              exact ⟨rfl, hHBE2.out⟩
end Go.Proofs.YteaaiejfieaalaaGreatDoor

/-
  EdiA6: segments that are made anew, element by element: how they lie. No condition beyond those stated.
-/
namespace Go.Proofs.YteaaiejfieaalaaGreatDoor
open Go.RowKit
/-- elements that are being made, held by a segment in block sp -/
structure OE (H sp : Nat) (st : ByteArray) (w : World) (ev : Value) (ys : List Value) (es : List (List Str)) : Prop where
  row : w.ownsRow H 53 1 ev es.length ys
  len : ys.length = es.length
  c : w.heap[sp]? = some (.cells #[.string st, ev] 36 (0, 0))
  el : ∀ (i : Nat) (e : List Str) (x : Value), es[i]? = some e → ys[i]? = some x → CompsAt (fun b => H ≤ b ∧ b < w.heap.size ∧ ev.ownBlock ≠ some b ∧ b ≠ sp) w x e
theorem OE.start {H sp : Nat} {st : ByteArray} {w : World} (hc : w.heap[sp]? = some (.cells #[.string st, .slice none 0 0] 36 (0, 0))) : OE H sp st w (.slice none 0 0) [] [] :=
  ⟨World.ownsRow_nil _ _ _ _, rfl, hc, fun i e x h => by simp at h⟩
theorem OE.cells {H sp : Nat} {st : ByteArray} {w : World} {ev : Value} {ys : List Value} {es : List (List Str)} (h : OE H sp st w ev ys es) : w.cell? ⟨sp, 0, none⟩ = some (.string st) ∧ w.cell? ⟨sp, 1, none⟩ = some ev ∧ w.frozen? ⟨sp, 1, none⟩ = false :=
  ⟨cell_of_row w sp 0 _ _ _ h.c, cell_of_row w sp 1 _ _ _ h.c, frozen_of_row w sp 1 _ _ h.c⟩
theorem OE.lt {H sp : Nat} {st : ByteArray} {w : World} {ev : Value} {ys : List Value} {es : List (List Str)} (h : OE H sp st w ev ys es) : sp < w.heap.size := (Array.getElem?_eq_some_iff.1 h.c).1
theorem OE.drew {H sp : Nat} {st : ByteArray} {w w' : World} {ev : Value} {ys : List Value} {es : List (List Str)} (h : OE H sp st w ev ys es) (e : w'.heap = w.heap) : OE H sp st w' ev ys es :=
  ⟨own_cong h.row (fun k _ => by rw [e]), h.len, by rw [e]; exact h.c, fun i e' x h1 h2 => (h.el i e' x h1 h2).cong (fun k hk => by rw [e]; exact hk) (fun k _ => by rw [e])⟩
theorem row_snoc {α : Type} {l : List α} {a : α} {i : Nat} {x : α} (h : (l ++ [a])[i]? = some x) : l[i]? = some x ∨ (i = l.length ∧ x = a) := by
  rcases Nat.lt_or_ge i l.length with hi | hi
  · rw [List.getElem?_append_left hi] at h; exact .inl h
  · rw [List.getElem?_append_right hi] at h
    obtain ⟨hlt, h2⟩ := List.getElem?_eq_some_iff.1 h
    simp at hlt
    exact .inr ⟨by omega, by rw [← h2]; simp⟩
theorem own_not {w : World} {B : Nat} {e t : TypeId} {s n k : Nat} {v : Value} {xs : List Value} {C : Array Value} (h : w.ownsRow B e s v n xs) (hc : w.heap[k]? = some (.cells C t (0, 0))) (hne : t ≠ e) : v.ownBlock ≠ some k := fun hk => by
  obtain ⟨C', hC, _⟩ := own_ty h hk
  rw [hc] at hC
  cases hC; exact hne rfl
theorem OE.step {H sp : Nat} {st : ByteArray} {w w2 w3 : World} {ev ev' cv : Value} {ys : List Value} {es : List (List Str)} {e : List Str} (h : OE H sp st w ev ys es) (hH : H ≤ w.heap.size) (hb : Below w.heap.size w w2)
    (hco : CompsAt (fun b => w.heap.size ≤ b ∧ b < w2.heap.size) w2 cv e) (hg : w2.grownBy w3 ev.ownBlock) (ho : w3.ownsRow H 53 1 ev' (es.length + 1) (ys ++ [cv])) (hk : ev'.ownBlock = ev.ownBlock ∨ ∃ k, ev'.ownBlock = some k ∧ w2.heap.size ≤ k) :
    OE H sp st (w3.setCell ⟨sp, 1, none⟩ ev') ev' (ys ++ [cv]) (es ++ [e]) := by
  have hsp := h.lt
  have hz := hb.size
  have hz3 := hg.size
  have hesp : ev.ownBlock ≠ some sp := own_not h.row h.c (by decide)
  have c3 : w3.heap[sp]? = some (.cells #[.string st, ev] 36 (0, 0)) := (hg.block sp (by omega) (fun e => hesp e.symm)).trans ((hb.block sp hsp).trans h.c)
  have hesp' : ev'.ownBlock ≠ some sp := own_not ho c3 (by decide)
  have far : ∀ k, k ≠ sp → (w3.setCell ⟨sp, 1, none⟩ ev').heap[k]? = w3.heap[k]? := fun k hk => heap_setCell_other w3 _ _ _ (by simpa using hk)
  have hsz : (w3.setCell ⟨sp, 1, none⟩ ev').heap.size = w3.heap.size := by simp
  have hcond : ∀ b, b < w2.heap.size → ev.ownBlock ≠ some b → ev'.ownBlock ≠ some b := fun b hb2 hne he => by
    rcases hk with hk | ⟨k, hk, hk2⟩
    · exact hne (hk ▸ he)
    · rw [hk] at he; cases he; omega
  refine ⟨?_, by simp [h.len], heap_setCell_same w3 sp 1 _ _ _ c3, fun i a x h1 h2 => ?_⟩
  · rw [List.length_append]; exact own_cong ho (fun k hk => far k (fun e => hesp' (e ▸ hk)))
  · rcases row_snoc h1 with h1 | ⟨rfl, rfl⟩
    · have hil := (List.getElem?_eq_some_iff.1 h1).1
      rw [List.getElem?_append_left (by rw [h.len]; exact hil)] at h2
      have h3 := h.el i a x h1 h2
      refine h3.cong (fun b hb' => ⟨hb'.1, by omega, hcond b (by omega) hb'.2.2.1, hb'.2.2.2⟩) (fun b hb' => ?_)
      exact (far b hb'.2.2.2).trans ((hg.block b (by omega) (fun e => hb'.2.2.1 e.symm)).trans (hb.block b (by omega)))
    · rw [← h.len, List.getElem?_append_right (Nat.le_refl _), Nat.sub_self] at h2
      cases h2
      have hne : ∀ b, w.heap.size ≤ b → ev.ownBlock ≠ some b := fun b hb' he => by have := (own_lt h.row he).2; omega
      refine hco.cong (fun b hb' => ⟨by omega, by omega, hcond b hb'.2 (hne b hb'.1), by omega⟩) (fun b hb' => ?_)
      exact (far b (by omega)).trans (hg.block b hb'.2 (fun e => hne b hb'.1 e.symm))
/-- segments that are being made -/
structure OO (B : Nat) (w : World) (ov : Value) (xs : List Value) (l : List Seg) : Prop where
  row : w.ownsRow B 36 2 ov l.length (segCells l xs)
  len : xs.length = l.length
  el : ∀ (i : Nat) (s : Seg) (x : Value), l[i]? = some s → xs[i]? = some x → ElemsAt (fun b => B ≤ b ∧ b < w.heap.size ∧ ov.ownBlock ≠ some b) w x s.elems
theorem OO.start (B : Nat) (w : World) : OO B w (.slice none 0 0) [] [] := ⟨World.ownsRow_nil _ _ _ _, rfl, fun i s x h => by simp at h⟩
theorem OO.step {B H sp : Nat} {st : ByteArray} {t : Str} {w wr w4 : World} {ov ov' ev : Value} {xs ys : List Value} {l : List Seg} {es : List (List Str)} (h : OO B w ov xs l) (hst : (⟨t.toArray⟩ : ByteArray) = st) (hH : w.heap.size = H) (hB : B ≤ H) (hb : Below H w wr) (he : OE H sp st wr ev ys es)
    (hg : wr.grownBy w4 ov.ownBlock) (ho : w4.ownsRow B 36 2 ov' (l.length + 1) (segCells l xs ++ [.string st, ev])) (hk : ov'.ownBlock = ov.ownBlock ∨ ∃ k, ov'.ownBlock = some k ∧ wr.heap.size ≤ k) :
    OO B w4 ov' (xs ++ [ev]) (l ++ [⟨t, es⟩]) := by
  have hz := hb.size
  have hz4 := hg.size
  have hcond : ∀ b, b < wr.heap.size → ov.ownBlock ≠ some b → ov'.ownBlock ≠ some b := fun b hb2 hne he => by
    rcases hk with hk | ⟨k, hk, hk2⟩
    · exact hne (hk ▸ he)
    · rw [hk] at he; cases he; omega
  have hov : ∀ k, ov.ownBlock = some k → k < H := fun k hk => by rw [← hH]; exact (own_lt h.row hk).2
  refine ⟨?_, by simp [h.len], fun i s x h1 h2 => ?_⟩
  · rw [List.length_append, segCells_app l [⟨t, es⟩] xs [ev] h.len]
    have : segCells [⟨t, es⟩] [ev] = [.string st, ev] := by rw [← hst]; rfl
    rw [this]; exact ho
  · rcases row_snoc h1 with h1 | ⟨rfl, rfl⟩
    · have hil := (List.getElem?_eq_some_iff.1 h1).1
      rw [List.getElem?_append_left (by rw [h.len]; exact hil)] at h2
      refine (h.el i s x h1 h2).cong (fun b hb' => ⟨hb'.1, by omega, hcond b (by omega) hb'.2.2⟩) (fun b hb' => ?_)
      exact (hg.block b (by omega) (fun e => hb'.2.2 e.symm)).trans (hb.block b (by omega))
    · rw [← h.len, List.getElem?_append_right (Nat.le_refl _), Nat.sub_self] at h2
      cases h2
      have hne : ∀ b, H ≤ b → ov.ownBlock ≠ some b := fun b hb' he => by have := hov b he; omega
      have hr : wr.ownsRow H 53 1 ev ys.length ys := by rw [he.len]; exact he.row
      have h5 : RowAt (fun b => H ≤ b ∧ b < wr.heap.size) wr ev ys := own_rest hr (fun k hk => own_lt he.row hk)
      refine ⟨ys, h5.cong (fun b hb' => ⟨by omega, by omega, hcond b hb'.2 (hne b hb'.1)⟩) (fun b hb' => hg.block b hb'.2 (fun e => hne b hb'.1 e.symm)), he.len, fun i e x h6 h7 => ?_⟩
      exact (he.el i e x h6 h7).cong (fun b hb' => ⟨by omega, by omega, hcond b hb'.2.1 (hne b hb'.1)⟩) (fun b hb' => hg.block b hb'.2.1 (fun e => hne b hb'.1 e.symm))
theorem OO.rest {B : Nat} {w : World} {ov : Value} {xs : List Value} {l : List Seg} (h : OO B w ov xs l) : SegsAt (fun b => B ≤ b ∧ b < w.heap.size) w ov l :=
  segs_rest h.row h.len (fun _ hk => own_lt h.row hk) (fun i s x h1 h2 => (h.el i s x h1 h2).cong (fun _ hb => ⟨hb.1, hb.2.1⟩) (fun _ _ => rfl))
end Go.Proofs.YteaaiejfieaalaaGreatDoor

/-
  EdiA7: contract of own: segments in memory of their own. No condition beyond those stated.
-/
namespace Go.Proofs.YteaaiejfieaalaaGreatDoor
open Go.RowKit
def OwnQ (w : World) (l : List Seg) (e : Ending) (w' : World) : Prop := ∃ v' xs, e = .returned v' ∧ OO w.heap.size w' v' xs l
theorem cells_two (w : World) (x y : Value) (t : TypeId) : ∀ (j : Nat) (u : Value), [x, y][j]? = some u → (w.alloc (.cells #[x, y] t)).cell? ((⟨w.heap.size, 0, none⟩ : Addr).add j) = some u := by
  intro j u hj
  match j, hj with
  | 0, hj => simp at hj; subst hj; simp [Addr.add]
  | 1, hj => simp at hj; subst hj; simp [Addr.add]
/-- components behind, all at once -/
theorem wp_app_row {ops : Array Oper} {rest : List Oper} {o : Oper} {a : Act} {Q : Exit → Act → World → Prop} (hgd : o.guard = none) (s x : Operand)
    (ho : o.op = .call { callee := .builtin .append, args := #[s, x], argTypes := #[53, 53] })
    {w : World} {B : Nat} {v src : Value} {n : Nat} {xs : List Value} {T : Nat → Prop} {e : List Str} (hs : a.eval s = v) (hx : a.eval x = src) (hown : w.ownsRow B 9 1 v n xs) (hco : CompsAt T w src e) (hl : n + e.length ≤ 1048576) (hB : B ≤ w.heap.size)
    (h : ∀ v' w', w'.ownsRow B 9 1 v' (n + e.length) (xs ++ e.map sv) → w.grownBy w' v.ownBlock → (v'.ownBlock = v.ownBlock ∨ v'.ownBlock = some w.heap.size) → wpList Tryz.prog ops Q rest (a.put o.dst v') w') :
    wpList Tryz.prog ops Q (o :: rest) a w := by
  obtain ⟨i0, hi, hz0, hz1, hz2⟩ := info_parts einfo_str
  obtain ⟨ao, cap, rfl, h1, h2, h3, h4⟩ := hco
  rw [List.length_map] at h1 hx
  cases ao with
  | none =>
    have hc := h3 rfl
    have hz : e.length = 0 := by omega
    have he := List.length_eq_zero_iff.1 hz
    subst he
    subst hc
    exact wpList_append_own_none hgd s x 53 ho B 9 i0 1 Tryz.underlying53 hi v n xs hs hown hx (h v w (by simpa using hown) ⟨rfl, rfl, rfl, Nat.le_refl _, fun _ _ _ => rfl⟩ (.inl rfl))
  | some ad =>
    refine wpList_append_own_at _ hgd s x 53 ho B 9 i0 (.string ⟨#[]⟩) 1 16 Tryz.underlying53 hi hz0 hz1 hz2 rfl (by decide) v n xs hs hown ad e.length cap (e.map sv) hx (by simp) (fun j u hu => ?_) (by simp [Value.oneCell', sv]) (by unfold maxLen; omega) (by omega) hB ?_
    · obtain ⟨b, off, rb, _, hc⟩ := h4 (by intro e0; rw [e0] at hu; simp at hu)
      cases rb
      rw [Addr.add_mid]; exact hc j u hu
    · intro v' w' g1 g2 _ g4
      exact h v' w' g1 g2 g4
end Go.Proofs.YteaaiejfieaalaaGreatDoor

/-
  EdiA9: segments behind segments of one's own. No condition beyond those stated.
-/
namespace Go.Proofs.YteaaiejfieaalaaGreatDoor
open Go.RowKit
theorem segCells_at : ∀ (l : List Seg) (xs : List Value) (j : Nat) (u : Value), xs.length = l.length → (segCells l xs)[j]? = some u → ∃ (i : Nat) (s : Seg) (x : Value), l[i]? = some s ∧ xs[i]? = some x ∧ (j = i * 2 ∧ u = sv s.tag ∨ j = i * 2 + 1 ∧ u = x)
  | [], xs, j, u, h, hu => by cases xs <;> simp [segCells] at hu
  | s :: l, [], j, u, h, hu => by simp at h
  | s :: l, x :: xs, 0, u, h, hu => by simp only [segCells, List.getElem?_cons_zero] at hu; cases hu; exact ⟨0, s, x, rfl, rfl, .inl ⟨rfl, rfl⟩⟩
  | s :: l, x :: xs, 1, u, h, hu => by simp only [segCells, List.getElem?_cons_succ, List.getElem?_cons_zero] at hu; cases hu; exact ⟨0, s, x, rfl, rfl, .inr ⟨rfl, rfl⟩⟩
  | s :: l, x :: xs, j + 2, u, h, hu => by
    simp only [segCells, List.getElem?_cons_succ] at hu
    obtain ⟨i, s', x', h1, h2, h3⟩ := segCells_at l xs j u (by simpa using h) hu
    refine ⟨i + 1, s', x', by simpa using h1, by simpa using h2, ?_⟩
    rcases h3 with ⟨h3, h4⟩ | ⟨h3, h4⟩
    · exact .inl ⟨by omega, h4⟩
    · exact .inr ⟨by omega, h4⟩
theorem segCells_one : ∀ (l : List Seg) (xs : List Value), (∀ x ∈ xs, x.oneCell' = true) → ∀ u ∈ segCells l xs, u.oneCell' = true
  | [], xs, _, u, hu => by cases xs <;> simp [segCells] at hu
  | s :: l, [], _, u, hu => by simp [segCells] at hu
  | s :: l, x :: xs, h, u, hu => by
    simp only [segCells, List.mem_cons] at hu
    rcases hu with rfl | rfl | hu
    · rfl
    · exact h _ List.mem_cons_self
    · exact segCells_one l xs (fun y hy => h y (List.mem_cons_of_mem _ hy)) u hu
/-- the cells of segments that lie somewhere -/
theorem SegsAt.row {S : Nat → Prop} {w : World} {v : Value} {m : List Seg} (h : SegsAt S w v m) : ∃ (ao : Option Addr) (cap : Nat) (ys : List Value), v = .slice ao m.length cap ∧ ys.length = m.length ∧ (ao = none → m = [] ∧ cap = 0) ∧ (∀ x ∈ ys, x.oneCell' = true) ∧
    (∀ (i : Nat) (s : Seg) (x : Value), m[i]? = some s → ys[i]? = some x → ElemsAt S w x s.elems) ∧ ∀ ad, ao = some ad → ∀ (j : Nat) (u : Value), (segCells m ys)[j]? = some u → w.cell? (ad.add j) = some u := by
  obtain ⟨ao, cap, xs, rfl, h1, h2, h3, h4, h5, h6⟩ := h
  refine ⟨ao, cap, xs, rfl, h4, fun e => ⟨List.length_eq_zero_iff.1 (by have := h3 e; omega), h3 e⟩, fun x hx => ?_, h5, fun ad hao j u hu => ?_⟩
  · obtain ⟨i, hi⟩ := List.getElem?_of_mem hx
    have hil := (List.getElem?_eq_some_iff.1 hi).1
    obtain ⟨a, c, he, _⟩ := (h5 i m[i] x (List.getElem?_eq_getElem (by omega)) hi).form
    rw [he]; rfl
  · obtain ⟨i, s, x, g1, g2, g3⟩ := segCells_at m xs j u h4 hu
    obtain ⟨b, off, rb, _, hc⟩ := h6 (by rintro rfl; simp at g1)
    rw [hao] at rb
    cases rb
    obtain ⟨k1, k2⟩ := hc i s x g1 g2
    rw [Addr.add_mid]
    rcases g3 with ⟨rfl, rfl⟩ | ⟨rfl, rfl⟩
    · exact k1
    · rw [← Nat.add_assoc]; exact k2
/-- append(own segments, segments...) -/
theorem wp_app_segs {ops : Array Oper} {rest : List Oper} {o : Oper} {a : Act} {Q : Exit → Act → World → Prop} (s x : Operand)
    (ho : o.op = .call { callee := .builtin .append, args := #[s, x], argTypes := #[23, 23] }) (hw : Region.wanted o (yielded ops a.tmps) = true)
    {w : World} {B : Nat} {v mv : Value} {xs : List Value} {l m : List Seg} {S : Nat → Prop} (hs : a.eval s = v) (hx : a.eval x = mv) (hO : OO B w v xs l) (hm : SegsAt S w mv m) (hS : ∀ k, S k → k < B) (hl : l.length + m.length ≤ 1048576) (hB : B ≤ w.heap.size)
    (h : ∀ v' w', SegsAt (fun _ => True) w' v' (l ++ m) → Below B w w' → wpList Tryz.prog ops Q rest (a.put o.dst v') w') :
    wpList Tryz.prog ops Q (o :: rest) a w := by
  obtain ⟨i0, hi, hz0, hz1, hz2⟩ := info_parts einfo_seg
  have hm0 := hm
  obtain ⟨ao, cap, ys, rfl, g1, g2, g3, g4, g5⟩ := hm.row
  simp only [wpList, hw, if_true]
  left
  have fin : ∀ v' w', w'.ownsRow B 36 2 v' (l.length + m.length) (segCells l xs ++ segCells m ys) → w.grownBy w' v.ownBlock → (v'.ownBlock = v.ownBlock ∨ v'.ownBlock = some w.heap.size) → SegsAt (fun _ => True) w' v' (l ++ m) ∧ Below B w w' := fun v' w' f1 f2 f3 => by
    have hov : ∀ k, v.ownBlock = some k → B ≤ k := fun k hk => (own_lt hO.row hk).1
    have hb : Below B w w' := (Below.refl B w).grown f2 hB hov
    refine ⟨segs_rest (xs := xs ++ ys) (by rw [List.length_append, segCells_app l m xs ys hO.len]; exact f1) (by simp [hO.len, g1]) (fun _ _ => trivial) (fun i s x h1 h2 => ?_), hb⟩
    rcases Nat.lt_or_ge i l.length with hil | hil
    · rw [List.getElem?_append_left hil] at h1
      rw [List.getElem?_append_left (by rw [hO.len]; exact hil)] at h2
      exact (hO.el i s x h1 h2).cong (fun _ _ => trivial) (fun b hb' => f2.block b hb'.2.1 (fun e => hb'.2.2 e.symm))
    · rw [List.getElem?_append_right hil] at h1
      rw [List.getElem?_append_right (by rw [hO.len]; exact hil), hO.len] at h2
      exact (g4 _ s x h1 h2).cong (fun _ _ => trivial) (fun b hb' => hb.block b (hS b hb'))
  cases ao with
  | none =>
    obtain ⟨rfl, rfl⟩ := g2 rfl
    have hr := run_append_owned_none (P := Tryz.prog) (w := w) B 23 o.type 36 i0 2 Tryz.underlying23 hi v l.length (segCells l xs) hO.row
    unfold Oper.wp
    simp [execOp, ho, resolve, invoke, builtin, hs, hx, hr, Result.andThen]
    obtain ⟨k1, k2⟩ := fin v w (by
      have : ys = [] := List.length_eq_zero_iff.1 g1
      subst this
      simpa [segCells] using hO.row) ⟨rfl, rfl, rfl, Nat.le_refl _, fun _ _ _ => rfl⟩ (.inl rfl)
    exact h v w k1 k2
  | some ad =>
    obtain ⟨v', w', hr, h2, h3, _, h5⟩ := run_append_own_at (P := Tryz.prog) w B 23 o.type 36 i0 (.agg #[.string ⟨#[]⟩, .slice none 0 0]) 2 40 Tryz.underlying23 hi hz0 hz1 hz2 rfl (by decide) v l.length (segCells l xs) hO.row ad m.length cap (segCells m ys) (segCells_len m ys g1) (g5 ad rfl) (segCells_one m ys g3) (by unfold maxLen; omega) (by omega) hB
    unfold Oper.wp execOp
    simp only [ho, resolve, invoke, builtin, Sem.run_bind, Sem.run_pure, Result.andThen_ok, List.map_toArray, List.map_cons, List.map_nil, hs, hx, hr]
    obtain ⟨k1, k2⟩ := fin v' w' h2 h3 h5
    exact h v' w' k1 k2
end Go.Proofs.YteaaiejfieaalaaGreatDoor

/-
  WrapP: numbers in decimal, plain words and laws. No condition.
-/
namespace Go.Proofs.YteaaiejfieaalaaGreatDoor
/-- the digits of a number -/
abbrev decT (v : Nat) : Str := Lib.decDigits v
/-- a digit -/
def digB (c : UInt8) : Bool := decide (48 ≤ c.toNat) && decide (c.toNat ≤ 57)
/-- what digits spell, behind what others have spelt; none: no digit, or too great for 64 bits -/
def valW : Nat → Str → Option Nat
  | v, [] => some v
  | v, c :: r => if digB c then (if v * 10 + (c.toNat - 48) < 18446744073709551616 then valW (v * 10 + (c.toNat - 48)) r else none) else none
/-- a number's text -/
def numW (s : Str) : Option Nat := match s with
  | [] => none
  | c :: r => if c = 48 ∧ r ≠ [] then none else valW 0 (c :: r)
theorem valW_append : ∀ (a b : Str) (v : Nat), valW v (a ++ b) = (valW v a).bind fun u => valW u b
  | [], b, v => rfl
  | c :: a, b, v => by
    simp only [List.cons_append, valW]
    split
    · split
      · exact valW_append a b _
      · rfl
    · rfl
theorem digB_of {d : Nat} (h : d < 10) : digB (UInt8.ofNat (48 + d)) = true ∧ (UInt8.ofNat (48 + d)).toNat = 48 + d := by
  have e : (UInt8.ofNat (48 + d)).toNat = 48 + d := by rw [UInt8.toNat_ofNat']; omega
  refine ⟨?_, e⟩
  unfold digB; rw [e]; simp; omega
theorem dec_small {v : Nat} (h : v < 10) : decT v = [UInt8.ofNat (48 + v)] := Lib.decDigits_one h
theorem dec_step {v : Nat} (h : ¬ v < 10) : decT v = decT (v / 10) ++ [UInt8.ofNat (48 + v % 10)] := by
  show Lib.decDigits v = _
  rw [Lib.decDigits, dif_neg h]
theorem dec_ne (v : Nat) : decT v ≠ [] := by
  by_cases h : v < 10
  · rw [dec_small h]; simp
  · rw [dec_step h]; simp
theorem dec_digs : ∀ (v : Nat), ∀ c ∈ decT v, digB c = true := fun v => by
  induction v using Nat.strongRecOn with
  | ind v ih =>
    by_cases h : v < 10
    · rw [dec_small h]; intro c hc; rw [List.mem_singleton] at hc; subst hc; exact (digB_of h).1
    · rw [dec_step h]
      intro c hc
      rcases List.mem_append.1 hc with hc | hc
      · exact ih (v / 10) (by omega) c hc
      · rw [List.mem_singleton] at hc; subst hc; exact (digB_of (Nat.mod_lt _ (by omega))).1
/-- no 0 ahead, but of 0 itself -/
theorem dec_head : ∀ (v : Nat), 0 < v → (decT v).head? ≠ some 48 := fun v => by
  induction v using Nat.strongRecOn with
  | ind v ih =>
    intro h0
    by_cases h : v < 10
    · rw [dec_small h]
      simp only [List.head?_cons, ne_eq, Option.some.injEq]
      intro e
      have := congrArg UInt8.toNat e
      rw [(digB_of h).2] at this
      have h48 : (48 : UInt8).toNat = 48 := rfl
      omega
    · rw [dec_step h]
      have := ih (v / 10) (by omega) (by omega)
      cases hd : decT (v / 10) with
      | nil => exact absurd hd (dec_ne _)
      | cons a l => rw [hd] at this; simpa using this
theorem val_dec : ∀ (v : Nat), v < 18446744073709551616 → valW 0 (decT v) = some v := fun v => by
  induction v using Nat.strongRecOn with
  | ind v ih =>
    intro hv
    by_cases h : v < 10
    · rw [dec_small h]
      obtain ⟨e1, e2⟩ := digB_of h
      simp only [valW, e1, e2, if_true]
      rw [if_pos (by omega)]
      congr 1; omega
    · rw [dec_step h, valW_append, ih (v / 10) (by omega) (by omega)]
      obtain ⟨e1, e2⟩ := digB_of (Nat.mod_lt v (by omega : 0 < 10))
      simp only [Option.bind_some, valW, e1, e2, if_true]
      rw [if_pos (by omega)]
      congr 1; omega
theorem num_dec {v : Nat} (h : v < 18446744073709551616) : numW (decT v) = some v := by
  have hv := val_dec v h
  have hh := dec_head v
  cases hd : decT v with
  | nil => exact absurd hd (dec_ne v)
  | cons c r =>
    rw [hd] at hv hh
    unfold numW
    simp only
    rw [if_neg, hv]
    rintro ⟨rfl, hr⟩
    rcases Nat.eq_zero_or_pos v with h0 | h0
    · subst h0
      rw [dec_small (by omega)] at hd
      injection hd with _ hd
      exact hr hd.symm
    · exact hh h0 (by simp)
/-- a number's text is its digits -/
theorem val_inj : ∀ (s : Str) (v u : Nat), 0 < v → valW v s = some u → decT u = decT v ++ s
  | [], v, u, _, h => by simp only [valW, Option.some.injEq] at h; subst h; simp
  | c :: r, v, u, h0, h => by
    simp only [valW] at h
    split at h
    · rename_i hd
      split at h
      · have h1 := val_inj r _ u (by omega) h
        have hc : 48 ≤ c.toNat ∧ c.toNat ≤ 57 := by simpa [digB] using hd
        have e : decT (v * 10 + (c.toNat - 48)) = decT v ++ [c] := by
          rw [dec_step (by omega), show (v * 10 + (c.toNat - 48)) / 10 = v by omega, show (v * 10 + (c.toNat - 48)) % 10 = c.toNat - 48 by omega]
          congr 2
          apply UInt8.toNat_inj.1
          rw [(digB_of (show c.toNat - 48 < 10 by omega)).2]; omega
        rw [h1, e, List.append_assoc]; rfl
      · cases h
    · cases h
theorem num_inj {s : Str} {v : Nat} (h : numW s = some v) : s = decT v := by
  cases s with
  | nil => cases h
  | cons c r =>
    simp only [numW] at h
    split at h
    · cases h
    · rename_i hn
      simp only [valW] at h
      split at h
      · rename_i hd
        have hc : 48 ≤ c.toNat ∧ c.toNat ≤ 57 := by simpa [digB] using hd
        rw [if_pos (by omega), Nat.zero_mul, Nat.zero_add] at h
        have e1 : decT (c.toNat - 48) = [c] := by
          rw [dec_small (by omega)]
          congr 1
          apply UInt8.toNat_inj.1
          rw [(digB_of (show c.toNat - 48 < 10 by omega)).2]; omega
        by_cases h0 : c = 48
        · have hr : r = [] := Classical.byContradiction fun hr => hn ⟨h0, hr⟩
          subst hr
          simp only [valW, Option.some.injEq] at h
          rw [← h, e1]
        · have h0' : 0 < c.toNat - 48 := by
            have : c.toNat ≠ 48 := fun e => h0 (UInt8.toNat_inj.1 e)
            omega
          rw [val_inj r _ v h0' h, e1]; rfl
      · cases h
theorem valW_lt : ∀ (s : Str) (v u : Nat), v < 18446744073709551616 → valW v s = some u → u < 18446744073709551616
  | [], v, u, hv, h => by simp only [valW, Option.some.injEq] at h; omega
  | c :: r, v, u, hv, h => by
    simp only [valW] at h
    split at h
    · split at h
      · rename_i hlt; exact valW_lt r _ u hlt h
      · cases h
    · cases h
theorem num_lt {s : Str} {v : Nat} (h : numW s = some v) : v < 18446744073709551616 := by
  cases s with
  | nil => cases h
  | cons c r =>
    simp only [numW] at h
    split at h
    · cases h
    · exact valW_lt _ 0 v (by omega) h
end Go.Proofs.YteaaiejfieaalaaGreatDoor
