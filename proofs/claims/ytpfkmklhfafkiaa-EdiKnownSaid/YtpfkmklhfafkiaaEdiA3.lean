/-
  EdiA3: contract of Same: two lists of segments in memory. No condition beyond those stated.
-/
import Derived.Test.YtpfkmklhfafkiaaEdiA2
namespace Go.Proofs.Ytpfkmklhfafkiaa
open Go.RowKit
instance : DecidableEq Seg := fun a b => if h : a.tag = b.tag ∧ a.elems = b.elems then isTrue (by cases a; cases b; simp_all) else isFalse (by rintro rfl; exact h ⟨rfl, rfl⟩)
def sameB (l m : List Seg) : Bool := decide (l = m)
def Drew (w w' : World) : Prop := ∃ d, w' = w.drewN d
theorem Drew.below {w w' : World} (h : Drew w w') (B : Nat) : Below B w w' := by
  obtain ⟨d, rfl⟩ := h; exact below_drewN (Below.refl _ _) d
theorem Drew.heap {w w' : World} (h : Drew w w') : w'.heap = w.heap := by obtain ⟨d, rfl⟩ := h; rfl
theorem ret_bool {a b : Bool} (h : a = b) : Ending.returned (.bool a) = .returned (.bool b) := by rw [h]
theorem sameB_no {l m : List Seg} (h : l ≠ m) : Ending.returned (.bool false) = .returned (.bool (sameB l m)) := ret_bool (by unfold sameB; rw [decide_eq_false h])
theorem take_succ_eq {α : Type} {l m : List α} {k : Nat} {x : α} (h : l.take k = m.take k) (h1 : l[k]? = some x) (h2 : m[k]? = some x) : l.take (k + 1) = m.take (k + 1) := by
  rw [List.take_add_one, List.take_add_one, h, h1, h2]
theorem sv_inj {a b : Str} {s : ByteArray} (h1 : (⟨a.toArray⟩ : ByteArray) = s) (h2 : (⟨b.toArray⟩ : ByteArray) = s) : a = b := by
  rw [← h2] at h1
  injection h1 with h1
  exact congrArg Array.toList h1
theorem str_same (s : ByteArray) : (s.toList == s.toList) = true := by simp
theorem str_ne {s t : ByteArray} (h : s ≠ t) : (s.toList == t.toList) = false := by
  rw [beq_eq_false_iff_ne, ByteArray.toList_eq, ByteArray.toList_eq]
  intro e
  apply h
  cases s; cases t
  exact congrArg ByteArray.mk (Array.toList_inj.1 e)
theorem sv_ne {a b : Str} {s t : ByteArray} (h1 : (⟨a.toArray⟩ : ByteArray) = s) (h2 : (⟨b.toArray⟩ : ByteArray) = t) (h : s ≠ t) : a ≠ b := by
  rintro rfl; exact h (h1.symm.trans h2)
set_option maxRecDepth 100000 in
set_option maxHeartbeats 4000000 in
theorem same_any {S T : Nat → Prop} {v v' : Value} {l m : List Seg} (w : World) (h : SegsAt S w v l) (h' : SegsAt T w v' m) : Calls Try.prog 14 #[v, v'] w fun e w' => e = .returned (.bool (sameB l m)) ∧ Drew w w' := by
  obtain ⟨ao, cap, rfl, h1, h2⟩ := h.form
  obtain ⟨ao', cap', rfl, h1', h2'⟩ := h'.form
  unfold maxLen at h2 h2'
  have H := Lib.hid h
  have H' := Lib.hid h'
  clear h h'
  by_cases hlen : l.length = m.length
  · obtain ⟨n, hn⟩ : ∃ n, l.length = n := ⟨_, rfl⟩
    have hn' : m.length = n := by omega
    have HN := Lib.hid hn
    have HN' := Lib.hid hn'
    rw [hn] at h1 H ⊢
    rw [hn'] at h1' H' ⊢
    clear hn hn' hlen
    have d0 : ((n : Int) != (n : Int)) = false := by simp
    go_enter Try.func14, Try.ntmps14
    go_wp2_with fail
    go_loopw [5] (fun i wr => ∃ (k d : Nat), k ≤ n ∧ i = .int .i64 (k : Int) ∧ wr = w.drewN d ∧ Hid (l.take k = m.take k)) (fun i _ => n - (intOf i).toNat)
    case atStart => exact ⟨0, 0, Nat.zero_le _, rfl, rfl, Lib.hid (by simp)⟩
    case round =>
      obtain ⟨k, d, hk, rfl, rfl, HT⟩ := hrel
      by_cases hlt : k < n
      · obtain ⟨s, hs⟩ : ∃ s, l[k]? = some s := ⟨_, List.getElem?_eq_getElem (by rw [HN.out]; exact hlt)⟩
        obtain ⟨s', hs'⟩ : ∃ s, m[k]? = some s := ⟨_, List.getElem?_eq_getElem (by rw [HN'.out]; exact hlt)⟩
        obtain ⟨b, off, x, rfl, _, c0, c1, hel⟩ := H.out.get hs
        obtain ⟨b', off', x', rfl, _, c0', c1', hel'⟩ := H'.out.get hs'
        obtain ⟨t, es⟩ := s
        obtain ⟨t', es'⟩ := s'
        obtain ⟨eo, ecap, rfl, he1, he2⟩ := hel.form
        obtain ⟨eo', ecap', rfl, he1', he2'⟩ := hel'.form
        have HEL := Lib.hid hel
        have HEL' := Lib.hid hel'
        have HS := Lib.hid hs
        have HS' := Lib.hid hs'
        obtain ⟨st, hst⟩ : ∃ st : ByteArray, (⟨t.toArray⟩ : ByteArray) = st := ⟨_, rfl⟩
        obtain ⟨st', hst'⟩ : ∃ st : ByteArray, (⟨t'.toArray⟩ : ByteArray) = st := ⟨_, rfl⟩
        simp only [sv] at c0 c0'
        rw [hst] at c0
        rw [hst'] at c0'
        unfold maxLen at he2 he2'
        clear hs hs' hel hel'
        have b1 : (0 : Int) ≤ k := by omega
        have b2 : (k : Int) < n := by omega
        by_cases hstt : st = st'
        · subst hstt
          obtain rfl := sv_inj hst hst'
          clear hst hst'
          by_cases hll : es.length = es'.length
          · obtain ⟨m0, hm0⟩ : ∃ m0, es.length = m0 := ⟨_, rfl⟩
            have hm0' : es'.length = m0 := by omega
            simp only [hm0] at c1 he1
            simp only [hm0'] at c1' he1'
            have HM0 := Lib.hid hm0
            have HM0' := Lib.hid hm0'
            clear hm0 hm0' hll
            have d1 := str_same st
            have d2 : ((m0 : Int) != (m0 : Int)) = false := by simp
            go_upto_region 6 with fail
            go_quiet (fail)
            clear d1 d2
            go_wp2_with fail
            go_loopw [6] (fun i wr => ∃ (q d2 : Nat), q ≤ m0 ∧ i = .int .i64 (q : Int) ∧ wr = w.drewN d2 ∧ Hid (es.take q = es'.take q)) (fun i _ => m0 - (intOf i).toNat)
            case atStart => exact ⟨0, _, Nat.zero_le _, rfl, rfl, Lib.hid (by simp)⟩
            case round =>
              obtain ⟨q, d2, hq, rfl, rfl, HQ⟩ := hrel
              by_cases hqlt : q < m0
              · obtain ⟨e, he⟩ : ∃ s, es[q]? = some s := ⟨_, List.getElem?_eq_getElem (by rw [HM0.out]; exact hqlt)⟩
                obtain ⟨e', he'⟩ : ∃ s, es'[q]? = some s := ⟨_, List.getElem?_eq_getElem (by rw [HM0'.out]; exact hqlt)⟩
                obtain ⟨b2, off2, x2, rfl, _, f0, hco⟩ := HEL.out.get he
                obtain ⟨b2', off2', x2', rfl, _, f0', hco'⟩ := HEL'.out.get he'
                obtain ⟨co, ccap, rfl, hc1, hc2⟩ := hco.form
                obtain ⟨co', ccap', rfl, hc1', hc2'⟩ := hco'.form
                have HCO := Lib.hid hco
                have HCO' := Lib.hid hco'
                have HE := Lib.hid he
                have HE' := Lib.hid he'
                unfold maxLen at hc2 hc2'
                have b3 : (0 : Int) ≤ q := by omega
                have b4 : (q : Int) < m0 := by omega
                clear he he' hco hco'
                by_cases hll : e.length = e'.length
                · obtain ⟨r0, hr0⟩ : ∃ m0, e.length = m0 := ⟨_, rfl⟩
                  have hr0' : e'.length = r0 := by omega
                  simp only [hr0] at f0 hc1
                  simp only [hr0'] at f0' hc1'
                  have HR0 := Lib.hid hr0
                  have HR0' := Lib.hid hr0'
                  clear hr0 hr0' hll
                  have d3 : ((r0 : Int) != (r0 : Int)) = false := by simp
                  go_wp2_with fail
                  clear d3
                  go_loopw [9] (fun i wr => ∃ (z d3 : Nat), z ≤ r0 ∧ i = .int .i64 (z : Int) ∧ wr = w.drewN d3 ∧ Hid (e.take z = e'.take z)) (fun i _ => r0 - (intOf i).toNat)
                  case atStart => exact ⟨0, _, Nat.zero_le _, rfl, rfl, Lib.hid (by simp)⟩
                  case round =>
                    obtain ⟨z, d3, hz, rfl, rfl, HZ⟩ := hrel
                    by_cases hzlt : z < r0
                    · obtain ⟨p, hp⟩ : ∃ s, e[z]? = some s := ⟨_, List.getElem?_eq_getElem (by rw [HR0.out]; exact hzlt)⟩
                      obtain ⟨p', hp'⟩ : ∃ s, e'[z]? = some s := ⟨_, List.getElem?_eq_getElem (by rw [HR0'.out]; exact hzlt)⟩
                      obtain ⟨b3, off3, rfl, _, g0⟩ := HCO.out.get hp
                      obtain ⟨b3', off3', rfl, _, g0'⟩ := HCO'.out.get hp'
                      have b5 : (0 : Int) ≤ z := by omega
                      have b6 : (z : Int) < r0 := by omega
                      have HP := Lib.hid hp
                      have HP' := Lib.hid hp'
                      obtain ⟨sp, hsp⟩ : ∃ st : ByteArray, (⟨p.toArray⟩ : ByteArray) = st := ⟨_, rfl⟩
                      obtain ⟨sp', hsp'⟩ : ∃ st : ByteArray, (⟨p'.toArray⟩ : ByteArray) = st := ⟨_, rfl⟩
                      simp only [sv] at g0 g0'
                      rw [hsp] at g0
                      rw [hsp'] at g0'
                      clear hp hp'
                      by_cases hpp : sp = sp'
                      · subst hpp
                        obtain rfl := sv_inj hsp hsp'
                        have d4 := str_same sp
                        clear hsp hsp'
                        go_upto_region 18 with fail
                        go_quiet (fail)
                        clear d4
                        go_wp2_with fail
                        go_roundw
                        case rel => exact ⟨z + 1, _, by omega, by go_num, rfl, Lib.hid (take_succ_eq HZ.out HP.out HP'.out)⟩
                        case measure => simp [intOf]; omega
                      · have d4 := str_ne hpp
                        have HPN := Lib.hid (sv_ne hsp hsp' hpp)
                        clear hsp hsp' hpp
                        go_upto_region 18 with fail
                        go_quiet (fail)
                        go_wp2_with fail
                        go_ret
                        exact ⟨sameB_no (fun e0 => by
                          have h1 := HS.out
                          rw [e0, HS'.out] at h1
                          injection h1 with h1
                          injection h1 with _ h1
                          have h2 := HE.out
                          rw [← h1, HE'.out] at h2
                          injection h2 with h2
                          have h3 := HP.out
                          rw [← h2, HP'.out] at h3
                          injection h3 with h3
                          exact HPN.out h3.symm), _, World.drewN_drewN _ _ _⟩
                    · obtain rfl : z = r0 := by omega
                      go_wp2_with fail
                      go_roundw
                      case rel =>
                        have e1 : e.take z = e := List.take_of_length_le (by rw [HR0.out]; exact Nat.le_refl _)
                        have e2 : e'.take z = e' := List.take_of_length_le (by rw [HR0'.out]; exact Nat.le_refl _)
                        have hT := HZ.out
                        rw [e1, e2] at hT
                        exact ⟨q + 1, _, by omega, by go_num, rfl, Lib.hid (take_succ_eq HQ.out HE.out (by rw [hT]; exact HE'.out))⟩
                      case measure => simp [intOf]; omega
                · obtain ⟨r0, hr0⟩ : ∃ m0, e.length = m0 := ⟨_, rfl⟩
                  obtain ⟨r0', hr0'⟩ : ∃ m0, e'.length = m0 := ⟨_, rfl⟩
                  have d3 : ((r0 : Int) != (r0' : Int)) = true := by rw [bne_iff_ne]; omega
                  simp only [hr0] at f0 hc1
                  simp only [hr0'] at f0' hc1'
                  clear hr0 hr0'
                  have HLL := Lib.hid hll
                  clear hll
                  go_wp2_with fail
                  go_ret
                  exact ⟨sameB_no (fun e0 => by
                    have h1 := HS.out
                    rw [e0, HS'.out] at h1
                    injection h1 with h1
                    injection h1 with _ h1
                    have h2 := HE.out
                    rw [← h1, HE'.out] at h2
                    injection h2 with h2
                    exact HLL.out (by rw [h2])), _, rfl⟩
              · obtain rfl : q = m0 := by omega
                go_wp2_with fail
                go_roundw
                case rel =>
                  have e1 : es.take q = es := List.take_of_length_le (by rw [HM0.out]; exact Nat.le_refl _)
                  have e2 : es'.take q = es' := List.take_of_length_le (by rw [HM0'.out]; exact Nat.le_refl _)
                  have hT := HQ.out
                  rw [e1, e2] at hT
                  exact ⟨k + 1, _, by omega, by go_num, rfl, Lib.hid (take_succ_eq HT.out HS.out (by rw [hT]; exact HS'.out))⟩
                case measure => simp [intOf]; omega
          · obtain ⟨m0, hm0⟩ : ∃ m0, es.length = m0 := ⟨_, rfl⟩
            obtain ⟨m0', hm0'⟩ : ∃ m0, es'.length = m0 := ⟨_, rfl⟩
            have d1 := str_same st
            have d2 : ((m0 : Int) != (m0' : Int)) = true := by rw [bne_iff_ne]; omega
            simp only [hm0] at c1 he1
            simp only [hm0'] at c1' he1'
            clear hm0 hm0'
            have HLL := Lib.hid hll
            clear hll
            go_upto_region 6 with fail
            go_quiet (fail)
            go_wp2_with fail
            go_ret
            exact ⟨sameB_no (fun e => by
              have h1 := HS.out
              rw [e, HS'.out] at h1
              injection h1 with h1
              injection h1 with _ h1
              exact HLL.out (by rw [h1])), _, rfl⟩
        · have d1 := str_ne hstt
          have HNE := Lib.hid hstt
          have HST := Lib.hid hst
          have HST' := Lib.hid hst'
          clear hst hst' hstt
          go_upto_region 6 with fail
          go_quiet (fail)
          go_wp2_with fail
          go_ret
          exact ⟨sameB_no (fun e => by
            have h1 := HS.out
            rw [e, HS'.out] at h1
            injection h1 with h1
            injection h1 with h1
            exact sv_ne HST.out HST'.out HNE.out h1.symm), _, rfl⟩
      · obtain rfl : k = n := by omega
        go_wp2_with fail
        go_ret
        have e1 : l.take k = l := List.take_of_length_le (by rw [HN.out]; exact Nat.le_refl _)
        have e2 : m.take k = m := List.take_of_length_le (by rw [HN'.out]; exact Nat.le_refl _)
        have hT := HT.out
        rw [e1, e2] at hT
        exact ⟨ret_bool (by unfold sameB; rw [decide_eq_true hT]), _, rfl⟩
  · have d0 : ((l.length : Int) != (m.length : Int)) = true := by rw [bne_iff_ne]; omega
    clear H H'
    have HL := Lib.hid hlen
    clear hlen
    go_enter Try.func14, Try.ntmps14
    go_wp2_with fail
    go_ret
    exact ⟨sameB_no (fun e => HL.out (by rw [e])), 0, rfl⟩
end Go.Proofs.Ytpfkmklhfafkiaa
