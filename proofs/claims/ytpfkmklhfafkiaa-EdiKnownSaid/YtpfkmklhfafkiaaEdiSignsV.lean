/-
  EdiSignsV: the walk of EdiSigns for every input. No condition.
-/
import Derived.Test.YtpfkmklhfafkiaaEdiPrintsV
import Derived.Test.YtpfkmklhfafkiaaEdiV
namespace Go.Proofs.Ytpfkmklhfafkiaa
open Go.RowKit
def cntC (p : Str) : Nat := p.length + sgN p
def cntL (e : List Str) : Nat := e.length + (e.map cntC).sum
def cntS (s : Seg) : Nat := 4 + (s.elems.map cntL).sum
theorem elem_cnt {e : List Str} (h : e ≠ []) : (elemT e).length + 1 = cntL e := by
  have h1 : ∀ l : List Str, (l.flatMap fun p => 58 :: compT p).length = l.length + (l.map cntC).sum := fun l => by
    induction l with
    | nil => rfl
    | cons a l ih =>
      have := compT_len a
      simp only [List.flatMap_cons, List.length_append, List.length_cons, List.map_cons, List.sum_cons, cntC] at ih ⊢
      omega
  cases e with
  | nil => exact absurd rfl h
  | cons p l =>
    have := h1 l
    have := compT_len p
    rw [elemT_cons, List.length_append]
    unfold restT cntL
    simp only [List.map_cons, List.sum_cons, List.length_cons, cntC] at *
    omega
theorem seg_cnt {s : Seg} (h : okS s) : (segT s).length = cntS s := by
  have h1 : ∀ es : List (List Str), (∀ e ∈ es, okEl e) → (es.flatMap fun e => 43 :: elemT e).length = (es.map cntL).sum := fun es => by
    induction es with
    | nil => intro _; rfl
    | cons a l ih =>
      intro h
      have h2 := ih fun e he => h e (List.mem_cons_of_mem _ he)
      have h3 := elem_cnt (h a List.mem_cons_self).1
      simp only [List.flatMap_cons, List.length_append, List.length_cons, List.map_cons, List.sum_cons] at h2 ⊢
      omega
  have h2 := h1 s.elems h.2.2
  have h3 := h.1.1
  rw [segT_len, h2, h3]; unfold cntS; omega
theorem print_cnt {l : List Seg} (h : ∀ s ∈ l, okS s) : (printT l).length = (l.map cntS).sum := by
  induction l with
  | nil => rfl
  | cons a l ih =>
    have h2 := ih fun e he => h e (List.mem_cons_of_mem _ he)
    have h3 := seg_cnt (h a List.mem_cons_self)
    simp only [printT, List.flatMap_cons, List.length_append, List.map_cons, List.sum_cons] at h2 ⊢
    omega
theorem print_last : ∀ {l : List Seg}, l ≠ [] → ∃ x, printT l = x ++ [39]
  | [], h => absurd rfl h
  | [s], _ => ⟨s.tag ++ s.elems.flatMap (fun e => 43 :: elemT e), by simp [printT, segT]⟩
  | s :: t :: l, _ => by
    obtain ⟨x, hx⟩ := print_last (l := t :: l) (by simp)
    exact ⟨segT s ++ x, by rw [show printT (s :: t :: l) = segT s ++ printT (t :: l) from rfl, hx, List.append_assoc]⟩
theorem printE_err {l : List Seg} {t : Str} {n : Int} (h : printE l = (t, n)) (hn : n ≠ 0) : t = [] := by
  unfold printE at h
  split at h
  · cases h; rfl
  · split at h
    · cases h; rfl
    · split at h
      · cases h; rfl
      · cases h; exact absurd rfl hn
set_option maxRecDepth 100000 in
set_option maxHeartbeats 4000000 in
theorem ediSigns_walk {W : World} (v : Value) (l : List Seg) (h : SegsAt (Low W) W v l) : Calls Try.prog 9 #[v] W fun e w' => e = .returned (.bool true) ∧ Below W.heap.size W w' := by
  have H := Lib.hid h
  have HHV := Lib.hid (eheavy_any W h)
  obtain ⟨B, hB⟩ : ∃ B, W.heap.size = B := ⟨_, rfl⟩
  have HBQ := Lib.hid hB
  rw [hB]
  clear h hB
  go_enter Try.func9, Try.ntmps9
  go_wp2_with fail
  refine HHV.out.mono ?_
  rintro e w' ⟨⟨b, rfl, hlt⟩, rfl⟩
  cases b with
  | true =>
    clear hlt
    go_wp2_with fail
    go_ret
    exact ⟨rfl, Below.refl _ _⟩
  | false =>
    have HLT := Lib.hid (hlt rfl)
    have HP := Lib.hid (hlt rfl).print
    clear hlt HHV
    obtain ⟨R, hR⟩ : ∃ R, printE l = R := ⟨_, rfl⟩
    obtain ⟨rs, rn⟩ := R
    have HR := Lib.hid hR
    have HPR := Lib.hid (print_any W v l H.out HP.out)
    rw [hR] at HPR
    clear hR
    by_cases hrn : rn = 0
    · subst hrn
      obtain ⟨hok, hpt, hl65⟩ := okL_of HR.out
      have HOK := Lib.hid hok
      have HPT := Lib.hid hpt
      have hcnt := print_cnt hok.2
      rw [← hpt] at hcnt
      have HCN := Lib.hid hcnt
      obtain ⟨ra, hra⟩ : ∃ ra : ByteArray, (⟨rs.toArray⟩ : ByteArray) = ra := ⟨_, rfl⟩
      have hras : ra.size = rs.length := by rw [← hra]; rfl
      have HRA := Lib.hid hra
      have HRS := Lib.hid hras
      have hrl : ra.size ≤ 65536 := by omega
      simp only [sv, hra] at HPR
      clear hok hpt hcnt hra hras hl65
      go_wp2_with ((with_reducible refine HPR.out.mono ?_); rintro e w2 ⟨rfl, hb2⟩; have HB2 := Lib.hid hb2; clear hb2)
      have H2 := Lib.hid (H.out.cong (T := fun _ => True) (w' := w2) (fun _ _ => trivial) (fun k hk => HB2.out.block k hk))
      obtain ⟨ao, cap, rfl, h1, h2⟩ := H2.out.form
      unfold maxLen at h2
      obtain ⟨n, hn⟩ : ∃ n, l.length = n := ⟨_, rfl⟩
      have HN := Lib.hid hn
      simp only [hn] at h1 ⊢
      clear hn H HPR
      go_loop [5, 6] (fun c i => ∃ (k : Nat) (N : Nat), k ≤ n ∧ N ≤ 65536 ∧ i = .int .i64 (k : Int) ∧ c = .int .i64 (N : Int) ∧ Hid (N = ((l.take k).map cntS).sum)) (fun _ i => n - (intOf i).toNat)
      case atStart => exact ⟨0, 0, Nat.zero_le _, Nat.zero_le _, rfl, rfl, Lib.hid rfl⟩
      case round =>
        obtain ⟨k, N, hk, hN, rfl, rfl, HNK⟩ := hrel
        by_cases hlt : k < n
        · skip
          obtain ⟨s, hs⟩ : ∃ s, l[k]? = some s := ⟨_, List.getElem?_eq_getElem (by rw [HN.out]; exact hlt)⟩
          obtain ⟨sb, off, x, rfl, _, c0, c1, hel⟩ := H2.out.get hs
          obtain ⟨t, es⟩ := s
          obtain ⟨eo, ecap, rfl, he1, he2⟩ := hel.form
          have HEL := Lib.hid hel
          have HS := Lib.hid hs
          have hsum := sum_take cntS hs
          have hsle := sum_take_le cntS l (k + 1)
          rw [← HCN.out, ← HRS.out] at hsle
          have HSU := Lib.hid hsum
          obtain ⟨m0, hm0⟩ : ∃ m0, es.length = m0 := ⟨_, rfl⟩
          have HM0 := Lib.hid hm0
          simp only at c1 he1
          rw [hm0] at c1 he1
          unfold maxLen at he2
          have hS0 : cntS ⟨t, es⟩ = 4 + (es.map cntL).sum := rfl
          have hNS : N + cntS ⟨t, es⟩ ≤ 65536 := by rw [HNK.out]; omega
          have HNS := Lib.hid hNS
          have hN4 : N + 4 ≤ 65536 := by omega
          clear hs hel hsum hsle hm0 c0 hS0 hNS
          go_wp2_with fail
          go_loop [5, 7] (fun c i => ∃ (q : Nat) (M : Nat), q ≤ m0 ∧ M ≤ 65536 ∧ i = .int .i64 (q : Int) ∧ c = .int .i64 (M : Int) ∧ Hid (M = N + 4 + ((es.take q).map cntL).sum)) (fun _ i => m0 - (intOf i).toNat)
          case atStart => exact ⟨0, N + 4, Nat.zero_le _, hN4, rfl, by go_num, Lib.hid rfl⟩
          case round =>
            obtain ⟨q, M, hq, hM, rfl, rfl, HMK⟩ := hrel
            by_cases hqlt : q < m0
            · skip
              obtain ⟨e, he⟩ : ∃ e, es[q]? = some e := ⟨_, List.getElem?_eq_getElem (by rw [HM0.out]; exact hqlt)⟩
              obtain ⟨b2, off2, x2, rfl, _, d0, hco⟩ := HEL.out.get he
              obtain ⟨co, ccap, rfl, hc1, hc2⟩ := hco.form
              have HCO := Lib.hid hco
              have HE := Lib.hid he
              have hsum := sum_take cntL he
              have hsle := sum_take_le cntL es (q + 1)
              have HSU2 := Lib.hid hsum
              obtain ⟨z0, hz0⟩ : ∃ z0, e.length = z0 := ⟨_, rfl⟩
              have HZ0 := Lib.hid hz0
              have hE0 : cntL e = z0 + (e.map cntC).sum := by unfold cntL; rw [hz0]
              have hS0 : cntS ⟨t, es⟩ = 4 + (es.map cntL).sum := rfl
              have hME : M + cntL e ≤ 65536 := by have := HNS.out; rw [HMK.out]; omega
              have hMz : M + z0 ≤ 65536 := by omega
              have HME := Lib.hid hME
              rw [hz0] at d0 hc1
              unfold maxLen at hc2
              clear he hco hsum hsle hz0 hE0 hS0 hME
              go_wp2_with fail
              go_loop [5, 8] (fun c i => ∃ (j : Nat) (P : Nat), j ≤ z0 ∧ P ≤ 65536 ∧ i = .int .i64 (j : Int) ∧ c = .int .i64 (P : Int) ∧ Hid (P = M + z0 + ((e.take j).map cntC).sum)) (fun _ i => z0 - (intOf i).toNat)
              case atStart => exact ⟨0, M + z0, Nat.zero_le _, hMz, rfl, by go_num, Lib.hid rfl⟩
              case round =>
                obtain ⟨j, P, hj, hPl, rfl, rfl, HPK⟩ := hrel
                by_cases hjlt : j < z0
                · skip
                  obtain ⟨p, hp⟩ : ∃ p, e[j]? = some p := ⟨_, List.getElem?_eq_getElem (by rw [HZ0.out]; exact hjlt)⟩
                  obtain ⟨b3, off3, rfl, _, e0⟩ := HCO.out.get hp
                  obtain ⟨sp, hsp⟩ : ∃ sp : ByteArray, (⟨p.toArray⟩ : ByteArray) = sp := ⟨_, rfl⟩
                  have hspl : sp.size = p.length := by rw [← hsp]; rfl
                  simp only [sv, hsp] at e0
                  have HPP := Lib.hid hp
                  have HSP := Lib.hid hspl
                  have HSPE := Lib.hid hsp
                  have hsum := sum_take cntC hp
                  have hsle := sum_take_le cntC e (j + 1)
                  have HSU3 := Lib.hid hsum
                  have hE0 : cntL e = z0 + (e.map cntC).sum := by unfold cntL; rw [HZ0.out]
                  have hPC : P + cntC p ≤ 65536 := by have := HME.out; rw [HPK.out]; omega
                  have hC0 : cntC p = sp.size + sgN p := by unfold cntC; rw [hspl]
                  have hPs : P + sp.size + sgN p ≤ 65536 := by omega
                  clear hp hsp hspl hsum hsle hE0 hPC hC0
                  go_wp2_with fail
                  go_loop [5, 10] (fun c i => ∃ (z : Nat) (A : Nat), z ≤ sp.size ∧ A ≤ z ∧ i = .int .i64 (z : Int) ∧ c = .int .i64 ((P + z + A : Nat) : Int) ∧ Hid (A = sgN (p.take z))) (fun _ i => sp.size - (intOf i).toNat)
                  case atStart => exact ⟨0, 0, Nat.zero_le _, Nat.le_refl _, rfl, by go_num, Lib.hid rfl⟩
                  case round =>
                    obtain ⟨z, A, hz, hA, rfl, rfl, HA⟩ := hrel
                    by_cases hzlt : z < sp.size
                    · obtain ⟨c, hc⟩ : ∃ c, p[z]? = some c := ⟨_, List.getElem?_eq_getElem (by rw [← HSP.out]; exact hzlt)⟩
                      have hcq : (sp[z]'hzlt).toNat = c.toNat := by
                        have h1 := at_byte sp z hzlt
                        have hd : sp.data.toList = p := by rw [← HSPE.out]
                        rw [hd, hc] at h1
                        injection h1 with h1
                        exact congrArg UInt8.toNat h1.symm
                      have HST := Lib.hid (sgN_take hc)
                      have hmono := sgN_take_mono p (z + 1)
                      rw [HST.out, ← HA.out] at hmono
                      have hts := fun w => rSign_any c w
                      have b5 : (0 : Int) ≤ z := by omega
                      have b6 : (z : Int) < sp.size := by omega
                      cases hSB : signB c with
                      | true =>
                        rw [hSB] at hts
                        have HTS := Lib.hid hts
                        have HSB := Lib.hid hSB
                        rw [hSB, if_pos rfl] at hmono
                        clear hc hts hSB
                        go_wp2_with (go_at_call 18; (with_reducible refine (HTS.out _).mono ?_); rintro e w' ⟨rfl, rfl⟩)
                        go_round
                        case rel => exact ⟨z + 1, A + 1, by omega, by omega, by go_num, by go_num, Lib.hid (by rw [HST.out, HSB.out, if_pos rfl, HA.out])⟩
                        case measure => simp [intOf]; omega
                      | false =>
                        rw [hSB] at hts
                        have HTS := Lib.hid hts
                        have HSB := Lib.hid hSB
                        rw [hSB] at hmono
                        simp only [Bool.false_eq_true, if_false] at hmono
                        clear hc hts hSB
                        go_wp2_with (go_at_call 18; (with_reducible refine (HTS.out _).mono ?_); rintro e w' ⟨rfl, rfl⟩)
                        go_round
                        case rel => exact ⟨z + 1, A, by omega, by omega, by go_num, by go_num, Lib.hid (by rw [HST.out, HSB.out, HA.out]; simp)⟩
                        case measure => simp [intOf]; omega
                    · obtain rfl : z = sp.size := by omega
                      go_wp2_with fail
                      go_round
                      case rel =>
                        have e1 : p.take sp.size = p := List.take_of_length_le (by rw [HSP.out]; exact Nat.le_refl _)
                        have hA' := HA.out
                        rw [e1] at hA'
                        exact ⟨j + 1, P + sp.size + A, by omega, by omega, by go_num, rfl, Lib.hid (by
                          have h1 : cntC p = sp.size + sgN p := by unfold cntC; rw [HSP.out]
                          rw [HSU3.out, HPK.out, h1, hA']; omega)⟩
                      case measure => simp [intOf]; omega
                · obtain rfl : j = z0 := by omega
                  go_wp2_with fail
                  go_round
                  case rel =>
                    have e1 : e.take j = e := List.take_of_length_le (by rw [HZ0.out]; exact Nat.le_refl _)
                    exact ⟨q + 1, P, by omega, by omega, by go_num, rfl, Lib.hid (by
                      have h1 : cntL e = j + (e.map cntC).sum := by unfold cntL; rw [HZ0.out]
                      rw [HSU2.out, HPK.out, e1, HMK.out, h1]; omega)⟩
                  case measure => simp [intOf]; omega
            · obtain rfl : q = m0 := by omega
              go_wp2_with fail
              go_round
              case rel =>
                have e1 : es.take q = es := List.take_of_length_le (by rw [HM0.out]; exact Nat.le_refl _)
                exact ⟨k + 1, M, by omega, by omega, by go_num, rfl, Lib.hid (by
                  have h1 : cntS ⟨t, es⟩ = 4 + (es.map cntL).sum := rfl
                  rw [HSU.out, HMK.out, e1, HNK.out, h1]; omega)⟩
              case measure => simp [intOf]; omega
        · skip
          obtain rfl : k = n := by omega
          have e1 : l.take k = l := List.take_of_length_le (by rw [HN.out]; exact Nat.le_refl _)
          have hNr : ra.size = N := by rw [HNK.out, e1, HRS.out, HCN.out]
          clear e1
          have HB3 := Lib.hid (HB2.out.mono (show B ≤ W.heap.size by rw [HBQ.out]; exact Nat.le_refl _))
          have hsz := HB3.out.size
          rw [HBQ.out] at hsz
          have hrl2 : ra.toList = rs := by rw [ByteArray.toList_eq, ← HRA.out]
          by_cases hl0 : l = []
          · have hnil : ra.toList = [] := by rw [hrl2, HPT.out, hl0]; rfl
            clear hl0 hrl2
            go_wp2_with ((with_reducible refine (reads_any _).mono ?_); rintro e w5 ⟨rfl, hb5⟩; have HB5 := Lib.hid hb5; clear hb5)
            go_ret
            exact ⟨rfl, HB3.out.trans (HB5.out.mono hsz)⟩
          · obtain ⟨x, hx⟩ := print_last hl0
            rw [← HPT.out] at hx
            have hnil : ¬ ra.toList = [] := by rw [hrl2, hx]; simp
            have hN1 : 1 ≤ N := by
              have h1 := HRS.out
              rw [hx, List.length_append, List.length_singleton] at h1
              omega
            have hlt1 : N - 1 < ra.size := by omega
            have hq : (ra[N - 1]'hlt1).toNat = 39 := by
              have h1 := at_byte ra (N - 1) hlt1
              have hd : ra.data.toList = rs := by rw [← HRA.out]
              have hxl : x.length = N - 1 := by
                have h2 := HRS.out
                rw [hx, List.length_append, List.length_singleton] at h2
                omega
              rw [hd, hx, List.getElem?_append_right (by omega), hxl, Nat.sub_self] at h1
              injection h1 with h1
              rw [← h1]; rfl
            have hN1i : (1 : Int) ≤ N := by omega
            clear hl0 hrl2 hx
            go_wp2_with ((with_reducible refine (reads_any _).mono ?_); rintro e w5 ⟨rfl, hb5⟩; have HB5 := Lib.hid hb5; clear hb5)
            go_ret
            exact ⟨rfl, HB3.out.trans (HB5.out.mono hsz)⟩
    · have hrs := printE_err HR.out hrn
      subst hrs
      have dn : (rn != 0) = true := by rw [bne_iff_ne]; exact hrn
      simp only [sv] at HPR
      clear hrn
      go_wp2_with first
        | ((with_reducible refine HPR.out.mono ?_); rintro e w2 ⟨rfl, hb2⟩; have HB2 := Lib.hid hb2; clear hb2)
        | ((with_reducible refine (reads_any _).mono ?_); rintro e w5 ⟨rfl, hb5⟩; have HB5 := Lib.hid hb5; clear hb5)
      go_ret
      have h1 := HB2.out.size
      exact ⟨rfl, (HB2.out.mono (by rw [HBQ.out]; exact Nat.le_refl _)).trans (HB5.out.mono (by rw [← HBQ.out]; exact h1))⟩
end Go.Proofs.Ytpfkmklhfafkiaa
