/-
  EdiBackV: the walk of EdiBack for every input. No condition.
-/
import Derived.Test.YtpfkmklhfafkiaaEdiSignsV
import Derived.Test.YtpfkmklhfafkiaaEdiW
namespace Go.Proofs.Ytpfkmklhfafkiaa
open Go.RowKit
theorem no10_take {t : Str} {k : Nat} {c : UInt8} (h : t[k]? = some c) : no10 (t.take (k + 1)) = no10 (t.take k) ++ (if c = 10 then [] else [c]) := by
  rw [List.take_add_one, h]
  unfold no10
  rw [List.filter_append]
  by_cases h10 : c = 10 <;> simp [h10]
set_option maxRecDepth 100000 in
set_option maxHeartbeats 4000000 in
theorem ediBack_walk {W : World} (v : Value) (l : List Seg) (h : SegsAt (Low W) W v l) (ts : ByteArray) (_w1 : ts.size ≤ maxLen) : Calls Try.prog 4 #[v, .string ts] W fun e w' => e = .returned (.bool true) ∧ Below W.heap.size W w' := by
  have H := Lib.hid h
  have HHV := Lib.hid (eheavy_any W h)
  obtain ⟨B, hB⟩ : ∃ B, W.heap.size = B := ⟨_, rfl⟩
  have HBQ := Lib.hid hB
  rw [hB]
  clear h hB _w1
  go_enter Try.func4, Try.ntmps4
  go_wp2_with fail
  refine HHV.out.mono ?_
  rintro e w' ⟨⟨b, rfl, hlt⟩, rfl⟩
  cases b with
  | true =>
    clear hlt
    go_wp2_with fail
    go_ret
    exact ⟨rfl, Below.refl _ _⟩
  | false =>
    have HLT := Lib.hid (hlt rfl)
    have HP := Lib.hid (hlt rfl).print
    clear hlt HHV
    by_cases h3 : 3000 < ts.size
    · have d3 : decide ((3000 : Int) < (ts.size : Int)) = true := by rw [decide_eq_true_eq]; omega
      go_wp2_with fail
      go_ret
      exact ⟨rfl, Below.refl _ _⟩
    · have d3 : decide ((3000 : Int) < (ts.size : Int)) = false := by rw [decide_eq_false_iff_not]; omega
      obtain ⟨R, hR⟩ : ∃ R, printE l = R := ⟨_, rfl⟩
      obtain ⟨rs, rn⟩ := R
      have HR := Lib.hid hR
      have HPR := Lib.hid (print_any W v l H.out HP.out)
      rw [hR] at HPR
      clear hR
      obtain ⟨ra, hra⟩ : ∃ ra : ByteArray, (⟨rs.toArray⟩ : ByteArray) = ra := ⟨_, rfl⟩
      have hras : ra.size = rs.length := by rw [← hra]; rfl
      have hrad : ra.data.toList = rs := by rw [← hra]
      have HRA := Lib.hid hra
      have HRAS := Lib.hid hras
      have HRAD := Lib.hid hrad
      simp only [sv, hra] at HPR
      clear hra hras hrad
      obtain ⟨E0, hE0⟩ : ∃ b, (rn == 0) = b := ⟨_, rfl⟩
      go_upto_if 30 with ((with_reducible refine HPR.out.mono ?_); rintro e w2 ⟨rfl, hb2⟩; have HB2 := Lib.hid hb2; clear hb2)
      have HB3 := Lib.hid (HB2.out.mono (show B ≤ W.heap.size by rw [HBQ.out]; exact Nat.le_refl _))
      go_cut [] (fun wx => Hid (Below B W wx))
      case first =>
        cases E0 with
        | true =>
          obtain rfl : rn = 0 := by simpa using hE0
          clear hE0
          obtain ⟨hok, hpt, hl65⟩ := okL_of HR.out
          have hpp := parse_print hok (by rw [← hpt]; exact hl65)
          rw [← hpt] at hpp
          have HPA := Lib.hid (parse_any ra (by rw [HRAS.out]; exact hl65) w2)
          rw [HRAD.out, hpp] at HPA
          clear hok hpt hl65 hpp
          go_upto_region 6 with ((with_reducible refine HPA.out.mono ?_); rintro e w3 ⟨m, rfl, hs3, hb3⟩; have HS3 := Lib.hid hs3; have HB4 := Lib.hid hb3; clear hs3 hb3)
          have HSM := Lib.hid (same_any (S := fun _ => True) (T := fun _ => True) w3 (H.out.cong (fun _ _ => trivial) (fun k hk => (HB4.out.block k (Nat.lt_of_lt_of_le hk HB2.out.size)).trans (HB2.out.block k hk))) (HS3.out.cong (fun _ _ => trivial) (fun _ _ => rfl)))
          rw [sameB_self] at HSM
          go_wp2_with ((with_reducible refine HSM.out.mono ?_); rintro e w4 ⟨rfl, hd⟩; have HD := Lib.hid (hd.below B); clear hd)
          go_meet
          case rel =>
            have h1 := HB3.out.size
            rw [HBQ.out] at h1
            exact Lib.hid ((HB3.out.trans (HB4.out.mono h1)).trans HD.out)
        | false =>
          have hrn : rn ≠ 0 := by simpa using hE0
          have hrs := printE_err HR.out hrn
          have hnil : ra.toList = [] := by rw [ByteArray.toList_eq, HRAD.out, hrs]
          clear hE0 hrn hrs
          go_wp2_with fail
          go_meet
          case rel => exact Lib.hid HB3.out
      case rest =>
        have HC := hcut
        clear hcut hE0 HB3 HB2 HPR HR HRA HRAS HRAD d3
        obtain ⟨P, hP⟩ : ∃ P, parseE ts.data.toList = P := ⟨_, rfl⟩
        obtain ⟨m, at_, k⟩ := P
        have hlen : ts.data.toList.length ≤ 65536 := by
          have : ts.data.toList.length = ts.size := by simp
          omega
        have HPA := Lib.hid (parse_any ts (by omega) wc)
        rw [hP] at HPA
        by_cases hk : k = 0
        · subst hk
          obtain ⟨hpr, hokm⟩ := print_parse hP hlen
          obtain ⟨_, hpt, hl65⟩ := okL_of hpr
          have HPRM := Lib.hid hpr
          have HPL := Lib.hid (show (printT m).length ≤ 1048576 by rw [← hpt]; omega)
          clear hP hpr hokm hpt hl65
          go_wp2_with ((with_reducible refine HPA.out.mono ?_); rintro e w3 ⟨mv, rfl, hs3, hb3⟩; have HS3 := Lib.hid hs3; have HB4 := Lib.hid hb3; clear hs3 hb3)
          have HPR := Lib.hid (print_any w3 mv m (HS3.out.cong (fun _ hk => hk.2) (fun _ _ => rfl)) HPL.out)
          rw [HPRM.out] at HPR
          obtain ⟨T, hT⟩ : ∃ T, ts.data.toList = T := ⟨_, rfl⟩
          have HT := Lib.hid hT
          rw [hT] at HPR
          obtain ⟨na, hna⟩ : ∃ na : ByteArray, (⟨(no10 T).toArray⟩ : ByteArray) = na := ⟨_, rfl⟩
          simp only [sv, hna] at HPR
          have HNA := Lib.hid hna
          clear hT hna hlen
          refine HPR.out.mono ?_
          rintro e w4 ⟨rfl, hb4⟩
          have HB5 := Lib.hid hb4
          clear hb4 HPA HPR
          have HB6 : Hid (Below B W w4) := Lib.hid (by
            have h1 := HC.out.size
            rw [HBQ.out] at h1
            have h2 := HC.out.trans (HB4.out.mono h1)
            have h3 := h2.size
            rw [HBQ.out] at h3
            exact h2.trans (HB5.out.mono h3))
          clear HB4 HB5 HC HS3
          go_wp2_with fail
          go_loopw [15, 16] (fun bv i wr => ∃ (q : Nat), q ≤ ts.size ∧ i = .int .i64 (q : Int) ∧ Hid (OwnS wr B bv (no10 (T.take q))) ∧ Hid (Below B W wr)) (fun _ i _ => ts.size - (intOf i).toNat)
          case atStart => exact ⟨0, Nat.zero_le _, rfl, Lib.hid (OwnS.nil _ _), HB6⟩
          case round =>
            obtain ⟨q, hq, rfl, HO, HB7⟩ := hrel
            clear HB6
            have hBs := HB7.out.size
            rw [HBQ.out] at hBs
            by_cases hql : q < ts.size
            · obtain ⟨c, hc⟩ : ∃ c, T[q]? = some c := ⟨_, by rw [← HT.out]; exact at_byte ts q hql⟩
              have hcq : (ts[q]'hql).toNat = c.toNat := by
                have h1 := at_byte ts q hql
                rw [HT.out, hc] at h1
                injection h1 with h1
                exact congrArg UInt8.toNat h1.symm
              have HN := Lib.hid (no10_take hc)
              have hol : (no10 (T.take q)).length ≤ 3000 := by
                have h1 := no10_le (T.take q)
                rw [List.length_take] at h1
                omega
              have b5 : (0 : Int) ≤ q := by omega
              have b6 : (q : Int) < ts.size := by omega
              clear hc
              by_cases h10 : c = 10
              · subst h10
                have hcq' : (ts[q]'hql).toNat = 10 := hcq
                clear hcq
                go_wp2_with fail
                go_roundw
                case rel => exact ⟨q + 1, by omega, by go_num, Lib.hid (by rw [HN.out, if_pos rfl, List.append_nil]; exact HO.out), HB7⟩
                case measure => simp [intOf]; omega
              · have dc : ((c.toNat : Int) == 10) = false := by
                  rw [beq_eq_false_iff_ne]; intro e
                  exact h10 (UInt8.toNat_inj.1 (by have : c.toNat = 10 := by omega
                                                   rw [this]; rfl))
                have dc2 : ((c.toNat : Int) != 10) = true := by
                  rw [bne_iff_ne]; intro e
                  exact h10 (UInt8.toNat_inj.1 (by have : c.toNat = 10 := by omega
                                                   rw [this]; rfl))
                have H10 := Lib.hid h10
                clear h10
                go_wp2_with ((with_reducible refine wpList_at (.call { callee := .builtin .append, args := #[.tmp 80, .tmp 84], argTypes := #[32, 32] }) rfl ?_); go_loud (refine wp_app1 rfl _ _ rfl c rfl rfl HO.out (by omega) hBs ?_); intro v8 w8 ho8 hg8; have HO8 := Lib.hid ho8; have HB8 := Lib.hid (below_grownO HB7.out HO.out hg8 hBs); clear ho8 hg8)
                go_roundw
                case rel => exact ⟨q + 1, by omega, by go_num, Lib.hid (by rw [HN.out, if_neg H10.out]; exact HO8.out), HB8⟩
                case measure => simp [intOf]; omega
            · obtain rfl : q = ts.size := by omega
              have e1 : T.take ts.size = T := List.take_of_length_le (by rw [← HT.out]; simp)
              have hO := HO.out
              rw [e1] at hO
              obtain ⟨ba, bc, rfl⟩ := hO.form
              have hcv : (convert 32 9 (.slice ba (no10 T).length bc)).run Try.prog wr = .ok (.string na) wr := by rw [← HNA.out]; exact conv_own hO
              have d1 := str_same na
              clear e1 hO
              go_wp2_with ((with_reducible refine (reads_any _).mono ?_); rintro e w5 ⟨rfl, hb5⟩; have HB9 := Lib.hid hb5; clear hb5)
              go_ret
              exact ⟨rfl, HB7.out.trans (HB9.out.mono hBs)⟩
        · skip
          obtain ⟨_, _, rfl, _⟩ := parse_cut hP hlen hk
          have dk : (k != 0) = true := by rw [bne_iff_ne]; exact hk
          clear hP hk hlen
          go_upto_region 12 with ((with_reducible refine HPA.out.mono ?_); rintro e w3 ⟨mv, rfl, hs3, hb3⟩; obtain ⟨ma, mc, rfl, _⟩ := hs3.form; have HB4 := Lib.hid hb3; clear hs3 hb3)
          have h1 := HC.out.size
          rw [HBQ.out] at h1
          have HB5 := Lib.hid (HC.out.trans (HB4.out.mono h1))
          clear h1
          go_wp2_with ((with_reducible refine (reads_any _).mono ?_); rintro e w5 ⟨rfl, hb5⟩; have HB9 := Lib.hid hb5; clear hb5)
          go_ret
          have h3 := HB5.out.size
          rw [HBQ.out] at h3
          exact ⟨rfl, HB5.out.trans (HB9.out.mono h3)⟩
end Go.Proofs.Ytpfkmklhfafkiaa
