/-
  EdiCutsV: the walk of EdiCuts for every input. No condition.
-/
import Derived.Test.YtpfkmklhfafkiaaEdiBackV
import Derived.Test.YtpfkmklhfafkiaaEdiA9
namespace Go.Proofs.Ytpfkmklhfafkiaa
open Go.RowKit
theorem data_len (s : ByteArray) : s.data.toList.length = s.size := by simp
set_option maxRecDepth 100000 in
set_option maxHeartbeats 4000000 in
theorem ediCuts_walk {W : World} (a : ByteArray) (_w0 : a.size ≤ maxLen) (b : ByteArray) (_w1 : b.size ≤ maxLen) : Calls Try.prog 5 #[.string a, .string b] W fun e w' => e = .returned (.bool true) ∧ Below W.heap.size W w' := by
  obtain ⟨B, hB⟩ : ∃ B, W.heap.size = B := ⟨_, rfl⟩
  have HBQ := Lib.hid hB
  rw [hB]
  clear hB _w0 _w1
  by_cases ha : 3000 < a.size
  · have d3 : decide ((3000 : Int) < (a.size : Int)) = true := by rw [decide_eq_true_eq]; omega
    go_enter Try.func5, Try.ntmps5
    go_wp2_with fail
    go_ret
    exact ⟨rfl, Below.refl _ _⟩
  · have d3 : decide ((3000 : Int) < (a.size : Int)) = false := by rw [decide_eq_false_iff_not]; omega
    by_cases hb : 3000 < b.size
    · have d4 : decide ((3000 : Int) < (b.size : Int)) = true := by rw [decide_eq_true_eq]; omega
      go_enter Try.func5, Try.ntmps5
      go_wp2_with fail
      go_ret
      exact ⟨rfl, Below.refl _ _⟩
    · have d4 : decide ((3000 : Int) < (b.size : Int)) = false := by rw [decide_eq_false_iff_not]; omega
      obtain ⟨P, hP⟩ : ∃ P, parseE a.data.toList = P := ⟨_, rfl⟩
      obtain ⟨l, at_, k⟩ := P
      have hlen : a.data.toList.length ≤ 65536 := by rw [data_len]; omega
      have HPA := Lib.hid (parse_any a (by omega) W)
      rw [hP] at HPA
      by_cases hk : k = 0
      · subst hk
        obtain ⟨hat, _⟩ := parse_ok hP hlen
        subst hat
        obtain ⟨Q, hQ⟩ : ∃ Q, parseE b.data.toList = Q := ⟨_, rfl⟩
        obtain ⟨m, at2, k2⟩ := Q
        have HP := Lib.hid hP
        have HQ := Lib.hid hQ
        clear hP hQ hlen
        go_enter Try.func5, Try.ntmps5
        go_wp2_with ((with_reducible refine HPA.out.mono ?_); rintro e w1 ⟨lv, rfl, hs1, hb1⟩; have HS1 := Lib.hid hs1; have HB1 := Lib.hid (hb1.mono (show B ≤ W.heap.size by rw [HBQ.out]; exact Nat.le_refl _)); clear hs1 hb1)
        have HPB := Lib.hid (parse_any b (by omega) w1)
        rw [HQ.out] at HPB
        have hz1 := HB1.out.size
        rw [HBQ.out] at hz1
        refine HPB.out.mono ?_
        rintro e w2 ⟨mv, rfl, hs2, hb2⟩
        have HS2 := Lib.hid hs2
        have HB2 := Lib.hid hb2
        have HB3 := Lib.hid (HB1.out.trans (hb2.mono hz1))
        have hz2 := HB3.out.size
        rw [HBQ.out] at hz2
        obtain ⟨la, lc, rfl, hl1, hl2⟩ := HS1.out.form
        obtain ⟨ma, mc, rfl, hm1, hm2⟩ := HS2.out.form
        unfold maxLen at hl2 hm2
        clear hs2 hb2 HPA HPB
        by_cases hk2 : k2 = 0
        · subst hk2
          by_cases h64 : 64 < l.length + m.length
          · have hl64 : l.length ≤ 64 := (print_parse HP.out (by rw [data_len]; omega)).2.1
            have hm64 : m.length ≤ 64 := (print_parse HQ.out (by rw [data_len]; omega)).2.1
            have d5 : decide ((64 : Int) < (l.length : Int) + (m.length : Int)) = true := by rw [decide_eq_true_eq]; omega
            have d6 : (64 : Int) < (l.length : Int) + (m.length : Int) := by omega
            go_wp2_with ((with_reducible refine (reads_any _).mono ?_); rintro e w5 ⟨rfl, hb5⟩; have HB5 := Lib.hid hb5; clear hb5)
            go_ret
            exact ⟨rfl, HB3.out.trans (HB5.out.mono hz2)⟩
          · have d5 : decide ((64 : Int) < (l.length : Int) + (m.length : Int)) = false := by rw [decide_eq_false_iff_not]; omega
            have d6 : ¬ (64 : Int) < (l.length : Int) + (m.length : Int) := by omega
            obtain ⟨n1, hn1⟩ : ∃ n1, l.length = n1 := ⟨_, rfl⟩
            obtain ⟨n2, hn2⟩ : ∃ n2, m.length = n2 := ⟨_, rfl⟩
            have HN1 := Lib.hid hn1
            have HN2 := Lib.hid hn2
            have HS1' : Hid (SegsAt (fun k => W.heap.size ≤ k ∧ k < w1.heap.size) w1 (.slice la n1 lc) l) := Lib.hid (by rw [← hn1]; exact HS1.out)
            have HS2' : Hid (SegsAt (fun k => w1.heap.size ≤ k ∧ k < w2.heap.size) w2 (.slice ma n2 mc) m) := Lib.hid (by rw [← hn2]; exact HS2.out)
            simp only [hn1, hn2] at hl1 hm1 h64 d5 d6 ⊢
            clear hn1 hn2 HS1 HS2
            by_cases h10 : b.data.toList.head? = some 10
            · have hb0 : 0 < b.size := by
                rw [← data_len]; cases hd : b.data.toList with
                | nil => rw [hd] at h10; cases h10
                | cons x y => simp
              have hq : (b[0]'hb0).toNat = 10 := by
                have h1 := at_byte b 0 hb0
                rw [List.head?_eq_getElem?] at h10
                rw [h10] at h1
                injection h1 with h1
                rw [← h1]; rfl
              have d7 : (0 : Int) < (b.size : Int) := by omega
              clear h10 d5
              go_wp2_with ((with_reducible refine (reads_any _).mono ?_); rintro e w5 ⟨rfl, hb5⟩; have HB5 := Lib.hid hb5; clear hb5)
              go_ret
              exact ⟨rfl, HB3.out.trans (HB5.out.mono hz2)⟩
            · have happ := parse_app HP.out HQ.out (by rw [data_len]; omega) (by rw [data_len]; omega) (by rw [HN1.out, HN2.out]; omega) h10
              obtain ⟨ab, hab⟩ : ∃ ab : ByteArray, a ++ b = ab := ⟨_, rfl⟩
              have hd : ab.data.toList = a.data.toList ++ b.data.toList := by rw [← hab, ByteArray.data_append]; simp
              rw [← hd] at happ
              have hsz : ab.size = a.size + b.size := by rw [← hab]; exact ByteArray.size_append
              have HPC := Lib.hid (parse_any ab (by omega) w2)
              rw [happ] at HPC
              have hokl := (print_parse HP.out (by rw [data_len]; omega)).1
              have hprl : (printT l).length ≤ 1048576 := by have h1 := okL_of hokl; rw [← h1.2.1]; omega
              have HPRL := Lib.hid hprl
              have HAB := Lib.hid hab
              have hcond : b.size = 0 ∨ (∃ h : 0 < b.size, (b[0]'h).toNat ≠ 10) := by
                rcases Nat.eq_zero_or_pos b.size with h0 | h0
                · exact .inl h0
                · refine .inr ⟨h0, fun hq => h10 ?_⟩
                  have h1 := at_byte b 0 h0
                  rw [List.head?_eq_getElem?, h1]
                  exact congrArg some (UInt8.toNat_inj.1 (by rw [hq]; rfl))
              clear happ hd hokl hprl h10 d5 hsz
              rcases hcond with h0 | ⟨h0, hq⟩
              · have d7 : ¬ (0 : Int) < (b.size : Int) := by omega
                go_wp2_with fail
                refine HPC.out.mono ?_
                rintro e w3 ⟨nv, rfl, hs3, hb3⟩
                have HS3 := Lib.hid hs3
                have HB4 := Lib.hid hb3
                clear hs3 hb3 HPC
                have hz3 := HB4.out.size
                have hz12 := HB2.out.size
                have HB5 := Lib.hid (HB3.out.trans (HB4.out.mono hz2))
                have HOW := Lib.hid (own_any (S := fun k => k < w3.heap.size) w3 (.slice la n1 lc) l (HS1'.out.cong (fun k hk => by omega) (fun k hk => (HB4.out.block k (by omega)).trans (HB2.out.block k hk.2))) (fun _ hk => hk) HPRL.out)
                go_wp2_with first
                  | ((with_reducible refine HOW.out.mono ?_); rintro e w4 ⟨⟨ov, xs4, rfl, ho4⟩, hb4⟩; have HO4 := Lib.hid ho4; have HB6 := Lib.hid hb4; have hz4 := hb4.size; have HM4 := Lib.hid (HS2'.out.cong (T := fun k => k < w2.heap.size) (w' := w4) (fun _ hk => hk.2) (fun k hk => (hb4.block k (by omega)).trans (HB4.out.block k hk.2))); clear ho4 hb4)
                  | ((with_reducible refine wpList_at (.call { callee := .builtin .append, args := #[.tmp 112, .tmp 113], argTypes := #[22, 22] }) rfl ?_); go_loud (refine wp_app_segs _ _ rfl rfl rfl rfl HO4.out HM4.out (fun _ hk => by omega) (by rw [HN1.out, HN2.out]; omega) hz4 ?_); intro av w5 hs5 hb5; have HS5 := Lib.hid hs5; have HB7 := Lib.hid hb5; have hz5 := hb5.size; have HSM := Lib.hid (same_any (S := fun _ => True) (T := fun _ => True) w5 (HS3.out.cong (fun _ _ => trivial) (fun k hk => (hb5.block k hk.2).trans (HB6.out.block k hk.2))) hs5); rw [sameB_self] at HSM; clear hs5 hb5)
                  | ((with_reducible refine HSM.out.mono ?_); rintro e w6 ⟨rfl, hd⟩; have HD := Lib.hid (hd.below B); clear hd)
                  | ((with_reducible refine (reads_any _).mono ?_); rintro e w7 ⟨rfl, hb7⟩; have HB8 := Lib.hid hb7; clear hb7)
                go_ret
                have h5 : Below B W w5 := HB5.out.trans ((HB6.out.mono (by omega)).trans (HB7.out.mono (by omega)))
                have h6 := h5.trans HD.out
                have h7 := h6.size
                rw [HBQ.out] at h7
                exact ⟨rfl, h6.trans (HB8.out.mono h7)⟩
              · have d7 : (0 : Int) < (b.size : Int) := by omega
                have d8 : ((((b[0]'h0).toNat : Nat) : Int) == 10) = false := by rw [beq_eq_false_iff_ne]; omega
                go_wp2_with fail
                refine HPC.out.mono ?_
                rintro e w3 ⟨nv, rfl, hs3, hb3⟩
                have HS3 := Lib.hid hs3
                have HB4 := Lib.hid hb3
                clear hs3 hb3 HPC
                have hz3 := HB4.out.size
                have hz12 := HB2.out.size
                have HB5 := Lib.hid (HB3.out.trans (HB4.out.mono hz2))
                have HOW := Lib.hid (own_any (S := fun k => k < w3.heap.size) w3 (.slice la n1 lc) l (HS1'.out.cong (fun k hk => by omega) (fun k hk => (HB4.out.block k (by omega)).trans (HB2.out.block k hk.2))) (fun _ hk => hk) HPRL.out)
                go_wp2_with first
                  | ((with_reducible refine HOW.out.mono ?_); rintro e w4 ⟨⟨ov, xs4, rfl, ho4⟩, hb4⟩; have HO4 := Lib.hid ho4; have HB6 := Lib.hid hb4; have hz4 := hb4.size; have HM4 := Lib.hid (HS2'.out.cong (T := fun k => k < w2.heap.size) (w' := w4) (fun _ hk => hk.2) (fun k hk => (hb4.block k (by omega)).trans (HB4.out.block k hk.2))); clear ho4 hb4)
                  | ((with_reducible refine wpList_at (.call { callee := .builtin .append, args := #[.tmp 112, .tmp 113], argTypes := #[22, 22] }) rfl ?_); go_loud (refine wp_app_segs _ _ rfl rfl rfl rfl HO4.out HM4.out (fun _ hk => by omega) (by rw [HN1.out, HN2.out]; omega) hz4 ?_); intro av w5 hs5 hb5; have HS5 := Lib.hid hs5; have HB7 := Lib.hid hb5; have hz5 := hb5.size; have HSM := Lib.hid (same_any (S := fun _ => True) (T := fun _ => True) w5 (HS3.out.cong (fun _ _ => trivial) (fun k hk => (hb5.block k hk.2).trans (HB6.out.block k hk.2))) hs5); rw [sameB_self] at HSM; clear hs5 hb5)
                  | ((with_reducible refine HSM.out.mono ?_); rintro e w6 ⟨rfl, hd⟩; have HD := Lib.hid (hd.below B); clear hd)
                  | ((with_reducible refine (reads_any _).mono ?_); rintro e w7 ⟨rfl, hb7⟩; have HB8 := Lib.hid hb7; clear hb7)
                go_ret
                have h5 : Below B W w5 := HB5.out.trans ((HB6.out.mono (by omega)).trans (HB7.out.mono (by omega)))
                have h6 := h5.trans HD.out
                have h7 := h6.size
                rw [HBQ.out] at h7
                exact ⟨rfl, h6.trans (HB8.out.mono h7)⟩
        · have dk : (k2 != 0) = true := by rw [bne_iff_ne]; exact hk2
          clear hk2
          go_wp2_with ((with_reducible refine (reads_any _).mono ?_); rintro e w5 ⟨rfl, hb5⟩; have HB5 := Lib.hid hb5; clear hb5)
          go_ret
          exact ⟨rfl, HB3.out.trans (HB5.out.mono hz2)⟩
      · skip
        obtain ⟨hat, hke, rfl, hcut⟩ := parse_cut hP hlen hk
        rw [data_len] at hat hke
        have dk : (k != 0) = true := by rw [bne_iff_ne]; exact hk
        obtain ⟨K1, hK1⟩ : ∃ x, (k == 31) = x := ⟨_, rfl⟩
        have hK2 : ((at_ : Int) == (a.size : Int)) = K1 := by rw [← hK1, Bool.eq_iff_iff]; simp; omega
        have HCUT := Lib.hid hcut
        clear hP hlen hk hke hcut
        go_enter Try.func5, Try.ntmps5
        go_wp2_with ((with_reducible refine HPA.out.mono ?_); rintro e w1 ⟨lv, rfl, hs1, hb1⟩; have HB1 := Lib.hid (hb1.mono (show B ≤ W.heap.size by rw [HBQ.out]; exact Nat.le_refl _)); clear hs1 hb1)
        obtain ⟨ap, hap⟩ : ∃ ap : ByteArray, a.extract 0 at_ = ap := ⟨_, rfl⟩
        have hd : ap.data.toList = a.data.toList.take at_ := by rw [← hap]; simp [ByteArray.data_extract]
        have hz : ap.size = at_ := by rw [← data_len, hd, List.length_take, data_len]; omega
        have HPB := Lib.hid (parse_any ap (by omega) w1)
        rw [hd] at HPB
        have hz1 := HB1.out.size
        rw [HBQ.out] at hz1
        rw [hap]
        clear hd hap hz
        rcases HCUT.out with ⟨m', hm'⟩ | hm'
        all_goals
          rw [hm'] at HPB
          clear hm'
          go_wp2_with first
            | ((with_reducible refine HPB.out.mono ?_); rintro e w2 ⟨lv2, rfl, hs2, hb2⟩; have HB2 := Lib.hid hb2; clear hs2 hb2)
            | ((with_reducible refine (reads_any _).mono ?_); rintro e w5 ⟨rfl, hb5⟩; have HB5 := Lib.hid hb5; clear hb5)
          go_ret
          have h3 := HB1.out.trans (HB2.out.mono hz1)
          have h4 := h3.size
          rw [HBQ.out] at h4
          exact ⟨rfl, h3.trans (HB5.out.mono h4)⟩
end Go.Proofs.Ytpfkmklhfafkiaa
