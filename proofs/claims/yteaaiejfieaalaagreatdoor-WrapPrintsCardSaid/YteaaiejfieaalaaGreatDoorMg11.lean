/-
  Texts WrapT, one behind the other. No condition beyond those stated in each.
-/
import Derived.Test.YteaaiejfieaalaaGreatDoorMg10
import Derived.Test.YteaaiejfieaalaaGreatDoorMg9
import Derived.Test.YteaaiejfieaalaaGreatDoorMg7
/-
  WrapT: contract of the reference's Print of interchanges. No condition beyond those stated.
-/
namespace Go.Proofs.YteaaiejfieaalaaGreatDoor
open Go.RowKit
theorem cat_data' (a b : ByteArray) : (a ++ b).data.toList = a.data.toList ++ b.data.toList := by simp [ByteArray.data_append]
theorem dec_bytes {u : Nat} (hu : u < 18446744073709551616) : ∃ da : ByteArray, (⟨(decT u).toArray⟩ : ByteArray) = da ∧ da.data.toList = decT u ∧ da.size ≤ 20 := ⟨_, rfl, rfl, by have := dec_len20 hu; simpa [ByteArray.size] using this⟩
theorem rdec_q {u : Nat} (hu : u < 18446744073709551616) {da : ByteArray} (hd : (⟨(decT u).toArray⟩ : ByteArray) = da) (w : World) : Calls Tryz.prog 19 #[.int .u64 (u : Int)] w fun e w' => e = .returned (.string da) ∧ ∃ d, w' = w.drewN d := by
  rw [← hd]; exact rdec_any u hu w
theorem sv_data' (r : ByteArray) : sv r.data.toList = .string r := by cases r; rfl
set_option maxRecDepth 100000 in
set_option maxHeartbeats 8000000 in
theorem r4Print_any {S : Nat → Prop} (x : WD) (v : Value) (w : World) (h1 : x.fr < 256) (h2 : x.dst < 256) (h3 : x.rf < 18446744073709551616) (hs : SegsAt S w v x.segs) (hS : ∀ k, S k → k < w.heap.size) (hP : (printT x.segs).length ≤ 1048576) :
    Calls Tryz.prog 16 #[wv x v] w fun e w' => WPrintQ x w e w' := by
  obtain ⟨fr, dst, rf, m⟩ := x
  simp only at h1 h2 h3 hs hP
  obtain ⟨B, hB⟩ : ∃ B, w.heap.size = B := ⟨_, rfl⟩
  have HBQ := Lib.hid hB
  have HS := Lib.hid hS
  have HSG := Lib.hid hs
  have HPL := Lib.hid hP
  obtain ⟨ao, cap, rfl, c1, c2⟩ := hs.form
  obtain ⟨n, hn⟩ : ∃ n, m.length = n := ⟨_, rfl⟩
  have HN := Lib.hid hn
  rw [hn] at c1 HSG ⊢
  unfold maxLen at c2
  have hbd := (bds_of hP).n
  rw [hn] at hbd
  unfold WPrintQ
  rw [hB]
  obtain ⟨w1, hw1⟩ : ∃ w1, w.alloc (.cells #[.int .u8 (fr : Int), .int .u8 (dst : Int), .int .u64 (rf : Int), .slice ao n cap] 25) = w1 := ⟨_, rfl⟩
  have hz1 : w1.heap.size = B + 1 := by rw [← hw1]; simp [hB]
  have HB1 : Hid (Below B w w1) := Lib.hid (by rw [← hw1, ← hB]; exact (Below.refl _ _).alloc (Nat.le_refl _) _)
  have hr1 : w1.heap[B]? = some (.cells #[.int .u8 (fr : Int), .int .u8 (dst : Int), .int .u64 (rf : Int), .slice ao n cap] 25 (0, 0)) := by rw [← hw1, ← hB]; exact heap_alloc_new _ _
  have HR1 := Lib.hid hr1
  obtain ⟨⟨d0, d1, d2, d3⟩, _⟩ := cells4 hr1
  have HZ1 := Lib.hid hz1
  have HW1 := Lib.hid hw1
  have wr1 : IntKind.u64.wrap (fr : Int) = (fr : Int) := by rw [IntKind.wrap_u64]; omega
  have wr2 : IntKind.u64.wrap (dst : Int) = (dst : Int) := by rw [IntKind.wrap_u64]; omega
  clear hB hs hS hP hn hz1 hw1 hr1
  by_cases g1 : 8 ≤ fr
  · skip
    have i1 : decide ((8 : Int) ≤ (fr : Int)) = true := by rw [decide_eq_true_eq]; omega
    have hE : wrapPrintE ⟨fr, dst, rf, m⟩ = ([], 1) := by unfold wrapPrintE; rw [if_pos (.inl g1)]
    have HE := Lib.hid hE
    clear hE
    unfold wv
    go_enter Tryz.func16, Tryz.ntmps16
    go_upto_region 1 with fail
    rw [HW1.out, HBQ.out]
    go_wp2_with fail
    go_ret2
    rw [HE.out]
    exact ⟨rfl, HB1.out⟩
  have i1 : decide ((8 : Int) ≤ (fr : Int)) = false := by rw [decide_eq_false_iff_not]; omega
  by_cases g2 : 8 ≤ dst
  · skip
    have i2 : decide ((8 : Int) ≤ (dst : Int)) = true := by rw [decide_eq_true_eq]; omega
    have hE : wrapPrintE ⟨fr, dst, rf, m⟩ = ([], 1) := by unfold wrapPrintE; rw [if_pos (.inr g2)]
    have HE := Lib.hid hE
    clear hE
    unfold wv
    go_enter Tryz.func16, Tryz.ntmps16
    go_upto_region 1 with fail
    rw [HW1.out, HBQ.out]
    go_wp2_with fail
    go_ret2
    rw [HE.out]
    exact ⟨rfl, HB1.out⟩
  have i2 : decide ((8 : Int) ≤ (dst : Int)) = false := by rw [decide_eq_false_iff_not]; omega
  by_cases g3 : 62 < n
  · skip
    have i3 : decide ((64 : Int) < (n : Int) + 2) = true := by rw [decide_eq_true_eq]; omega
    have hE : wrapPrintE ⟨fr, dst, rf, m⟩ = ([], 2) := by unfold wrapPrintE; rw [if_neg (by simp only; omega), if_pos (by simp only; rw [HN.out]; exact g3)]
    have HE := Lib.hid hE
    clear hE
    unfold wv
    go_enter Tryz.func16, Tryz.ntmps16
    go_upto_region 1 with fail
    rw [HW1.out, HBQ.out]
    go_wp2_with fail
    go_ret2
    rw [HE.out]
    exact ⟨rfl, HB1.out⟩
  · skip
    have i3 : decide ((64 : Int) < (n : Int) + 2) = false := by rw [decide_eq_false_iff_not]; omega
    have HL0 := Lib.hid (show ¬ 62 < m.length by rw [HN.out]; exact g3)
    have HE := Lib.hid (wrapPrintE_ref ⟨fr, dst, rf, m⟩ h3 (by simp only; omega) HL0.out)
    have wr3 : IntKind.u64.wrap (n : Int) = (n : Int) := by rw [IntKind.wrap_u64]; omega
    obtain ⟨da, ea, la, sa⟩ := dec_bytes (show fr < 18446744073709551616 by omega)
    obtain ⟨db, eb, lb, sb⟩ := dec_bytes (show dst < 18446744073709551616 by omega)
    obtain ⟨dc, ec, lc, sc⟩ := dec_bytes h3
    obtain ⟨dn, en, ln, sn⟩ := dec_bytes (show n < 18446744073709551616 by omega)
    have KA := Lib.hid (fun w => rdec_q (show fr < 18446744073709551616 by omega) ea w)
    have KB := Lib.hid (fun w => rdec_q (show dst < 18446744073709551616 by omega) eb w)
    have KC := Lib.hid (fun w => rdec_q h3 ec w)
    have KN := Lib.hid (fun w => rdec_q (show n < 18446744073709551616 by omega) en w)
    have LA := Lib.hid la
    have LB := Lib.hid lb
    have LC := Lib.hid lc
    have LN := Lib.hid ln
    have H3 := Lib.hid h3
    clear ea eb ec en la lb lc ln h3 h1 h2
    obtain ⟨R, hR⟩ : ∃ R, printE m = R := ⟨_, rfl⟩
    obtain ⟨rs, rn⟩ := R
    obtain ⟨ra, hra⟩ : ∃ ra : ByteArray, (⟨rs.toArray⟩ : ByteArray) = ra := ⟨_, rfl⟩
    have HRAD := Lib.hid (show ra.data.toList = rs by rw [← hra])
    have HPR := Lib.hid (rPrint_any (S := S) w1 (.slice ao n cap) m (HSG.out.cong (fun _ hk => hk) (fun k hk => HB1.out.block k (by rw [← HBQ.out]; exact HS.out k hk))) (fun k hk => by rw [HZ1.out]; have := HS.out k hk; rw [HBQ.out] at this; omega) HPL.out)
    rw [hR] at HPR
    have HR := Lib.hid hR
    simp only [sv, hra] at HPR
    have hrl : ra.size ≤ 65536 := by
      have hp : rs.length ≤ 65536 := by
        have h := hR
        unfold printE at h
        split at h
        · cases h; simp
        · split at h
          · cases h; simp
          · split at h
            · cases h; simp
            · rename_i hh
              cases h
              simp only [Bool.or_eq_true, decide_eq_true_eq, not_or] at hh
              omega
      rw [← HRAD.out] at hp
      simpa using hp
    have HRL := Lib.hid hrl
    clear hR hra hrl
    unfold wv
    go_enter Tryz.func16, Tryz.ntmps16
    go_upto_region 1 with fail
    rw [HW1.out, HBQ.out]
    go_upto_region 6 with ((with_reducible refine HPR.out.mono ?_); rintro e w2 ⟨rfl, hb2⟩; rw [HZ1.out] at hb2; have HB2 := Lib.hid hb2; clear hb2)
    have HBW := Lib.hid (HB1.out.trans (HB2.out.mono (by omega)))
    obtain ⟨⟨q0, q1, q2, q3⟩, _⟩ := cells4 ((HB2.out.block B (by omega)).trans HR1.out)
    clear d0 d1 d2 d3 HPR
    by_cases hrn : rn = 0
    · subst hrn
      have hrl := HRL.out
      go_upto_region 8 with fail
      go_quiet ((first | (with_reducible exact Calls.quiet_of (KA.out _)) | (with_reducible exact Calls.quiet_of (KB.out _)) | (with_reducible exact Calls.quiet_of (KC.out _)) | (with_reducible exact Calls.quiet_of (KN.out _))))
      obtain ⟨X, hX⟩ : ∃ X : ByteArray, (⟨#[85, 78, 66, 43]⟩ : ByteArray) ++ da ++ (⟨#[43]⟩ : ByteArray) ++ db ++ (⟨#[43]⟩ : ByteArray) ++ dc ++ (⟨#[39]⟩ : ByteArray) ++ ra ++ (⟨#[85, 78, 90, 43]⟩ : ByteArray) ++ dn ++ (⟨#[43]⟩ : ByteArray) ++ dc ++ (⟨#[39]⟩ : ByteArray) = X := ⟨_, rfl⟩
      have hXd : X.data.toList = roundT fr dst rf n rf rs := by
        rw [← hX]
        simp only [cat_data', LA.out, LB.out, LC.out, LN.out, HRAD.out]
        unfold roundT unb unz
        simp
      rw [hX]
      have hXs : X.size = (roundT fr dst rf n rf rs).length := by rw [← hXd]; simp
      have HXD := Lib.hid hXd
      have HXS := Lib.hid hXs
      have HE2 := HE.out
      rw [HR.out, HN.out, if_neg (by simp)] at HE2
      have HE3 := Lib.hid HE2
      clear hX hXd hXs HE HE2 q0 q1 q2 q3
      by_cases hx : 65536 < X.size
      · have e7 : decide ((65536 : Int) < (X.size : Int)) = true := by rw [decide_eq_true_eq]; omega
        go_wp2_with fail
        go_ret2
        rw [HE3.out, if_pos (by rw [← HXS.out]; exact hx)]
        exact ⟨rfl, HBW.out.trans (Drew.below ⟨_, rfl⟩ _)⟩
      · have e7 : decide ((65536 : Int) < (X.size : Int)) = false := by rw [decide_eq_false_iff_not]; omega
        go_wp2_with fail
        go_ret2
        rw [HE3.out, if_neg (by rw [← HXS.out]; exact hx), ← HXD.out]
        exact ⟨by rw [sv_data']; rfl, HBW.out.trans (Drew.below ⟨_, rfl⟩ _)⟩
    · have d0 : (rn != 0) = true := by rw [bne_iff_ne]; exact hrn
      have HRN := Lib.hid hrn
      clear hrn
      go_wp2_with fail
      go_ret2
      rw [HE.out, HR.out, if_pos HRN.out]
      exact ⟨rfl, HBW.out⟩
end Go.Proofs.YteaaiejfieaalaaGreatDoor
