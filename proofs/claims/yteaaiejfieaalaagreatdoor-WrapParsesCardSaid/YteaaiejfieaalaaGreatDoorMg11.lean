/-
  Texts WrapT, RefP, RefA, RefB, RefC, RefD, one behind the other. No condition beyond those stated in each.
-/
import Derived.Test.YteaaiejfieaalaaGreatDoorMg10
import Derived.Test.YteaaiejfieaalaaGreatDoorMg9
import Derived.Test.YteaaiejfieaalaaGreatDoorMg7
import Derived.Test.YteaaiejfieaalaaGreatDoorMg4
import Derived.Test.YteaaiejfieaalaaGreatDoorMg2
import Derived.Test.YteaaiejfieaalaaGreatDoorMg6
import Derived.IntWalk
/-
  WrapT: contract of the reference's Print of interchanges. No condition beyond those stated.
-/
namespace Go.Proofs.YteaaiejfieaalaaGreatDoor
open Go.RowKit
theorem cat_data' (a b : ByteArray) : (a ++ b).data.toList = a.data.toList ++ b.data.toList := by simp [ByteArray.data_append]
theorem dec_bytes {u : Nat} (hu : u < 18446744073709551616) : ∃ da : ByteArray, (⟨(decT u).toArray⟩ : ByteArray) = da ∧ da.data.toList = decT u ∧ da.size ≤ 20 := ⟨_, rfl, rfl, by have := dec_len20 hu; simpa [ByteArray.size] using this⟩
theorem rdec_q {u : Nat} (hu : u < 18446744073709551616) {da : ByteArray} (hd : (⟨(decT u).toArray⟩ : ByteArray) = da) (w : World) : Calls Tryz.prog 19 #[.int .u64 (u : Int)] w fun e w' => e = .returned (.string da) ∧ ∃ d, w' = w.drewN d := by
  rw [← hd]; exact rdec_any u hu w
theorem sv_data' (r : ByteArray) : sv r.data.toList = .string r := by cases r; rfl
set_option maxRecDepth 100000 in
set_option maxHeartbeats 8000000 in
theorem r4Print_any {S : Nat → Prop} (x : WD) (v : Value) (w : World) (h1 : x.fr < 256) (h2 : x.dst < 256) (h3 : x.rf < 18446744073709551616) (hs : SegsAt S w v x.segs) (hS : ∀ k, S k → k < w.heap.size) (hP : (printT x.segs).length ≤ 1048576) :
    Calls Tryz.prog 16 #[wv x v] w fun e w' => WPrintQ x w e w' := by
  obtain ⟨fr, dst, rf, m⟩ := x
  simp only at h1 h2 h3 hs hP
  obtain ⟨B, hB⟩ : ∃ B, w.heap.size = B := ⟨_, rfl⟩
  have HBQ := Lib.hid hB
  have HS := Lib.hid hS
  have HSG := Lib.hid hs
  have HPL := Lib.hid hP
  obtain ⟨ao, cap, rfl, c1, c2⟩ := hs.form
  obtain ⟨n, hn⟩ : ∃ n, m.length = n := ⟨_, rfl⟩
  have HN := Lib.hid hn
  rw [hn] at c1 HSG ⊢
  unfold maxLen at c2
  have hbd := (bds_of hP).n
  rw [hn] at hbd
  unfold WPrintQ
  rw [hB]
  obtain ⟨w1, hw1⟩ : ∃ w1, w.alloc (.cells #[.int .u8 (fr : Int), .int .u8 (dst : Int), .int .u64 (rf : Int), .slice ao n cap] 25) = w1 := ⟨_, rfl⟩
  have hz1 : w1.heap.size = B + 1 := by rw [← hw1]; simp [hB]
  have HB1 : Hid (Below B w w1) := Lib.hid (by rw [← hw1, ← hB]; exact (Below.refl _ _).alloc (Nat.le_refl _) _)
  have hr1 : w1.heap[B]? = some (.cells #[.int .u8 (fr : Int), .int .u8 (dst : Int), .int .u64 (rf : Int), .slice ao n cap] 25 (0, 0)) := by rw [← hw1, ← hB]; exact heap_alloc_new _ _
  have HR1 := Lib.hid hr1
  obtain ⟨⟨d0, d1, d2, d3⟩, _⟩ := cells4 hr1
  have HZ1 := Lib.hid hz1
  have HW1 := Lib.hid hw1
  have wr1 : IntKind.u64.wrap (fr : Int) = (fr : Int) := by rw [IntKind.wrap_u64]; omega
  have wr2 : IntKind.u64.wrap (dst : Int) = (dst : Int) := by rw [IntKind.wrap_u64]; omega
  clear hB hs hS hP hn hz1 hw1 hr1
  by_cases g1 : 8 ≤ fr
  · skip
    have i1 : decide ((8 : Int) ≤ (fr : Int)) = true := by rw [decide_eq_true_eq]; omega
    have hE : wrapPrintE ⟨fr, dst, rf, m⟩ = ([], 1) := by unfold wrapPrintE; rw [if_pos (.inl g1)]
    have HE := Lib.hid hE
    clear hE
    unfold wv
    go_enter Tryz.func16, Tryz.ntmps16
    go_upto_region 1 with fail
    rw [HW1.out, HBQ.out]
    go_wp2_with fail
    go_ret2
    rw [HE.out]
    exact ⟨rfl, HB1.out⟩
  have i1 : decide ((8 : Int) ≤ (fr : Int)) = false := by rw [decide_eq_false_iff_not]; omega
  by_cases g2 : 8 ≤ dst
  · skip
    have i2 : decide ((8 : Int) ≤ (dst : Int)) = true := by rw [decide_eq_true_eq]; omega
    have hE : wrapPrintE ⟨fr, dst, rf, m⟩ = ([], 1) := by unfold wrapPrintE; rw [if_pos (.inr g2)]
    have HE := Lib.hid hE
    clear hE
    unfold wv
    go_enter Tryz.func16, Tryz.ntmps16
    go_upto_region 1 with fail
    rw [HW1.out, HBQ.out]
    go_wp2_with fail
    go_ret2
    rw [HE.out]
    exact ⟨rfl, HB1.out⟩
  have i2 : decide ((8 : Int) ≤ (dst : Int)) = false := by rw [decide_eq_false_iff_not]; omega
  by_cases g3 : 62 < n
  · skip
    have i3 : decide ((64 : Int) < (n : Int) + 2) = true := by rw [decide_eq_true_eq]; omega
    have hE : wrapPrintE ⟨fr, dst, rf, m⟩ = ([], 2) := by unfold wrapPrintE; rw [if_neg (by simp only; omega), if_pos (by simp only; rw [HN.out]; exact g3)]
    have HE := Lib.hid hE
    clear hE
    unfold wv
    go_enter Tryz.func16, Tryz.ntmps16
    go_upto_region 1 with fail
    rw [HW1.out, HBQ.out]
    go_wp2_with fail
    go_ret2
    rw [HE.out]
    exact ⟨rfl, HB1.out⟩
  · skip
    have i3 : decide ((64 : Int) < (n : Int) + 2) = false := by rw [decide_eq_false_iff_not]; omega
    have HL0 := Lib.hid (show ¬ 62 < m.length by rw [HN.out]; exact g3)
    have HE := Lib.hid (wrapPrintE_ref ⟨fr, dst, rf, m⟩ h3 (by simp only; omega) HL0.out)
    have wr3 : IntKind.u64.wrap (n : Int) = (n : Int) := by rw [IntKind.wrap_u64]; omega
    obtain ⟨da, ea, la, sa⟩ := dec_bytes (show fr < 18446744073709551616 by omega)
    obtain ⟨db, eb, lb, sb⟩ := dec_bytes (show dst < 18446744073709551616 by omega)
    obtain ⟨dc, ec, lc, sc⟩ := dec_bytes h3
    obtain ⟨dn, en, ln, sn⟩ := dec_bytes (show n < 18446744073709551616 by omega)
    have KA := Lib.hid (fun w => rdec_q (show fr < 18446744073709551616 by omega) ea w)
    have KB := Lib.hid (fun w => rdec_q (show dst < 18446744073709551616 by omega) eb w)
    have KC := Lib.hid (fun w => rdec_q h3 ec w)
    have KN := Lib.hid (fun w => rdec_q (show n < 18446744073709551616 by omega) en w)
    have LA := Lib.hid la
    have LB := Lib.hid lb
    have LC := Lib.hid lc
    have LN := Lib.hid ln
    have H3 := Lib.hid h3
    clear ea eb ec en la lb lc ln h3 h1 h2
    obtain ⟨R, hR⟩ : ∃ R, printE m = R := ⟨_, rfl⟩
    obtain ⟨rs, rn⟩ := R
    obtain ⟨ra, hra⟩ : ∃ ra : ByteArray, (⟨rs.toArray⟩ : ByteArray) = ra := ⟨_, rfl⟩
    have HRAD := Lib.hid (show ra.data.toList = rs by rw [← hra])
    have HPR := Lib.hid (rPrint_any (S := S) w1 (.slice ao n cap) m (HSG.out.cong (fun _ hk => hk) (fun k hk => HB1.out.block k (by rw [← HBQ.out]; exact HS.out k hk))) (fun k hk => by rw [HZ1.out]; have := HS.out k hk; rw [HBQ.out] at this; omega) HPL.out)
    rw [hR] at HPR
    have HR := Lib.hid hR
    simp only [sv, hra] at HPR
    have hrl : ra.size ≤ 65536 := by
      have hp : rs.length ≤ 65536 := by
        have h := hR
        unfold printE at h
        split at h
        · cases h; simp
        · split at h
          · cases h; simp
          · split at h
            · cases h; simp
            · rename_i hh
              cases h
              simp only [Bool.or_eq_true, decide_eq_true_eq, not_or] at hh
              omega
      rw [← HRAD.out] at hp
      simpa using hp
    have HRL := Lib.hid hrl
    clear hR hra hrl
    unfold wv
    go_enter Tryz.func16, Tryz.ntmps16
    go_upto_region 1 with fail
    rw [HW1.out, HBQ.out]
    go_upto_region 6 with ((with_reducible refine HPR.out.mono ?_); rintro e w2 ⟨rfl, hb2⟩; rw [HZ1.out] at hb2; have HB2 := Lib.hid hb2; clear hb2)
    have HBW := Lib.hid (HB1.out.trans (HB2.out.mono (by omega)))
    obtain ⟨⟨q0, q1, q2, q3⟩, _⟩ := cells4 ((HB2.out.block B (by omega)).trans HR1.out)
    clear d0 d1 d2 d3 HPR
    by_cases hrn : rn = 0
    · subst hrn
      have hrl := HRL.out
      go_upto_region 8 with fail
      go_quiet ((first | (with_reducible exact Calls.quiet_of (KA.out _)) | (with_reducible exact Calls.quiet_of (KB.out _)) | (with_reducible exact Calls.quiet_of (KC.out _)) | (with_reducible exact Calls.quiet_of (KN.out _))))
      obtain ⟨X, hX⟩ : ∃ X : ByteArray, (⟨#[85, 78, 66, 43]⟩ : ByteArray) ++ da ++ (⟨#[43]⟩ : ByteArray) ++ db ++ (⟨#[43]⟩ : ByteArray) ++ dc ++ (⟨#[39]⟩ : ByteArray) ++ ra ++ (⟨#[85, 78, 90, 43]⟩ : ByteArray) ++ dn ++ (⟨#[43]⟩ : ByteArray) ++ dc ++ (⟨#[39]⟩ : ByteArray) = X := ⟨_, rfl⟩
      have hXd : X.data.toList = roundT fr dst rf n rf rs := by
        rw [← hX]
        simp only [cat_data', LA.out, LB.out, LC.out, LN.out, HRAD.out]
        unfold roundT unb unz
        simp
      rw [hX]
      have hXs : X.size = (roundT fr dst rf n rf rs).length := by rw [← hXd]; simp
      have HXD := Lib.hid hXd
      have HXS := Lib.hid hXs
      have HE2 := HE.out
      rw [HR.out, HN.out, if_neg (by simp)] at HE2
      have HE3 := Lib.hid HE2
      clear hX hXd hXs HE HE2 q0 q1 q2 q3
      by_cases hx : 65536 < X.size
      · have e7 : decide ((65536 : Int) < (X.size : Int)) = true := by rw [decide_eq_true_eq]; omega
        go_wp2_with fail
        go_ret2
        rw [HE3.out, if_pos (by rw [← HXS.out]; exact hx)]
        exact ⟨rfl, HBW.out.trans (Drew.below ⟨_, rfl⟩ _)⟩
      · have e7 : decide ((65536 : Int) < (X.size : Int)) = false := by rw [decide_eq_false_iff_not]; omega
        go_wp2_with fail
        go_ret2
        rw [HE3.out, if_neg (by rw [← HXS.out]; exact hx), ← HXD.out]
        exact ⟨by rw [sv_data']; rfl, HBW.out.trans (Drew.below ⟨_, rfl⟩ _)⟩
    · have d0 : (rn != 0) = true := by rw [bne_iff_ne]; exact hrn
      have HRN := Lib.hid hrn
      clear hrn
      go_wp2_with fail
      go_ret2
      rw [HE.out, HR.out, if_pos HRN.out]
      exact ⟨rfl, HBW.out⟩
end Go.Proofs.YteaaiejfieaalaaGreatDoor

/-
  RefP: where a reader of segments stands in a text: plain words and laws, for the reference's Parse. No condition.
-/
namespace Go.Proofs.YteaaiejfieaalaaGreatDoor
/-- the reader stands at k in a text -/
def AtR (T : Str) (c : EC) (k : Nat) : Prop := runE (.btw []) 0 T = runE c k (T.drop k)
theorem AtR.start (T : Str) : AtR T (.btw []) 0 := rfl
theorem drop_at {T : Str} {k : Nat} {b : UInt8} (h : T[k]? = some b) : T.drop k = b :: T.drop (k + 1) := by
  obtain ⟨hl, he⟩ := List.getElem?_eq_some_iff.1 h
  rw [List.drop_eq_getElem_cons hl, he]
theorem AtR.step {T : Str} {c c' : EC} {k : Nat} {b : UInt8} (h : AtR T c k) (hb : T[k]? = some b) (hs : stepE c b = .ok c') : AtR T c' (k + 1) := by
  unfold AtR at h ⊢
  rw [h, drop_at hb]
  simp only [runE, hs]
theorem AtR.err {T : Str} {c : EC} {k : Nat} {b : UInt8} {e : Int} (h : AtR T c k) (hl : T.length ≤ 65536) (hb : T[k]? = some b) (hs : stepE c b = .err e) : parseE T = ([], k, e) := by
  unfold AtR at h
  rw [parseE_ok hl, h, drop_at hb]
  simp only [runE, hs]
theorem AtR.ends {T : Str} {c : EC} (h : AtR T c T.length) (hl : T.length ≤ 65536) (ho : isBtw c = false) : parseE T = ([], T.length, 31) := by
  unfold AtR at h
  rw [parseE_ok hl, h, List.drop_length]
  cases c <;> simp [isBtw, runE] at ho ⊢
theorem AtR.done {T : Str} {l : List Seg} (h : AtR T (.btw l) T.length) (hl : T.length ≤ 65536) : parseE T = (l, 0, 0) := by
  unfold AtR at h
  rw [parseE_ok hl, h, List.drop_length]
  rfl
/-! ### the steps by what is read -/
theorem st_rel (l : List Seg) (t : Str) (es : List (List Str)) (cs : List Str) (p : Str) : stepE (.cmp l t es cs p) 63 = .ok (.rel l t es cs p) := rfl
theorem st_relbad {l : List Seg} {t : Str} {es : List (List Str)} {cs : List Str} {p : Str} {c : UInt8} (h : signB c = false) : stepE (.rel l t es cs p) c = .err 30 := by simp [stepE, h]
theorem st_relput {l : List Seg} {t : Str} {es : List (List Str)} {cs : List Str} {p : Str} {c : UInt8} (h : signB c = true) (hl : p.length ≠ 256) : stepE (.rel l t es cs p) c = .ok (.cmp l t es cs (p ++ [c])) := by simp [stepE, h, putS, hl]
theorem st_rellong {l : List Seg} {t : Str} {es : List (List Str)} {cs : List Str} {p : Str} {c : UInt8} (h : signB c = true) (hl : p.length = 256) : stepE (.rel l t es cs p) c = .err 2 := by simp [stepE, h, putS, hl]
theorem st_bad {l : List Seg} {t : Str} {es : List (List Str)} {cs : List Str} {p : Str} {c : UInt8} (h : signB c = false) (hb : c.toNat < 32 ∨ 126 < c.toNat) : stepE (.cmp l t es cs p) c = .err 30 := by
  have h63 : c ≠ 63 := by rintro rfl; exact absurd h (by decide)
  simp [stepE, h, h63, hb]
theorem st_put {l : List Seg} {t : Str} {es : List (List Str)} {cs : List Str} {p : Str} {c : UInt8} (h : signB c = false) (hb : ¬ (c.toNat < 32 ∨ 126 < c.toNat)) (hl : p.length ≠ 256) : stepE (.cmp l t es cs p) c = .ok (.cmp l t es cs (p ++ [c])) := by
  have h63 : c ≠ 63 := by rintro rfl; exact absurd h (by decide)
  simp [stepE, h, h63, hb, putS, hl]
theorem st_long {l : List Seg} {t : Str} {es : List (List Str)} {cs : List Str} {p : Str} {c : UInt8} (h : signB c = false) (hb : ¬ (c.toNat < 32 ∨ 126 < c.toNat)) (hl : p.length = 256) : stepE (.cmp l t es cs p) c = .err 2 := by
  have h63 : c ≠ 63 := by rintro rfl; exact absurd h (by decide)
  simp [stepE, h, h63, hb, putS, hl]
theorem st_39 (l : List Seg) (t : Str) (es : List (List Str)) (cs : List Str) (p : Str) : stepE (.cmp l t es cs p) 39 = .ok (.btw (l ++ [⟨t, es ++ [cs ++ [p]]⟩])) := rfl
theorem st_43 {l : List Seg} {t : Str} {es : List (List Str)} {cs : List Str} {p : Str} (h : es.length + 1 ≠ 16) : stepE (.cmp l t es cs p) 43 = .ok (.cmp l t (es ++ [cs ++ [p]]) [] []) := by simp [stepE, signB, signS, h]
theorem st_43l {l : List Seg} {t : Str} {es : List (List Str)} {cs : List Str} {p : Str} (h : es.length + 1 = 16) : stepE (.cmp l t es cs p) 43 = .err 2 := by simp [stepE, signB, signS, h]
theorem st_58 {l : List Seg} {t : Str} {es : List (List Str)} {cs : List Str} {p : Str} (h : cs.length + 1 ≠ 8) : stepE (.cmp l t es cs p) 58 = .ok (.cmp l t es (cs ++ [p]) []) := by simp [stepE, signB, signS, h]
theorem st_58l {l : List Seg} {t : Str} {es : List (List Str)} {cs : List Str} {p : Str} (h : cs.length + 1 = 8) : stepE (.cmp l t es cs p) 58 = .err 2 := by simp [stepE, signB, signS, h]
theorem st_tagbad {l : List Seg} {t : Str} {c : UInt8} (h : tagB c = false) : stepE (.tag l t) c = .err 30 := by simp [stepE, tagS, h]
theorem st_tag {l : List Seg} {t : Str} {c : UInt8} (h : tagB c = true) (ht : t.length + 1 < 3) : stepE (.tag l t) c = .ok (.tag l (t ++ [c])) := by simp [stepE, tagS, h, ht]
theorem st_tag3 {l : List Seg} {t : Str} {c : UInt8} (h : tagB c = true) (ht : t.length + 1 = 3) : stepE (.tag l t) c = .ok (.bhd l (t ++ [c])) := by simp [stepE, tagS, h, ht]
theorem st_btw10 {l : List Seg} (h : l ≠ []) : stepE (.btw l) 10 = .ok (.btw l) := by simp [stepE, h]
theorem st_full {l : List Seg} {c : UInt8} (h : ¬ (c = 10 ∧ l ≠ [])) (hl : l.length = 64) : stepE (.btw l) c = .err 2 := by simp only [stepE]; rw [if_neg h, if_pos hl]
theorem st_btw {l : List Seg} {c : UInt8} (h : ¬ (c = 10 ∧ l ≠ [])) (hl : l.length ≠ 64) : stepE (.btw l) c = stepE (.tag l []) c := by simp only [stepE]; rw [if_neg h, if_neg hl]
theorem st_bhdbad {l : List Seg} {t : Str} {c : UInt8} (h1 : c ≠ 39) (h2 : c ≠ 43) : stepE (.bhd l t) c = .err 30 := by simp [stepE, h1, h2]
theorem st_bhd39 (l : List Seg) (t : Str) : stepE (.bhd l t) 39 = .ok (.btw (l ++ [⟨t, []⟩])) := rfl
theorem st_bhd43 (l : List Seg) (t : Str) : stepE (.bhd l t) 43 = .ok (.cmp l t [] [] []) := rfl
end Go.Proofs.YteaaiejfieaalaaGreatDoor

/-
  RefA: contract of the reference's part: a component from a place on. No condition beyond those stated.
-/
namespace Go.Proofs.YteaaiejfieaalaaGreatDoor
open Go.RowKit
def PartQ (T : Str) (k : Nat) (l : List Seg) (t : Str) (es : List (List Str)) (cs : List Str) (e : Ending) : Prop :=
  (∃ (p : Str) (k' : Nat) (c : UInt8), e = .returned (.tuple #[sv p, .int .i64 (k' : Int), .int .i64 0]) ∧ AtR T (.cmp l t es cs p) k' ∧ T[k']? = some c ∧ (c = 43 ∨ c = 58 ∨ c = 39) ∧ p.length ≤ 256 ∧ k ≤ k') ∨
  (∃ (k' : Nat) (n : Int), e = .returned (.tuple #[sv [], .int .i64 (k' : Int), .int .i64 n]) ∧ n ≠ 0 ∧ parseE T = ([], k', n))
def PartW (T : Str) (k : Nat) (l : List Seg) (t : Str) (es : List (List Str)) (cs : List Str) (w : World) (e : Ending) (w' : World) : Prop := PartQ T k l t es cs e ∧ Below w.heap.size w w'
theorem signB_cases {c : UInt8} (h : signB c = true) : (c = 43 ∨ c = 58 ∨ c = 39) ∨ c = 63 := by
  unfold signB at h
  simp only [Bool.or_eq_true, beq_iff_eq] at h
  rcases h with ((h | h) | h) | h
  · exact .inl (.inl h)
  · exact .inl (.inr (.inl h))
  · exact .inl (.inr (.inr h))
  · exact .inr h
set_option maxRecDepth 100000 in
set_option maxHeartbeats 4000000 in
theorem part_any (s : ByteArray) (hs : s.size ≤ 65536) (k : Nat) (hk : k ≤ s.size) (l : List Seg) (t : Str) (es : List (List Str)) (cs : List Str) (h : AtR s.data.toList (.cmp l t es cs []) k) (w : World) :
    Calls Tryz.prog 57 #[.string s, .int .i64 (k : Int)] w fun e w' => PartW s.data.toList k l t es cs w e w' := by
  obtain ⟨T, hT⟩ : ∃ T, s.data.toList = T := ⟨_, rfl⟩
  have HT := Lib.hid hT
  rw [hT] at h
  have hl0 : T.length = s.size := by rw [← hT]; simp
  have HL := Lib.hid hl0
  have HL6 : Hid (T.length ≤ 65536) := Lib.hid (by omega)
  have HA0 := Lib.hid h
  rw [hT]
  obtain ⟨B, hB⟩ : ∃ B, w.heap.size = B := ⟨_, rfl⟩
  have HBQ := Lib.hid hB
  unfold PartW
  rw [hB]
  clear hT h hl0 hB
  go_enter Tryz.func57, Tryz.ntmps57
  go_wp2_with fail
  go_loopw [1, 7] (fun at_ bv wr => ∃ (q : Nat) (p : Str), q ≤ s.size ∧ k ≤ q ∧ p.length ≤ 256 ∧ at_ = .int .i64 (q : Int) ∧ Hid (AtR T (.cmp l t es cs p) q) ∧ Hid (OwnS wr B bv p) ∧ Hid (Below B w wr)) (fun at_ _ _ => s.size - (intOf at_).toNat)
  case atStart => exact ⟨k, [], hk, Nat.le_refl _, by simp, rfl, HA0, Lib.hid (OwnS.nil _ _), Lib.hid (by rw [← HBQ.out]; exact Below.refl _ _)⟩
  case round =>
    obtain ⟨q, p, hq, hkq, hp, rfl, HA, HO, HB⟩ := hrel
    clear HA0
    have hBs := HB.out.size
    rw [HBQ.out] at hBs
    by_cases hql : q < s.size
    · obtain ⟨c, hc⟩ : ∃ c, T[q]? = some c := ⟨_, by rw [← HT.out]; exact at_byte s q hql⟩
      have hcq : (s[q]'hql).toNat = c.toNat := by
        have h1 := at_byte s q hql
        rw [HT.out, hc] at h1
        injection h1 with h1
        exact congrArg UInt8.toNat h1.symm
      have HC := Lib.hid hc
      have b5 : (0 : Int) ≤ q := by omega
      have b6 : (q : Int) < s.size := by omega
      clear hc
      obtain ⟨ba, bc, rfl⟩ := HO.out.form
      by_cases h63 : c = 63
      · skip
        subst h63
        have hcq' : (s[q]'hql).toNat = 63 := hcq
        clear hcq
        have HA1 := Lib.hid (HA.out.step HC.out (st_rel l t es cs p))
        by_cases hq1 : q + 1 < s.size
        · obtain ⟨c, hc⟩ : ∃ c, T[q + 1]? = some c := ⟨_, by rw [← HT.out]; exact at_byte s (q + 1) hq1⟩
          have hcr : (s[q + 1]'hq1).toNat = c.toNat := by
            have h1 := at_byte s (q + 1) hq1
            rw [HT.out, hc] at h1
            injection h1 with h1
            exact congrArg UInt8.toNat h1.symm
          have HC1 := Lib.hid hc
          have e1 : ((q : Int) + 1 == (s.size : Int)) = false := by rw [beq_eq_false_iff_ne]; omega
          have b7 : (q : Int) + 1 < s.size := by omega
          clear hc
          have HSG := Lib.hid (fun w => rSign_any c w)
          cases hsg : signB c with
          | false =>
            have HE := Lib.hid (HA1.out.err HL6.out HC1.out (st_relbad (l := l) (t := t) (es := es) (cs := cs) (p := p) hsg))
            rw [hsg] at HSG
            clear hsg
            go_wp2_with ((with_reducible refine (HSG.out _).mono ?_); rintro e w' ⟨rfl, rfl⟩)
            go_ret3
            exact ⟨.inr ⟨q + 1, 30, by unfold sv; go_num, by decide, HE.out⟩, HB.out⟩
          | true =>
            have hcc := signB_cases hsg
            have hge : ¬ c.toNat < 32 ∧ ¬ 126 < c.toNat := by rcases hcc with (rfl | rfl | rfl) | rfl <;> decide
            obtain ⟨hg1, hg2⟩ := hge
            have e2 : decide ((c.toNat : Int) < 32) = false := by rw [decide_eq_false_iff_not]; omega
            have e3 : decide ((126 : Int) < (c.toNat : Int)) = false := by rw [decide_eq_false_iff_not]; omega
            have HSB := Lib.hid hsg
            rw [hsg] at HSG
            clear hsg hcc
            by_cases h256 : p.length = 256
            · have HE := Lib.hid (HA1.out.err HL6.out HC1.out (st_rellong (l := l) (t := t) (es := es) (cs := cs) (p := p) HSB.out h256))
              have e4 : ((p.length : Int) == 256) = true := by rw [beq_iff_eq]; omega
              have e4n : (p.length == 256) = true := by rw [beq_iff_eq]; exact h256
              clear h256
              go_wp2_with ((with_reducible refine (HSG.out _).mono ?_); rintro e w' ⟨rfl, rfl⟩)
              go_ret3
              exact ⟨.inr ⟨q + 1, 2, by unfold sv; go_num, by decide, HE.out⟩, HB.out⟩
            · have HA2 := Lib.hid (HA1.out.step HC1.out (st_relput (l := l) (t := t) (es := es) (cs := cs) (p := p) HSB.out h256))
              have e4 : ((p.length : Int) == 256) = false := by rw [beq_eq_false_iff_ne]; omega
              have e4n : (p.length == 256) = false := by rw [beq_eq_false_iff_ne]; exact h256
              have hp2 : p.length < 256 := by omega
              clear h256
              go_wp2_with (first
                | ((with_reducible refine (HSG.out _).mono ?_); rintro e w' ⟨rfl, rfl⟩)
                | ((with_reducible refine wpList_at (.call { callee := .builtin .append, args := #[.tmp 54, .tmp 56], argTypes := #[39, 39] }) rfl ?_); go_loud (refine wp_app1 rfl _ _ rfl c rfl rfl HO.out (by omega) hBs ?_); intro v8 w8 ho8 hg8; have HO8 := Lib.hid ho8; have HB8 := Lib.hid (below_grownO HB.out HO.out hg8 hBs); clear ho8 hg8))
              go_roundw
              case rel => exact ⟨q + 1 + 1, p ++ [c], by omega, by omega, by simp; omega, by go_num, HA2, HO8, HB8⟩
              case measure => simp [intOf]; omega
        · have hsz : s.size = q + 1 := by omega
          have HE := Lib.hid ((show AtR T (.rel l t es cs p) T.length by rw [HL.out, hsz]; exact HA1.out).ends HL6.out rfl)
          have e1 : ((q : Int) + 1 == (s.size : Int)) = true := by rw [beq_iff_eq]; omega
          have HSZ := Lib.hid hsz
          clear hq1 hsz
          go_wp2_with fail
          go_ret3
          exact ⟨.inr ⟨q + 1, 31, by unfold sv; go_num, by decide, by rw [HE.out, HL.out, HSZ.out]⟩, HB.out⟩
      · skip
        have e0 : ((c.toNat : Int) == 63) = false := by
          rw [beq_eq_false_iff_ne]; intro e
          exact h63 (UInt8.toNat_inj.1 (by have : c.toNat = 63 := by omega
                                           rw [this]; rfl))
        have H63 := Lib.hid h63
        clear h63
        have HSG := Lib.hid (fun w => rSign_any c w)
        cases hsg : signB c with
        | true =>
          have HCC : Hid (c = 43 ∨ c = 58 ∨ c = 39) := Lib.hid (by
            rcases signB_cases hsg with h | h
            · exact h
            · exact absurd h H63.out)
          have hcv : (convert 39 9 (.slice ba p.length bc)).run Tryz.prog wr = .ok (sv p) wr := conv_own HO.out
          rw [hsg] at HSG
          clear hsg
          go_wp2_with ((with_reducible refine (HSG.out _).mono ?_); rintro e w' ⟨rfl, rfl⟩)
          go_ret3
          exact ⟨.inl ⟨p, q, c, rfl, HA.out, HC.out, HCC.out, hp, hkq⟩, HB.out⟩
        | false =>
          have HSB := Lib.hid hsg
          rw [hsg] at HSG
          clear hsg
          by_cases h32 : c.toNat < 32
          · have e2 : decide ((c.toNat : Int) < 32) = true := by rw [decide_eq_true_eq]; omega
            have HE := Lib.hid (HA.out.err HL6.out HC.out (st_bad (l := l) (t := t) (es := es) (cs := cs) (p := p) HSB.out (.inl h32)))
            go_wp2_with ((with_reducible refine (HSG.out _).mono ?_); rintro e w' ⟨rfl, rfl⟩)
            go_ret3
            exact ⟨.inr ⟨q, 30, rfl, by decide, HE.out⟩, HB.out⟩
          have e2 : decide ((c.toNat : Int) < 32) = false := by rw [decide_eq_false_iff_not]; omega
          by_cases h126 : 126 < c.toNat
          · have e3 : decide ((126 : Int) < (c.toNat : Int)) = true := by rw [decide_eq_true_eq]; omega
            have HE := Lib.hid (HA.out.err HL6.out HC.out (st_bad (l := l) (t := t) (es := es) (cs := cs) (p := p) HSB.out (.inr h126)))
            go_wp2_with ((with_reducible refine (HSG.out _).mono ?_); rintro e w' ⟨rfl, rfl⟩)
            go_ret3
            exact ⟨.inr ⟨q, 30, rfl, by decide, HE.out⟩, HB.out⟩
          have e3 : decide ((126 : Int) < (c.toNat : Int)) = false := by rw [decide_eq_false_iff_not]; omega
          have hnb : ¬ (c.toNat < 32 ∨ 126 < c.toNat) := by omega
          by_cases h256 : p.length = 256
          · have HE := Lib.hid (HA.out.err HL6.out HC.out (st_long (l := l) (t := t) (es := es) (cs := cs) (p := p) HSB.out hnb h256))
            have e4 : ((p.length : Int) == 256) = true := by rw [beq_iff_eq]; omega
            have e4n : (p.length == 256) = true := by rw [beq_iff_eq]; exact h256
            clear h256 hnb
            go_wp2_with ((with_reducible refine (HSG.out _).mono ?_); rintro e w' ⟨rfl, rfl⟩)
            go_ret3
            exact ⟨.inr ⟨q, 2, rfl, by decide, HE.out⟩, HB.out⟩
          · have HA2 := Lib.hid (HA.out.step HC.out (st_put (l := l) (t := t) (es := es) (cs := cs) (p := p) HSB.out hnb h256))
            have e4 : ((p.length : Int) == 256) = false := by rw [beq_eq_false_iff_ne]; omega
            have e4n : (p.length == 256) = false := by rw [beq_eq_false_iff_ne]; exact h256
            have hp2 : p.length < 256 := by omega
            clear h256 hnb
            go_wp2_with (first
              | ((with_reducible refine (HSG.out _).mono ?_); rintro e w' ⟨rfl, rfl⟩)
              | ((with_reducible refine wpList_at (.call { callee := .builtin .append, args := #[.tmp 54, .tmp 56], argTypes := #[39, 39] }) rfl ?_); go_loud (refine wp_app1 rfl _ _ rfl c rfl rfl HO.out (by omega) hBs ?_); intro v8 w8 ho8 hg8; have HO8 := Lib.hid ho8; have HB8 := Lib.hid (below_grownO HB.out HO.out hg8 hBs); clear ho8 hg8))
            go_roundw
            case rel => exact ⟨q + 1, p ++ [c], by omega, by omega, by simp; omega, by go_num, HA2, HO8, HB8⟩
            case measure => simp [intOf]; omega
    · skip
      obtain rfl : q = s.size := by omega
      have HE := Lib.hid ((show AtR T (.cmp l t es cs p) T.length by rw [HL.out]; exact HA.out).ends HL6.out rfl)
      go_wp2_with fail
      go_ret3
      exact ⟨.inr ⟨s.size, 31, rfl, by decide, by rw [← HL.out]; exact HE.out⟩, HB.out⟩
end Go.Proofs.YteaaiejfieaalaaGreatDoor

/-
  RefB: a segment that the reference is reading, in memory: its last element is open. No condition beyond those stated.
-/
namespace Go.Proofs.YteaaiejfieaalaaGreatDoor
open Go.RowKit
structure SG (H sp : Nat) (st : ByteArray) (w : World) (ev cv : Value) (ys : List Value) (es : List (List Str)) (cs : List Str) : Prop where
  row : w.ownsRow H 53 1 ev (es.length + 1) (ys ++ [cv])
  len : ys.length = es.length
  c : w.heap[sp]? = some (.cells #[.string st, ev] 36 (0, 0))
  co : w.ownsRow H 9 1 cv cs.length (cs.map sv)
  el : ∀ (i : Nat) (e : List Str) (x : Value), es[i]? = some e → ys[i]? = some x → CompsAt (fun b => H ≤ b ∧ b < w.heap.size ∧ ev.ownBlock ≠ some b ∧ cv.ownBlock ≠ some b ∧ b ≠ sp) w x e
section
variable {H sp : Nat} {st : ByteArray} {w w' : World} {ev cv : Value} {ys : List Value} {es : List (List Str)} {cs : List Str}
theorem SG.close (h : SG H sp st w ev cv ys es cs) : OE H sp st w ev (ys ++ [cv]) (es ++ [cs]) := by
  refine ⟨by rw [List.length_append]; exact h.row, by simp [h.len], h.c, fun i e x h1 h2 => ?_⟩
  rcases row_snoc h1 with h1 | ⟨rfl, rfl⟩
  · have hil := (List.getElem?_eq_some_iff.1 h1).1
    rw [List.getElem?_append_left (by rw [h.len]; exact hil)] at h2
    exact (h.el i e x h1 h2).cong (fun b hb => ⟨hb.1, hb.2.1, hb.2.2.1, hb.2.2.2.2⟩) (fun _ _ => rfl)
  · rw [← h.len, List.getElem?_append_right (Nat.le_refl _), Nat.sub_self] at h2
    cases h2
    have hco : w.ownsRow H 9 1 cv (e.map sv).length (e.map sv) := by rw [List.length_map]; exact h.co
    exact own_rest hco (fun k hk => ⟨(own_lt h.co hk).1, (own_lt h.co hk).2, own_ne h.co h.row (by decide) hk, fun e => own_not h.co h.c (by decide) (e ▸ hk)⟩)
theorem SG.of (h : OE H sp st w ev (ys ++ [.slice none 0 0]) (es ++ [[]])) (hl : ys.length = es.length) : SG H sp st w ev (.slice none 0 0) ys es [] := by
  refine ⟨by have := h.row; rw [List.length_append] at this; exact this, hl, h.c, World.ownsRow_nil _ _ _ _, fun i e x h1 h2 => ?_⟩
  have hil := (List.getElem?_eq_some_iff.1 h1).1
  have h3 := h.el i e x (by rw [List.getElem?_append_left hil]; exact h1) (by rw [List.getElem?_append_left (by rw [hl]; exact hil)]; exact h2)
  exact h3.cong (fun b hb => ⟨hb.1, hb.2.1, hb.2.2.1, by simp [Value.ownBlock], hb.2.2.2⟩) (fun _ _ => rfl)
theorem SG.drew (h : SG H sp st w ev cv ys es cs) (e : w'.heap = w.heap) : SG H sp st w' ev cv ys es cs :=
  ⟨own_cong h.row (fun k _ => by rw [e]), h.len, by rw [e]; exact h.c, own_cong h.co (fun k _ => by rw [e]), fun i e' x h1 h2 => (h.el i e' x h1 h2).cong (fun k hk => by rw [e]; exact hk) (fun k _ => by rw [e])⟩
theorem SG.below (h : SG H sp st w ev cv ys es cs) (hb : Below w.heap.size w w') : SG H sp st w' ev cv ys es cs :=
  ⟨own_cong h.row (fun k hk => hb.block k (own_lt h.row hk).2), h.len, (hb.block sp (Array.getElem?_eq_some_iff.1 h.c).1).trans h.c, own_cong h.co (fun k hk => hb.block k (own_lt h.co hk).2), fun i e' x h1 h2 => (h.el i e' x h1 h2).cong (fun k hk => ⟨hk.1, by have := hb.size; omega, hk.2.2⟩) (fun k hk => hb.block k hk.2.1)⟩
theorem OE.below (h : OE H sp st w ev ys es) (hb : Below w.heap.size w w') : OE H sp st w' ev ys es :=
  ⟨own_cong h.row (fun k hk => hb.block k (own_lt h.row hk).2), h.len, (hb.block sp h.lt).trans h.c, fun i e' x h1 h2 => (h.el i e' x h1 h2).cong (fun k hk => ⟨hk.1, by have := hb.size; omega, hk.2.2⟩) (fun k hk => hb.block k hk.2.1)⟩
/-- where it lies -/
theorem SG.form (h : SG H sp st w ev cv ys es cs) : ∃ g cap ca cc, ev = .slice (some ⟨g, 0, none⟩) (es.length + 1) cap ∧ es.length + 1 ≤ cap ∧ cap ≤ maxLen ∧ cv = .slice ca cs.length cc ∧ w.cell? ⟨g, es.length, none⟩ = some cv ∧ w.frozen? ⟨g, es.length, none⟩ = false ∧ H ≤ g ∧ g < w.heap.size ∧ g ≠ sp := by
  have hr := h.row
  obtain ⟨g, cap, cur, rfl, hg, hh, hc, hm, _⟩ := own_form hr (by omega) (by omega)
  obtain ⟨ca, cc, rfl⟩ := own_slice h.co
  refine ⟨g, cap, ca, cc, rfl, hc, hm, rfl, own_cell hr (by rw [← h.len, List.getElem?_append_right (Nat.le_refl _), Nat.sub_self]; rfl), own_frozen hr _, hg, (Array.getElem?_eq_some_iff.1 hh).1, fun e => by subst e; exact own_not hr h.c (by decide) rfl⟩
/-- a component more -/
theorem SG.comp {g cap : Nat} {o : Obj} {w3 : World} {cv' : Value} {c : Str} (h : SG H sp st w (.slice (some ⟨g, 0, none⟩) (es.length + 1) cap) cv ys es cs) (hg : (w.alloc o).grownBy w3 cv.ownBlock) (ho : w3.ownsRow H 9 1 cv' (cs.length + 1) (cs.map sv ++ [sv c])) (hk : cv'.ownBlock = cv.ownBlock ∨ ∃ k, cv'.ownBlock = some k ∧ w.heap.size ≤ k) :
    SG H sp st (w3.setCell ⟨g, es.length, none⟩ cv') (.slice (some ⟨g, 0, none⟩) (es.length + 1) cap) cv' ys es (cs ++ [c]) := by
  have hgb : g < w.heap.size := (own_lt h.row rfl).2
  have hg' := grown_alloc hg
  have hz3 := hg'.size
  have hsp : sp < w.heap.size := (Array.getElem?_eq_some_iff.1 h.c).1
  have hcg : cv.ownBlock ≠ some g := fun e => own_ne h.row h.co (by decide) (k := g) rfl e
  have hcs : cv.ownBlock ≠ some sp := own_not h.co h.c (by decide)
  have hgs : g ≠ sp := fun e => by subst e; exact own_not h.row h.c (by decide) rfl
  have r3 : w3.ownsRow H 53 1 (.slice (some ⟨g, 0, none⟩) (es.length + 1) cap) (es.length + 1) (ys ++ [cv]) := own_cong h.row (fun k hk => by cases hk; exact hg'.block g hgb (fun e => hcg e.symm))
  have hcg' : cv'.ownBlock ≠ some g := fun e => own_ne r3 ho (by decide) (k := g) rfl e
  have far : ∀ k, k ≠ g → (w3.setCell ⟨g, es.length, none⟩ cv').heap[k]? = w3.heap[k]? := fun k hk => heap_setCell_other w3 _ _ _ (by simpa using hk)
  have hsz : (w3.setCell ⟨g, es.length, none⟩ cv').heap.size = w3.heap.size := by simp
  refine ⟨?_, h.len, (far sp (fun e => hgs e.symm)).trans ((hg'.block sp hsp (fun e => hcs e.symm)).trans h.c), ?_, fun i e x h1 h2 => ?_⟩
  · have h4 := own_set r3 (j := es.length) (by simp [h.len]) cv'
    rw [← h.len, set_end] at h4
    rw [← h.len]
    exact h4
  · rw [List.length_append, List.map_append]
    exact own_cong ho (fun k hk => far k (fun e => hcg' (e ▸ hk)))
  · refine (h.el i e x h1 h2).cong (fun b hb => ⟨hb.1, by omega, hb.2.2.1, fun e => ?_, hb.2.2.2.2⟩) (fun b hb => ?_)
    · rcases hk with hk | ⟨k, hk, hk2⟩
      · exact hb.2.2.2.1 (hk ▸ e)
      · rw [hk] at e; cases e; omega
    · exact (far b (fun e => hb.2.2.1 (by rw [e]; rfl))).trans (hg'.block b hb.2.1 (fun e => hb.2.2.2.1 e.symm))
end
/-- its elements, at rest -/
theorem OE.rest {H sp : Nat} {st : ByteArray} {w : World} {ev : Value} {ys : List Value} {es : List (List Str)} (h : OE H sp st w ev ys es) : ElemsAt (fun b => H ≤ b ∧ b < w.heap.size) w ev es :=
  ⟨ys, own_rest (by rw [h.len]; exact h.row) (fun _ hk => own_lt h.row hk), h.len, fun i e x h1 h2 => (h.el i e x h1 h2).cong (fun _ hb => ⟨hb.1, hb.2.1⟩) (fun _ _ => rfl)⟩
end Go.Proofs.YteaaiejfieaalaaGreatDoor

/-
  RefC: contract of the reference's segment: one from a place on. No condition beyond those stated.
-/
namespace Go.Proofs.YteaaiejfieaalaaGreatDoor
open Go.RowKit
def RSegQ (T : Str) (k : Nat) (l : List Seg) (w : World) (e : Ending) (w' : World) : Prop :=
  ((∃ (t : Str) (es : List (List Str)) (ev : Value) (k' : Nat), e = .returned (.tuple #[.agg #[sv t, ev], .int .i64 (k' : Int), .int .i64 0]) ∧ AtR T (.btw (l ++ [⟨t, es⟩])) k' ∧ k < k' ∧ k' ≤ T.length ∧ ElemsAt (fun b => w.heap.size ≤ b ∧ b < w'.heap.size) w' ev es) ∨
   (∃ (tb : ByteArray) (ea : Option Addr) (em ec k' : Nat) (n : Int), e = .returned (.tuple #[.agg #[.string tb, .slice ea em ec], .int .i64 (k' : Int), .int .i64 n]) ∧ n ≠ 0 ∧ parseE T = ([], k', n))) ∧ Below w.heap.size w w'
theorem results_cell_tmp2 {fn : Func} {p u v : Tmp} {ty : TypeId} (h : fn.results = #[.cell p ty, .tmp u, .tmp v]) (tmps : Array Value) (P : Program) (w : World) :
    (results fn tmps).run P w = ((asAddr (tmps.getD p undef)).run P w).andThen fun a w₁ => ((loadVar ty a).run P w₁).andThen fun x w₂ => .ok (.tuple #[x, tmps.getD u undef, tmps.getD v undef]) w₂ := by
  simp [results, h, Sem.run_bind]
theorem res_seg3 {fn : Func} {p u v : Tmp} (h : fn.results = #[.cell p 36, .tmp u, .tmp v]) (tmps : Array Value) {w : World} {g : Nat} {cs : Array Value} {x y : Value} {t : TypeId} (hp : tmps.getD p undef = .pointer (some ⟨g, 0, none⟩)) (hu : tmps.getD u undef = x) (hv : tmps.getD v undef = y)
    (hg : w.heap[g]? = some (.cells cs t (0, 0))) (hs : cs.size = 2) : (results fn tmps).run Tryz.prog w = .ok (.tuple #[.agg cs, x, y]) w := by
  rw [results_cell_tmp2 h, hp, hu, hv]
  have hl : (loadVar 36 ⟨g, 0, none⟩).run Tryz.prog w = .ok (.agg cs) w := run_loadVar_row w g t 36 cs (0, 0) _ hg Tryz.underlying36 rfl (by rw [hs]; kernel_rfl)
  simp [asAddr, hl, Result.andThen]
theorem cells2 {w : World} {g : Nat} {x y : Value} {t : TypeId} (h : w.heap[g]? = some (.cells #[x, y] t (0, 0))) : w.cell? ⟨g, 0, none⟩ = some x ∧ w.cell? ⟨g, 1, none⟩ = some y ∧ w.frozen? ⟨g, 0, none⟩ = false ∧ w.frozen? ⟨g, 1, none⟩ = false :=
  ⟨cell_of_row w g 0 _ _ _ h, cell_of_row w g 1 _ _ _ h, frozen_of_row w g 0 _ _ h, frozen_of_row w g 1 _ _ h⟩
theorem put2_heap {w : World} {g : Nat} {x y : Value} {t : TypeId} (h : w.heap[g]? = some (.cells #[x, y] t (0, 0))) (a b : Value) : ((w.setCell ⟨g, 0, none⟩ a).setCell ⟨g, 1, none⟩ b).heap[g]? = some (.cells #[a, b] t (0, 0)) :=
  heap_setCell_same _ g 1 _ _ _ (heap_setCell_same _ g 0 _ _ _ h)
def tagC (l : List Seg) (t : Str) : EC := if t.length < 3 then .tag l t else .bhd l t
/-- a box of a segment -/
def SBox (w : World) (b : Nat) (tb : ByteArray) (ev : Value) : Prop := w.heap[b]? = some (.cells #[.string tb, ev] 36 (0, 0))
theorem rseg_err {T : Str} {k : Nat} {l : List Seg} {w w' : World} {tb : ByteArray} {ea : Option Addr} {em ec k' : Nat} {n : Int} (hp : parseE T = ([], k', n)) (hn : n ≠ 0) (hb : Below w.heap.size w w') : RSegQ T k l w (.returned (.tuple #[.agg #[.string tb, .slice ea em ec], .int .i64 (k' : Int), .int .i64 n])) w' :=
  ⟨.inr ⟨tb, ea, em, ec, k', n, rfl, hn, hp⟩, hb⟩
theorem below_put2 {w0 w : World} {B : Nat} (h : Below B w0 w) (a b : Value) : Below B w0 ((w.setCell ⟨B, 0, none⟩ a).setCell ⟨B, 1, none⟩ b) := (h.setCell (show B ≤ B from Nat.le_refl _) _).setCell (show B ≤ B from Nat.le_refl _) _
theorem str_add (a b : ByteArray) (h : a.size + b.size ≤ 1000000) (W : World) : (Op.stringOp .add a b).run Tryz.prog W = .ok (.string (a ++ b)) W := run_string_add_sum _ _ _ (by omega)
/-- at the head of the loop over elements -/
def RHead (T : Str) (l : List Seg) (H sp : Nat) (tb : ByteArray) (w : World) (q : Nat) (c : UInt8) : Prop :=
  (SBox w sp tb (.slice none 0 0) ∧ AtR T (.bhd l tb.data.toList) q ∧ (c = 43 ∨ c = 39)) ∨
  (∃ es cs p ev cv ys, SG H sp tb w ev cv ys es (cs ++ [p]) ∧ es.length ≤ 15 ∧ cs.length ≤ 7 ∧ AtR T (.cmp l tb.data.toList es cs p) q ∧ (c = 43 ∨ c = 58 ∨ c = 39))
theorem sv_dat (r : ByteArray) : sv r.data.toList = .string r := by cases r; rfl
theorem RHead.exit {T : Str} {l : List Seg} {H sp : Nat} {tb : ByteArray} {w : World} {q : Nat} (h : RHead T l H sp tb w q 39) (hc : T[q]? = some 39) : ∃ E ev, SBox w sp tb ev ∧ ElemsAt (fun b => H ≤ b ∧ b < w.heap.size) w ev E ∧ AtR T (.btw (l ++ [⟨tb.data.toList, E⟩])) (q + 1) := by
  rcases h with ⟨h1, h2, _⟩ | ⟨es, cs, p, ev, cv, ys, h1, _, _, h2, _⟩
  · exact ⟨[], _, h1, ElemsAt.nil _ _, h2.step hc (st_bhd39 _ _)⟩
  · exact ⟨_, ev, h1.c, h1.close.rest, h2.step hc (st_39 _ _ _ _ _)⟩
/-- an element is begun -/
theorem RHead.plus {T : Str} {l : List Seg} {H sp : Nat} {tb : ByteArray} {w : World} {q : Nat} (h : RHead T l H sp tb w q 43) (hc : T[q]? = some 43) (hl : T.length ≤ 65536) : ∃ E ev ys, OE H sp tb w ev ys E ∧ E.length ≤ 16 ∧ (E.length = 16 → parseE T = ([], q, 2)) ∧ (E.length ≠ 16 → AtR T (.cmp l tb.data.toList E [] []) (q + 1)) := by
  rcases h with ⟨h1, h2, _⟩ | ⟨es, cs, p, ev, cv, ys, h1, h3, _, h2, _⟩
  · exact ⟨[], _, [], OE.start h1, by simp, fun h => by simp at h, fun _ => h2.step hc (st_bhd43 _ _)⟩
  · refine ⟨_, ev, _, h1.close, by simp; omega, fun h => ?_, fun h => ?_⟩
    · exact h2.err hl hc (st_43l (by simpa using h))
    · exact h2.step hc (st_43 (by simpa using h))
/-- a component is begun -/
theorem RHead.colon {T : Str} {l : List Seg} {H sp : Nat} {tb : ByteArray} {w : World} {q : Nat} (h : RHead T l H sp tb w q 58) (hc : T[q]? = some 58) (hl : T.length ≤ 65536) : ∃ es cs ev cv ys, SG H sp tb w ev cv ys es cs ∧ es.length ≤ 15 ∧ cs.length ≤ 8 ∧ (cs.length = 8 → parseE T = ([], q, 2)) ∧ (cs.length ≠ 8 → AtR T (.cmp l tb.data.toList es cs []) (q + 1)) := by
  rcases h with ⟨h1, h2, h3⟩ | ⟨es, cs, p, ev, cv, ys, h1, h3, h4, h2, _⟩
  · rcases h3 with h3 | h3 <;> exact absurd h3 (by decide)
  · refine ⟨es, cs ++ [p], ev, cv, ys, h1, h3, by simp; omega, fun h => ?_, fun h => ?_⟩
    · exact h2.err hl hc (st_58l (by simpa using h))
    · exact h2.step hc (st_58 (by simpa using h))
/-- behind the question for a + -/
def RCut (T : Str) (l : List Seg) (H sp : Nat) (tb : ByteArray) (q : Nat) (w : World) : Prop :=
  ∃ es cs ev cv ys, SG H sp tb w ev cv ys es cs ∧ es.length ≤ 15 ∧ cs.length ≤ 8 ∧ (cs.length = 8 → parseE T = ([], q, 2)) ∧ (cs.length ≠ 8 → AtR T (.cmp l tb.data.toList es cs []) (q + 1))
set_option maxRecDepth 100000 in
set_option maxHeartbeats 8000000 in
theorem rsegment_any (s : ByteArray) (hs : s.size ≤ 65536) (k : Nat) (hk : k ≤ s.size) (l : List Seg) (h : AtR s.data.toList (.tag l []) k) (w : World) :
    Calls Tryz.prog 44 #[.string s, .int .i64 (k : Int)] w fun e w' => RSegQ s.data.toList k l w e w' := by
  obtain ⟨T, hT⟩ : ∃ T, s.data.toList = T := ⟨_, rfl⟩
  have HT := Lib.hid hT
  have HPT := Lib.hid (fun k' hk' l' t' es' cs' h' w' => part_any s hs k' hk' l' t' es' cs' h' w')
  rw [hT] at h HPT
  have hl0 : T.length = s.size := by rw [← hT]; simp
  have HL := Lib.hid hl0
  have HL6 : Hid (T.length ≤ 65536) := Lib.hid (by omega)
  have HA0 := Lib.hid h
  rw [hT]
  obtain ⟨B, hB⟩ : ∃ B, w.heap.size = B := ⟨_, rfl⟩
  have HBQ := Lib.hid hB
  obtain ⟨w1, hw1⟩ : ∃ w1, w.alloc (.cells #[.string ⟨#[]⟩, .slice none 0 0] 36) = w1 := ⟨_, rfl⟩
  obtain ⟨w2, hw2⟩ : ∃ w2, w1.alloc (.cells #[.string ⟨#[]⟩, .slice none 0 0] 36) = w2 := ⟨_, rfl⟩
  have hz1 : w1.heap.size = B + 1 := by rw [← hw1]; simp [hB]
  have hz2 : w2.heap.size = B + 2 := by rw [← hw2]; simp [hz1]
  have HB1 : Hid (Below B w w1) := Lib.hid (by rw [← hw1, ← hB]; exact (Below.refl _ _).alloc (Nat.le_refl _) _)
  have HB2 : Hid (Below (B + 1) w1 w2) := Lib.hid (by rw [← hw2, ← hz1]; exact (Below.refl _ _).alloc (Nat.le_refl _) _)
  have HR1 : Hid (SBox w1 B ⟨#[]⟩ (.slice none 0 0)) := Lib.hid (by rw [← hw1, ← hB]; exact heap_alloc_new _ _)
  have HP2 : Hid (SBox w2 (B + 1) ⟨#[]⟩ (.slice none 0 0)) := Lib.hid (by rw [← hw2, ← hz1]; exact heap_alloc_new _ _)
  have HW1 := Lib.hid hw1
  have HW2 := Lib.hid hw2
  have HZ1 := Lib.hid hz1
  have HZ2 := Lib.hid hz2
  clear hT h hl0 hB hw1 hw2 hz1 hz2
  go_enter Tryz.func44, Tryz.ntmps44
  go_wp2_with fail
  rw [HW1.out, HW2.out, HBQ.out]
  go_loopw [1, 8] (fun at_ i wr => ∃ (q m : Nat) (tb : ByteArray), q ≤ s.size ∧ k ≤ q ∧ (m = 0 ∨ k < q) ∧ m ≤ 3 ∧ at_ = .int .i64 (q : Int) ∧ i = .int .i64 (m : Int) ∧ Hid (tb.data.toList.length = m) ∧ Hid (AtR T (tagC l tb.data.toList) q) ∧ Hid (SBox wr (B + 1) tb (.slice none 0 0)) ∧ Hid (Below (B + 1) w1 wr)) (fun _ i _ => 3 - (intOf i).toNat)
  case atStart => exact ⟨k, 0, ⟨#[]⟩, hk, Nat.le_refl _, .inl rfl, by omega, rfl, rfl, Lib.hid rfl, HA0, HP2, HB2⟩
  case round =>
    obtain ⟨q, m, tb, hq, hkq, hmq, hm, rfl, rfl, HTB, HA, HP, HB⟩ := hrel
    clear HA0 HP2
    have hBs := HB.out.size
    rw [HZ1.out] at hBs
    have HRB : Hid (SBox wr B ⟨#[]⟩ (.slice none 0 0)) := Lib.hid ((HB.out.block B (Nat.lt_succ_self B)).trans HR1.out)
    obtain ⟨r0, r1, z0, z1⟩ := cells2 HRB.out
    obtain ⟨p0, p1, y0, y1⟩ := cells2 HP.out
    have HBW := Lib.hid (HB1.out.trans (HB.out.mono (Nat.le_succ B)))
    by_cases hm3 : m < 3
    · skip
      have b1 : (m : Int) < 3 := by omega
      by_cases hql : q < s.size
      · have e1 : ((q : Int) == (s.size : Int)) = false := by rw [beq_eq_false_iff_ne]; omega
        obtain ⟨c, hc⟩ : ∃ c, T[q]? = some c := ⟨_, by rw [← HT.out]; exact at_byte s q hql⟩
        have hcq : (s[q]'hql).toNat = c.toNat := by
          have h1 := at_byte s q hql
          rw [HT.out, hc] at h1
          injection h1 with h1
          exact congrArg UInt8.toNat h1.symm
        have HC := Lib.hid hc
        have b5 : (0 : Int) ≤ q := by omega
        have b6 : (q : Int) < s.size := by omega
        have HTG := Lib.hid (fun w => rTag_any c w)
        have HA1 : Hid (AtR T (.tag l tb.data.toList) q) := Lib.hid (by have h1 := HA.out; unfold tagC at h1; rw [if_pos (by rw [HTB.out]; exact hm3)] at h1; exact h1)
        clear hc
        cases htg : tagB c with
        | false =>
          have HE := Lib.hid (HA1.out.err HL6.out HC.out (st_tagbad (l := l) (t := tb.data.toList) htg))
          rw [htg] at HTG
          clear htg
          go_wp2_with ((with_reducible refine (HTG.out _).mono ?_); rintro e w' ⟨rfl, rfl⟩)
          refine bodyPost_ret (res_seg3 rfl _ rfl rfl rfl (put2_heap HRB.out _ _) rfl) rfl (rseg_err HE.out (by decide) ?_)
          rw [HBQ.out]
          exact below_put2 HBW.out _ _
        | true =>
          have HTC := Lib.hid htg
          rw [htg] at HTG
          clear htg
          have hadd := fun W => str_add tb (s.extract q (q + 1)) (by
            have h1 : tb.size = m := by rw [← HTB.out]; simp
            have h2 : (s.extract q (q + 1)).size ≤ 1 := by rw [ByteArray.size_extract]; omega
            omega) W
          obtain ⟨tb', htb'⟩ : ∃ tb', tb ++ s.extract q (q + 1) = tb' := ⟨_, rfl⟩
          have HTB' : Hid (tb'.data.toList = tb.data.toList ++ [c]) := Lib.hid (by
            rw [← htb']
            simp only [ByteArray.data_append, Array.toList_append, ByteArray.data_extract, Array.toList_extract]
            rw [HT.out, List.extract_eq_take_drop, show q + 1 - q = 1 by omega, drop_at HC.out]; rfl)
          rw [htb'] at hadd
          clear htb'
          go_upto_region 9 with ((with_reducible refine (HTG.out _).mono ?_); rintro e w' ⟨rfl, rfl⟩)
          obtain ⟨wd, hwd⟩ : ∃ wd, wr.drew = wd := ⟨_, rfl⟩
          have hwh : wd.heap = wr.heap := by rw [← hwd]; rfl
          have HBd : Hid (Below (B + 1) w1 wd) := Lib.hid (by rw [← hwd]; exact HB.out.drew)
          have HPd : Hid (SBox wd (B + 1) tb (.slice none 0 0)) := Lib.hid (by show wd.heap[B + 1]? = _; rw [hwh]; exact HP.out)
          clear p0 p1 y0 y1 r0 r1 z0 z1
          obtain ⟨p0, p1, y0, y1⟩ := cells2 HPd.out
          refine wp_region_planF 9 [(0, false), (1, false), (2, false), (3, false), (4, false), (5, false), (6, false), (7, false), (8, false), (9, true)]
            (fun w' => w'.cell? ⟨B + 1, 0, none⟩ = some (.string tb)) (by kernel_rfl) (by kernel_rfl) (by rw [hwd]; exact p0) ?_
          rw [hwd]
          have HP0 := Lib.hid p0
          have b7 : (q : Int) + 1 ≤ s.size := by omega
          clear hwd hwh p0
          have g4 : (q : Int) ≤ (q : Int) + 1 := by omega
          have g2 : (0 : Int) ≤ (q : Int) + 1 := by omega
          have g3 : ((q : Int) + 1).toNat = q + 1 := by omega
          have g1 : IntKind.i64.wrap ((q : Int) + 1) = (q : Int) + 1 := IntWalk.i64_in _ (by omega)
          iterate 9 (refine' planF_val rfl rfl (fun w' hS => ?_) ?_; rotate_left; (focus (go_simp; rfl)); simp only [Act.put, List.setIfInBounds_toArray, List.set_cons_zero, List.set_cons_succ])
          clear g1 g2 g3 g4
          refine planF_do rfl (fun K hK => ?_)
          have p0 := HP0.out
          go_wp2_with fail
          refine hK _ _ (.inl trivial) ?_
          clear hK K p0 p1 y0 y1
          refine planF_nil ?_
          go_wp2_with fail
          go_roundw
          case rel => exact ⟨q + 1, m + 1, tb', by omega, by omega, .inr (by omega), by omega, by go_num, by go_num, Lib.hid (by rw [HTB'.out, List.length_append, HTB.out]; rfl), Lib.hid (by
            rw [HTB'.out]
            unfold tagC
            by_cases h2 : m + 1 < 3
            · rw [if_pos (by rw [List.length_append, HTB.out]; exact h2)]
              exact HA1.out.step HC.out (st_tag HTC.out (by rw [HTB.out]; exact h2))
            · rw [if_neg (by rw [List.length_append, HTB.out]; exact h2)]
              exact HA1.out.step HC.out (st_tag3 HTC.out (by rw [HTB.out]; omega))), Lib.hid (heap_setCell_same _ (B + 1) 0 _ _ _ HPd.out), Lib.hid (HBd.out.setCell (show B + 1 ≤ B + 1 from Nat.le_refl _) _)⟩
          case measure => simp [intOf]; omega
      · have hqe : q = s.size := by omega
        subst hqe
        have e1 : ((s.size : Int) == (s.size : Int)) = true := by simp
        have HE : Hid (parseE T = ([], T.length, 31)) := Lib.hid ((show AtR T (tagC l tb.data.toList) T.length by rw [HL.out]; exact HA.out).ends HL6.out (by unfold tagC; split <;> rfl))
        go_wp2_with fail
        refine bodyPost_ret (res_seg3 rfl _ rfl rfl rfl (put2_heap HRB.out _ _) rfl) rfl (rseg_err (by rw [HE.out, HL.out]) (by decide) ?_)
        rw [HBQ.out]
        exact below_put2 HBW.out _ _
    · skip
      have hm3' : m = 3 := by omega
      subst hm3'
      have HA1 : Hid (AtR T (.bhd l tb.data.toList) q) := Lib.hid (by have h1 := HA.out; unfold tagC at h1; rw [if_neg (by rw [HTB.out]; omega)] at h1; exact h1)
      have hkq' : k < q := by omega
      clear hm3 hmq hkq hm
      by_cases hql : q < s.size
      · have e1 : ((q : Int) == (s.size : Int)) = false := by rw [beq_eq_false_iff_ne]; omega
        obtain ⟨c, hc⟩ : ∃ c, T[q]? = some c := ⟨_, by rw [← HT.out]; exact at_byte s q hql⟩
        have hcq : (s[q]'hql).toNat = c.toNat := by
          have h1 := at_byte s q hql
          rw [HT.out, hc] at h1
          injection h1 with h1
          exact congrArg UInt8.toNat h1.symm
        have HC := Lib.hid hc
        have b5 : (0 : Int) ≤ q := by omega
        have b6 : (q : Int) < s.size := by omega
        clear hc
        by_cases hcc : c = 43 ∨ c = 39
        · skip
          obtain ⟨bb, hb1, hb2⟩ : ∃ b : Bool, ((c.toNat : Int) != 43) = b ∧ (b = true → ((c.toNat : Int) != 39) = false) := by
            rcases hcc with rfl | rfl
            · exact ⟨false, rfl, fun h => by cases h⟩
            · exact ⟨true, rfl, fun _ => rfl⟩
          have HH0 : Hid (RHead T l (B + 2) (B + 1) tb wr q c) := Lib.hid (.inl ⟨HP.out, HA1.out, hcc⟩)
          clear hcc p0 p1 y0 y1 r0 r1 z0 z1
          have hx : (bb = true ∧ ((c.toNat : Int) != 39) = false) ∨ bb = false := by
            cases bb
            · exact .inr rfl
            · exact .inl ⟨rfl, hb2 rfl⟩
          clear hb2
          rcases hx with ⟨rfl, hb2⟩ | rfl
          all_goals
            go_wp2_with fail
            clear hb1 hcq
            try clear hb2
            have h33 : ((3 : Nat) : Int) = 3 := rfl
            rw [h33]
            clear h33
            go_loopw [1] (fun at_ wr => ∃ (q : Nat) (c : UInt8), q < s.size ∧ k < q ∧ at_ = .int .i64 (q : Int) ∧ Hid (T[q]? = some c) ∧ Hid (RHead T l (B + 2) (B + 1) tb wr q c) ∧ Hid (Below (B + 1) w1 wr) ∧ B + 2 ≤ wr.heap.size) (fun at_ _ => s.size - (intOf at_).toNat)
            case atStart => exact ⟨q, c, hql, hkq', rfl, HC, HH0, HB, by have h1 := (Array.getElem?_eq_some_iff.1 HP.out).1; omega⟩
            case round =>
              clear b5 b6 e1 HC HH0 HA1 HP HRB HBW HTB hBs hql hkq'
              obtain ⟨q, c, hql, hkq, rfl, HC, HH, HBX, hzx⟩ := hrel
              have hcq : (s[q]'hql).toNat = c.toNat := by
                have h1 := at_byte s q hql
                rw [HT.out, HC.out] at h1
                injection h1 with h1
                exact congrArg UInt8.toNat h1.symm
              have b5 : (0 : Int) ≤ q := by omega
              have b6 : (q : Int) < s.size := by omega
              have HRB : Hid (SBox wr B ⟨#[]⟩ (.slice none 0 0)) := Lib.hid ((HBX.out.block B (Nat.lt_succ_self B)).trans HR1.out)
              have HBW := Lib.hid (HB1.out.trans (HBX.out.mono (Nat.le_succ B)))
              obtain ⟨r0, r1, z0, z1⟩ := cells2 HRB.out
              by_cases h39 : c = 39
              · skip
                subst h39
                have hcq' : (s[q]'hql).toNat = 39 := hcq
                obtain ⟨E, ev, hE⟩ := HH.out.exit HC.out
                obtain ⟨ea, ec, rfl, _, _⟩ := hE.2.1.form
                have HE := Lib.hid hE
                obtain ⟨p0, p1, y0, y1⟩ := cells2 hE.1
                clear hcq hE
                go_wp2_with fail
                refine bodyPost_ret (res_seg3 rfl _ rfl rfl rfl (put2_heap HRB.out _ _) rfl) rfl ?_
                refine ⟨.inl ⟨tb.data.toList, E, _, q + 1, by rw [sv_dat]; go_num, HE.out.2.2, by omega, by rw [HL.out]; omega, HE.out.2.1.cong (fun b hb => ⟨by rw [HBQ.out]; omega, by simp; exact hb.2⟩) (fun b hb => ?_)⟩, by rw [HBQ.out]; exact below_put2 HBW.out _ _⟩
                rw [heap_setCell_other _ _ _ _ (by simp; omega), heap_setCell_other _ _ _ _ (by simp; omega)]
              · skip
                have f39 : ((c.toNat : Int) != 39) = true := by
                  rw [bne_iff_ne]; intro e
                  exact h39 (UInt8.toNat_inj.1 (by have : c.toNat = 39 := by omega
                                                   rw [this]; rfl))
                have H39 := Lib.hid h39
                obtain ⟨E0, hE0⟩ : ∃ b, ((c.toNat : Int) == 43) = b := ⟨_, rfl⟩
                clear h39
                go_upto_if 66 with fail
                go_cut [] (fun wy => Hid (RCut T l (B + 2) (B + 1) tb q wy ∧ Below (B + 1) w1 wy))
                case first =>
                  cases E0 with
                  | true =>
                    have h43 : c = 43 := UInt8.toNat_inj.1 (by
                      have h1 : ((c.toNat : Int) == 43) = true := hE0
                      rw [beq_iff_eq] at h1
                      show c.toNat = 43
                      omega)
                    subst h43
                    obtain ⟨E, ev, ys, hoe, hl16, he16, hn16⟩ := HH.out.plus HC.out HL6.out
                    obtain ⟨n, hn⟩ : ∃ n, E.length = n := ⟨_, rfl⟩
                    obtain ⟨oa, oc, rfl⟩ := own_slice hoe.row
                    rw [hn] at hoe hl16 he16 hn16
                    have HOE := Lib.hid hoe
                    have HN := Lib.hid hn
                    obtain ⟨p0, p1, y0, y1⟩ := cells2 hoe.c
                    have HE16 := Lib.hid he16
                    have HN16 := Lib.hid hn16
                    clear hoe hn he16 hn16 hE0
                    by_cases h16 : n = 16
                    · have HP16 := Lib.hid (HE16.out h16)
                      clear HE16 HN16
                      subst h16
                      go_wp2_with fail
                      refine bodyPost_ret (res_seg3 rfl _ rfl rfl rfl (put2_heap HRB.out _ _) rfl) rfl (rseg_err HP16.out (by decide) ?_)
                      rw [HBQ.out]
                      exact below_put2 HBW.out _ _
                    · have e16 : ((n : Int) == 16) = false := by rw [beq_eq_false_iff_ne]; omega
                      have e16n : (n == 16) = false := by rw [beq_eq_false_iff_ne]; exact h16
                      have HX16 := Lib.hid h16
                      obtain ⟨i2, hi2, hz20, hz21, hz22⟩ := info_parts einfo_strs
                      have HI2 := Lib.hid hi2
                      have HZ20 := Lib.hid hz20
                      have HZ21 := Lib.hid hz21
                      have HZ22 := Lib.hid hz22
                      have hrow : wr.ownsRow (B + 2) 53 1 (.slice oa n oc) n ys := by
                        have h1 := HOE.out.row
                        rw [HN.out] at h1
                        exact h1
                      have HRW := Lib.hid hrow
                      clear hi2 hz20 hz21 hz22 h16 hrow
                      go_wp2_with ((with_reducible refine wpList_at (.call { callee := .builtin .append, args := #[.tmp 74, .tmp 75], argTypes := #[34, 34] }) rfl ?_); go_loud (refine wpList_append_own_at _ rfl _ _ 34 rfl (B + 2) 53 i2 (.slice none 0 0) 1 24 Tryz.underlying34 HI2.out HZ20.out HZ21.out HZ22.out rfl (by decide) _ _ _ rfl (HRW.out.alloc _) ⟨wr.heap.size, 0, none⟩ 1 1 [.slice none 0 0] rfl rfl (cell_one_new _ _ _) (by simp [Value.oneCell']) (by unfold maxLen; omega) (by omega) (by simp; omega) ?_); intro ev' wg hog hgg _ hkg; obtain ⟨ev'a, ev'c, rfl⟩ := own_slice hog; have hgg' := grown_alloc hgg; have hne1 : (Value.slice oa n oc).ownBlock ≠ some (B + 1) := own_not HOE.out.row HOE.out.c (by decide); have cg : wg.heap[B + 1]? = some (.cells #[.string tb, .slice oa n oc] 36 (0, 0)) := (hgg'.block (B + 1) (by omega) (fun e => hne1 e.symm)).trans HOE.out.c; have HCG := Lib.hid cg; obtain ⟨p0', p1', y0', y1'⟩ := cells2 cg; have HSTEP : Hid (OE (B + 2) (B + 1) tb (wg.setCell ⟨B + 1, 1, none⟩ (.slice ev'a (n + 1) ev'c)) (.slice ev'a (n + 1) ev'c) (ys ++ [.slice none 0 0]) (E ++ [[]])) := Lib.hid (OE.step HOE.out hzx ((Below.refl _ _).alloc (Nat.le_refl _) _) (RowAt.nil _ _) hgg (by rw [HN.out]; exact hog) (hkg.elim .inl (fun h => .inr ⟨_, h, by simp⟩))); have HBG : Hid (Below (B + 1) w1 (wg.setCell ⟨B + 1, 1, none⟩ (.slice ev'a (n + 1) ev'c))) := Lib.hid (((HBX.out.alloc (by omega) _).grown hgg (by simp; omega) (fun b hb => by have h1 := (own_lt HRW.out hb).1; omega)).setCell (show B + 1 ≤ B + 1 from Nat.le_refl _) _); clear p0 p1 y0 y1 hog hgg hkg hgg' hne1 cg)
                      go_meet
                      case rel => exact Lib.hid ⟨⟨E, [], _, _, ys, SG.of HSTEP.out (by have h1 := HOE.out.len; rw [h1]), by rw [HN.out]; have := HX16.out; omega, by simp, fun h => by simp at h, fun _ => HN16.out HX16.out⟩, HBG.out⟩
                  | false =>
                    have h58 : c = 58 := by
                      have h43 : c ≠ 43 := by rintro rfl; exact absurd hE0 (by decide)
                      rcases HH.out with ⟨_, _, h | h⟩ | ⟨_, _, _, _, _, _, _, _, _, _, h | h | h⟩
                      · exact absurd h h43
                      · exact absurd h H39.out
                      · exact absurd h h43
                      · exact h
                      · exact absurd h H39.out
                    subst h58
                    have HCU := Lib.hid (HH.out.colon HC.out HL6.out)
                    go_wp2_with fail
                    go_meet
                    case rel => exact Lib.hid ⟨HCU.out, HBX.out⟩
                case rest =>
                  obtain ⟨⟨es, cs, ev, cv, ys, hsg, hes, hcs, h8, hn8⟩, hbw⟩ := hcut.out
                  obtain ⟨g, cap, ca, cc, rfl, hcp1, hcp2, rfl, gc0, gf0, hHg, hgl, hgsp⟩ := hsg.form
                  obtain ⟨m, hm⟩ : ∃ m, es.length = m := ⟨_, rfl⟩
                  obtain ⟨n, hn⟩ : ∃ n, cs.length = n := ⟨_, rfl⟩
                  have HSG := Lib.hid hsg
                  have HM := Lib.hid hm
                  have HN := Lib.hid hn
                  have HBC := Lib.hid hbw
                  rw [hm] at hes hcp1 gc0 gf0 HSG
                  rw [hn] at hcs h8 hn8 gc0 HSG
                  have HE8 := Lib.hid h8
                  have HN8 := Lib.hid hn8
                  obtain ⟨p0, p1, y0, y1⟩ := cells2 HSG.out.c
                  have HRC : Hid (SBox wc B ⟨#[]⟩ (.slice none 0 0)) := Lib.hid ((HBC.out.block B (Nat.lt_succ_self B)).trans HR1.out)
                  have HBCW := Lib.hid (HB1.out.trans (HBC.out.mono (Nat.le_succ B)))
                  unfold maxLen at hcp2
                  clear r0 r1 z0 z1 hcut hsg hm hn hbw h8 hn8 hE0
                  obtain ⟨r0, r1, z0, z1⟩ := cells2 HRC.out
                  by_cases h8 : n = 8
                  · have HP8 := Lib.hid (HE8.out h8)
                    clear HE8 HN8
                    subst h8
                    go_wp2_with fail
                    refine bodyPost_ret (res_seg3 rfl _ rfl rfl rfl (put2_heap HRC.out _ _) rfl) rfl (rseg_err HP8.out (by decide) ?_)
                    rw [HBQ.out]
                    exact below_put2 HBCW.out _ _
                  · have e8 : ((n : Int) == 8) = false := by rw [beq_eq_false_iff_ne]; omega
                    have e8n : (n == 8) = false := by rw [beq_eq_false_iff_ne]; exact h8
                    have HPP := Lib.hid (HPT.out (q + 1) (by omega) l tb.data.toList es cs (HN8.out h8) wc)
                    rw [show ((q + 1 : Nat) : Int) = (q : Int) + 1 from rfl] at HPP
                    have HX8 := Lib.hid h8
                    clear h8
                    go_wp2_with fail
                    refine HPP.out.mono ?_
                    rintro e w3 ⟨hq3, hb3⟩
                    have HB3 := Lib.hid hb3
                    have HBD3 := Lib.hid (HBC.out.trans (hb3.mono (by omega)))
                    have HSG3 := Lib.hid (HSG.out.below hb3)
                    have HRD : Hid (SBox w3 B ⟨#[]⟩ (.slice none 0 0)) := Lib.hid ((HBD3.out.block B (Nat.lt_succ_self B)).trans HR1.out)
                    have HBDW := Lib.hid (HB1.out.trans (HBD3.out.mono (Nat.le_succ B)))
                    have HGC := Lib.hid ((hb3.cell (p := ⟨g, m, none⟩) hgl).trans gc0)
                    have HGF := Lib.hid ((hb3.frozen (p := ⟨g, m, none⟩) hgl).trans gf0)
                    have hz3 := hb3.size
                    clear hb3 HPP p0 p1 y0 y1 r0 r1 z0 z1 gc0 gf0 HSG HBC HRC HBCW
                    obtain ⟨p0, p1, y0, y1⟩ := cells2 HSG3.out.c
                    obtain ⟨r0, r1, z0, z1⟩ := cells2 HRD.out
                    rcases hq3 with ⟨p, k', c', rfl, ha, hc', hcc', hp', hk'⟩ | ⟨k', en, rfl, hne, hpe⟩
                    · have HAT := Lib.hid ha
                      have HC' := Lib.hid hc'
                      have HCC := Lib.hid hcc'
                      have hks : k' < s.size := by rw [← HL.out]; exact (List.getElem?_eq_some_iff.1 hc').1
                      obtain ⟨pb, hpb⟩ : ∃ pb : ByteArray, (⟨p.toArray⟩ : ByteArray) = pb := ⟨_, rfl⟩
                      have HPB := Lib.hid hpb
                      clear ha hc' hcc' r0 r1 z0 z1
                      unfold sv
                      rw [hpb]
                      clear hpb
                      go_upto_region 26 with fail
                      clear p0 p1 y0 y1
                      obtain ⟨wd, hwd⟩ : ∃ wd, w3.drew = wd := ⟨_, rfl⟩
                      have hwh : wd.heap = w3.heap := by rw [← hwd]; rfl
                      have HSGd := Lib.hid (HSG3.out.drew hwh)
                      have HBd : Hid (Below (B + 1) w1 wd) := Lib.hid (by rw [← hwd]; exact HBD3.out.drew)
                      have gcd : wd.cell? ⟨g, m, none⟩ = some (.slice ca n cc) := (cell_ag (by rw [hwh])).trans HGC.out
                      have gfd : wd.frozen? ⟨g, m, none⟩ = false := (fz_ag (by rw [hwh])).trans HGF.out
                      have hzd : g < wd.heap.size ∧ B + 2 ≤ wd.heap.size := by rw [hwh]; omega
                      obtain ⟨hzd1, hzd2⟩ := hzd
                      obtain ⟨p0, p1, y0, y1⟩ := cells2 HSGd.out.c
                      refine wp_region_planF 12 [(0, false), (1, false), (2, false), (3, false), (4, false), (5, false), (6, false), (7, false), (8, false), (9, true), (10, true), (11, false), (12, true)]
                        (fun w' => w'.cell? ⟨B + 1, 1, none⟩ = some (.slice (some ⟨g, 0, none⟩) (m + 1) cap) ∧ w'.cell? ⟨g, m, none⟩ = some (.slice ca n cc)) (by kernel_rfl) (by kernel_rfl) (by rw [hwd]; exact ⟨p1, gcd⟩) ?_
                      rw [hwd]
                      have HP1 := Lib.hid p1
                      have HGD := Lib.hid gcd
                      have HFD := Lib.hid gfd
                      have m1 : (0 : Int) ≤ m := by omega
                      have m2 : (m : Int) < (m : Int) + 1 := by omega
                      clear hwd hwh p0 p1 y0 y1 gcd gfd
                      iterate 9 (refine' planF_val rfl rfl (fun w' hS => ?_) ?_; rotate_left; (focus (obtain ⟨hS1, hS2⟩ := hS; go_simp; rfl)); simp only [Act.put, List.setIfInBounds_toArray, List.set_cons_zero, List.set_cons_succ])
                      refine planF_do rfl (fun K hK => ?_)
                      go_wp2_with fail
                      refine hK _ _ (.inr ⟨(cell_ag (Below.heap_alloc _ _ _ (cell_lt' HP1.out))).trans HP1.out, (cell_ag (Below.heap_alloc _ _ _ (cell_lt' HGD.out))).trans HGD.out⟩) ?_
                      clear hK K
                      refine planF_do rfl (fun K hK => ?_)
                      obtain ⟨i1, hi1, hz10, hz11, hz12⟩ := info_parts einfo_str
                      have hco : wd.ownsRow (B + 2) 9 1 (.slice ca n cc) n (cs.map sv) := by
                        have h1 := HSGd.out.co
                        rw [HN.out] at h1
                        exact h1
                      refine wpList_append_own_at _ rfl _ _ 53 rfl (B + 2) 9 i1 (.string ⟨#[]⟩) 1 16 Tryz.underlying53 hi1 hz10 hz11 hz12 rfl (by decide) _ _ _ rfl (hco.alloc _) ⟨wd.heap.size, 0, none⟩ 1 1 [.string pb] rfl rfl (cell_one_new _ _ _) (by simp [Value.oneCell']) (by unfold maxLen; omega) (by omega) (by simp; omega) ?_
                      intro cv' wg hog hgg _ hkg
                      obtain ⟨cva, cvc, rfl⟩ := own_slice hog
                      have hgg' := grown_alloc hgg
                      have hzg := hgg'.size
                      have hns : (Value.slice ca n cc).ownBlock ≠ some (B + 1) := own_not hco HSGd.out.c (by decide)
                      have hng : (Value.slice ca n cc).ownBlock ≠ some g := own_ne HSGd.out.row hco (by decide) (k := g) rfl
                      have p1g : wg.cell? ⟨B + 1, 1, none⟩ = some (.slice (some ⟨g, 0, none⟩) (m + 1) cap) := (cell_ag (hgg'.block (B + 1) (by omega) (fun e => hns e.symm))).trans HP1.out
                      have gcg : wg.cell? ⟨g, m, none⟩ = some (.slice ca n cc) := (cell_ag (hgg'.block g hzd1 (fun e => hng e.symm))).trans HGD.out
                      have gfg : wg.frozen? ⟨g, m, none⟩ = false := (fz_ag (hgg'.block g hzd1 (fun e => hng e.symm))).trans HFD.out
                      have HSTEP : Hid (SG (B + 2) (B + 1) tb (wg.setCell ⟨g, m, none⟩ (.slice cva (n + 1) cvc)) (.slice (some ⟨g, 0, none⟩) (m + 1) cap) (.slice cva (n + 1) cvc) ys es (cs ++ [p])) := Lib.hid (by
                        have h1 := HSGd.out
                        rw [← HM.out] at h1
                        have h2 := SG.comp (c := p) h1 hgg (by rw [HN.out]; unfold sv; rw [HPB.out]; exact hog) (hkg.elim .inl (fun h => .inr ⟨_, h, by simp⟩))
                        rw [HM.out] at h2
                        exact h2)
                      have HBG : Hid (Below (B + 1) w1 (wg.setCell ⟨g, m, none⟩ (.slice cva (n + 1) cvc))) := Lib.hid (((HBd.out.alloc (by omega) _).grown hgg (by simp; omega) (fun b hb => by have h1 := (own_lt hco hb).1; omega)).setCell (show B + 1 ≤ g by omega) _)
                      have hzG : B + 2 ≤ (wg.setCell ⟨g, m, none⟩ (.slice cva (n + 1) cvc)).heap.size := by simp; omega
                      have HKS := Lib.hid (And.intro p1g gcg)
                      clear hi1 hz10 hz11 hz12 hco hog hgg hkg hgg' hns hng
                      go_wp2_with fail
                      refine hK _ _ (.inr HKS.out) ?_
                      clear hK K
                      iterate 1 (refine' planF_val rfl rfl (fun w' hS => ?_) ?_; rotate_left; (focus (obtain ⟨hS1, hS2⟩ := hS; go_simp; rfl)); simp only [Act.put, List.setIfInBounds_toArray, List.set_cons_zero, List.set_cons_succ])
                      refine planF_do rfl (fun K hK => ?_)
                      go_wp2_with fail
                      refine hK _ _ (.inl trivial) ?_
                      clear hK K
                      refine planF_nil ?_
                      clear p1g gcg gfg m1 m2
                      go_wp2_with fail
                      go_roundw
                      case rel => exact ⟨k', c', hks, by omega, rfl, HC', Lib.hid (.inr ⟨es, cs, p, _, _, ys, HSTEP.out, by rw [HM.out]; exact hes, by rw [HN.out]; have := HX8.out; omega, HAT.out, HCC.out⟩), HBG, hzG⟩
                      case measure => simp [intOf]; omega
                    · have HPE := Lib.hid hpe
                      have HNE := Lib.hid hne
                      have d0 : (en != 0) = true := by rw [bne_iff_ne]; exact hne
                      clear hpe hne
                      unfold sv
                      go_wp2_with fail
                      refine bodyPost_ret (res_seg3 rfl _ rfl rfl rfl (put2_heap HRD.out _ _) rfl) rfl (rseg_err HPE.out HNE.out ?_)
                      rw [HBQ.out]
                      exact below_put2 HBDW.out _ _
        · skip
          have h43 : c ≠ 43 := fun e => hcc (.inl e)
          have h39 : c ≠ 39 := fun e => hcc (.inr e)
          have f1 : ((c.toNat : Int) != 43) = true := by
            rw [bne_iff_ne]; intro e
            exact h43 (UInt8.toNat_inj.1 (by have : c.toNat = 43 := by omega
                                             rw [this]; rfl))
          have f2 : ((c.toNat : Int) != 39) = true := by
            rw [bne_iff_ne]; intro e
            exact h39 (UInt8.toNat_inj.1 (by have : c.toNat = 39 := by omega
                                             rw [this]; rfl))
          have HE := Lib.hid (HA1.out.err HL6.out HC.out (st_bhdbad (l := l) (t := tb.data.toList) h39 h43))
          clear hcc h43 h39
          go_wp2_with fail
          refine bodyPost_ret (res_seg3 rfl _ rfl rfl rfl (put2_heap HRB.out _ _) rfl) rfl (rseg_err HE.out (by decide) ?_)
          rw [HBQ.out]
          exact below_put2 HBW.out _ _
      · have hqe : q = s.size := by omega
        subst hqe
        have e1 : ((s.size : Int) == (s.size : Int)) = true := by simp
        have HE : Hid (parseE T = ([], T.length, 31)) := Lib.hid ((show AtR T (.bhd l tb.data.toList) T.length by rw [HL.out]; exact HA1.out).ends HL6.out rfl)
        go_wp2_with fail
        refine bodyPost_ret (res_seg3 rfl _ rfl rfl rfl (put2_heap HRB.out _ _) rfl) rfl (rseg_err (by rw [HE.out, HL.out]) (by decide) ?_)
        rw [HBQ.out]
        exact below_put2 HBW.out _ _
end Go.Proofs.YteaaiejfieaalaaGreatDoor

/-
  RefD: contract of the reference's Parse of segments. No condition beyond those stated.
-/
namespace Go.Proofs.YteaaiejfieaalaaGreatDoor
open Go.RowKit
theorem AtR.intag {T : Str} {l : List Seg} {k : Nat} {b : UInt8} (h : AtR T (.btw l) k) (hb : T[k]? = some b) (h1 : ¬ (b = 10 ∧ l ≠ [])) (h2 : l.length ≠ 64) : AtR T (.tag l []) k := by
  unfold AtR at *
  rw [h, drop_at hb]
  simp only [runE]
  rw [st_btw h1 h2]
/-- append(own segments, segments...), where all elements lie in blocks of a set -/
theorem wp_app_ogx {ops : Array Oper} {rest : List Oper} {o : Oper} {a : Act} {Q : Exit → Act → World → Prop} (s x : Operand)
    (ho : o.op = .call { callee := .builtin .append, args := #[s, x], argTypes := #[23, 23] }) (hw : Region.wanted o (yielded ops a.tmps) = true)
    {w : World} {B : Nat} {v mv : Value} {xs : List Value} {l m : List Seg} {S T : Nat → Prop} (hs : a.eval s = v) (hx : a.eval x = mv) (hO : OGT T B w v xs l) (hm : SegsAt S w mv m) (hS : ∀ k, S k → T k ∧ k < w.heap.size ∧ v.ownBlock ≠ some k) (hl : l.length + m.length ≤ 1048576) (hB : B ≤ w.heap.size)
    (h : ∀ v' w' xs', OGT T B w' v' xs' (l ++ m) → Below B w w' → wpList Tryz.prog ops Q rest (a.put o.dst v') w') :
    wpList Tryz.prog ops Q (o :: rest) a w := by
  obtain ⟨i0, hi, hz0, hz1, hz2⟩ := info_parts einfo_seg
  have hm0 := hm
  obtain ⟨ao, cap, ys, rfl, g1, g2, g3, g4, g5⟩ := hm.row
  simp only [wpList, hw, if_true]
  left
  have fin : ∀ v' w', w'.ownsRow B 36 2 v' (l.length + m.length) (segCells l xs ++ segCells m ys) → w.grownBy w' v.ownBlock → (v'.ownBlock = v.ownBlock ∨ v'.ownBlock = some w.heap.size) → OGT T B w' v' (xs ++ ys) (l ++ m) ∧ Below B w w' := fun v' w' f1 f2 f3 => by
    have hov : ∀ k, v.ownBlock = some k → B ≤ k := fun k hk => (own_lt hO.row hk).1
    have hb : Below B w w' := (Below.refl B w).grown f2 hB hov
    have hz := f2.size
    have hc : ∀ b, b < w.heap.size → v.ownBlock ≠ some b → v'.ownBlock ≠ some b := fun b hb2 hne he => by
      rcases f3 with f3 | f3
      · exact hne (f3 ▸ he)
      · rw [f3] at he; cases he; omega
    refine ⟨⟨by rw [List.length_append, segCells_app l m xs ys hO.len]; exact f1, by simp [hO.len, g1], fun i s x h1 h2 => ?_⟩, hb⟩
    rcases Nat.lt_or_ge i l.length with hil | hil
    · rw [List.getElem?_append_left hil] at h1
      rw [List.getElem?_append_left (by rw [hO.len]; exact hil)] at h2
      exact (hO.el i s x h1 h2).cong (fun b hb' => ⟨hb'.1, by omega, hc b hb'.2.1 hb'.2.2⟩) (fun b hb' => f2.block b hb'.2.1 (fun e => hb'.2.2 e.symm))
    · rw [List.getElem?_append_right hil] at h1
      rw [List.getElem?_append_right (by rw [hO.len]; exact hil), hO.len] at h2
      exact (g4 _ s x h1 h2).cong (fun b hb' => ⟨(hS b hb').1, by have := (hS b hb').2.1; omega, hc b (hS b hb').2.1 (hS b hb').2.2⟩) (fun b hb' => f2.block b (hS b hb').2.1 (fun e => (hS b hb').2.2 e.symm))
  cases ao with
  | none =>
    obtain ⟨rfl, rfl⟩ := g2 rfl
    have hr := run_append_owned_none (P := Tryz.prog) (w := w) B 23 o.type 36 i0 2 Tryz.underlying23 hi v l.length (segCells l xs) hO.row
    unfold Oper.wp
    simp [execOp, ho, resolve, invoke, builtin, hs, hx, hr, Result.andThen]
    obtain ⟨k1, k2⟩ := fin v w (by
      have : ys = [] := List.length_eq_zero_iff.1 g1
      subst this
      simpa [segCells] using hO.row) ⟨rfl, rfl, rfl, Nat.le_refl _, fun _ _ _ => rfl⟩ (.inl rfl)
    exact h v w _ k1 k2
  | some ad =>
    obtain ⟨v', w', hr, h2, h3, _, h5⟩ := run_append_own_at (P := Tryz.prog) w B 23 o.type 36 i0 (.agg #[.string ⟨#[]⟩, .slice none 0 0]) 2 40 Tryz.underlying23 hi hz0 hz1 hz2 rfl (by decide) v l.length (segCells l xs) hO.row ad m.length cap (segCells m ys) (segCells_len m ys g1) (g5 ad rfl) (segCells_one m ys g3) (by unfold maxLen; omega) (by omega) hB
    unfold Oper.wp execOp
    simp only [ho, resolve, invoke, builtin, Sem.run_bind, Sem.run_pure, Result.andThen_ok, List.map_toArray, List.map_cons, List.map_nil, hs, hx, hr]
    obtain ⟨k1, k2⟩ := fin v' w' h2 h3 h5
    exact h v' w' _ k1 k2
def RParseQ (T : Str) (w : World) (e : Ending) (w' : World) : Prop := ∃ v, e = .returned (.tuple #[v, .int .i64 ((parseE T).2.1 : Int), .int .i64 (parseE T).2.2]) ∧ SegsAt (fun k => w.heap.size ≤ k ∧ k < w'.heap.size) w' v (parseE T).1 ∧ Below w.heap.size w w'
theorem rparse_err {T : Str} {w w' : World} {k : Nat} {n : Int} (hp : parseE T = ([], k, n)) (hb : Below w.heap.size w w') : RParseQ T w (.returned (.tuple #[.slice none 0 0, .int .i64 (k : Int), .int .i64 n])) w' := by
  unfold RParseQ
  rw [hp]
  exact ⟨_, rfl, SegsAt.nil _ _, hb⟩
set_option maxRecDepth 100000 in
set_option maxHeartbeats 8000000 in
theorem r3parse_any (s : ByteArray) (w : World) : Calls Tryz.prog 26 #[.string s] w fun e w' => RParseQ s.data.toList w e w' := by
  obtain ⟨T, hT⟩ : ∃ T, s.data.toList = T := ⟨_, rfl⟩
  have HT := Lib.hid hT
  have hl0 : T.length = s.size := by rw [← hT]; simp
  have HL := Lib.hid hl0
  by_cases hbig : 65536 < s.size
  · have HE := Lib.hid (show parseE T = ([], 0, 2) by unfold parseE; rw [if_pos (by omega)])
    have d1 : decide ((65536 : Int) < (s.size : Int)) = true := by rw [decide_eq_true_eq]; omega
    rw [hT]
    clear hT hl0
    go_enter Tryz.func26, Tryz.ntmps26
    go_wp2_with fail
    go_ret3
    exact rparse_err HE.out (Below.refl _ _)
  have hs : s.size ≤ 65536 := by omega
  have d1 : decide ((65536 : Int) < (s.size : Int)) = false := by rw [decide_eq_false_iff_not]; omega
  have HSE := Lib.hid (fun k hk l h w => rsegment_any s hs k hk l h w)
  rw [hT] at HSE ⊢
  have HL6 : Hid (T.length ≤ 65536) := Lib.hid (by omega)
  obtain ⟨B, hB⟩ : ∃ B, w.heap.size = B := ⟨_, rfl⟩
  have HBQ := Lib.hid hB
  clear hT hl0 hB hbig
  go_enter Tryz.func26, Tryz.ntmps26
  go_wp2_with fail
  go_loopw [5, 6] (fun ov at_ wr => ∃ (q : Nat) (l : List Seg) (xs : List Value), q ≤ s.size ∧ l.length ≤ 64 ∧ at_ = .int .i64 (q : Int) ∧ Hid (AtR T (.btw l) q) ∧ Hid (OGT (fun b => B ≤ b) B wr ov xs l) ∧ Hid (Below B w wr)) (fun _ at_ _ => s.size - (intOf at_).toNat)
  case atStart => exact ⟨0, [], [], Nat.zero_le _, by simp, rfl, Lib.hid (AtR.start T), Lib.hid ⟨World.ownsRow_nil _ _ _ _, rfl, fun i s x h => by simp at h⟩, Lib.hid (by rw [← HBQ.out]; exact Below.refl _ _)⟩
  case round =>
    obtain ⟨q, l, xs, hq, hl, rfl, HA, HO, HB⟩ := hrel
    have hBs := HB.out.size
    rw [HBQ.out] at hBs
    obtain ⟨n, hn⟩ : ∃ n, l.length = n := ⟨_, rfl⟩
    have HN := Lib.hid hn
    obtain ⟨oa, oc, rfl⟩ := own_slice HO.out.row
    rw [hn] at HO hl ⊢
    clear hn
    by_cases hql : q < s.size
    · obtain ⟨c, hc⟩ : ∃ c, T[q]? = some c := ⟨_, by rw [← HT.out]; exact at_byte s q hql⟩
      have hcq : (s[q]'hql).toNat = c.toNat := by
        have h1 := at_byte s q hql
        rw [HT.out, hc] at h1
        injection h1 with h1
        exact congrArg UInt8.toNat h1.symm
      have HC := Lib.hid hc
      have b5 : (0 : Int) ≤ q := by omega
      have b6 : (q : Int) < s.size := by omega
      clear hc
      by_cases h10 : c = 10 ∧ l ≠ []
      · skip
        obtain ⟨rfl, hne⟩ := h10
        have hcq' : (s[q]'hql).toNat = 10 := hcq
        have hn0 : 0 < n := by rw [← HN.out]; exact List.length_pos_iff.2 hne
        have d3 : decide (0 < n) = true := by rw [decide_eq_true_eq]; exact hn0
        have HA1 := Lib.hid (HA.out.step HC.out (st_btw10 hne))
        clear hcq hne
        go_wp2_with fail
        go_roundw
        case rel => exact ⟨q + 1, l, xs, by omega, by rw [HN.out]; exact hl, by go_num, HA1, HO, HB⟩
        case measure => simp [intOf]; omega
      · have hx : ((c.toNat : Int) == 10) = false ∨ (((c.toNat : Int) == 10) = true ∧ decide (0 < n) = false) := by
          by_cases h : c = 10
          · right
            subst h
            refine ⟨rfl, ?_⟩
            have hn0 : n = 0 := by
              rw [← HN.out]
              exact List.length_eq_zero_iff.2 (Classical.byContradiction fun hne => h10 ⟨rfl, hne⟩)
            rw [hn0]; rfl
          · left
            rw [beq_eq_false_iff_ne]; intro e
            exact h (UInt8.toNat_inj.1 (by have : c.toNat = 10 := by omega
                                           rw [this]; rfl))
        have H10 := Lib.hid h10
        clear h10
        rcases hx with d3 | ⟨d3, d4⟩
        all_goals
          go_upto_region 8 with fail
          clear d3 hcq b5 b6
          try clear d4
          by_cases h64 : l.length = 64
          · have hn64 := HN.out.symm.trans h64
            have HE := Lib.hid (HA.out.err HL6.out HC.out (st_full H10.out h64))
            subst hn64
            go_wp2_with fail
            go_ret3
            exact rparse_err HE.out (by rw [HBQ.out]; exact HB.out)
          · have HX := Lib.hid (HA.out.intag HC.out H10.out h64)
            have H64 := Lib.hid h64
            have HSG := Lib.hid (HSE.out q hq l HX.out wr)
            have e64 : ((n : Int) == 64) = false := by rw [beq_eq_false_iff_ne, ← HN.out]; omega
            have e64n : (n == 64) = false := by rw [beq_eq_false_iff_ne, ← HN.out]; exact h64
            have hl63 : n < 64 := by have := HN.out; omega
            clear h64
            go_upto_region 10 with fail
            go_wp2_with fail
            refine HSG.out.mono ?_
            rintro e w1 ⟨hq1, hb1⟩
            have HB1 := Lib.hid hb1
            have hz1 := hb1.size
            clear hb1 HSG e64 e64n
            rcases hq1 with ⟨t, es, ev, k', rfl, ha, hk1, hk2, hel⟩ | ⟨tb, ea, em, ec, k', en, rfl, hne, hpe⟩
            · have HAT := Lib.hid ha
              obtain ⟨ea, ec, rfl, _, _⟩ := hel.form
              obtain ⟨st, hst⟩ : ∃ st : ByteArray, (⟨t.toArray⟩ : ByteArray) = st := ⟨_, rfl⟩
              have HST := Lib.hid hst
              unfold sv
              rw [hst]
              obtain ⟨D, hD⟩ : ∃ D, w1.heap.size = D := ⟨_, rfl⟩
              obtain ⟨w2, hw2⟩ : ∃ w2, w1.alloc (.cells #[.string st, .slice ea es.length ec] 36) = w2 := ⟨_, rfl⟩
              have HP2 : Hid (SBox w2 D st (.slice ea es.length ec)) := Lib.hid (by rw [← hw2, ← hD]; exact heap_alloc_new _ _)
              have HB2 : Hid (Below wr.heap.size wr w2) := Lib.hid (by rw [← hw2]; exact HB1.out.trans ((Below.refl _ _).alloc (by omega) _))
              have HBB : Hid (Below D w1 w2) := Lib.hid (by rw [← hw2, ← hD]; exact (Below.refl _ _).alloc (Nat.le_refl _) _)
              have hz2 : w2.heap.size = D + 1 := by rw [← hw2, ← hD]; simp
              rw [hD] at hel hz1
              have HEL : Hid (ElemsAt (fun b => wr.heap.size ≤ b ∧ b < D) w2 (.slice ea es.length ec) es) := Lib.hid (hel.cong (fun _ h => h) (fun b hb => HBB.out.block b hb.2))
              have HW2 := Lib.hid hw2
              have HDQ := Lib.hid hD
              have HZ2 := Lib.hid hz2
              have HBW2 := Lib.hid (HB.out.trans (HB2.out.mono hBs))
              obtain ⟨p0, p1, _, _⟩ := cells2 HP2.out
              have HO2 : Hid (OGT (fun b => B ≤ b) B w2 (.slice oa n oc) xs l) := Lib.hid (HO.out.below HB2.out)
              have HO3 : Hid (OGT (fun b => B ≤ b) B (w2.alloc (.cells #[.string st, .slice ea es.length ec] 36)) (.slice oa n oc) xs l) := Lib.hid (HO2.out.below ((Below.refl _ _).alloc (Nat.le_refl _) _))
              have HSG3 : Hid (SegsAt (fun k => (wr.heap.size ≤ k ∧ k < D) ∨ k = w2.heap.size) (w2.alloc (.cells #[.string st, .slice ea es.length ec] 36)) (.slice (some ⟨w2.heap.size, 0, none⟩) 1 1) [⟨t, es⟩]) := Lib.hid (segs_one hst HEL.out (fun k hk => by omega))
              clear hst hw2 hD hz2 hel ha
              go_upto_region 11 with fail
              rw [HW2.out, HDQ.out]
              go_wp2_with ((with_reducible refine wpList_at (.call { callee := .builtin .append, args := #[.tmp 43, .tmp 45], argTypes := #[23, 23] }) rfl ?_); go_loud (refine wp_app_ogx _ _ rfl rfl rfl rfl HO3.out HSG3.out (fun k hk => ⟨by have := HZ2.out; omega, by simp [HZ2.out]; have := HZ2.out; omega, fun e => by have h1 := own_lt HO.out.row e; have := HZ2.out; omega⟩) (by rw [HN.out]; simp; omega) (by simp; have := HBW2.out.size; rw [HBQ.out] at this; omega) ?_); intro v3 w3 xs3 ho3 hb3; have HO4 := Lib.hid ho3; have HB3 := Lib.hid ((HBW2.out.alloc (by have := HBW2.out.size; rw [HBQ.out] at this; exact this) _).trans hb3); clear ho3 hb3)
              go_roundw
              case rel => exact ⟨k', l ++ [⟨t, es⟩], xs3, by rw [← HL.out]; exact hk2, by rw [List.length_append, HN.out]; simp; omega, rfl, HAT, HO4, HB3⟩
              case measure => simp [intOf]; omega
            · have HPE := Lib.hid hpe
              have d0 : (en != 0) = true := by rw [bne_iff_ne]; exact hne
              clear hpe hne
              go_wp2_with fail
              go_ret3
              exact rparse_err HPE.out (by rw [HBQ.out]; exact (HB.out.trans (HB1.out.mono hBs)).alloc (by omega) _)
    · skip
      have hqe : q = s.size := by omega
      subst hqe
      have HE : Hid (parseE T = (l, 0, 0)) := Lib.hid ((show AtR T (.btw l) T.length by rw [HL.out]; exact HA.out).done HL6.out)
      go_wp2_with fail
      go_ret3
      refine ⟨_, by rw [HE.out]; rfl, ?_, by rw [HBQ.out]; exact HB.out⟩
      rw [HE.out, HBQ.out]
      exact HO.out.rest (fun k hk h2 => ⟨hk, h2⟩) (fun k hk => own_lt HO.out.row hk)
end Go.Proofs.YteaaiejfieaalaaGreatDoor
