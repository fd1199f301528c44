/-
  Texts ShaX, SealNilV, SealBackV, SealY, SealT, SealW, one behind the other. No condition beyond those stated in each.
-/
import Derived.Test.YtgfijlamhjjecaaGreatDoorMu18
import Derived.Test.YtgfijlamhjjecaaGreatDoorMu16
import Derived.Test.YtgfijlamhjjecaaGreatDoorMu17
import Derived.Test.YtgfijlamhjjecaaGreatDoorMu8
import Derived.Test.YtgfijlamhjjecaaGreatDoorMu12
import Derived.ChangeSame
import Derived.OpenShut
import Derived.SliceStrings
import Derived.Deep.Slices
namespace Go.Proofs.YtgfijlamhjjecaaGreatDoor
open Go.RowKit
def RNewQ (K : List (List Str)) (kv : Value) (w : World) (e : Ending) (w' : World) : Prop :=
 ((goodB K = true ∧ ∃ rb, e = .returned (.pointer (some ⟨rb, 0, none⟩)) ∧ w'.heap[rb]? = some (.cells #[kv] 141 (0, 0)) ∧ w.heap.size ≤ rb) ∨ (goodB K = false ∧ e = .returned (.pointer none))) ∧ Below w.heap.size w w'
theorem good_n {K : List (List Str)} (h : K.length < 2 ∨ 8 < K.length) : goodB K = false := by
 unfold goodB
 rcases h with h | h
 · rw [decide_eq_false (by omega)]; rfl
 · rw [decide_eq_false (show ¬ K.length ≤ 8 by omega), Bool.and_false]; rfl
theorem good_row {K : List (List Str)} {r : List Str} (hr : r ∈ K) (h : r.length ≠ K.length) : goodB K = false := by
 unfold goodB
 have : K.all (fun r => decide (r.length = K.length)) = false := by
  rw [List.all_eq_false]
  exact ⟨r, hr, by simpa using h⟩
 rw [this, Bool.and_false, Bool.false_and]
def AllO (w : World) (B : Nat) (v : Value) (l : List Str) : Prop := w.ownsRow B 9 1 v l.length (l.map sv)
theorem AllO.form {w : World} {B : Nat} {v : Value} {l : List Str} (h : AllO w B v l) : ∃ a c, v = .slice a l.length c := by
 obtain ⟨_, ⟨rfl, h2⟩ | ⟨g, cap, cur, rfl, _⟩⟩ := h
 · exact ⟨none, 0, by rw [h2]⟩
 · exact ⟨_, _, rfl⟩
theorem wp_app_s1 {ops : Array Oper} {rest : List Oper} {o : Oper} {a : Act} {Q : Exit → Act → World → Prop} (hgd : o.guard = none) (s x : Operand)
  (ho : o.op = .call { callee := .builtin .append, args := #[s, x], argTypes := #[58, 58] }) {w : World} {B : Nat} {v : Value} {y : Str} {l : List Str} (hs : a.eval s = v) (hx : a.eval x = .slice (some ⟨w.heap.size, 0, none⟩) 1 1) (hown : AllO w B v l) (hn : l.length + 1 ≤ 1000000) (hB : B ≤ w.heap.size)
  (h : ∀ v' w', AllO w' B v' (l ++ [y]) → w.grownBy w' v.ownBlock → wpList Tryz.prog ops Q rest (a.put o.dst v') w') : wpList Tryz.prog ops Q (o :: rest) a (w.alloc (.cells #[sv y] 9)) := by
 obtain ⟨i0, hi, hz0, hz1, hz2⟩ := info_parts einfo_str
 refine wpList_append_own_at _ hgd s x 58 ho B 9 i0 (.string ⟨#[]⟩) 1 16 Tryz.underlying58 hi hz0 hz1 hz2 rfl (by decide) v l.length (l.map sv) hs (World.ownsRow.alloc hown _) ⟨w.heap.size, 0, none⟩ 1 1 [sv y] hx rfl (cell_one_new _ _ _) (by simp [Value.oneCell', sv]) (by unfold maxLen; omega) (by omega) (by simp; omega) ?_
 intro v' w' h1 h2 _ _
 refine h v' w' ?_ (grown_alloc h2)
 unfold AllO
 rw [List.length_append, List.map_append]
 exact h1
theorem rowKs_len (row : List Str) (i m : Nat) : (rowKs row i m).length ≤ m := by
 unfold rowKs
 rw [List.length_map]
 exact Nat.le_trans (List.length_filter_le _ _) (by rw [List.length_range]; exact Nat.le_refl _)
theorem allKs_len (K : List (List Str)) : ∀ n, (allKs K n).length ≤ n * K.length
 | 0 => by simp [allKs]
 | n + 1 => by
   rw [allKs_more, List.length_append, Nat.succ_mul]
   have h1 := allKs_len K n
   have h2 := rowKs_len (K.getD n []) n K.length
   omega
theorem seen_len (K : List (List Str)) {i k : Nat} (h8 : K.length ≤ 8) (hi : i ≤ 8) (hk : k ≤ 8) : (seenKs K i k).length ≤ 1000 := by
 unfold seenKs
 rw [List.length_append]
 have h1 := allKs_len K i
 have h2 := rowKs_len (K.getD i []) i k
 have h3 : i * K.length ≤ 8 * 8 := Nat.mul_le_mul hi h8
 omega
theorem good_bad {K : List (List Str)} {i k : Nat} (hi : i < K.length) (hk : k < K.length) (hik : k ≠ i) (h : (decide (1 ≤ (keyAt K i k).length) && decide ((keyAt K i k).length ≤ 64) && decide (keyAt K i k ∉ seenKs K i k)) = false) : goodB K = false := by
 cases hg : goodB K with
 | false => rfl
 | true =>
   have h1 := good_seen hg hi (show k + 1 ≤ K.length by omega)
   rw [seen_more K hik, goodL_snoc, h, Bool.and_false] at h1
   cases h1
set_option maxRecDepth 100000 in
set_option maxHeartbeats 16000000 in
theorem r11New_any {S : Nat → Prop} (K : List (List Str)) (kv : Value) (w : World) (hK : BsssAt S w kv K) (hS : ∀ k, S k → k < w.heap.size) :
  Calls Tryz.prog 30 #[kv] w fun e w' => RNewQ K kv w e w' := by
 obtain ⟨B, hB⟩ : ∃ B, w.heap.size = B := ⟨_, rfl⟩
 have HBQ := Lib.hid hB
 obtain ⟨ka, kc, rfl, k1, k2⟩ := hK.form
 obtain ⟨n, hn⟩ : ∃ n, K.length = n := ⟨_, rfl⟩
 have HN := Lib.hid hn
 rw [hn] at k1 hK ⊢
 unfold maxLen at k2
 have HKS : Hid (∀ u, Below B w u → BsssAt (fun k => k < B) u (.slice ka n kc) K) := Lib.hid (fun u hu => hK.cong (fun k h => by rw [← hB]; exact hS k h) (fun k h => hu.block k (by rw [← hB]; exact hS k h)))
 clear hB hn hK hS
 by_cases hb : n < 2 ∨ 8 < n
 · have HG : Hid (goodB K = false) := Lib.hid (good_n (by rw [HN.out]; exact hb))
   by_cases h2 : n < 2
   · have i1 : decide ((n : Int) < 2) = true := decide_eq_true (by omega)
     clear hb
     go_enter Tryz.func30, Tryz.ntmps30
     go_wp2_with fail
     go_ret
     exact ⟨.inr ⟨HG.out, rfl⟩, Below.refl _ _⟩
   · have i1 : decide ((n : Int) < 2) = false := decide_eq_false (by omega)
     have i2 : decide ((8 : Int) < (n : Int)) = true := decide_eq_true (by omega)
     clear hb
     go_enter Tryz.func30, Tryz.ntmps30
     go_wp2_with fail
     go_ret
     exact ⟨.inr ⟨HG.out, rfl⟩, Below.refl _ _⟩
 · have i1 : decide ((n : Int) < 2) = false := decide_eq_false (by omega)
   have i2 : decide ((8 : Int) < (n : Int)) = false := decide_eq_false (by omega)
   have hn8 : 2 ≤ n ∧ n ≤ 8 := by omega
   clear hb
   go_enter Tryz.func30, Tryz.ntmps30
   go_upto_region 4 with fail
   clear i1 i2
   go_upto_block 0 with fail
   go_cut [] from 5 to 29 (fun wr => Hid (wr = w) ∧ Hid (∀ r ∈ K, r.length = n))
   case first => as_aux_lemma =>
    go_wp2_with fail
    go_loopw [5] (fun iv wr => ∃ i : Nat, i ≤ n ∧ iv = .int .i64 (i : Int) ∧ Hid (wr = w) ∧ Hid (∀ j r, j < i → K[j]? = some r → r.length = n)) (fun iv _ => n - (intOf iv).toNat)
    case atStart => exact ⟨0, Nat.zero_le _, rfl, Lib.hid rfl, Lib.hid (fun j r h => by omega)⟩
    case round =>
     obtain ⟨i, hi, rfl, hww, HRW⟩ := hrel
     rw [hww.out]
     clear hww
     by_cases hlt : i < n
     · have b0 : (0 : Int) ≤ (i : Int) := by omega
       have b1 : (i : Int) < (n : Int) := by omega
       obtain ⟨r, hr⟩ : ∃ r, K[i]? = some r := ⟨_, List.getElem?_eq_getElem (by rw [HN.out]; exact hlt)⟩
       obtain ⟨b1', o1, x1, hka, hb1, c1, hB1⟩ := (HKS.out w (Below.refl _ _)).get hr
       obtain rfl : ka = some ⟨b1', o1, none⟩ := hka
       obtain ⟨xa, xc, rfl, _, _⟩ := hB1.form
       obtain ⟨m, hm⟩ : ∃ m, r.length = m := ⟨_, rfl⟩
       rw [hm] at c1
       by_cases hmn : m = n
       · have j1 : ((m : Int) != (n : Int)) = false := by rw [bne_eq_false_iff_eq]; omega
         have HR2 : Hid (∀ j r, j < i + 1 → K[j]? = some r → r.length = n) := Lib.hid (fun j r' hj h => by
          by_cases e : j = i
          · subst e; rw [hr] at h; cases h; omega
          · exact HRW.out j r' (by omega) h)
         clear hr hB1 hm hmn
         go_wp2_with fail
         go_roundw
         case rel => exact ⟨i + 1, by omega, by go_num, (by first | exact Lib.hid rfl | exact Lib.hid trivial), HR2⟩
         case measure => simp [intOf]; omega
       · have j1 : ((m : Int) != (n : Int)) = true := by rw [bne_iff_ne]; omega
         have HG : Hid (goodB K = false) := Lib.hid (good_row (List.mem_of_getElem? hr) (by rw [hm, HN.out]; exact hmn))
         clear hr hB1 hm hmn
         go_wp2_with fail
         go_ret
         exact ⟨.inr ⟨HG.out, rfl⟩, Below.refl _ _⟩
     · obtain rfl : i = n := by omega
       have b1 : ¬ (i : Int) < (i : Int) := by omega
       have HR3 : Hid (∀ r ∈ K, r.length = i) := Lib.hid (fun r hr => by
        obtain ⟨j, hj⟩ := List.getElem?_of_mem hr
        exact HRW.out j r (by have h1 := (List.getElem?_eq_some_iff.1 hj).1; rw [HN.out] at h1; exact h1) hj)
       go_wp2_with fail
       go_meet
       case rel => exact ⟨(by first | exact Lib.hid rfl | exact Lib.hid trivial), HR3⟩
   case rest =>
    obtain ⟨hww, HRL⟩ := hcut
    rw [hww.out]
    clear hww
    go_wp2_with fail
    go_loopw [4, 6] (fun av iv wr => ∃ i : Nat, i ≤ n ∧ iv = .int .i64 (i : Int) ∧ Hid (AllO wr B av (seenKs K i 0)) ∧ Hid (goodL (seenKs K i 0) = true) ∧ Hid (Below B w wr)) (fun _ iv _ => n - (intOf iv).toNat)
    case atStart => exact ⟨0, Nat.zero_le _, rfl, Lib.hid (World.ownsRow_nil _ _ _ _), Lib.hid rfl, Lib.hid (Below.refl _ _)⟩
    case round =>
     obtain ⟨i, hi, rfl, HA, HGO, HBR⟩ := hrel
     obtain ⟨w2, hw2⟩ : ∃ u, u = wr := ⟨_, rfl⟩
     rw [← hw2] at HA HBR ⊢
     clear hw2 wr
     obtain ⟨aa, ac, rfl⟩ := HA.out.form
     obtain ⟨al, hal⟩ : ∃ m, (seenKs K i 0).length = m := ⟨_, rfl⟩
     rw [hal] at HA ⊢
     have HAL := Lib.hid hal
     clear hal
     by_cases hlt : i < n
     · have b0 : (0 : Int) ≤ (i : Int) := by omega
       have b1 : (i : Int) < (n : Int) := by omega
       go_wp2_with fail
       go_loopw [4, 7] (fun av kv wr => ∃ k : Nat, k ≤ n ∧ kv = .int .i64 (k : Int) ∧ Hid (AllO wr B av (seenKs K i k)) ∧ Hid (goodL (seenKs K i k) = true) ∧ Hid (Below B w wr)) (fun _ kv _ => n - (intOf kv).toNat)
       case atStart => exact ⟨0, Nat.zero_le _, rfl, HA, HGO, HBR⟩
       case round =>
        obtain ⟨k, hk, rfl, HA2, HGO2, HBR2⟩ := hrel
        obtain ⟨w3, hw3⟩ : ∃ u, u = wr := ⟨_, rfl⟩
        rw [← hw3] at HA2 HBR2 ⊢
        clear hw3 wr
        obtain ⟨ba, bc, rfl⟩ := HA2.out.form
        obtain ⟨bl, hbl⟩ : ∃ m, (seenKs K i k).length = m := ⟨_, rfl⟩
        rw [hbl] at HA2 ⊢
        have HBL := Lib.hid hbl
        clear hbl
        by_cases hkn : k < n
        · have b2 : (k : Int) < (n : Int) := by omega
          have b3 : (0 : Int) ≤ (k : Int) := by omega
          by_cases hik : k = i
          · subst hik
            have j0 : ((k : Int) == (k : Int)) = true := by simp
            go_wp2_with fail
            go_roundw
            case rel => exact ⟨k + 1, by omega, by go_num, Lib.hid (by rw [seen_skip]; exact HA2.out), Lib.hid (by rw [seen_skip]; exact HGO2.out), HBR2⟩
            case measure => simp [intOf]; omega
          · have j0 : ((i : Int) == (k : Int)) = false := by rw [beq_eq_false_iff_ne]; omega
            obtain ⟨r, hr⟩ : ∃ r, K[i]? = some r := ⟨_, List.getElem?_eq_getElem (by rw [HN.out]; exact hlt)⟩
            have hrl := HRL.out r (List.mem_of_getElem? hr)
            have hky := keyAt_get (t := k) hr (by rw [hrl]; exact hkn)
            have HBAD := Lib.hid (fun h => good_bad (K := K) (i := i) (k := k) (by rw [HN.out]; exact hlt) (by rw [HN.out]; exact hkn) hik h)
            have HMORE := Lib.hid (seen_more K (i := i) (k := k) hik)
            obtain ⟨b1', o1, x1, hka, hb1, c1, hB1⟩ := (HKS.out w3 HBR2.out).get hr
            obtain rfl : ka = some ⟨b1', o1, none⟩ := hka
            obtain ⟨xa, xc, rfl, _, _⟩ := hB1.form
            rw [hrl] at c1 hB1
            obtain ⟨b2', o2, x2, hxa, hb2, c2, hB2⟩ := hB1.get hky
            obtain rfl : xa = some ⟨b2', o2, none⟩ := hxa
            have hcv := conv_row hB2
            obtain ⟨s, hs⟩ : ∃ s, keyAt K i k = s := ⟨_, rfl⟩
            rw [hs] at hcv HBAD HMORE
            obtain ⟨sb, hsb⟩ : ∃ z : ByteArray, (⟨s.toArray⟩ : ByteArray) = z := ⟨_, rfl⟩
            obtain ⟨m, hm⟩ : ∃ m, s.length = m := ⟨_, rfl⟩
            have hsz : sb.size = m := by rw [← hsb, ← hm]; simp [ByteArray.size]
            rw [hsb] at hcv
            have HSB := Lib.hid hsb
            have HM := Lib.hid hm
            have HSZ := Lib.hid hsz
            have hsz2 : (sb.size : Int) = (m : Int) := by rw [hsz]
            clear hr hrl hky hB1 hB2 hs hsb hm hik hsz
            by_cases hbad : m < 1 ∨ 64 < m
            · have HG : Hid (goodB K = false) := Lib.hid (HBAD.out (by rw [HM.out]; rcases hbad with h | h; rw [decide_eq_false (by omega)]; rfl; rw [decide_eq_false (show ¬ m ≤ 64 by omega), Bool.and_false]; rfl))
              have HBW : Hid (Below B w w3) := HBR2
              by_cases h1 : m < 1
              · have q1 : decide ((m : Int) < 1) = true := decide_eq_true (by omega)
                clear hbad
                go_wp2_with fail
                go_ret
                exact ⟨.inr ⟨HG.out, rfl⟩, by rw [HBQ.out]; exact HBW.out⟩
              · have q1 : decide ((m : Int) < 1) = false := decide_eq_false (by omega)
                have q2 : decide ((64 : Int) < (m : Int)) = true := decide_eq_true (by omega)
                clear hbad
                go_wp2_with fail
                go_ret
                exact ⟨.inr ⟨HG.out, rfl⟩, by rw [HBQ.out]; exact HBW.out⟩
            · have q1 : decide ((m : Int) < 1) = false := decide_eq_false (by omega)
              have q2 : decide ((64 : Int) < (m : Int)) = false := decide_eq_false (by omega)
              clear hbad
              have hm64 : 1 ≤ m ∧ m ≤ 64 := by
               have h1 := of_decide_eq_false q1
               have h2 := of_decide_eq_false q2
               omega
              go_upto_block 6 with fail
              clear q1 q2 hcv hsz2 c1 c2
              go_wp2_with fail
              go_loopw [9] (fun jv wr => ∃ j : Nat, j ≤ bl ∧ jv = .int .i64 (j : Int) ∧ Hid (wr = w3) ∧ Hid (∀ j' x, j' < j → (seenKs K i k)[j']? = some x → x ≠ s)) (fun jv _ => bl - (intOf jv).toNat)
              case atStart => exact ⟨0, Nat.zero_le _, rfl, Lib.hid rfl, Lib.hid (fun j' x h => by omega)⟩
              case round =>
               obtain ⟨j, hj, rfl, hww, HNE⟩ := hrel
               rw [hww.out]
               clear hww
               by_cases hjl : j < bl
               · have d0 : (0 : Int) ≤ (j : Int) := by omega
                 have d1 : (j : Int) < (bl : Int) := by omega
                 obtain ⟨x, hx⟩ : ∃ x, (seenKs K i k)[j]? = some x := ⟨_, List.getElem?_eq_getElem (by rw [HBL.out]; exact hjl)⟩
                 have hA := HA2.out
                 unfold AllO at hA
                 rw [HBL.out] at hA
                 obtain ⟨g, cap, cur, hsl, _, _, hcap1, hcap2, _, _⟩ := own_form hA (by omega) (by decide)
                 unfold maxLen at hcap2
                 have gj : IntKind.i64.wrap ((j : Int) + 1) = (j : Int) + 1 := IntWalk.i64_in _ (by omega)
                 clear hcap1 hcap2
                 obtain ⟨rfl, rfl⟩ : ba = some ⟨g, 0, none⟩ ∧ bc = cap := by injection hsl with h1 h2 h3; exact ⟨h1, h3⟩
                 have hc := own_cell hA (j := j) (x := sv x) (by rw [List.getElem?_map, hx]; rfl)
                 obtain ⟨xb, hxb⟩ : ∃ z : ByteArray, (⟨x.toArray⟩ : ByteArray) = z := ⟨_, rfl⟩
                 rw [show sv x = .string xb from by unfold sv; rw [hxb]] at hc
                 have heq : (xb.toList == sb.toList) = decide (x = s) := by
                  rw [← hxb, ← HSB.out, ByteArray.toList_eq, ByteArray.toList_eq]
                  show (x == s) = _
                  rw [Bool.eq_iff_iff]; simp
                 by_cases hxs : x = s
                 · rw [decide_eq_true hxs] at heq
                   have HG : Hid (goodB K = false) := Lib.hid (HBAD.out (by rw [decide_eq_false (show ¬ s ∉ seenKs K i k from fun h => h (by rw [← hxs]; exact List.mem_of_getElem? hx)), Bool.and_false]))
                   clear hA hsl hx hxb
                   go_wp2_with fail
                   go_ret
                   exact ⟨.inr ⟨HG.out, rfl⟩, by rw [HBQ.out]; exact HBR2.out⟩
                 · rw [decide_eq_false hxs] at heq
                   have HNE2 : Hid (∀ j' y, j' < j + 1 → (seenKs K i k)[j']? = some y → y ≠ s) := Lib.hid (fun j' y h hy => by
                    by_cases e : j' = j
                    · subst e; rw [hx] at hy; cases hy; exact hxs
                    · exact HNE.out j' y (by omega) hy)
                   clear hA hsl hx hxb
                   go_wp2_with fail
                   go_roundw
                   case rel => exact ⟨j + 1, by omega, by go_num, (by first | exact Lib.hid rfl | exact Lib.hid trivial), HNE2⟩
                   case measure => simp [intOf]; omega
               · obtain rfl : j = bl := by omega
                 have d1 : ¬ (j : Int) < (j : Int) := by omega
                 have HNI : Hid (s ∉ seenKs K i k) := Lib.hid (fun h => by
                  obtain ⟨j', hj'⟩ := List.getElem?_of_mem h
                  exact HNE.out j' s (by have h1 := (List.getElem?_eq_some_iff.1 hj').1; rw [HBL.out] at h1; exact h1) hj' rfl)
                 have HG3 : Hid (goodL (seenKs K i (k + 1)) = true) := Lib.hid (by
                  rw [HMORE.out, goodL_snoc, HGO2.out, decide_eq_true HNI.out, HM.out, decide_eq_true hm64.1, decide_eq_true hm64.2]; rfl)
                 have hsl := seen_len K (i := i) (k := k) (by rw [HN.out]; omega) (by omega) (by omega)
                 have hz3 : B ≤ w3.heap.size := by have := HBR2.out.size; rw [HBQ.out] at this; exact this
                 have hsb2 := HSB.out
                 subst hsb2
                 go_wp2_with ((with_reducible refine wpList_at (.call { callee := .builtin .append, args := #[.tmp 71, .tmp 73], argTypes := #[58, 58] }) rfl ?_); go_loud (refine wp_app_s1 (w := w3) (y := s) (l := seenKs K i k) rfl _ _ rfl rfl rfl HA2.out (by omega) hz3 ?_); intro v6 w6 hO6 hg6; have HO6 := Lib.hid hO6; have HB6 : Hid (Below B w w6) := Lib.hid (HBR2.out.grown hg6 hz3 (fun b hb => (own_lt HA2.out hb).1)); clear hO6 hg6)
                 go_roundw
                 case rel => exact ⟨k + 1, by omega, by go_num, Lib.hid (by rw [HMORE.out]; exact HO6.out), HG3, HB6⟩
                 case measure => simp [intOf]; omega
        · obtain rfl : k = n := by omega
          have b2 : ¬ (k : Int) < (k : Int) := by omega
          have hsr := seen_row K i
          rw [HN.out] at hsr
          go_wp2_with fail
          go_roundw
          case rel => exact ⟨i + 1, by omega, by go_num, Lib.hid (by rw [hsr]; exact HA2.out), Lib.hid (by rw [hsr]; exact HGO2.out), HBR2⟩
          case measure => simp [intOf]; omega
     · obtain rfl : i = n := by omega
       have b1 : ¬ (i : Int) < (i : Int) := by omega
       have HGD : Hid (goodB K = true) := Lib.hid (good_all (by rw [HN.out]; omega) (by rw [HN.out]; omega) (fun j hj => by
        have h1 := List.getElem?_eq_getElem hj
        rw [List.getD_eq_getElem?_getD, h1, HN.out]
        exact HRL.out _ (List.getElem_mem hj)) (by rw [HN.out]; exact HGO.out))
       go_wp2_with fail
       go_ret
       refine ⟨.inl ⟨HGD.out, w2.heap.size, rfl, heap_alloc_new _ _, ?_⟩, ?_⟩
       · have := HBR.out.size; exact this
       · rw [HBQ.out]; exact HBR.out.alloc (by have := HBR.out.size; rw [HBQ.out] at this; exact this) _
theorem OwnS.setCell {w : World} {B B' : Nat} {y v : Value} {s : Str} {n : Nat} {zs : List Value} {e : TypeId} {g c j : Nat} (h : OwnS w B y s) (hv : w.ownsRow B' e 1 v n zs) (he : 5 ≠ e) (hg : v = .slice (some ⟨g, 0, none⟩) n c) (x : Value) : OwnS (w.setCell ⟨g, j, none⟩ x) B y s := by
 subst hg
 refine own_cong h (fun k hk => heap_setCell_other _ _ _ _ ?_)
 intro e2
 exact own_ne h hv he hk (by rw [e2]; rfl)
theorem RowsO.setCell {w : World} {B g j : Nat} {v : Value} {l : List Str} (h : RowsO w B v l) (hv : v.ownBlock ≠ some g) {B' n c : Nat} {zs : List Value} (hg : w.ownsRow B' 72 1 (.slice (some ⟨g, 0, none⟩) n c) n zs) (x : Value) : RowsO (w.setCell ⟨g, j, none⟩ x) B v l := by
 obtain ⟨ys, h1, h2, h3⟩ := h.ex
 refine ⟨ys, own_cong h1 (fun k hk => heap_setCell_other _ _ _ _ (fun e => hv (by rw [hk, e]))), h2, fun j s y hs hy => (h3 j s y hs hy).setCell hg (by decide) rfl x⟩
theorem KeysO.set {w : World} {B : Nat} {v y : Value} {L : List (List Str)} {i j : Nat} {r : List Str} {s : Str} {xs : List Value} {g c : Nat} (h1 : w.ownsRow B 73 1 v L.length xs) (h2 : xs.length = L.length)
  (hd : ∀ (i j : Nat) (x y : Value) (b : Nat), i ≠ j → xs[i]? = some x → xs[j]? = some y → x.ownBlock = some b → y.ownBlock ≠ some b) (h3 : ∀ (i : Nat) (r : List Str) (x : Value), L[i]? = some r → xs[i]? = some x → RowsO w B x r)
  (hi : L[i]? = some r) (hx : xs[i]? = some (.slice (some ⟨g, 0, none⟩) r.length c)) (hj : j < r.length) (hy : OwnS w B y s) : KeysO (w.setCell ⟨g, j, none⟩ y) B v (L.set i (r.set j s)) := by
 have hil : i < L.length := (List.getElem?_eq_some_iff.1 hi).1
 obtain ⟨ys, y1, y2, y3⟩ := (h3 i r _ hi hx).ex
 refine ⟨xs, ?_, by rw [List.length_set]; exact h2, hd, fun i' r' x' hr hx' => ?_⟩
 · rw [List.length_set]
   refine own_cong h1 (fun k hk => heap_setCell_other _ _ _ _ (fun e => ?_))
   exact own_ne y1 h1 (by decide) (k := g) rfl (by have e' : k = g := e; rw [← e']; exact hk)
 · by_cases e : i' = i
   · subst e
     rw [List.getElem?_set_self hil] at hr
     cases hr
     rw [hx] at hx'
     cases hx'
     refine ⟨ys.set j y, by rw [List.length_set]; exact own_set y1 (by rw [y2]; exact hj) y, by simp [y2], fun j' s' y' hs' hy' => ?_⟩
     by_cases e : j' = j
     · subst e
       rw [List.getElem?_set_self hj] at hs'
       rw [List.getElem?_set_self (by rw [y2]; exact hj)] at hy'
       cases hs'; cases hy'
       exact hy.setCell y1 (by decide) rfl y
     · rw [List.getElem?_set_ne (fun h => e h.symm)] at hs' hy'
       exact (y3 j' s' y' hs' hy').setCell y1 (by decide) rfl y
   · rw [List.getElem?_set_ne (fun h => e h.symm)] at hr
     exact (h3 i' r' x' hr hx').setCell (fun h => hd i i' _ _ g (fun h => e h.symm) hx hx' rfl h) y1 y
theorem keyAt_le100 {L : List (List Str)} (h : ∀ r ∈ L, ∀ s ∈ r, s.length ≤ 100) (i k : Nat) : (keyAt L i k).length ≤ 100 := by
 unfold keyAt
 rw [List.getD_eq_getElem?_getD, List.getD_eq_getElem?_getD]
 cases hr : L[i]? with
 | none => simp
 | some r =>
   rw [Option.getD_some]
   cases hs : r[k]? with
   | none => simp
   | some s => exact h r (List.mem_of_getElem? hr) s (List.mem_of_getElem? hs)
theorem dig_put {B D : Nat} {w u u' : World} {cs : List Value} (hcl : cs.length = 32) (hd : u.heap[D]? = some (.cells (pad32 []).toArray 78 (0, 0))) (hb : Below B w u) (hBD : B ≤ D) (h : u.setCells D 0 cs = u') : u'.heap[D]? = some (.cells cs.toArray 78 (0, 0)) ∧ Below B w u' :=
 ⟨by rw [← h]; exact putL_heap (cs := pad32 []) hd cs (by rw [hcl]; rfl), by rw [← h]; exact putL_below hBD _ _ _ hb⟩
end Go.Proofs.YtgfijlamhjjecaaGreatDoor
namespace Go.Proofs.YtgfijlamhjjecaaGreatDoor
open Go.RowKit Go.ChangeShapes Go.WideShapes Go.Deep
section
variable {H : Type} {enc : TypeId × Value → H} {w : World} {base : Nat} {spare : Nat → Bool} {held : Bool}
theorem bss_of_trod {fuel : Nat} {v : Value} {x : DataW H × List MemPlace} (h : DataW.trod enc Tryz.prog w base spare held fuel 73 [v] = some x) : ∃ es, BssAt (Low w) w v es := by
 rcases open_slice1 Tryz.underlying73 (show Tryz.prog.cellsOf 72 = 1 by kernel_rfl) h with ⟨hcs, _⟩ | ⟨a, len, cap, m, q, V, D, Pl, hcs, _, hl, hm, hmm, _, hel⟩
 · simp at hcs; subst hcs; exact ⟨[], ⟨[], RowAt.nil _ _, rfl, fun i e x h => by simp at h⟩⟩
 · simp at hcs; subst hcs
   have hlm : len ≤ m := by rw [hmm]; split <;> omega
   obtain ⟨R, hR⟩ := choose_lt (p := fun i (e : Str) => RowAt (Low w) w (V i) (e.map bv)) (n := len) (fun i hi => str_of_trod (hel i (by omega)).2)
   refine ⟨(List.range len).map R, (List.range len).map V, ⟨some a, cap, by simp, by simpa using hl, hm, (fun h => by cases h), fun hne => ?_⟩, by simp, fun i e y he hy => ?_⟩
   · have h0 : 0 < len := by
      rcases Nat.eq_zero_or_pos len with e0 | e0
      · subst e0; exact absurd rfl hne
      · exact e0
     have c0 := (hel 0 (by omega)).1
     have ha : a = ⟨a.block, a.off, none⟩ := by
      simp only [Addr.add, if_true] at c0
      exact spot_cell' c0
     refine ⟨a.block, a.off, congrArg some ha, cell_lt' (cell_add' c0), fun i y hy => ?_⟩
     have hi : i < len := by have := (List.getElem?_eq_some_iff.1 hy).1; simpa using this
     rw [List.getElem?_map, List.getElem?_range hi] at hy
     cases hy
     exact cell_add' (hel i (by omega)).1
   · have hi : i < len := by have := (List.getElem?_eq_some_iff.1 hy).1; simpa using this
     rw [List.getElem?_map, List.getElem?_range hi] at hy he
     cases hy; cases he
     exact hR i hi
instance : Inhabited Seg := ⟨⟨[], []⟩⟩
theorem bsss_of_trod {fuel : Nat} {v : Value} {x : DataW H × List MemPlace} (h : DataW.trod enc Tryz.prog w base spare held fuel 63 [v] = some x) : ∃ es, BsssAt (Low w) w v es := by
 rcases open_slice1 Tryz.underlying63 (show Tryz.prog.cellsOf 73 = 1 by kernel_rfl) h with ⟨hcs, _⟩ | ⟨a, len, cap, m, q, V, D, Pl, hcs, _, hl, hm, hmm, _, hel⟩
 · simp at hcs; subst hcs; exact ⟨[], ⟨[], RowAt.nil _ _, rfl, fun i e x h => by simp at h⟩⟩
 · simp at hcs; subst hcs
   have hlm : len ≤ m := by rw [hmm]; split <;> omega
   obtain ⟨R, hR⟩ := choose_lt (p := fun i (e : List Str) => BssAt (Low w) w (V i) e) (n := len) (fun i hi => bss_of_trod (hel i (by omega)).2)
   refine ⟨(List.range len).map R, (List.range len).map V, ⟨some a, cap, by simp, by simpa using hl, hm, (fun h => by cases h), fun hne => ?_⟩, by simp, fun i e y he hy => ?_⟩
   · have h0 : 0 < len := by
      rcases Nat.eq_zero_or_pos len with e0 | e0
      · subst e0; exact absurd rfl hne
      · exact e0
     have c0 := (hel 0 (by omega)).1
     have ha : a = ⟨a.block, a.off, none⟩ := by
      simp only [Addr.add, if_true] at c0
      exact spot_cell' c0
     refine ⟨a.block, a.off, congrArg some ha, cell_lt' (cell_add' c0), fun i y hy => ?_⟩
     have hi : i < len := by have := (List.getElem?_eq_some_iff.1 hy).1; simpa using this
     rw [List.getElem?_map, List.getElem?_range hi] at hy
     cases hy
     exact cell_add' (hel i (by omega)).1
   · have hi : i < len := by have := (List.getElem?_eq_some_iff.1 hy).1; simpa using this
     rw [List.getElem?_map, List.getElem?_range hi] at hy he
     cases hy; cases he
     exact hR i hi
instance : Inhabited Seg := ⟨⟨[], []⟩⟩
end
end Go.Proofs.YtgfijlamhjjecaaGreatDoor
