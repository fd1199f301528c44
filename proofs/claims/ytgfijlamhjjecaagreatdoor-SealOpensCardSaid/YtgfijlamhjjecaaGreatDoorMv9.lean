/-
  Texts EdiZ2, EdiA7, EdiA9, WrapA, WrapS, MsgX2, MsgX7, one behind the other. No condition beyond those stated in each.
-/
import Derived.Test.YtgfijlamhjjecaaGreatDoorMv4
import Derived.Test.YtgfijlamhjjecaaGreatDoorMv8
import Derived.Test.YtgfijlamhjjecaaGreatDoorMv7
import Derived.Test.YtgfijlamhjjecaaGreatDoorMv1
namespace Go.Proofs.YtgfijlamhjjecaaGreatDoor
open Go.RowKit
theorem own_slice {w : World} {B : Nat} {e : TypeId} {s n : Nat} {v : Value} {xs : List Value} (h : w.ownsRow B e s v n xs) : ∃ a c, v = .slice a n c := by
 obtain ⟨_, ⟨h1, h2⟩ | ⟨g, cap, _, h1, _⟩⟩ := h
 · exact ⟨none, 0, by rw [h1, h2]⟩
 · exact ⟨_, cap, h1⟩
theorem len_flat {α : Type} {f : α → Str} {l : List α} {x : α} (h : x ∈ l) : (f x).length ≤ (l.flatMap f).length := by
 induction l with
 | nil => simp at h
 | cons a l ih =>
   rw [List.flatMap_cons, List.length_append]
   rcases List.mem_cons.1 h with rfl | h
   · omega
   · have := ih h; omega
theorem len_flat1 {α : Type} {f : α → Str} {l : List α} (h : ∀ x, 1 ≤ (f x).length) : l.length ≤ (l.flatMap f).length := by
 induction l with
 | nil => simp
 | cons a l ih => rw [List.flatMap_cons, List.length_append, List.length_cons]; have := h a; omega
theorem segT_len (s : Seg) : (segT s).length = s.tag.length + (s.elems.flatMap fun e => 43 :: elemT e).length + 1 := by unfold segT; rw [List.length_append, List.length_append]; rfl
theorem elemT_le {e : List Str} {p : Str} (h : p ∈ e) : p.length ≤ (elemT e).length := by
 have hp := compT_len p
 cases e with
 | nil => simp at h
 | cons a l =>
   rw [elemT_cons, List.length_append]
   rcases List.mem_cons.1 h with rfl | h
   · omega
   · have := len_flat (f := fun p => 58 :: compT p) h
     simp only [List.length_cons] at this
     unfold restT; omega
theorem elemT_cnt (e : List Str) : e.length ≤ (elemT e).length + 1 := by
 cases e with
 | nil => simp
 | cons a l =>
   rw [elemT_cons, List.length_append]
   have := len_flat1 (f := fun p => 58 :: compT p) (l := l) (fun x => by simp)
   unfold restT; rw [List.length_cons]; omega
theorem cat_size (J : Str) : ((⟨J.toArray⟩ : ByteArray) ++ ⟨#[39]⟩).size = J.length + 1 := by simp [ByteArray.size_append]; rfl
theorem cat_list (J : Str) : ((⟨J.toArray⟩ : ByteArray) ++ ⟨#[39]⟩).data.toList = J ++ [39] := by simp [ByteArray.data_append]
structure Bds (N : Nat) (l : List Seg) : Prop where
 n : l.length ≤ N
 seg : ∀ s ∈ l, s.tag.length ≤ N ∧ s.elems.length + 1 ≤ N ∧ (segT s).length ≤ N
 el : ∀ s ∈ l, ∀ e ∈ s.elems, e.length ≤ N ∧ (elemT e).length ≤ N
 co : ∀ s ∈ l, ∀ e ∈ s.elems, ∀ p ∈ e, p.length ≤ N
theorem bds_of {N : Nat} {l : List Seg} (h : (printT l).length ≤ N) : Bds N l := by
 have hs : ∀ s ∈ l, (segT s).length ≤ N := fun s hs => Nat.le_trans (len_flat hs) h
 have he : ∀ s ∈ l, ∀ e ∈ s.elems, (elemT e).length + 2 ≤ N := fun s hs' e he => by
  have h1 := hs s hs'
  have h2 := len_flat (f := fun e => 43 :: elemT e) he
  rw [segT_len] at h1
  simp only [List.length_cons] at h2; omega
 refine ⟨Nat.le_trans (len_flat1 (fun s => by rw [segT_len]; omega)) h, fun s hs' => ?_, fun s hs' e he' => ?_, fun s hs' e he' p hp => ?_⟩
 · have h1 := hs s hs'
   have h2 := len_flat1 (f := fun e => 43 :: elemT e) (l := s.elems) (fun x => by simp)
   rw [segT_len] at h1
   exact ⟨by omega, by omega, by rw [segT_len]; omega⟩
 · have := he s hs' e he'
   have := elemT_cnt e
   omega
 · have := he s hs' e he'
   have := elemT_le hp
   omega
set_option maxRecDepth 100000 in
set_option maxHeartbeats 8000000 in
theorem print_any (w : World) (v : Value) (l : List Seg) (h : SegsAt (fun k => k < w.heap.size) w v l) (hP : (printT l).length ≤ 1048576) :
  Calls Tryz.prog 97 #[v] w fun e w' => e = .returned (.tuple #[sv (printE l).1, .int .i64 (printE l).2]) ∧ Below w.heap.size w w' := by
 have hb := bds_of hP
 have HPL := Lib.hid hP
 have HSG := Lib.hid h
 obtain ⟨ao, cap, xs, rfl, h1, h2, h3, h4, h5, h6⟩ := h
 have HXL := Lib.hid h4
 have HEL := Lib.hid h5
 have HCE := Lib.hid h6
 have hn := hb.n
 have HBD := Lib.hid hb
 obtain ⟨R, hR⟩ : ∃ R, printE l = R := ⟨_, rfl⟩
 have HR := Lib.hid hR
 rw [hR]
 obtain ⟨n, hln⟩ : ∃ n, l.length = n := ⟨_, rfl⟩
 have HLN := Lib.hid hln
 rw [hln] at h1 hn ⊢
 clear h4 h5 h6 hb hR hP h3 hln
 unfold maxLen at h2
 go_enter Tryz.func97, Tryz.ntmps97
 go_wp2_with fail
 obtain ⟨B, hB⟩ : ∃ B, w.heap.size = B := ⟨_, rfl⟩
 obtain ⟨w1, hw1⟩ : ∃ w1, w.alloc (.cells #[.pointer none, .slice none 0 0] 203) = w1 := ⟨_, rfl⟩
 have HBL := Lib.hid (show BldAt w1 B B [] by rw [← hw1, ← hB]; exact Lib.fresh_isBuilder 203 5 w)
 have HBE := Lib.hid (show Below B w w1 by rw [← hw1, ← hB]; exact (Below.refl _ w).alloc (Nat.le_refl _) _)
 have HBQ := Lib.hid hB
 obtain ⟨LG, hLG⟩ : ∃ b, decide ((64 : Int) < (n : Int)) = b := ⟨_, rfl⟩
 have HLG := Lib.hid (show decide (64 < n) = LG by rw [← hLG]; simp only [decide_eq_decide]; omega)
 rw [hB, hw1, hLG]
 clear hB hw1 hLG
 go_loopw [4, 5, 6, 21] (fun a sg lo i wr => ∃ (k : Nat) (A G L : Bool), k ≤ n ∧ i = .int .i64 (k : Int) ∧ a = .bool A ∧ sg = .bool G ∧ lo = .bool L ∧ Hid (A = (l.take k).any argS) ∧ Hid (G = (l.take k).any fun s => signE s.elems) ∧ Hid (L = (LG || (l.take k).any longS)) ∧ Hid (BldAt wr B B (printT (l.take k))) ∧ Hid (Below B w wr)) (fun _ _ _ i _ => n - (intOf i).toNat)
 case atStart => exact ⟨0, false, false, LG, by omega, rfl, rfl, rfl, rfl, Lib.hid rfl, Lib.hid rfl, Lib.hid (by simp), HBL, HBE⟩
 case round =>
  obtain ⟨k, A, G, L, hk, rfl, rfl, rfl, rfl, HA, HG, HL, HBL', HBE'⟩ := hrel
  clear HBL HBE
  by_cases hlt : k < n
  · obtain ⟨s, hs⟩ : ∃ s, l[k]? = some s := ⟨_, List.getElem?_eq_getElem (by rw [HLN.out]; exact hlt)⟩
    obtain ⟨x, hx⟩ : ∃ x, xs[k]? = some x := ⟨_, List.getElem?_eq_getElem (by rw [HXL.out, HLN.out]; exact hlt)⟩
    obtain ⟨sb, off, rfl, _, hc⟩ := HCE.out (by rintro rfl; simp at hs)
    obtain ⟨c0, c1⟩ := hc k s x hs hx
    have hel := HEL.out k s x hs hx
    obtain ⟨t, es⟩ := s
    obtain ⟨ys, ⟨eo, ecap, rfl, he1, he2, he3, he4⟩, hyl, hye⟩ := hel
    have hsb : sb < B := by rw [← HBQ.out]; exact cell_lt' c0
    have d0 := (HBE'.out.cell (p := ⟨sb, off + k * 2, none⟩) hsb).trans c0
    have d1 := (HBE'.out.cell (p := ⟨sb, off + k * 2 + 1, none⟩) hsb).trans c1
    have HS := Lib.hid hs
    have HHE := Lib.hid he4
    have HYL := Lib.hid hyl
    have HYE := Lib.hid hye
    have hbs := HBD.out.seg ⟨t, es⟩ (List.mem_of_getElem? hs)
    have HBE1 := Lib.hid (HBD.out.el ⟨t, es⟩ (List.mem_of_getElem? hs))
    have HBE2 := Lib.hid (HBD.out.co ⟨t, es⟩ (List.mem_of_getElem? hs))
    have hws := HBE'.out.size
    rw [HBQ.out] at hws
    simp only at hbs
    rw [hyl] at he1 d1
    obtain ⟨hbt, hbe, hbg⟩ := hbs
    obtain ⟨st, hst⟩ : ∃ st : ByteArray, (⟨t.toArray⟩ : ByteArray) = st := ⟨_, rfl⟩
    have hss : st.size = t.length := by rw [← hst]; rfl
    have HST := Lib.hid hst
    obtain ⟨m0, hm0⟩ : ∃ m0, es.length = m0 := ⟨_, rfl⟩
    have HM0 := Lib.hid hm0
    unfold sv at d0
    rw [hst] at d0
    simp only at d1 he1 hm0 hbe
    rw [hm0] at d1 he1 hbe
    clear hs hx hc c0 c1 he3 he4 hyl hye hst hm0
    unfold maxLen at he2
    have b1 : (0 : Int) ≤ k := by omega
    have b2 : (k : Int) < n := by omega
    go_upto_region 6 with fail
    obtain ⟨w2, hw2⟩ : ∃ w2, wr.alloc (.cells #[.string st, .slice eo m0 ecap] 94) = w2 := ⟨_, rfl⟩
    have s0 : w2.cell? ⟨wr.heap.size, 0, none⟩ = some (.string st) := by rw [← hw2]; exact World.cell?_alloc_mark _ _ _ _ 0
    have s1 : w2.cell? ⟨wr.heap.size, 1, none⟩ = some (.slice eo m0 ecap) := by rw [← hw2]; exact World.cell?_alloc_mark _ _ _ _ 1
    have HBE2' := Lib.hid (show Below B w w2 by rw [← hw2]; exact HBE'.out.alloc hws _)
    have HBL2 := Lib.hid (show BldAt w2 B B (printT (l.take k)) by rw [← hw2]; exact BldAt.cong' HBL'.out (fun k hk => Below.heap_alloc _ _ _ hk))
    have hw2s : wr.heap.size < w2.heap.size := by rw [← hw2]; simp
    rw [hw2]
    clear hw2 d0 d1 HBL' HBE'
    obtain ⟨sp, hsp⟩ : ∃ sp, wr.heap.size = sp := ⟨_, rfl⟩
    rw [hsp] at s0 s1 hws hw2s
    rw [hsp]
    clear hsp
    obtain ⟨TG, hTG⟩ : ∃ b, tagBad t = b := ⟨_, rfl⟩
    have HTG := Lib.hid hTG
    clear hTG
    go_cut [4] (fun a wx => a = .bool (A || TG) ∧ w2 = wx)
    case first =>
     cases A with
     | true => go_wp2_with fail; go_meet; case rel => exact ⟨rfl, rfl⟩
     | false =>
       by_cases h3 : t.length = 3
       · obtain ⟨a, b, c, rfl⟩ : ∃ a b c, t = [a, b, c] := by
          match t, h3 with
          | [a, b, c], _ => exact ⟨a, b, c, rfl⟩
         have z3 : st.size = 3 := by rw [hss]; rfl
         have d3 : ((st.size : Int) != 3) = false := by rw [z3]; rfl
         have i0 : 0 < st.size := by omega
         have i1 : 1 < st.size := by omega
         have i2 : 2 < st.size := by omega
         have q0 : (st[0]'i0).toNat = a.toNat := by have := HST.out; subst this; rfl
         have q1 : (st[1]'i1).toNat = b.toNat := by have := HST.out; subst this; rfl
         have q2 : (st[2]'i2).toNat = c.toNat := by have := HST.out; subst this; rfl
         have hta := fun w => tagged_any a w
         have htb := fun w => tagged_any b w
         have htc := fun w => tagged_any c w
         have hbad : tagBad [a, b, c] = (!tagB a || (!tagB b || !tagB c)) := by unfold tagBad; simp
         obtain ⟨TA, hTA⟩ : ∃ x, tagB a = x := ⟨_, rfl⟩
         obtain ⟨TB, hTB⟩ : ∃ x, tagB b = x := ⟨_, rfl⟩
         obtain ⟨TC, hTC⟩ : ∃ x, tagB c = x := ⟨_, rfl⟩
         rw [HTG.out, hTA, hTB, hTC] at hbad
         rw [hTA] at hta
         rw [hTB] at htb
         rw [hTC] at htc
         obtain ⟨an, han⟩ : ∃ x, a.toNat = x := ⟨_, rfl⟩
         obtain ⟨bn, hbn⟩ : ∃ x, b.toNat = x := ⟨_, rfl⟩
         obtain ⟨cn, hcn⟩ : ∃ x, c.toNat = x := ⟨_, rfl⟩
         rw [han] at q0 hta
         rw [hbn] at q1 htb
         rw [hcn] at q2 htc
         have HTA := Lib.hid hta
         have HTB := Lib.hid htb
         have HTC := Lib.hid htc
         have HBAD := Lib.hid hbad
         clear han hbn hcn hbad hTA hTB hTC hta htb htc h3 hss z3 hbt hbg
         cases TA <;> cases TB <;> cases TC
         all_goals
          go_wp2_with first
           | (go_at_call 134; (with_reducible refine (HTA.out _).mono ?_); rintro e w' ⟨rfl, rfl⟩)
           | (go_at_call 134; (with_reducible refine (HTB.out _).mono ?_); rintro e w' ⟨rfl, rfl⟩)
           | (go_at_call 134; (with_reducible refine (HTC.out _).mono ?_); rintro e w' ⟨rfl, rfl⟩)
          go_meet
          case rel => exact ⟨by rw [HBAD.out]; rfl, rfl⟩
       · have d3 : ((st.size : Int) != 3) = true := by rw [hss]; simp; omega
         have hbad : TG = true := by rw [← HTG.out]; unfold tagBad; simp [h3]
         have HBAD := Lib.hid hbad
         clear hbad hss h3 hbt hbg
         go_wp2_with fail
         go_meet
         case rel => exact ⟨by rw [HBAD.out]; rfl, rfl⟩
    case rest =>
     obtain ⟨rfl, rfl⟩ := hcut
     go_upto_region 7 with fail
     obtain ⟨LE, hLE⟩ : ∃ b, decide (16 < m0) = b := ⟨_, rfl⟩
     have HLE := Lib.hid hLE
     obtain ⟨A1, hA1⟩ : ∃ b, (A || TG) = b := ⟨_, rfl⟩
     have HA1 := Lib.hid hA1
     rw [hA1]
     clear hA1
     go_cut [6] (fun lo wx => lo = .bool (L || LE) ∧ w2 = wx)
     case first =>
      cases L with
      | true => clear hLE; go_wp2_with fail; go_meet; case rel => exact ⟨rfl, rfl⟩
      | false =>
        have d16 : decide ((16 : Int) < (m0 : Int)) = LE := by rw [← hLE]; simp only [decide_eq_decide]; omega
        clear hLE
        cases LE
        all_goals
         go_wp2_with fail
         go_meet
         case rel => exact ⟨rfl, rfl⟩
     case rest =>
      obtain ⟨rfl, rfl⟩ := hcut
      clear hLE
      obtain ⟨L1, hL1⟩ : ∃ b, (L || LE) = b := ⟨_, rfl⟩
      have HL1 := Lib.hid hL1
      rw [hL1]
      clear hL1
      go_wp2_with fail
      obtain ⟨ws, hws2⟩ : ∃ ws, w2.heap.size = ws := ⟨_, rfl⟩
      have hwsB : B ≤ ws := by omega
      obtain ⟨w3, hw3⟩ : ∃ w3, w2.alloc (.cells #[.string st] 9) = w3 := ⟨_, rfl⟩
      have HW3 := Lib.hid (show w3.ownsRow B 9 1 (.slice (some ⟨ws, 0, none⟩) 1 1) (0 + 1) ((t :: (es.take 0).map elemT).map sv) by
       have hst := HST.out
       rw [← hw3, ← hws2]
       exact ⟨rfl, .inr ⟨w2.heap.size, 1, _, rfl, by omega, heap_alloc_new _ _, Nat.le_refl _, by decide, rfl, by rw [← hst]; rfl⟩⟩)
      have HBL3 := Lib.hid (show BldAt w3 B B (printT (l.take k)) by rw [← hw3]; exact BldAt.cong' HBL2.out (fun k hk => Below.heap_alloc _ _ _ hk))
      have HBE3 := Lib.hid (show Below B w w3 by rw [← hw3]; exact HBE2'.out.alloc (by omega) _)
      rw [hws2, hw3]
      clear hws2 hw3 hw2s hws HBL2 HBE2' s0 s1
      go_loopw [4, 5, 6, 10, 66] (fun a sg lo wv i wr => ∃ (m : Nat) (A2 G2 L2 : Bool), m ≤ m0 ∧ i = .int .i64 (m : Int) ∧ a = .bool A2 ∧ sg = .bool G2 ∧ lo = .bool L2 ∧ Hid (A2 = (A1 || argE (es.take m))) ∧ Hid (G2 = (G || signE (es.take m))) ∧ Hid (L2 = (L1 || longE (es.take m))) ∧ Hid (wr.ownsRow B 9 1 wv (m + 1) ((t :: (es.take m).map elemT).map sv)) ∧ Hid (BldAt wr B B (printT (l.take k))) ∧ Hid (Below B w wr)) (fun _ _ _ _ i _ => m0 - (intOf i).toNat)
      case atStart => exact ⟨0, A1, G, L1, by omega, rfl, rfl, rfl, rfl, Lib.hid (by simp [argE]), Lib.hid (by simp [signE]), Lib.hid (by simp [longE]), HW3, HBL3, HBE3⟩
      case round =>
       obtain ⟨m, A2, G2, L2, hm, rfl, rfl, rfl, rfl, HA2, HG2, HL2, HWO, HBL4, HBE4⟩ := hrel
       clear HW3 HBL3 HBE3
       by_cases hml : m < m0
       · obtain ⟨e, he⟩ : ∃ e, es[m]? = some e := ⟨_, List.getElem?_eq_getElem (by rw [HM0.out]; exact hml)⟩
         obtain ⟨y, hy⟩ : ∃ y, ys[m]? = some y := ⟨_, List.getElem?_eq_getElem (by rw [HYL.out, HM0.out]; exact hml)⟩
         obtain ⟨eb, eoff, rfl, _, hec⟩ := HHE.out (by rintro rfl; simp at hy)
         have e0 := hec m y hy
         have hco := HYE.out m e y he hy
         have heb : eb < B := by rw [← HBQ.out]; exact cell_lt' e0
         have e1 := (HBE4.out.cell (p := ⟨eb, eoff + m, none⟩) heb).trans e0
         have HCO := Lib.hid (hco.cong (w' := wr) (T := fun _ => True) (fun _ _ => trivial) (fun k hk => HBE4.out.block k (by rw [HBQ.out] at hk; exact hk)))
         have hmem := List.mem_of_getElem? he
         obtain ⟨hne1, hne2⟩ := HBE1.out e hmem
         have HPE := Lib.hid (HBE2.out e hmem)
         obtain ⟨ea, ecap2, rfl, _⟩ := hco
         have HE := Lib.hid he
         obtain ⟨ne, hne⟩ : ∃ ne, e.length = ne := ⟨_, rfl⟩
         have HNE := Lib.hid hne
         rw [List.length_map, hne] at e1
         rw [List.length_map, hne] at HCO
         rw [hne] at hne1
         have b3 : (0 : Int) ≤ m := by omega
         have b4 : (m : Int) < m0 := by omega
         obtain ⟨EE, hEE⟩ : ∃ b, decide (ne = 0) = b := ⟨_, rfl⟩
         have HEE := Lib.hid hEE
         obtain ⟨LC, hLC⟩ : ∃ b, decide (8 < ne) = b := ⟨_, rfl⟩
         have HLC := Lib.hid hLC
         have d0 : ((ne : Int) == 0) = EE := by rw [← hEE]; rw [Bool.eq_iff_iff]; simp
         have d8 : decide ((8 : Int) < (ne : Int)) = LC := by rw [← hLC]; simp only [decide_eq_decide]; omega
         clear he hy hec e0 heb hmem hne hEE hLC
         go_upto_region 12 with fail
         obtain ⟨wa, hwa⟩ : ∃ wa : World, wa = wr := ⟨_, rfl⟩
         go_cut [4] (fun a wx => a = .bool (A2 || EE) ∧ wr = wx)
         case first =>
          clear d8
          cases A2 with
          | true => clear d0; go_wp2_with fail; go_meet; case rel => exact ⟨rfl, rfl⟩
          | false =>
            cases EE
            all_goals
             go_wp2_with fail
             go_meet
             case rel => exact ⟨rfl, rfl⟩
         case rest =>
          obtain ⟨rfl, rfl⟩ := hcut
          clear d0
          go_upto_region 13 with fail
          go_cut [6] (fun lo wx => lo = .bool (L2 || LC) ∧ wr = wx)
          case first =>
           cases L2 with
           | true => clear d8; go_wp2_with fail; go_meet; case rel => exact ⟨rfl, rfl⟩
           | false =>
             cases LC
             all_goals
              go_wp2_with fail
              go_meet
              case rel => exact ⟨rfl, rfl⟩
          case rest =>
           obtain ⟨rfl, rfl⟩ := hcut
           clear d8
           obtain ⟨A3, hA3⟩ : ∃ b, (A2 || EE) = b := ⟨_, rfl⟩
           have HA3 := Lib.hid hA3
           obtain ⟨L3, hL3⟩ : ∃ b, (L2 || LC) = b := ⟨_, rfl⟩
           have HL3 := Lib.hid hL3
           rw [hA3, hL3]
           clear hA3 hL3
           obtain ⟨wb, rfl⟩ : ∃ wb : World, wb = wr := ⟨_, rfl⟩
           have HCL := Lib.hid (clone_any wb (.slice ea ne ecap2) e HCO.out (by rw [HNE.out]; omega))
           rw [HNE.out] at HCL
           go_wp2_with (go_at_call 135; refine HCL.out.mono ?_; rintro r wm ⟨pv, rfl, hpo, hbm⟩; have HPO := Lib.hid hpo; have HBM := Lib.hid hbm; obtain ⟨pa, pc, rfl⟩ := own_slice hpo; clear hpo hbm)
           obtain ⟨P0, hP0⟩ : ∃ P0, wb.heap.size = P0 := ⟨_, rfl⟩
           rw [hP0] at HPO HBM
           have HPZ := Lib.hid hP0
           have hBP : B ≤ P0 := by have h1 := HBE4.out.size; rw [HBQ.out] at h1; omega
           clear hP0 HCL HCO e1
           go_loopw [5, 6, 86] (fun sg lo i wr => ∃ (q : Nat) (G3 L4 : Bool), q ≤ ne ∧ i = .int .i64 (q : Int) ∧ sg = .bool G3 ∧ lo = .bool L4 ∧ Hid (G3 = (G2 || signC (e.take q))) ∧ Hid (L4 = (L3 || longC (e.take q))) ∧ Hid (wr.ownsRow P0 9 1 (.slice pa ne pc) ne ((partsL e q).map sv)) ∧ Hid (Below P0 wb wr)) (fun _ _ i _ => ne - (intOf i).toNat)
           case atStart => exact ⟨0, G2, L3, by omega, rfl, rfl, rfl, Lib.hid (by simp [signC]), Lib.hid (by simp [longC]), HPO, HBM⟩
           case round =>
            obtain ⟨q, G3, L4, hq, rfl, rfl, rfl, HG3, HL4, HPA, HBP⟩ := hrel
            clear HPO HBM
            by_cases hqn : q < ne
            · skip
              obtain ⟨p, hp⟩ : ∃ p, e[q]? = some p := ⟨_, List.getElem?_eq_getElem (by rw [HNE.out]; exact hqn)⟩
              obtain ⟨pb, pcap, cur, hpv, hpb, hpcells, hpc1, hpc2, _⟩ := own_form HPA.out (by omega) (by omega)
              injection hpv with hpv1 hpv2 hpv3
              subst hpv1
              subst hpv3
              have hplt : pb < wr.heap.size := (Array.getElem?_eq_some_iff.1 hpcells).1
              have pc0 := own_cell HPA.out (j := q) (x := sv p) (by rw [List.getElem?_map, partsL_get hp]; rfl)
              have pz0 := own_frozen HPA.out q
              have hps := HPE.out p (List.mem_of_getElem? hp)
              have hs1 := any_take (fun p => p.any badB) hp
              have hl1 := any_take (fun p => decide (256 < p.length)) hp
              obtain ⟨ps, hpse⟩ : ∃ ps : ByteArray, (⟨p.toArray⟩ : ByteArray) = ps := ⟨_, rfl⟩
              have hpsz : ps.size = p.length := by rw [← hpse]; rfl
              have hpsd : ps.data.toList = p := by rw [← hpse]
              obtain ⟨GP, hGP⟩ : ∃ b, p.any badB = b := ⟨_, rfl⟩
              obtain ⟨LP, hLP⟩ : ∃ b, decide (256 < p.length) = b := ⟨_, rfl⟩
              have d256 : decide ((256 : Int) < (ps.size : Int)) = LP := by rw [← hLP, hpsz]; simp only [decide_eq_decide]; omega
              simp only [hGP] at hs1
              simp only [hLP] at hl1
              unfold sv at pc0
              rw [hpse] at pc0
              have HP := Lib.hid hp
              have HS1 := Lib.hid hs1
              have HL1' := Lib.hid hl1
              have HPSZ := Lib.hid hpsz
              have HPSD := Lib.hid hpsd
              have HGP := Lib.hid hGP
              have HPC := Lib.hid hpcells
              rw [← hpsz] at hps
              clear hp hpv2 hs1 hl1 hpse hpsz hpsd hGP hLP hpcells
              unfold maxLen at hpc2
              have b5 : (0 : Int) ≤ q := by omega
              have b6 : (q : Int) < ne := by omega
              go_upto_region 18 with fail
              go_cut [6] (fun lo wx => lo = .bool (L4 || LP) ∧ wr = wx)
              case first =>
               cases L4 with
               | true => clear d256; go_wp2_with fail; go_meet; case rel => exact ⟨rfl, rfl⟩
               | false =>
                 cases LP
                 all_goals
                  go_wp2_with fail
                  go_meet
                  case rel => exact ⟨rfl, rfl⟩
              case rest =>
               obtain ⟨rfl, rfl⟩ := hcut
               clear d256
               go_upto_region 19 with fail
               go_cut [5] (fun sg wx => sg = .bool (G3 || GP) ∧ Hid (Below wr.heap.size wr wx))
               case first =>
                cases G3 with
                | true => go_wp2_with fail; go_meet; case rel => exact ⟨rfl, Lib.hid (Below.refl _ _)⟩
                | false =>
                  have hcb := Lib.run_convert_string_bytes (P := Tryz.prog) wr 9 72 5 ps Tryz.underlying9 Tryz.underlying72 Tryz.underlying5
                  obtain ⟨wy, hwy⟩ : ∃ wy, Lib.bytesWorld wr 5 ps = wy := ⟨_, rfl⟩
                  obtain ⟨cp, hcp⟩ : ∃ cp, grownCap wr ps.size 0 5 = cp := ⟨_, rfl⟩
                  rw [hwy, hcp] at hcb
                  have HBY := Lib.hid (show Below wr.heap.size wr wy by rw [← hwy]; exact ⟨rfl, rfl, rfl, by rw [Lib.bytesWorld_size]; omega, fun k hk => Lib.bytesWorld_at_old _ _ _ _ hk⟩)
                  have HCN := Lib.hid (contains_any wy wr.heap.size cp p (by rw [← HPSZ.out]; omega) (fun j c hj => by
                   have hj' : j < ps.size := by rw [HPSZ.out]; exact (List.getElem?_eq_some_iff.1 hj).1
                   rw [← hwy, Lib.bytesWorld_cell wr 5 ps j hj', HPSD.out, List.getD_eq_getElem?_getD, hj]; rfl))
                  rw [← HPSZ.out, HGP.out] at HCN
                  unfold badV at HCN
                  clear hwy hcp
                  go_wp2_with (go_at_call 136; refine HCN.out.mono ?_; rintro e w' ⟨rfl, rfl⟩)
                  go_meet
                  case rel => exact ⟨rfl, HBY⟩
               case rest =>
                obtain ⟨rfl, HBC⟩ := hcut
                have hwc := HBC.out.size
                go_wp2_with first
                 | (go_at_call 138; refine (newRepl_any _ _ (heap_alloc_new wc (.cells oldL.toArray 9))).mono ?_; rintro r w6 ⟨rb, ob, rcap, rfl, hr1, hr2, hr3, hr4, hr5, hr6, hr7⟩; rw [World.size_alloc] at hr6; have HR1 := Lib.hid hr1; have HR2 := Lib.hid hr2; have HR5 := Lib.hid hr5; have HR7 := Lib.hid hr7; clear hr1 hr2 hr5 hr7)
                 | (go_at_call 139; refine (replace_any _ rb ob rcap _ ps (by omega) HR1.out HR2.out hr3 hr4 HR5.out).mono ?_; rintro r w7 ⟨rfl, hf7⟩; have hag : w7.heap[pb]? = wr.heap[pb]? := (hf7.block pb (by have := HR7.out.size; rw [World.size_alloc] at this; omega) (by simp; omega)).trans ((HR7.out.block pb (by rw [World.size_alloc]; omega)).trans ((Below.heap_alloc _ _ _ (by omega)).trans (HBC.out.block pb hplt))); have pc7 := (cell_ag (j := q) hag).trans pc0; have pz7 := (fz_ag (j := q) hag).trans pz0; have HAG := Lib.hid hag; have HF7 := Lib.hid hf7; clear hf7 hag; unfold sv)
                go_roundw
                case rel =>
                 refine ⟨q + 1, G3 || GP, L4 || LP, by omega, by go_num, rfl, rfl, Lib.hid ?_, Lib.hid ?_, Lib.hid ?_, Lib.hid ?_⟩
                 · rw [HG3.out]; unfold signC; rw [HS1.out, Bool.or_assoc]
                 · rw [HL4.out]; unfold longC; rw [HL1'.out, Bool.or_assoc]
                 · have h1 := own_set (own_cong (w' := w7) HPA.out (fun k hk => by cases hk; exact HAG.out)) (j := q) (by rw [List.length_map, partsL_len, HNE.out]; exact hqn) (sv (compT p))
                   rw [← List.map_set, partsL_set HP.out] at h1
                   rw [HPSD.out]
                   exact h1
                 · have hz1 := HBP.out.size
                   rw [HPZ.out] at hz1
                   have hz2 := HR7.out.size
                   rw [World.size_alloc] at hz2
                   exact HBP.out.trans (((((HBC.out.mono hz1).alloc (by omega) _).trans (HR7.out.mono (by rw [World.size_alloc]; omega))).trans (HF7.out.belowB (by omega) (by simp; omega))).setCell hpb _)
                case measure => simp [intOf]; omega
            · skip
              obtain rfl : q = ne := by omega
              have hpa : partsL e q = e.map compT := by rw [← HNE.out]; exact partsL_all e
              have hte : e.take q = e := List.take_of_length_le (by rw [HNE.out]; exact Nat.le_refl _)
              have hPA := HPA.out
              rw [hpa] at hPA
              have hG3 := HG3.out
              have hL4 := HL4.out
              rw [hte] at hG3 hL4
              have HG3' := Lib.hid hG3
              have HL4' := Lib.hid hL4
              have hln : ((e.map compT).map sv).length = q := by simp [HNE.out]
              have HRP := Lib.hid (show CompsAt (fun _ => True) wr (.slice pa q pc) (e.map compT) by
               have hPA' : wr.ownsRow P0 9 1 (.slice pa q pc) ((e.map compT).map sv).length ((e.map compT).map sv) := by rw [hln]; exact hPA
               exact own_rest hPA' (fun _ _ => trivial))
              have HJO := Lib.hid (join_any wr 58 (.slice pa q pc) (e.map compT) HRP.out (by rw [List.length_map, HNE.out]; omega) (by show (elemT e).length ≤ _; omega))
              have hse := any_take signC HE.out
              have hle2 := any_take (fun e => decide (8 < e.length) || longC e) HE.out
              have hae := any_take (fun e : List Str => e.isEmpty) HE.out
              have hme := map_take_succ elemT HE.out
              have HSE := Lib.hid hse
              have HLE2 := Lib.hid hle2
              have HAE := Lib.hid hae
              have HME := Lib.hid hme
              have hwoz : ∀ k, u10.ownBlock = some k → k < P0 := fun k hk => by rw [← HPZ.out]; exact (own_lt HWO.out hk).2
              have HWO2 := Lib.hid (own_cong (w' := wr) HWO.out (fun k hk => HBP.out.block k (hwoz k hk)))
              have HBL5 := Lib.hid (BldAt.cong' (w' := wr) HBL4.out (fun k hk => HBP.out.block k (by rw [HPZ.out] at hk; exact hk)))
              have HBE5 := Lib.hid (HBE4.out.trans (HBP.out.mono hBP))
              clear hpa hte hPA hG3 hL4 hln hse hle2 hae hme hwoz
              obtain ⟨i0, hi, hz0, hz1, hz2⟩ := info_parts einfo_str
              have HI := Lib.hid hi
              have HZ0 := Lib.hid hz0
              have HZ1 := Lib.hid hz1
              have HZ2 := Lib.hid hz2
              clear hi hz0 hz1 hz2
              have hBw := HBE5.out.size
              rw [HBQ.out] at hBw
              go_wp2_with first
               | (go_at_call 140; refine HJO.out.mono ?_; rintro r w8 ⟨rfl, hb8⟩; have HB8 := Lib.hid hb8; have hs8 := hb8.size; have HWO3 := Lib.hid (own_cong (w' := w8) HWO2.out (fun k hk => hb8.block k (own_lt HWO2.out hk).2)); clear hb8; unfold sv)
               | ((with_reducible refine wpList_at (.call { callee := .builtin .append, args := #[.tmp 111, .tmp 114], argTypes := #[58, 58] }) rfl ?_); go_loud (refine wpList_append_own_at _ rfl _ _ 58 rfl B 9 i0 (.string ⟨#[]⟩) 1 16 Tryz.underlying58 HI.out HZ0.out HZ1.out HZ2.out rfl (by decide) _ _ _ rfl (HWO3.out.alloc _) ⟨w8.heap.size, 0, none⟩ 1 1 [sv (joinB 58 (e.map compT))] rfl rfl (cell_one_new _ _ _) (by simp [Value.oneCell', sv]) (by unfold maxLen; omega) (by omega) (by simp; omega) ?_); intro v9 w9 ho9 hg9 hq1 hq2; clear hq1 hq2; have HO9 := Lib.hid ho9; have HG9 : Hid (World.grownBy _ w9 u10.ownBlock) := Lib.hid hg9; clear ho9 hg9)
              go_roundw
              case rel =>
               refine ⟨m + 1, A3, G3, L4, by omega, by go_num, rfl, rfl, rfl, Lib.hid ?_, Lib.hid ?_, Lib.hid ?_, Lib.hid ?_, Lib.hid ?_, Lib.hid ?_⟩
               · rw [← HA3.out, HA2.out, ← HEE.out]; unfold argE; rw [HAE.out, ← HNE.out]; cases e <;> simp
               · rw [HG3'.out, HG2.out]; unfold signE; rw [HSE.out, Bool.or_assoc]
               · rw [HL4'.out, ← HL3.out, HL2.out, ← HLC.out]; unfold longE; rw [HLE2.out, HNE.out]; simp only [Bool.or_assoc]
               · have h9 := HO9.out
                 rw [HME.out]
                 simpa [elemT] using h9
               · have h1 := BldAt.cong' (w' := w8) HBL5.out (fun k hk => HB8.out.block k hk)
                 have h2 := BldAt.cong' h1 (fun k hk => Below.heap_alloc w8 (.cells #[sv (joinB 58 (e.map compT))] 9) _ hk)
                 refine BldAt.cong h2 (fun k C f t' hk ht => HG9.out.block k (Array.getElem?_eq_some_iff.1 hk).1 (fun hc => ?_))
                 obtain ⟨C', hC', _⟩ := own_ty (HWO3.out.alloc _) hc.symm
                 rw [hC'] at hk
                 cases hk
                 exact ht rfl
               · have h1 := HBE5.out.trans (HB8.out.mono hBw)
                 have hs9 := HB8.out.size
                 exact (h1.alloc (by omega) _).grown HG9.out (by simp; omega) (fun k hk => (own_lt HWO3.out hk).1)
              case measure => simp [intOf]; omega
       · skip
         obtain rfl : m = m0 := by omega
         have hte : es.take m = es := List.take_of_length_le (by rw [HM0.out]; exact Nat.le_refl _)
         have hW0 := HWO.out
         have hA2 := HA2.out
         have hG2 := HG2.out
         have hL2 := HL2.out
         rw [hte] at hW0 hA2 hG2 hL2
         obtain ⟨wa, wc, rfl⟩ := own_slice hW0
         have HA2' := Lib.hid hA2
         have HG2' := Lib.hid hG2
         have HL2' := Lib.hid hL2
         have hln : ((t :: es.map elemT).map sv).length = m + 1 := by simp [HM0.out]
         have hle : (joinB 43 (t :: es.map elemT)).length + 1 = (segT ⟨t, es⟩).length := by rw [← joinB_words, List.length_append]; rfl
         have HRP := Lib.hid (show CompsAt (fun _ => True) wr (.slice wa (m + 1) wc) (t :: es.map elemT) by
          have hPA' : wr.ownsRow B 9 1 (.slice wa (m + 1) wc) ((t :: es.map elemT).map sv).length ((t :: es.map elemT).map sv) := by rw [hln]; exact hW0
          exact own_rest hPA' (fun _ _ => trivial))
         have HJO := Lib.hid (join_any wr 43 (.slice wa (m + 1) wc) (t :: es.map elemT) HRP.out (by rw [List.length_cons, List.length_map, HM0.out]; omega) (by omega))
         have hpl : (printT (l.take k)).length ≤ 1048576 := Nat.le_trans (by
          have h1 := congrArg printT (List.take_append_drop k l)
          unfold printT at h1 ⊢
          rw [List.flatMap_append] at h1
          have h2 := congrArg List.length h1
          rw [List.length_append] at h2
          omega) HPL.out
         have hBw := HBE4.out.size
         rw [HBQ.out] at hBw
         obtain ⟨J, hJ⟩ : ∃ J, joinB 43 (t :: es.map elemT) = J := ⟨_, rfl⟩
         rw [hJ] at HJO hle
         have HJJ := Lib.hid hJ
         clear hte hW0 hA2 hG2 hL2 hln hJ
         go_wp2_with first
          | (go_at_call 140; refine HJO.out.mono ?_; rintro r w8 ⟨rfl, hb8⟩; have HB8 := Lib.hid hb8; have hs8 := hb8.size; have HBL5 := Lib.hid (BldAt.cong' (w' := w8) HBL4.out (fun k hk => hb8.block k hk)); clear hb8; unfold sv)
          | (go_at_call 141; refine (writeString_any B B (printT (l.take k)) _ w8 HBL5.out (by rw [cat_size]; omega) (by omega)).mono ?_; rintro r w9 ⟨rfl, hb9, hc9⟩; have HB9 := Lib.hid hb9; have HC9 := Lib.hid hc9; clear hb9 hc9)
         go_roundw
         case rel =>
          refine ⟨k + 1, A2, G2, L2, by omega, by go_num, rfl, rfl, rfl, Lib.hid ?_, Lib.hid ?_, Lib.hid ?_, Lib.hid ?_, Lib.hid ?_⟩
          · rw [any_take argS HS.out, ← HA.out, HA2'.out, ← HA1.out, ← HTG.out, Bool.or_assoc]; rfl
          · rw [any_take (fun s => signE s.elems) HS.out, ← HG.out]; exact HG2'.out
          · rw [HL2'.out, ← HL1.out, HL.out, ← HLE.out, any_take longS HS.out, show longS ⟨t, es⟩ = (decide (16 < es.length) || longE es) from rfl, HM0.out]; simp only [Bool.or_assoc]
          · rw [printT_take HS.out, ← joinB_words, HJJ.out, ← cat_list]; exact HB9.out
          · exact (HBE4.out.trans (HB8.out.mono hBw)).trans HC9.out
         case measure => simp [intOf]; omega
  · skip
    obtain rfl : k = n := by omega
    have hte : l.take k = l := List.take_of_length_le (by rw [HLN.out]; exact Nat.le_refl _)
    have hB0 := HBL'.out
    have hA := HA.out
    have hG := HG.out
    have hL := HL.out
    rw [hte] at hB0 hA hG hL
    have hbl : (Lib.byteCells (printT l)).length = (printT l).length := Lib.byteCells_length _
    have hLP : longP l = L := by rw [longP_eq, hL, ← HLG.out, HLN.out]
    have hpe : printE l = if A then ([], 1) else if G then ([], 30) else if L || decide (65536 < (printT l).length) then ([], 2) else (printT l, 0) := by
     unfold printE; rw [argP_eq, ← hA, signP_eq, ← hG, hLP]
    have hBw := HBE'.out.size
    rw [HBQ.out] at hBw
    have HBE2 := HBE'.out
    have HLN' := HLN.out
    have hlp := HPL.out
    rw [HR.out] at hpe
    obtain ⟨PT, hPT⟩ : ∃ PT, printT l = PT := ⟨_, rfl⟩
    rw [hPT] at hpe hB0 hbl hlp
    clear hA hG hL hte hLP HA HG HL HBL' HLG HR HPL HCE HEL HSG HXL HBD HLN' hPT
    have hHBE2 := Lib.hid HBE2
    have hLEN := Lib.hid (Tryz.Builder_Len B B (Lib.byteCells PT) wr hB0)
    have hSTR := Lib.hid (Tryz.Builder_String_any B B PT wr hB0 hBw)
    rw [hbl] at hLEN
    clear hB0 hbl HBE2
    cases A with
    | true =>
      obtain rfl : R = ([], 1) := hpe
      go_wp2_with fail
      go_ret2
      exact ⟨rfl, by rw [HBQ.out]; exact hHBE2.out⟩
    | false =>
      cases G with
      | true =>
        obtain rfl : R = ([], 30) := hpe
        go_wp2_with fail
        go_ret2
        exact ⟨rfl, by rw [HBQ.out]; exact hHBE2.out⟩
      | false =>
        cases L with
        | true =>
          obtain rfl : R = ([], 2) := hpe
          go_wp2_with fail
          go_ret2
          exact ⟨rfl, by rw [HBQ.out]; exact hHBE2.out⟩
        | false =>
          by_cases hbig : 65536 < PT.length
          · obtain rfl : R = ([], 2) := by rw [hpe]; simp [hbig]
            have hd : decide ((65536 : Int) < (PT.length : Int)) = true := by simp; omega
            go_wp2_with (go_at_call 142; refine hLEN.out.mono ?_; rintro r w9 ⟨rfl, rfl⟩)
            go_ret2
            exact ⟨rfl, by rw [HBQ.out]; exact hHBE2.out⟩
          · obtain rfl : R = (PT, 0) := by rw [hpe]; simp [hbig]
            have hd : decide ((65536 : Int) < (PT.length : Int)) = false := by simp; omega
            go_wp2_with first
             | (go_at_call 142; refine hLEN.out.mono ?_; rintro r w9 ⟨rfl, rfl⟩)
             | (go_at_call 143; refine hSTR.out.mono ?_; rintro r w9 ⟨rfl, hw9⟩)
            go_ret2
            exact ⟨rfl, by rw [HBQ.out]; exact hHBE2.out.trans hw9⟩
theorem segCells_at : ∀ (l : List Seg) (xs : List Value) (j : Nat) (u : Value), xs.length = l.length → (segCells l xs)[j]? = some u → ∃ (i : Nat) (s : Seg) (x : Value), l[i]? = some s ∧ xs[i]? = some x ∧ (j = i * 2 ∧ u = sv s.tag ∨ j = i * 2 + 1 ∧ u = x)
 | [], xs, j, u, h, hu => by cases xs <;> simp [segCells] at hu
 | s :: l, [], j, u, h, hu => by simp at h
 | s :: l, x :: xs, 0, u, h, hu => by simp only [segCells, List.getElem?_cons_zero] at hu; cases hu; exact ⟨0, s, x, rfl, rfl, .inl ⟨rfl, rfl⟩⟩
 | s :: l, x :: xs, 1, u, h, hu => by simp only [segCells, List.getElem?_cons_succ, List.getElem?_cons_zero] at hu; cases hu; exact ⟨0, s, x, rfl, rfl, .inr ⟨rfl, rfl⟩⟩
 | s :: l, x :: xs, j + 2, u, h, hu => by
   simp only [segCells, List.getElem?_cons_succ] at hu
   obtain ⟨i, s', x', h1, h2, h3⟩ := segCells_at l xs j u (by simpa using h) hu
   refine ⟨i + 1, s', x', by simpa using h1, by simpa using h2, ?_⟩
   rcases h3 with ⟨h3, h4⟩ | ⟨h3, h4⟩
   · exact .inl ⟨by omega, h4⟩
   · exact .inr ⟨by omega, h4⟩
theorem segCells_one : ∀ (l : List Seg) (xs : List Value), (∀ x ∈ xs, x.oneCell' = true) → ∀ u ∈ segCells l xs, u.oneCell' = true
 | [], xs, _, u, hu => by cases xs <;> simp [segCells] at hu
 | s :: l, [], _, u, hu => by simp [segCells] at hu
 | s :: l, x :: xs, h, u, hu => by
   simp only [segCells, List.mem_cons] at hu
   rcases hu with rfl | rfl | hu
   · rfl
   · exact h _ List.mem_cons_self
   · exact segCells_one l xs (fun y hy => h y (List.mem_cons_of_mem _ hy)) u hu
theorem SegsAt.row {S : Nat → Prop} {w : World} {v : Value} {m : List Seg} (h : SegsAt S w v m) : ∃ (ao : Option Addr) (cap : Nat) (ys : List Value), v = .slice ao m.length cap ∧ ys.length = m.length ∧ (ao = none → m = [] ∧ cap = 0) ∧ (∀ x ∈ ys, x.oneCell' = true) ∧
  (∀ (i : Nat) (s : Seg) (x : Value), m[i]? = some s → ys[i]? = some x → ElemsAt S w x s.elems) ∧ ∀ ad, ao = some ad → ∀ (j : Nat) (u : Value), (segCells m ys)[j]? = some u → w.cell? (ad.add j) = some u := by
 obtain ⟨ao, cap, xs, rfl, h1, h2, h3, h4, h5, h6⟩ := h
 refine ⟨ao, cap, xs, rfl, h4, fun e => ⟨List.length_eq_zero_iff.1 (by have := h3 e; omega), h3 e⟩, fun x hx => ?_, h5, fun ad hao j u hu => ?_⟩
 · obtain ⟨i, hi⟩ := List.getElem?_of_mem hx
   have hil := (List.getElem?_eq_some_iff.1 hi).1
   obtain ⟨a, c, he, _⟩ := (h5 i m[i] x (List.getElem?_eq_getElem (by omega)) hi).form
   rw [he]; rfl
 · obtain ⟨i, s, x, g1, g2, g3⟩ := segCells_at m xs j u h4 hu
   obtain ⟨b, off, rb, _, hc⟩ := h6 (by rintro rfl; simp at g1)
   rw [hao] at rb
   cases rb
   obtain ⟨k1, k2⟩ := hc i s x g1 g2
   rw [Addr.add_mid]
   rcases g3 with ⟨rfl, rfl⟩ | ⟨rfl, rfl⟩
   · exact k1
   · rw [← Nat.add_assoc]; exact k2
structure OG (B : Nat) (w : World) (ov : Value) (xs : List Value) (l : List Seg) : Prop where
 row : w.ownsRow B 94 2 ov l.length (segCells l xs)
 len : xs.length = l.length
 el : ∀ (i : Nat) (s : Seg) (x : Value), l[i]? = some s → xs[i]? = some x → ElemsAt (fun b => b < w.heap.size ∧ ov.ownBlock ≠ some b) w x s.elems
theorem OG.nil (B : Nat) (w : World) : OG B w (.slice none 0 0) [] [] := ⟨World.ownsRow_nil _ _ _ _, rfl, fun i s x h => by simp at h⟩
theorem OG.rest {B : Nat} {w : World} {ov : Value} {xs : List Value} {l : List Seg} (h : OG B w ov xs l) : SegsAt (fun b => b < w.heap.size) w ov l :=
 segs_rest h.row h.len (fun _ hk => (own_lt h.row hk).2) (fun i s x h1 h2 => (h.el i s x h1 h2).cong (fun _ hb => hb.1) (fun _ _ => rfl))
theorem OG.below {B : Nat} {w w' : World} {ov : Value} {xs : List Value} {l : List Seg} (h : OG B w ov xs l) (hb : Below w.heap.size w w') : OG B w' ov xs l :=
 ⟨own_cong h.row (fun k hk => hb.block k (own_lt h.row hk).2), h.len, fun i s x h1 h2 => (h.el i s x h1 h2).cong (fun k hk => ⟨by have := hb.size; omega, hk.2⟩) (fun k hk => hb.block k hk.1)⟩
theorem OG.one {B : Nat} {w : World} {t : Str} {st : ByteArray} {es : List (List Str)} {ev : Value} (hst : (⟨t.toArray⟩ : ByteArray) = st) (hB : B ≤ w.heap.size) (he : ElemsAt (fun b => b < w.heap.size) w ev es) :
  OG B (w.alloc (.cells #[.string st, ev] 94)) (.slice (some ⟨w.heap.size, 0, none⟩) 1 1) [ev] [⟨t, es⟩] := by
 refine ⟨⟨rfl, .inr ⟨w.heap.size, 1, #[.string st, ev], rfl, hB, heap_alloc_new _ _, Nat.le_refl _, by decide, rfl, ?_⟩⟩, rfl, fun i s x h1 h2 => ?_⟩
 · rw [← hst]; rfl
 · match i, h1, h2 with
   | 0, h1, h2 =>
     simp at h1 h2
     subst h1; subst h2
     exact he.cong (fun k hk => ⟨by simp; omega, fun e => by simp [Value.ownBlock] at e; omega⟩) (fun k hk => Below.heap_alloc _ _ _ hk)
   | i + 1, h1, _ => simp at h1
theorem wp_app_og {ops : Array Oper} {rest : List Oper} {o : Oper} {a : Act} {Q : Exit → Act → World → Prop} (s x : Operand)
  (ho : o.op = .call { callee := .builtin .append, args := #[s, x], argTypes := #[39, 39] }) (hw : Region.wanted o (yielded ops a.tmps) = true)
  {w : World} {B : Nat} {v mv : Value} {xs : List Value} {l m : List Seg} {S : Nat → Prop} (hs : a.eval s = v) (hx : a.eval x = mv) (hO : OG B w v xs l) (hm : SegsAt S w mv m) (hS : ∀ k, S k → k < w.heap.size ∧ v.ownBlock ≠ some k) (hl : l.length + m.length ≤ 1048576) (hB : B ≤ w.heap.size)
  (h : ∀ v' w' xs', OG B w' v' xs' (l ++ m) → Below B w w' → wpList Tryz.prog ops Q rest (a.put o.dst v') w') :
  wpList Tryz.prog ops Q (o :: rest) a w := by
 obtain ⟨i0, hi, hz0, hz1, hz2⟩ := info_parts einfo_seg
 have hm0 := hm
 obtain ⟨ao, cap, ys, rfl, g1, g2, g3, g4, g5⟩ := hm.row
 simp only [wpList, hw, if_true]
 left
 have fin : ∀ v' w', w'.ownsRow B 94 2 v' (l.length + m.length) (segCells l xs ++ segCells m ys) → w.grownBy w' v.ownBlock → (v'.ownBlock = v.ownBlock ∨ v'.ownBlock = some w.heap.size) → OG B w' v' (xs ++ ys) (l ++ m) ∧ Below B w w' := fun v' w' f1 f2 f3 => by
  have hov : ∀ k, v.ownBlock = some k → B ≤ k := fun k hk => (own_lt hO.row hk).1
  have hb : Below B w w' := (Below.refl B w).grown f2 hB hov
  have hz := f2.size
  have hc : ∀ b, b < w.heap.size → v.ownBlock ≠ some b → v'.ownBlock ≠ some b := fun b hb2 hne he => by
   rcases f3 with f3 | f3
   · exact hne (f3 ▸ he)
   · rw [f3] at he; cases he; omega
  refine ⟨⟨by rw [List.length_append, segCells_app l m xs ys hO.len]; exact f1, by simp [hO.len, g1], fun i s x h1 h2 => ?_⟩, hb⟩
  rcases Nat.lt_or_ge i l.length with hil | hil
  · rw [List.getElem?_append_left hil] at h1
    rw [List.getElem?_append_left (by rw [hO.len]; exact hil)] at h2
    exact (hO.el i s x h1 h2).cong (fun b hb' => ⟨by omega, hc b hb'.1 hb'.2⟩) (fun b hb' => f2.block b hb'.1 (fun e => hb'.2 e.symm))
  · rw [List.getElem?_append_right hil] at h1
    rw [List.getElem?_append_right (by rw [hO.len]; exact hil), hO.len] at h2
    exact (g4 _ s x h1 h2).cong (fun b hb' => ⟨by have := (hS b hb').1; omega, hc b (hS b hb').1 (hS b hb').2⟩) (fun b hb' => f2.block b (hS b hb').1 (fun e => (hS b hb').2 e.symm))
 cases ao with
 | none =>
   obtain ⟨rfl, rfl⟩ := g2 rfl
   have hr := run_append_owned_none (P := Tryz.prog) (w := w) B 39 o.type 94 i0 2 Tryz.underlying39 hi v l.length (segCells l xs) hO.row
   unfold Oper.wp
   simp [execOp, ho, resolve, invoke, builtin, hs, hx, hr, Result.andThen]
   obtain ⟨k1, k2⟩ := fin v w (by
    have : ys = [] := List.length_eq_zero_iff.1 g1
    subst this
    simpa [segCells] using hO.row) ⟨rfl, rfl, rfl, Nat.le_refl _, fun _ _ _ => rfl⟩ (.inl rfl)
   exact h v w _ k1 k2
 | some ad =>
   obtain ⟨v', w', hr, h2, h3, _, h5⟩ := run_append_own_at (P := Tryz.prog) w B 39 o.type 94 i0 (.agg #[.string ⟨#[]⟩, .slice none 0 0]) 2 40 Tryz.underlying39 hi hz0 hz1 hz2 rfl (by decide) v l.length (segCells l xs) hO.row ad m.length cap (segCells m ys) (segCells_len m ys g1) (g5 ad rfl) (segCells_one m ys g3) (by unfold maxLen; omega) (by omega) hB
   unfold Oper.wp execOp
   simp only [ho, resolve, invoke, builtin, Sem.run_bind, Sem.run_pure, Result.andThen_ok, List.map_toArray, List.map_cons, List.map_nil, hs, hx, hr]
   obtain ⟨k1, k2⟩ := fin v' w' h2 h3 h5
   exact h v' w' _ k1 k2
theorem results_cell1 {fn : Func} {p : Tmp} {ty : TypeId} (h : fn.results = #[.cell p ty]) (tmps : Array Value) (P : Program) (w : World) :
  (results fn tmps).run P w = ((asAddr (tmps.getD p undef)).run P w).andThen fun a w₁ => (loadVar ty a).run P w₁ := by
 simp only [results, h]
 simp [Sem.run_bind, Result.andThen]
theorem res_seg {fn : Func} {p : Tmp} (h : fn.results = #[.cell p 94]) (tmps : Array Value) {w : World} {g : Nat} {cs : Array Value} {t : TypeId} (hp : tmps.getD p undef = .pointer (some ⟨g, 0, none⟩))
  (hg : w.heap[g]? = some (.cells cs t (0, 0))) (hs : cs.size = 2) : (results fn tmps).run Tryz.prog w = .ok (.agg cs) w := by
 rw [results_cell1 h, hp]
 have hl : (loadVar 94 ⟨g, 0, none⟩).run Tryz.prog w = .ok (.agg cs) w := run_loadVar_row w g t 94 cs (0, 0) _ hg Tryz.underlying94 rfl (by rw [hs]; kernel_rfl)
 simp [asAddr, hl, Result.andThen]
def SegQ (st : ByteArray) (es : List (List Str)) (w : World) (e : Ending) (w' : World) : Prop := ∃ ev, e = .returned (.agg #[.string st, ev]) ∧ ElemsAt (fun k => w.heap.size ≤ k ∧ k < w'.heap.size) w' ev es ∧ Below w.heap.size w w'
def nums (l : List Nat) : List (List Str) := l.map fun v => [decT v]
set_option maxRecDepth 100000 in
set_option maxHeartbeats 8000000 in
theorem segment_any (st : ByteArray) (l : List Nat) (ab ao cap : Nat) (w : World) (hv : VarsOk w) (hl : l.length ≤ 16) (h64 : ∀ v ∈ l, v < 18446744073709551616) (hcap : l.length ≤ cap) (_hcap2 : cap ≤ 16)
  (hc : ∀ (i v : Nat), l[i]? = some v → w.cell? ⟨ab, ao + i, none⟩ = some (.int .u64 (v : Int))) :
  Calls Tryz.prog 96 #[.string st, .slice (some ⟨ab, ao, none⟩) l.length cap] w fun e w' => SegQ st (nums l) w e w' := by
 obtain ⟨B, hB⟩ : ∃ B, w.heap.size = B := ⟨_, rfl⟩
 have HBQ := Lib.hid hB
 have HC := Lib.hid hc
 have HV := Lib.hid hv
 have H64 := Lib.hid h64
 obtain ⟨n, hn⟩ : ∃ n, l.length = n := ⟨_, rfl⟩
 have HN := Lib.hid hn
 rw [hn] at hl hcap ⊢
 unfold SegQ
 rw [hB]
 obtain ⟨i2, hi2, hz20, hz21, hz22⟩ := info_parts einfo_strs
 have HI2 := Lib.hid hi2
 have HZ20 := Lib.hid hz20
 have HZ21 := Lib.hid hz21
 have HZ22 := Lib.hid hz22
 clear hi2 hz20 hz21 hz22 hc hv h64 hn
 obtain ⟨w1, hw1⟩ : ∃ w1, w.alloc (.cells #[.string ⟨#[]⟩, .slice none 0 0] 94) = w1 := ⟨_, rfl⟩
 have hz1 : w1.heap.size = B + 1 := by rw [← hw1]; simp [hB]
 have HB1 : Hid (Below B w w1) := Lib.hid (by rw [← hw1, ← hB]; exact (Below.refl _ _).alloc (Nat.le_refl _) _)
 have HR1 : Hid (w1.heap[B]? = some (.cells #[.string ⟨#[]⟩, .slice none 0 0] 94 (0, 0))) := Lib.hid (by rw [← hw1, ← hB]; exact heap_alloc_new _ _)
 obtain ⟨w2, hw2⟩ : ∃ w2, w1.alloc (.cells #[.string st, .slice none 0 0] 94) = w2 := ⟨_, rfl⟩
 have HE0 : Hid (OE (B + 1) (B + 1) st w2 (.slice none 0 0) [] []) := Lib.hid (OE.start (by rw [← hw2, ← hz1]; exact heap_alloc_new _ _))
 have HB2 : Hid (Below (B + 1) w1 w2) := Lib.hid (by rw [← hw2, ← hz1]; exact (Below.refl _ _).alloc (Nat.le_refl _) _)
 have hz2 : w2.heap.size = B + 2 := by rw [← hw2]; simp [hz1]
 have HZ1 := Lib.hid hz1
 have HZ2 := Lib.hid hz2
 have HW1 := Lib.hid hw1
 have HW2 := Lib.hid hw2
 clear hz1 hz2 hw1 hw2
 go_enter Tryz.func96, Tryz.ntmps96
 go_wp2_with fail
 rw [HW1.out, HW2.out]
 clear hB
 go_loopw [12] (fun i wx => ∃ (m : Nat) (ev : Value) (ys : List Value), m ≤ n ∧ i = .int .i64 (m : Int) ∧ Hid (OE (B + 1) (B + 1) st wx ev ys ((nums l).take m)) ∧ Hid (Below (B + 1) w1 wx) ∧ B + 1 < wx.heap.size) (fun i _ => n - (intOf i).toNat)
 case atStart => exact ⟨0, _, [], by omega, rfl, HE0, HB2, by rw [HZ2.out]; omega⟩
 case round =>
  obtain ⟨m, ev, ys, hm, rfl, HE1, HB3, hzx⟩ := hrel
  by_cases hml : m < n
  · skip
    obtain ⟨u, hu⟩ : ∃ u, l[m]? = some u := ⟨_, List.getElem?_eq_getElem (by rw [HN.out]; exact hml)⟩
    have hu64 := H64.out u (List.mem_of_getElem? hu)
    have hcu := HC.out m u hu
    have habB : ab < B := by rw [← HBQ.out]; exact cell_lt' hcu
    have HBW := Lib.hid (show Below B w wr from HB1.out.trans (HB3.out.mono (by omega)))
    have d1 := (HBW.out.cell (p := ⟨ab, ao + m, none⟩) habB).trans hcu
    have hne : (nums l)[m]? = some [decT u] := by unfold nums; rw [List.getElem?_map, hu]; rfl
    have HNE := Lib.hid hne
    have hlm : ((nums l).take m).length = m := by unfold nums; rw [List.length_take, List.length_map, HN.out]; omega
    obtain ⟨eva, evc, rfl⟩ := own_slice HE1.out.row
    rw [hlm] at HE1
    obtain ⟨f0, f1, fz⟩ := HE1.out.cells
    have b3 : (0 : Int) ≤ m := by omega
    have b4 : (m : Int) < n := by omega
    have HLM := Lib.hid hlm
    have HVX := Lib.hid (HV.out.on HBW.out (by rw [HBQ.out]; exact Nat.le_refl _))
    clear hcu hne hlm f0 hu
    go_upto_region 5 with fail
    obtain ⟨wd, hwd⟩ : ∃ wd, wr.drew = wd := ⟨_, rfl⟩
    have hwh : wd.heap = wr.heap := by rw [← hwd]; rfl
    have HE2 := Lib.hid (HE1.out.drew hwh)
    have HB4 := Lib.hid (show Below wr.heap.size wr wd by rw [← hwd]; exact (Below.refl _ _).drew)
    have f1' : wd.cell? ⟨B + 1, 1, none⟩ = some (.slice eva m evc) := (cell_ag (by rw [hwh])).trans f1
    have HWS := Lib.hid (show wd.heap.size = wr.heap.size by rw [hwh])
    have HVD := Lib.hid (HVX.out.on HB4.out (Nat.le_refl _))
    refine wp_region_planF 8 [(0, false), (1, false), (2, false), (3, true), (4, true), (5, true), (6, true), (7, false), (8, true)]
     (fun w' => w'.cell? ⟨B + 1, 1, none⟩ = some (.slice eva m evc)) (by kernel_rfl) (by kernel_rfl) (by rw [hwd]; exact f1') ?_
    rw [hwd]
    have HF1 := Lib.hid f1'
    clear hwd hwh f1 fz d1 HE1 f1'
    iterate 3 (refine' planF_val rfl rfl (fun w' hS => ?_) ?_; rotate_left; (focus (go_simp; rfl)); simp only [Act.put, List.setIfInBounds_toArray, List.set_cons_zero, List.set_cons_succ])
    refine planF_do rfl (fun K hK => ?_)
    obtain ⟨D0, hD0⟩ : ∃ D, wd.heap.size = D := ⟨_, rfl⟩
    have HD0 := Lib.hid hD0
    have hspD : B + 1 < D0 := by have h1 := HE2.out.lt; omega
    clear hD0
    go_wp2_with (go_at_call 128; refine (fmt_any u hu64 _ HVD.out).mono ?_; rw [HD0.out]; rintro e wc ⟨rfl, hb⟩; have HBC := Lib.hid hb; clear hb)
    refine hK _ _ (.inr ((HBC.out.cell (p := ⟨B + 1, 1, none⟩) hspD).trans HF1.out)) ?_
    clear hK K
    have hzc := HBC.out.size
    rw [HD0.out] at hzc
    obtain ⟨D, hD⟩ : ∃ D, wc.heap.size = D := ⟨_, rfl⟩
    have HD := Lib.hid hD
    rw [hD] at hzc
    obtain ⟨we, hwe⟩ : ∃ we, wc.alloc (.cells #[.string ⟨(decT u).toArray⟩] 9) = we := ⟨_, rfl⟩
    have HBe : Hid (Below D wc we) := Lib.hid (by rw [← hwe, ← hD]; exact (Below.refl _ _).alloc (Nat.le_refl _) _)
    have hze : we.heap.size = D + 1 := by rw [← hwe, ← hD]; simp
    have HCO : Hid (CompsAt (fun b => D0 ≤ b ∧ b < we.heap.size) we (.slice (some ⟨D, 0, none⟩) 1 1) [decT u]) := Lib.hid (by
     refine ⟨some ⟨D, 0, none⟩, 1, rfl, Nat.le_refl _, by decide, (fun e => by cases e), fun _ => ⟨D, 0, rfl, ⟨hzc, by omega⟩, fun i x hx => ?_⟩⟩
     match i, hx with
     | 0, hx => simp at hx; subst hx; rw [← hwe, ← hD]; simp [sv]
     | i + 1, hx => simp at hx)
    have HBDE : Hid (Below D0 wd we) := Lib.hid (HBC.out.trans (HBe.out.mono hzc))
    have HWE := Lib.hid hwe
    clear hwe hD
    refine planF_do rfl (fun K hK => ?_)
    go_wp2_with fail
    rw [HWE.out, HD.out]
    refine hK _ _ (.inr ((HBDE.out.cell (p := ⟨B + 1, 1, none⟩) hspD).trans HF1.out)) ?_
    clear hK K
    refine planF_do rfl (fun K hK => ?_)
    go_wp2_with fail
    refine hK _ _ (.inr ((Below.heap_alloc _ _ _ (by omega) |> fun h => cell_ag h).trans ((HBDE.out.cell (p := ⟨B + 1, 1, none⟩) hspD).trans HF1.out))) ?_
    clear hK K
    refine planF_do rfl (fun K hK => ?_)
    have hrow : we.ownsRow (B + 1) 58 1 (.slice eva m evc) m ys := by
     have h1 := HE2.out.row
     rw [HLM.out] at h1
     exact own_cong h1 (fun b hb => HBDE.out.block b (by rw [← HD0.out]; exact (own_lt h1 hb).2))
    have HRW := Lib.hid hrow
    clear hrow
    refine wpList_append_own_at _ rfl _ _ 92 rfl (B + 1) 58 i2 (.slice none 0 0) 1 24 Tryz.underlying92 HI2.out HZ20.out HZ21.out HZ22.out rfl (by decide) _ _ _ rfl (HRW.out.alloc _) ⟨we.heap.size, 0, none⟩ 1 1 [.slice (some ⟨D, 0, none⟩) 1 1] (by rw [hze]; rfl) rfl (cell_one_new _ _ _) (by simp [Value.oneCell']) (by unfold maxLen; omega) (by omega) (by simp; omega) ?_
    intro ev' wg hog hgg _ hkg
    obtain ⟨ev'a, ev'c, rfl⟩ := own_slice hog
    have hgg' := grown_alloc hgg
    have hzg := hgg'.size
    have hne1 : (Value.slice eva m evc).ownBlock ≠ some (B + 1) := own_not HE2.out.row HE2.out.c (by decide)
    have cg : wg.heap[B + 1]? = some (.cells #[.string st, .slice eva m evc] 94 (0, 0)) := (hgg'.block (B + 1) (by omega) (fun e => hne1 e.symm)).trans ((HBDE.out.block (B + 1) hspD).trans HE2.out.c)
    have cg1 : wg.cell? ⟨B + 1, 1, none⟩ = some (.slice eva m evc) := cell_of_row wg (B + 1) 1 _ _ _ cg
    have fg1 : wg.frozen? ⟨B + 1, 1, none⟩ = false := frozen_of_row wg (B + 1) 1 _ _ cg
    have HSTEP : Hid (OE (B + 1) (B + 1) st (wg.setCell ⟨B + 1, 1, none⟩ (.slice ev'a (m + 1) ev'c)) (.slice ev'a (m + 1) ev'c) (ys ++ [.slice (some ⟨D, 0, none⟩) 1 1]) ((nums l).take m ++ [[decT u]])) := Lib.hid (by
     refine OE.step HE2.out (by rw [HD0.out]; omega) (by rw [HD0.out]; exact HBDE.out) (by rw [HD0.out]; exact HCO.out) hgg' (by rw [HLM.out]; exact hog) ?_
     rcases hkg with h | h
     · exact .inl h
     · exact .inr ⟨_, h, by simp⟩)
    have HBG : Hid (Below (B + 1) wr wg) := Lib.hid (by
     have h1 := (HBDE.out.mono (show B + 1 ≤ D0 by omega))
     have h2 := HB4.out.mono (show B + 1 ≤ wr.heap.size by omega)
     have h3 := h2.trans h1
     exact h3.grown hgg' (by omega) (fun b hb => (own_lt HRW.out hb).1))
    have HKS := Lib.hid cg1
    clear hog hgg hkg hgg' hne1 cg
    go_wp2_with fail
    refine hK _ _ (.inr HKS.out) ?_
    clear hK K
    (refine' planF_val rfl rfl (fun w' hS => ?_) ?_; rotate_left; (focus (go_simp; rfl)); simp only [Act.put, List.setIfInBounds_toArray, List.set_cons_zero, List.set_cons_succ])
    refine planF_do rfl (fun K hK => ?_)
    go_wp2_with fail
    refine hK _ _ (.inl trivial) ?_
    clear hK K
    refine planF_nil ?_
    clear cg1 fg1
    obtain ⟨wh, hwh⟩ : ∃ wh, wg.setCell ⟨B + 1, 1, none⟩ (.slice ev'a (m + 1) ev'c) = wh := ⟨_, rfl⟩
    have hzh : wh.heap.size = wg.heap.size := by rw [← hwh]; simp
    have HBH : Hid (Below (B + 1) wr wh) := Lib.hid (by rw [← hwh]; exact HBG.out.setCell (Nat.le_refl _) _)
    rw [hwh] at HSTEP ⊢
    have HHB := Lib.hid (HB3.out.trans HBH.out)
    have hzz : B + 1 < wh.heap.size := by omega
    clear hwh hzh
    go_wp2_with fail
    go_roundw
    case rel =>
     exact ⟨m + 1, .slice ev'a (m + 1) ev'c, ys ++ [.slice (some ⟨D, 0, none⟩) 1 1], by omega, by go_num, Lib.hid (by rw [List.take_add_one, HNE.out]; exact HSTEP.out), Lib.hid HHB.out, hzz⟩
    case measure => simp [intOf]; omega
  · skip
    obtain rfl : m = n := by omega
    have hte : (nums l).take m = nums l := List.take_of_length_le (by unfold nums; rw [List.length_map, HN.out]; exact Nat.le_refl _)
    rw [hte] at HE1
    obtain ⟨eva, evc, rfl⟩ := own_slice HE1.out.row
    obtain ⟨g0, g1, _⟩ := HE1.out.cells
    have hr := (HB3.out.block B (by omega)).trans HR1.out
    have r0 : wr.cell? ⟨B, 0, none⟩ = some (.string ⟨#[]⟩) := cell_of_row wr B 0 _ _ _ hr
    have r1 : wr.cell? ⟨B, 1, none⟩ = some (.slice none 0 0) := cell_of_row wr B 1 _ _ _ hr
    have z0 := frozen_of_row wr B 0 _ _ hr
    have z1 := frozen_of_row wr B 1 _ _ hr
    have HR := Lib.hid hr
    clear hte hr
    go_wp2_with fail
    refine bodyPost_ret (res_seg rfl _ rfl (heap_setCell_same _ B 1 _ _ _ (heap_setCell_same _ B 0 _ _ _ HR.out)) rfl) rfl ?_
    refine ⟨_, rfl, ?_, ((HB1.out.trans (HB3.out.mono (by omega))).setCell (Nat.le_refl _) _).setCell (Nat.le_refl _) _⟩
    have h5 : RowAt (fun b => B + 1 ≤ b ∧ b < wr.heap.size) wr (.slice eva (nums l).length evc) ys := own_rest (by rw [HE1.out.len]; exact HE1.out.row) (fun k hk => own_lt HE1.out.row hk)
    have far : ∀ k, B + 1 ≤ k → ((wr.setCell ⟨B, 0, none⟩ (.string st)).setCell ⟨B, 1, none⟩ (.slice eva (nums l).length evc)).heap[k]? = wr.heap[k]? := fun k hk => by
     rw [heap_setCell_other _ _ _ _ (by simp; omega), heap_setCell_other _ _ _ _ (by simp; omega)]
    refine ⟨ys, h5.cong (fun b hb => ⟨by omega, by simp; exact hb.2⟩) (fun b hb => far b hb.1), HE1.out.len, fun i e x h6 h7 => ?_⟩
    exact (HE1.out.el i e x h6 h7).cong (fun b hb => ⟨by omega, by simp; exact hb.2.1⟩) (fun b hb => far b hb.1)
def ones (l : List Str) : List (List Str) := l.map fun v => [v]
set_option maxRecDepth 100000 in
set_option maxHeartbeats 8000000 in
theorem msegment_any {S : Nat → Prop} (st : ByteArray) (l : List Str) (v : Value) (w : World) (hc : CompsAt S w v l) (hS : ∀ k, S k → k < w.heap.size) (hl : l.length ≤ 1000) :
  Calls Tryz.prog 42 #[.string st, v] w fun e w' => SegQ st (ones l) w e w' := by
 obtain ⟨B, hB⟩ : ∃ B, w.heap.size = B := ⟨_, rfl⟩
 have HBQ := Lib.hid hB
 obtain ⟨ao, cap, rfl, hcap, hcm⟩ := hc.form
 have HC := Lib.hid hc
 have HS := Lib.hid hS
 obtain ⟨n, hn⟩ : ∃ n, l.length = n := ⟨_, rfl⟩
 have HN := Lib.hid hn
 rw [hn] at hl hcap HC ⊢
 unfold maxLen at hcm
 unfold SegQ
 rw [hB]
 obtain ⟨i2, hi2, hz20, hz21, hz22⟩ := info_parts einfo_strs
 have HI2 := Lib.hid hi2
 have HZ20 := Lib.hid hz20
 have HZ21 := Lib.hid hz21
 have HZ22 := Lib.hid hz22
 clear hi2 hz20 hz21 hz22 hc hS hn
 obtain ⟨w1, hw1⟩ : ∃ w1, w.alloc (.cells #[.string ⟨#[]⟩, .slice none 0 0] 94) = w1 := ⟨_, rfl⟩
 have hz1 : w1.heap.size = B + 1 := by rw [← hw1]; simp [hB]
 have HB1 : Hid (Below B w w1) := Lib.hid (by rw [← hw1, ← hB]; exact (Below.refl _ _).alloc (Nat.le_refl _) _)
 have HR1 : Hid (w1.heap[B]? = some (.cells #[.string ⟨#[]⟩, .slice none 0 0] 94 (0, 0))) := Lib.hid (by rw [← hw1, ← hB]; exact heap_alloc_new _ _)
 obtain ⟨w2, hw2⟩ : ∃ w2, w1.alloc (.cells #[.string st, .slice none 0 0] 94) = w2 := ⟨_, rfl⟩
 have HE0 : Hid (OE (B + 1) (B + 1) st w2 (.slice none 0 0) [] []) := Lib.hid (OE.start (by rw [← hw2, ← hz1]; exact heap_alloc_new _ _))
 have HB2 : Hid (Below (B + 1) w1 w2) := Lib.hid (by rw [← hw2, ← hz1]; exact (Below.refl _ _).alloc (Nat.le_refl _) _)
 have hz2 : w2.heap.size = B + 2 := by rw [← hw2]; simp [hz1]
 have HZ1 := Lib.hid hz1
 have HZ2 := Lib.hid hz2
 have HW1 := Lib.hid hw1
 have HW2 := Lib.hid hw2
 clear hz1 hz2 hw1 hw2
 go_enter Tryz.func42, Tryz.ntmps42
 go_wp2_with fail
 rw [HW1.out, HW2.out]
 clear hB
 go_loopw [12] (fun i wx => ∃ (m : Nat) (ev : Value) (ys : List Value), m ≤ n ∧ i = .int .i64 (m : Int) ∧ Hid (OE (B + 1) (B + 1) st wx ev ys ((ones l).take m)) ∧ Hid (Below (B + 1) w1 wx) ∧ B + 1 < wx.heap.size) (fun i _ => n - (intOf i).toNat)
 case atStart => exact ⟨0, _, [], by omega, rfl, HE0, HB2, by rw [HZ2.out]; omega⟩
 case round =>
  obtain ⟨m, ev, ys, hm, rfl, HE1, HB3, hzx⟩ := hrel
  by_cases hml : m < n
  · skip
    obtain ⟨p, hp⟩ : ∃ p, l[m]? = some p := ⟨_, List.getElem?_eq_getElem (by rw [HN.out]; exact hml)⟩
    obtain ⟨ab, off, rfl, hSab, hcu⟩ := HC.out.get hp
    have habB : ab < B := by rw [← HBQ.out]; exact HS.out _ hSab
    have HBW := Lib.hid (show Below B w wr from HB1.out.trans (HB3.out.mono (by omega)))
    have d1 := (HBW.out.cell (p := ⟨ab, off + m, none⟩) habB).trans hcu
    have hne : (ones l)[m]? = some [p] := by unfold ones; rw [List.getElem?_map, hp]; rfl
    have HNE := Lib.hid hne
    have hlm : ((ones l).take m).length = m := by unfold ones; rw [List.length_take, List.length_map, HN.out]; omega
    obtain ⟨eva, evc, rfl⟩ := own_slice HE1.out.row
    rw [hlm] at HE1
    obtain ⟨f0, f1, fz⟩ := HE1.out.cells
    have b3 : (0 : Int) ≤ m := by omega
    have b4 : (m : Int) < n := by omega
    have HLM := Lib.hid hlm
    obtain ⟨D, hD⟩ : ∃ D, wr.heap.size = D := ⟨_, rfl⟩
    have HD := Lib.hid hD
    obtain ⟨sp, hsp⟩ : ∃ sp : ByteArray, (⟨p.toArray⟩ : ByteArray) = sp := ⟨_, rfl⟩
    unfold sv at d1
    rw [hsp] at d1
    have HSP := Lib.hid hsp
    obtain ⟨wa, hwa⟩ : ∃ wa, (wr.alloc (.cells #[.string sp] 9)).alloc (.cells #[.slice (some ⟨wr.heap.size, 0, none⟩) 1 1] 58) = wa := ⟨_, rfl⟩
    have hza : wa.heap.size = D + 2 := by rw [← hwa, ← hD]; simp
    have HBa : Hid (Below D wr wa) := Lib.hid (by rw [← hwa, ← hD]; exact ((Below.refl _ _).alloc (Nat.le_refl _) _).alloc (by simp) _)
    have HCa : Hid (CompsAt (fun b => wr.heap.size ≤ b ∧ b < wa.heap.size) wa (.slice (some ⟨D, 0, none⟩) 1 1) [p]) := Lib.hid (by
     refine ⟨some ⟨D, 0, none⟩, 1, rfl, Nat.le_refl _, by decide, (fun e => by cases e), fun _ => ⟨D, 0, rfl, ⟨by omega, by omega⟩, fun i x hx => ?_⟩⟩
     match i, hx with
     | 0, hx =>
       simp at hx; subst hx
       have e := heap_alloc_new wr (.cells #[.string sp] 9)
       have e2 : wa.heap[D]? = some (.cells #[.string sp] 9 (0, 0)) := by
        rw [← hwa, ← hD]
        exact (Below.heap_alloc _ _ _ (by simp)).trans e
       rw [cell_of_row wa D 0 _ _ _ e2]
       unfold sv; rw [HSP.out]; rfl
     | i + 1, hx => simp at hx)
    have hrow0 : wr.ownsRow (B + 1) 58 1 (.slice eva m evc) m ys := by
     have h1 := HE1.out.row
     rw [HLM.out] at h1
     exact h1
    have hrow : wa.ownsRow (B + 1) 58 1 (.slice eva m evc) m ys := own_cong hrow0 (fun b hb => HBa.out.block b (by rw [← HD.out]; exact (own_lt hrow0 hb).2))
    have HRW := Lib.hid hrow
    have HRW0 := Lib.hid hrow0
    have HWA := Lib.hid hwa
    have HZA := Lib.hid hza
    clear hcu hne hlm f0 hp hD hsp hwa hza hrow hrow0
    go_wp2_with ((with_reducible refine wpList_at (.call { callee := .builtin .append, args := #[.tmp 17, .tmp 20], argTypes := #[92, 92] }) rfl ?_); rw [HWA.out, HD.out]; go_loud (refine wpList_append_own_at _ rfl _ _ 92 rfl (B + 1) 58 i2 (.slice none 0 0) 1 24 Tryz.underlying92 HI2.out HZ20.out HZ21.out HZ22.out rfl (by decide) _ _ _ rfl HRW.out ⟨D + 1, 0, none⟩ 1 1 [.slice (some ⟨D, 0, none⟩) 1 1] (by rfl) rfl (by rw [← HWA.out, ← HD.out]; exact cell_one_new2 _ _ _ _) (by simp [Value.oneCell']) (by unfold maxLen; omega) (by omega) (by rw [HZA.out]; have := HD.out; omega) ?_); intro ev' wg hog hgg _ hkg; obtain ⟨ev'a, ev'c, rfl⟩ := own_slice hog; have hne1 : (Value.slice eva m evc).ownBlock ≠ some (B + 1) := own_not HE1.out.row HE1.out.c (by decide); have cg : wg.heap[B + 1]? = some (.cells #[.string st, .slice eva m evc] 94 (0, 0)) := (hgg.block (B + 1) (by rw [HZA.out]; have := HD.out; omega) (fun e => hne1 e.symm)).trans ((HBa.out.block (B + 1) (by have := HD.out; omega)).trans HE1.out.c); have cg1 : wg.cell? ⟨B + 1, 1, none⟩ = some (.slice eva m evc) := cell_of_row wg (B + 1) 1 _ _ _ cg; have fg1 : wg.frozen? ⟨B + 1, 1, none⟩ = false := frozen_of_row wg (B + 1) 1 _ _ cg; have HOG := Lib.hid hog; have HGG := Lib.hid hgg; have HKG := Lib.hid hkg; clear hog hgg hkg hne1 cg)
    obtain ⟨wh, hwh⟩ : ∃ wh, wg.setCell ⟨B + 1, 1, none⟩ (.slice ev'a (m + 1) ev'c) = wh := ⟨_, rfl⟩
    have hzg := HGG.out.size
    have hzh : wh.heap.size = wg.heap.size := by rw [← hwh]; simp
    have HSTEP : Hid (OE (B + 1) (B + 1) st wh (.slice ev'a (m + 1) ev'c) (ys ++ [.slice (some ⟨D, 0, none⟩) 1 1]) ((ones l).take m ++ [[p]])) := Lib.hid (by
     rw [← hwh]
     refine OE.step HE1.out (by have := HD.out; omega) (by rw [HD.out]; exact HBa.out) HCa.out HGG.out (by rw [HLM.out]; exact HOG.out) ?_
     rcases HKG.out with h | h
     · exact .inl h
     · exact .inr ⟨_, h, Nat.le_refl _⟩)
    have HBH : Hid (Below (B + 1) wr wh) := Lib.hid (by
     rw [← hwh]
     exact ((HBa.out.mono (by have := HD.out; omega)).grown HGG.out (by rw [HZA.out]; have := HD.out; omega) (fun b hb => (own_lt HRW.out hb).1)).setCell (Nat.le_refl _) _)
    have HHB := Lib.hid (HB3.out.trans HBH.out)
    have hzz : B + 1 < wh.heap.size := by have := HBH.out.size; omega
    rw [hwh]
    clear hwh hzh hzg cg1 fg1 d1 f1 fz
    go_roundw
    case rel =>
     exact ⟨m + 1, .slice ev'a (m + 1) ev'c, ys ++ [.slice (some ⟨D, 0, none⟩) 1 1], by omega, by go_num, Lib.hid (by rw [List.take_add_one, HNE.out]; exact HSTEP.out), Lib.hid HHB.out, hzz⟩
    case measure => simp [intOf]; omega
  · skip
    obtain rfl : m = n := by omega
    have hte : (ones l).take m = ones l := List.take_of_length_le (by unfold ones; rw [List.length_map, HN.out]; exact Nat.le_refl _)
    rw [hte] at HE1
    obtain ⟨eva, evc, rfl⟩ := own_slice HE1.out.row
    obtain ⟨g0, g1, _⟩ := HE1.out.cells
    have hr := (HB3.out.block B (by omega)).trans HR1.out
    have r0 : wr.cell? ⟨B, 0, none⟩ = some (.string ⟨#[]⟩) := cell_of_row wr B 0 _ _ _ hr
    have r1 : wr.cell? ⟨B, 1, none⟩ = some (.slice none 0 0) := cell_of_row wr B 1 _ _ _ hr
    have z0 := frozen_of_row wr B 0 _ _ hr
    have z1 := frozen_of_row wr B 1 _ _ hr
    have HR := Lib.hid hr
    clear hte hr
    go_wp2_with fail
    refine bodyPost_ret (res_seg rfl _ rfl (heap_setCell_same _ B 1 _ _ _ (heap_setCell_same _ B 0 _ _ _ HR.out)) rfl) rfl ?_
    refine ⟨_, rfl, ?_, ((HB1.out.trans (HB3.out.mono (by omega))).setCell (Nat.le_refl _) _).setCell (Nat.le_refl _) _⟩
    have h5 : RowAt (fun b => B + 1 ≤ b ∧ b < wr.heap.size) wr (.slice eva (ones l).length evc) ys := own_rest (by rw [HE1.out.len]; exact HE1.out.row) (fun k hk => own_lt HE1.out.row hk)
    have far : ∀ k, B + 1 ≤ k → ((wr.setCell ⟨B, 0, none⟩ (.string st)).setCell ⟨B, 1, none⟩ (.slice eva (ones l).length evc)).heap[k]? = wr.heap[k]? := fun k hk => by
     rw [heap_setCell_other _ _ _ _ (by simp; omega), heap_setCell_other _ _ _ _ (by simp; omega)]
    refine ⟨ys, h5.cong (fun b hb => ⟨by omega, by simp; exact hb.2⟩) (fun b hb => far b hb.1), HE1.out.len, fun i e x h6 h7 => ?_⟩
    exact (HE1.out.el i e x h6 h7).cong (fun b hb => ⟨by omega, by simp; exact hb.2.1⟩) (fun b hb => far b hb.1)
def WordsQ (o : Option (List Str)) (w : World) (e : Ending) (w' : World) : Prop := ∃ v b, e = .returned (.tuple #[v, .bool b]) ∧ Below w.heap.size w w' ∧ ((∃ ws, o = some ws ∧ b = true ∧ CompsAt (fun k => w.heap.size ≤ k ∧ k < w'.heap.size) w' v ws) ∨ (o = none ∧ b = false ∧ v = .slice none 0 0))
theorem wordsQ_no {o : Option (List Str)} {w w' : World} (h : o = none) (hb : Below w.heap.size w w') : WordsQ o w (.returned (.tuple #[.slice none 0 0, .bool false])) w' := ⟨_, _, rfl, hb, .inr ⟨h, rfl, rfl⟩⟩
theorem wordsL_snoc {es : List (List Str)} {ws : List Str} {x : Str} (h : wordsL es = some ws) : wordsL (es ++ [[x]]) = some (ws ++ [x]) := by
 induction es generalizing ws with
 | nil => cases h; rfl
 | cons e es ih =>
   show (match oneW e, wordsL (es ++ [[x]]) with | some v, some l => some (v :: l) | _, _ => none) = _
   have h' : (match oneW e, wordsL es with | some v, some l => some (v :: l) | _, _ => none) = some ws := h
   cases ho : oneW e with
   | none => rw [ho] at h'; cases h'
   | some v =>
     rw [ho] at h'
     cases hl : wordsL es with
     | none => rw [hl] at h'; cases h'
     | some l =>
       rw [hl] at h'
       cases h'
       rw [ih hl]; rfl
theorem wordsL_bad {es : List (List Str)} {i : Nat} {e : List Str} (hi : es[i]? = some e) (he : e.length ≠ 1) : wordsL es = none := by
 induction es generalizing i with
 | nil => simp at hi
 | cons a es ih =>
   show (match oneW a, wordsL es with | some v, some l => some (v :: l) | _, _ => none) = _
   cases i with
   | zero =>
     have : a = e := by simpa using hi
     subst this
     have : oneW a = none := by
      match a, he with
      | [], _ => rfl
      | [x], he => simp at he
      | _ :: _ :: _, _ => rfl
     rw [this]
   | succ i =>
     rw [ih (i := i) (by simpa using hi)]
     cases oneW a <;> rfl
set_option maxRecDepth 100000 in
set_option maxHeartbeats 8000000 in
theorem words_any {S : Nat → Prop} (l : List Seg) (v : Value) (w : World) (h : SegsAt S w v l) (hS : ∀ k, S k → k < w.heap.size) (at_ n : Nat) (t : Str) (st : ByteArray) (hst : (⟨t.toArray⟩ : ByteArray) = st) (hat62 : at_ < 4611686018427387904) (hn62 : n ≤ 1048576) :
  Calls Tryz.prog 52 #[v, .int .i64 (at_ : Int), .string st, .int .i64 (n : Int)] w fun e w' => WordsQ ((l[at_]?).bind fun s => wordsS s t n) w e w' := by
 obtain ⟨ao, cap, rfl, hcap, hcm⟩ := h.form
 unfold maxLen at hcm
 obtain ⟨m, hm⟩ : ∃ m, l.length = m := ⟨_, rfl⟩
 have HM := Lib.hid hm
 have H := Lib.hid h
 have HS := Lib.hid hS
 have HST := Lib.hid hst
 rw [hm] at hcap H ⊢
 clear h hS hst hm
 by_cases hat : at_ < m
 · obtain ⟨s, hs⟩ : ∃ s, l[at_]? = some s := ⟨_, List.getElem?_eq_getElem (by rw [HM.out]; exact hat)⟩
   obtain ⟨b, off, x, rfl, hSb, c0, c1, he⟩ := H.out.get hs
   obtain ⟨eo, ecap, rfl, hec, hecm⟩ := he.form
   unfold maxLen at hecm
   rw [hs]
   simp only [Option.bind_some]
   have i1 : decide (m ≤ at_) = false := by rw [decide_eq_false_iff_not]; omega
   have i2 : (at_ : Int) < (m : Int) := by omega
   have i3 : (0 : Int) ≤ (at_ : Int) := by omega
   obtain ⟨sg, hsg⟩ : ∃ sg : ByteArray, (⟨s.tag.toArray⟩ : ByteArray) = sg := ⟨_, rfl⟩
   unfold sv at c0
   rw [hsg] at c0
   by_cases htag : s.tag = t
   · have hsame : sg = st := by rw [← hsg, htag, HST.out]
     subst hsame
     have t1 := str_same sg
     by_cases hn : s.elems.length = n
     · have HN := Lib.hid hn
       rw [hn] at c1 he hec
       have n1 : ((n : Int) != (n : Int)) = false := by simp
       have HE := Lib.hid he
       have HW := Lib.hid (show wordsS s t n = wordsL s.elems by unfold wordsS; rw [if_pos ⟨htag, HN.out⟩])
       obtain ⟨B, hB⟩ : ∃ B, w.heap.size = B := ⟨_, rfl⟩
       have HBQ := Lib.hid hB
       obtain ⟨i0, hi, hz0, hz1, hz2⟩ := info_parts einfo_str
       have HI := Lib.hid hi
       have HZ0 := Lib.hid hz0
       have HZ1 := Lib.hid hz1
       have HZ2 := Lib.hid hz2
       have HSb := Lib.hid hSb
       have hbB : b < w.heap.size := HS.out _ hSb
       clear he hn hs hsg hB hi hz0 hz1 hz2 hSb H
       go_enter Tryz.func52, Tryz.ntmps52
       go_wp2_with fail
       go_loopw [10, 42] (fun ov i wx => ∃ (k : Nat) (ws : List Str), k ≤ n ∧ i = .int .i64 (k : Int) ∧ Hid (wordsL (s.elems.take k) = some ws ∧ ws.length = k ∧ wx.ownsRow B 9 1 ov k (ws.map sv)) ∧ Hid (Below B w wx)) (fun _ i _ => n - (intOf i).toNat)
       case atStart => exact ⟨0, [], by omega, rfl, Lib.hid ⟨rfl, rfl, World.ownsRow_nil _ _ _ _⟩, Lib.hid (Below.refl _ _)⟩
       case round =>
        obtain ⟨k, ws, hk, rfl, HR, HB⟩ := hrel
        by_cases hlt : k < n
        · skip
          obtain ⟨e, hek⟩ : ∃ e, s.elems[k]? = some e := ⟨_, List.getElem?_eq_getElem (by rw [HN.out]; exact hlt)⟩
          obtain ⟨eb, eoff, ev, rfl, hSeb, ce, hce⟩ := HE.out.get hek
          obtain ⟨fo, fcap, rfl, hfc, hfcm⟩ := hce.form
          unfold maxLen at hfcm
          have ce' := (HB.out.cell (p := ⟨eb, eoff + k, none⟩) (by show eb < B; rw [← HBQ.out]; exact HS.out _ hSeb)).trans ce
          have a1 : (k : Int) < (n : Int) := by omega
          have a2 : (0 : Int) ≤ (k : Int) := by omega
          by_cases h1 : e.length = 1
          · obtain ⟨y, rfl⟩ := List.length_eq_one_iff.1 h1
            obtain ⟨gb, goff, rfl, hSgb, cg⟩ := hce.get (k := 0) (p := y) rfl
            have cg' := (HB.out.cell (p := ⟨gb, goff + 0, none⟩) (by show gb < B; rw [← HBQ.out]; exact HS.out _ hSgb)).trans cg
            rw [Nat.add_zero] at cg'
            simp only [List.length_cons, List.length_nil, Nat.zero_add] at ce' hfc
            obtain ⟨va, vc, rfl⟩ := own_slice HR.out.2.2
            obtain ⟨sy, hsy⟩ : ∃ sy : ByteArray, (⟨y.toArray⟩ : ByteArray) = sy := ⟨_, rfl⟩
            unfold sv at cg'
            rw [hsy] at cg'
            have HSY := Lib.hid hsy
            have HEK := Lib.hid hek
            have hws := HR.out.2.1
            clear hsy hek ce cg hce h1
            have hrow : (wr.alloc (.cells #[.string sy] 9)).ownsRow B 9 1 (.slice va k vc) k (ws.map sv) := HR.out.2.2.alloc _
            have HRW := Lib.hid hrow
            have HLW := Lib.hid hws
            clear hrow hws
            go_wp2_with ((with_reducible refine wpList_at (.call { callee := .builtin .append, args := #[.tmp 49, .tmp 53], argTypes := #[58, 58] }) rfl ?_); go_loud (refine wpList_append_own_at _ rfl _ _ 58 rfl B 9 i0 (.string ⟨#[]⟩) 1 16 Tryz.underlying58 HI.out HZ0.out HZ1.out HZ2.out rfl (by decide) _ _ _ rfl HRW.out ⟨wr.heap.size, 0, none⟩ 1 1 [.string sy] rfl rfl (cell_one_new _ _ _) (by simp [Value.oneCell']) (by unfold maxLen; omega) (by omega) (by have := HB.out.size; have := HBQ.out; simp; omega) ?_); intro ov' wg hog hgg _ _; obtain ⟨va', vc', rfl⟩ := own_slice hog; have HOG := Lib.hid hog; have HGG := Lib.hid hgg; clear hog hgg)
            go_roundw
            case rel =>
             refine ⟨k + 1, ws ++ [y], by omega, by go_num, Lib.hid ⟨?_, by rw [List.length_append, HLW.out]; rfl, ?_⟩, Lib.hid ?_⟩
             · rw [List.take_add_one, HEK.out]; exact wordsL_snoc HR.out.1
             · rw [List.map_append]
               have e : [y].map sv = [.string sy] := by rw [← HSY.out]; rfl
               rw [e]; exact HOG.out
             · have hh := HB.out.size
               have hq := HBQ.out
               exact HB.out.trans ((Below.refl B wr).grown (grown_alloc HGG.out) (by omega) (fun b' hb' => (own_lt HRW.out hb').1))
            case measure => simp [intOf]; omega
          · have n2 : ((e.length : Int) != 1) = true := by rw [bne_iff_ne]; omega
            have HQ := Lib.hid (HW.out.trans (wordsL_bad hek h1))
            obtain ⟨el, hel⟩ : ∃ el, e.length = el := ⟨_, rfl⟩
            rw [hel] at ce' n2
            clear hel hek ce hce h1 hfc
            go_wp2_with fail
            go_ret2
            exact wordsQ_no HQ.out (by rw [HBQ.out]; exact HB.out)
        · obtain rfl : k = n := by omega
          have hte : s.elems.take k = s.elems := List.take_of_length_le (Nat.le_of_eq HN.out)
          have HQ := Lib.hid (HW.out.trans (show wordsL s.elems = some ws by rw [← hte]; exact HR.out.1))
          clear hte
          go_wp2_with fail
          go_ret2
          refine ⟨_, _, rfl, by rw [HBQ.out]; exact HB.out, .inl ⟨ws, HQ.out, rfl, ?_⟩⟩
          rw [HBQ.out]
          exact own_rest (by rw [List.length_map, HR.out.2.1]; exact HR.out.2.2) (fun _ hk => own_lt HR.out.2.2 hk)
     · have n1 : ((s.elems.length : Int) != (n : Int)) = true := by rw [bne_iff_ne]; omega
       have HQ := Lib.hid (show wordsS s t n = none by unfold wordsS; rw [if_neg (fun h => hn h.2)])
       obtain ⟨el, hel⟩ : ∃ el, s.elems.length = el := ⟨_, rfl⟩
       rw [hel] at c1 n1
       clear hel hs hsg he hn hec H
       go_enter Tryz.func52, Tryz.ntmps52
       go_wp2_with fail
       go_ret2
       exact wordsQ_no HQ.out (Below.refl _ _)
   · have hne : sg ≠ st := fun e => htag (by
      have h1 : (⟨s.tag.toArray⟩ : ByteArray) = ⟨t.toArray⟩ := by rw [hsg, e, HST.out]
      have h2 := congrArg (fun x => x.data.toList) h1
      simpa using h2)
     have t1 := str_ne hne
     have HQ := Lib.hid (show wordsS s t n = none by unfold wordsS; rw [if_neg (fun h => htag h.1)])
     clear hs hsg he htag c1 hec H hne
     go_enter Tryz.func52, Tryz.ntmps52
     go_wp2_with fail
     go_ret2
     exact wordsQ_no HQ.out (Below.refl _ _)
 · have hnone : l[at_]? = none := List.getElem?_eq_none (by rw [HM.out]; omega)
   rw [hnone]
   have i1 : decide (m ≤ at_) = true := by rw [decide_eq_true_eq]; omega
   clear hnone H
   go_enter Tryz.func52, Tryz.ntmps52
   go_wp2_with fail
   go_ret2
   exact wordsQ_no rfl (Below.refl _ _)
end Go.Proofs.YtgfijlamhjjecaaGreatDoor
