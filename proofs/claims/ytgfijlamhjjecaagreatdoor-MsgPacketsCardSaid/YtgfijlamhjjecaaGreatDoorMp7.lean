/-
  Texts EdiZ2, RefB, WrapW, WrapX0, one behind the other. No condition beyond those stated in each.
-/
import Derived.Test.YtgfijlamhjjecaaGreatDoorMp5
import Derived.Test.YtgfijlamhjjecaaGreatDoorMp6
import Derived.Test.YtgfijlamhjjecaaGreatDoorMp3
import Derived.LoopN
import Derived.Laws.EntriesVeiled
/-
  EdiZ2: contract of Print. No condition beyond those stated.
-/
namespace Go.Proofs.YtgfijlamhjjecaaGreatDoor
open Go.RowKit
theorem own_slice {w : World} {B : Nat} {e : TypeId} {s n : Nat} {v : Value} {xs : List Value} (h : w.ownsRow B e s v n xs) : ∃ a c, v = .slice a n c := by
  obtain ⟨_, ⟨h1, h2⟩ | ⟨g, cap, _, h1, _⟩⟩ := h
  · exact ⟨none, 0, by rw [h1, h2]⟩
  · exact ⟨_, cap, h1⟩
theorem len_flat {α : Type} {f : α → Str} {l : List α} {x : α} (h : x ∈ l) : (f x).length ≤ (l.flatMap f).length := by
  induction l with
  | nil => simp at h
  | cons a l ih =>
    rw [List.flatMap_cons, List.length_append]
    rcases List.mem_cons.1 h with rfl | h
    · omega
    · have := ih h; omega
theorem len_flat1 {α : Type} {f : α → Str} {l : List α} (h : ∀ x, 1 ≤ (f x).length) : l.length ≤ (l.flatMap f).length := by
  induction l with
  | nil => simp
  | cons a l ih => rw [List.flatMap_cons, List.length_append, List.length_cons]; have := h a; omega
theorem segT_len (s : Seg) : (segT s).length = s.tag.length + (s.elems.flatMap fun e => 43 :: elemT e).length + 1 := by unfold segT; rw [List.length_append, List.length_append]; rfl
theorem elemT_le {e : List Str} {p : Str} (h : p ∈ e) : p.length ≤ (elemT e).length := by
  have hp := compT_len p
  cases e with
  | nil => simp at h
  | cons a l =>
    rw [elemT_cons, List.length_append]
    rcases List.mem_cons.1 h with rfl | h
    · omega
    · have := len_flat (f := fun p => 58 :: compT p) h
      simp only [List.length_cons] at this
      unfold restT; omega
theorem elemT_cnt (e : List Str) : e.length ≤ (elemT e).length + 1 := by
  cases e with
  | nil => simp
  | cons a l =>
    rw [elemT_cons, List.length_append]
    have := len_flat1 (f := fun p => 58 :: compT p) (l := l) (fun x => by simp)
    unfold restT; rw [List.length_cons]; omega
theorem cat_size (J : Str) : ((⟨J.toArray⟩ : ByteArray) ++ ⟨#[39]⟩).size = J.length + 1 := by simp [ByteArray.size_append]; rfl
theorem cat_list (J : Str) : ((⟨J.toArray⟩ : ByteArray) ++ ⟨#[39]⟩).data.toList = J ++ [39] := by simp [ByteArray.data_append]
/-- bounds on all that is printed -/
structure Bds (N : Nat) (l : List Seg) : Prop where
  n : l.length ≤ N
  seg : ∀ s ∈ l, s.tag.length ≤ N ∧ s.elems.length + 1 ≤ N ∧ (segT s).length ≤ N
  el : ∀ s ∈ l, ∀ e ∈ s.elems, e.length ≤ N ∧ (elemT e).length ≤ N
  co : ∀ s ∈ l, ∀ e ∈ s.elems, ∀ p ∈ e, p.length ≤ N
theorem bds_of {N : Nat} {l : List Seg} (h : (printT l).length ≤ N) : Bds N l := by
  have hs : ∀ s ∈ l, (segT s).length ≤ N := fun s hs => Nat.le_trans (len_flat hs) h
  have he : ∀ s ∈ l, ∀ e ∈ s.elems, (elemT e).length + 2 ≤ N := fun s hs' e he => by
    have h1 := hs s hs'
    have h2 := len_flat (f := fun e => 43 :: elemT e) he
    rw [segT_len] at h1
    simp only [List.length_cons] at h2; omega
  refine ⟨Nat.le_trans (len_flat1 (fun s => by rw [segT_len]; omega)) h, fun s hs' => ?_, fun s hs' e he' => ?_, fun s hs' e he' p hp => ?_⟩
  · have h1 := hs s hs'
    have h2 := len_flat1 (f := fun e => 43 :: elemT e) (l := s.elems) (fun x => by simp)
    rw [segT_len] at h1
    exact ⟨by omega, by omega, by rw [segT_len]; omega⟩
  · have := he s hs' e he'
    have := elemT_cnt e
    omega
  · have := he s hs' e he'
    have := elemT_le hp
    omega
set_option maxRecDepth 100000 in
set_option maxHeartbeats 8000000 in
theorem print_any (w : World) (v : Value) (l : List Seg) (h : SegsAt (fun k => k < w.heap.size) w v l) (hP : (printT l).length ≤ 1048576) :
    Calls Tryz.prog 97 #[v] w fun e w' => e = .returned (.tuple #[sv (printE l).1, .int .i64 (printE l).2]) ∧ Below w.heap.size w w' := by
  have hb := bds_of hP
  have HPL := Lib.hid hP
  have HSG := Lib.hid h
  obtain ⟨ao, cap, xs, rfl, h1, h2, h3, h4, h5, h6⟩ := h
  have HXL := Lib.hid h4
  have HEL := Lib.hid h5
  have HCE := Lib.hid h6
  have hn := hb.n
  have HBD := Lib.hid hb
  obtain ⟨R, hR⟩ : ∃ R, printE l = R := ⟨_, rfl⟩
  have HR := Lib.hid hR
  rw [hR]
  obtain ⟨n, hln⟩ : ∃ n, l.length = n := ⟨_, rfl⟩
  have HLN := Lib.hid hln
  rw [hln] at h1 hn ⊢
  clear h4 h5 h6 hb hR hP h3 hln
  unfold maxLen at h2
  go_enter Tryz.func97, Tryz.ntmps97
  go_wp2_with fail
  obtain ⟨B, hB⟩ : ∃ B, w.heap.size = B := ⟨_, rfl⟩
  obtain ⟨w1, hw1⟩ : ∃ w1, w.alloc (.cells #[.pointer none, .slice none 0 0] 203) = w1 := ⟨_, rfl⟩
  have HBL := Lib.hid (show BldAt w1 B B [] by rw [← hw1, ← hB]; exact Lib.fresh_isBuilder 203 5 w)
  have HBE := Lib.hid (show Below B w w1 by rw [← hw1, ← hB]; exact (Below.refl _ w).alloc (Nat.le_refl _) _)
  have HBQ := Lib.hid hB
  obtain ⟨LG, hLG⟩ : ∃ b, decide ((64 : Int) < (n : Int)) = b := ⟨_, rfl⟩
  have HLG := Lib.hid (show decide (64 < n) = LG by rw [← hLG]; simp only [decide_eq_decide]; omega)
  rw [hB, hw1, hLG]
  clear hB hw1 hLG
  go_loopw [4, 5, 6, 21] (fun a sg lo i wr => ∃ (k : Nat) (A G L : Bool), k ≤ n ∧ i = .int .i64 (k : Int) ∧ a = .bool A ∧ sg = .bool G ∧ lo = .bool L ∧ Hid (A = (l.take k).any argS) ∧ Hid (G = (l.take k).any fun s => signE s.elems) ∧ Hid (L = (LG || (l.take k).any longS)) ∧ Hid (BldAt wr B B (printT (l.take k))) ∧ Hid (Below B w wr)) (fun _ _ _ i _ => n - (intOf i).toNat)
  case atStart => exact ⟨0, false, false, LG, by omega, rfl, rfl, rfl, rfl, Lib.hid rfl, Lib.hid rfl, Lib.hid (by simp), HBL, HBE⟩
  case round =>
    obtain ⟨k, A, G, L, hk, rfl, rfl, rfl, rfl, HA, HG, HL, HBL', HBE'⟩ := hrel
    clear HBL HBE
    by_cases hlt : k < n
    · obtain ⟨s, hs⟩ : ∃ s, l[k]? = some s := ⟨_, List.getElem?_eq_getElem (by rw [HLN.out]; exact hlt)⟩
      obtain ⟨x, hx⟩ : ∃ x, xs[k]? = some x := ⟨_, List.getElem?_eq_getElem (by rw [HXL.out, HLN.out]; exact hlt)⟩
      obtain ⟨sb, off, rfl, _, hc⟩ := HCE.out (by rintro rfl; simp at hs)
      obtain ⟨c0, c1⟩ := hc k s x hs hx
      have hel := HEL.out k s x hs hx
      obtain ⟨t, es⟩ := s
      obtain ⟨ys, ⟨eo, ecap, rfl, he1, he2, he3, he4⟩, hyl, hye⟩ := hel
      have hsb : sb < B := by rw [← HBQ.out]; exact cell_lt' c0
      have d0 := (HBE'.out.cell (p := ⟨sb, off + k * 2, none⟩) hsb).trans c0
      have d1 := (HBE'.out.cell (p := ⟨sb, off + k * 2 + 1, none⟩) hsb).trans c1
      have HS := Lib.hid hs
      have HHE := Lib.hid he4
      have HYL := Lib.hid hyl
      have HYE := Lib.hid hye
      have hbs := HBD.out.seg ⟨t, es⟩ (List.mem_of_getElem? hs)
      have HBE1 := Lib.hid (HBD.out.el ⟨t, es⟩ (List.mem_of_getElem? hs))
      have HBE2 := Lib.hid (HBD.out.co ⟨t, es⟩ (List.mem_of_getElem? hs))
      have hws := HBE'.out.size
      rw [HBQ.out] at hws
      simp only at hbs
      rw [hyl] at he1 d1
      obtain ⟨hbt, hbe, hbg⟩ := hbs
      obtain ⟨st, hst⟩ : ∃ st : ByteArray, (⟨t.toArray⟩ : ByteArray) = st := ⟨_, rfl⟩
      have hss : st.size = t.length := by rw [← hst]; rfl
      have HST := Lib.hid hst
      obtain ⟨m0, hm0⟩ : ∃ m0, es.length = m0 := ⟨_, rfl⟩
      have HM0 := Lib.hid hm0
      unfold sv at d0
      rw [hst] at d0
      simp only at d1 he1 hm0 hbe
      rw [hm0] at d1 he1 hbe
      clear hs hx hc c0 c1 he3 he4 hyl hye hst hm0
      unfold maxLen at he2
      have b1 : (0 : Int) ≤ k := by omega
      have b2 : (k : Int) < n := by omega
      go_upto_region 6 with fail
      obtain ⟨w2, hw2⟩ : ∃ w2, wr.alloc (.cells #[.string st, .slice eo m0 ecap] 94) = w2 := ⟨_, rfl⟩
      have s0 : w2.cell? ⟨wr.heap.size, 0, none⟩ = some (.string st) := by rw [← hw2]; exact World.cell?_alloc_mark _ _ _ _ 0
      have s1 : w2.cell? ⟨wr.heap.size, 1, none⟩ = some (.slice eo m0 ecap) := by rw [← hw2]; exact World.cell?_alloc_mark _ _ _ _ 1
      have HBE2' := Lib.hid (show Below B w w2 by rw [← hw2]; exact HBE'.out.alloc hws _)
      have HBL2 := Lib.hid (show BldAt w2 B B (printT (l.take k)) by rw [← hw2]; exact BldAt.cong' HBL'.out (fun k hk => Below.heap_alloc _ _ _ hk))
      have hw2s : wr.heap.size < w2.heap.size := by rw [← hw2]; simp
      rw [hw2]
      clear hw2 d0 d1 HBL' HBE'
      obtain ⟨sp, hsp⟩ : ∃ sp, wr.heap.size = sp := ⟨_, rfl⟩
      rw [hsp] at s0 s1 hws hw2s
      rw [hsp]
      clear hsp
      obtain ⟨TG, hTG⟩ : ∃ b, tagBad t = b := ⟨_, rfl⟩
      have HTG := Lib.hid hTG
      clear hTG
      go_cut [4] (fun a wx => a = .bool (A || TG) ∧ w2 = wx)
      case first =>
        cases A with
        | true => go_wp2_with fail; go_meet; case rel => exact ⟨rfl, rfl⟩
        | false =>
          by_cases h3 : t.length = 3
          · obtain ⟨a, b, c, rfl⟩ : ∃ a b c, t = [a, b, c] := by
              match t, h3 with
              | [a, b, c], _ => exact ⟨a, b, c, rfl⟩
            have z3 : st.size = 3 := by rw [hss]; rfl
            have d3 : ((st.size : Int) != 3) = false := by rw [z3]; rfl
            have i0 : 0 < st.size := by omega
            have i1 : 1 < st.size := by omega
            have i2 : 2 < st.size := by omega
            have q0 : (st[0]'i0).toNat = a.toNat := by have := HST.out; subst this; rfl
            have q1 : (st[1]'i1).toNat = b.toNat := by have := HST.out; subst this; rfl
            have q2 : (st[2]'i2).toNat = c.toNat := by have := HST.out; subst this; rfl
            have hta := fun w => tagged_any a w
            have htb := fun w => tagged_any b w
            have htc := fun w => tagged_any c w
            have hbad : tagBad [a, b, c] = (!tagB a || (!tagB b || !tagB c)) := by unfold tagBad; simp
            obtain ⟨TA, hTA⟩ : ∃ x, tagB a = x := ⟨_, rfl⟩
            obtain ⟨TB, hTB⟩ : ∃ x, tagB b = x := ⟨_, rfl⟩
            obtain ⟨TC, hTC⟩ : ∃ x, tagB c = x := ⟨_, rfl⟩
            rw [HTG.out, hTA, hTB, hTC] at hbad
            rw [hTA] at hta
            rw [hTB] at htb
            rw [hTC] at htc
            obtain ⟨an, han⟩ : ∃ x, a.toNat = x := ⟨_, rfl⟩
            obtain ⟨bn, hbn⟩ : ∃ x, b.toNat = x := ⟨_, rfl⟩
            obtain ⟨cn, hcn⟩ : ∃ x, c.toNat = x := ⟨_, rfl⟩
            rw [han] at q0 hta
            rw [hbn] at q1 htb
            rw [hcn] at q2 htc
            have HTA := Lib.hid hta
            have HTB := Lib.hid htb
            have HTC := Lib.hid htc
            have HBAD := Lib.hid hbad
            clear han hbn hcn hbad hTA hTB hTC hta htb htc h3 hss z3 hbt hbg
            cases TA <;> cases TB <;> cases TC
            all_goals
              go_wp2_with first
                | (go_at_call 134; (with_reducible refine (HTA.out _).mono ?_); rintro e w' ⟨rfl, rfl⟩)
                | (go_at_call 134; (with_reducible refine (HTB.out _).mono ?_); rintro e w' ⟨rfl, rfl⟩)
                | (go_at_call 134; (with_reducible refine (HTC.out _).mono ?_); rintro e w' ⟨rfl, rfl⟩)
              go_meet
              case rel => exact ⟨by rw [HBAD.out]; rfl, rfl⟩
          · have d3 : ((st.size : Int) != 3) = true := by rw [hss]; simp; omega
            have hbad : TG = true := by rw [← HTG.out]; unfold tagBad; simp [h3]
            have HBAD := Lib.hid hbad
            clear hbad hss h3 hbt hbg
            go_wp2_with fail
            go_meet
            case rel => exact ⟨by rw [HBAD.out]; rfl, rfl⟩
      case rest =>
        obtain ⟨rfl, rfl⟩ := hcut
        go_upto_region 7 with fail
        obtain ⟨LE, hLE⟩ : ∃ b, decide (16 < m0) = b := ⟨_, rfl⟩
        have HLE := Lib.hid hLE
        obtain ⟨A1, hA1⟩ : ∃ b, (A || TG) = b := ⟨_, rfl⟩
        have HA1 := Lib.hid hA1
        rw [hA1]
        clear hA1
        go_cut [6] (fun lo wx => lo = .bool (L || LE) ∧ w2 = wx)
        case first =>
          cases L with
          | true => clear hLE; go_wp2_with fail; go_meet; case rel => exact ⟨rfl, rfl⟩
          | false =>
            have d16 : decide ((16 : Int) < (m0 : Int)) = LE := by rw [← hLE]; simp only [decide_eq_decide]; omega
            clear hLE
            cases LE
            all_goals
              go_wp2_with fail
              go_meet
              case rel => exact ⟨rfl, rfl⟩
        case rest =>
          obtain ⟨rfl, rfl⟩ := hcut
          clear hLE
          obtain ⟨L1, hL1⟩ : ∃ b, (L || LE) = b := ⟨_, rfl⟩
          have HL1 := Lib.hid hL1
          rw [hL1]
          clear hL1
          go_wp2_with fail
          obtain ⟨ws, hws2⟩ : ∃ ws, w2.heap.size = ws := ⟨_, rfl⟩
          have hwsB : B ≤ ws := by omega
          obtain ⟨w3, hw3⟩ : ∃ w3, w2.alloc (.cells #[.string st] 9) = w3 := ⟨_, rfl⟩
          have HW3 := Lib.hid (show w3.ownsRow B 9 1 (.slice (some ⟨ws, 0, none⟩) 1 1) (0 + 1) ((t :: (es.take 0).map elemT).map sv) by
            have hst := HST.out
            rw [← hw3, ← hws2]
            exact ⟨rfl, .inr ⟨w2.heap.size, 1, _, rfl, by omega, heap_alloc_new _ _, Nat.le_refl _, by decide, rfl, by rw [← hst]; rfl⟩⟩)
          have HBL3 := Lib.hid (show BldAt w3 B B (printT (l.take k)) by rw [← hw3]; exact BldAt.cong' HBL2.out (fun k hk => Below.heap_alloc _ _ _ hk))
          have HBE3 := Lib.hid (show Below B w w3 by rw [← hw3]; exact HBE2'.out.alloc (by omega) _)
          rw [hws2, hw3]
          clear hws2 hw3 hw2s hws HBL2 HBE2' s0 s1
          go_loopw [4, 5, 6, 10, 66] (fun a sg lo wv i wr => ∃ (m : Nat) (A2 G2 L2 : Bool), m ≤ m0 ∧ i = .int .i64 (m : Int) ∧ a = .bool A2 ∧ sg = .bool G2 ∧ lo = .bool L2 ∧ Hid (A2 = (A1 || argE (es.take m))) ∧ Hid (G2 = (G || signE (es.take m))) ∧ Hid (L2 = (L1 || longE (es.take m))) ∧ Hid (wr.ownsRow B 9 1 wv (m + 1) ((t :: (es.take m).map elemT).map sv)) ∧ Hid (BldAt wr B B (printT (l.take k))) ∧ Hid (Below B w wr)) (fun _ _ _ _ i _ => m0 - (intOf i).toNat)
          case atStart => exact ⟨0, A1, G, L1, by omega, rfl, rfl, rfl, rfl, Lib.hid (by simp [argE]), Lib.hid (by simp [signE]), Lib.hid (by simp [longE]), HW3, HBL3, HBE3⟩
          case round =>
            obtain ⟨m, A2, G2, L2, hm, rfl, rfl, rfl, rfl, HA2, HG2, HL2, HWO, HBL4, HBE4⟩ := hrel
            clear HW3 HBL3 HBE3
            by_cases hml : m < m0
            · obtain ⟨e, he⟩ : ∃ e, es[m]? = some e := ⟨_, List.getElem?_eq_getElem (by rw [HM0.out]; exact hml)⟩
              obtain ⟨y, hy⟩ : ∃ y, ys[m]? = some y := ⟨_, List.getElem?_eq_getElem (by rw [HYL.out, HM0.out]; exact hml)⟩
              obtain ⟨eb, eoff, rfl, _, hec⟩ := HHE.out (by rintro rfl; simp at hy)
              have e0 := hec m y hy
              have hco := HYE.out m e y he hy
              have heb : eb < B := by rw [← HBQ.out]; exact cell_lt' e0
              have e1 := (HBE4.out.cell (p := ⟨eb, eoff + m, none⟩) heb).trans e0
              have HCO := Lib.hid (hco.cong (w' := wr) (T := fun _ => True) (fun _ _ => trivial) (fun k hk => HBE4.out.block k (by rw [HBQ.out] at hk; exact hk)))
              have hmem := List.mem_of_getElem? he
              obtain ⟨hne1, hne2⟩ := HBE1.out e hmem
              have HPE := Lib.hid (HBE2.out e hmem)
              obtain ⟨ea, ecap2, rfl, _⟩ := hco
              have HE := Lib.hid he
              obtain ⟨ne, hne⟩ : ∃ ne, e.length = ne := ⟨_, rfl⟩
              have HNE := Lib.hid hne
              rw [List.length_map, hne] at e1
              rw [List.length_map, hne] at HCO
              rw [hne] at hne1
              have b3 : (0 : Int) ≤ m := by omega
              have b4 : (m : Int) < m0 := by omega
              obtain ⟨EE, hEE⟩ : ∃ b, decide (ne = 0) = b := ⟨_, rfl⟩
              have HEE := Lib.hid hEE
              obtain ⟨LC, hLC⟩ : ∃ b, decide (8 < ne) = b := ⟨_, rfl⟩
              have HLC := Lib.hid hLC
              have d0 : ((ne : Int) == 0) = EE := by rw [← hEE]; rw [Bool.eq_iff_iff]; simp
              have d8 : decide ((8 : Int) < (ne : Int)) = LC := by rw [← hLC]; simp only [decide_eq_decide]; omega
              clear he hy hec e0 heb hmem hne hEE hLC
              go_upto_region 12 with fail
              obtain ⟨wa, hwa⟩ : ∃ wa : World, wa = wr := ⟨_, rfl⟩
              go_cut [4] (fun a wx => a = .bool (A2 || EE) ∧ wr = wx)
              case first =>
                clear d8
                cases A2 with
                | true => clear d0; go_wp2_with fail; go_meet; case rel => exact ⟨rfl, rfl⟩
                | false =>
                  cases EE
                  all_goals
                    go_wp2_with fail
                    go_meet
                    case rel => exact ⟨rfl, rfl⟩
              case rest =>
                obtain ⟨rfl, rfl⟩ := hcut
                clear d0
                go_upto_region 13 with fail
                go_cut [6] (fun lo wx => lo = .bool (L2 || LC) ∧ wr = wx)
                case first =>
                  cases L2 with
                  | true => clear d8; go_wp2_with fail; go_meet; case rel => exact ⟨rfl, rfl⟩
                  | false =>
                    cases LC
                    all_goals
                      go_wp2_with fail
                      go_meet
                      case rel => exact ⟨rfl, rfl⟩
                case rest =>
                  obtain ⟨rfl, rfl⟩ := hcut
                  clear d8
                  obtain ⟨A3, hA3⟩ : ∃ b, (A2 || EE) = b := ⟨_, rfl⟩
                  have HA3 := Lib.hid hA3
                  obtain ⟨L3, hL3⟩ : ∃ b, (L2 || LC) = b := ⟨_, rfl⟩
                  have HL3 := Lib.hid hL3
                  rw [hA3, hL3]
                  clear hA3 hL3
                  obtain ⟨wb, rfl⟩ : ∃ wb : World, wb = wr := ⟨_, rfl⟩
                  have HCL := Lib.hid (clone_any wb (.slice ea ne ecap2) e HCO.out (by rw [HNE.out]; omega))
                  rw [HNE.out] at HCL
                  go_wp2_with (go_at_call 135; refine HCL.out.mono ?_; rintro r wm ⟨pv, rfl, hpo, hbm⟩; have HPO := Lib.hid hpo; have HBM := Lib.hid hbm; obtain ⟨pa, pc, rfl⟩ := own_slice hpo; clear hpo hbm)
                  obtain ⟨P0, hP0⟩ : ∃ P0, wb.heap.size = P0 := ⟨_, rfl⟩
                  rw [hP0] at HPO HBM
                  have HPZ := Lib.hid hP0
                  have hBP : B ≤ P0 := by have h1 := HBE4.out.size; rw [HBQ.out] at h1; omega
                  clear hP0 HCL HCO e1
                  go_loopw [5, 6, 86] (fun sg lo i wr => ∃ (q : Nat) (G3 L4 : Bool), q ≤ ne ∧ i = .int .i64 (q : Int) ∧ sg = .bool G3 ∧ lo = .bool L4 ∧ Hid (G3 = (G2 || signC (e.take q))) ∧ Hid (L4 = (L3 || longC (e.take q))) ∧ Hid (wr.ownsRow P0 9 1 (.slice pa ne pc) ne ((partsL e q).map sv)) ∧ Hid (Below P0 wb wr)) (fun _ _ i _ => ne - (intOf i).toNat)
                  case atStart => exact ⟨0, G2, L3, by omega, rfl, rfl, rfl, Lib.hid (by simp [signC]), Lib.hid (by simp [longC]), HPO, HBM⟩
                  case round =>
                    obtain ⟨q, G3, L4, hq, rfl, rfl, rfl, HG3, HL4, HPA, HBP⟩ := hrel
                    clear HPO HBM
                    by_cases hqn : q < ne
                    · skip
                      obtain ⟨p, hp⟩ : ∃ p, e[q]? = some p := ⟨_, List.getElem?_eq_getElem (by rw [HNE.out]; exact hqn)⟩
                      obtain ⟨pb, pcap, cur, hpv, hpb, hpcells, hpc1, hpc2, _⟩ := own_form HPA.out (by omega) (by omega)
                      injection hpv with hpv1 hpv2 hpv3
                      subst hpv1
                      subst hpv3
                      have hplt : pb < wr.heap.size := (Array.getElem?_eq_some_iff.1 hpcells).1
                      have pc0 := own_cell HPA.out (j := q) (x := sv p) (by rw [List.getElem?_map, partsL_get hp]; rfl)
                      have pz0 := own_frozen HPA.out q
                      have hps := HPE.out p (List.mem_of_getElem? hp)
                      have hs1 := any_take (fun p => p.any badB) hp
                      have hl1 := any_take (fun p => decide (256 < p.length)) hp
                      obtain ⟨ps, hpse⟩ : ∃ ps : ByteArray, (⟨p.toArray⟩ : ByteArray) = ps := ⟨_, rfl⟩
                      have hpsz : ps.size = p.length := by rw [← hpse]; rfl
                      have hpsd : ps.data.toList = p := by rw [← hpse]
                      obtain ⟨GP, hGP⟩ : ∃ b, p.any badB = b := ⟨_, rfl⟩
                      obtain ⟨LP, hLP⟩ : ∃ b, decide (256 < p.length) = b := ⟨_, rfl⟩
                      have d256 : decide ((256 : Int) < (ps.size : Int)) = LP := by rw [← hLP, hpsz]; simp only [decide_eq_decide]; omega
                      simp only [hGP] at hs1
                      simp only [hLP] at hl1
                      unfold sv at pc0
                      rw [hpse] at pc0
                      have HP := Lib.hid hp
                      have HS1 := Lib.hid hs1
                      have HL1' := Lib.hid hl1
                      have HPSZ := Lib.hid hpsz
                      have HPSD := Lib.hid hpsd
                      have HGP := Lib.hid hGP
                      have HPC := Lib.hid hpcells
                      rw [← hpsz] at hps
                      clear hp hpv2 hs1 hl1 hpse hpsz hpsd hGP hLP hpcells
                      unfold maxLen at hpc2
                      have b5 : (0 : Int) ≤ q := by omega
                      have b6 : (q : Int) < ne := by omega
                      go_upto_region 18 with fail
                      go_cut [6] (fun lo wx => lo = .bool (L4 || LP) ∧ wr = wx)
                      case first =>
                        cases L4 with
                        | true => clear d256; go_wp2_with fail; go_meet; case rel => exact ⟨rfl, rfl⟩
                        | false =>
                          cases LP
                          all_goals
                            go_wp2_with fail
                            go_meet
                            case rel => exact ⟨rfl, rfl⟩
                      case rest =>
                        obtain ⟨rfl, rfl⟩ := hcut
                        clear d256
                        go_upto_region 19 with fail
                        go_cut [5] (fun sg wx => sg = .bool (G3 || GP) ∧ Hid (Below wr.heap.size wr wx))
                        case first =>
                          cases G3 with
                          | true => go_wp2_with fail; go_meet; case rel => exact ⟨rfl, Lib.hid (Below.refl _ _)⟩
                          | false =>
                            have hcb := Lib.run_convert_string_bytes (P := Tryz.prog) wr 9 72 5 ps Tryz.underlying9 Tryz.underlying72 Tryz.underlying5
                            obtain ⟨wy, hwy⟩ : ∃ wy, Lib.bytesWorld wr 5 ps = wy := ⟨_, rfl⟩
                            obtain ⟨cp, hcp⟩ : ∃ cp, grownCap wr ps.size 0 5 = cp := ⟨_, rfl⟩
                            rw [hwy, hcp] at hcb
                            have HBY := Lib.hid (show Below wr.heap.size wr wy by rw [← hwy]; exact ⟨rfl, rfl, rfl, by rw [Lib.bytesWorld_size]; omega, fun k hk => Lib.bytesWorld_at_old _ _ _ _ hk⟩)
                            have HCN := Lib.hid (contains_any wy wr.heap.size cp p (by rw [← HPSZ.out]; omega) (fun j c hj => by
                              have hj' : j < ps.size := by rw [HPSZ.out]; exact (List.getElem?_eq_some_iff.1 hj).1
                              rw [← hwy, Lib.bytesWorld_cell wr 5 ps j hj', HPSD.out, List.getD_eq_getElem?_getD, hj]; rfl))
                            rw [← HPSZ.out, HGP.out] at HCN
                            unfold badV at HCN
                            clear hwy hcp
                            go_wp2_with (go_at_call 136; refine HCN.out.mono ?_; rintro e w' ⟨rfl, rfl⟩)
                            go_meet
                            case rel => exact ⟨rfl, HBY⟩
                        case rest =>
                          obtain ⟨rfl, HBC⟩ := hcut
                          have hwc := HBC.out.size
                          go_wp2_with first
                            | (go_at_call 138; refine (newRepl_any _ _ (heap_alloc_new wc (.cells oldL.toArray 9))).mono ?_; rintro r w6 ⟨rb, ob, rcap, rfl, hr1, hr2, hr3, hr4, hr5, hr6, hr7⟩; rw [World.size_alloc] at hr6; have HR1 := Lib.hid hr1; have HR2 := Lib.hid hr2; have HR5 := Lib.hid hr5; have HR7 := Lib.hid hr7; clear hr1 hr2 hr5 hr7)
                            | (go_at_call 139; refine (replace_any _ rb ob rcap _ ps (by omega) HR1.out HR2.out hr3 hr4 HR5.out).mono ?_; rintro r w7 ⟨rfl, hf7⟩; have hag : w7.heap[pb]? = wr.heap[pb]? := (hf7.block pb (by have := HR7.out.size; rw [World.size_alloc] at this; omega) (by simp; omega)).trans ((HR7.out.block pb (by rw [World.size_alloc]; omega)).trans ((Below.heap_alloc _ _ _ (by omega)).trans (HBC.out.block pb hplt))); have pc7 := (cell_ag (j := q) hag).trans pc0; have pz7 := (fz_ag (j := q) hag).trans pz0; have HAG := Lib.hid hag; have HF7 := Lib.hid hf7; clear hf7 hag; unfold sv)
                          go_roundw
                          case rel =>
                            refine ⟨q + 1, G3 || GP, L4 || LP, by omega, by go_num, rfl, rfl, Lib.hid ?_, Lib.hid ?_, Lib.hid ?_, Lib.hid ?_⟩
                            · rw [HG3.out]; unfold signC; rw [HS1.out, Bool.or_assoc]
                            · rw [HL4.out]; unfold longC; rw [HL1'.out, Bool.or_assoc]
                            · have h1 := own_set (own_cong (w' := w7) HPA.out (fun k hk => by cases hk; exact HAG.out)) (j := q) (by rw [List.length_map, partsL_len, HNE.out]; exact hqn) (sv (compT p))
                              rw [← List.map_set, partsL_set HP.out] at h1
                              rw [HPSD.out]
                              exact h1
                            · have hz1 := HBP.out.size
                              rw [HPZ.out] at hz1
                              have hz2 := HR7.out.size
                              rw [World.size_alloc] at hz2
                              exact HBP.out.trans (((((HBC.out.mono hz1).alloc (by omega) _).trans (HR7.out.mono (by rw [World.size_alloc]; omega))).trans (HF7.out.belowB (by omega) (by simp; omega))).setCell hpb _)
                          case measure => simp [intOf]; omega
                    · skip
                      obtain rfl : q = ne := by omega
                      have hpa : partsL e q = e.map compT := by rw [← HNE.out]; exact partsL_all e
                      have hte : e.take q = e := List.take_of_length_le (by rw [HNE.out]; exact Nat.le_refl _)
                      have hPA := HPA.out
                      rw [hpa] at hPA
                      have hG3 := HG3.out
                      have hL4 := HL4.out
                      rw [hte] at hG3 hL4
                      have HG3' := Lib.hid hG3
                      have HL4' := Lib.hid hL4
                      have hln : ((e.map compT).map sv).length = q := by simp [HNE.out]
                      have HRP := Lib.hid (show CompsAt (fun _ => True) wr (.slice pa q pc) (e.map compT) by
                        have hPA' : wr.ownsRow P0 9 1 (.slice pa q pc) ((e.map compT).map sv).length ((e.map compT).map sv) := by rw [hln]; exact hPA
                        exact own_rest hPA' (fun _ _ => trivial))
                      have HJO := Lib.hid (join_any wr 58 (.slice pa q pc) (e.map compT) HRP.out (by rw [List.length_map, HNE.out]; omega) (by show (elemT e).length ≤ _; omega))
                      have hse := any_take signC HE.out
                      have hle2 := any_take (fun e => decide (8 < e.length) || longC e) HE.out
                      have hae := any_take (fun e : List Str => e.isEmpty) HE.out
                      have hme := map_take_succ elemT HE.out
                      have HSE := Lib.hid hse
                      have HLE2 := Lib.hid hle2
                      have HAE := Lib.hid hae
                      have HME := Lib.hid hme
                      have hwoz : ∀ k, u10.ownBlock = some k → k < P0 := fun k hk => by rw [← HPZ.out]; exact (own_lt HWO.out hk).2
                      have HWO2 := Lib.hid (own_cong (w' := wr) HWO.out (fun k hk => HBP.out.block k (hwoz k hk)))
                      have HBL5 := Lib.hid (BldAt.cong' (w' := wr) HBL4.out (fun k hk => HBP.out.block k (by rw [HPZ.out] at hk; exact hk)))
                      have HBE5 := Lib.hid (HBE4.out.trans (HBP.out.mono hBP))
                      clear hpa hte hPA hG3 hL4 hln hse hle2 hae hme hwoz
                      obtain ⟨i0, hi, hz0, hz1, hz2⟩ := info_parts einfo_str
                      have HI := Lib.hid hi
                      have HZ0 := Lib.hid hz0
                      have HZ1 := Lib.hid hz1
                      have HZ2 := Lib.hid hz2
                      clear hi hz0 hz1 hz2
                      have hBw := HBE5.out.size
                      rw [HBQ.out] at hBw
                      go_wp2_with first
                        | (go_at_call 140; refine HJO.out.mono ?_; rintro r w8 ⟨rfl, hb8⟩; have HB8 := Lib.hid hb8; have hs8 := hb8.size; have HWO3 := Lib.hid (own_cong (w' := w8) HWO2.out (fun k hk => hb8.block k (own_lt HWO2.out hk).2)); clear hb8; unfold sv)
                        | ((with_reducible refine wpList_at (.call { callee := .builtin .append, args := #[.tmp 111, .tmp 114], argTypes := #[58, 58] }) rfl ?_); go_loud (refine wpList_append_own_at _ rfl _ _ 58 rfl B 9 i0 (.string ⟨#[]⟩) 1 16 Tryz.underlying58 HI.out HZ0.out HZ1.out HZ2.out rfl (by decide) _ _ _ rfl (HWO3.out.alloc _) ⟨w8.heap.size, 0, none⟩ 1 1 [sv (joinB 58 (e.map compT))] rfl rfl (cell_one_new _ _ _) (by simp [Value.oneCell', sv]) (by unfold maxLen; omega) (by omega) (by simp; omega) ?_); intro v9 w9 ho9 hg9 hq1 hq2; clear hq1 hq2; have HO9 := Lib.hid ho9; have HG9 : Hid (World.grownBy _ w9 u10.ownBlock) := Lib.hid hg9; clear ho9 hg9)
                      go_roundw
                      case rel =>
                        refine ⟨m + 1, A3, G3, L4, by omega, by go_num, rfl, rfl, rfl, Lib.hid ?_, Lib.hid ?_, Lib.hid ?_, Lib.hid ?_, Lib.hid ?_, Lib.hid ?_⟩
                        · rw [← HA3.out, HA2.out, ← HEE.out]; unfold argE; rw [HAE.out, ← HNE.out]; cases e <;> simp
                        · rw [HG3'.out, HG2.out]; unfold signE; rw [HSE.out, Bool.or_assoc]
                        · rw [HL4'.out, ← HL3.out, HL2.out, ← HLC.out]; unfold longE; rw [HLE2.out, HNE.out]; simp only [Bool.or_assoc]
                        · have h9 := HO9.out
                          rw [HME.out]
                          simpa [elemT] using h9
                        · have h1 := BldAt.cong' (w' := w8) HBL5.out (fun k hk => HB8.out.block k hk)
                          have h2 := BldAt.cong' h1 (fun k hk => Below.heap_alloc w8 (.cells #[sv (joinB 58 (e.map compT))] 9) _ hk)
                          refine BldAt.cong h2 (fun k C f t' hk ht => HG9.out.block k (Array.getElem?_eq_some_iff.1 hk).1 (fun hc => ?_))
                          obtain ⟨C', hC', _⟩ := own_ty (HWO3.out.alloc _) hc.symm
                          rw [hC'] at hk
                          cases hk
                          exact ht rfl
                        · have h1 := HBE5.out.trans (HB8.out.mono hBw)
                          have hs9 := HB8.out.size
                          exact (h1.alloc (by omega) _).grown HG9.out (by simp; omega) (fun k hk => (own_lt HWO3.out hk).1)
                      case measure => simp [intOf]; omega
            · skip
              obtain rfl : m = m0 := by omega
              have hte : es.take m = es := List.take_of_length_le (by rw [HM0.out]; exact Nat.le_refl _)
              have hW0 := HWO.out
              have hA2 := HA2.out
              have hG2 := HG2.out
              have hL2 := HL2.out
              rw [hte] at hW0 hA2 hG2 hL2
              obtain ⟨wa, wc, rfl⟩ := own_slice hW0
              have HA2' := Lib.hid hA2
              have HG2' := Lib.hid hG2
              have HL2' := Lib.hid hL2
              have hln : ((t :: es.map elemT).map sv).length = m + 1 := by simp [HM0.out]
              have hle : (joinB 43 (t :: es.map elemT)).length + 1 = (segT ⟨t, es⟩).length := by rw [← joinB_words, List.length_append]; rfl
              have HRP := Lib.hid (show CompsAt (fun _ => True) wr (.slice wa (m + 1) wc) (t :: es.map elemT) by
                have hPA' : wr.ownsRow B 9 1 (.slice wa (m + 1) wc) ((t :: es.map elemT).map sv).length ((t :: es.map elemT).map sv) := by rw [hln]; exact hW0
                exact own_rest hPA' (fun _ _ => trivial))
              have HJO := Lib.hid (join_any wr 43 (.slice wa (m + 1) wc) (t :: es.map elemT) HRP.out (by rw [List.length_cons, List.length_map, HM0.out]; omega) (by omega))
              have hpl : (printT (l.take k)).length ≤ 1048576 := Nat.le_trans (by
                have h1 := congrArg printT (List.take_append_drop k l)
                unfold printT at h1 ⊢
                rw [List.flatMap_append] at h1
                have h2 := congrArg List.length h1
                rw [List.length_append] at h2
                omega) HPL.out
              have hBw := HBE4.out.size
              rw [HBQ.out] at hBw
              obtain ⟨J, hJ⟩ : ∃ J, joinB 43 (t :: es.map elemT) = J := ⟨_, rfl⟩
              rw [hJ] at HJO hle
              have HJJ := Lib.hid hJ
              clear hte hW0 hA2 hG2 hL2 hln hJ
              go_wp2_with first
                | (go_at_call 140; refine HJO.out.mono ?_; rintro r w8 ⟨rfl, hb8⟩; have HB8 := Lib.hid hb8; have hs8 := hb8.size; have HBL5 := Lib.hid (BldAt.cong' (w' := w8) HBL4.out (fun k hk => hb8.block k hk)); clear hb8; unfold sv)
                | (go_at_call 141; refine (writeString_any B B (printT (l.take k)) _ w8 HBL5.out (by rw [cat_size]; omega) (by omega)).mono ?_; rintro r w9 ⟨rfl, hb9, hc9⟩; have HB9 := Lib.hid hb9; have HC9 := Lib.hid hc9; clear hb9 hc9)
              go_roundw
              case rel =>
                refine ⟨k + 1, A2, G2, L2, by omega, by go_num, rfl, rfl, rfl, Lib.hid ?_, Lib.hid ?_, Lib.hid ?_, Lib.hid ?_, Lib.hid ?_⟩
                · rw [any_take argS HS.out, ← HA.out, HA2'.out, ← HA1.out, ← HTG.out, Bool.or_assoc]; rfl
                · rw [any_take (fun s => signE s.elems) HS.out, ← HG.out]; exact HG2'.out
                · rw [HL2'.out, ← HL1.out, HL.out, ← HLE.out, any_take longS HS.out, show longS ⟨t, es⟩ = (decide (16 < es.length) || longE es) from rfl, HM0.out]; simp only [Bool.or_assoc]
                · rw [printT_take HS.out, ← joinB_words, HJJ.out, ← cat_list]; exact HB9.out
                · exact (HBE4.out.trans (HB8.out.mono hBw)).trans HC9.out
              case measure => simp [intOf]; omega
    · skip
      obtain rfl : k = n := by omega
      have hte : l.take k = l := List.take_of_length_le (by rw [HLN.out]; exact Nat.le_refl _)
      have hB0 := HBL'.out
      have hA := HA.out
      have hG := HG.out
      have hL := HL.out
      rw [hte] at hB0 hA hG hL
      have hbl : (Lib.byteCells (printT l)).length = (printT l).length := Lib.byteCells_length _
      have hLP : longP l = L := by rw [longP_eq, hL, ← HLG.out, HLN.out]
      have hpe : printE l = if A then ([], 1) else if G then ([], 30) else if L || decide (65536 < (printT l).length) then ([], 2) else (printT l, 0) := by
        unfold printE; rw [argP_eq, ← hA, signP_eq, ← hG, hLP]
      have hBw := HBE'.out.size
      rw [HBQ.out] at hBw
      have HBE2 := HBE'.out
      have HLN' := HLN.out
      have hlp := HPL.out
      rw [HR.out] at hpe
      obtain ⟨PT, hPT⟩ : ∃ PT, printT l = PT := ⟨_, rfl⟩
      rw [hPT] at hpe hB0 hbl hlp
      clear hA hG hL hte hLP HA HG HL HBL' HLG HR HPL HCE HEL HSG HXL HBD HLN' hPT
      have hHBE2 := Lib.hid HBE2
      have hLEN := Lib.hid (Tryz.Builder_Len B B (Lib.byteCells PT) wr hB0)
      have hSTR := Lib.hid (Tryz.Builder_String_any B B PT wr hB0 hBw)
      rw [hbl] at hLEN
      clear hB0 hbl HBE2
      cases A with
      | true =>
        obtain rfl : R = ([], 1) := hpe
        go_wp2_with fail
        go_ret2
        exact ⟨rfl, by rw [HBQ.out]; exact hHBE2.out⟩
      | false =>
        cases G with
        | true =>
          obtain rfl : R = ([], 30) := hpe
          go_wp2_with fail
          go_ret2
          exact ⟨rfl, by rw [HBQ.out]; exact hHBE2.out⟩
        | false =>
          cases L with
          | true =>
            obtain rfl : R = ([], 2) := hpe
            go_wp2_with fail
            go_ret2
            exact ⟨rfl, by rw [HBQ.out]; exact hHBE2.out⟩
          | false =>
            by_cases hbig : 65536 < PT.length
            · obtain rfl : R = ([], 2) := by rw [hpe]; simp [hbig]
              have hd : decide ((65536 : Int) < (PT.length : Int)) = true := by simp; omega
              go_wp2_with (go_at_call 142; refine hLEN.out.mono ?_; rintro r w9 ⟨rfl, rfl⟩)
              go_ret2
              exact ⟨rfl, by rw [HBQ.out]; exact hHBE2.out⟩
            · obtain rfl : R = (PT, 0) := by rw [hpe]; simp [hbig]
              have hd : decide ((65536 : Int) < (PT.length : Int)) = false := by simp; omega
              go_wp2_with first
                | (go_at_call 142; refine hLEN.out.mono ?_; rintro r w9 ⟨rfl, rfl⟩)
                | (go_at_call 143; refine hSTR.out.mono ?_; rintro r w9 ⟨rfl, hw9⟩)
              go_ret2
              exact ⟨rfl, by rw [HBQ.out]; exact hHBE2.out.trans hw9⟩
end Go.Proofs.YtgfijlamhjjecaaGreatDoor


/-
  RefB: a segment that the reference is reading, in memory: its last element is open. No condition beyond those stated.
-/
namespace Go.Proofs.YtgfijlamhjjecaaGreatDoor
open Go.RowKit
structure SG (H sp : Nat) (st : ByteArray) (w : World) (ev cv : Value) (ys : List Value) (es : List (List Str)) (cs : List Str) : Prop where
  row : w.ownsRow H 58 1 ev (es.length + 1) (ys ++ [cv])
  len : ys.length = es.length
  c : w.heap[sp]? = some (.cells #[.string st, ev] 94 (0, 0))
  co : w.ownsRow H 9 1 cv cs.length (cs.map sv)
  el : ∀ (i : Nat) (e : List Str) (x : Value), es[i]? = some e → ys[i]? = some x → CompsAt (fun b => H ≤ b ∧ b < w.heap.size ∧ ev.ownBlock ≠ some b ∧ cv.ownBlock ≠ some b ∧ b ≠ sp) w x e
section
variable {H sp : Nat} {st : ByteArray} {w w' : World} {ev cv : Value} {ys : List Value} {es : List (List Str)} {cs : List Str}
theorem SG.close (h : SG H sp st w ev cv ys es cs) : OE H sp st w ev (ys ++ [cv]) (es ++ [cs]) := by
  refine ⟨by rw [List.length_append]; exact h.row, by simp [h.len], h.c, fun i e x h1 h2 => ?_⟩
  rcases row_snoc h1 with h1 | ⟨rfl, rfl⟩
  · have hil := (List.getElem?_eq_some_iff.1 h1).1
    rw [List.getElem?_append_left (by rw [h.len]; exact hil)] at h2
    exact (h.el i e x h1 h2).cong (fun b hb => ⟨hb.1, hb.2.1, hb.2.2.1, hb.2.2.2.2⟩) (fun _ _ => rfl)
  · rw [← h.len, List.getElem?_append_right (Nat.le_refl _), Nat.sub_self] at h2
    cases h2
    have hco : w.ownsRow H 9 1 cv (e.map sv).length (e.map sv) := by rw [List.length_map]; exact h.co
    exact own_rest hco (fun k hk => ⟨(own_lt h.co hk).1, (own_lt h.co hk).2, own_ne h.co h.row (by decide) hk, fun e => own_not h.co h.c (by decide) (e ▸ hk)⟩)
theorem SG.of (h : OE H sp st w ev (ys ++ [.slice none 0 0]) (es ++ [[]])) (hl : ys.length = es.length) : SG H sp st w ev (.slice none 0 0) ys es [] := by
  refine ⟨by have := h.row; rw [List.length_append] at this; exact this, hl, h.c, World.ownsRow_nil _ _ _ _, fun i e x h1 h2 => ?_⟩
  have hil := (List.getElem?_eq_some_iff.1 h1).1
  have h3 := h.el i e x (by rw [List.getElem?_append_left hil]; exact h1) (by rw [List.getElem?_append_left (by rw [hl]; exact hil)]; exact h2)
  exact h3.cong (fun b hb => ⟨hb.1, hb.2.1, hb.2.2.1, by simp [Value.ownBlock], hb.2.2.2⟩) (fun _ _ => rfl)
theorem SG.drew (h : SG H sp st w ev cv ys es cs) (e : w'.heap = w.heap) : SG H sp st w' ev cv ys es cs :=
  ⟨own_cong h.row (fun k _ => by rw [e]), h.len, by rw [e]; exact h.c, own_cong h.co (fun k _ => by rw [e]), fun i e' x h1 h2 => (h.el i e' x h1 h2).cong (fun k hk => by rw [e]; exact hk) (fun k _ => by rw [e])⟩
theorem SG.below (h : SG H sp st w ev cv ys es cs) (hb : Below w.heap.size w w') : SG H sp st w' ev cv ys es cs :=
  ⟨own_cong h.row (fun k hk => hb.block k (own_lt h.row hk).2), h.len, (hb.block sp (Array.getElem?_eq_some_iff.1 h.c).1).trans h.c, own_cong h.co (fun k hk => hb.block k (own_lt h.co hk).2), fun i e' x h1 h2 => (h.el i e' x h1 h2).cong (fun k hk => ⟨hk.1, by have := hb.size; omega, hk.2.2⟩) (fun k hk => hb.block k hk.2.1)⟩
theorem OE.below (h : OE H sp st w ev ys es) (hb : Below w.heap.size w w') : OE H sp st w' ev ys es :=
  ⟨own_cong h.row (fun k hk => hb.block k (own_lt h.row hk).2), h.len, (hb.block sp h.lt).trans h.c, fun i e' x h1 h2 => (h.el i e' x h1 h2).cong (fun k hk => ⟨hk.1, by have := hb.size; omega, hk.2.2⟩) (fun k hk => hb.block k hk.2.1)⟩
/-- where it lies -/
theorem SG.form (h : SG H sp st w ev cv ys es cs) : ∃ g cap ca cc, ev = .slice (some ⟨g, 0, none⟩) (es.length + 1) cap ∧ es.length + 1 ≤ cap ∧ cap ≤ maxLen ∧ cv = .slice ca cs.length cc ∧ w.cell? ⟨g, es.length, none⟩ = some cv ∧ w.frozen? ⟨g, es.length, none⟩ = false ∧ H ≤ g ∧ g < w.heap.size ∧ g ≠ sp := by
  have hr := h.row
  obtain ⟨g, cap, cur, rfl, hg, hh, hc, hm, _⟩ := own_form hr (by omega) (by omega)
  obtain ⟨ca, cc, rfl⟩ := own_slice h.co
  refine ⟨g, cap, ca, cc, rfl, hc, hm, rfl, own_cell hr (by rw [← h.len, List.getElem?_append_right (Nat.le_refl _), Nat.sub_self]; rfl), own_frozen hr _, hg, (Array.getElem?_eq_some_iff.1 hh).1, fun e => by subst e; exact own_not hr h.c (by decide) rfl⟩
end
/-- its elements, at rest -/
theorem OE.rest {H sp : Nat} {st : ByteArray} {w : World} {ev : Value} {ys : List Value} {es : List (List Str)} (h : OE H sp st w ev ys es) : ElemsAt (fun b => H ≤ b ∧ b < w.heap.size) w ev es :=
  ⟨ys, own_rest (by rw [h.len]; exact h.row) (fun _ hk => own_lt h.row hk), h.len, fun i e x h1 h2 => (h.el i e x h1 h2).cong (fun _ hb => ⟨hb.1, hb.2.1⟩) (fun _ _ => rfl)⟩
end Go.Proofs.YtgfijlamhjjecaaGreatDoor


/-
  WrapW: contracts of number and is. No condition beyond those stated.
-/
namespace Go.Proofs.YtgfijlamhjjecaaGreatDoor
open Go.RowKit
/-- what number makes of an element: a number below a bound (0: none) -/
def NumQ (bound : Nat) (cs : List Str) (r : Int) (b : Bool) : Prop := (b = true ∧ ∃ u : Nat, oneN cs = some u ∧ (bound = 0 ∨ u < bound) ∧ r = (u : Int)) ∨ (b = false ∧ ∀ u, oneN cs = some u → ¬ (bound = 0 ∨ u < bound))
def NumR (k : IntKind) (bound : Nat) (cs : List Str) (w : World) (e : Ending) (w' : World) : Prop := ∃ (r : Int) (b : Bool), e = .returned (.tuple #[.int k r, .bool b]) ∧ NumQ bound cs r b ∧ Below w.heap.size w w'
theorem NumQ.no {bound : Nat} {cs : List Str} {r : Int} (h : oneN cs = none) : NumQ bound cs r false := .inr ⟨rfl, fun u hu => by rw [h] at hu; cases hu⟩
set_option maxRecDepth 100000 in
set_option maxHeartbeats 4000000 in
theorem num8_any {S : Nat → Prop} (w : World) (v : Value) (cs : List Str) (h : CompsAt S w v cs) (hl : ∀ p ∈ cs, p.length ≤ 1048576) (hv : VarsOk w) :
    Calls Tryz.prog 102 #[v, .int .u64 8] w fun e w' => NumR .u8 8 cs w e w' := by
  obtain ⟨ao, cap, rfl, h1, h2⟩ := h.form
  unfold maxLen at h2
  match cs, h, hl, h1 with
  | [], h, hl, h1 =>
    simp only [List.length_nil]
    go_enter Tryz.func102, Tryz.ntmps102
    go_wp2_with fail
    go_ret2
    exact ⟨0, false, rfl, .no rfl, Below.refl _ _⟩
  | a :: b :: cs, h, hl, h1 =>
    obtain ⟨n, hn⟩ : ∃ n, (a :: b :: cs).length = n := ⟨_, rfl⟩
    have d0 : ((n : Int) != 1) = true := by rw [bne_iff_ne, ← hn]; simp; omega
    have hO : oneN (a :: b :: cs) = none := rfl
    rw [hn]
    clear hn
    go_enter Tryz.func102, Tryz.ntmps102
    go_wp2_with fail
    go_ret2
    exact ⟨0, false, rfl, .no hO, Below.refl _ _⟩
  | [p], h, hl, h1 =>
    obtain ⟨b, off, rfl, _, hc⟩ := h.get (k := 0) (p := p) rfl
    simp only [List.length_cons, List.length_nil, Nat.zero_add, Nat.add_zero] at h1 hc ⊢
    obtain ⟨s, hs⟩ : ∃ s : ByteArray, (⟨p.toArray⟩ : ByteArray) = s := ⟨_, rfl⟩
    have hsz : s.size = p.length := by rw [← hs]; rfl
    have hsl : s.data.toList = p := by rw [← hs]
    have hpl := hl p (by simp)
    unfold sv at hc
    rw [hs] at hc
    clear hl h hs
    cases p with
    | nil =>
      have e0 : s = ⟨#[]⟩ := by
        cases s with | mk d => cases d with | mk l => simp at hsl; rw [hsl]
      subst e0
      go_enter Tryz.func102, Tryz.ntmps102
      go_wp2_with fail
      go_ret2
      exact ⟨0, false, rfl, .no rfl, Below.refl _ _⟩
    | cons c p =>
      have hs0 : 0 < s.size := by rw [hsz]; simp
      have hA : s[0]'hs0 = c := by
        have h1 := at_byte s 0 hs0
        rw [hsl] at h1
        simpa using h1.symm
      have ne0 : s.toList.isEmpty = false := by
        have h1 := str_ne (s := s) (t := ⟨#[]⟩) (fun h => by rw [h] at hs0; exact absurd hs0 (by decide))
        cases h2 : s.toList with
        | nil => rw [h2] at h1; simp at h1
        | cons a l => rfl
      have i0 : (0 : Int) < (s.size : Int) := by omega
      have HSZ := Lib.hid hsz
      have HSL := Lib.hid hsl
      clear hsz hsl
      by_cases h43 : c = 43
      · subst h43
        go_enter Tryz.func102, Tryz.ntmps102
        go_wp2_with fail
        go_ret2
        exact ⟨0, false, rfl, .no (num_plus (s := 43 :: p) rfl : numW (43 :: p) = none), Below.refl _ _⟩
      · have n43 : ((c.toNat : Int) == 43) = false := nat_eq c 43 h43
        by_cases h48 : 1 < s.size ∧ c = 48
        · obtain ⟨hl1, rfl⟩ := h48
          have i1 : (1 : Int) < (s.size : Int) := by omega
          go_enter Tryz.func102, Tryz.ntmps102
          go_wp2_with fail
          go_ret2
          exact ⟨0, false, rfl, .no (num_zero (s := 48 :: p) ⟨rfl, by rw [← HSZ.out]; exact hl1⟩ : numW (48 :: p) = none), Below.refl _ _⟩
        · have HPU := Lib.hid (pu_any s (by rw [HSZ.out]; exact hpl) w hv)
          have HN := Lib.hid (num_pu (s := c :: p) (by simp) (fun h => h48 ⟨by rw [HSZ.out]; exact h.2, by simpa using h.1⟩))
          rw [HSL.out] at HPU
          by_cases hl1 : 1 < s.size
          · have i1 : (1 : Int) < (s.size : Int) := by omega
            have n48 : ((c.toNat : Int) == 48) = false := nat_eq c 48 (fun h => h48 ⟨hl1, h⟩)
            go_enter Tryz.func102, Tryz.ntmps102
            go_wp2_with (go_at_call 146; refine HPU.out.mono ?_; rintro e w' ⟨u, ev, rfl, hq, hb⟩; have HQ := Lib.hid hq; have HB := Lib.hid hb; clear hq hb)
            have hn : oneN [c :: p] = numEnd (Lib.parseUintB 64 (c :: p)) := HN.out.symm
            have HNN := Lib.hid hn
            clear hn
            rcases HQ.out with ⟨hq, rfl⟩ | ⟨hq, te, pe, rfl⟩
            · have HE := Lib.hid (HNN.out.trans hq)
              clear hq
              by_cases hu : u < 8
              · have u8 : decide ((u : Int) < 8) = true := by rw [decide_eq_true_eq]; omega
                go_simp
                go_wp2_with fail
                go_ret2
                exact ⟨_, true, rfl, .inl ⟨rfl, u, HE.out, .inr hu, by omega⟩, HB.out⟩
              · have u8 : decide ((u : Int) < 8) = false := by rw [decide_eq_false_iff_not]; omega
                go_simp
                go_wp2_with fail
                go_ret2
                exact ⟨_, false, rfl, .inr ⟨rfl, fun x hx => by rw [HE.out] at hx; cases hx; omega⟩, HB.out⟩
            · have HE := Lib.hid (HNN.out.trans hq)
              clear hq
              go_simp
              go_wp2_with fail
              go_ret2
              exact ⟨_, false, rfl, .no HE.out, HB.out⟩
          · have i1 : ¬ (1 : Int) < (s.size : Int) := by omega
            go_enter Tryz.func102, Tryz.ntmps102
            go_wp2_with (go_at_call 146; refine HPU.out.mono ?_; rintro e w' ⟨u, ev, rfl, hq, hb⟩; have HQ := Lib.hid hq; have HB := Lib.hid hb; clear hq hb)
            have hn : oneN [c :: p] = numEnd (Lib.parseUintB 64 (c :: p)) := HN.out.symm
            have HNN := Lib.hid hn
            clear hn
            rcases HQ.out with ⟨hq, rfl⟩ | ⟨hq, te, pe, rfl⟩
            · have HE := Lib.hid (HNN.out.trans hq)
              clear hq
              by_cases hu : u < 8
              · have u8 : decide ((u : Int) < 8) = true := by rw [decide_eq_true_eq]; omega
                go_simp
                go_wp2_with fail
                go_ret2
                exact ⟨_, true, rfl, .inl ⟨rfl, u, HE.out, .inr hu, by omega⟩, HB.out⟩
              · have u8 : decide ((u : Int) < 8) = false := by rw [decide_eq_false_iff_not]; omega
                go_simp
                go_wp2_with fail
                go_ret2
                exact ⟨_, false, rfl, .inr ⟨rfl, fun x hx => by rw [HE.out] at hx; cases hx; omega⟩, HB.out⟩
            · have HE := Lib.hid (HNN.out.trans hq)
              clear hq
              go_simp
              go_wp2_with fail
              go_ret2
              exact ⟨_, false, rfl, .no HE.out, HB.out⟩
set_option maxRecDepth 100000 in
set_option maxHeartbeats 4000000 in
theorem num64_any {S : Nat → Prop} (w : World) (v : Value) (cs : List Str) (h : CompsAt S w v cs) (hl : ∀ p ∈ cs, p.length ≤ 1048576) (hv : VarsOk w) :
    Calls Tryz.prog 103 #[v, .int .u64 0] w fun e w' => NumR .u64 0 cs w e w' := by
  obtain ⟨ao, cap, rfl, h1, h2⟩ := h.form
  unfold maxLen at h2
  match cs, h, hl, h1 with
  | [], h, hl, h1 =>
    simp only [List.length_nil]
    go_enter Tryz.func103, Tryz.ntmps103
    go_wp2_with fail
    go_ret2
    exact ⟨0, false, rfl, .no rfl, Below.refl _ _⟩
  | a :: b :: cs, h, hl, h1 =>
    obtain ⟨n, hn⟩ : ∃ n, (a :: b :: cs).length = n := ⟨_, rfl⟩
    have d0 : ((n : Int) != 1) = true := by rw [bne_iff_ne, ← hn]; simp; omega
    have hO : oneN (a :: b :: cs) = none := rfl
    rw [hn]
    clear hn
    go_enter Tryz.func103, Tryz.ntmps103
    go_wp2_with fail
    go_ret2
    exact ⟨0, false, rfl, .no hO, Below.refl _ _⟩
  | [p], h, hl, h1 =>
    obtain ⟨b, off, rfl, _, hc⟩ := h.get (k := 0) (p := p) rfl
    simp only [List.length_cons, List.length_nil, Nat.zero_add, Nat.add_zero] at h1 hc ⊢
    obtain ⟨s, hs⟩ : ∃ s : ByteArray, (⟨p.toArray⟩ : ByteArray) = s := ⟨_, rfl⟩
    have hsz : s.size = p.length := by rw [← hs]; rfl
    have hsl : s.data.toList = p := by rw [← hs]
    have hpl := hl p (by simp)
    unfold sv at hc
    rw [hs] at hc
    clear hl h hs
    cases p with
    | nil =>
      have e0 : s = ⟨#[]⟩ := by
        cases s with | mk d => cases d with | mk l => simp at hsl; rw [hsl]
      subst e0
      go_enter Tryz.func103, Tryz.ntmps103
      go_wp2_with fail
      go_ret2
      exact ⟨0, false, rfl, .no rfl, Below.refl _ _⟩
    | cons c p =>
      have hs0 : 0 < s.size := by rw [hsz]; simp
      have hA : s[0]'hs0 = c := by
        have h1 := at_byte s 0 hs0
        rw [hsl] at h1
        simpa using h1.symm
      have ne0 : s.toList.isEmpty = false := by
        have h1 := str_ne (s := s) (t := ⟨#[]⟩) (fun h => by rw [h] at hs0; exact absurd hs0 (by decide))
        cases h2 : s.toList with
        | nil => rw [h2] at h1; simp at h1
        | cons a l => rfl
      have i0 : (0 : Int) < (s.size : Int) := by omega
      have HSZ := Lib.hid hsz
      have HSL := Lib.hid hsl
      clear hsz hsl
      by_cases h43 : c = 43
      · subst h43
        go_enter Tryz.func103, Tryz.ntmps103
        go_wp2_with fail
        go_ret2
        exact ⟨0, false, rfl, .no (num_plus (s := 43 :: p) rfl : numW (43 :: p) = none), Below.refl _ _⟩
      · have n43 : ((c.toNat : Int) == 43) = false := nat_eq c 43 h43
        by_cases h48 : 1 < s.size ∧ c = 48
        · obtain ⟨hl1, rfl⟩ := h48
          have i1 : (1 : Int) < (s.size : Int) := by omega
          go_enter Tryz.func103, Tryz.ntmps103
          go_wp2_with fail
          go_ret2
          exact ⟨0, false, rfl, .no (num_zero (s := 48 :: p) ⟨rfl, by rw [← HSZ.out]; exact hl1⟩ : numW (48 :: p) = none), Below.refl _ _⟩
        · have HPU := Lib.hid (pu_any s (by rw [HSZ.out]; exact hpl) w hv)
          have HN := Lib.hid (num_pu (s := c :: p) (by simp) (fun h => h48 ⟨by rw [HSZ.out]; exact h.2, by simpa using h.1⟩))
          rw [HSL.out] at HPU
          by_cases hl1 : 1 < s.size
          · have i1 : (1 : Int) < (s.size : Int) := by omega
            have n48 : ((c.toNat : Int) == 48) = false := nat_eq c 48 (fun h => h48 ⟨hl1, h⟩)
            go_enter Tryz.func103, Tryz.ntmps103
            go_wp2_with (go_at_call 146; refine HPU.out.mono ?_; rintro e w' ⟨u, ev, rfl, hq, hb⟩; have HQ := Lib.hid hq; have HB := Lib.hid hb; clear hq hb)
            have hn : oneN [c :: p] = numEnd (Lib.parseUintB 64 (c :: p)) := HN.out.symm
            have HNN := Lib.hid hn
            clear hn
            rcases HQ.out with ⟨hq, rfl⟩ | ⟨hq, te, pe, rfl⟩
            · have HE := Lib.hid (HNN.out.trans hq)
              clear hq
              go_simp
              go_wp2_with fail
              go_ret2
              exact ⟨_, true, rfl, .inl ⟨rfl, u, HE.out, .inl rfl, rfl⟩, HB.out⟩
            · have HE := Lib.hid (HNN.out.trans hq)
              clear hq
              go_simp
              go_wp2_with fail
              go_ret2
              exact ⟨_, false, rfl, .no HE.out, HB.out⟩
          · have i1 : ¬ (1 : Int) < (s.size : Int) := by omega
            go_enter Tryz.func103, Tryz.ntmps103
            go_wp2_with (go_at_call 146; refine HPU.out.mono ?_; rintro e w' ⟨u, ev, rfl, hq, hb⟩; have HQ := Lib.hid hq; have HB := Lib.hid hb; clear hq hb)
            have hn : oneN [c :: p] = numEnd (Lib.parseUintB 64 (c :: p)) := HN.out.symm
            have HNN := Lib.hid hn
            clear hn
            rcases HQ.out with ⟨hq, rfl⟩ | ⟨hq, te, pe, rfl⟩
            · have HE := Lib.hid (HNN.out.trans hq)
              clear hq
              go_simp
              go_wp2_with fail
              go_ret2
              exact ⟨_, true, rfl, .inl ⟨rfl, u, HE.out, .inl rfl, rfl⟩, HB.out⟩
            · have HE := Lib.hid (HNN.out.trans hq)
              clear hq
              go_simp
              go_wp2_with fail
              go_ret2
              exact ⟨_, false, rfl, .no HE.out, HB.out⟩
set_option maxRecDepth 100000 in
set_option maxHeartbeats 4000000 in
/-- is a segment of a tag, and so many elements? -/
theorem is_any {S : Nat → Prop} (w : World) (t : Str) (ev : Value) (es : List (List Str)) (h : ElemsAt S w ev es) (tag : ByteArray) (n : Nat) :
    Calls Tryz.prog 101 #[.agg #[sv t, ev], .string tag, .int .i64 (n : Int)] w fun e w' => e = .returned (.bool (decide (t = tag.data.toList ∧ es.length = n))) ∧ Below w.heap.size w w' := by
  obtain ⟨ao, cap, rfl, h1, h2⟩ := h.form
  unfold sv
  obtain ⟨st, hst⟩ : ∃ st : ByteArray, (⟨t.toArray⟩ : ByteArray) = st := ⟨_, rfl⟩
  obtain ⟨m, hm⟩ : ∃ m, es.length = m := ⟨_, rfl⟩
  rw [hst, hm]
  have hte : t = st.data.toList := by rw [← hst]
  by_cases ht : st = tag
  · subst ht
    have s1 := str_same st
    by_cases hn : m = n
    · have d1 : ((m : Int) == (n : Int)) = true := by rw [beq_iff_eq]; omega
      have hd : decide (t = st.data.toList ∧ m = n) = true := by rw [decide_eq_true_eq]; exact ⟨hte, hn⟩
      rw [hd]
      clear hd hte hst hm hn
      go_enter Tryz.func101, Tryz.ntmps101
      go_wp2_with fail
      go_ret
      exact ⟨rfl, (Below.refl _ _).alloc (Nat.le_refl _) _⟩
    · have d1 : ((m : Int) == (n : Int)) = false := by rw [beq_eq_false_iff_ne]; omega
      have hd : decide (t = st.data.toList ∧ m = n) = false := by rw [decide_eq_false_iff_not]; exact fun h => hn h.2
      rw [hd]
      clear hd hte hst hm hn
      go_enter Tryz.func101, Tryz.ntmps101
      go_wp2_with fail
      go_ret
      exact ⟨rfl, (Below.refl _ _).alloc (Nat.le_refl _) _⟩
  · have s1 := str_ne ht
    have hd : decide (t = tag.data.toList ∧ m = n) = false := by
      rw [decide_eq_false_iff_not]; rintro ⟨h, _⟩
      apply ht
      rw [hte] at h
      cases st; cases tag
      simp only [ByteArray.mk.injEq]
      exact Array.toList_inj.1 h
    rw [hd]
    clear hd hte hst hm
    go_enter Tryz.func101, Tryz.ntmps101
    go_wp2_with fail
    go_ret
    exact ⟨rfl, (Below.refl _ _).alloc (Nat.le_refl _) _⟩
end Go.Proofs.YtgfijlamhjjecaaGreatDoor


/-
  WrapX0: contracts of the three questions that wrap.Parse asks of its numbers. No condition beyond those stated.
-/
namespace Go.Proofs.YtgfijlamhjjecaaGreatDoor
open Go.RowKit
set_option maxRecDepth 100000 in
set_option maxHeartbeats 2000000 in
theorem p1_any {p0 p1 p2 p3 p4 : Nat} (w : World) {b0 b1 b2 b3 b4 : Bool} (h0 : w.cell? ⟨p0, 0, none⟩ = some (.bool b0)) (h1 : w.cell? ⟨p1, 0, none⟩ = some (.bool b1)) (h2 : w.cell? ⟨p2, 0, none⟩ = some (.bool b2)) (h3 : w.cell? ⟨p3, 0, none⟩ = some (.bool b3)) (h4 : w.cell? ⟨p4, 0, none⟩ = some (.bool b4)) :
    Calls Tryz.prog 104 #[.pointer (some ⟨p0, 0, none⟩), .pointer (some ⟨p1, 0, none⟩), .pointer (some ⟨p2, 0, none⟩), .pointer (some ⟨p3, 0, none⟩), .pointer (some ⟨p4, 0, none⟩)] w fun e w' => e = .returned (.bool (b0 && b1 && b2 && b3 && b4)) ∧ w = w' := by
  cases b0
  · go_enter Tryz.func104, Tryz.ntmps104
    go_wp2_with fail
    go_ret
    exact ⟨rfl, rfl⟩
  cases b1
  · go_enter Tryz.func104, Tryz.ntmps104
    go_wp2_with fail
    go_ret
    exact ⟨rfl, rfl⟩
  cases b2
  · go_enter Tryz.func104, Tryz.ntmps104
    go_wp2_with fail
    go_ret
    exact ⟨rfl, rfl⟩
  cases b3
  · go_enter Tryz.func104, Tryz.ntmps104
    go_wp2_with fail
    go_ret
    exact ⟨rfl, rfl⟩
  · go_enter Tryz.func104, Tryz.ntmps104
    go_wp2_with fail
    go_ret
    exact ⟨rfl, rfl⟩
set_option maxRecDepth 100000 in
theorem p2_any {p0 p1 : Nat} (w : World) {r : Int} {n : Nat} (hn : 2 ≤ n) (hn2 : n ≤ 64) (h0 : w.cell? ⟨p0, 0, none⟩ = some (.int .u64 r)) (h1 : w.cell? ⟨p1, 0, none⟩ = some (.int .i64 (n : Int))) :
    Calls Tryz.prog 105 #[.pointer (some ⟨p0, 0, none⟩), .pointer (some ⟨p1, 0, none⟩)] w fun e w' => e = .returned (.bool (r == ((n - 2 : Nat) : Int))) ∧ w = w' := by
  have en : (n : Int) - 2 = ((n - 2 : Nat) : Int) := by omega
  have hc : IntKind.u64.wrap ((n - 2 : Nat) : Int) = ((n - 2 : Nat) : Int) := by rw [IntKind.wrap_u64]; omega
  go_enter Tryz.func105, Tryz.ntmps105
  go_wp2_with fail
  go_ret
  exact ⟨rfl, rfl⟩
set_option maxRecDepth 100000 in
theorem p3_any {p0 p1 : Nat} (w : World) {r s : Int} (h0 : w.cell? ⟨p0, 0, none⟩ = some (.int .u64 r)) (h1 : w.cell? ⟨p1, 0, none⟩ = some (.int .u64 s)) :
    Calls Tryz.prog 106 #[.pointer (some ⟨p0, 0, none⟩), .pointer (some ⟨p1, 0, none⟩)] w fun e w' => e = .returned (.bool (r == s)) ∧ w = w' := by
  go_enter Tryz.func106, Tryz.ntmps106
  go_wp2_with fail
  go_ret
  exact ⟨rfl, rfl⟩
/-- what the numbers of head and tail make of an interchange -/
theorem wrapHT_num {e0 e1 e2 g0 g1 : List Str} {m : List Seg} {r0 r1 r2 r3 r4 : Int} {b0 b1 b2 b3 b4 : Bool} (q0 : NumQ 8 e0 r0 b0) (q1 : NumQ 8 e1 r1 b1) (q2 : NumQ 0 e2 r2 b2) (q3 : NumQ 0 g0 r3 b3) (q4 : NumQ 0 g1 r4 b4) :
    ((b0 && b1 && b2 && b3 && b4) = false → wrapHT ⟨unb, [e0, e1, e2]⟩ ⟨unz, [g0, g1]⟩ m = (wd0, 40)) ∧
    ((b0 && b1 && b2 && b3 && b4) = true → ∃ u0 u1 u2 u3 u4 : Nat, (r0 = u0 ∧ r1 = u1 ∧ r2 = u2 ∧ r3 = u3 ∧ r4 = u4) ∧ wrapHT ⟨unb, [e0, e1, e2]⟩ ⟨unz, [g0, g1]⟩ m = if u3 ≠ m.length then (wd0, 41) else if u2 ≠ u4 then (wd0, 42) else (⟨u0, u1, u2, m⟩, 0)) := by
  have eh : numsW ⟨unb, [e0, e1, e2]⟩ unb 3 = numsL [e0, e1, e2] := by unfold numsW; rw [if_pos ⟨rfl, rfl⟩]
  have ez : numsW ⟨unz, [g0, g1]⟩ unz 2 = numsL [g0, g1] := by unfold numsW; rw [if_pos ⟨rfl, rfl⟩]
  unfold wrapHT
  rw [eh, ez]
  simp only [numsL]
  refine ⟨fun h => ?_, fun h => ?_⟩
  · cases o0 : oneN e0 with
    | none => rfl
    | some v0 =>
    cases o1 : oneN e1 with
    | none => rfl
    | some v1 =>
    cases o2 : oneN e2 with
    | none => rfl
    | some v2 =>
    cases o3 : oneN g0 with
    | none => rfl
    | some v3 =>
    cases o4 : oneN g1 with
    | none => rfl
    | some v4 =>
    simp only
    have hb2 : b2 = true := by rcases q2 with ⟨h, _⟩ | ⟨_, h⟩; exact h; exact absurd (.inl rfl) (h _ o2)
    have hb3 : b3 = true := by rcases q3 with ⟨h, _⟩ | ⟨_, h⟩; exact h; exact absurd (.inl rfl) (h _ o3)
    have hb4 : b4 = true := by rcases q4 with ⟨h, _⟩ | ⟨_, h⟩; exact h; exact absurd (.inl rfl) (h _ o4)
    rw [if_pos]
    subst hb2; subst hb3; subst hb4
    rcases q0 with ⟨h0, _⟩ | ⟨_, h0⟩
    · rcases q1 with ⟨h1, _⟩ | ⟨_, h1⟩
      · subst h0; subst h1; exact absurd h (by decide)
      · have := h1 _ o1; right; omega
    · have := h0 _ o0; left; omega
  · simp only [Bool.and_eq_true] at h
    obtain ⟨⟨⟨⟨h0, h1⟩, h2⟩, h3⟩, h4⟩ := h
    rcases q0 with ⟨_, u0, o0, k0, s0⟩ | ⟨h, _⟩
    · rcases q1 with ⟨_, u1, o1, k1, s1⟩ | ⟨h, _⟩
      · rcases q2 with ⟨_, u2, o2, k2, s2⟩ | ⟨h, _⟩
        · rcases q3 with ⟨_, u3, o3, k3, s3⟩ | ⟨h, _⟩
          · rcases q4 with ⟨_, u4, o4, k4, s4⟩ | ⟨h, _⟩
            · rw [o0, o1, o2, o3, o4]
              simp only
              exact ⟨u0, u1, u2, u3, u4, ⟨s0, s1, s2, s3, s4⟩, by rw [if_neg (by omega)]⟩
            · rw [h] at h4; cases h4
          · rw [h] at h3; cases h3
        · rw [h] at h2; cases h2
      · rw [h] at h1; cases h1
    · rw [h] at h0; cases h0
end Go.Proofs.YtgfijlamhjjecaaGreatDoor

