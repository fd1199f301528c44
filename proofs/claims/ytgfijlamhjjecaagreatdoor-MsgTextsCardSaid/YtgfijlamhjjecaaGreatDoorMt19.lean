/-
  Texts EdiA5, WrapT, one behind the other. No condition beyond those stated in each.
-/
import Derived.Test.YtgfijlamhjjecaaGreatDoorMt6
import Derived.Test.YtgfijlamhjjecaaGreatDoorMt7
import Derived.Test.YtgfijlamhjjecaaGreatDoorMt5
namespace Go.Proofs.YtgfijlamhjjecaaGreatDoor
open Go.RowKit
def PI (B sp : Nat) (C : Array Value) (w0 : World) (v : Value) (txt : Str) (w : World) : Prop := OwnS w B v txt ∧ w.heap[sp]? = some (.cells C 94 (0, 0)) ∧ Below B w0 w
theorem PI.grow {B sp : Nat} {C : Array Value} {w0 w w' : World} {v v' : Value} {l l' : Str} (h : PI B sp C w0 v l w) (ho : OwnS w' B v' l') (hg : w.grownBy w' v.ownBlock) (hB : B ≤ w.heap.size) : PI B sp C w0 v' l' w' := by
  refine ⟨ho, (hg.block sp (Array.getElem?_eq_some_iff.1 h.2.1).1 (fun e => ?_)).trans h.2.1, below_grownO h.2.2 h.1 hg hB⟩
  obtain ⟨C', hC, _⟩ := own_ty h.1 e.symm
  rw [h.2.1] at hC
  cases hC
theorem PI.c {B sp : Nat} {C : Array Value} {w0 w : World} {v : Value} {l : Str} (h : PI B sp C w0 v l w) (j : Nat) : w.cell? ⟨sp, j, none⟩ = C[j]? := cell_of_row w sp j _ _ _ h.2.1
theorem PI.le {B sp : Nat} {C : Array Value} {w0 w : World} {v : Value} {l : Str} (h : PI B sp C w0 v l w) (hB : B = w0.heap.size) : B ≤ w.heap.size := by rw [hB]; exact h.2.2.size
def preT (e : List Str) (j : Nat) : Str := if j = 0 then [] else elemT (e.take j) ++ [58]
theorem preT_comp {e : List Str} {j : Nat} {p : Str} (h : e[j]? = some p) : elemT (e.take (j + 1)) = preT e j ++ compT p := by
  unfold preT
  have hj : j < e.length := (List.getElem?_eq_some_iff.1 h).1
  rw [List.take_add_one, h]
  by_cases h0 : j = 0
  · subst h0; rw [if_pos rfl]; rfl
  · rw [if_neg h0]
    have hne : e.take j ≠ [] := by intro e0; have := congrArg List.length e0; rw [List.length_take, List.length_nil] at this; omega
    have h1 : ∀ (l : List Str), l ≠ [] → elemT (l ++ [p]) = elemT l ++ 58 :: compT p := fun l hl => by
      cases l with
      | nil => exact absurd rfl hl
      | cons a l => rw [List.cons_append, elemT_cons, elemT_cons]; unfold restT; rw [List.flatMap_append]; simp
    show elemT (e.take j ++ [p]) = _
    rw [h1 _ hne]; simp
theorem flat_take {α : Type} {l : List α} {k : Nat} {x : α} (f : α → Str) (h : l[k]? = some x) : (l.take (k + 1)).flatMap f = (l.take k).flatMap f ++ f x := by
  rw [List.take_add_one, h]; simp
theorem flat_take_len {α : Type} (f : α → Str) (l : List α) (k : Nat) : ((l.take k).flatMap f).length ≤ (l.flatMap f).length := by
  have h := congrArg (fun m => (List.flatMap f m).length) (List.take_append_drop k l)
  simp only [List.flatMap_append, List.length_append] at h
  omega
def toldT (l : List Seg) (i : Nat) (t : Str) (es : List (List Str)) (k : Nat) (x : Str) : Str := printT (l.take i) ++ t ++ (es.take k).flatMap (fun e => 43 :: elemT e) ++ x
theorem told_len {l : List Seg} {i : Nat} {t : Str} {es : List (List Str)} {k : Nat} {e : List Str} {x : Str} (hs : l[i]? = some ⟨t, es⟩) (he : es[k]? = some e) (hx : x.length ≤ (elemT e).length + 1) : (toldT l i t es k x).length + 1 ≤ (printT l).length := by
  have h1 := flat_take_len segT l (i + 1)
  rw [flat_take segT hs, List.length_append] at h1
  have h2 := flat_take_len (fun e => 43 :: elemT e) es (k + 1)
  rw [flat_take (fun e => 43 :: elemT e) he, List.length_append] at h2
  have h3 := segT_len ⟨t, es⟩
  unfold toldT printT
  simp only [List.length_append, List.length_cons] at h1 h2 h3 ⊢
  omega
theorem preT_len {e : List Str} {j : Nat} {p : Str} (h : e[j]? = some p) : (preT e j).length + (compT p).length ≤ (elemT e).length := by
  rw [← List.length_append, ← preT_comp h]
  have h0 : ∀ (a b : List Str), (elemT a).length ≤ (elemT (a ++ b)).length := fun a b => by
    cases a with
    | nil => simp [elemT, joinB]
    | cons x a => rw [List.cons_append, elemT_cons, elemT_cons]; unfold restT; rw [List.flatMap_append]; simp
  have := h0 (e.take (j + 1)) (e.drop (j + 1))
  rw [List.take_append_drop] at this; exact this
set_option maxRecDepth 100000 in
set_option maxHeartbeats 8000000 in
theorem rPrint_any {S : Nat → Prop} (w : World) (v : Value) (l : List Seg) (h : SegsAt S w v l) (hS : ∀ k, S k → k < w.heap.size) (hP : (printT l).length ≤ 1048576) :
    Calls Tryz.prog 59 #[v] w fun e w' => e = .returned (.tuple #[sv (printE l).1, .int .i64 (printE l).2]) ∧ Below w.heap.size w w' := by
  have hb := bds_of hP
  have HPL := Lib.hid hP
  obtain ⟨ao, cap, rfl, h1, h2⟩ := h.form
  have H := Lib.hid (h.cong (T := Low w) hS (fun _ _ => rfl))
  have hn := hb.n
  have HBD := Lib.hid hb
  obtain ⟨R, hR⟩ : ∃ R, printE l = R := ⟨_, rfl⟩
  have HR := Lib.hid hR
  rw [hR]
  obtain ⟨n, hln⟩ : ∃ n, l.length = n := ⟨_, rfl⟩
  have HLN := Lib.hid hln
  rw [hln] at h1 hn H ⊢
  clear hb hR hP hln h hS
  unfold maxLen at h2
  obtain ⟨B, hB⟩ : ∃ B, w.heap.size = B := ⟨_, rfl⟩
  have HBQ := Lib.hid hB
  obtain ⟨LG, hLG⟩ : ∃ b, decide ((64 : Int) < (n : Int)) = b := ⟨_, rfl⟩
  have HLG := Lib.hid (show decide (64 < n) = LG by rw [← hLG]; simp only [decide_eq_decide]; omega)
  rw [hB]
  go_enter Tryz.func59, Tryz.ntmps59
  go_wp2_with fail
  clear hB hLG
  go_loopw [4, 5, 6, 7, 8] (fun bv a sg lo i wr => ∃ (k : Nat) (A G L : Bool), k ≤ n ∧ i = .int .i64 (k : Int) ∧ a = .bool A ∧ sg = .bool G ∧ lo = .bool L ∧ Hid (A = (l.take k).any argS) ∧ Hid (G = (l.take k).any fun s => signE s.elems) ∧ Hid (L = (LG || (l.take k).any longS)) ∧ Hid (OwnS wr B bv (printT (l.take k))) ∧ Hid (Below B w wr)) (fun _ _ _ _ i _ => n - (intOf i).toNat)
  case atStart => exact ⟨0, false, false, LG, by omega, rfl, rfl, rfl, rfl, Lib.hid rfl, Lib.hid rfl, Lib.hid (by simp), Lib.hid (OwnS.nil _ _), Lib.hid (Below.refl _ _)⟩
  case round =>
    obtain ⟨k, A, G, L, hk, rfl, rfl, rfl, rfl, HA, HG, HL, HO, HBE⟩ := hrel
    by_cases hlt : k < n
    · skip
      obtain ⟨s, hs⟩ : ∃ s, l[k]? = some s := ⟨_, List.getElem?_eq_getElem (by rw [HLN.out]; exact hlt)⟩
      obtain ⟨sb, off, x, rfl, hsb, c0, c1, hel⟩ := H.out.get hs
      obtain ⟨t, es⟩ := s
      obtain ⟨eo, ecap, rfl, he1, he2⟩ := hel.form
      have HEL := Lib.hid hel
      have hsb' : sb < B := by rw [← HBQ.out]; exact hsb
      have d0 := (HBE.out.cell (p := ⟨sb, off + k * 2, none⟩) hsb').trans c0
      have d1 := (HBE.out.cell (p := ⟨sb, off + k * 2 + 1, none⟩) hsb').trans c1
      have HS := Lib.hid hs
      have hbs := HBD.out.seg ⟨t, es⟩ (List.mem_of_getElem? hs)
      have HBE1 := Lib.hid (HBD.out.el ⟨t, es⟩ (List.mem_of_getElem? hs))
      have HBE2 := Lib.hid (HBD.out.co ⟨t, es⟩ (List.mem_of_getElem? hs))
      have hws := HBE.out.size
      rw [HBQ.out] at hws
      obtain ⟨hbt, hbe, hbg⟩ := hbs
      obtain ⟨st, hst⟩ : ∃ st : ByteArray, (⟨t.toArray⟩ : ByteArray) = st := ⟨_, rfl⟩
      have hss : st.size = t.length := by rw [← hst]; rfl
      have HST := Lib.hid hst
      obtain ⟨m0, hm0⟩ : ∃ m0, es.length = m0 := ⟨_, rfl⟩
      have HM0 := Lib.hid hm0
      simp only [sv] at d0
      rw [hst] at d0
      simp only at d1 he1 hbe hbt
      rw [hm0] at d1 he1 hbe
      clear hs hsb c0 c1 hel hst hm0
      unfold maxLen at he2
      have b1 : (0 : Int) ≤ k := by omega
      have b2 : (k : Int) < n := by omega
      obtain ⟨lt, hlt'⟩ : ∃ x, (printT (l.take k)) = x := ⟨_, rfl⟩
      have hlq : lt.length + t.length + 1 ≤ 1048576 := by
        have h1 := flat_take_len segT l (k + 1)
        rw [flat_take segT HS.out, List.length_append, segT_len] at h1
        have h2 := HPL.out
        unfold printT at h2 hlt'
        rw [← hlt']; simp only at h1; omega
      have HLT := Lib.hid hlt'
      rw [← hss] at hlq
      have HSS := Lib.hid hss
      clear hss hbt hbg
      rw [hlt'] at HO
      clear hlt'
      go_upto_region 9 with fail
      obtain ⟨sp, hsp⟩ : ∃ sp, wr.heap.size = sp := ⟨_, rfl⟩
      obtain ⟨w2, hw2⟩ : ∃ w2, wr.alloc (.cells #[.string st, .slice eo m0 ecap] 94) = w2 := ⟨_, rfl⟩
      obtain ⟨C, hC⟩ : ∃ C : Array Value, #[.string st, .slice eo m0 ecap] = C := ⟨_, rfl⟩
      have HC0 := Lib.hid (show C[0]? = some (.string st) by rw [← hC]; rfl)
      have HC1 := Lib.hid (show C[1]? = some (.slice eo m0 ecap) by rw [← hC]; rfl)
      have HPI := Lib.hid (show PI B sp C w u4 lt w2 by
        rw [← hw2, ← hsp, ← hC]
        exact ⟨HO.out.cong (fun k hk => Below.heap_alloc _ _ _ hk), heap_alloc_new _ _, HBE.out.alloc hws _⟩)
      have s0 : w2.cell? ⟨sp, 0, none⟩ = some (.string st) := (HPI.out.c 0).trans HC0.out
      have s1 : w2.cell? ⟨sp, 1, none⟩ = some (.slice eo m0 ecap) := (HPI.out.c 1).trans HC1.out
      rw [hsp, hw2]
      clear hsp hw2 d0 d1 HO HBE hws hC
      obtain ⟨T3, hT3⟩ : ∃ b, (t.length != 3) = b := ⟨_, rfl⟩
      have d3 : ((st.size : Int) != 3) = T3 := by rw [← hT3, HSS.out, Bool.eq_iff_iff]; simp; omega
      have HT3 := Lib.hid hT3
      clear hT3
      go_cut [5] (fun a wx => a = .bool (A || T3) ∧ w2 = wx)
      case first =>
        cases A with
        | true => clear d3; go_wp2_with fail; go_meet; case rel => exact ⟨rfl, rfl⟩
        | false =>
          cases T3
          all_goals
            go_wp2_with fail
            go_meet
            case rel => exact ⟨rfl, rfl⟩
      case rest =>
        obtain ⟨rfl, rfl⟩ := hcut
        clear d3
        obtain ⟨A1, hA1⟩ : ∃ b, (A || T3) = b := ⟨_, rfl⟩
        have HA1 := Lib.hid hA1
        rw [hA1]
        clear hA1
        go_wp2_with fail
        go_loop [5, 10] (fun a i => ∃ (q : Nat) (A2 : Bool), q ≤ st.size ∧ i = .int .i64 (q : Int) ∧ a = .bool A2 ∧ Hid (A2 = (A1 || (t.take q).any fun c => !tagB c))) (fun _ i => st.size - (intOf i).toNat)
        case atStart => exact ⟨0, A1, Nat.zero_le _, rfl, rfl, Lib.hid (by simp)⟩
        case round =>
          obtain ⟨q, A2, hq, rfl, rfl, HA2⟩ := hrel
          by_cases hqlt : q < st.size
          · skip
            obtain ⟨c, hc⟩ : ∃ c, t[q]? = some c := ⟨_, List.getElem?_eq_getElem (by rw [← HSS.out]; exact hqlt)⟩
            have hcq : (st[q]'hqlt).toNat = c.toNat := by
              have h1 := at_byte st q hqlt
              have hd : st.data.toList = t := by rw [← HST.out]
              rw [hd, hc] at h1
              injection h1 with h1
              exact congrArg UInt8.toNat h1.symm
            have HT := Lib.hid (any_take (fun c => !tagB c) hc)
            have htc := fun w => rTag_any c w
            obtain ⟨TC, hTC⟩ : ∃ b, tagB c = b := ⟨_, rfl⟩
            have HTC := Lib.hid hTC
            rw [hTC] at htc
            obtain ⟨cn, hcn⟩ : ∃ n, c.toNat = n := ⟨_, rfl⟩
            rw [hcn] at hcq htc
            have HTA := Lib.hid htc
            have b5 : (0 : Int) ≤ q := by omega
            have b6 : (q : Int) < st.size := by omega
            clear hc hTC hcn htc
            cases A2 with
            | true =>
              go_wp2_with fail
              go_round
              case rel => exact ⟨q + 1, true, by omega, by go_num, rfl, Lib.hid (by rw [HT.out, ← Bool.or_assoc, ← HA2.out]; rfl)⟩
              case measure => simp [intOf]; omega
            | false =>
              cases TC
              all_goals
                go_wp2_with (go_at_call 98; (with_reducible refine (HTA.out _).mono ?_); rintro e w' ⟨rfl, rfl⟩)
                go_round
                case rel => exact ⟨q + 1, _, by omega, by go_num, rfl, Lib.hid (by rw [HT.out, ← Bool.or_assoc, ← HA2.out, HTC.out]; rfl)⟩
                case measure => simp [intOf]; omega
          · skip
            obtain rfl : q = st.size := by omega
            have hA2 : A2 = (A || tagBad t) := by
              have h1 := HA2.out
              rw [HSS.out, List.take_of_length_le (Nat.le_refl _), ← HA1.out, ← HT3.out] at h1
              rw [h1]; unfold tagBad; rw [Bool.or_assoc, List.not_all_eq_any_not]
            have HA2' := Lib.hid hA2
            obtain ⟨LE, hLE⟩ : ∃ b, decide (16 < m0) = b := ⟨_, rfl⟩
            have HLE := Lib.hid hLE
            clear hA2
            go_upto_region 15 with ((with_reducible refine wpList_at (.call { callee := .builtin .append, args := #[.tmp 52, .tmp 54], argTypes := #[72, 9] }) rfl ?_); go_loud (refine wp_app_str rfl _ _ rfl st rfl rfl HPI.out.1 (by omega) (HPI.out.le HBQ.out.symm) ?_); intro v3 w3 ho3 hg3; have HPI3 := Lib.hid (HPI.out.grow ho3 hg3 (HPI.out.le HBQ.out.symm)); clear ho3 hg3)
            have s0' : w3.cell? ⟨sp, 0, none⟩ = some (.string st) := (HPI3.out.c 0).trans HC0.out
            have s1' : w3.cell? ⟨sp, 1, none⟩ = some (.slice eo m0 ecap) := (HPI3.out.c 1).trans HC1.out
            have d16 : decide ((16 : Int) < (m0 : Int)) = LE := by rw [← hLE]; simp only [decide_eq_decide]; omega
            clear s0 s1 hLE
            go_cut [7] (fun lo wx => lo = .bool (L || LE) ∧ w3 = wx)
            case first =>
              cases L with
              | true => clear d16; go_wp2_with fail; go_meet; case rel => exact ⟨rfl, rfl⟩
              | false =>
                cases LE
                all_goals
                  go_wp2_with fail
                  go_meet
                  case rel => exact ⟨rfl, rfl⟩
            case rest =>
              obtain ⟨rfl, rfl⟩ := hcut
              clear d16
              obtain ⟨L1, hL1⟩ : ∃ b, (L || LE) = b := ⟨_, rfl⟩
              have HL1 := Lib.hid hL1
              rw [hL1]
              clear hL1
              have HP4 : Hid (PI B sp C w v3 (toldT l k t es 0 []) w3) := Lib.hid (by
                have h := HPI3.out
                have e1 : lt ++ st.data.toList = toldT l k t es 0 [] := by unfold toldT; rw [← HST.out, ← HLT.out]; simp
                rw [e1] at h; exact h)
              clear HPI3 HPI
              go_wp2_with fail
              clear s0' s1'
              go_loopw [4, 5, 6, 7, 11] (fun bv a sg lo i wr => ∃ (m : Nat) (A4 G2 L2 : Bool), m ≤ m0 ∧ i = .int .i64 (m : Int) ∧ a = .bool A4 ∧ sg = .bool G2 ∧ lo = .bool L2 ∧ Hid (A4 = (A2 || argE (es.take m))) ∧ Hid (G2 = (G || signE (es.take m))) ∧ Hid (L2 = (L1 || longE (es.take m))) ∧ Hid (PI B sp C w bv (toldT l k t es m []) wr)) (fun _ _ _ _ i _ => m0 - (intOf i).toNat)
              case atStart => exact ⟨0, A2, G, L1, Nat.zero_le _, rfl, rfl, rfl, rfl, Lib.hid (by simp [argE]), Lib.hid (by simp [signE]), Lib.hid (by simp [longE]), HP4⟩
              case round =>
                obtain ⟨m, A4, G2, L2, hm, rfl, rfl, rfl, rfl, HA4, HG2, HL2, HP5⟩ := hrel
                clear HP4
                have s0 : wr.cell? ⟨sp, 0, none⟩ = some (.string st) := (HP5.out.c 0).trans HC0.out
                have s1 : wr.cell? ⟨sp, 1, none⟩ = some (.slice eo m0 ecap) := (HP5.out.c 1).trans HC1.out
                by_cases hml : m < m0
                · skip
                  obtain ⟨e, he⟩ : ∃ e, es[m]? = some e := ⟨_, List.getElem?_eq_getElem (by rw [HM0.out]; exact hml)⟩
                  obtain ⟨eb, eoff, x2, rfl, heb, e0, hco⟩ := HEL.out.get he
                  obtain ⟨ea, ecap2, rfl, hc1, hc2⟩ := hco.form
                  have heb' : eb < B := by rw [← HBQ.out]; exact heb
                  have e1 := (HP5.out.2.2.cell (p := ⟨eb, eoff + m, none⟩) heb').trans e0
                  have HCO := Lib.hid hco
                  have hmem := List.mem_of_getElem? he
                  obtain ⟨hne1, hne2⟩ := HBE1.out e hmem
                  have HPE := Lib.hid (HBE2.out e hmem)
                  have HE := Lib.hid he
                  obtain ⟨ne, hne⟩ : ∃ ne, e.length = ne := ⟨_, rfl⟩
                  have HNE := Lib.hid hne
                  rw [hne] at e1 hne1 hc1
                  have b3 : (0 : Int) ≤ m := by omega
                  have b4 : (m : Int) < m0 := by omega
                  obtain ⟨EE, hEE⟩ : ∃ b, decide (ne = 0) = b := ⟨_, rfl⟩
                  have HEE := Lib.hid hEE
                  obtain ⟨LC, hLC⟩ : ∃ b, decide (8 < ne) = b := ⟨_, rfl⟩
                  have HLC := Lib.hid hLC
                  have d0 : ((ne : Int) == 0) = EE := by rw [← hEE]; rw [Bool.eq_iff_iff]; simp
                  have d8 : decide ((8 : Int) < (ne : Int)) = LC := by rw [← hLC]; simp only [decide_eq_decide]; omega
                  unfold maxLen at hc2
                  clear he heb e0 hco hmem hne hEE hLC
                  go_upto_region 20 with fail
                  clear e1
                  go_cut [5] (fun a wx => a = .bool (A4 || EE) ∧ wr = wx)
                  case first =>
                    clear d8
                    cases A4 with
                    | true => clear d0; go_wp2_with fail; go_meet; case rel => exact ⟨rfl, rfl⟩
                    | false =>
                      cases EE
                      all_goals
                        go_wp2_with fail
                        go_meet
                        case rel => exact ⟨rfl, rfl⟩
                  case rest =>
                    obtain ⟨rfl, rfl⟩ := hcut
                    clear d0
                    go_upto_region 21 with fail
                    go_cut [7] (fun lo wx => lo = .bool (L2 || LC) ∧ wr = wx)
                    case first =>
                      cases L2 with
                      | true => clear d8; go_wp2_with fail; go_meet; case rel => exact ⟨rfl, rfl⟩
                      | false =>
                        cases LC
                        all_goals
                          go_wp2_with fail
                          go_meet
                          case rel => exact ⟨rfl, rfl⟩
                    case rest =>
                      obtain ⟨rfl, rfl⟩ := hcut
                      clear d8
                      obtain ⟨A5, hA5⟩ : ∃ b, (A4 || EE) = b := ⟨_, rfl⟩
                      have HA5 := Lib.hid hA5
                      obtain ⟨L3, hL3⟩ : ∃ b, (L2 || LC) = b := ⟨_, rfl⟩
                      have HL3 := Lib.hid hL3
                      rw [hA5, hL3]
                      clear hA5 hL3
                      have HTL := Lib.hid (fun (x : Str) (hx : x.length ≤ (elemT e).length + 1) => Nat.le_trans (told_len HS.out HE.out hx) HPL.out)
                      have hbn := HTL.out [] (by simp)
                      have d43 : bv 43 = .int .u8 43 := rfl
                      go_wp2_with ((with_reducible refine wpList_at (.call { callee := .builtin .append, args := #[.tmp 87, .tmp 88], argTypes := #[72, 72] }) rfl ?_); go_loud (refine wp_app1 rfl _ _ rfl 43 rfl rfl HP5.out.1 (by omega) (HP5.out.le HBQ.out.symm) ?_); intro v4 w4 ho4 hg4; have HPI4 := Lib.hid (HP5.out.grow ho4 hg4 (HP5.out.le HBQ.out.symm)); clear ho4 hg4)
                      clear hbn
                      have HP6 : Hid (PI B sp C w v4 (toldT l k t es m (43 :: elemT (e.take 0))) w4) := Lib.hid (by
                        have h := HPI4.out
                        have e1 : toldT l k t es m [] ++ [43] = toldT l k t es m (43 :: elemT (e.take 0)) := by unfold toldT; simp [elemT, joinB]
                        rw [e1] at h; exact h)
                      clear HPI4 s0 s1
                      go_loopw [4, 6, 7, 13] (fun bv sg lo i wr => ∃ (j : Nat) (G3 L4 : Bool), j ≤ ne ∧ i = .int .i64 (j : Int) ∧ sg = .bool G3 ∧ lo = .bool L4 ∧ Hid (G3 = (G2 || signC (e.take j))) ∧ Hid (L4 = (L3 || longC (e.take j))) ∧ Hid (PI B sp C w bv (toldT l k t es m (43 :: elemT (e.take j))) wr)) (fun _ _ _ i _ => ne - (intOf i).toNat)
                      case atStart => exact ⟨0, G2, L3, Nat.zero_le _, rfl, rfl, rfl, Lib.hid (by simp [signC]), Lib.hid (by simp [longC]), HP6⟩
                      case round =>
                        obtain ⟨j, G3, L4, hj, rfl, rfl, rfl, HG3, HL4, HP7⟩ := hrel
                        clear HP6
                        by_cases hjl : j < ne
                        · skip
                          obtain ⟨p, hp⟩ : ∃ p, e[j]? = some p := ⟨_, List.getElem?_eq_getElem (by rw [HNE.out]; exact hjl)⟩
                          obtain ⟨pb, poff, rfl, hpb, g0⟩ := HCO.out.get hp
                          have hpb' : pb < B := by rw [← HBQ.out]; exact hpb
                          have hpl := preT_len hp
                          have hps := HPE.out p (List.mem_of_getElem? hp)
                          have HP := Lib.hid hp
                          obtain ⟨ps, hpse⟩ : ∃ ps : ByteArray, (⟨p.toArray⟩ : ByteArray) = ps := ⟨_, rfl⟩
                          have hpsz : ps.size = p.length := by rw [← hpse]; rfl
                          simp only [sv] at g0
                          rw [hpse] at g0
                          have HPS := Lib.hid hpse
                          have HG0 := Lib.hid g0
                          have b5 : (0 : Int) ≤ j := by omega
                          have b6 : (j : Int) < ne := by omega
                          clear hp hpb hpse g0
                          have hbn := HTL.out (43 :: elemT (e.take j)) (by
                            rw [List.length_cons]
                            have h0 : (elemT (e.take j)).length ≤ (elemT e).length := by
                              have h1 : ∀ (a b : List Str), (elemT a).length ≤ (elemT (a ++ b)).length := fun a b => by
                                cases a with
                                | nil => simp [elemT, joinB]
                                | cons x a => rw [List.cons_append, elemT_cons, elemT_cons]; unfold restT; rw [List.flatMap_append]; simp
                              have := h1 (e.take j) (e.drop j)
                              rw [List.take_append_drop] at this; exact this
                            omega)
                          go_upto_if 97 with fail
                          go_cut [4] (fun bv wx => Hid (PI B sp C w bv (toldT l k t es m (43 :: preT e j)) wx))
                          case first =>
                            by_cases hj0 : j = 0
                            · subst hj0
                              go_wp2_with fail
                              go_meet
                              case rel => exact Lib.hid HP7.out
                            · have dj : decide ((0 : Int) < (j : Int)) = true := by rw [decide_eq_true_eq]; omega
                              have HJ := Lib.hid hj0
                              have dj2 : (0 : Int) < (j : Int) := by omega
                              clear hj0
                              go_wp2_with ((with_reducible refine wpList_at (.call { callee := .builtin .append, args := #[.tmp 98, .tmp 99], argTypes := #[72, 72] }) rfl ?_); go_loud (refine wp_app1 rfl _ _ rfl 58 rfl rfl HP7.out.1 (by omega) (HP7.out.le HBQ.out.symm) ?_); intro v5 w5 ho5 hg5; have HPI5 := Lib.hid (HP7.out.grow ho5 hg5 (HP7.out.le HBQ.out.symm)); clear ho5 hg5)
                              go_meet
                              case rel =>
                                exact Lib.hid (by
                                  have h := HPI5.out
                                  have e1 : toldT l k t es m (43 :: elemT (e.take j)) ++ [58] = toldT l k t es m (43 :: preT e j) := by unfold toldT preT; rw [if_neg HJ.out]; simp
                                  rw [e1] at h; exact h)
                          case rest =>
                            have HP8 := hcut
                            clear hcut HP7 hbn
                            obtain ⟨LP, hLP⟩ : ∃ b, decide (256 < p.length) = b := ⟨_, rfl⟩
                            have HLP := Lib.hid hLP
                            have d256 : decide ((256 : Int) < (ps.size : Int)) = LP := by rw [← hLP, hpsz]; simp only [decide_eq_decide]; omega
                            have g1 := (HP8.out.2.2.cell (p := ⟨pb, poff + j, none⟩) hpb').trans HG0.out
                            have HPSZ := Lib.hid hpsz
                            have hpsb : ps.size ≤ 1048576 := by omega
                            clear hLP hpsz
                            go_upto_region 28 with fail
                            go_cut [7] (fun lo wx => lo = .bool (L4 || LP) ∧ wc = wx)
                            case first =>
                              cases L4 with
                              | true => clear d256; go_wp2_with fail; go_meet; case rel => exact ⟨rfl, rfl⟩
                              | false =>
                                cases LP
                                all_goals
                                  go_wp2_with fail
                                  go_meet
                                  case rel => exact ⟨rfl, rfl⟩
                            case rest =>
                              obtain ⟨rfl, rfl⟩ := hcut
                              clear d256
                              obtain ⟨L5, hL5⟩ : ∃ b, (L4 || LP) = b := ⟨_, rfl⟩
                              have HL5 := Lib.hid hL5
                              rw [hL5]
                              clear hL5
                              have HP9 : Hid (PI B sp C w u4 (toldT l k t es m (43 :: (preT e j ++ compT (p.take 0)))) wc) := Lib.hid (by
                                have h := HP8.out
                                have e1 : preT e j ++ compT (p.take 0) = preT e j := by simp [compT]
                                rw [e1]; exact h)
                              go_wp2_with fail
                              clear g1
                              go_loopw [4, 6, 14] (fun bv sg i wr => ∃ (z : Nat) (G4 : Bool), z ≤ ps.size ∧ i = .int .i64 (z : Int) ∧ sg = .bool G4 ∧ Hid (G4 = (G3 || (p.take z).any badB)) ∧ Hid (PI B sp C w bv (toldT l k t es m (43 :: (preT e j ++ compT (p.take z)))) wr)) (fun _ _ i _ => ps.size - (intOf i).toNat)
                              case atStart => exact ⟨0, G3, Nat.zero_le _, rfl, rfl, Lib.hid (by simp), HP9⟩
                              case round =>
                                obtain ⟨z, G4, hz, rfl, rfl, HG4, HPA⟩ := hrel
                                clear HP9 HP8
                                have g1 := (HPA.out.2.2.cell (p := ⟨pb, poff + j, none⟩) hpb').trans HG0.out
                                by_cases hzl : z < ps.size
                                · skip
                                  obtain ⟨c, hc⟩ : ∃ c, p[z]? = some c := ⟨_, List.getElem?_eq_getElem (by rw [← HPSZ.out]; exact hzl)⟩
                                  have hcq : (ps[z]'hzl).toNat = c.toNat := by
                                    have h1 := at_byte ps z hzl
                                    have hd : ps.data.toList = p := by rw [← HPS.out]
                                    rw [hd, hc] at h1
                                    injection h1 with h1
                                    exact congrArg UInt8.toNat h1.symm
                                  have HB := Lib.hid (any_take badB hc)
                                  have HCT := Lib.hid (compT_take hc)
                                  have hcl : (compT (p.take (z + 1))).length ≤ (compT p).length := by rw [compT_len p]; exact outF_fit p (z + 1)
                                  have hx2 : 1 ≤ (escB c).length := by unfold escB; split <;> simp
                                  have hcl2 : (compT (p.take z)).length + (escB c).length ≤ (compT p).length := by rw [HCT.out, List.length_append] at hcl; exact hcl
                                  have hbn1 := HTL.out (43 :: (preT e j ++ compT (p.take z))) (by rw [List.length_cons, List.length_append]; omega)
                                  obtain ⟨B1, hB1⟩ : ∃ b, decide (c.toNat < 32) = b := ⟨_, rfl⟩
                                  obtain ⟨B2, hB2⟩ : ∃ b, decide (126 < c.toNat) = b := ⟨_, rfl⟩
                                  have HBB := Lib.hid (show badB c = (B1 || B2) by unfold badB; rw [hB1, hB2])
                                  have d32 : decide ((c.toNat : Int) < 32) = B1 := by rw [← hB1]; simp only [decide_eq_decide]; omega
                                  have d126 : decide ((126 : Int) < (c.toNat : Int)) = B2 := by rw [← hB2]; simp only [decide_eq_decide]; omega
                                  have b7 : (0 : Int) ≤ z := by omega
                                  have b8 : (z : Int) < ps.size := by omega
                                  have hts := fun w => rSign_any c w
                                  obtain ⟨SB, hSB⟩ : ∃ b, signB c = b := ⟨_, rfl⟩
                                  have HSB := Lib.hid hSB
                                  rw [hSB] at hts
                                  have HTS := Lib.hid hts
                                  have HEB := Lib.hid (show escB c = if SB then [63, c] else [c] by unfold escB; rw [hSB])
                                  have hbn2 : (toldT l k t es m (43 :: (preT e j ++ compT (p.take z))) ++ [63]).length + 1 ≤ 140737488355328 := by rw [List.length_append, List.length_singleton]; omega
                                  clear hc hB1 hB2 hSB hts hcl
                                  go_upto_region 33 with fail
                                  go_cut [6] (fun sg wx => sg = .bool (G4 || (B1 || B2)) ∧ wr = wx)
                                  case first =>
                                    cases G4 with
                                    | true => clear d32 d126; go_wp2_with fail; go_meet; case rel => exact ⟨rfl, rfl⟩
                                    | false =>
                                      cases B1 with
                                      | true => clear d126; go_wp2_with fail; go_meet; case rel => exact ⟨rfl, rfl⟩
                                      | false =>
                                        cases B2
                                        all_goals
                                          go_wp2_with fail
                                          go_meet
                                          case rel => exact ⟨rfl, rfl⟩
                                  case rest =>
                                    obtain ⟨rfl, rfl⟩ := hcut
                                    clear d32 d126
                                    obtain ⟨G5, hG5⟩ : ∃ b, (G4 || (B1 || B2)) = b := ⟨_, rfl⟩
                                    have HG5 := Lib.hid hG5
                                    rw [hG5]
                                    clear hG5
                                    cases SB with
                                    | true =>
                                      go_wp2_with first
                                        | (go_at_call 99; (with_reducible refine (HTS.out _).mono ?_); rintro e w' ⟨rfl, rfl⟩)
                                        | ((with_reducible refine wpList_at (.call { callee := .builtin .append, args := #[.tmp 136, .tmp 137], argTypes := #[72, 72] }) rfl ?_); go_loud (refine wp_app1 rfl _ _ rfl 63 rfl rfl HPA.out.1 (by omega) (HPA.out.le HBQ.out.symm) ?_); intro v8 w8 ho8 hg8; have HPI8 := Lib.hid (HPA.out.grow ho8 hg8 (HPA.out.le HBQ.out.symm)); clear ho8 hg8)
                                        | ((with_reducible refine wpList_at (.call { callee := .builtin .append, args := #[.tmp 139, .tmp 141], argTypes := #[72, 72] }) rfl ?_); go_loud (refine wp_app1 rfl _ _ rfl c rfl rfl HPI8.out.1 (by exact hbn2) (HPI8.out.le HBQ.out.symm) ?_); intro v9 w9 ho9 hg9; have HPI9 := Lib.hid (HPI8.out.grow ho9 hg9 (HPI8.out.le HBQ.out.symm)); clear ho9 hg9)
                                      go_roundw
                                      case rel =>
                                        refine ⟨z + 1, G5, by omega, by go_num, rfl, Lib.hid ?_, Lib.hid ?_⟩
                                        · rw [HB.out, ← Bool.or_assoc, ← HG4.out, HBB.out, HG5.out]
                                        · have h := HPI9.out
                                          have e1 : toldT l k t es m (43 :: (preT e j ++ compT (p.take z))) ++ [63] ++ [c] = toldT l k t es m (43 :: (preT e j ++ compT (p.take (z + 1)))) := by
                                            rw [HCT.out, HEB.out]; unfold toldT; simp
                                          rw [e1] at h; exact h
                                      case measure => simp [intOf]; omega
                                    | false =>
                                      go_wp2_with first
                                        | (go_at_call 99; (with_reducible refine (HTS.out _).mono ?_); rintro e w' ⟨rfl, rfl⟩)
                                        | ((with_reducible refine wpList_at (.call { callee := .builtin .append, args := #[.tmp 139, .tmp 141], argTypes := #[72, 72] }) rfl ?_); go_loud (refine wp_app1 rfl _ _ rfl c rfl rfl HPA.out.1 (by omega) (HPA.out.le HBQ.out.symm) ?_); intro v9 w9 ho9 hg9; have HPI9 := Lib.hid (HPA.out.grow ho9 hg9 (HPA.out.le HBQ.out.symm)); clear ho9 hg9)
                                      go_roundw
                                      case rel =>
                                        refine ⟨z + 1, G5, by omega, by go_num, rfl, Lib.hid ?_, Lib.hid ?_⟩
                                        · rw [HB.out, ← Bool.or_assoc, ← HG4.out, HBB.out, HG5.out]
                                        · have h := HPI9.out
                                          have e1 : toldT l k t es m (43 :: (preT e j ++ compT (p.take z))) ++ [c] = toldT l k t es m (43 :: (preT e j ++ compT (p.take (z + 1)))) := by
                                            rw [HCT.out, HEB.out]; unfold toldT; simp
                                          rw [e1] at h; exact h
                                      case measure => simp [intOf]; omega
                                · skip
                                  obtain rfl : z = ps.size := by omega
                                  have hte : p.take ps.size = p := List.take_of_length_le (by rw [HPSZ.out]; exact Nat.le_refl _)
                                  have HTE := Lib.hid hte
                                  clear hte
                                  go_wp2_with fail
                                  go_roundw
                                  case rel =>
                                    refine ⟨j + 1, G4, L5, by omega, by go_num, rfl, rfl, Lib.hid ?_, Lib.hid ?_, Lib.hid ?_⟩
                                    · rw [HG4.out, HTE.out, HG3.out]; unfold signC; rw [any_take (fun p => p.any badB) HP.out, Bool.or_assoc]
                                    · rw [← HL5.out, HL4.out, ← HLP.out]; unfold longC; rw [any_take (fun p => decide (256 < p.length)) HP.out, Bool.or_assoc]
                                    · have h := HPA.out
                                      rw [HTE.out, ← preT_comp HP.out] at h; exact h
                                  case measure => simp [intOf]; omega
                        · skip
                          obtain rfl : j = ne := by omega
                          have hte : e.take j = e := List.take_of_length_le (by rw [HNE.out]; exact Nat.le_refl _)
                          have HTE := Lib.hid hte
                          clear hte
                          go_wp2_with fail
                          go_roundw
                          case rel =>
                            refine ⟨m + 1, A5, G3, L4, by omega, by go_num, rfl, rfl, rfl, Lib.hid ?_, Lib.hid ?_, Lib.hid ?_, Lib.hid ?_⟩
                            · rw [← HA5.out, HA4.out, ← HEE.out]; unfold argE; rw [any_take (fun e : List Str => e.isEmpty) HE.out, ← HNE.out]; cases e <;> simp
                            · rw [HG3.out, HTE.out, HG2.out]; unfold signE; rw [any_take signC HE.out, Bool.or_assoc]
                            · rw [HL4.out, HTE.out, ← HL3.out, HL2.out, ← HLC.out]; unfold longE; rw [any_take (fun e => decide (8 < e.length) || longC e) HE.out, HNE.out]; simp only [Bool.or_assoc]
                            · have h := HP7.out
                              have e1 : toldT l k t es m (43 :: elemT (e.take j)) = toldT l k t es (m + 1) [] := by
                                rw [HTE.out]; unfold toldT; rw [flat_take (fun e => 43 :: elemT e) HE.out]; simp
                              rw [e1] at h; exact h
                          case measure => simp [intOf]; omega
                · skip
                  obtain rfl : m = m0 := by omega
                  have hte : es.take m = es := List.take_of_length_le (by rw [HM0.out]; exact Nat.le_refl _)
                  have HTE := Lib.hid hte
                  have htt : toldT l k t es m [] ++ [39] = printT (l.take (k + 1)) := by
                    rw [printT_take HS.out]; unfold toldT segT; rw [hte]; simp
                  have HTT := Lib.hid htt
                  have hbn : (toldT l k t es m []).length + 1 ≤ 1048576 := by
                    have h1 := congrArg List.length htt
                    have h2 := flat_take_len segT l (k + 1)
                    have h3 := HPL.out
                    unfold printT at h1 h3
                    rw [List.length_append, List.length_singleton] at h1
                    omega
                  clear hte htt
                  go_wp2_with ((with_reducible refine wpList_at (.call { callee := .builtin .append, args := #[.tmp 143, .tmp 144], argTypes := #[72, 72] }) rfl ?_); go_loud (refine wp_app1 rfl _ _ rfl 39 rfl rfl HP5.out.1 (by omega) (HP5.out.le HBQ.out.symm) ?_); intro v4 w4 ho4 hg4; have HPI4 := Lib.hid (HP5.out.grow ho4 hg4 (HP5.out.le HBQ.out.symm)); clear ho4 hg4)
                  go_roundw
                  case rel =>
                    refine ⟨k + 1, A4, G2, L2, by omega, by go_num, rfl, rfl, rfl, Lib.hid ?_, Lib.hid ?_, Lib.hid ?_, Lib.hid ?_, Lib.hid ?_⟩
                    · rw [any_take argS HS.out, ← HA.out, HA4.out, HTE.out, HA2'.out, Bool.or_assoc]; rfl
                    · rw [any_take (fun s => signE s.elems) HS.out, ← HG.out]; have h := HG2.out; rw [HTE.out] at h; exact h
                    · rw [HL2.out, HTE.out, ← HL1.out, HL.out, ← HLE.out, any_take longS HS.out, show longS ⟨t, es⟩ = (decide (16 < es.length) || longE es) from rfl, HM0.out]; simp only [Bool.or_assoc]
                    · have h := HPI4.out.1; rw [HTT.out] at h; exact h
                    · exact HPI4.out.2.2
                  case measure => simp [intOf]; omega
    · skip
      obtain rfl : k = n := by omega
      have hte : l.take k = l := List.take_of_length_le (by rw [HLN.out]; exact Nat.le_refl _)
      have hB0 := HO.out
      have hA := HA.out
      have hG := HG.out
      have hL := HL.out
      rw [hte] at hB0 hA hG hL
      have hLP : longP l = L := by rw [longP_eq, hL, ← HLG.out, HLN.out]
      have hpe : printE l = if A then ([], 1) else if G then ([], 30) else if L || decide (65536 < (printT l).length) then ([], 2) else (printT l, 0) := by
        unfold printE; rw [argP_eq, ← hA, signP_eq, ← hG, hLP]
      have hBw := HBE.out.size
      rw [HBQ.out] at hBw
      have HBE2 := HBE.out
      have HLN' := HLN.out
      have hlp := HPL.out
      rw [HR.out] at hpe
      obtain ⟨PT, hPT⟩ : ∃ PT, printT l = PT := ⟨_, rfl⟩
      rw [hPT] at hpe hB0 hlp
      clear hA hG hL hte hLP HA HG HL HO HLG HR HPL HBD HLN' hPT
      have hHBE2 := Lib.hid HBE2
      obtain ⟨ba, bc, rfl⟩ := hB0.form
      have hcv : (convert 72 9 (.slice ba PT.length bc)).run Tryz.prog wr = .ok (.string ⟨PT.toArray⟩) wr := conv_own hB0
      clear hB0 HBE2
      cases A with
      | true =>
        obtain rfl : R = ([], 1) := hpe
        clear hcv
        go_wp2_with fail
        go_ret2
        exact ⟨rfl, hHBE2.out⟩
      | false =>
        cases G with
        | true =>
          obtain rfl : R = ([], 30) := hpe
          go_wp2_with fail
          go_ret2
          exact ⟨rfl, hHBE2.out⟩
        | false =>
          cases L with
          | true =>
            obtain rfl : R = ([], 2) := hpe
            go_wp2_with fail
            go_ret2
            exact ⟨rfl, hHBE2.out⟩
          | false =>
            by_cases hbig : 65536 < PT.length
            · obtain rfl : R = ([], 2) := by rw [hpe]; simp [hbig]
              have hd : decide ((65536 : Int) < (PT.length : Int)) = true := by simp; omega
              clear hcv
              go_wp2_with fail
              go_ret2
              exact ⟨rfl, hHBE2.out⟩
            · obtain rfl : R = (PT, 0) := by rw [hpe]; simp [hbig]
              have hd : decide ((65536 : Int) < (PT.length : Int)) = false := by simp; omega
              go_wp2_with fail
              go_ret2
              exact ⟨rfl, hHBE2.out⟩
end Go.Proofs.YtgfijlamhjjecaaGreatDoor


namespace Go.Proofs.YtgfijlamhjjecaaGreatDoor
open Go.RowKit
theorem cat_data' (a b : ByteArray) : (a ++ b).data.toList = a.data.toList ++ b.data.toList := by simp [ByteArray.data_append]
theorem dec_bytes {u : Nat} (hu : u < 18446744073709551616) : ∃ da : ByteArray, (⟨(decT u).toArray⟩ : ByteArray) = da ∧ da.data.toList = decT u ∧ da.size ≤ 20 := ⟨_, rfl, rfl, by have := dec_len20 hu; simpa [ByteArray.size] using this⟩
theorem rdec_q {u : Nat} (hu : u < 18446744073709551616) {da : ByteArray} (hd : (⟨(decT u).toArray⟩ : ByteArray) = da) (w : World) : Calls Tryz.prog 25 #[.int .u64 (u : Int)] w fun e w' => e = .returned (.string da) ∧ ∃ d, w' = w.drewN d := by
  rw [← hd]; exact rdec_any u hu w
theorem sv_data' (r : ByteArray) : sv r.data.toList = .string r := by cases r; rfl
set_option maxRecDepth 100000 in
set_option maxHeartbeats 8000000 in
theorem r4Print_any {S : Nat → Prop} (x : WD) (v : Value) (w : World) (h1 : x.fr < 256) (h2 : x.dst < 256) (h3 : x.rf < 18446744073709551616) (hs : SegsAt S w v x.segs) (hS : ∀ k, S k → k < w.heap.size) (hP : (printT x.segs).length ≤ 1048576) :
    Calls Tryz.prog 22 #[wv x v] w fun e w' => WPrintQ x w e w' := by
  obtain ⟨fr, dst, rf, m⟩ := x
  simp only at h1 h2 h3 hs hP
  obtain ⟨B, hB⟩ : ∃ B, w.heap.size = B := ⟨_, rfl⟩
  have HBQ := Lib.hid hB
  have HS := Lib.hid hS
  have HSG := Lib.hid hs
  have HPL := Lib.hid hP
  obtain ⟨ao, cap, rfl, c1, c2⟩ := hs.form
  obtain ⟨n, hn⟩ : ∃ n, m.length = n := ⟨_, rfl⟩
  have HN := Lib.hid hn
  rw [hn] at c1 HSG ⊢
  unfold maxLen at c2
  have hbd := (bds_of hP).n
  rw [hn] at hbd
  unfold WPrintQ
  rw [hB]
  obtain ⟨w1, hw1⟩ : ∃ w1, w.alloc (.cells #[.int .u8 (fr : Int), .int .u8 (dst : Int), .int .u64 (rf : Int), .slice ao n cap] 41) = w1 := ⟨_, rfl⟩
  have hz1 : w1.heap.size = B + 1 := by rw [← hw1]; simp [hB]
  have HB1 : Hid (Below B w w1) := Lib.hid (by rw [← hw1, ← hB]; exact (Below.refl _ _).alloc (Nat.le_refl _) _)
  have hr1 : w1.heap[B]? = some (.cells #[.int .u8 (fr : Int), .int .u8 (dst : Int), .int .u64 (rf : Int), .slice ao n cap] 41 (0, 0)) := by rw [← hw1, ← hB]; exact heap_alloc_new _ _
  have HR1 := Lib.hid hr1
  obtain ⟨⟨d0, d1, d2, d3⟩, _⟩ := cells4 hr1
  have HZ1 := Lib.hid hz1
  have HW1 := Lib.hid hw1
  have wr1 : IntKind.u64.wrap (fr : Int) = (fr : Int) := by rw [IntKind.wrap_u64]; omega
  have wr2 : IntKind.u64.wrap (dst : Int) = (dst : Int) := by rw [IntKind.wrap_u64]; omega
  clear hB hs hS hP hn hz1 hw1 hr1
  by_cases g1 : 8 ≤ fr
  · skip
    have i1 : decide ((8 : Int) ≤ (fr : Int)) = true := by rw [decide_eq_true_eq]; omega
    have hE : wrapPrintE ⟨fr, dst, rf, m⟩ = ([], 1) := by unfold wrapPrintE; rw [if_pos (.inl g1)]
    have HE := Lib.hid hE
    clear hE
    unfold wv
    go_enter Tryz.func22, Tryz.ntmps22
    go_upto_region 1 with fail
    rw [HW1.out, HBQ.out]
    go_wp2_with fail
    go_ret2
    rw [HE.out]
    exact ⟨rfl, HB1.out⟩
  have i1 : decide ((8 : Int) ≤ (fr : Int)) = false := by rw [decide_eq_false_iff_not]; omega
  by_cases g2 : 8 ≤ dst
  · skip
    have i2 : decide ((8 : Int) ≤ (dst : Int)) = true := by rw [decide_eq_true_eq]; omega
    have hE : wrapPrintE ⟨fr, dst, rf, m⟩ = ([], 1) := by unfold wrapPrintE; rw [if_pos (.inr g2)]
    have HE := Lib.hid hE
    clear hE
    unfold wv
    go_enter Tryz.func22, Tryz.ntmps22
    go_upto_region 1 with fail
    rw [HW1.out, HBQ.out]
    go_wp2_with fail
    go_ret2
    rw [HE.out]
    exact ⟨rfl, HB1.out⟩
  have i2 : decide ((8 : Int) ≤ (dst : Int)) = false := by rw [decide_eq_false_iff_not]; omega
  by_cases g3 : 62 < n
  · skip
    have i3 : decide ((64 : Int) < (n : Int) + 2) = true := by rw [decide_eq_true_eq]; omega
    have hE : wrapPrintE ⟨fr, dst, rf, m⟩ = ([], 2) := by unfold wrapPrintE; rw [if_neg (by simp only; omega), if_pos (by simp only; rw [HN.out]; exact g3)]
    have HE := Lib.hid hE
    clear hE
    unfold wv
    go_enter Tryz.func22, Tryz.ntmps22
    go_upto_region 1 with fail
    rw [HW1.out, HBQ.out]
    go_wp2_with fail
    go_ret2
    rw [HE.out]
    exact ⟨rfl, HB1.out⟩
  · skip
    have i3 : decide ((64 : Int) < (n : Int) + 2) = false := by rw [decide_eq_false_iff_not]; omega
    have HL0 := Lib.hid (show ¬ 62 < m.length by rw [HN.out]; exact g3)
    have HE := Lib.hid (wrapPrintE_ref ⟨fr, dst, rf, m⟩ h3 (by simp only; omega) HL0.out)
    have wr3 : IntKind.u64.wrap (n : Int) = (n : Int) := by rw [IntKind.wrap_u64]; omega
    obtain ⟨da, ea, la, sa⟩ := dec_bytes (show fr < 18446744073709551616 by omega)
    obtain ⟨db, eb, lb, sb⟩ := dec_bytes (show dst < 18446744073709551616 by omega)
    obtain ⟨dc, ec, lc, sc⟩ := dec_bytes h3
    obtain ⟨dn, en, ln, sn⟩ := dec_bytes (show n < 18446744073709551616 by omega)
    have KA := Lib.hid (fun w => rdec_q (show fr < 18446744073709551616 by omega) ea w)
    have KB := Lib.hid (fun w => rdec_q (show dst < 18446744073709551616 by omega) eb w)
    have KC := Lib.hid (fun w => rdec_q h3 ec w)
    have KN := Lib.hid (fun w => rdec_q (show n < 18446744073709551616 by omega) en w)
    have LA := Lib.hid la
    have LB := Lib.hid lb
    have LC := Lib.hid lc
    have LN := Lib.hid ln
    have H3 := Lib.hid h3
    clear ea eb ec en la lb lc ln h3 h1 h2
    obtain ⟨R, hR⟩ : ∃ R, printE m = R := ⟨_, rfl⟩
    obtain ⟨rs, rn⟩ := R
    obtain ⟨ra, hra⟩ : ∃ ra : ByteArray, (⟨rs.toArray⟩ : ByteArray) = ra := ⟨_, rfl⟩
    have HRAD := Lib.hid (show ra.data.toList = rs by rw [← hra])
    have HPR := Lib.hid (rPrint_any (S := S) w1 (.slice ao n cap) m (HSG.out.cong (fun _ hk => hk) (fun k hk => HB1.out.block k (by rw [← HBQ.out]; exact HS.out k hk))) (fun k hk => by rw [HZ1.out]; have := HS.out k hk; rw [HBQ.out] at this; omega) HPL.out)
    rw [hR] at HPR
    have HR := Lib.hid hR
    simp only [sv, hra] at HPR
    have hrl : ra.size ≤ 65536 := by
      have hp : rs.length ≤ 65536 := by
        have h := hR
        unfold printE at h
        split at h
        · cases h; simp
        · split at h
          · cases h; simp
          · split at h
            · cases h; simp
            · rename_i hh
              cases h
              simp only [Bool.or_eq_true, decide_eq_true_eq, not_or] at hh
              omega
      rw [← HRAD.out] at hp
      simpa using hp
    have HRL := Lib.hid hrl
    clear hR hra hrl
    unfold wv
    go_enter Tryz.func22, Tryz.ntmps22
    go_upto_region 1 with fail
    rw [HW1.out, HBQ.out]
    go_upto_region 6 with ((with_reducible refine HPR.out.mono ?_); rintro e w2 ⟨rfl, hb2⟩; rw [HZ1.out] at hb2; have HB2 := Lib.hid hb2; clear hb2)
    have HBW := Lib.hid (HB1.out.trans (HB2.out.mono (by omega)))
    obtain ⟨⟨q0, q1, q2, q3⟩, _⟩ := cells4 ((HB2.out.block B (by omega)).trans HR1.out)
    clear d0 d1 d2 d3 HPR
    by_cases hrn : rn = 0
    · subst hrn
      have hrl := HRL.out
      go_upto_region 8 with fail
      go_quiet ((first | (with_reducible exact Calls.quiet_of (KA.out _)) | (with_reducible exact Calls.quiet_of (KB.out _)) | (with_reducible exact Calls.quiet_of (KC.out _)) | (with_reducible exact Calls.quiet_of (KN.out _))))
      obtain ⟨X, hX⟩ : ∃ X : ByteArray, (⟨#[85, 78, 66, 43]⟩ : ByteArray) ++ da ++ (⟨#[43]⟩ : ByteArray) ++ db ++ (⟨#[43]⟩ : ByteArray) ++ dc ++ (⟨#[39]⟩ : ByteArray) ++ ra ++ (⟨#[85, 78, 90, 43]⟩ : ByteArray) ++ dn ++ (⟨#[43]⟩ : ByteArray) ++ dc ++ (⟨#[39]⟩ : ByteArray) = X := ⟨_, rfl⟩
      have hXd : X.data.toList = roundT fr dst rf n rf rs := by
        rw [← hX]
        simp only [cat_data', LA.out, LB.out, LC.out, LN.out, HRAD.out]
        unfold roundT unb unz
        simp
      rw [hX]
      have hXs : X.size = (roundT fr dst rf n rf rs).length := by rw [← hXd]; simp
      have HXD := Lib.hid hXd
      have HXS := Lib.hid hXs
      have HE2 := HE.out
      rw [HR.out, HN.out, if_neg (by simp)] at HE2
      have HE3 := Lib.hid HE2
      clear hX hXd hXs HE HE2 q0 q1 q2 q3
      by_cases hx : 65536 < X.size
      · have e7 : decide ((65536 : Int) < (X.size : Int)) = true := by rw [decide_eq_true_eq]; omega
        go_wp2_with fail
        go_ret2
        rw [HE3.out, if_pos (by rw [← HXS.out]; exact hx)]
        exact ⟨rfl, HBW.out.trans (Drew.below ⟨_, rfl⟩ _)⟩
      · have e7 : decide ((65536 : Int) < (X.size : Int)) = false := by rw [decide_eq_false_iff_not]; omega
        go_wp2_with fail
        go_ret2
        rw [HE3.out, if_neg (by rw [← HXS.out]; exact hx), ← HXD.out]
        exact ⟨by rw [sv_data']; rfl, HBW.out.trans (Drew.below ⟨_, rfl⟩ _)⟩
    · have d0 : (rn != 0) = true := by rw [bne_iff_ne]; exact hrn
      have HRN := Lib.hid hrn
      clear hrn
      go_wp2_with fail
      go_ret2
      rw [HE.out, HR.out, if_pos HRN.out]
      exact ⟨rfl, HBW.out⟩
end Go.Proofs.YtgfijlamhjjecaaGreatDoor

