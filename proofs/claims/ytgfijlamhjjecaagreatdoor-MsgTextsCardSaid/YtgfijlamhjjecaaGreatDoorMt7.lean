/-
  Texts EdiA6, EdiZ2, EdiA7, EdiA9, WrapA, WrapS, WrapR, WrapM, MsgQ6, MsgQ1, one behind the other. No condition beyond those stated in each.
-/
import Derived.Test.YtgfijlamhjjecaaGreatDoorMt6
import Derived.Test.YtgfijlamhjjecaaGreatDoorMt4
import Derived.Test.YtgfijlamhjjecaaGreatDoorMt5
import Derived.Lib.SmallJoins
import Derived.OpenShut
import Derived.DataShut
namespace Go.Proofs.YtgfijlamhjjecaaGreatDoor
open Go.RowKit
structure OE (H sp : Nat) (st : ByteArray) (w : World) (ev : Value) (ys : List Value) (es : List (List Str)) : Prop where
  row : w.ownsRow H 58 1 ev es.length ys
  len : ys.length = es.length
  c : w.heap[sp]? = some (.cells #[.string st, ev] 94 (0, 0))
  el : ∀ (i : Nat) (e : List Str) (x : Value), es[i]? = some e → ys[i]? = some x → CompsAt (fun b => H ≤ b ∧ b < w.heap.size ∧ ev.ownBlock ≠ some b ∧ b ≠ sp) w x e
theorem OE.start {H sp : Nat} {st : ByteArray} {w : World} (hc : w.heap[sp]? = some (.cells #[.string st, .slice none 0 0] 94 (0, 0))) : OE H sp st w (.slice none 0 0) [] [] :=
  ⟨World.ownsRow_nil _ _ _ _, rfl, hc, fun i e x h => by simp at h⟩
theorem OE.cells {H sp : Nat} {st : ByteArray} {w : World} {ev : Value} {ys : List Value} {es : List (List Str)} (h : OE H sp st w ev ys es) : w.cell? ⟨sp, 0, none⟩ = some (.string st) ∧ w.cell? ⟨sp, 1, none⟩ = some ev ∧ w.frozen? ⟨sp, 1, none⟩ = false :=
  ⟨cell_of_row w sp 0 _ _ _ h.c, cell_of_row w sp 1 _ _ _ h.c, frozen_of_row w sp 1 _ _ h.c⟩
theorem OE.lt {H sp : Nat} {st : ByteArray} {w : World} {ev : Value} {ys : List Value} {es : List (List Str)} (h : OE H sp st w ev ys es) : sp < w.heap.size := (Array.getElem?_eq_some_iff.1 h.c).1
theorem OE.drew {H sp : Nat} {st : ByteArray} {w w' : World} {ev : Value} {ys : List Value} {es : List (List Str)} (h : OE H sp st w ev ys es) (e : w'.heap = w.heap) : OE H sp st w' ev ys es :=
  ⟨own_cong h.row (fun k _ => by rw [e]), h.len, by rw [e]; exact h.c, fun i e' x h1 h2 => (h.el i e' x h1 h2).cong (fun k hk => by rw [e]; exact hk) (fun k _ => by rw [e])⟩
theorem row_snoc {α : Type} {l : List α} {a : α} {i : Nat} {x : α} (h : (l ++ [a])[i]? = some x) : l[i]? = some x ∨ (i = l.length ∧ x = a) := by
  rcases Nat.lt_or_ge i l.length with hi | hi
  · rw [List.getElem?_append_left hi] at h; exact .inl h
  · rw [List.getElem?_append_right hi] at h
    obtain ⟨hlt, h2⟩ := List.getElem?_eq_some_iff.1 h
    simp at hlt
    exact .inr ⟨by omega, by rw [← h2]; simp⟩
theorem own_not {w : World} {B : Nat} {e t : TypeId} {s n k : Nat} {v : Value} {xs : List Value} {C : Array Value} (h : w.ownsRow B e s v n xs) (hc : w.heap[k]? = some (.cells C t (0, 0))) (hne : t ≠ e) : v.ownBlock ≠ some k := fun hk => by
  obtain ⟨C', hC, _⟩ := own_ty h hk
  rw [hc] at hC
  cases hC; exact hne rfl
theorem OE.step {H sp : Nat} {st : ByteArray} {w w2 w3 : World} {ev ev' cv : Value} {ys : List Value} {es : List (List Str)} {e : List Str} (h : OE H sp st w ev ys es) (hH : H ≤ w.heap.size) (hb : Below w.heap.size w w2)
    (hco : CompsAt (fun b => w.heap.size ≤ b ∧ b < w2.heap.size) w2 cv e) (hg : w2.grownBy w3 ev.ownBlock) (ho : w3.ownsRow H 58 1 ev' (es.length + 1) (ys ++ [cv])) (hk : ev'.ownBlock = ev.ownBlock ∨ ∃ k, ev'.ownBlock = some k ∧ w2.heap.size ≤ k) :
    OE H sp st (w3.setCell ⟨sp, 1, none⟩ ev') ev' (ys ++ [cv]) (es ++ [e]) := by
  have hsp := h.lt
  have hz := hb.size
  have hz3 := hg.size
  have hesp : ev.ownBlock ≠ some sp := own_not h.row h.c (by decide)
  have c3 : w3.heap[sp]? = some (.cells #[.string st, ev] 94 (0, 0)) := (hg.block sp (by omega) (fun e => hesp e.symm)).trans ((hb.block sp hsp).trans h.c)
  have hesp' : ev'.ownBlock ≠ some sp := own_not ho c3 (by decide)
  have far : ∀ k, k ≠ sp → (w3.setCell ⟨sp, 1, none⟩ ev').heap[k]? = w3.heap[k]? := fun k hk => heap_setCell_other w3 _ _ _ (by simpa using hk)
  have hsz : (w3.setCell ⟨sp, 1, none⟩ ev').heap.size = w3.heap.size := by simp
  have hcond : ∀ b, b < w2.heap.size → ev.ownBlock ≠ some b → ev'.ownBlock ≠ some b := fun b hb2 hne he => by
    rcases hk with hk | ⟨k, hk, hk2⟩
    · exact hne (hk ▸ he)
    · rw [hk] at he; cases he; omega
  refine ⟨?_, by simp [h.len], heap_setCell_same w3 sp 1 _ _ _ c3, fun i a x h1 h2 => ?_⟩
  · rw [List.length_append]; exact own_cong ho (fun k hk => far k (fun e => hesp' (e ▸ hk)))
  · rcases row_snoc h1 with h1 | ⟨rfl, rfl⟩
    · have hil := (List.getElem?_eq_some_iff.1 h1).1
      rw [List.getElem?_append_left (by rw [h.len]; exact hil)] at h2
      have h3 := h.el i a x h1 h2
      refine h3.cong (fun b hb' => ⟨hb'.1, by omega, hcond b (by omega) hb'.2.2.1, hb'.2.2.2⟩) (fun b hb' => ?_)
      exact (far b hb'.2.2.2).trans ((hg.block b (by omega) (fun e => hb'.2.2.1 e.symm)).trans (hb.block b (by omega)))
    · rw [← h.len, List.getElem?_append_right (Nat.le_refl _), Nat.sub_self] at h2
      cases h2
      have hne : ∀ b, w.heap.size ≤ b → ev.ownBlock ≠ some b := fun b hb' he => by have := (own_lt h.row he).2; omega
      refine hco.cong (fun b hb' => ⟨by omega, by omega, hcond b hb'.2 (hne b hb'.1), by omega⟩) (fun b hb' => ?_)
      exact (far b (by omega)).trans (hg.block b hb'.2 (fun e => hne b hb'.1 e.symm))
structure OO (B : Nat) (w : World) (ov : Value) (xs : List Value) (l : List Seg) : Prop where
  row : w.ownsRow B 94 2 ov l.length (segCells l xs)
  len : xs.length = l.length
  el : ∀ (i : Nat) (s : Seg) (x : Value), l[i]? = some s → xs[i]? = some x → ElemsAt (fun b => B ≤ b ∧ b < w.heap.size ∧ ov.ownBlock ≠ some b) w x s.elems
theorem OO.start (B : Nat) (w : World) : OO B w (.slice none 0 0) [] [] := ⟨World.ownsRow_nil _ _ _ _, rfl, fun i s x h => by simp at h⟩
theorem OO.step {B H sp : Nat} {st : ByteArray} {t : Str} {w wr w4 : World} {ov ov' ev : Value} {xs ys : List Value} {l : List Seg} {es : List (List Str)} (h : OO B w ov xs l) (hst : (⟨t.toArray⟩ : ByteArray) = st) (hH : w.heap.size = H) (hB : B ≤ H) (hb : Below H w wr) (he : OE H sp st wr ev ys es)
    (hg : wr.grownBy w4 ov.ownBlock) (ho : w4.ownsRow B 94 2 ov' (l.length + 1) (segCells l xs ++ [.string st, ev])) (hk : ov'.ownBlock = ov.ownBlock ∨ ∃ k, ov'.ownBlock = some k ∧ wr.heap.size ≤ k) :
    OO B w4 ov' (xs ++ [ev]) (l ++ [⟨t, es⟩]) := by
  have hz := hb.size
  have hz4 := hg.size
  have hcond : ∀ b, b < wr.heap.size → ov.ownBlock ≠ some b → ov'.ownBlock ≠ some b := fun b hb2 hne he => by
    rcases hk with hk | ⟨k, hk, hk2⟩
    · exact hne (hk ▸ he)
    · rw [hk] at he; cases he; omega
  have hov : ∀ k, ov.ownBlock = some k → k < H := fun k hk => by rw [← hH]; exact (own_lt h.row hk).2
  refine ⟨?_, by simp [h.len], fun i s x h1 h2 => ?_⟩
  · rw [List.length_append, segCells_app l [⟨t, es⟩] xs [ev] h.len]
    have : segCells [⟨t, es⟩] [ev] = [.string st, ev] := by rw [← hst]; rfl
    rw [this]; exact ho
  · rcases row_snoc h1 with h1 | ⟨rfl, rfl⟩
    · have hil := (List.getElem?_eq_some_iff.1 h1).1
      rw [List.getElem?_append_left (by rw [h.len]; exact hil)] at h2
      refine (h.el i s x h1 h2).cong (fun b hb' => ⟨hb'.1, by omega, hcond b (by omega) hb'.2.2⟩) (fun b hb' => ?_)
      exact (hg.block b (by omega) (fun e => hb'.2.2 e.symm)).trans (hb.block b (by omega))
    · rw [← h.len, List.getElem?_append_right (Nat.le_refl _), Nat.sub_self] at h2
      cases h2
      have hne : ∀ b, H ≤ b → ov.ownBlock ≠ some b := fun b hb' he => by have := hov b he; omega
      have hr : wr.ownsRow H 58 1 ev ys.length ys := by rw [he.len]; exact he.row
      have h5 : RowAt (fun b => H ≤ b ∧ b < wr.heap.size) wr ev ys := own_rest hr (fun k hk => own_lt he.row hk)
      refine ⟨ys, h5.cong (fun b hb' => ⟨by omega, by omega, hcond b hb'.2 (hne b hb'.1)⟩) (fun b hb' => hg.block b hb'.2 (fun e => hne b hb'.1 e.symm)), he.len, fun i e x h6 h7 => ?_⟩
      exact (he.el i e x h6 h7).cong (fun b hb' => ⟨by omega, by omega, hcond b hb'.2.1 (hne b hb'.1)⟩) (fun b hb' => hg.block b hb'.2.1 (fun e => hne b hb'.1 e.symm))
theorem OO.rest {B : Nat} {w : World} {ov : Value} {xs : List Value} {l : List Seg} (h : OO B w ov xs l) : SegsAt (fun b => B ≤ b ∧ b < w.heap.size) w ov l :=
  segs_rest h.row h.len (fun _ hk => own_lt h.row hk) (fun i s x h1 h2 => (h.el i s x h1 h2).cong (fun _ hb => ⟨hb.1, hb.2.1⟩) (fun _ _ => rfl))
end Go.Proofs.YtgfijlamhjjecaaGreatDoor


namespace Go.Proofs.YtgfijlamhjjecaaGreatDoor
open Go.RowKit
theorem own_slice {w : World} {B : Nat} {e : TypeId} {s n : Nat} {v : Value} {xs : List Value} (h : w.ownsRow B e s v n xs) : ∃ a c, v = .slice a n c := by
  obtain ⟨_, ⟨h1, h2⟩ | ⟨g, cap, _, h1, _⟩⟩ := h
  · exact ⟨none, 0, by rw [h1, h2]⟩
  · exact ⟨_, cap, h1⟩
theorem len_flat {α : Type} {f : α → Str} {l : List α} {x : α} (h : x ∈ l) : (f x).length ≤ (l.flatMap f).length := by
  induction l with
  | nil => simp at h
  | cons a l ih =>
    rw [List.flatMap_cons, List.length_append]
    rcases List.mem_cons.1 h with rfl | h
    · omega
    · have := ih h; omega
theorem len_flat1 {α : Type} {f : α → Str} {l : List α} (h : ∀ x, 1 ≤ (f x).length) : l.length ≤ (l.flatMap f).length := by
  induction l with
  | nil => simp
  | cons a l ih => rw [List.flatMap_cons, List.length_append, List.length_cons]; have := h a; omega
theorem segT_len (s : Seg) : (segT s).length = s.tag.length + (s.elems.flatMap fun e => 43 :: elemT e).length + 1 := by unfold segT; rw [List.length_append, List.length_append]; rfl
theorem elemT_le {e : List Str} {p : Str} (h : p ∈ e) : p.length ≤ (elemT e).length := by
  have hp := compT_len p
  cases e with
  | nil => simp at h
  | cons a l =>
    rw [elemT_cons, List.length_append]
    rcases List.mem_cons.1 h with rfl | h
    · omega
    · have := len_flat (f := fun p => 58 :: compT p) h
      simp only [List.length_cons] at this
      unfold restT; omega
theorem elemT_cnt (e : List Str) : e.length ≤ (elemT e).length + 1 := by
  cases e with
  | nil => simp
  | cons a l =>
    rw [elemT_cons, List.length_append]
    have := len_flat1 (f := fun p => 58 :: compT p) (l := l) (fun x => by simp)
    unfold restT; rw [List.length_cons]; omega
theorem cat_size (J : Str) : ((⟨J.toArray⟩ : ByteArray) ++ ⟨#[39]⟩).size = J.length + 1 := by simp [ByteArray.size_append]; rfl
theorem cat_list (J : Str) : ((⟨J.toArray⟩ : ByteArray) ++ ⟨#[39]⟩).data.toList = J ++ [39] := by simp [ByteArray.data_append]
structure Bds (N : Nat) (l : List Seg) : Prop where
  n : l.length ≤ N
  seg : ∀ s ∈ l, s.tag.length ≤ N ∧ s.elems.length + 1 ≤ N ∧ (segT s).length ≤ N
  el : ∀ s ∈ l, ∀ e ∈ s.elems, e.length ≤ N ∧ (elemT e).length ≤ N
  co : ∀ s ∈ l, ∀ e ∈ s.elems, ∀ p ∈ e, p.length ≤ N
theorem bds_of {N : Nat} {l : List Seg} (h : (printT l).length ≤ N) : Bds N l := by
  have hs : ∀ s ∈ l, (segT s).length ≤ N := fun s hs => Nat.le_trans (len_flat hs) h
  have he : ∀ s ∈ l, ∀ e ∈ s.elems, (elemT e).length + 2 ≤ N := fun s hs' e he => by
    have h1 := hs s hs'
    have h2 := len_flat (f := fun e => 43 :: elemT e) he
    rw [segT_len] at h1
    simp only [List.length_cons] at h2; omega
  refine ⟨Nat.le_trans (len_flat1 (fun s => by rw [segT_len]; omega)) h, fun s hs' => ?_, fun s hs' e he' => ?_, fun s hs' e he' p hp => ?_⟩
  · have h1 := hs s hs'
    have h2 := len_flat1 (f := fun e => 43 :: elemT e) (l := s.elems) (fun x => by simp)
    rw [segT_len] at h1
    exact ⟨by omega, by omega, by rw [segT_len]; omega⟩
  · have := he s hs' e he'
    have := elemT_cnt e
    omega
  · have := he s hs' e he'
    have := elemT_le hp
    omega
set_option maxRecDepth 100000 in
set_option maxHeartbeats 8000000 in
theorem print_any (w : World) (v : Value) (l : List Seg) (h : SegsAt (fun k => k < w.heap.size) w v l) (hP : (printT l).length ≤ 1048576) :
    Calls Tryz.prog 97 #[v] w fun e w' => e = .returned (.tuple #[sv (printE l).1, .int .i64 (printE l).2]) ∧ Below w.heap.size w w' := by
  have hb := bds_of hP
  have HPL := Lib.hid hP
  have HSG := Lib.hid h
  obtain ⟨ao, cap, xs, rfl, h1, h2, h3, h4, h5, h6⟩ := h
  have HXL := Lib.hid h4
  have HEL := Lib.hid h5
  have HCE := Lib.hid h6
  have hn := hb.n
  have HBD := Lib.hid hb
  obtain ⟨R, hR⟩ : ∃ R, printE l = R := ⟨_, rfl⟩
  have HR := Lib.hid hR
  rw [hR]
  obtain ⟨n, hln⟩ : ∃ n, l.length = n := ⟨_, rfl⟩
  have HLN := Lib.hid hln
  rw [hln] at h1 hn ⊢
  clear h4 h5 h6 hb hR hP h3 hln
  unfold maxLen at h2
  go_enter Tryz.func97, Tryz.ntmps97
  go_wp2_with fail
  obtain ⟨B, hB⟩ : ∃ B, w.heap.size = B := ⟨_, rfl⟩
  obtain ⟨w1, hw1⟩ : ∃ w1, w.alloc (.cells #[.pointer none, .slice none 0 0] 203) = w1 := ⟨_, rfl⟩
  have HBL := Lib.hid (show BldAt w1 B B [] by rw [← hw1, ← hB]; exact Lib.fresh_isBuilder 203 5 w)
  have HBE := Lib.hid (show Below B w w1 by rw [← hw1, ← hB]; exact (Below.refl _ w).alloc (Nat.le_refl _) _)
  have HBQ := Lib.hid hB
  obtain ⟨LG, hLG⟩ : ∃ b, decide ((64 : Int) < (n : Int)) = b := ⟨_, rfl⟩
  have HLG := Lib.hid (show decide (64 < n) = LG by rw [← hLG]; simp only [decide_eq_decide]; omega)
  rw [hB, hw1, hLG]
  clear hB hw1 hLG
  go_loopw [4, 5, 6, 21] (fun a sg lo i wr => ∃ (k : Nat) (A G L : Bool), k ≤ n ∧ i = .int .i64 (k : Int) ∧ a = .bool A ∧ sg = .bool G ∧ lo = .bool L ∧ Hid (A = (l.take k).any argS) ∧ Hid (G = (l.take k).any fun s => signE s.elems) ∧ Hid (L = (LG || (l.take k).any longS)) ∧ Hid (BldAt wr B B (printT (l.take k))) ∧ Hid (Below B w wr)) (fun _ _ _ i _ => n - (intOf i).toNat)
  case atStart => exact ⟨0, false, false, LG, by omega, rfl, rfl, rfl, rfl, Lib.hid rfl, Lib.hid rfl, Lib.hid (by simp), HBL, HBE⟩
  case round =>
    obtain ⟨k, A, G, L, hk, rfl, rfl, rfl, rfl, HA, HG, HL, HBL', HBE'⟩ := hrel
    clear HBL HBE
    by_cases hlt : k < n
    · obtain ⟨s, hs⟩ : ∃ s, l[k]? = some s := ⟨_, List.getElem?_eq_getElem (by rw [HLN.out]; exact hlt)⟩
      obtain ⟨x, hx⟩ : ∃ x, xs[k]? = some x := ⟨_, List.getElem?_eq_getElem (by rw [HXL.out, HLN.out]; exact hlt)⟩
      obtain ⟨sb, off, rfl, _, hc⟩ := HCE.out (by rintro rfl; simp at hs)
      obtain ⟨c0, c1⟩ := hc k s x hs hx
      have hel := HEL.out k s x hs hx
      obtain ⟨t, es⟩ := s
      obtain ⟨ys, ⟨eo, ecap, rfl, he1, he2, he3, he4⟩, hyl, hye⟩ := hel
      have hsb : sb < B := by rw [← HBQ.out]; exact cell_lt' c0
      have d0 := (HBE'.out.cell (p := ⟨sb, off + k * 2, none⟩) hsb).trans c0
      have d1 := (HBE'.out.cell (p := ⟨sb, off + k * 2 + 1, none⟩) hsb).trans c1
      have HS := Lib.hid hs
      have HHE := Lib.hid he4
      have HYL := Lib.hid hyl
      have HYE := Lib.hid hye
      have hbs := HBD.out.seg ⟨t, es⟩ (List.mem_of_getElem? hs)
      have HBE1 := Lib.hid (HBD.out.el ⟨t, es⟩ (List.mem_of_getElem? hs))
      have HBE2 := Lib.hid (HBD.out.co ⟨t, es⟩ (List.mem_of_getElem? hs))
      have hws := HBE'.out.size
      rw [HBQ.out] at hws
      simp only at hbs
      rw [hyl] at he1 d1
      obtain ⟨hbt, hbe, hbg⟩ := hbs
      obtain ⟨st, hst⟩ : ∃ st : ByteArray, (⟨t.toArray⟩ : ByteArray) = st := ⟨_, rfl⟩
      have hss : st.size = t.length := by rw [← hst]; rfl
      have HST := Lib.hid hst
      obtain ⟨m0, hm0⟩ : ∃ m0, es.length = m0 := ⟨_, rfl⟩
      have HM0 := Lib.hid hm0
      unfold sv at d0
      rw [hst] at d0
      simp only at d1 he1 hm0 hbe
      rw [hm0] at d1 he1 hbe
      clear hs hx hc c0 c1 he3 he4 hyl hye hst hm0
      unfold maxLen at he2
      have b1 : (0 : Int) ≤ k := by omega
      have b2 : (k : Int) < n := by omega
      go_upto_region 6 with fail
      obtain ⟨w2, hw2⟩ : ∃ w2, wr.alloc (.cells #[.string st, .slice eo m0 ecap] 94) = w2 := ⟨_, rfl⟩
      have s0 : w2.cell? ⟨wr.heap.size, 0, none⟩ = some (.string st) := by rw [← hw2]; exact World.cell?_alloc_mark _ _ _ _ 0
      have s1 : w2.cell? ⟨wr.heap.size, 1, none⟩ = some (.slice eo m0 ecap) := by rw [← hw2]; exact World.cell?_alloc_mark _ _ _ _ 1
      have HBE2' := Lib.hid (show Below B w w2 by rw [← hw2]; exact HBE'.out.alloc hws _)
      have HBL2 := Lib.hid (show BldAt w2 B B (printT (l.take k)) by rw [← hw2]; exact BldAt.cong' HBL'.out (fun k hk => Below.heap_alloc _ _ _ hk))
      have hw2s : wr.heap.size < w2.heap.size := by rw [← hw2]; simp
      rw [hw2]
      clear hw2 d0 d1 HBL' HBE'
      obtain ⟨sp, hsp⟩ : ∃ sp, wr.heap.size = sp := ⟨_, rfl⟩
      rw [hsp] at s0 s1 hws hw2s
      rw [hsp]
      clear hsp
      obtain ⟨TG, hTG⟩ : ∃ b, tagBad t = b := ⟨_, rfl⟩
      have HTG := Lib.hid hTG
      clear hTG
      go_cut [4] (fun a wx => a = .bool (A || TG) ∧ w2 = wx)
      case first =>
        cases A with
        | true => go_wp2_with fail; go_meet; case rel => exact ⟨rfl, rfl⟩
        | false =>
          by_cases h3 : t.length = 3
          · obtain ⟨a, b, c, rfl⟩ : ∃ a b c, t = [a, b, c] := by
              match t, h3 with
              | [a, b, c], _ => exact ⟨a, b, c, rfl⟩
            have z3 : st.size = 3 := by rw [hss]; rfl
            have d3 : ((st.size : Int) != 3) = false := by rw [z3]; rfl
            have i0 : 0 < st.size := by omega
            have i1 : 1 < st.size := by omega
            have i2 : 2 < st.size := by omega
            have q0 : (st[0]'i0).toNat = a.toNat := by have := HST.out; subst this; rfl
            have q1 : (st[1]'i1).toNat = b.toNat := by have := HST.out; subst this; rfl
            have q2 : (st[2]'i2).toNat = c.toNat := by have := HST.out; subst this; rfl
            have hta := fun w => tagged_any a w
            have htb := fun w => tagged_any b w
            have htc := fun w => tagged_any c w
            have hbad : tagBad [a, b, c] = (!tagB a || (!tagB b || !tagB c)) := by unfold tagBad; simp
            obtain ⟨TA, hTA⟩ : ∃ x, tagB a = x := ⟨_, rfl⟩
            obtain ⟨TB, hTB⟩ : ∃ x, tagB b = x := ⟨_, rfl⟩
            obtain ⟨TC, hTC⟩ : ∃ x, tagB c = x := ⟨_, rfl⟩
            rw [HTG.out, hTA, hTB, hTC] at hbad
            rw [hTA] at hta
            rw [hTB] at htb
            rw [hTC] at htc
            obtain ⟨an, han⟩ : ∃ x, a.toNat = x := ⟨_, rfl⟩
            obtain ⟨bn, hbn⟩ : ∃ x, b.toNat = x := ⟨_, rfl⟩
            obtain ⟨cn, hcn⟩ : ∃ x, c.toNat = x := ⟨_, rfl⟩
            rw [han] at q0 hta
            rw [hbn] at q1 htb
            rw [hcn] at q2 htc
            have HTA := Lib.hid hta
            have HTB := Lib.hid htb
            have HTC := Lib.hid htc
            have HBAD := Lib.hid hbad
            clear han hbn hcn hbad hTA hTB hTC hta htb htc h3 hss z3 hbt hbg
            cases TA <;> cases TB <;> cases TC
            all_goals
              go_wp2_with first
                | (go_at_call 134; (with_reducible refine (HTA.out _).mono ?_); rintro e w' ⟨rfl, rfl⟩)
                | (go_at_call 134; (with_reducible refine (HTB.out _).mono ?_); rintro e w' ⟨rfl, rfl⟩)
                | (go_at_call 134; (with_reducible refine (HTC.out _).mono ?_); rintro e w' ⟨rfl, rfl⟩)
              go_meet
              case rel => exact ⟨by rw [HBAD.out]; rfl, rfl⟩
          · have d3 : ((st.size : Int) != 3) = true := by rw [hss]; simp; omega
            have hbad : TG = true := by rw [← HTG.out]; unfold tagBad; simp [h3]
            have HBAD := Lib.hid hbad
            clear hbad hss h3 hbt hbg
            go_wp2_with fail
            go_meet
            case rel => exact ⟨by rw [HBAD.out]; rfl, rfl⟩
      case rest =>
        obtain ⟨rfl, rfl⟩ := hcut
        go_upto_region 7 with fail
        obtain ⟨LE, hLE⟩ : ∃ b, decide (16 < m0) = b := ⟨_, rfl⟩
        have HLE := Lib.hid hLE
        obtain ⟨A1, hA1⟩ : ∃ b, (A || TG) = b := ⟨_, rfl⟩
        have HA1 := Lib.hid hA1
        rw [hA1]
        clear hA1
        go_cut [6] (fun lo wx => lo = .bool (L || LE) ∧ w2 = wx)
        case first =>
          cases L with
          | true => clear hLE; go_wp2_with fail; go_meet; case rel => exact ⟨rfl, rfl⟩
          | false =>
            have d16 : decide ((16 : Int) < (m0 : Int)) = LE := by rw [← hLE]; simp only [decide_eq_decide]; omega
            clear hLE
            cases LE
            all_goals
              go_wp2_with fail
              go_meet
              case rel => exact ⟨rfl, rfl⟩
        case rest =>
          obtain ⟨rfl, rfl⟩ := hcut
          clear hLE
          obtain ⟨L1, hL1⟩ : ∃ b, (L || LE) = b := ⟨_, rfl⟩
          have HL1 := Lib.hid hL1
          rw [hL1]
          clear hL1
          go_wp2_with fail
          obtain ⟨ws, hws2⟩ : ∃ ws, w2.heap.size = ws := ⟨_, rfl⟩
          have hwsB : B ≤ ws := by omega
          obtain ⟨w3, hw3⟩ : ∃ w3, w2.alloc (.cells #[.string st] 9) = w3 := ⟨_, rfl⟩
          have HW3 := Lib.hid (show w3.ownsRow B 9 1 (.slice (some ⟨ws, 0, none⟩) 1 1) (0 + 1) ((t :: (es.take 0).map elemT).map sv) by
            have hst := HST.out
            rw [← hw3, ← hws2]
            exact ⟨rfl, .inr ⟨w2.heap.size, 1, _, rfl, by omega, heap_alloc_new _ _, Nat.le_refl _, by decide, rfl, by rw [← hst]; rfl⟩⟩)
          have HBL3 := Lib.hid (show BldAt w3 B B (printT (l.take k)) by rw [← hw3]; exact BldAt.cong' HBL2.out (fun k hk => Below.heap_alloc _ _ _ hk))
          have HBE3 := Lib.hid (show Below B w w3 by rw [← hw3]; exact HBE2'.out.alloc (by omega) _)
          rw [hws2, hw3]
          clear hws2 hw3 hw2s hws HBL2 HBE2' s0 s1
          go_loopw [4, 5, 6, 10, 66] (fun a sg lo wv i wr => ∃ (m : Nat) (A2 G2 L2 : Bool), m ≤ m0 ∧ i = .int .i64 (m : Int) ∧ a = .bool A2 ∧ sg = .bool G2 ∧ lo = .bool L2 ∧ Hid (A2 = (A1 || argE (es.take m))) ∧ Hid (G2 = (G || signE (es.take m))) ∧ Hid (L2 = (L1 || longE (es.take m))) ∧ Hid (wr.ownsRow B 9 1 wv (m + 1) ((t :: (es.take m).map elemT).map sv)) ∧ Hid (BldAt wr B B (printT (l.take k))) ∧ Hid (Below B w wr)) (fun _ _ _ _ i _ => m0 - (intOf i).toNat)
          case atStart => exact ⟨0, A1, G, L1, by omega, rfl, rfl, rfl, rfl, Lib.hid (by simp [argE]), Lib.hid (by simp [signE]), Lib.hid (by simp [longE]), HW3, HBL3, HBE3⟩
          case round =>
            obtain ⟨m, A2, G2, L2, hm, rfl, rfl, rfl, rfl, HA2, HG2, HL2, HWO, HBL4, HBE4⟩ := hrel
            clear HW3 HBL3 HBE3
            by_cases hml : m < m0
            · obtain ⟨e, he⟩ : ∃ e, es[m]? = some e := ⟨_, List.getElem?_eq_getElem (by rw [HM0.out]; exact hml)⟩
              obtain ⟨y, hy⟩ : ∃ y, ys[m]? = some y := ⟨_, List.getElem?_eq_getElem (by rw [HYL.out, HM0.out]; exact hml)⟩
              obtain ⟨eb, eoff, rfl, _, hec⟩ := HHE.out (by rintro rfl; simp at hy)
              have e0 := hec m y hy
              have hco := HYE.out m e y he hy
              have heb : eb < B := by rw [← HBQ.out]; exact cell_lt' e0
              have e1 := (HBE4.out.cell (p := ⟨eb, eoff + m, none⟩) heb).trans e0
              have HCO := Lib.hid (hco.cong (w' := wr) (T := fun _ => True) (fun _ _ => trivial) (fun k hk => HBE4.out.block k (by rw [HBQ.out] at hk; exact hk)))
              have hmem := List.mem_of_getElem? he
              obtain ⟨hne1, hne2⟩ := HBE1.out e hmem
              have HPE := Lib.hid (HBE2.out e hmem)
              obtain ⟨ea, ecap2, rfl, _⟩ := hco
              have HE := Lib.hid he
              obtain ⟨ne, hne⟩ : ∃ ne, e.length = ne := ⟨_, rfl⟩
              have HNE := Lib.hid hne
              rw [List.length_map, hne] at e1
              rw [List.length_map, hne] at HCO
              rw [hne] at hne1
              have b3 : (0 : Int) ≤ m := by omega
              have b4 : (m : Int) < m0 := by omega
              obtain ⟨EE, hEE⟩ : ∃ b, decide (ne = 0) = b := ⟨_, rfl⟩
              have HEE := Lib.hid hEE
              obtain ⟨LC, hLC⟩ : ∃ b, decide (8 < ne) = b := ⟨_, rfl⟩
              have HLC := Lib.hid hLC
              have d0 : ((ne : Int) == 0) = EE := by rw [← hEE]; rw [Bool.eq_iff_iff]; simp
              have d8 : decide ((8 : Int) < (ne : Int)) = LC := by rw [← hLC]; simp only [decide_eq_decide]; omega
              clear he hy hec e0 heb hmem hne hEE hLC
              go_upto_region 12 with fail
              obtain ⟨wa, hwa⟩ : ∃ wa : World, wa = wr := ⟨_, rfl⟩
              go_cut [4] (fun a wx => a = .bool (A2 || EE) ∧ wr = wx)
              case first =>
                clear d8
                cases A2 with
                | true => clear d0; go_wp2_with fail; go_meet; case rel => exact ⟨rfl, rfl⟩
                | false =>
                  cases EE
                  all_goals
                    go_wp2_with fail
                    go_meet
                    case rel => exact ⟨rfl, rfl⟩
              case rest =>
                obtain ⟨rfl, rfl⟩ := hcut
                clear d0
                go_upto_region 13 with fail
                go_cut [6] (fun lo wx => lo = .bool (L2 || LC) ∧ wr = wx)
                case first =>
                  cases L2 with
                  | true => clear d8; go_wp2_with fail; go_meet; case rel => exact ⟨rfl, rfl⟩
                  | false =>
                    cases LC
                    all_goals
                      go_wp2_with fail
                      go_meet
                      case rel => exact ⟨rfl, rfl⟩
                case rest =>
                  obtain ⟨rfl, rfl⟩ := hcut
                  clear d8
                  obtain ⟨A3, hA3⟩ : ∃ b, (A2 || EE) = b := ⟨_, rfl⟩
                  have HA3 := Lib.hid hA3
                  obtain ⟨L3, hL3⟩ : ∃ b, (L2 || LC) = b := ⟨_, rfl⟩
                  have HL3 := Lib.hid hL3
                  rw [hA3, hL3]
                  clear hA3 hL3
                  obtain ⟨wb, rfl⟩ : ∃ wb : World, wb = wr := ⟨_, rfl⟩
                  have HCL := Lib.hid (clone_any wb (.slice ea ne ecap2) e HCO.out (by rw [HNE.out]; omega))
                  rw [HNE.out] at HCL
                  go_wp2_with (go_at_call 135; refine HCL.out.mono ?_; rintro r wm ⟨pv, rfl, hpo, hbm⟩; have HPO := Lib.hid hpo; have HBM := Lib.hid hbm; obtain ⟨pa, pc, rfl⟩ := own_slice hpo; clear hpo hbm)
                  obtain ⟨P0, hP0⟩ : ∃ P0, wb.heap.size = P0 := ⟨_, rfl⟩
                  rw [hP0] at HPO HBM
                  have HPZ := Lib.hid hP0
                  have hBP : B ≤ P0 := by have h1 := HBE4.out.size; rw [HBQ.out] at h1; omega
                  clear hP0 HCL HCO e1
                  go_loopw [5, 6, 86] (fun sg lo i wr => ∃ (q : Nat) (G3 L4 : Bool), q ≤ ne ∧ i = .int .i64 (q : Int) ∧ sg = .bool G3 ∧ lo = .bool L4 ∧ Hid (G3 = (G2 || signC (e.take q))) ∧ Hid (L4 = (L3 || longC (e.take q))) ∧ Hid (wr.ownsRow P0 9 1 (.slice pa ne pc) ne ((partsL e q).map sv)) ∧ Hid (Below P0 wb wr)) (fun _ _ i _ => ne - (intOf i).toNat)
                  case atStart => exact ⟨0, G2, L3, by omega, rfl, rfl, rfl, Lib.hid (by simp [signC]), Lib.hid (by simp [longC]), HPO, HBM⟩
                  case round =>
                    obtain ⟨q, G3, L4, hq, rfl, rfl, rfl, HG3, HL4, HPA, HBP⟩ := hrel
                    clear HPO HBM
                    by_cases hqn : q < ne
                    · skip
                      obtain ⟨p, hp⟩ : ∃ p, e[q]? = some p := ⟨_, List.getElem?_eq_getElem (by rw [HNE.out]; exact hqn)⟩
                      obtain ⟨pb, pcap, cur, hpv, hpb, hpcells, hpc1, hpc2, _⟩ := own_form HPA.out (by omega) (by omega)
                      injection hpv with hpv1 hpv2 hpv3
                      subst hpv1
                      subst hpv3
                      have hplt : pb < wr.heap.size := (Array.getElem?_eq_some_iff.1 hpcells).1
                      have pc0 := own_cell HPA.out (j := q) (x := sv p) (by rw [List.getElem?_map, partsL_get hp]; rfl)
                      have pz0 := own_frozen HPA.out q
                      have hps := HPE.out p (List.mem_of_getElem? hp)
                      have hs1 := any_take (fun p => p.any badB) hp
                      have hl1 := any_take (fun p => decide (256 < p.length)) hp
                      obtain ⟨ps, hpse⟩ : ∃ ps : ByteArray, (⟨p.toArray⟩ : ByteArray) = ps := ⟨_, rfl⟩
                      have hpsz : ps.size = p.length := by rw [← hpse]; rfl
                      have hpsd : ps.data.toList = p := by rw [← hpse]
                      obtain ⟨GP, hGP⟩ : ∃ b, p.any badB = b := ⟨_, rfl⟩
                      obtain ⟨LP, hLP⟩ : ∃ b, decide (256 < p.length) = b := ⟨_, rfl⟩
                      have d256 : decide ((256 : Int) < (ps.size : Int)) = LP := by rw [← hLP, hpsz]; simp only [decide_eq_decide]; omega
                      simp only [hGP] at hs1
                      simp only [hLP] at hl1
                      unfold sv at pc0
                      rw [hpse] at pc0
                      have HP := Lib.hid hp
                      have HS1 := Lib.hid hs1
                      have HL1' := Lib.hid hl1
                      have HPSZ := Lib.hid hpsz
                      have HPSD := Lib.hid hpsd
                      have HGP := Lib.hid hGP
                      have HPC := Lib.hid hpcells
                      rw [← hpsz] at hps
                      clear hp hpv2 hs1 hl1 hpse hpsz hpsd hGP hLP hpcells
                      unfold maxLen at hpc2
                      have b5 : (0 : Int) ≤ q := by omega
                      have b6 : (q : Int) < ne := by omega
                      go_upto_region 18 with fail
                      go_cut [6] (fun lo wx => lo = .bool (L4 || LP) ∧ wr = wx)
                      case first =>
                        cases L4 with
                        | true => clear d256; go_wp2_with fail; go_meet; case rel => exact ⟨rfl, rfl⟩
                        | false =>
                          cases LP
                          all_goals
                            go_wp2_with fail
                            go_meet
                            case rel => exact ⟨rfl, rfl⟩
                      case rest =>
                        obtain ⟨rfl, rfl⟩ := hcut
                        clear d256
                        go_upto_region 19 with fail
                        go_cut [5] (fun sg wx => sg = .bool (G3 || GP) ∧ Hid (Below wr.heap.size wr wx))
                        case first =>
                          cases G3 with
                          | true => go_wp2_with fail; go_meet; case rel => exact ⟨rfl, Lib.hid (Below.refl _ _)⟩
                          | false =>
                            have hcb := Lib.run_convert_string_bytes (P := Tryz.prog) wr 9 72 5 ps Tryz.underlying9 Tryz.underlying72 Tryz.underlying5
                            obtain ⟨wy, hwy⟩ : ∃ wy, Lib.bytesWorld wr 5 ps = wy := ⟨_, rfl⟩
                            obtain ⟨cp, hcp⟩ : ∃ cp, grownCap wr ps.size 0 5 = cp := ⟨_, rfl⟩
                            rw [hwy, hcp] at hcb
                            have HBY := Lib.hid (show Below wr.heap.size wr wy by rw [← hwy]; exact ⟨rfl, rfl, rfl, by rw [Lib.bytesWorld_size]; omega, fun k hk => Lib.bytesWorld_at_old _ _ _ _ hk⟩)
                            have HCN := Lib.hid (contains_any wy wr.heap.size cp p (by rw [← HPSZ.out]; omega) (fun j c hj => by
                              have hj' : j < ps.size := by rw [HPSZ.out]; exact (List.getElem?_eq_some_iff.1 hj).1
                              rw [← hwy, Lib.bytesWorld_cell wr 5 ps j hj', HPSD.out, List.getD_eq_getElem?_getD, hj]; rfl))
                            rw [← HPSZ.out, HGP.out] at HCN
                            unfold badV at HCN
                            clear hwy hcp
                            go_wp2_with (go_at_call 136; refine HCN.out.mono ?_; rintro e w' ⟨rfl, rfl⟩)
                            go_meet
                            case rel => exact ⟨rfl, HBY⟩
                        case rest =>
                          obtain ⟨rfl, HBC⟩ := hcut
                          have hwc := HBC.out.size
                          go_wp2_with first
                            | (go_at_call 138; refine (newRepl_any _ _ (heap_alloc_new wc (.cells oldL.toArray 9))).mono ?_; rintro r w6 ⟨rb, ob, rcap, rfl, hr1, hr2, hr3, hr4, hr5, hr6, hr7⟩; rw [World.size_alloc] at hr6; have HR1 := Lib.hid hr1; have HR2 := Lib.hid hr2; have HR5 := Lib.hid hr5; have HR7 := Lib.hid hr7; clear hr1 hr2 hr5 hr7)
                            | (go_at_call 139; refine (replace_any _ rb ob rcap _ ps (by omega) HR1.out HR2.out hr3 hr4 HR5.out).mono ?_; rintro r w7 ⟨rfl, hf7⟩; have hag : w7.heap[pb]? = wr.heap[pb]? := (hf7.block pb (by have := HR7.out.size; rw [World.size_alloc] at this; omega) (by simp; omega)).trans ((HR7.out.block pb (by rw [World.size_alloc]; omega)).trans ((Below.heap_alloc _ _ _ (by omega)).trans (HBC.out.block pb hplt))); have pc7 := (cell_ag (j := q) hag).trans pc0; have pz7 := (fz_ag (j := q) hag).trans pz0; have HAG := Lib.hid hag; have HF7 := Lib.hid hf7; clear hf7 hag; unfold sv)
                          go_roundw
                          case rel =>
                            refine ⟨q + 1, G3 || GP, L4 || LP, by omega, by go_num, rfl, rfl, Lib.hid ?_, Lib.hid ?_, Lib.hid ?_, Lib.hid ?_⟩
                            · rw [HG3.out]; unfold signC; rw [HS1.out, Bool.or_assoc]
                            · rw [HL4.out]; unfold longC; rw [HL1'.out, Bool.or_assoc]
                            · have h1 := own_set (own_cong (w' := w7) HPA.out (fun k hk => by cases hk; exact HAG.out)) (j := q) (by rw [List.length_map, partsL_len, HNE.out]; exact hqn) (sv (compT p))
                              rw [← List.map_set, partsL_set HP.out] at h1
                              rw [HPSD.out]
                              exact h1
                            · have hz1 := HBP.out.size
                              rw [HPZ.out] at hz1
                              have hz2 := HR7.out.size
                              rw [World.size_alloc] at hz2
                              exact HBP.out.trans (((((HBC.out.mono hz1).alloc (by omega) _).trans (HR7.out.mono (by rw [World.size_alloc]; omega))).trans (HF7.out.belowB (by omega) (by simp; omega))).setCell hpb _)
                          case measure => simp [intOf]; omega
                    · skip
                      obtain rfl : q = ne := by omega
                      have hpa : partsL e q = e.map compT := by rw [← HNE.out]; exact partsL_all e
                      have hte : e.take q = e := List.take_of_length_le (by rw [HNE.out]; exact Nat.le_refl _)
                      have hPA := HPA.out
                      rw [hpa] at hPA
                      have hG3 := HG3.out
                      have hL4 := HL4.out
                      rw [hte] at hG3 hL4
                      have HG3' := Lib.hid hG3
                      have HL4' := Lib.hid hL4
                      have hln : ((e.map compT).map sv).length = q := by simp [HNE.out]
                      have HRP := Lib.hid (show CompsAt (fun _ => True) wr (.slice pa q pc) (e.map compT) by
                        have hPA' : wr.ownsRow P0 9 1 (.slice pa q pc) ((e.map compT).map sv).length ((e.map compT).map sv) := by rw [hln]; exact hPA
                        exact own_rest hPA' (fun _ _ => trivial))
                      have HJO := Lib.hid (join_any wr 58 (.slice pa q pc) (e.map compT) HRP.out (by rw [List.length_map, HNE.out]; omega) (by show (elemT e).length ≤ _; omega))
                      have hse := any_take signC HE.out
                      have hle2 := any_take (fun e => decide (8 < e.length) || longC e) HE.out
                      have hae := any_take (fun e : List Str => e.isEmpty) HE.out
                      have hme := map_take_succ elemT HE.out
                      have HSE := Lib.hid hse
                      have HLE2 := Lib.hid hle2
                      have HAE := Lib.hid hae
                      have HME := Lib.hid hme
                      have hwoz : ∀ k, u10.ownBlock = some k → k < P0 := fun k hk => by rw [← HPZ.out]; exact (own_lt HWO.out hk).2
                      have HWO2 := Lib.hid (own_cong (w' := wr) HWO.out (fun k hk => HBP.out.block k (hwoz k hk)))
                      have HBL5 := Lib.hid (BldAt.cong' (w' := wr) HBL4.out (fun k hk => HBP.out.block k (by rw [HPZ.out] at hk; exact hk)))
                      have HBE5 := Lib.hid (HBE4.out.trans (HBP.out.mono hBP))
                      clear hpa hte hPA hG3 hL4 hln hse hle2 hae hme hwoz
                      obtain ⟨i0, hi, hz0, hz1, hz2⟩ := info_parts einfo_str
                      have HI := Lib.hid hi
                      have HZ0 := Lib.hid hz0
                      have HZ1 := Lib.hid hz1
                      have HZ2 := Lib.hid hz2
                      clear hi hz0 hz1 hz2
                      have hBw := HBE5.out.size
                      rw [HBQ.out] at hBw
                      go_wp2_with first
                        | (go_at_call 140; refine HJO.out.mono ?_; rintro r w8 ⟨rfl, hb8⟩; have HB8 := Lib.hid hb8; have hs8 := hb8.size; have HWO3 := Lib.hid (own_cong (w' := w8) HWO2.out (fun k hk => hb8.block k (own_lt HWO2.out hk).2)); clear hb8; unfold sv)
                        | ((with_reducible refine wpList_at (.call { callee := .builtin .append, args := #[.tmp 111, .tmp 114], argTypes := #[58, 58] }) rfl ?_); go_loud (refine wpList_append_own_at _ rfl _ _ 58 rfl B 9 i0 (.string ⟨#[]⟩) 1 16 Tryz.underlying58 HI.out HZ0.out HZ1.out HZ2.out rfl (by decide) _ _ _ rfl (HWO3.out.alloc _) ⟨w8.heap.size, 0, none⟩ 1 1 [sv (joinB 58 (e.map compT))] rfl rfl (cell_one_new _ _ _) (by simp [Value.oneCell', sv]) (by unfold maxLen; omega) (by omega) (by simp; omega) ?_); intro v9 w9 ho9 hg9 hq1 hq2; clear hq1 hq2; have HO9 := Lib.hid ho9; have HG9 : Hid (World.grownBy _ w9 u10.ownBlock) := Lib.hid hg9; clear ho9 hg9)
                      go_roundw
                      case rel =>
                        refine ⟨m + 1, A3, G3, L4, by omega, by go_num, rfl, rfl, rfl, Lib.hid ?_, Lib.hid ?_, Lib.hid ?_, Lib.hid ?_, Lib.hid ?_, Lib.hid ?_⟩
                        · rw [← HA3.out, HA2.out, ← HEE.out]; unfold argE; rw [HAE.out, ← HNE.out]; cases e <;> simp
                        · rw [HG3'.out, HG2.out]; unfold signE; rw [HSE.out, Bool.or_assoc]
                        · rw [HL4'.out, ← HL3.out, HL2.out, ← HLC.out]; unfold longE; rw [HLE2.out, HNE.out]; simp only [Bool.or_assoc]
                        · have h9 := HO9.out
                          rw [HME.out]
                          simpa [elemT] using h9
                        · have h1 := BldAt.cong' (w' := w8) HBL5.out (fun k hk => HB8.out.block k hk)
                          have h2 := BldAt.cong' h1 (fun k hk => Below.heap_alloc w8 (.cells #[sv (joinB 58 (e.map compT))] 9) _ hk)
                          refine BldAt.cong h2 (fun k C f t' hk ht => HG9.out.block k (Array.getElem?_eq_some_iff.1 hk).1 (fun hc => ?_))
                          obtain ⟨C', hC', _⟩ := own_ty (HWO3.out.alloc _) hc.symm
                          rw [hC'] at hk
                          cases hk
                          exact ht rfl
                        · have h1 := HBE5.out.trans (HB8.out.mono hBw)
                          have hs9 := HB8.out.size
                          exact (h1.alloc (by omega) _).grown HG9.out (by simp; omega) (fun k hk => (own_lt HWO3.out hk).1)
                      case measure => simp [intOf]; omega
            · skip
              obtain rfl : m = m0 := by omega
              have hte : es.take m = es := List.take_of_length_le (by rw [HM0.out]; exact Nat.le_refl _)
              have hW0 := HWO.out
              have hA2 := HA2.out
              have hG2 := HG2.out
              have hL2 := HL2.out
              rw [hte] at hW0 hA2 hG2 hL2
              obtain ⟨wa, wc, rfl⟩ := own_slice hW0
              have HA2' := Lib.hid hA2
              have HG2' := Lib.hid hG2
              have HL2' := Lib.hid hL2
              have hln : ((t :: es.map elemT).map sv).length = m + 1 := by simp [HM0.out]
              have hle : (joinB 43 (t :: es.map elemT)).length + 1 = (segT ⟨t, es⟩).length := by rw [← joinB_words, List.length_append]; rfl
              have HRP := Lib.hid (show CompsAt (fun _ => True) wr (.slice wa (m + 1) wc) (t :: es.map elemT) by
                have hPA' : wr.ownsRow B 9 1 (.slice wa (m + 1) wc) ((t :: es.map elemT).map sv).length ((t :: es.map elemT).map sv) := by rw [hln]; exact hW0
                exact own_rest hPA' (fun _ _ => trivial))
              have HJO := Lib.hid (join_any wr 43 (.slice wa (m + 1) wc) (t :: es.map elemT) HRP.out (by rw [List.length_cons, List.length_map, HM0.out]; omega) (by omega))
              have hpl : (printT (l.take k)).length ≤ 1048576 := Nat.le_trans (by
                have h1 := congrArg printT (List.take_append_drop k l)
                unfold printT at h1 ⊢
                rw [List.flatMap_append] at h1
                have h2 := congrArg List.length h1
                rw [List.length_append] at h2
                omega) HPL.out
              have hBw := HBE4.out.size
              rw [HBQ.out] at hBw
              obtain ⟨J, hJ⟩ : ∃ J, joinB 43 (t :: es.map elemT) = J := ⟨_, rfl⟩
              rw [hJ] at HJO hle
              have HJJ := Lib.hid hJ
              clear hte hW0 hA2 hG2 hL2 hln hJ
              go_wp2_with first
                | (go_at_call 140; refine HJO.out.mono ?_; rintro r w8 ⟨rfl, hb8⟩; have HB8 := Lib.hid hb8; have hs8 := hb8.size; have HBL5 := Lib.hid (BldAt.cong' (w' := w8) HBL4.out (fun k hk => hb8.block k hk)); clear hb8; unfold sv)
                | (go_at_call 141; refine (writeString_any B B (printT (l.take k)) _ w8 HBL5.out (by rw [cat_size]; omega) (by omega)).mono ?_; rintro r w9 ⟨rfl, hb9, hc9⟩; have HB9 := Lib.hid hb9; have HC9 := Lib.hid hc9; clear hb9 hc9)
              go_roundw
              case rel =>
                refine ⟨k + 1, A2, G2, L2, by omega, by go_num, rfl, rfl, rfl, Lib.hid ?_, Lib.hid ?_, Lib.hid ?_, Lib.hid ?_, Lib.hid ?_⟩
                · rw [any_take argS HS.out, ← HA.out, HA2'.out, ← HA1.out, ← HTG.out, Bool.or_assoc]; rfl
                · rw [any_take (fun s => signE s.elems) HS.out, ← HG.out]; exact HG2'.out
                · rw [HL2'.out, ← HL1.out, HL.out, ← HLE.out, any_take longS HS.out, show longS ⟨t, es⟩ = (decide (16 < es.length) || longE es) from rfl, HM0.out]; simp only [Bool.or_assoc]
                · rw [printT_take HS.out, ← joinB_words, HJJ.out, ← cat_list]; exact HB9.out
                · exact (HBE4.out.trans (HB8.out.mono hBw)).trans HC9.out
              case measure => simp [intOf]; omega
    · skip
      obtain rfl : k = n := by omega
      have hte : l.take k = l := List.take_of_length_le (by rw [HLN.out]; exact Nat.le_refl _)
      have hB0 := HBL'.out
      have hA := HA.out
      have hG := HG.out
      have hL := HL.out
      rw [hte] at hB0 hA hG hL
      have hbl : (Lib.byteCells (printT l)).length = (printT l).length := Lib.byteCells_length _
      have hLP : longP l = L := by rw [longP_eq, hL, ← HLG.out, HLN.out]
      have hpe : printE l = if A then ([], 1) else if G then ([], 30) else if L || decide (65536 < (printT l).length) then ([], 2) else (printT l, 0) := by
        unfold printE; rw [argP_eq, ← hA, signP_eq, ← hG, hLP]
      have hBw := HBE'.out.size
      rw [HBQ.out] at hBw
      have HBE2 := HBE'.out
      have HLN' := HLN.out
      have hlp := HPL.out
      rw [HR.out] at hpe
      obtain ⟨PT, hPT⟩ : ∃ PT, printT l = PT := ⟨_, rfl⟩
      rw [hPT] at hpe hB0 hbl hlp
      clear hA hG hL hte hLP HA HG HL HBL' HLG HR HPL HCE HEL HSG HXL HBD HLN' hPT
      have hHBE2 := Lib.hid HBE2
      have hLEN := Lib.hid (Tryz.Builder_Len B B (Lib.byteCells PT) wr hB0)
      have hSTR := Lib.hid (Tryz.Builder_String_any B B PT wr hB0 hBw)
      rw [hbl] at hLEN
      clear hB0 hbl HBE2
      cases A with
      | true =>
        obtain rfl : R = ([], 1) := hpe
        go_wp2_with fail
        go_ret2
        exact ⟨rfl, by rw [HBQ.out]; exact hHBE2.out⟩
      | false =>
        cases G with
        | true =>
          obtain rfl : R = ([], 30) := hpe
          go_wp2_with fail
          go_ret2
          exact ⟨rfl, by rw [HBQ.out]; exact hHBE2.out⟩
        | false =>
          cases L with
          | true =>
            obtain rfl : R = ([], 2) := hpe
            go_wp2_with fail
            go_ret2
            exact ⟨rfl, by rw [HBQ.out]; exact hHBE2.out⟩
          | false =>
            by_cases hbig : 65536 < PT.length
            · obtain rfl : R = ([], 2) := by rw [hpe]; simp [hbig]
              have hd : decide ((65536 : Int) < (PT.length : Int)) = true := by simp; omega
              go_wp2_with (go_at_call 142; refine hLEN.out.mono ?_; rintro r w9 ⟨rfl, rfl⟩)
              go_ret2
              exact ⟨rfl, by rw [HBQ.out]; exact hHBE2.out⟩
            · obtain rfl : R = (PT, 0) := by rw [hpe]; simp [hbig]
              have hd : decide ((65536 : Int) < (PT.length : Int)) = false := by simp; omega
              go_wp2_with first
                | (go_at_call 142; refine hLEN.out.mono ?_; rintro r w9 ⟨rfl, rfl⟩)
                | (go_at_call 143; refine hSTR.out.mono ?_; rintro r w9 ⟨rfl, hw9⟩)
              go_ret2
              exact ⟨rfl, by rw [HBQ.out]; exact hHBE2.out.trans hw9⟩
end Go.Proofs.YtgfijlamhjjecaaGreatDoor


namespace Go.Proofs.YtgfijlamhjjecaaGreatDoor
open Go.RowKit
end Go.Proofs.YtgfijlamhjjecaaGreatDoor


namespace Go.Proofs.YtgfijlamhjjecaaGreatDoor
open Go.RowKit
theorem segCells_at : ∀ (l : List Seg) (xs : List Value) (j : Nat) (u : Value), xs.length = l.length → (segCells l xs)[j]? = some u → ∃ (i : Nat) (s : Seg) (x : Value), l[i]? = some s ∧ xs[i]? = some x ∧ (j = i * 2 ∧ u = sv s.tag ∨ j = i * 2 + 1 ∧ u = x)
  | [], xs, j, u, h, hu => by cases xs <;> simp [segCells] at hu
  | s :: l, [], j, u, h, hu => by simp at h
  | s :: l, x :: xs, 0, u, h, hu => by simp only [segCells, List.getElem?_cons_zero] at hu; cases hu; exact ⟨0, s, x, rfl, rfl, .inl ⟨rfl, rfl⟩⟩
  | s :: l, x :: xs, 1, u, h, hu => by simp only [segCells, List.getElem?_cons_succ, List.getElem?_cons_zero] at hu; cases hu; exact ⟨0, s, x, rfl, rfl, .inr ⟨rfl, rfl⟩⟩
  | s :: l, x :: xs, j + 2, u, h, hu => by
    simp only [segCells, List.getElem?_cons_succ] at hu
    obtain ⟨i, s', x', h1, h2, h3⟩ := segCells_at l xs j u (by simpa using h) hu
    refine ⟨i + 1, s', x', by simpa using h1, by simpa using h2, ?_⟩
    rcases h3 with ⟨h3, h4⟩ | ⟨h3, h4⟩
    · exact .inl ⟨by omega, h4⟩
    · exact .inr ⟨by omega, h4⟩
theorem segCells_one : ∀ (l : List Seg) (xs : List Value), (∀ x ∈ xs, x.oneCell' = true) → ∀ u ∈ segCells l xs, u.oneCell' = true
  | [], xs, _, u, hu => by cases xs <;> simp [segCells] at hu
  | s :: l, [], _, u, hu => by simp [segCells] at hu
  | s :: l, x :: xs, h, u, hu => by
    simp only [segCells, List.mem_cons] at hu
    rcases hu with rfl | rfl | hu
    · rfl
    · exact h _ List.mem_cons_self
    · exact segCells_one l xs (fun y hy => h y (List.mem_cons_of_mem _ hy)) u hu
theorem SegsAt.row {S : Nat → Prop} {w : World} {v : Value} {m : List Seg} (h : SegsAt S w v m) : ∃ (ao : Option Addr) (cap : Nat) (ys : List Value), v = .slice ao m.length cap ∧ ys.length = m.length ∧ (ao = none → m = [] ∧ cap = 0) ∧ (∀ x ∈ ys, x.oneCell' = true) ∧
    (∀ (i : Nat) (s : Seg) (x : Value), m[i]? = some s → ys[i]? = some x → ElemsAt S w x s.elems) ∧ ∀ ad, ao = some ad → ∀ (j : Nat) (u : Value), (segCells m ys)[j]? = some u → w.cell? (ad.add j) = some u := by
  obtain ⟨ao, cap, xs, rfl, h1, h2, h3, h4, h5, h6⟩ := h
  refine ⟨ao, cap, xs, rfl, h4, fun e => ⟨List.length_eq_zero_iff.1 (by have := h3 e; omega), h3 e⟩, fun x hx => ?_, h5, fun ad hao j u hu => ?_⟩
  · obtain ⟨i, hi⟩ := List.getElem?_of_mem hx
    have hil := (List.getElem?_eq_some_iff.1 hi).1
    obtain ⟨a, c, he, _⟩ := (h5 i m[i] x (List.getElem?_eq_getElem (by omega)) hi).form
    rw [he]; rfl
  · obtain ⟨i, s, x, g1, g2, g3⟩ := segCells_at m xs j u h4 hu
    obtain ⟨b, off, rb, _, hc⟩ := h6 (by rintro rfl; simp at g1)
    rw [hao] at rb
    cases rb
    obtain ⟨k1, k2⟩ := hc i s x g1 g2
    rw [Addr.add_mid]
    rcases g3 with ⟨rfl, rfl⟩ | ⟨rfl, rfl⟩
    · exact k1
    · rw [← Nat.add_assoc]; exact k2
end Go.Proofs.YtgfijlamhjjecaaGreatDoor


namespace Go.Proofs.YtgfijlamhjjecaaGreatDoor
open Go.RowKit
structure OG (B : Nat) (w : World) (ov : Value) (xs : List Value) (l : List Seg) : Prop where
  row : w.ownsRow B 94 2 ov l.length (segCells l xs)
  len : xs.length = l.length
  el : ∀ (i : Nat) (s : Seg) (x : Value), l[i]? = some s → xs[i]? = some x → ElemsAt (fun b => b < w.heap.size ∧ ov.ownBlock ≠ some b) w x s.elems
theorem OG.nil (B : Nat) (w : World) : OG B w (.slice none 0 0) [] [] := ⟨World.ownsRow_nil _ _ _ _, rfl, fun i s x h => by simp at h⟩
theorem OG.rest {B : Nat} {w : World} {ov : Value} {xs : List Value} {l : List Seg} (h : OG B w ov xs l) : SegsAt (fun b => b < w.heap.size) w ov l :=
  segs_rest h.row h.len (fun _ hk => (own_lt h.row hk).2) (fun i s x h1 h2 => (h.el i s x h1 h2).cong (fun _ hb => hb.1) (fun _ _ => rfl))
theorem OG.below {B : Nat} {w w' : World} {ov : Value} {xs : List Value} {l : List Seg} (h : OG B w ov xs l) (hb : Below w.heap.size w w') : OG B w' ov xs l :=
  ⟨own_cong h.row (fun k hk => hb.block k (own_lt h.row hk).2), h.len, fun i s x h1 h2 => (h.el i s x h1 h2).cong (fun k hk => ⟨by have := hb.size; omega, hk.2⟩) (fun k hk => hb.block k hk.1)⟩
theorem OG.one {B : Nat} {w : World} {t : Str} {st : ByteArray} {es : List (List Str)} {ev : Value} (hst : (⟨t.toArray⟩ : ByteArray) = st) (hB : B ≤ w.heap.size) (he : ElemsAt (fun b => b < w.heap.size) w ev es) :
    OG B (w.alloc (.cells #[.string st, ev] 94)) (.slice (some ⟨w.heap.size, 0, none⟩) 1 1) [ev] [⟨t, es⟩] := by
  refine ⟨⟨rfl, .inr ⟨w.heap.size, 1, #[.string st, ev], rfl, hB, heap_alloc_new _ _, Nat.le_refl _, by decide, rfl, ?_⟩⟩, rfl, fun i s x h1 h2 => ?_⟩
  · rw [← hst]; rfl
  · match i, h1, h2 with
    | 0, h1, h2 =>
      simp at h1 h2
      subst h1; subst h2
      exact he.cong (fun k hk => ⟨by simp; omega, fun e => by simp [Value.ownBlock] at e; omega⟩) (fun k hk => Below.heap_alloc _ _ _ hk)
    | i + 1, h1, _ => simp at h1
theorem wp_app_og {ops : Array Oper} {rest : List Oper} {o : Oper} {a : Act} {Q : Exit → Act → World → Prop} (s x : Operand)
    (ho : o.op = .call { callee := .builtin .append, args := #[s, x], argTypes := #[39, 39] }) (hw : Region.wanted o (yielded ops a.tmps) = true)
    {w : World} {B : Nat} {v mv : Value} {xs : List Value} {l m : List Seg} {S : Nat → Prop} (hs : a.eval s = v) (hx : a.eval x = mv) (hO : OG B w v xs l) (hm : SegsAt S w mv m) (hS : ∀ k, S k → k < w.heap.size ∧ v.ownBlock ≠ some k) (hl : l.length + m.length ≤ 1048576) (hB : B ≤ w.heap.size)
    (h : ∀ v' w' xs', OG B w' v' xs' (l ++ m) → Below B w w' → wpList Tryz.prog ops Q rest (a.put o.dst v') w') :
    wpList Tryz.prog ops Q (o :: rest) a w := by
  obtain ⟨i0, hi, hz0, hz1, hz2⟩ := info_parts einfo_seg
  have hm0 := hm
  obtain ⟨ao, cap, ys, rfl, g1, g2, g3, g4, g5⟩ := hm.row
  simp only [wpList, hw, if_true]
  left
  have fin : ∀ v' w', w'.ownsRow B 94 2 v' (l.length + m.length) (segCells l xs ++ segCells m ys) → w.grownBy w' v.ownBlock → (v'.ownBlock = v.ownBlock ∨ v'.ownBlock = some w.heap.size) → OG B w' v' (xs ++ ys) (l ++ m) ∧ Below B w w' := fun v' w' f1 f2 f3 => by
    have hov : ∀ k, v.ownBlock = some k → B ≤ k := fun k hk => (own_lt hO.row hk).1
    have hb : Below B w w' := (Below.refl B w).grown f2 hB hov
    have hz := f2.size
    have hc : ∀ b, b < w.heap.size → v.ownBlock ≠ some b → v'.ownBlock ≠ some b := fun b hb2 hne he => by
      rcases f3 with f3 | f3
      · exact hne (f3 ▸ he)
      · rw [f3] at he; cases he; omega
    refine ⟨⟨by rw [List.length_append, segCells_app l m xs ys hO.len]; exact f1, by simp [hO.len, g1], fun i s x h1 h2 => ?_⟩, hb⟩
    rcases Nat.lt_or_ge i l.length with hil | hil
    · rw [List.getElem?_append_left hil] at h1
      rw [List.getElem?_append_left (by rw [hO.len]; exact hil)] at h2
      exact (hO.el i s x h1 h2).cong (fun b hb' => ⟨by omega, hc b hb'.1 hb'.2⟩) (fun b hb' => f2.block b hb'.1 (fun e => hb'.2 e.symm))
    · rw [List.getElem?_append_right hil] at h1
      rw [List.getElem?_append_right (by rw [hO.len]; exact hil), hO.len] at h2
      exact (g4 _ s x h1 h2).cong (fun b hb' => ⟨by have := (hS b hb').1; omega, hc b (hS b hb').1 (hS b hb').2⟩) (fun b hb' => f2.block b (hS b hb').1 (fun e => (hS b hb').2 e.symm))
  cases ao with
  | none =>
    obtain ⟨rfl, rfl⟩ := g2 rfl
    have hr := run_append_owned_none (P := Tryz.prog) (w := w) B 39 o.type 94 i0 2 Tryz.underlying39 hi v l.length (segCells l xs) hO.row
    unfold Oper.wp
    simp [execOp, ho, resolve, invoke, builtin, hs, hx, hr, Result.andThen]
    obtain ⟨k1, k2⟩ := fin v w (by
      have : ys = [] := List.length_eq_zero_iff.1 g1
      subst this
      simpa [segCells] using hO.row) ⟨rfl, rfl, rfl, Nat.le_refl _, fun _ _ _ => rfl⟩ (.inl rfl)
    exact h v w _ k1 k2
  | some ad =>
    obtain ⟨v', w', hr, h2, h3, _, h5⟩ := run_append_own_at (P := Tryz.prog) w B 39 o.type 94 i0 (.agg #[.string ⟨#[]⟩, .slice none 0 0]) 2 40 Tryz.underlying39 hi hz0 hz1 hz2 rfl (by decide) v l.length (segCells l xs) hO.row ad m.length cap (segCells m ys) (segCells_len m ys g1) (g5 ad rfl) (segCells_one m ys g3) (by unfold maxLen; omega) (by omega) hB
    unfold Oper.wp execOp
    simp only [ho, resolve, invoke, builtin, Sem.run_bind, Sem.run_pure, Result.andThen_ok, List.map_toArray, List.map_cons, List.map_nil, hs, hx, hr]
    obtain ⟨k1, k2⟩ := fin v' w' h2 h3 h5
    exact h v' w' _ k1 k2
end Go.Proofs.YtgfijlamhjjecaaGreatDoor


namespace Go.Proofs.YtgfijlamhjjecaaGreatDoor
open Go.RowKit
theorem results_cell1 {fn : Func} {p : Tmp} {ty : TypeId} (h : fn.results = #[.cell p ty]) (tmps : Array Value) (P : Program) (w : World) :
    (results fn tmps).run P w = ((asAddr (tmps.getD p undef)).run P w).andThen fun a w₁ => (loadVar ty a).run P w₁ := by
  simp only [results, h]
  simp [Sem.run_bind, Result.andThen]
theorem res_seg {fn : Func} {p : Tmp} (h : fn.results = #[.cell p 94]) (tmps : Array Value) {w : World} {g : Nat} {cs : Array Value} {t : TypeId} (hp : tmps.getD p undef = .pointer (some ⟨g, 0, none⟩))
    (hg : w.heap[g]? = some (.cells cs t (0, 0))) (hs : cs.size = 2) : (results fn tmps).run Tryz.prog w = .ok (.agg cs) w := by
  rw [results_cell1 h, hp]
  have hl : (loadVar 94 ⟨g, 0, none⟩).run Tryz.prog w = .ok (.agg cs) w := run_loadVar_row w g t 94 cs (0, 0) _ hg Tryz.underlying94 rfl (by rw [hs]; kernel_rfl)
  simp [asAddr, hl, Result.andThen]
def SegQ (st : ByteArray) (es : List (List Str)) (w : World) (e : Ending) (w' : World) : Prop := ∃ ev, e = .returned (.agg #[.string st, ev]) ∧ ElemsAt (fun k => w.heap.size ≤ k ∧ k < w'.heap.size) w' ev es ∧ Below w.heap.size w w'
def nums (l : List Nat) : List (List Str) := l.map fun v => [decT v]
set_option maxRecDepth 100000 in
set_option maxHeartbeats 8000000 in
theorem segment_any (st : ByteArray) (l : List Nat) (ab ao cap : Nat) (w : World) (hv : VarsOk w) (hl : l.length ≤ 16) (h64 : ∀ v ∈ l, v < 18446744073709551616) (hcap : l.length ≤ cap) (_hcap2 : cap ≤ 16)
    (hc : ∀ (i v : Nat), l[i]? = some v → w.cell? ⟨ab, ao + i, none⟩ = some (.int .u64 (v : Int))) :
    Calls Tryz.prog 96 #[.string st, .slice (some ⟨ab, ao, none⟩) l.length cap] w fun e w' => SegQ st (nums l) w e w' := by
  obtain ⟨B, hB⟩ : ∃ B, w.heap.size = B := ⟨_, rfl⟩
  have HBQ := Lib.hid hB
  have HC := Lib.hid hc
  have HV := Lib.hid hv
  have H64 := Lib.hid h64
  obtain ⟨n, hn⟩ : ∃ n, l.length = n := ⟨_, rfl⟩
  have HN := Lib.hid hn
  rw [hn] at hl hcap ⊢
  unfold SegQ
  rw [hB]
  obtain ⟨i2, hi2, hz20, hz21, hz22⟩ := info_parts einfo_strs
  have HI2 := Lib.hid hi2
  have HZ20 := Lib.hid hz20
  have HZ21 := Lib.hid hz21
  have HZ22 := Lib.hid hz22
  clear hi2 hz20 hz21 hz22 hc hv h64 hn
  obtain ⟨w1, hw1⟩ : ∃ w1, w.alloc (.cells #[.string ⟨#[]⟩, .slice none 0 0] 94) = w1 := ⟨_, rfl⟩
  have hz1 : w1.heap.size = B + 1 := by rw [← hw1]; simp [hB]
  have HB1 : Hid (Below B w w1) := Lib.hid (by rw [← hw1, ← hB]; exact (Below.refl _ _).alloc (Nat.le_refl _) _)
  have HR1 : Hid (w1.heap[B]? = some (.cells #[.string ⟨#[]⟩, .slice none 0 0] 94 (0, 0))) := Lib.hid (by rw [← hw1, ← hB]; exact heap_alloc_new _ _)
  obtain ⟨w2, hw2⟩ : ∃ w2, w1.alloc (.cells #[.string st, .slice none 0 0] 94) = w2 := ⟨_, rfl⟩
  have HE0 : Hid (OE (B + 1) (B + 1) st w2 (.slice none 0 0) [] []) := Lib.hid (OE.start (by rw [← hw2, ← hz1]; exact heap_alloc_new _ _))
  have HB2 : Hid (Below (B + 1) w1 w2) := Lib.hid (by rw [← hw2, ← hz1]; exact (Below.refl _ _).alloc (Nat.le_refl _) _)
  have hz2 : w2.heap.size = B + 2 := by rw [← hw2]; simp [hz1]
  have HZ1 := Lib.hid hz1
  have HZ2 := Lib.hid hz2
  have HW1 := Lib.hid hw1
  have HW2 := Lib.hid hw2
  clear hz1 hz2 hw1 hw2
  go_enter Tryz.func96, Tryz.ntmps96
  go_wp2_with fail
  rw [HW1.out, HW2.out]
  clear hB
  go_loopw [12] (fun i wx => ∃ (m : Nat) (ev : Value) (ys : List Value), m ≤ n ∧ i = .int .i64 (m : Int) ∧ Hid (OE (B + 1) (B + 1) st wx ev ys ((nums l).take m)) ∧ Hid (Below (B + 1) w1 wx) ∧ B + 1 < wx.heap.size) (fun i _ => n - (intOf i).toNat)
  case atStart => exact ⟨0, _, [], by omega, rfl, HE0, HB2, by rw [HZ2.out]; omega⟩
  case round =>
    obtain ⟨m, ev, ys, hm, rfl, HE1, HB3, hzx⟩ := hrel
    by_cases hml : m < n
    · skip
      obtain ⟨u, hu⟩ : ∃ u, l[m]? = some u := ⟨_, List.getElem?_eq_getElem (by rw [HN.out]; exact hml)⟩
      have hu64 := H64.out u (List.mem_of_getElem? hu)
      have hcu := HC.out m u hu
      have habB : ab < B := by rw [← HBQ.out]; exact cell_lt' hcu
      have HBW := Lib.hid (show Below B w wr from HB1.out.trans (HB3.out.mono (by omega)))
      have d1 := (HBW.out.cell (p := ⟨ab, ao + m, none⟩) habB).trans hcu
      have hne : (nums l)[m]? = some [decT u] := by unfold nums; rw [List.getElem?_map, hu]; rfl
      have HNE := Lib.hid hne
      have hlm : ((nums l).take m).length = m := by unfold nums; rw [List.length_take, List.length_map, HN.out]; omega
      obtain ⟨eva, evc, rfl⟩ := own_slice HE1.out.row
      rw [hlm] at HE1
      obtain ⟨f0, f1, fz⟩ := HE1.out.cells
      have b3 : (0 : Int) ≤ m := by omega
      have b4 : (m : Int) < n := by omega
      have HLM := Lib.hid hlm
      have HVX := Lib.hid (HV.out.on HBW.out (by rw [HBQ.out]; exact Nat.le_refl _))
      clear hcu hne hlm f0 hu
      go_upto_region 5 with fail
      obtain ⟨wd, hwd⟩ : ∃ wd, wr.drew = wd := ⟨_, rfl⟩
      have hwh : wd.heap = wr.heap := by rw [← hwd]; rfl
      have HE2 := Lib.hid (HE1.out.drew hwh)
      have HB4 := Lib.hid (show Below wr.heap.size wr wd by rw [← hwd]; exact (Below.refl _ _).drew)
      have f1' : wd.cell? ⟨B + 1, 1, none⟩ = some (.slice eva m evc) := (cell_ag (by rw [hwh])).trans f1
      have HWS := Lib.hid (show wd.heap.size = wr.heap.size by rw [hwh])
      have HVD := Lib.hid (HVX.out.on HB4.out (Nat.le_refl _))
      refine wp_region_planF 8 [(0, false), (1, false), (2, false), (3, true), (4, true), (5, true), (6, true), (7, false), (8, true)]
        (fun w' => w'.cell? ⟨B + 1, 1, none⟩ = some (.slice eva m evc)) (by kernel_rfl) (by kernel_rfl) (by rw [hwd]; exact f1') ?_
      rw [hwd]
      have HF1 := Lib.hid f1'
      clear hwd hwh f1 fz d1 HE1 f1'
      iterate 3 (refine' planF_val rfl rfl (fun w' hS => ?_) ?_; rotate_left; (focus (go_simp; rfl)); simp only [Act.put, List.setIfInBounds_toArray, List.set_cons_zero, List.set_cons_succ])
      refine planF_do rfl (fun K hK => ?_)
      obtain ⟨D0, hD0⟩ : ∃ D, wd.heap.size = D := ⟨_, rfl⟩
      have HD0 := Lib.hid hD0
      have hspD : B + 1 < D0 := by have h1 := HE2.out.lt; omega
      clear hD0
      go_wp2_with (go_at_call 128; refine (fmt_any u hu64 _ HVD.out).mono ?_; rw [HD0.out]; rintro e wc ⟨rfl, hb⟩; have HBC := Lib.hid hb; clear hb)
      refine hK _ _ (.inr ((HBC.out.cell (p := ⟨B + 1, 1, none⟩) hspD).trans HF1.out)) ?_
      clear hK K
      have hzc := HBC.out.size
      rw [HD0.out] at hzc
      obtain ⟨D, hD⟩ : ∃ D, wc.heap.size = D := ⟨_, rfl⟩
      have HD := Lib.hid hD
      rw [hD] at hzc
      obtain ⟨we, hwe⟩ : ∃ we, wc.alloc (.cells #[.string ⟨(decT u).toArray⟩] 9) = we := ⟨_, rfl⟩
      have HBe : Hid (Below D wc we) := Lib.hid (by rw [← hwe, ← hD]; exact (Below.refl _ _).alloc (Nat.le_refl _) _)
      have hze : we.heap.size = D + 1 := by rw [← hwe, ← hD]; simp
      have HCO : Hid (CompsAt (fun b => D0 ≤ b ∧ b < we.heap.size) we (.slice (some ⟨D, 0, none⟩) 1 1) [decT u]) := Lib.hid (by
        refine ⟨some ⟨D, 0, none⟩, 1, rfl, Nat.le_refl _, by decide, (fun e => by cases e), fun _ => ⟨D, 0, rfl, ⟨hzc, by omega⟩, fun i x hx => ?_⟩⟩
        match i, hx with
        | 0, hx => simp at hx; subst hx; rw [← hwe, ← hD]; simp [sv]
        | i + 1, hx => simp at hx)
      have HBDE : Hid (Below D0 wd we) := Lib.hid (HBC.out.trans (HBe.out.mono hzc))
      have HWE := Lib.hid hwe
      clear hwe hD
      refine planF_do rfl (fun K hK => ?_)
      go_wp2_with fail
      rw [HWE.out, HD.out]
      refine hK _ _ (.inr ((HBDE.out.cell (p := ⟨B + 1, 1, none⟩) hspD).trans HF1.out)) ?_
      clear hK K
      refine planF_do rfl (fun K hK => ?_)
      go_wp2_with fail
      refine hK _ _ (.inr ((Below.heap_alloc _ _ _ (by omega) |> fun h => cell_ag h).trans ((HBDE.out.cell (p := ⟨B + 1, 1, none⟩) hspD).trans HF1.out))) ?_
      clear hK K
      refine planF_do rfl (fun K hK => ?_)
      have hrow : we.ownsRow (B + 1) 58 1 (.slice eva m evc) m ys := by
        have h1 := HE2.out.row
        rw [HLM.out] at h1
        exact own_cong h1 (fun b hb => HBDE.out.block b (by rw [← HD0.out]; exact (own_lt h1 hb).2))
      have HRW := Lib.hid hrow
      clear hrow
      refine wpList_append_own_at _ rfl _ _ 92 rfl (B + 1) 58 i2 (.slice none 0 0) 1 24 Tryz.underlying92 HI2.out HZ20.out HZ21.out HZ22.out rfl (by decide) _ _ _ rfl (HRW.out.alloc _) ⟨we.heap.size, 0, none⟩ 1 1 [.slice (some ⟨D, 0, none⟩) 1 1] (by rw [hze]; rfl) rfl (cell_one_new _ _ _) (by simp [Value.oneCell']) (by unfold maxLen; omega) (by omega) (by simp; omega) ?_
      intro ev' wg hog hgg _ hkg
      obtain ⟨ev'a, ev'c, rfl⟩ := own_slice hog
      have hgg' := grown_alloc hgg
      have hzg := hgg'.size
      have hne1 : (Value.slice eva m evc).ownBlock ≠ some (B + 1) := own_not HE2.out.row HE2.out.c (by decide)
      have cg : wg.heap[B + 1]? = some (.cells #[.string st, .slice eva m evc] 94 (0, 0)) := (hgg'.block (B + 1) (by omega) (fun e => hne1 e.symm)).trans ((HBDE.out.block (B + 1) hspD).trans HE2.out.c)
      have cg1 : wg.cell? ⟨B + 1, 1, none⟩ = some (.slice eva m evc) := cell_of_row wg (B + 1) 1 _ _ _ cg
      have fg1 : wg.frozen? ⟨B + 1, 1, none⟩ = false := frozen_of_row wg (B + 1) 1 _ _ cg
      have HSTEP : Hid (OE (B + 1) (B + 1) st (wg.setCell ⟨B + 1, 1, none⟩ (.slice ev'a (m + 1) ev'c)) (.slice ev'a (m + 1) ev'c) (ys ++ [.slice (some ⟨D, 0, none⟩) 1 1]) ((nums l).take m ++ [[decT u]])) := Lib.hid (by
        refine OE.step HE2.out (by rw [HD0.out]; omega) (by rw [HD0.out]; exact HBDE.out) (by rw [HD0.out]; exact HCO.out) hgg' (by rw [HLM.out]; exact hog) ?_
        rcases hkg with h | h
        · exact .inl h
        · exact .inr ⟨_, h, by simp⟩)
      have HBG : Hid (Below (B + 1) wr wg) := Lib.hid (by
        have h1 := (HBDE.out.mono (show B + 1 ≤ D0 by omega))
        have h2 := HB4.out.mono (show B + 1 ≤ wr.heap.size by omega)
        have h3 := h2.trans h1
        exact h3.grown hgg' (by omega) (fun b hb => (own_lt HRW.out hb).1))
      have HKS := Lib.hid cg1
      clear hog hgg hkg hgg' hne1 cg
      go_wp2_with fail
      refine hK _ _ (.inr HKS.out) ?_
      clear hK K
      (refine' planF_val rfl rfl (fun w' hS => ?_) ?_; rotate_left; (focus (go_simp; rfl)); simp only [Act.put, List.setIfInBounds_toArray, List.set_cons_zero, List.set_cons_succ])
      refine planF_do rfl (fun K hK => ?_)
      go_wp2_with fail
      refine hK _ _ (.inl trivial) ?_
      clear hK K
      refine planF_nil ?_
      clear cg1 fg1
      obtain ⟨wh, hwh⟩ : ∃ wh, wg.setCell ⟨B + 1, 1, none⟩ (.slice ev'a (m + 1) ev'c) = wh := ⟨_, rfl⟩
      have hzh : wh.heap.size = wg.heap.size := by rw [← hwh]; simp
      have HBH : Hid (Below (B + 1) wr wh) := Lib.hid (by rw [← hwh]; exact HBG.out.setCell (Nat.le_refl _) _)
      rw [hwh] at HSTEP ⊢
      have HHB := Lib.hid (HB3.out.trans HBH.out)
      have hzz : B + 1 < wh.heap.size := by omega
      clear hwh hzh
      go_wp2_with fail
      go_roundw
      case rel =>
        exact ⟨m + 1, .slice ev'a (m + 1) ev'c, ys ++ [.slice (some ⟨D, 0, none⟩) 1 1], by omega, by go_num, Lib.hid (by rw [List.take_add_one, HNE.out]; exact HSTEP.out), Lib.hid HHB.out, hzz⟩
      case measure => simp [intOf]; omega
    · skip
      obtain rfl : m = n := by omega
      have hte : (nums l).take m = nums l := List.take_of_length_le (by unfold nums; rw [List.length_map, HN.out]; exact Nat.le_refl _)
      rw [hte] at HE1
      obtain ⟨eva, evc, rfl⟩ := own_slice HE1.out.row
      obtain ⟨g0, g1, _⟩ := HE1.out.cells
      have hr := (HB3.out.block B (by omega)).trans HR1.out
      have r0 : wr.cell? ⟨B, 0, none⟩ = some (.string ⟨#[]⟩) := cell_of_row wr B 0 _ _ _ hr
      have r1 : wr.cell? ⟨B, 1, none⟩ = some (.slice none 0 0) := cell_of_row wr B 1 _ _ _ hr
      have z0 := frozen_of_row wr B 0 _ _ hr
      have z1 := frozen_of_row wr B 1 _ _ hr
      have HR := Lib.hid hr
      clear hte hr
      go_wp2_with fail
      refine bodyPost_ret (res_seg rfl _ rfl (heap_setCell_same _ B 1 _ _ _ (heap_setCell_same _ B 0 _ _ _ HR.out)) rfl) rfl ?_
      refine ⟨_, rfl, ?_, ((HB1.out.trans (HB3.out.mono (by omega))).setCell (Nat.le_refl _) _).setCell (Nat.le_refl _) _⟩
      have h5 : RowAt (fun b => B + 1 ≤ b ∧ b < wr.heap.size) wr (.slice eva (nums l).length evc) ys := own_rest (by rw [HE1.out.len]; exact HE1.out.row) (fun k hk => own_lt HE1.out.row hk)
      have far : ∀ k, B + 1 ≤ k → ((wr.setCell ⟨B, 0, none⟩ (.string st)).setCell ⟨B, 1, none⟩ (.slice eva (nums l).length evc)).heap[k]? = wr.heap[k]? := fun k hk => by
        rw [heap_setCell_other _ _ _ _ (by simp; omega), heap_setCell_other _ _ _ _ (by simp; omega)]
      refine ⟨ys, h5.cong (fun b hb => ⟨by omega, by simp; exact hb.2⟩) (fun b hb => far b hb.1), HE1.out.len, fun i e x h6 h7 => ?_⟩
      exact (HE1.out.el i e x h6 h7).cong (fun b hb => ⟨by omega, by simp; exact hb.2.1⟩) (fun b hb => far b hb.1)
end Go.Proofs.YtgfijlamhjjecaaGreatDoor


namespace Go.Proofs.YtgfijlamhjjecaaGreatDoor
open Go.RowKit
theorem segs_one {S : Nat → Prop} {w : World} {t : Str} {st : ByteArray} {es : List (List Str)} {ev : Value} (hst : (⟨t.toArray⟩ : ByteArray) = st) (he : ElemsAt S w ev es) (hS : ∀ k, S k → k < w.heap.size) :
    SegsAt (fun k => S k ∨ k = w.heap.size) (w.alloc (.cells #[.string st, ev] 94)) (.slice (some ⟨w.heap.size, 0, none⟩) 1 1) [⟨t, es⟩] := by
  refine ⟨some ⟨w.heap.size, 0, none⟩, 1, [ev], rfl, by simp, by decide, (fun e => by cases e), rfl, fun i s x h1 h2 => ?_, fun _ => ⟨w.heap.size, 0, rfl, .inr rfl, fun i s x h1 h2 => ?_⟩⟩
  · match i, h1, h2 with
    | 0, h1, h2 => simp at h1 h2; subst h1; subst h2; exact he.cong (fun k hk => .inl hk) (fun k hk => Below.heap_alloc _ _ _ (hS k hk))
    | i + 1, h1, _ => simp at h1
  · match i, h1, h2 with
    | 0, h1, h2 =>
      simp at h1 h2; subst h1; subst h2
      have hc := heap_alloc_new w (.cells #[.string st, ev] 94)
      exact ⟨by unfold sv; rw [hst]; exact cell_of_row _ _ 0 _ _ _ hc, cell_of_row _ _ 1 _ _ _ hc⟩
    | i + 1, h1, _ => simp at h1
theorem wrapT_len (a b c d f : Nat) (m : List Seg) (ha : a < 18446744073709551616) (hb : b < 18446744073709551616) (hc : c < 18446744073709551616) (hd : d < 18446744073709551616) (hf : f < 18446744073709551616) : (printT (wrapL a b c d f m)).length ≤ (printT m).length + 200 := by
  rw [roundT_eq]
  have h1 := dec_len20 ha
  have h2 := dec_len20 hb
  have h3 := dec_len20 hc
  have h4 := dec_len20 hd
  have h5 := dec_len20 hf
  unfold roundT unb unz
  simp only [List.length_append, List.length_cons, List.length_nil]
  omega
def WPrintQ (x : WD) (w : World) (e : Ending) (w' : World) : Prop := e = .returned (.tuple #[sv (wrapPrintE x).1, .int .i64 (wrapPrintE x).2]) ∧ Below w.heap.size w w'
set_option maxRecDepth 100000 in
set_option maxHeartbeats 8000000 in
theorem wPrint_any {S : Nat → Prop} (x : WD) (v : Value) (w : World) (hv : VarsOk w) (h1 : x.fr < 256) (h2 : x.dst < 256) (h3 : x.rf < 18446744073709551616) (hs : SegsAt S w v x.segs) (hS : ∀ k, S k → k < w.heap.size) (hP : x.segs.length ≤ 62 → (printT x.segs).length ≤ 1000000) :
    Calls Tryz.prog 58 #[wv x v] w fun e w' => WPrintQ x w e w' := by
  obtain ⟨fr, dst, rf, m⟩ := x
  simp only at h1 h2 h3 hs hP
  obtain ⟨B, hB⟩ : ∃ B, w.heap.size = B := ⟨_, rfl⟩
  have HBQ := Lib.hid hB
  have HS := Lib.hid hS
  have HV := Lib.hid hv
  have HSG := Lib.hid hs
  have HPL := Lib.hid hP
  obtain ⟨ao, cap, rfl, c1, c2⟩ := hs.form
  obtain ⟨n, hn⟩ : ∃ n, m.length = n := ⟨_, rfl⟩
  have HN := Lib.hid hn
  rw [hn] at c1 HSG ⊢
  unfold maxLen at c2
  unfold WPrintQ
  rw [hB]
  obtain ⟨w1, hw1⟩ : ∃ w1, w.alloc (.cells #[.int .u8 (fr : Int), .int .u8 (dst : Int), .int .u64 (rf : Int), .slice ao n cap] 41) = w1 := ⟨_, rfl⟩
  have hz1 : w1.heap.size = B + 1 := by rw [← hw1]; simp [hB]
  have HB1 : Hid (Below B w w1) := Lib.hid (by rw [← hw1, ← hB]; exact (Below.refl _ _).alloc (Nat.le_refl _) _)
  have hr1 : w1.heap[B]? = some (.cells #[.int .u8 (fr : Int), .int .u8 (dst : Int), .int .u64 (rf : Int), .slice ao n cap] 41 (0, 0)) := by rw [← hw1, ← hB]; exact heap_alloc_new _ _
  have HR1 := Lib.hid hr1
  obtain ⟨⟨d0, d1, d2, d3⟩, _⟩ := cells4 hr1
  have HZ1 := Lib.hid hz1
  have HW1 := Lib.hid hw1
  have wr1 : IntKind.u64.wrap (fr : Int) = (fr : Int) := by rw [IntKind.wrap_u64]; omega
  have wr2 : IntKind.u64.wrap (dst : Int) = (dst : Int) := by rw [IntKind.wrap_u64]; omega
  clear hB hs hS hv hP hn hz1 hw1 hr1
  by_cases g1 : 8 ≤ fr
  · skip
    have i1 : decide ((8 : Int) ≤ (fr : Int)) = true := by rw [decide_eq_true_eq]; omega
    have hE : wrapPrintE ⟨fr, dst, rf, m⟩ = ([], 1) := by unfold wrapPrintE; rw [if_pos (.inl g1)]
    have HE := Lib.hid hE
    clear hE
    unfold wv
    go_enter Tryz.func58, Tryz.ntmps58
    go_upto_region 1 with fail
    rw [HW1.out, HBQ.out]
    go_wp2_with fail
    go_ret2
    rw [HE.out]
    exact ⟨rfl, HB1.out⟩
  have i1 : decide ((8 : Int) ≤ (fr : Int)) = false := by rw [decide_eq_false_iff_not]; omega
  by_cases g2 : 8 ≤ dst
  · skip
    have i2 : decide ((8 : Int) ≤ (dst : Int)) = true := by rw [decide_eq_true_eq]; omega
    have hE : wrapPrintE ⟨fr, dst, rf, m⟩ = ([], 1) := by unfold wrapPrintE; rw [if_pos (.inr g2)]
    have HE := Lib.hid hE
    clear hE
    unfold wv
    go_enter Tryz.func58, Tryz.ntmps58
    go_upto_region 1 with fail
    rw [HW1.out, HBQ.out]
    go_wp2_with fail
    go_ret2
    rw [HE.out]
    exact ⟨rfl, HB1.out⟩
  have i2 : decide ((8 : Int) ≤ (dst : Int)) = false := by rw [decide_eq_false_iff_not]; omega
  by_cases g3 : 62 < n
  · skip
    have i3 : decide ((62 : Int) < (n : Int)) = true := by rw [decide_eq_true_eq]; omega
    have hE : wrapPrintE ⟨fr, dst, rf, m⟩ = ([], 2) := by unfold wrapPrintE; rw [if_neg (by simp only; omega), if_pos (by simp only; rw [HN.out]; exact g3)]
    have HE := Lib.hid hE
    clear hE
    unfold wv
    go_enter Tryz.func58, Tryz.ntmps58
    go_upto_region 1 with fail
    rw [HW1.out, HBQ.out]
    go_wp2_with fail
    go_ret2
    rw [HE.out]
    exact ⟨rfl, HB1.out⟩
  · skip
    have i3 : decide ((62 : Int) < (n : Int)) = false := by rw [decide_eq_false_iff_not]; omega
    have hE : wrapPrintE ⟨fr, dst, rf, m⟩ = printE (wrapL fr dst rf n rf m) := by unfold wrapPrintE; rw [if_neg (by simp only; omega), if_neg (by simp only; rw [HN.out]; exact g3), HN.out]
    have HE := Lib.hid hE
    have HT := Lib.hid (show (printT (wrapL fr dst rf n rf m)).length ≤ 1048576 by
      have e1 := wrapT_len fr dst rf n rf m (by omega) (by omega) h3 (by omega) h3
      have e2 := HPL.out (by rw [HN.out]; omega)
      omega)
    have wr3 : IntKind.u64.wrap (n : Int) = (n : Int) := by rw [IntKind.wrap_u64]; omega
    obtain ⟨w2, hw2⟩ : ∃ w2, w1.alloc (.cells #[.int .u64 (fr : Int), .int .u64 (dst : Int), .int .u64 (rf : Int)] 22) = w2 := ⟨_, rfl⟩
    have hz2 : w2.heap.size = B + 2 := by rw [← hw2]; simp [HZ1.out]
    have HB2 : Hid (Below (B + 1) w1 w2) := Lib.hid (by rw [← hw2, ← HZ1.out]; exact (Below.refl _ _).alloc (Nat.le_refl _) _)
    have hr2 : w2.heap[B + 1]? = some (.cells #[.int .u64 (fr : Int), .int .u64 (dst : Int), .int .u64 (rf : Int)] 22 (0, 0)) := by rw [← hw2, ← HZ1.out]; exact heap_alloc_new _ _
    have hv2 : VarsOk w2 := (HV.out.on HB1.out (by rw [HBQ.out]; exact Nat.le_refl _)).on HB2.out (by rw [HZ1.out]; exact Nat.le_refl _)
    have HSEG1 := Lib.hid (segment_any ⟨#[85, 78, 66]⟩ [fr, dst, rf] (B + 1) 0 3 w2 hv2 (by simp) (by simp; omega) (by simp) (by decide) (fun i u hu => by
      match i, hu with
      | 0, hu => simp at hu; subst hu; exact cell_of_row w2 (B + 1) 0 _ _ _ hr2
      | 1, hu => simp at hu; subst hu; exact cell_of_row w2 (B + 1) 1 _ _ _ hr2
      | 2, hu => simp at hu; subst hu; exact cell_of_row w2 (B + 1) 2 _ _ _ hr2
      | i + 3, hu => simp at hu))
    have HV2 := Lib.hid hv2
    have HZ2 := Lib.hid hz2
    have HW2 := Lib.hid hw2
    clear hE hw2 hz2 hr2 hv2
    unfold wv
    go_enter Tryz.func58, Tryz.ntmps58
    go_upto_region 1 with fail
    rw [HW1.out, HBQ.out]
    go_upto_region 6 with (go_at_call 96; rw [HW2.out, HZ1.out]; refine HSEG1.out.mono ?_; rintro e w3 ⟨ev1, rfl, he1, hb3⟩; rw [HZ2.out] at he1 hb3; have HEV1 := Lib.hid he1; have HB3 := Lib.hid hb3; clear he1 hb3)
    have hz3 := HB3.out.size
    rw [HZ2.out] at hz3
    obtain ⟨D, hD⟩ : ∃ D, w3.heap.size = D := ⟨_, rfl⟩
    obtain ⟨w4, hw4⟩ : ∃ w4, w3.alloc (.cells #[.string ⟨#[85, 78, 66]⟩, ev1] 94) = w4 := ⟨_, rfl⟩
    have HOG : Hid (OG (B + 2) w4 (.slice (some ⟨D, 0, none⟩) 1 1) [ev1] [⟨unb, nums [fr, dst, rf]⟩]) := Lib.hid (by
      rw [← hw4, ← hD]
      exact OG.one rfl (by omega) (HEV1.out.cong (fun k hk => hk.2) (fun _ _ => rfl)))
    have HB4 : Hid (Below (B + 2) w2 w4) := Lib.hid (by rw [← hw4]; exact HB3.out.trans ((Below.refl _ _).alloc (by omega) _))
    have HB5 : Hid (Below B w w4) := Lib.hid ((HB1.out.trans (HB2.out.mono (by omega))).trans (HB4.out.mono (by omega)))
    have hbx := (HB4.out.block B (by omega)).trans ((HB2.out.block B (by omega)).trans HR1.out)
    have HBX := Lib.hid hbx
    have hz4 : w4.heap.size = D + 1 := by rw [← hw4, ← hD]; simp
    have HZ4 := Lib.hid hz4
    obtain ⟨⟨d0, d1, d2, d3⟩, _⟩ := cells4 hbx
    have HSG4 : Hid (SegsAt S w4 (.slice ao n cap) m) := Lib.hid (HSG.out.cong (fun _ hk => hk) (fun k hk => HB5.out.block k (by rw [← HBQ.out]; exact HS.out k hk)))
    have HSD : Hid (∀ k, S k → k < D ∧ k ≠ D) := Lib.hid (fun k hk => by have h1 := HS.out k hk; rw [HBQ.out] at h1; omega)
    have HW4 := Lib.hid hw4
    have HDD := Lib.hid hD
    rw [hD] at hz3
    clear hw4 hD hbx hz4
    rw [HW4.out, HDD.out]
    go_upto_region 7 with ((with_reducible refine wpList_at (.call { callee := .builtin .append, args := #[.tmp 30, .tmp 32], argTypes := #[39, 39] }) rfl ?_); go_loud (refine wp_app_og _ _ rfl rfl rfl rfl HOG.out HSG4.out (fun k hk => ⟨by rw [HZ4.out]; have := HSD.out k hk; omega, fun e => by cases e; exact (HSD.out _ hk).2 rfl⟩) (by rw [HN.out]; simp; omega) (by rw [HZ4.out]; omega) ?_); intro v5 w5 xs5 ho5 hb5; have HO5 := Lib.hid ho5; have HB6 := Lib.hid hb5; clear ho5 hb5)
    have hz5 := HB6.out.size
    rw [HZ4.out] at hz5
    have hbx5 := (HB6.out.block B (by omega)).trans HBX.out
    obtain ⟨⟨q0, q1, q2, q3⟩, _⟩ := cells4 hbx5
    obtain ⟨E, hE5⟩ : ∃ E, w5.heap.size = E := ⟨_, rfl⟩
    obtain ⟨w6, hw6⟩ : ∃ w6, w5.alloc (.cells #[.int .u64 (n : Int), .int .u64 (rf : Int)] 22) = w6 := ⟨_, rfl⟩
    have hz6 : w6.heap.size = E + 1 := by rw [← hw6]; simp [hE5]
    have hr6 : w6.heap[E]? = some (.cells #[.int .u64 (n : Int), .int .u64 (rf : Int)] 22 (0, 0)) := by rw [← hw6, ← hE5]; exact heap_alloc_new _ _
    have HB7 : Hid (Below E w5 w6) := Lib.hid (by rw [← hw6, ← hE5]; exact (Below.refl _ _).alloc (Nat.le_refl _) _)
    have HB8 : Hid (Below B w w6) := Lib.hid ((HB5.out.trans (HB6.out.mono (by omega))).trans (HB7.out.mono (by rw [← hE5]; omega)))
    have hv6 : VarsOk w6 := HV.out.on HB8.out (by rw [HBQ.out]; exact Nat.le_refl _)
    have HSEG2 := Lib.hid (segment_any ⟨#[85, 78, 90]⟩ [n, rf] E 0 2 w6 hv6 (by simp) (by simp; omega) (by simp) (by decide) (fun i u hu => by
      match i, hu with
      | 0, hu => simp at hu; subst hu; exact cell_of_row w6 E 0 _ _ _ hr6
      | 1, hu => simp at hu; subst hu; exact cell_of_row w6 E 1 _ _ _ hr6
      | i + 2, hu => simp at hu))
    have HZ6 := Lib.hid hz6
    have HW6 := Lib.hid hw6
    have HE5 := Lib.hid hE5
    rw [hE5] at hz5
    obtain ⟨sa, sc, rfl⟩ := own_slice HO5.out.row
    clear hw6 hz6 hr6 hv6 hE5 d0 d1 d2 d3 hbx5
    go_wp2_with (first
      | (go_at_call 96; rw [HW6.out, HE5.out]; refine HSEG2.out.mono ?_; rintro e w7 ⟨ev2, rfl, he2, hb7⟩; rw [HZ6.out] at he2 hb7; have HEV2 := Lib.hid he2; have HB9 := Lib.hid hb7; clear he2 hb7;
          have hz7 := HB9.out.size; rw [HZ6.out] at hz7;
          have HSG7 : Hid (SegsAt (fun k => (E ≤ k ∧ k < w7.heap.size) ∨ k = w7.heap.size) (w7.alloc (.cells #[.string ⟨#[85, 78, 90]⟩, ev2] 94)) (.slice (some ⟨w7.heap.size, 0, none⟩) 1 1) [⟨unz, nums [n, rf]⟩]) := Lib.hid (segs_one rfl (HEV2.out.cong (fun k hk => ⟨by omega, hk.2⟩) (fun _ _ => rfl)) (fun k hk => hk.2));
          have HB10 : Hid (Below E w5 (w7.alloc (.cells #[.string ⟨#[85, 78, 90]⟩, ev2] 94))) := Lib.hid ((HB7.out.trans (HB9.out.mono (by omega))).trans ((Below.refl _ _).alloc (by omega) _));
          have HO7 : Hid (OG (B + 2) (w7.alloc (.cells #[.string ⟨#[85, 78, 90]⟩, ev2] 94)) (.slice sa ([⟨unb, nums [fr, dst, rf]⟩] ++ m : List Seg).length sc) xs5 ([⟨unb, nums [fr, dst, rf]⟩] ++ m)) := Lib.hid (HO5.out.below (by rw [HE5.out]; exact HB10.out)))
      | ((with_reducible refine wpList_at (.call { callee := .builtin .append, args := #[.tmp 34, .tmp 43], argTypes := #[39, 39] }) rfl ?_); go_loud (refine wp_app_og _ _ rfl rfl rfl rfl HO7.out HSG7.out (fun k hk => ⟨by simp; omega, fun e => by have h1 := (own_lt HO5.out.row e).2; rw [HE5.out] at h1; rcases hk with hk | hk <;> omega⟩) (by simp [HN.out]; omega) (by simp; omega) ?_); intro v8 w8 xs8 ho8 hb8; have HO8 := Lib.hid ho8; have HB11 := Lib.hid hb8; clear ho8 hb8)
      | (go_at_call 97; refine (print_any w8 v8 _ (HO8.out.rest) HT.out).mono ?_; rintro e w9 ⟨rfl, hb9⟩; have HB12 := Lib.hid hb9; clear hb9))
    go_ret2
    rw [HE.out]
    have hz8 := HB11.out.size
    simp only [World.size_alloc] at hz8
    exact ⟨rfl, (((HB5.out.trans (HB6.out.mono (by omega))).trans (HB10.out.mono (by omega))).trans (HB11.out.mono (by omega))).trans (HB12.out.mono (by omega))⟩
end Go.Proofs.YtgfijlamhjjecaaGreatDoor


namespace Go.Proofs.YtgfijlamhjjecaaGreatDoor
open Go.RowKit
def wsameB (a b : WD) : Bool := decide (a.fr = b.fr) && (decide (a.dst = b.dst) && (decide (a.rf = b.rf) && sameB a.segs b.segs))
theorem wsame_iff {a b : WD} : wsameB a b = true ↔ a = b := by
  obtain ⟨a1, a2, a3, a4⟩ := a
  obtain ⟨b1, b2, b3, b4⟩ := b
  unfold wsameB sameB
  simp
def WSameQ (b : Bool) (w : World) (e : Ending) (w' : World) : Prop := e = .returned (.bool b) ∧ Below w.heap.size w w'
theorem WSameQ.no {a b : WD} {w w' : World} (h : a ≠ b) (hb : Below w.heap.size w w') : WSameQ (wsameB a b) w (.returned (.bool false)) w' :=
  ⟨ret_bool (by cases hc : wsameB a b with
    | true => exact absurd (wsame_iff.1 hc) h
    | false => rfl), hb⟩
end Go.Proofs.YtgfijlamhjjecaaGreatDoor


namespace Go.Proofs.YtgfijlamhjjecaaGreatDoor
open Go.RowKit
def WTQ (t : Str) (k : Int) (w : World) (e : Ending) (w' : World) : Prop := e = .returned (.tuple #[sv t, .int .i64 k]) ∧ Below w.heap.size w w'
theorem int_same (n : Int) : (n == n) = true := by simp
end Go.Proofs.YtgfijlamhjjecaaGreatDoor


namespace Go.Proofs.YtgfijlamhjjecaaGreatDoor
open Go.Lib Go.RowKit Go.ChangeShapes Go.WideShapes Go.ChangeAt Go.WideElems
section
variable {H : Type} {enc : TypeId × Value → H} {W : World}
theorem array16 {α : Type} {cs : Array α} (h : cs.size = 16) : ∃ c0 c1 c2 c3 c4 c5 c6 c7 c8 c9 c10 c11 c12 c13 c14 c15, cs = #[c0, c1, c2, c3, c4, c5, c6, c7, c8, c9, c10, c11, c12, c13, c14, c15] := by
  obtain ⟨l⟩ := cs
  match l, h with
  | [c0, c1, c2, c3, c4, c5, c6, c7, c8, c9, c10, c11, c12, c13, c14, c15], _ => exact ⟨c0, c1, c2, c3, c4, c5, c6, c7, c8, c9, c10, c11, c12, c13, c14, c15, rfl⟩
set_option maxRecDepth 100000 in
set_option maxHeartbeats 4000000 in
theorem pkt_of_trod {r : Reach} {b0 : Nat} {base : Nat} {spare : Nat → Bool} {held : Bool} {v0 : Value} {d0 : DataW H} {p0 : List MemPlace} (hv : Value.okWide Tryz.prog W r b0 38 v0) (h : DataW.Trod enc Tryz.prog W base spare held 38 v0 d0 p0) :
    ∃ p : PD, v0 = .agg (pktA p).toArray ∧ okPD p := by
  have hcpacket : Tryz.prog.cellsOf 38 = 16 := by kernel_rfl
  have hcmessage : Tryz.prog.cellsOf 36 = 12 := by kernel_rfl
  have hckey : Tryz.prog.cellsOf 26 = 3 := by kernel_rfl
  have hcticket : Tryz.prog.cellsOf 24 = 2 := by kernel_rfl
  have hccoupon : Tryz.prog.cellsOf 33 = 6 := by kernel_rfl
  have hcleg : Tryz.prog.cellsOf 30 = 3 := by kernel_rfl
  have hcu8 : Tryz.prog.cellsOf 5 = 1 := by kernel_rfl
  have hcu16 : Tryz.prog.cellsOf 27 = 1 := by kernel_rfl
  have hcu32 : Tryz.prog.cellsOf 28 = 1 := by kernel_rfl
  have hcu64 : Tryz.prog.cellsOf 22 = 1 := by kernel_rfl
  have hci64 : Tryz.prog.cellsOf 2 = 1 := by kernel_rfl
  have hcbool : Tryz.prog.cellsOf 4 = 1 := by kernel_rfl
  have hcstatus : Tryz.prog.cellsOf 31 = 1 := by kernel_rfl
  have hcerrno : Tryz.prog.cellsOf 34 = 1 := by kernel_rfl
  obtain ⟨cs, rfl, hsz⟩ := okWide_struct Tryz.underlying38 hv
  obtain ⟨c0, c1, c2, c3, c4, c5, c6, c7, c8, c9, c10, c11, c12, c13, c14, c15, rfl⟩ := array16 (hsz.trans hcpacket)
  obtain ⟨fuel, hy⟩ := h
  obtain ⟨ys, m, _, _, _, hl, hf⟩ := Go.DataW.trod_struct Tryz.underlying38 hy
  match ys, hl with
  | [y_0, y_1, y_2, y_3, y_4], _ =>
  have hy_0 := hf 0 _ rfl
  have hy_1 := hf 1 _ rfl
  have hy_2 := hf 2 _ rfl
  have hy_3 := hf 3 _ rfl
  have hy_4 := hf 4 _ rfl
  simp [hcmessage, hcu8, hcu64, hcbool] at hy_0 hy_1 hy_2 hy_3 hy_4
  obtain ⟨x_fr, e_fr, rfl, s_fr⟩ := Go.DataW.trod_int Tryz.underlying5 hy_0
  obtain ⟨x_dst, e_dst, rfl, s_dst⟩ := Go.DataW.trod_int Tryz.underlying5 hy_1
  obtain ⟨x_ack, e_ack, rfl⟩ := Go.DataW.trod_bool Tryz.underlying4 hy_2
  obtain ⟨x_num, e_num, rfl, s_num⟩ := Go.DataW.trod_int Tryz.underlying22 hy_3
  obtain ⟨ys_4, m_4, _, _, _, hl_4, hf_4⟩ := Go.DataW.trod_struct Tryz.underlying36 hy_4
  match ys_4, hl_4 with
  | [y_4_0, y_4_1, y_4_2, y_4_3, y_4_4], _ =>
  have hy_4_0 := hf_4 0 _ rfl
  have hy_4_1 := hf_4 1 _ rfl
  have hy_4_2 := hf_4 2 _ rfl
  have hy_4_3 := hf_4 3 _ rfl
  have hy_4_4 := hf_4 4 _ rfl
  simp [hckey, hccoupon, hcu8, hci64, hcerrno] at hy_4_0 hy_4_1 hy_4_2 hy_4_3 hy_4_4
  obtain ⟨x_kind, e_kind, rfl, s_kind⟩ := Go.DataW.trod_int Tryz.underlying5 hy_4_0
  obtain ⟨ys_4_1, m_4_1, _, _, _, hl_4_1, hf_4_1⟩ := Go.DataW.trod_struct Tryz.underlying26 hy_4_1
  match ys_4_1, hl_4_1 with
  | [y_4_1_0, y_4_1_1], _ =>
  have hy_4_1_0 := hf_4_1 0 _ rfl
  have hy_4_1_1 := hf_4_1 1 _ rfl
  simp [hcticket, hcu8] at hy_4_1_0 hy_4_1_1
  obtain ⟨ys_4_1_0, m_4_1_0, _, _, _, hl_4_1_0, hf_4_1_0⟩ := Go.DataW.trod_struct Tryz.underlying24 hy_4_1_0
  match ys_4_1_0, hl_4_1_0 with
  | [y_4_1_0_0, y_4_1_0_1], _ =>
  have hy_4_1_0_0 := hf_4_1_0 0 _ rfl
  have hy_4_1_0_1 := hf_4_1_0 1 _ rfl
  simp [hcu8, hcu64] at hy_4_1_0_0 hy_4_1_0_1
  obtain ⟨x_tc, e_tc, rfl, s_tc⟩ := Go.DataW.trod_int Tryz.underlying5 hy_4_1_0_0
  obtain ⟨x_ts, e_ts, rfl, s_ts⟩ := Go.DataW.trod_int Tryz.underlying22 hy_4_1_0_1
  obtain ⟨x_pl, e_pl, rfl, s_pl⟩ := Go.DataW.trod_int Tryz.underlying5 hy_4_1_1
  obtain ⟨ys_4_2, m_4_2, _, _, _, hl_4_2, hf_4_2⟩ := Go.DataW.trod_struct Tryz.underlying33 hy_4_2
  match ys_4_2, hl_4_2 with
  | [y_4_2_0, y_4_2_1, y_4_2_2, y_4_2_3], _ =>
  have hy_4_2_0 := hf_4_2 0 _ rfl
  have hy_4_2_1 := hf_4_2 1 _ rfl
  have hy_4_2_2 := hf_4_2 2 _ rfl
  have hy_4_2_3 := hf_4_2 3 _ rfl
  simp [hcleg, hcu32, hci64, hcstatus] at hy_4_2_0 hy_4_2_1 hy_4_2_2 hy_4_2_3
  obtain ⟨ys_4_2_0, m_4_2_0, _, _, _, hl_4_2_0, hf_4_2_0⟩ := Go.DataW.trod_struct Tryz.underlying30 hy_4_2_0
  match ys_4_2_0, hl_4_2_0 with
  | [y_4_2_0_0, y_4_2_0_1, y_4_2_0_2], _ =>
  have hy_4_2_0_0 := hf_4_2_0 0 _ rfl
  have hy_4_2_0_1 := hf_4_2_0 1 _ rfl
  have hy_4_2_0_2 := hf_4_2_0 2 _ rfl
  simp [hcu8, hcu16, hcu32] at hy_4_2_0_0 hy_4_2_0_1 hy_4_2_0_2
  obtain ⟨x_car, e_car, rfl, s_car⟩ := Go.DataW.trod_int Tryz.underlying5 hy_4_2_0_0
  obtain ⟨x_fl, e_fl, rfl, s_fl⟩ := Go.DataW.trod_int Tryz.underlying27 hy_4_2_0_1
  obtain ⟨x_we, e_we, rfl, s_we⟩ := Go.DataW.trod_int Tryz.underlying28 hy_4_2_0_2
  obtain ⟨x_va, e_va, rfl, s_va⟩ := Go.DataW.trod_int Tryz.underlying2 hy_4_2_1
  obtain ⟨x_st, e_st, rfl, s_st⟩ := Go.DataW.trod_int Tryz.underlying31 hy_4_2_2
  obtain ⟨x_no, e_no, rfl, s_no⟩ := Go.DataW.trod_int Tryz.underlying28 hy_4_2_3
  obtain ⟨x_am, e_am, rfl, s_am⟩ := Go.DataW.trod_int Tryz.underlying2 hy_4_3
  obtain ⟨x_co, e_co, rfl, s_co⟩ := Go.DataW.trod_int Tryz.underlying34 hy_4_4
  simp [Value.cells] at e_fr e_dst e_ack e_num e_kind e_tc e_ts e_pl e_car e_fl e_we e_va e_st e_no e_am e_co
  subst e_fr e_dst e_ack e_num e_kind e_tc e_ts e_pl e_car e_fl e_we e_va e_st e_no e_am e_co
  have r_fr : (0 : Int) ≤ x_fr ∧ x_fr ≤ 255 := (Lit.wf_int_iff _ _).1 s_fr
  have r_dst : (0 : Int) ≤ x_dst ∧ x_dst ≤ 255 := (Lit.wf_int_iff _ _).1 s_dst
  have r_num : (0 : Int) ≤ x_num ∧ x_num ≤ 18446744073709551615 := (Lit.wf_int_iff _ _).1 s_num
  have r_kind : (0 : Int) ≤ x_kind ∧ x_kind ≤ 255 := (Lit.wf_int_iff _ _).1 s_kind
  have r_tc : (0 : Int) ≤ x_tc ∧ x_tc ≤ 255 := (Lit.wf_int_iff _ _).1 s_tc
  have r_ts : (0 : Int) ≤ x_ts ∧ x_ts ≤ 18446744073709551615 := (Lit.wf_int_iff _ _).1 s_ts
  have r_pl : (0 : Int) ≤ x_pl ∧ x_pl ≤ 255 := (Lit.wf_int_iff _ _).1 s_pl
  have r_car : (0 : Int) ≤ x_car ∧ x_car ≤ 255 := (Lit.wf_int_iff _ _).1 s_car
  have r_fl : (0 : Int) ≤ x_fl ∧ x_fl ≤ 65535 := (Lit.wf_int_iff _ _).1 s_fl
  have r_we : (0 : Int) ≤ x_we ∧ x_we ≤ 4294967295 := (Lit.wf_int_iff _ _).1 s_we
  have r_va : (-9223372036854775808 : Int) ≤ x_va ∧ x_va ≤ 9223372036854775807 := (Lit.wf_int_iff _ _).1 s_va
  have r_st : (0 : Int) ≤ x_st ∧ x_st ≤ 255 := (Lit.wf_int_iff _ _).1 s_st
  have r_no : (0 : Int) ≤ x_no ∧ x_no ≤ 4294967295 := (Lit.wf_int_iff _ _).1 s_no
  have r_am : (-9223372036854775808 : Int) ≤ x_am ∧ x_am ≤ 9223372036854775807 := (Lit.wf_int_iff _ _).1 s_am
  have r_co : (-9223372036854775808 : Int) ≤ x_co ∧ x_co ≤ 9223372036854775807 := (Lit.wf_int_iff _ _).1 s_co
  refine ⟨⟨x_fr.toNat, x_dst.toNat, x_ack, x_num.toNat, ⟨x_kind.toNat, x_tc.toNat, x_ts.toNat, x_pl.toNat, ⟨x_car.toNat, x_fl.toNat, x_we.toNat, x_va, x_st.toNat, x_no.toNat⟩, x_am, x_co⟩⟩, ?_, ⟨by simp only; omega, by simp only; omega, by simp only; omega, ⟨by simp only; omega, by simp only; omega, by simp only; omega, by simp only; omega, by simp only; omega, by simp only; omega, by simp only; omega, r_va, by simp only; omega, by simp only; omega, r_am, r_co⟩⟩⟩
  unfold pktA msgA
  simp only [List.cons_append, List.nil_append]
  rw [Int.toNat_of_nonneg r_fr.1, Int.toNat_of_nonneg r_dst.1, Int.toNat_of_nonneg r_num.1, Int.toNat_of_nonneg r_kind.1, Int.toNat_of_nonneg r_tc.1, Int.toNat_of_nonneg r_ts.1, Int.toNat_of_nonneg r_pl.1, Int.toNat_of_nonneg r_car.1, Int.toNat_of_nonneg r_fl.1, Int.toNat_of_nonneg r_we.1, Int.toNat_of_nonneg r_st.1, Int.toNat_of_nonneg r_no.1]
end
end Go.Proofs.YtgfijlamhjjecaaGreatDoor

