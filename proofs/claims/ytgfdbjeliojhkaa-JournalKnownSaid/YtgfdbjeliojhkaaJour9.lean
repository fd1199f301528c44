/-
  Jour9: contract of Records. No condition beyond those stated.
-/
import Derived.Test.YtgfdbjeliojhkaaJour8
import Derived.Lib.SmallJoins
import Derived.Maps.AppendAt
namespace Go.Proofs.Ytgfdbjeliojhkaa
open Go.RowKit Go.Shelf
attribute [local go_sem] Oper.semAt_some

theorem jrecords_in (n : Nat) (ao : Option Addr) (m c : Nat) (w : World) :
    CallsIn Fence.wide n Try.prog 39 #[.slice ao m c] w fun e w' => e = .returned (.func (.func 49) #[] #[.pointer (some ⟨w.heap.size, 0, none⟩)]) ∧ w' = w.alloc (.cells #[.slice ao m c] 31) := by
  refine callsIn_wide.2 ?_
  go_enter Try.func39, Try.ntmps39
  go_wp2
  go_ret
  exact ⟨rfl, rfl⟩
/-- a slice value that reads as these lists of bytes -/
def BytessAt (w : World) (v : Value) (l : List (List UInt8)) : Prop :=
  ∃ ao cap, v = .slice ao l.length cap ∧ l.length ≤ cap ∧ cap ≤ maxLen ∧ (l ≠ [] → ∃ b off, ao = some ⟨b, off, none⟩ ∧ ∀ i r, l[i]? = some r → ∃ u, w.cell? ⟨b, off + i, none⟩ = some u ∧ BytesAt w u r.length (lsec r))
/-- likewise; each in memory of its own, from B on -/
def BytessN (B : Nat) (w : World) (v : Value) (l : List (List UInt8)) : Prop :=
  ∃ ao cap, v = .slice ao l.length cap ∧ l.length ≤ cap ∧ cap ≤ maxLen ∧ (l ≠ [] → ∃ b, ao = some ⟨b, 0, none⟩ ∧ B ≤ b ∧ (∃ C, w.heap[b]? = some (.cells C 31 (0, 0))) ∧ ∀ i r, l[i]? = some r → ∃ u, w.cell? ⟨b, i, none⟩ = some u ∧ BytesAt w u r.length (lsec r) ∧ ∀ k, u.ownBlock = some k → B ≤ k ∧ ∃ C, w.heap[k]? = some (.cells C 5 (0, 0)))
theorem BytessN.at {B : Nat} {w : World} {v : Value} {l : List (List UInt8)} (h : BytessN B w v l) : BytessAt w v l := by
  obtain ⟨ao, cap, rfl, h1, h2, h3⟩ := h
  refine ⟨ao, cap, rfl, h1, h2, fun hl => ?_⟩
  obtain ⟨b, rfl, _, _, h4⟩ := h3 hl
  exact ⟨b, 0, rfl, fun i r hi => by obtain ⟨u, h5, h6, _⟩ := h4 i r hi; exact ⟨u, by rw [Nat.zero_add]; exact h5, h6⟩⟩
/-- what has been collected -/
structure OutR (B ob : Nat) (pre : List (Value × List UInt8)) (X : World) : Prop where
  ex : ∃ ov, X.heap[ob]? = some (.cells #[ov] 29 (0, 0)) ∧ X.ownsRow B 31 1 ov pre.length (pre.map Prod.fst) ∧
    ∀ p ∈ pre, BytesAt X p.1 p.2.length (lsec p.2) ∧ ∀ k, p.1.ownBlock = some k → B ≤ k ∧ ∃ C, X.heap[k]? = some (.cells C 5 (0, 0))
theorem BytesAt.cong {w w' : World} {v : Value} {m : Nat} {f : Sec} (h : BytesAt w v m f) (e : ∀ k, k < w.heap.size → v.ownBlock = some k → w'.heap[k]? = w.heap[k]?) : BytesAt w' v m f := by
  obtain ⟨ao, cap, rfl, h1, h2, h3, h4⟩ := h
  refine ⟨ao, cap, rfl, h1, h2, h3, fun hm => ?_⟩
  obtain ⟨b, off, rfl, hr⟩ := h4 hm
  exact ⟨b, off, rfl, rangeAt_congr hr (e b (rangeAt_lt hr hm) rfl)⟩
theorem ownsRow_cong {w w' : World} {B : Nat} {e : TypeId} {s n : Nat} {v : Value} {xs : List Value} (h : w.ownsRow B e s v n xs) (he : ∀ k, v.ownBlock = some k → w'.heap[k]? = w.heap[k]?) : w'.ownsRow B e s v n xs := by
  obtain ⟨h1, h2 | ⟨g, cap, cur, rfl, h3, h4, h5⟩⟩ := h
  · exact ⟨h1, .inl h2⟩
  · exact ⟨h1, .inr ⟨g, cap, cur, rfl, h3, (he g rfl).trans h4, h5⟩⟩
theorem OutR.fr {B ob : Nat} {pre : List (Value × List UInt8)} {X Y : World} {F : List Nat} (h : OutR B ob pre X) (hf : Fr F X Y) (hF : ∀ k ∈ F, k < B ∧ k ≠ ob) : OutR B ob pre Y := by
  obtain ⟨ov, h1, h2, h4⟩ := h.ex
  refine ⟨ov, (hf.block ob (Array.getElem?_eq_some_iff.1 h1).1 (fun hm => (hF ob hm).2 rfl)).trans h1, ownsRow_cong h2 (fun k hk => hf.block k (h2.lt k hk).2 (fun hm => by have := (hF k hm).1; have := (h2.lt k hk).1; omega)), fun p hp => ?_⟩
  obtain ⟨h5, h6⟩ := h4 p hp
  refine ⟨h5.cong (fun k hk hok => hf.block k hk (fun hm => by have := (hF k hm).1; have := (h6 k hok).1; omega)), fun k hk => ?_⟩
  obtain ⟨h7, C, h8⟩ := h6 k hk
  exact ⟨h7, C, (hf.block k (Array.getElem?_eq_some_iff.1 h8).1 (fun hm => by have := (hF k hm).1; omega)).trans h8⟩
/-- a row of slices is no row of bytes -/
theorem own_ne {w : World} {B n k : Nat} {v : Value} {xs : List Value} {C : Array Value} (h : w.ownsRow B 31 1 v n xs) (hk : w.heap[k]? = some (.cells C 5 (0, 0))) : v.ownBlock ≠ some k := by
  intro e
  obtain ⟨_, ⟨rfl, _⟩ | ⟨g, cp, cur, rfl, hg, hh, _⟩⟩ := h
  · simp [Value.ownBlock] at e
  · simp [Value.ownBlock] at e
    subst e
    rw [hh] at hk
    have h2 := Option.some.inj hk
    injection h2 with h3 h4
    exact absurd h4 (by decide)
/-- one more is appended -/
theorem OutR.snoc {B ob : Nat} {pre : List (Value × List UInt8)} {X Y : World} {v : Value} {r : List UInt8} {o : Obj} {ov : Value} (h : OutR B ob pre X) (hB : B ≤ X.heap.size) (hob : ob < B) (hov : X.heap[ob]? = some (.cells #[ov] 29 (0, 0))) (hrow : X.ownsRow B 31 1 ov pre.length (pre.map Prod.fst))
    (hv : BytesAt X v r.length (lsec r)) (hk : ∀ k, v.ownBlock = some k → B ≤ k ∧ ∃ C, X.heap[k]? = some (.cells C 5 (0, 0))) (hg : (X.alloc o).grownBy Y ov.ownBlock) {v' : Value} (hrow' : Y.ownsRow B 31 1 v' (pre.length + 1) (pre.map Prod.fst ++ [v])) :
    OutR B ob (pre ++ [(v, r)]) (Y.setCell ⟨ob, 0, none⟩ v') ∧ FrB B [ob] X (Y.setCell ⟨ob, 0, none⟩ v') := by
  have hobX : ob < X.heap.size := by omega
  have key : ∀ k, k < X.heap.size → ov.ownBlock ≠ some k → k ≠ ob → (Y.setCell ⟨ob, 0, none⟩ v').heap[k]? = X.heap[k]? := fun k hk1 hk2 hk3 =>
    (heap_setCell_other Y _ _ _ hk3).trans ((hg.block k (by simp; omega) (fun e => hk2 e.symm)).trans (Below.heap_alloc _ _ _ hk1))
  have hYob : Y.heap[ob]? = some (.cells #[ov] 29 (0, 0)) := (hg.block ob (by simp; omega) (fun e => by have := (hrow.lt ob e.symm).1; omega)).trans ((Below.heap_alloc _ _ _ hobX).trans hov)
  have el : ∀ (u : Value) (q : List UInt8), BytesAt X u q.length (lsec q) → (∀ k, u.ownBlock = some k → B ≤ k ∧ ∃ C, X.heap[k]? = some (.cells C 5 (0, 0))) →
      BytesAt (Y.setCell ⟨ob, 0, none⟩ v') u q.length (lsec q) ∧ ∀ k, u.ownBlock = some k → B ≤ k ∧ ∃ C, (Y.setCell ⟨ob, 0, none⟩ v').heap[k]? = some (.cells C 5 (0, 0)) := fun u q h1 h2 => by
    refine ⟨h1.cong (fun k hk1 hok => ?_), fun k hok => ?_⟩
    · obtain ⟨h3, C, h4⟩ := h2 k hok
      exact key k hk1 (own_ne hrow h4) (by omega)
    · obtain ⟨h3, C, h4⟩ := h2 k hok
      exact ⟨h3, C, (key k (Array.getElem?_eq_some_iff.1 h4).1 (own_ne hrow h4) (by omega)).trans h4⟩
  obtain ⟨_, _, _, h4⟩ := h.ex
  refine ⟨⟨v', ?_, ?_, fun p hp => ?_⟩, ?_⟩
  · exact (heap_setCell_same Y ob 0 _ _ v' hYob).trans (by simp)
  · rw [List.length_append, List.map_append]
    exact ownsRow_cong hrow' (fun k hk => heap_setCell_other Y _ _ _ (fun e => by have := (hrow'.lt k hk).1; have e' : k = ob := e; omega))
  · rcases List.mem_append.1 hp with hp | hp
    · obtain ⟨h5, h6⟩ := h4 p hp
      exact el p.1 p.2 h5 h6
    · obtain rfl : p = (v, r) := by simpa using hp
      exact el v r hv hk
  · refine ⟨hg.os, hg.tape, hg.output, ?_, fun k hk1 hn => key k (by omega) (fun e => by have := (hrow.lt k e).1; omega) (by simpa using hn)⟩
    have h1 := hg.size
    have h2 := (Fr.setCell (F := [ob]) Y (a := ⟨ob, 0, none⟩) (by simp) v').size
    simp at h1
    omega
theorem OutR.nil {B ob : Nat} {X : World} (h : X.heap[ob]? = some (.cells #[.slice none 0 0] 29 (0, 0))) : OutR B ob [] X := ⟨_, h, World.ownsRow_nil _ _ _ _, fun p hp => by cases hp⟩
theorem putObj_frB {B l : Nat} {F : List Nat} (hl : l ∈ F) (W : World) (o : Obj) : FrB B F W (W.putObj l o) :=
  ⟨rfl, rfl, rfl, by rw [putObj_size]; exact Nat.le_refl _, fun k _ hn => putObj_other (fun e => hn (by rw [e]; exact hl)) o⟩
theorem putObj_fr {l : Nat} {F : List Nat} (hl : l ∈ F) (W : World) (o : Obj) : Fr F W (W.putObj l o) :=
  ⟨rfl, rfl, rfl, by rw [putObj_size]; exact Nat.le_refl _, fun k _ hn => putObj_other (fun e => hn (by rw [e]; exact hl)) o⟩
theorem bytess_of {B n : Nat} {X : World} {ov : Value} {pre : List (Value × List UInt8)} (hn : n = pre.length) (h2 : X.ownsRow B 31 1 ov n (pre.map Prod.fst)) (h4 : ∀ p ∈ pre, BytesAt X p.1 p.2.length (lsec p.2)) : BytessAt X ov (pre.map Prod.snd) := by
  subst hn
  obtain ⟨hl, ⟨rfl, h0⟩ | ⟨g, cap, cur, rfl, hg, hh, hc, hm, hs, hx⟩⟩ := h2
  · have : pre = [] := List.length_eq_zero_iff.1 h0
    subst this
    exact ⟨none, 0, rfl, Nat.le_refl _, Nat.zero_le _, fun h => absurd rfl h⟩
  · refine ⟨some ⟨g, 0, none⟩, cap, by rw [List.length_map], by rw [List.length_map]; exact hc, hm, fun _ => ⟨g, 0, rfl, fun i r hi => ?_⟩⟩
    rw [List.getElem?_map] at hi
    obtain ⟨p, hp, rfl⟩ := Option.map_eq_some_iff.1 hi
    have hlt : i < pre.length := (List.getElem?_eq_some_iff.1 hp).1
    refine ⟨p.1, ?_, h4 p (List.mem_of_getElem? hp)⟩
    rw [cell_of_row X g (0 + i) _ _ _ hh, Nat.zero_add]
    have e := congrArg (fun l => l[i]?) hx
    simp only [Nat.mul_one, List.getElem?_take_of_lt hlt, List.getElem?_map, hp, Option.map_some] at e
    simpa using e
theorem bytessN_of {B n : Nat} {X : World} {ov : Value} {pre : List (Value × List UInt8)} (hn : n = pre.length) (h2 : X.ownsRow B 31 1 ov n (pre.map Prod.fst)) (h4 : ∀ p ∈ pre, BytesAt X p.1 p.2.length (lsec p.2) ∧ ∀ k, p.1.ownBlock = some k → B ≤ k ∧ ∃ C, X.heap[k]? = some (.cells C 5 (0, 0))) : BytessN B X ov (pre.map Prod.snd) := by
  subst hn
  obtain ⟨hl, ⟨rfl, h0⟩ | ⟨g, cap, cur, rfl, hg, hh, hc, hm, hs, hx⟩⟩ := h2
  · have : pre = [] := List.length_eq_zero_iff.1 h0
    subst this
    exact ⟨none, 0, rfl, Nat.le_refl _, Nat.zero_le _, fun h => absurd rfl h⟩
  · refine ⟨some ⟨g, 0, none⟩, cap, by rw [List.length_map], by rw [List.length_map]; exact hc, hm, fun _ => ⟨g, rfl, hg, ⟨_, hh⟩, fun i r hi => ?_⟩⟩
    rw [List.getElem?_map] at hi
    obtain ⟨p, hp, rfl⟩ := Option.map_eq_some_iff.1 hi
    have hlt : i < pre.length := (List.getElem?_eq_some_iff.1 hp).1
    refine ⟨p.1, ?_, h4 p (List.mem_of_getElem? hp)⟩
    rw [cell_of_row X g i _ _ _ hh]
    have e := congrArg (fun l => l[i]?) hx
    simp only [Nat.mul_one, List.getElem?_take_of_lt hlt, List.getElem?_map, hp, Option.map_some] at e
    simpa using e
set_option maxRecDepth 100000 in
set_option maxHeartbeats 4000000 in
theorem jrecs_ok {jb : Nat} {pv nv : Value} {db : Bool} {d : List UInt8} {rs : List (List UInt8)} {ao : Option Addr} {cap : Nat} (w : World) (hj : w.heap[jb]? = some (.cells #[pv, nv, .slice ao d.length cap, .bool db] 75 (0, 0)))
    (hb : BytesAt w (.slice ao d.length cap) d.length (lsec d)) (hlen : d.length ≤ 1000000) (hbl : ∀ k, (Value.slice ao d.length cap).ownBlock = some k → k < w.heap.size) (hrs : recs d = some rs) :
    Calls Try.prog 26 #[.pointer (some ⟨jb, 0, none⟩)] w fun e w' => ∃ v, e = .returned v ∧ BytessN w.heap.size w' v rs ∧ Fr [] w w' := by
  have c2 : w.cell? ⟨jb, 2, none⟩ = some (.slice ao d.length cap) := by rw [cell_of_row w jb 2 _ _ _ hj]; rfl
  have hjl : jb < w.heap.size := (Array.getElem?_eq_some_iff.1 hj).1
  have HB := Lib.hid hb
  have HRS := Lib.hid hrs
  have HBL := Lib.hid hbl
  clear hj hb hrs hbl
  refine (callsIn_wide (n := 10)).1 ?_
  refine callsIn_of_wp_marks Try.func26 rfl trivial ?_ rfl
  simp only [Try.ntmps26, List.size_toArray, List.length_cons, List.length_nil, Nat.reduceAdd, Nat.reduceSub, Array.replicate_succ, Array.replicate_zero, List.push_toArray, List.append_toArray, List.nil_append, List.cons_append]
  have hfn : ∀ f, Fence.wide.fn f := fun _ => trivial
  gi_wp2_with (gi_at_call 39; refine (jrecords_in _ _ _ _ _).mono ?_; rintro e w2 ⟨rfl, rfl⟩)
  have o0 : ((w.alloc (.cells #[.slice none 0 0] 29)).alloc (.cells #[.slice ao d.length cap] 31)).heap[w.heap.size]? = some (.cells #[.slice none 0 0] 29 (0, 0)) := (Below.heap_alloc _ _ _ (by simp)).trans (heap_alloc_new _ _)
  have o1 : ((w.alloc (.cells #[.slice none 0 0] 29)).alloc (.cells #[.slice ao d.length cap] 31)).heap[w.heap.size + 1]? = some (.cells #[.slice ao d.length cap] 31 (0, 0)) := by
    have := heap_alloc_new (w.alloc (.cells #[.slice none 0 0] 29)) (.cells #[.slice ao d.length cap] 31)
    simpa using this
  have f0 : Fr [] w ((w.alloc (.cells #[.slice none 0 0] 29)).alloc (.cells #[.slice ao d.length cap] 31)) := (Fr.alloc _ _ _).trans (Fr.alloc _ _ _)
  have s0 : ((w.alloc (.cells #[.slice none 0 0] 29)).alloc (.cells #[.slice ao d.length cap] 31)).heap.size = w.heap.size + 2 := by simp
  obtain ⟨w0, hw0⟩ : ∃ w0, (w.alloc (.cells #[.slice none 0 0] 29)).alloc (.cells #[.slice ao d.length cap] 31) = w0 := ⟨_, rfl⟩
  rw [hw0] at o0 o1 f0 s0 ⊢
  clear hw0 c2
  refine range_open rfl (by omega) (gf := 49) (lb := #[.pointer (some ⟨w.heap.size + 1, 0, none⟩)]) rfl trivial (enters_of Try.func49 (by kernel_rfl) rfl) (fun fn hfn' rc hrc W1 hW1 => ?_)
  have e1 : W1.heap[w0.heap.size + 1]? = some (.loop (rc .ready none)) := by
    have := heap_alloc_new (w0.alloc (.deferred (some []))) (.loop (rc .ready none))
    rw [hW1]; simpa using this
  have e2 : W1.heap[w0.heap.size]? = some (.deferred (some [])) := by rw [hW1]; exact (Below.heap_alloc _ _ _ (by simp)).trans (heap_alloc_new _ _)
  have e3 : Fr [] w0 W1 := by rw [hW1]; exact (Fr.alloc _ _ _).trans (Fr.alloc _ _ _)
  have e4 : W1.heap.size = w.heap.size + 4 := by rw [hW1]; simp [s0]
  have s1 : w0.heap.size ≤ w.heap.size + 2 := by omega
  have s2 : w.heap.size + 2 ≤ w0.heap.size := by omega
  have e5 : W1.heap.size ≤ w.heap.size + 4 := by omega
  have e6 : w.heap.size + 4 ≤ W1.heap.size := by omega
  clear hW1 e4 s0
  have HRC := Lib.hid hrc
  clear hrc
  have f1 : Fr [] w W1 := f0.trans e3
  have q0 := (e3.block _ (by omega) (by simp)).trans o0
  have q1 := (e3.block _ (by omega) (by simp)).trans o1
  refine (records1_in (10 - 1) (by omega) (w0.heap.size + 1) (w.heap.size + 1) [w0.heap.size + 1, w.heap.size] d (.slice ao d.length cap)
    (fun pre X => X.heap[w0.heap.size + 1]? = some (.loop (rc .ready none)) ∧ X.heap[w0.heap.size]? = some (.deferred (some [])) ∧ OutR W1.heap.size w.heap.size pre X) (fun _ => False) (fun _ => False) W1 q1
    (HB.out.fr f1 (by simp)) hlen (fun k hk => by have := HBL.out k hk; simp; omega) (by simp; omega) ?hJ ?hY ?hYf ?h0).mono ?fin
  case hJ =>
    rintro pre X Y ⟨a1, a2, a3⟩ hX hY
    exact ⟨(hY.block _ (Array.getElem?_eq_some_iff.1 a1).1 (by simp; omega)).trans a1, (hY.block _ (Array.getElem?_eq_some_iff.1 a2).1 (by simp; omega)).trans a2, a3.fr hY (by simp; omega)⟩
  case h0 => exact ⟨e1, e2, OutR.nil q0⟩
  case hYf => intro hn; rw [HRS.out] at hn; cases hn
  case hY =>
    rintro pre v r X Z hcnt ⟨a1, a2, a3⟩ hX hXZ hby hblk
    have hlZ := (hXZ.block _ (Array.getElem?_eq_some_iff.1 a1).1 (by simp)).trans a1
    have hDZ := (hXZ.block _ (Array.getElem?_eq_some_iff.1 a2).1 (by simp)).trans a2
    have hlX := (Array.getElem?_eq_some_iff.1 a1).1
    have hOZ : OutR W1.heap.size w.heap.size pre Z := a3.fr hXZ (by simp)
    refine (yield_round HRC.out hfn' rfl hlZ (A := fun W3 => W3.heap[w0.heap.size]? = some (.deferred (some [])) ∧ OutR W1.heap.size w.heap.size (pre ++ [(v, r)]) W3 ∧ FrB W1.heap.size [w0.heap.size + 1, w.heap.size] Z W3) (B := fun _ _ => False) ?_).mono ?_
    · obtain ⟨i0, hi, hz0, hz1, hz2⟩ := info_parts info_bytes
      have hby' := hby
      obtain ⟨vo, vc, rfl, hv1, hv2, hv3, hv4⟩ := hby'
      have HBY := Lib.hid hby
      have HBK := Lib.hid hblk
      have HOZ := Lib.hid hOZ
      have HDZ := Lib.hid hDZ
      have hsX := hX.size
      have hsZ := hXZ.size
      clear hby hblk hOZ hDZ hv4 hv3 a1 a2 a3 hX
      have HLZ := Lib.hid hlZ
      clear hlZ
      gi_wp2
      refine ⟨HLZ.out, ?_⟩
      have hlZ := HLZ.out
      obtain ⟨ov, b1, b2, b4⟩ := HOZ.out.ex
      have hlt := (Array.getElem?_eq_some_iff.1 hlZ).1
      have k1 : (Z.putObj (w0.heap.size + 1) (.loop (rc .busy none))).heap[w0.heap.size + 1]? = some (.loop (rc .busy none)) := putObj_same hlt _
      have k2 := (putObj_other (w := Z) (g := w0.heap.size + 1) (k := w0.heap.size) (by omega) (.loop (rc .busy none))).trans HDZ.out
      have k3 := (putObj_other (w := Z) (g := w0.heap.size + 1) (k := w.heap.size) (by omega) (.loop (rc .busy none))).trans b1
      have k4 : (Z.putObj (w0.heap.size + 1) (.loop (rc .busy none))).ownsRow W1.heap.size 31 1 ov pre.length (pre.map Prod.fst) := ownsRow_cong b2 (fun k hk => putObj_other (by have := (b2.lt k hk).1; omega) _)
      have k5 : FrB W1.heap.size [w0.heap.size + 1, w.heap.size] Z (Z.putObj (w0.heap.size + 1) (.loop (rc .busy none))) := putObj_frB (by simp) _ _
      have k6 : Fr [w0.heap.size + 1] Z (Z.putObj (w0.heap.size + 1) (.loop (rc .busy none))) := putObj_fr (by simp) _ _
      have k7 : (Z.putObj (w0.heap.size + 1) (.loop (rc .busy none))).heap.size ≤ Z.heap.size ∧ Z.heap.size ≤ (Z.putObj (w0.heap.size + 1) (.loop (rc .busy none))).heap.size := by rw [putObj_size]; exact ⟨Nat.le_refl _, Nat.le_refl _⟩
      obtain ⟨Zb, hZb⟩ : ∃ Zb, Z.putObj (w0.heap.size + 1) (.loop (rc .busy none)) = Zb := ⟨_, rfl⟩
      rw [hZb] at k1 k2 k3 k4 k5 k6 k7 ⊢
      have cb : Zb.cell? ⟨w.heap.size, 0, none⟩ = some ov := by rw [cell_of_row Zb w.heap.size 0 _ _ _ k3]; rfl
      have fb := frozen_of_row Zb w.heap.size 0 _ _ k3
      have K1 := Lib.hid k1
      have K2 := Lib.hid k2
      have K3 := Lib.hid k3
      have K4 := Lib.hid k4
      have K5 := Lib.hid k5
      have K6 := Lib.hid k6
      have hbW : w.heap.size < Zb.heap.size := (Array.getElem?_eq_some_iff.1 k3).1
      clear hZb k1 k2 k3 k4 k5 k6 b1 b2 hlZ hv1
      gi_wp2_with (gi_at_builtin; refine wpListIn_append_own _ rfl _ _ 29 rfl W1.heap.size 31 i0 (.slice none 0 0) 1 24 Try.underlying29 hi hz0 hz1 hz2 rfl (by decide) _ _ _ rfl (K4.out.alloc _) ⟨Zb.heap.size, 0, none⟩ 1 1 [.slice vo r.length vc] rfl rfl (cell_one_new _ _ _) (by simp [Value.oneCell']) (by unfold maxLen; omega) (by omega) (by simp; omega) ?_; intro ov' w1 hown' hgrow _; obtain ⟨g', cap', rfl⟩ := ownsRow_succ hown'; have hob := (hgrow.block w.heap.size (by simp; omega) (fun e => by have := (K4.out.lt _ e.symm).1; omega)).trans ((Below.heap_alloc _ _ _ hbW).trans K3.out); have c9 : w1.cell? ⟨w.heap.size, 0, none⟩ = some ov := (by rw [cell_of_row w1 w.heap.size 0 _ _ _ hob]; rfl); have f9 := frozen_of_row w1 w.heap.size 0 _ _ hob; have HOB := Lib.hid hob; clear hob)
      have hOb : OutR W1.heap.size w.heap.size pre Zb := HOZ.out.fr K6.out (by simp; omega)
      obtain ⟨f1', f2'⟩ := hOb.snoc (by omega) (by omega) K3.out K4.out (HBY.out.fr K6.out (by simp; intro k hk e; have := (HBK.out k hk).1; omega)) (fun k hk => by
        obtain ⟨h1, C, h2⟩ := HBK.out k hk
        exact ⟨by omega, C, (K6.out.block k (Array.getElem?_eq_some_iff.1 h2).1 (by simp; omega)).trans h2⟩) hgrow hown'
      exact ⟨(f2'.block _ (by omega) (by simp; omega)).trans K1.out, (f2'.block _ (by omega) (by simp; omega)).trans K2.out, f1', K5.out.trans ⟨f2'.os, f2'.tape, f2'.output, f2'.size, fun k h1 h2 => f2'.block k h1 (fun hm => h2 (by simp at hm; simp [hm]))⟩⟩
    · rintro e W' (⟨rfl, W3, rfl, hl3, hA1, hA2, hA3⟩ | ⟨rfl, c, W3, rfl, hl3, hB⟩)
      · have hl3' := (Array.getElem?_eq_some_iff.1 hl3).1
        refine .inl ⟨rfl, ⟨putObj_same hl3' _, (putObj_other (by omega) _).trans hA1, hA2.fr (putObj_fr (F := [w0.heap.size + 1]) (by simp) _ _) (by simp; omega)⟩, hA3.trans (putObj_frB (by simp) _ _)⟩
      · exact hB.elim
  case fin =>
    rintro e W2 ⟨⟨v, rfl⟩, ⟨pre, hp, ⟨a1, a2, a3⟩, hX2⟩ | ⟨_, h⟩ | h⟩
    · refine ⟨v, rfl, .inl ⟨a1, ?_⟩⟩
      have hsz : W1.heap.size ≤ W2.heap.size := hX2.size
      have hlt := (Array.getElem?_eq_some_iff.1 a1).1
      have b3 := a3.fr (putObj_fr (l := w0.heap.size + 1) (F := [w0.heap.size + 1]) (by simp) W2 (.loop (rc .exhausted none))) (by simp; omega)
      have b2 := (putObj_other (w := W2) (g := w0.heap.size + 1) (k := w0.heap.size) (by omega) (.loop (rc .exhausted none))).trans a2
      have b4 : Fr [w0.heap.size + 1] W2 (W2.putObj (w0.heap.size + 1) (.loop (rc .exhausted none))) := putObj_fr (by simp) _ _
      obtain ⟨X, hX⟩ : ∃ X, W2.putObj (w0.heap.size + 1) (.loop (rc .exhausted none)) = X := ⟨_, rfl⟩
      rw [hX] at b2 b3 b4 ⊢
      obtain ⟨ov, o1, o2, o3⟩ := b3.ex
      have co : X.cell? ⟨w.heap.size, 0, none⟩ = some ov := by rw [cell_of_row X w.heap.size 0 _ _ _ o1]; rfl
      have hbs : BytessN w.heap.size (X.putObj w0.heap.size (.deferred none)) ov rs := by
        have hrs : rs = pre.map Prod.snd := by have := hp; rw [HRS.out] at this; exact Option.some.inj this
        rw [hrs]
        have hfr : Fr [w0.heap.size] X (X.putObj w0.heap.size (.deferred none)) := putObj_fr (by simp) _ _
        exact bytessN_of rfl (Go.Joins.ownsRow_le (ownsRow_cong o2 (fun k hk => hfr.block k (o2.lt k hk).2 (by have := (o2.lt k hk).1; simp; omega))) (by omega))
          (fun p hpm => ⟨(o3 p hpm).1.cong (fun k hk hok => hfr.block k hk (by have := ((o3 p hpm).2 k hok).1; simp; omega)), fun k hok => by
            obtain ⟨h5, C, h6⟩ := (o3 p hpm).2 k hok
            exact ⟨by omega, C, (hfr.block k (Array.getElem?_eq_some_iff.1 h6).1 (by simp; omega)).trans h6⟩⟩)
      have hfin : Fr [] w (X.putObj w0.heap.size (.deferred none)) := ((f1.then_new hX2 (by simp; omega)).then_new b4 (by simp; omega)).then_new (putObj_fr (F := [w0.heap.size]) (by simp) _ _) (by simp; omega)
      have HBS := Lib.hid hbs
      have HFIN := Lib.hid hfin
      have HB2 := Lib.hid b2
      clear hX a1 a2 a3 hX2 o1 o2 o3 b3 b2 b4 hbs hfin hp e1 e2 e3 q0 q1 f0 f1 o0
      gi_wp2
      refine ⟨by simp, .inl ⟨_, _, rfl, run_takeDeferred HB2.out, ?_⟩⟩
      exact ⟨ov, results_tmp (t := 2) rfl _ _ _, ov, rfl, HBS.out, HFIN.out⟩
    · exact h.elim
    · exact h.elim
end Go.Proofs.Ytgfdbjeliojhkaa
