/-
  EdiA2: reading of segments in memory; contract of heavy. No condition beyond those stated.
-/
import Derived.Test.YtpfkmklhfafkiaaEdiZ1
namespace Go.Proofs.Ytpfkmklhfafkiaa
open Go.RowKit
section
variable {S : Nat → Prop} {w : World}
theorem SegsAt.form {v : Value} {l : List Seg} (h : SegsAt S w v l) : ∃ ao cap, v = .slice ao l.length cap ∧ l.length ≤ cap ∧ cap ≤ maxLen := by
  obtain ⟨ao, cap, xs, rfl, h1, h2, _⟩ := h; exact ⟨ao, cap, rfl, h1, h2⟩
theorem SegsAt.get {ao : Option Addr} {n cap : Nat} {l : List Seg} (h : SegsAt S w (.slice ao n cap) l) {k : Nat} {s : Seg} (hk : l[k]? = some s) : ∃ b off x, ao = some ⟨b, off, none⟩ ∧ S b ∧ w.cell? ⟨b, off + k * 2, none⟩ = some (sv s.tag) ∧ w.cell? ⟨b, off + k * 2 + 1, none⟩ = some x ∧ ElemsAt S w x s.elems := by
  obtain ⟨_, _, xs, e, h1, h2, h3, h4, h5, h6⟩ := h
  cases e
  obtain ⟨b, off, rfl, hS, h7⟩ := h6 (by intro e; rw [e] at hk; simp at hk)
  have hlt : k < xs.length := by rw [h4]; exact (List.getElem?_eq_some_iff.1 hk).1
  have hx := List.getElem?_eq_getElem hlt
  obtain ⟨a1, a2⟩ := h7 k s _ hk hx
  exact ⟨b, off, _, rfl, hS, a1, a2, h5 k s _ hk hx⟩
theorem ElemsAt.form {v : Value} {l : List (List Str)} (h : ElemsAt S w v l) : ∃ ao cap, v = .slice ao l.length cap ∧ l.length ≤ cap ∧ cap ≤ maxLen := by
  obtain ⟨xs, ⟨ao, cap, rfl, h1, h2, _⟩, h3, _⟩ := h; exact ⟨ao, cap, by rw [h3], by omega, h2⟩
theorem ElemsAt.get {ao : Option Addr} {n cap : Nat} {l : List (List Str)} (h : ElemsAt S w (.slice ao n cap) l) {k : Nat} {e : List Str} (hk : l[k]? = some e) : ∃ b off x, ao = some ⟨b, off, none⟩ ∧ S b ∧ w.cell? ⟨b, off + k, none⟩ = some x ∧ CompsAt S w x e := by
  obtain ⟨xs, ⟨_, _, e, h1, h2, h3, h4⟩, h5, h6⟩ := h
  cases e
  have hlt : k < xs.length := by rw [h5]; exact (List.getElem?_eq_some_iff.1 hk).1
  have hx := List.getElem?_eq_getElem hlt
  obtain ⟨b, off, rfl, hS, h7⟩ := h4 (by rintro rfl; simp at hlt)
  exact ⟨b, off, _, rfl, hS, h7 k _ hx, h6 k e _ hk hx⟩
theorem CompsAt.form {v : Value} {l : List Str} (h : CompsAt S w v l) : ∃ ao cap, v = .slice ao l.length cap ∧ l.length ≤ cap ∧ cap ≤ maxLen := by
  obtain ⟨ao, cap, rfl, h1, h2, _⟩ := h
  rw [List.length_map] at h1
  exact ⟨ao, cap, by rw [List.length_map], h1, h2⟩
theorem CompsAt.get {ao : Option Addr} {n cap : Nat} {l : List Str} (h : CompsAt S w (.slice ao n cap) l) {k : Nat} {p : Str} (hk : l[k]? = some p) : ∃ b off, ao = some ⟨b, off, none⟩ ∧ S b ∧ w.cell? ⟨b, off + k, none⟩ = some (sv p) := by
  obtain ⟨_, _, e, h1, h2, h3, h4⟩ := h
  cases e
  obtain ⟨b, off, rfl, hS, h7⟩ := h4 (by intro e; rw [List.map_eq_nil_iff] at e; rw [e] at hk; simp at hk)
  exact ⟨b, off, rfl, hS, h7 k _ (by rw [List.getElem?_map, hk]; rfl)⟩
end
def bytesC (e : List Str) : Nat := (e.map List.length).sum
def bytesE (es : List (List Str)) : Nat := (es.map bytesC).sum
def bytesL (l : List Seg) : Nat := (l.map fun s => bytesE s.elems).sum
theorem sum_take {α : Type} (f : α → Nat) {l : List α} {k : Nat} {x : α} (h : l[k]? = some x) : ((l.take (k + 1)).map f).sum = ((l.take k).map f).sum + f x := by
  rw [List.take_add_one, h]; simp
theorem sum_take_le {α : Type} (f : α → Nat) (l : List α) (k : Nat) : ((l.take k).map f).sum ≤ (l.map f).sum := by
  have h := congrArg (fun m => (List.map f m).sum) (List.take_append_drop k l)
  simp only [List.map_append, List.sum_append] at h
  omega
/-- what is not heavy -/
structure LightS (l : List Seg) : Prop where
  n : l.length ≤ 80
  seg : ∀ s ∈ l, s.tag.length ≤ 300 ∧ s.elems.length ≤ 40
  el : ∀ s ∈ l, ∀ e ∈ s.elems, e.length ≤ 40
  bytes : bytesL l ≤ 3000
theorem joinT_le (e : List Str) : (elemT e).length ≤ 2 * bytesC e + e.length := by
  have h1 : ∀ l : List Str, (l.flatMap fun p => 58 :: compT p).length ≤ 2 * bytesC l + l.length := fun l => by
    induction l with
    | nil => simp [bytesC]
    | cons a l ih =>
      have := compT_len a
      have := sgN_le a
      simp only [List.flatMap_cons, List.length_append, List.length_cons, bytesC, List.map_cons, List.sum_cons] at ih ⊢
      omega
  cases e with
  | nil => simp [elemT, joinB]
  | cons p l =>
    have h := h1 l
    have := compT_len p
    have := sgN_le p
    rw [elemT_cons, List.length_append]
    unfold restT
    simp only [bytesC, List.map_cons, List.sum_cons, List.length_cons] at h ⊢
    omega
theorem segT_le (s : Seg) (h1 : ∀ e ∈ s.elems, e.length ≤ 40) : (segT s).length ≤ s.tag.length + 1 + 41 * s.elems.length + 2 * bytesE s.elems := by
  have key : ∀ es : List (List Str), (∀ e ∈ es, e.length ≤ 40) → (es.flatMap fun e => 43 :: elemT e).length ≤ 41 * es.length + 2 * bytesE es := fun es => by
    induction es with
    | nil => intro _; simp
    | cons a l ih =>
      intro h
      have h2 := ih fun e he => h e (List.mem_cons_of_mem _ he)
      have h3 := joinT_le a
      have h4 := h a List.mem_cons_self
      simp only [List.flatMap_cons, List.length_append, List.length_cons, bytesE, List.map_cons, List.sum_cons] at h2 ⊢
      omega
  have := key s.elems h1
  unfold segT
  simp only [List.length_append, List.length_cons, List.length_nil]
  omega
theorem LightS.print {l : List Seg} (h : LightS l) : (printT l).length ≤ 1048576 := by
  have key : ∀ m : List Seg, (∀ s ∈ m, s.tag.length ≤ 300 ∧ s.elems.length ≤ 40) → (∀ s ∈ m, ∀ e ∈ s.elems, e.length ≤ 40) → (printT m).length ≤ m.length * 1941 + 2 * bytesL m := fun m => by
    induction m with
    | nil => intro _ _; simp [printT]
    | cons a r ih =>
      intro h1 h2
      have h3 := ih (fun s hs => h1 s (List.mem_cons_of_mem _ hs)) (fun s hs => h2 s (List.mem_cons_of_mem _ hs))
      have h4 := segT_le a (h2 a List.mem_cons_self)
      have h5 := h1 a List.mem_cons_self
      simp only [printT, bytesL, List.flatMap_cons, List.length_append, List.map_cons, List.sum_cons, List.length_cons] at h3 ⊢
      omega
  have := key l h.seg h.el
  have := h.n
  have := h.bytes
  omega
def HeavyS (l : List Seg) (e : Ending) : Prop := ∃ b, e = .returned (.bool b) ∧ (b = false → LightS l)
theorem HeavyS.yes (l : List Seg) : HeavyS l (.returned (.bool true)) := ⟨true, rfl, fun h => by cases h⟩
set_option maxRecDepth 100000 in
set_option maxHeartbeats 2000000 in
theorem eheavy_any {S : Nat → Prop} {v : Value} {l : List Seg} (w : World) (h : SegsAt S w v l) : Calls Try.prog 10 #[v] w fun e w' => HeavyS l e ∧ w = w' := by
  have h' := h
  obtain ⟨ao, cap, xs, rfl, h1, h2, _⟩ := h'
  unfold maxLen at h2
  have H := Lib.hid h
  clear h
  by_cases h12 : l.length ≤ 80
  · obtain ⟨n, hn⟩ : ∃ n, l.length = n := ⟨_, rfl⟩
    have HN := Lib.hid hn
    rw [hn] at h1 h12 ⊢
    have H' := Lib.hid (show SegsAt S w (.slice ao n cap) l by rw [← hn]; exact H.out)
    clear hn H
    have h12i : ¬ (80 : Int) < (n : Int) := by omega
    go_enter Try.func10, Try.ntmps10
    go_wp2_with fail
    go_loop [3, 4] (fun c i => ∃ (k B : Nat), k ≤ n ∧ B ≤ 3000 ∧ i = .int .i64 (k : Int) ∧ c = .int .i64 (B : Int) ∧ Hid (B = bytesL (l.take k)) ∧ Hid (∀ s ∈ l.take k, (s.tag.length ≤ 300 ∧ s.elems.length ≤ 40) ∧ ∀ e ∈ s.elems, e.length ≤ 40)) (fun _ i => n - (intOf i).toNat)
    case atStart => exact ⟨0, 0, Nat.zero_le _, Nat.zero_le _, rfl, rfl, Lib.hid rfl, Lib.hid (by simp)⟩
    case round =>
      obtain ⟨k, B, hk, hB, rfl, rfl, HB, HA⟩ := hrel
      by_cases hlt : k < n
      · obtain ⟨s, hs⟩ : ∃ s, l[k]? = some s := ⟨_, List.getElem?_eq_getElem (by rw [HN.out]; exact hlt)⟩
        obtain ⟨b, off, x, rfl, _, c0, c1, hel⟩ := H'.out.get hs
        obtain ⟨t, es⟩ := s
        obtain ⟨eo, ecap, rfl, he1, he2⟩ := hel.form
        have HEL := Lib.hid hel
        have HS := Lib.hid hs
        obtain ⟨st, hst⟩ : ∃ st : ByteArray, (⟨t.toArray⟩ : ByteArray) = st := ⟨_, rfl⟩
        have hss : st.size = t.length := by rw [← hst]; rfl
        obtain ⟨m0, hm0⟩ : ∃ m0, es.length = m0 := ⟨_, rfl⟩
        simp only [sv, hst, hm0] at c0 c1 he1 HEL
        have HM0 := Lib.hid hm0
        unfold maxLen at he2
        clear hs hel hst hm0
        by_cases h300 : t.length ≤ 300
        · have h300i : ¬ (300 : Int) < (st.size : Int) := by omega
          by_cases h40 : m0 ≤ 40
          · have h40i : ¬ (40 : Int) < (m0 : Int) := by omega
            clear hss
            go_wp2_with fail
            go_loop [3, 5] (fun c i => ∃ (k2 B2 : Nat), k2 ≤ m0 ∧ B2 ≤ 3000 ∧ i = .int .i64 (k2 : Int) ∧ c = .int .i64 (B2 : Int) ∧ Hid (B2 = B + bytesE (es.take k2)) ∧ Hid (∀ e ∈ es.take k2, e.length ≤ 40)) (fun _ i => m0 - (intOf i).toNat)
            case atStart => exact ⟨0, B, Nat.zero_le _, hB, rfl, rfl, Lib.hid rfl, Lib.hid (by simp)⟩
            case round =>
              obtain ⟨k2, B2, hk2, hB2, rfl, rfl, HB2, HA2⟩ := hrel
              by_cases hlt2 : k2 < m0
              · obtain ⟨e, he⟩ : ∃ e, es[k2]? = some e := ⟨_, List.getElem?_eq_getElem (by rw [HM0.out]; exact hlt2)⟩
                obtain ⟨b2, off2, x2, rfl, _, d0, hco⟩ := HEL.out.get he
                obtain ⟨co, ccap, rfl, hc1, hc2⟩ := hco.form
                have HCO := Lib.hid hco
                have HE := Lib.hid he
                obtain ⟨q0, hq0⟩ : ∃ q0, e.length = q0 := ⟨_, rfl⟩
                rw [hq0] at d0 hc1 HCO
                have HQ0 := Lib.hid hq0
                unfold maxLen at hc2
                clear he hco hq0
                by_cases h40c : q0 ≤ 40
                · have h40ci : ¬ (40 : Int) < (q0 : Int) := by omega
                  go_wp2_with fail
                  go_loop [3, 6] (fun c i => ∃ (k3 B3 : Nat), k3 ≤ q0 ∧ B3 ≤ 3000 ∧ i = .int .i64 (k3 : Int) ∧ c = .int .i64 (B3 : Int) ∧ Hid (B3 = B2 + bytesC (e.take k3))) (fun _ i => q0 - (intOf i).toNat)
                  case atStart => exact ⟨0, B2, Nat.zero_le _, hB2, rfl, rfl, Lib.hid rfl⟩
                  case round =>
                    obtain ⟨k3, B3, hk3, hB3, rfl, rfl, HB3⟩ := hrel
                    by_cases hlt3 : k3 < q0
                    · obtain ⟨p, hp⟩ : ∃ p, e[k3]? = some p := ⟨_, List.getElem?_eq_getElem (by rw [HQ0.out]; exact hlt3)⟩
                      obtain ⟨b3, off3, rfl, _, e0⟩ := HCO.out.get hp
                      obtain ⟨sp, hsp⟩ : ∃ sp : ByteArray, (⟨p.toArray⟩ : ByteArray) = sp := ⟨_, rfl⟩
                      have hspl : sp.size = p.length := by rw [← hsp]; rfl
                      simp only [sv, hsp] at e0
                      have HP := Lib.hid hp
                      have HSP := Lib.hid hspl
                      clear hp hsp hspl
                      by_cases h3k : sp.size ≤ 3000 - B3
                      · have h3ki : ¬ (3000 - (B3 : Int)) < (sp.size : Int) := by omega
                        go_wp2_with fail
                        go_round
                        case rel => exact ⟨k3 + 1, B3 + sp.size, by omega, by omega, by go_num, by go_num, Lib.hid (by
                          have := sum_take List.length HP.out
                          rw [HB3.out, HSP.out]; unfold bytesC; rw [this]; omega)⟩
                        case measure => simp [intOf]; omega
                      · have h3ki : (3000 - (B3 : Int)) < (sp.size : Int) := by omega
                        go_wp2_with fail
                        go_ret
                        exact ⟨HeavyS.yes l, rfl⟩
                    · obtain rfl : k3 = q0 := by omega
                      go_wp2_with fail
                      go_round
                      case rel => exact ⟨k2 + 1, B3, by omega, by omega, by go_num, rfl, Lib.hid (by
                        have h1 := sum_take bytesC HE.out
                        have h2 : e.take k3 = e := List.take_of_length_le (by rw [HQ0.out]; exact Nat.le_refl _)
                        rw [HB3.out, HB2.out, h2]; unfold bytesE; rw [h1]; omega), Lib.hid (fun y hy => by
                        rw [List.take_add_one, HE.out] at hy
                        rcases List.mem_append.1 hy with hy | hy
                        · exact HA2.out y hy
                        · simp at hy; subst hy; rw [HQ0.out]; exact h40c)⟩
                      case measure => simp [intOf]; omega
                · have h40ci : (40 : Int) < (q0 : Int) := by omega
                  go_wp2_with fail
                  go_ret
                  exact ⟨HeavyS.yes l, rfl⟩
              · obtain rfl : k2 = m0 := by omega
                go_wp2_with fail
                go_round
                case rel =>
                  have h2 : es.take k2 = es := List.take_of_length_le (by rw [HM0.out]; exact Nat.le_refl _)
                  exact ⟨k + 1, B2, by omega, by omega, by go_num, rfl, Lib.hid (by
                    have h1 := sum_take (fun s : Seg => bytesE s.elems) HS.out
                    rw [HB2.out, HB.out, h2]; unfold bytesL; rw [h1]), Lib.hid (fun y hy => by
                    rw [List.take_add_one, HS.out] at hy
                    rcases List.mem_append.1 hy with hy | hy
                    · exact HA.out y hy
                    · simp at hy; subst hy; exact ⟨⟨h300, by rw [HM0.out]; exact h40⟩, by have := HA2.out; rw [h2] at this; exact this⟩)⟩
                case measure => simp [intOf]; omega
          · have h40i : (40 : Int) < (m0 : Int) := by omega
            clear hss
            go_wp2_with fail
            go_ret
            exact ⟨HeavyS.yes l, rfl⟩
        · have h300i : (300 : Int) < (st.size : Int) := by omega
          clear hss
          go_wp2_with fail
          go_ret
          exact ⟨HeavyS.yes l, rfl⟩
      · obtain rfl : k = n := by omega
        go_wp2_with fail
        go_ret
        have h2 : l.take k = l := List.take_of_length_le (by rw [HN.out]; exact Nat.le_refl _)
        have hA := HA.out
        have hb := HB.out
        rw [h2] at hA hb
        exact ⟨⟨false, rfl, fun _ => ⟨by rw [HN.out]; exact h12, fun s hs => (hA s hs).1, fun s hs => (hA s hs).2, by omega⟩⟩, rfl⟩
  · have h12i : (80 : Int) < (l.length : Int) := by omega
    clear H
    go_enter Try.func10, Try.ntmps10
    go_wp2_with fail
    go_ret
    exact ⟨HeavyS.yes l, rfl⟩
end Go.Proofs.Ytpfkmklhfafkiaa
