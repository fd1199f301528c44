/-
  Jour16: the journal's calls, told by the records that the disk holds. No condition beyond those stated.
-/
import Derived.Test.YtgfdbjeliojhkaaJLaw
import Derived.Test.YtgfdbjeliojhkaaDiskLastsP
namespace Go.Proofs.Ytgfdbjeliojhkaa
open Go.RowKit
/-- bytes made a string -/
theorem conv_bytes {w : World} {v : Value} {m : Nat} {f : Sec} (h : BytesAt w v m f) : (convert 31 9 v).run Try.prog w = .ok (.string (strOf m f)) w := by
  obtain ⟨ao, cap, rfl, h1, h2, h3, h4⟩ := h
  rcases Nat.eq_zero_or_pos m with rfl | hp
  · rw [run_convert_bytes_string w 31 9 5 _ 0 cap Try.underlying31 Try.underlying5 Try.underlying9]
    cases ao with
    | none => rfl
    | some a =>
      have hl : (loadCells a 0).run Try.prog w = .ok (([] : List Int).map (Value.int .u8)).toArray w := run_loadCells_list (P := Try.prog) w a [] (fun j v hv => by simp at hv)
      rw [run_bytesToString w _ 0 cap _ hl]
      rfl
  · obtain ⟨b, off, rfl, hr⟩ := h4 hp
    exact run_bytes_string w 31 9 5 b off m cap f Try.underlying31 Try.underlying5 Try.underlying9 hr
theorem burn_off {D : DK} (h : D.fuse = -1) : D.burn = D := by unfold DK.burn; rw [if_neg (by omega), if_neg (by omega)]
theorem st4_off {D : DK} {N : Nat} {d nd : List UInt8} (h : D.fuse = -1) : (st4 D N d nd).fuse = -1 ∧ (st4 D N d nd).dead = D.dead ∧ (st4 D N d nd).M = (fun _ => none) ∧ (st1 D d nd).fuse = -1 ∧ (st2 D d nd).fuse = -1 ∧ (st3 D N d nd).fuse = -1 := by
  have f1 : (st1 D d nd).fuse = -1 := by unfold st1; rw [burn_off h]; exact h
  have f2 : (st2 D d nd).fuse = -1 := by unfold st2 DK.synced; rw [burn_off f1]; exact f1
  have f3 : (st3 D N d nd).fuse = -1 := by unfold st3; rw [burn_off f2]; exact f2
  have f4 : (st4 D N d nd).fuse = -1 := by unfold st4 DK.synced; rw [burn_off f3]; exact f3
  have d1 : (st1 D d nd).dead = D.dead := by unfold st1; rw [burn_off h]; rfl
  have d2 : (st2 D d nd).dead = D.dead := by unfold st2 DK.synced; rw [burn_off f1]; exact d1
  have d3 : (st3 D N d nd).dead = D.dead := by unfold st3; rw [burn_off f2]; exact d2
  have d4 : (st4 D N d nd).dead = D.dead := by unfold st4 DK.synced; rw [burn_off f3]; exact d3
  exact ⟨f4, d4, rfl, f1, f2, f3⟩
/-- a disk that holds these records; nothing waits; no fuse -/
structure DH (w : World) (db lb mb : Nat) (D : DK) (rs : List (List UInt8)) : Prop where
  k : DiskAt w db lb mb D
  c : JC D.n D.now rs
  dead : D.dead = false
  fuse : D.fuse = -1
theorem DH.fr0 {w w' : World} {db lb mb : Nat} {D : DK} {rs : List (List UInt8)} (h : DH w db lb mb D rs) (hf : Fr [] w w') : DH w' db lb mb D rs := ⟨h.k.fr0 hf, h.c, h.dead, h.fuse⟩
theorem DH.len {w : World} {db lb mb : Nat} {D : DK} {rs : List (List UInt8)} (h : DH w db lb mb D rs) : (encAll rs).length ≤ 1000000 := by have h1 := h.c.fit; have h2 := h.c.nl; omega
theorem new_held (n : Nat) (w : World) (h1 : 4 ≤ n) (h2 : n ≤ 4096) : Calls Try.prog 13 #[.int .i64 (n : Int)] w fun e w' => e = .returned (.tuple #[.pointer (some ⟨w.heap.size + 2, 0, none⟩), .int .i64 0]) ∧
    DH w' (w.heap.size + 2) w.heap.size (w.heap.size + 1) (DK.fresh n) [] ∧ Fr [] w w' ∧ w'.heap.size = w.heap.size + 3 :=
  (new_ok n w (by omega) h2).mono fun e w' ⟨a, b, c, d⟩ => ⟨a, ⟨b, JC.fresh h1 h2, rfl, rfl⟩, c, d⟩
theorem open_held {db lb mb : Nat} {D : DK} {rs : List (List UInt8)} (w : World) (h : DH w db lb mb D rs) : Calls Try.prog 25 #[.pointer (some ⟨db, 0, none⟩)] w fun e w' => ∃ jb, e = .returned (.tuple #[.pointer (some ⟨jb, 0, none⟩), .int .i64 0]) ∧ JAt w' jb db rs.length (encAll rs) false ∧ w.heap.size ≤ jb ∧ Fr [] w w' :=
  (open_live w h.k h.dead h.c.n4).mono fun e w' ⟨a, b⟩ => by
    rw [open_of h.c] at b
    obtain ⟨jb, h1, h2, h3⟩ := b
    exact ⟨jb, h1, h2, h3, a⟩
theorem room_held {jb db lb mb N : Nat} {D : DK} {rs : List (List UInt8)} {dd : Bool} (w : World) (hj : JAt w jb db N (encAll rs) dd) (h : DH w db lb mb D rs) : Calls Try.prog 27 #[.pointer (some ⟨jb, 0, none⟩)] w fun e w' => e = .returned (.int .i64 (roomI D.n (encAll rs).length)) ∧ Fr [] w w' :=
  (jroom_some w hj h.k h.len).mono fun e w' ⟨a, b⟩ => ⟨a, by rw [← b]; exact Fr.drew _ _⟩
theorem recs_held {jb db N : Nat} {rs : List (List UInt8)} {dd : Bool} (w : World) (hj : JAt w jb db N (encAll rs) dd) (hs : ∀ r ∈ rs, r.length < 2 ^ 32) (hl : (encAll rs).length ≤ 1000000) : Calls Try.prog 26 #[.pointer (some ⟨jb, 0, none⟩)] w fun e w' => ∃ v, e = .returned v ∧ BytessN w.heap.size w' v rs ∧ Fr [] w w' := by
  obtain ⟨ao, cap, h1, h2, h3⟩ := hj.ex
  exact jrecs_ok w h1 h2 hl (fun k hk => by obtain ⟨C, t, h4, _⟩ := h3 k hk; exact (Array.getElem?_eq_some_iff.1 h4).1) (recs_enc rs hs)
theorem add_held {jb db lb mb : Nat} {D : DK} {rs : List (List UInt8)} {r : List UInt8} (ao : Option Addr) (c : Nat) (w : World) (hj : JAt w jb db rs.length (encAll rs) false) (h : DH w db lb mb D rs) (hb : BytesAt w (.slice ao r.length c) r.length (lsec r)) (hm : r.length ≤ 65536)
    (hf : (encAll rs).length + 4 + r.length ≤ (D.n - 2) * 64) :
    Calls Try.prog 28 #[.pointer (some ⟨jb, 0, none⟩), .slice ao r.length c] w fun e w' => e = .returned (.int .i64 0) ∧ (∃ D', DH w' db lb mb D' (rs ++ [r]) ∧ D'.n = D.n ∧ D'.M = fun _ => none) ∧ JAt w' jb db (rs ++ [r]).length (encAll (rs ++ [r])) false ∧ Fr [jb, db, lb, mb] w w' ∧ (∃ g cap, w'.cell? ⟨jb, 2, none⟩ = some (.slice (some ⟨g, 0, none⟩) (encAll (rs ++ [r])).length cap) ∧ w.heap.size ≤ g) := by
  have n4 := h.c.n4
  obtain ⟨c1, c2⟩ := h.c.cnt
  obtain ⟨g1, g2, g3, g4, g5, g6⟩ := st4_off (N := rs.length) (d := encAll rs) (nd := encAll rs ++ encR r) h.fuse
  refine (jadd_main ao c w hj h.k h.len hb hm (by omega) (by omega) h.dead).mono ?_
  rintro e w' ⟨hfr, ⟨_, rfl, hd, hjt, hg⟩ | ⟨k, hk, _, hz, _⟩⟩
  · refine ⟨rfl, ⟨_, ⟨hd, ?_, g2.trans h.dead, g1⟩, st4_n D rs.length _ _, g3⟩, ?_, hfr, ?_⟩
    · rw [st4_n]; exact h.c.add (by omega) hf
    · rw [List.length_append, List.length_singleton, encAll_append, encAll_one]; exact hjt
    · rw [encAll_append, encAll_one]; exact hg
  · exfalso
    have hz' : (stg D rs.length (encAll rs) (encAll rs ++ encR r) k).fuse = -1 := by
      rcases (by omega : k = 0 ∨ k = 1 ∨ k = 2 ∨ k = 3) with rfl | rfl | rfl | rfl
      · exact h.fuse
      · exact g4
      · exact g5
      · exact g6
    omega
end Go.Proofs.Ytgfdbjeliojhkaa
