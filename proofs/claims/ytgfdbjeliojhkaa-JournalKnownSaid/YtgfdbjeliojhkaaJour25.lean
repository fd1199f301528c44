/-
  Jour25: a disk whose heads are written by hand; calls on it. No condition beyond those stated.
-/
import Derived.Test.YtgfdbjeliojhkaaJLaw4
namespace Go.Proofs.Ytgfdbjeliojhkaa
open Go.RowKit
theorem OwnB.pre {w : World} {B g cap k : Nat} {l : List UInt8} (h : OwnB w B (.slice (some ⟨g, 0, none⟩) l.length cap) l) (hk : k ≤ l.length) : OwnB w B (.slice (some ⟨g, 0, none⟩) k cap) (l.take k) := by
  have hl : (l.take k).length = k := by rw [List.length_take]; omega
  obtain ⟨_, ⟨h2, _⟩ | ⟨g', cap', cur, h2, hg, hh, hc, hm, hs, hx⟩⟩ := h
  · cases h2
  · cases h2
    refine ⟨by simp, .inr ⟨g, cap, cur, by rw [hl], hg, hh, by omega, hm, hs, ?_⟩⟩
    rw [hl, Nat.mul_one, List.map_take, ← hx, Nat.mul_one, List.take_take]
    congr 1; omega
theorem OwnB.formP {w : World} {B : Nat} {v : Value} {l : List UInt8} (h : OwnB w B v l) (hl : 0 < l.length) : ∃ g cap, v = .slice (some ⟨g, 0, none⟩) l.length cap ∧ l.length ≤ cap ∧ cap ≤ maxLen ∧ B ≤ g := by
  obtain ⟨_, ⟨_, h2⟩ | ⟨g', cap', cur, h2, hg, hh, hc, hm, hs, hx⟩⟩ := h
  · omega
  · exact ⟨g', cap', h2, hc, hm, hg⟩
def WD (w : World) (db lb mb : Nat) (h0 h1 dd : List UInt8) : Prop := ∃ D, DiskAt w db lb mb D ∧ WS D h0 h1 dd
theorem WD.fr0 {w w' : World} {db lb mb : Nat} {h0 h1 dd : List UInt8} (h : WD w db lb mb h0 h1 dd) (hf : Fr [] w w') : WD w' db lb mb h0 h1 dd := by
  obtain ⟨D, a, b⟩ := h; exact ⟨D, a.fr0 hf, b⟩
theorem write0_wd {db lb mb : Nat} {h0 h1 dd g : List UInt8} {v : Value} {B : Nat} (w : World) (h : WD w db lb mb h0 h1 dd) (hg : g.length = 64) (hv : OwnB w B v g) (hB : db < B ∧ mb < B) :
    Calls Try.prog 14 #[.pointer (some ⟨db, 0, none⟩), .int .i64 0, v] w fun e w' => e = .returned (.int .i64 0) ∧ WD w' db lb mb g h1 dd ∧ Fr [db, mb] w w' := by
  obtain ⟨D, hd, hs⟩ := h
  have hb := hv.bytes
  rw [hg] at hb
  refine (write_ok 0 1 v (lsec g) w hd hb.1 (fun _ k hk => by have := hb.2 k hk; omega) hs.dead (by rw [hs.n]; omega) (by rw [hs.fuse]; decide)).mono ?_
  rintro e w' ⟨a, b, c⟩
  exact ⟨a, ⟨_, b, hs.w0 hg⟩, c⟩
theorem write1_wd {db lb mb : Nat} {h0 h1 dd g : List UInt8} {v : Value} {B : Nat} (w : World) (h : WD w db lb mb h0 h1 dd) (hg : g.length = 64) (hv : OwnB w B v g) (hB : db < B ∧ mb < B) :
    Calls Try.prog 14 #[.pointer (some ⟨db, 0, none⟩), .int .i64 1, v] w fun e w' => e = .returned (.int .i64 0) ∧ WD w' db lb mb h0 g dd ∧ Fr [db, mb] w w' := by
  obtain ⟨D, hd, hs⟩ := h
  have hb := hv.bytes
  rw [hg] at hb
  refine (write_ok 1 1 v (lsec g) w hd hb.1 (fun _ k hk => by have := hb.2 k hk; omega) hs.dead (by rw [hs.n]; omega) (by rw [hs.fuse]; decide)).mono ?_
  rintro e w' ⟨a, b, c⟩
  exact ⟨a, ⟨_, b, hs.w1 hg⟩, c⟩
theorem open_wd {db lb mb : Nat} {h0 h1 dd : List UInt8} {o : Option (Nat × List UInt8)} (w : World) (h : WD w db lb mb h0 h1 dd) (ho : openW h0 h1 dd 128 = o) :
    Calls Try.prog 25 #[.pointer (some ⟨db, 0, none⟩)] w fun e w' => Fr [] w w' ∧ OpenR w w' db o e := by
  obtain ⟨D, hd, hs⟩ := h
  refine (open_live w hd hs.dead (by rw [hs.n]; omega)).mono ?_
  rw [hs.open, ho]
  exact fun e w' h => h
theorem WD.of {w : World} {db lb mb : Nat} {D : DK} {rs : List (List UInt8)} (h : DH w db lb mb D rs) (hS : JS D.n D.now rs) (hn : D.n = 4) (hrs : rs = [[97, 98, 99], List.replicate 117 0]) : WD w db lb mb (headL 2 128) (headL 1 7) exD := by
  subst hrs
  refine ⟨D, h.k, hn, h.dead, h.fuse, headL_len _ _, headL_len _ _, by decide +kernel, fun j hj => h.c.hp j hj, fun j hj => hS.hx (by simp) j hj, fun j hj => h.c.dat j hj⟩
theorem make_z (m : Nat) (x : Int) (hx : x = (m : Int)) (hm : m ≤ 100000) (u : World) : (Instr.makeSlice 31 (.int .i64 x) (.int .i64 x)).run Try.prog u = .ok (.slice (some ⟨u.heap.size, 0, none⟩) m m) (u.alloc (.cells (rowA m fun _ => 0) 5)) := by
  subst hx; exact run_make_bytes m (by omega) u
theorem bytes_z (m : Nat) (w : World) : BytesAt (w.alloc (.cells (rowA m fun _ => 0) 5)) (.slice (some ⟨w.heap.size, 0, none⟩) m m) m (fun _ => 0) ∨ maxLen < m := by
  by_cases h : m ≤ maxLen
  · exact .inl ⟨_, m, rfl, Nat.le_refl _, h, (fun e => by cases e), fun _ => ⟨_, 0, rfl, rangeAt_row0 (heap_alloc_new w _)⟩⟩
  · exact .inr (by omega)
theorem add_heldN {jb db lb mb : Nat} {D : DK} {rs : List (List UInt8)} {r : List UInt8} {m : Nat} (ao : Option Addr) (c : Nat) (w : World) (hrm : r.length = m) (hj : JAt w jb db rs.length (encAll rs) false) (h : DH w db lb mb D rs) (hS : JS D.n D.now rs) (hb : BytesAt w (.slice ao m c) m (lsec r)) (hm : m ≤ 65536)
    (hf : (encAll rs).length + 4 + m ≤ (D.n - 2) * 64) :
    Calls Try.prog 28 #[.pointer (some ⟨jb, 0, none⟩), .slice ao m c] w fun e w' => e = .returned (.int .i64 0) ∧ (∃ D', DH w' db lb mb D' (rs ++ [r]) ∧ JS D'.n D'.now (rs ++ [r]) ∧ D'.n = D.n) ∧ JAt w' jb db (rs ++ [r]).length (encAll (rs ++ [r])) false ∧ Fr [jb, db, lb, mb] w w' := by
  subst hrm
  exact (add_heldS ao c w hj h hS hb hm hf).mono fun e w' ⟨a, ⟨D', b1, b2, b3, _⟩, c, d, _⟩ => ⟨a, ⟨D', b1, b2, b3⟩, c, d⟩
/-- the crash of the example: a fuse of 1 -/
theorem add_fuse1 {jb db lb mb : Nat} {D : DK} {r : List UInt8} {m : Nat} (ao : Option Addr) (c : Nat) (w : World) (hrm : r.length = m) (hj : JAt w jb db 0 [] false) (h : DiskAt w db lb mb D) (hc : JK D.n D.now []) (hM : D.M = fun _ => none) (hd : D.dead = false) (hfu : D.fuse = 1) (hb : BytesAt w (.slice ao m c) m (lsec r)) (hm : m ≤ 65536)
    (hf : 4 + m ≤ (D.n - 2) * 64) :
    Calls Try.prog 28 #[.pointer (some ⟨jb, 0, none⟩), .slice ao m c] w fun e w' => e = .returned (.int .i64 120) ∧ (∃ D', DiskAt w' db lb mb D' ∧ D'.n = D.n ∧ ∀ fate : Nat → Nat, (∀ k, fate k ≤ 64) → JK (D'.restart fate).n (D'.restart fate).now []) ∧ JAt w' jb db 0 [] true ∧ Fr [jb, db, lb, mb] w w' := by
  subst hrm
  have n4 := hc.c.n4
  refine (jadd_main ao c w hj h (by simp) hb hm (by simp; omega) (by omega) hd).mono ?_
  have s1 : (st1 D [] ([] ++ encR r)).fuse = 0 := by
    unfold st1 DK.burn
    rw [hfu]; rfl
  rintro e w' ⟨hfr, ⟨⟨_, f1, _, _⟩, _⟩ | ⟨k, hk, hlt, h0, rfl, hd', hjt⟩⟩
  · exact absurd s1 f1
  · obtain rfl : k = 1 := by
      rcases (by omega : k = 0 ∨ k = 1 ∨ 1 < k) with rfl | rfl | h1
      · exfalso
        have h2 : D.fuse = 0 := h0
        omega
      · rfl
      · exact absurd s1 (hlt 1 h1)
    exact ⟨rfl, ⟨_, hd', stg_n D 0 [] ([] ++ encR r) 1, fun fate hfate => hc.crash_early (rs := []) (r := r) hM (by simp [encAll]; omega) fate hfate rfl⟩, hjt, hfr⟩
theorem add_fuse3 {jb db lb mb : Nat} {D : DK} {r : List UInt8} {m : Nat} (ao : Option Addr) (c : Nat) (w : World) (hrm : r.length = m) (hj : JAt w jb db 0 [] false) (h : DiskAt w db lb mb D) (hc : JK D.n D.now []) (hd : D.dead = false) (hfu : D.fuse = 3) (hb : BytesAt w (.slice ao m c) m (lsec r)) (hm : m ≤ 65536)
    (hf : 4 + m ≤ (D.n - 2) * 64) :
    Calls Try.prog 28 #[.pointer (some ⟨jb, 0, none⟩), .slice ao m c] w fun e w' => e = .returned (.int .i64 120) ∧ (∃ D', DiskAt w' db lb mb D' ∧ D'.n = D.n ∧ ∀ fate : Nat → Nat, (∀ k, fate k ≤ 64) → fate 0 = 64 → JK (D'.restart fate).n (D'.restart fate).now [r]) ∧ JAt w' jb db 0 [] true ∧ Fr [jb, db, lb, mb] w w' := by
  subst hrm
  have n4 := hc.c.n4
  refine (jadd_main ao c w hj h (by simp) hb hm (by simp; omega) (by omega) hd).mono ?_
  have b1 : D.burn.fuse = 2 := by unfold DK.burn; rw [hfu]; rfl
  have s1 : (st1 D [] ([] ++ encR r)).fuse = 2 := b1
  have b2 : (st1 D [] ([] ++ encR r)).burn.fuse = 1 := by unfold DK.burn; rw [s1]; rfl
  have s2 : (st2 D [] ([] ++ encR r)).fuse = 1 := b2
  have b3 : (st2 D [] ([] ++ encR r)).burn.fuse = 0 := by unfold DK.burn; rw [s2]; rfl
  have s3 : (st3 D 0 [] ([] ++ encR r)).fuse = 0 := b3
  rintro e w' ⟨hfr, ⟨⟨_, _, _, f3⟩, _⟩ | ⟨k, hk, hlt, h0, rfl, hd', hjt⟩⟩
  · exact absurd s3 f3
  · obtain rfl : k = 3 := by
      rcases (by omega : k = 0 ∨ k = 1 ∨ k = 2 ∨ k = 3) with rfl | rfl | rfl | rfl
      · exfalso
        have h2 : D.fuse = 0 := h0
        omega
      · exfalso
        have h2 : (st1 D [] ([] ++ encR r)).fuse = 0 := h0
        omega
      · exfalso
        have h2 : (st2 D [] ([] ++ encR r)).fuse = 0 := h0
        omega
      · rfl
    exact ⟨rfl, ⟨_, hd', stg_n D 0 [] ([] ++ encR r) 3, fun fate hfate hf0 => hc.crash_full (r := r) (by omega) (by omega) fate hfate hf0 rfl⟩, hjt, hfr⟩
end Go.Proofs.Ytgfdbjeliojhkaa
