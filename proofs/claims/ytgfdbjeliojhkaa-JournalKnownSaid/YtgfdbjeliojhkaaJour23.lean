/-
  Jour23: the journal's calls on a disk whose power may go, told by the records. No condition beyond those stated.
-/
import Derived.Test.YtgfdbjeliojhkaaJLaw3
import Derived.Test.YtgfdbjeliojhkaaTrod3
import Derived.Test.YtgfdbjeliojhkaaJour22
namespace Go.Proofs.Ytgfdbjeliojhkaa
open Go.RowKit
/-- a disk that holds these records, has power, and on which nothing waits -/
structure KD (w : World) (db lb mb : Nat) (D : DK) (rs : List (List UInt8)) : Prop where
  k : DiskAt w db lb mb D
  c : JK D.n D.now rs
  dead : D.dead = false
  m : D.M = fun _ => none
theorem KD.fr0 {w w' : World} {db lb mb : Nat} {D : DK} {rs : List (List UInt8)} (h : KD w db lb mb D rs) (hf : Fr [] w w') : KD w' db lb mb D rs := ⟨h.k.fr0 hf, h.c, h.dead, h.m⟩
theorem KD.fr {w w' : World} {db lb mb : Nat} {D : DK} {rs : List (List UInt8)} {F : List Nat} (h : KD w db lb mb D rs) (hf : Fr F w w') (a : db ∉ F) (b : lb ∉ F) (c : mb ∉ F) : KD w' db lb mb D rs := ⟨h.k.fr hf a b c, h.c, h.dead, h.m⟩
theorem KD.len {w : World} {db lb mb : Nat} {D : DK} {rs : List (List UInt8)} (h : KD w db lb mb D rs) : (encAll rs).length ≤ 1000000 := by have h1 := h.c.c.fit; have h2 := h.c.c.nl; omega
theorem new_kd (n : Nat) (w : World) (h1 : 4 ≤ n) (h2 : n ≤ 4096) : Calls Try.prog 13 #[.int .i64 (n : Int)] w fun e w' => e = .returned (.tuple #[.pointer (some ⟨w.heap.size + 2, 0, none⟩), .int .i64 0]) ∧
    KD w' (w.heap.size + 2) w.heap.size (w.heap.size + 1) (DK.fresh n) [] ∧ Fr [] w w' ∧ w'.heap.size = w.heap.size + 3 :=
  (new_ok n w (by omega) h2).mono fun e w' ⟨a, b, c, d⟩ => ⟨a, ⟨b, JK.fresh h1 h2, rfl, rfl⟩, c, d⟩
theorem open_kd {db lb mb : Nat} {D : DK} {rs : List (List UInt8)} (w : World) (h : KD w db lb mb D rs) : Calls Try.prog 25 #[.pointer (some ⟨db, 0, none⟩)] w fun e w' => ∃ jb, e = .returned (.tuple #[.pointer (some ⟨jb, 0, none⟩), .int .i64 0]) ∧ JAt w' jb db rs.length (encAll rs) false ∧ w.heap.size ≤ jb ∧ Fr [] w w' :=
  (open_live w h.k h.dead h.c.c.n4).mono fun e w' ⟨a, b⟩ => by
    rw [open_of h.c.c] at b
    obtain ⟨jb, h1, h2, h3⟩ := b
    exact ⟨jb, h1, h2, h3, a⟩
theorem fuse_kd {db lb mb : Nat} {D : DK} {rs : List (List UInt8)} (n : Int) (hn : n ≤ 9223372036854775807) (w : World) (h : KD w db lb mb D rs) :
    Calls Try.prog 23 #[.pointer (some ⟨db, 0, none⟩), .int .i64 n] w fun e w' => e = .returned (.tuple #[]) ∧ (∃ D', KD w' db lb mb D' rs ∧ D'.n = D.n) ∧ Fr [db] w w' :=
  (fuse_some n hn w h.k).mono fun e w' ⟨a, b, c⟩ => by
    have hd := h.dead
    have e1 : D.setFuse n = { D with fuse := if n < -1 then -1 else n } := by unfold DK.setFuse; rw [hd]; rfl
    rw [e1] at b
    exact ⟨a, ⟨_, ⟨b, h.c, hd, h.m⟩, rfl⟩, c⟩
theorem room_kd {jb db lb mb N : Nat} {D : DK} {rs : List (List UInt8)} {dd : Bool} (w : World) (hj : JAt w jb db N (encAll rs) dd) (h : KD w db lb mb D rs) : Calls Try.prog 27 #[.pointer (some ⟨jb, 0, none⟩)] w fun e w' => e = .returned (.int .i64 (roomI D.n (encAll rs).length)) ∧ Fr [] w w' :=
  (jroom_some w hj h.k h.len).mono fun e w' ⟨a, b⟩ => ⟨a, by rw [← b]; exact Fr.drew _ _⟩
/-- what a disk's records may be when power comes again: those, and perhaps these behind them -/
def Surv (D : DK) (rs fl : List (List UInt8)) : Prop := ∀ fate : Nat → Nat, (∀ k, fate k ≤ 64) → JK (D.restart fate).n (D.restart fate).now rs ∨ JK (D.restart fate).n (D.restart fate).now (rs ++ fl)
theorem KD.surv {w : World} {db lb mb : Nat} {D : DK} {rs : List (List UInt8)} (h : KD w db lb mb D rs) : Surv { D with dead := true } rs [] := fun fate hf => .inl (by
  refine h.c.congr (n := D.n) (F := D.now) fun i j hi hj => ?_
  obtain ⟨c, _, h2⟩ := restart_at { D with dead := true } fate hf (i := i) hi
  have h3 := h2 j hj
  rw [Nat.mul_comm i 64] at h3
  rw [h3]
  have hM : ({ D with dead := true } : DK).M = fun _ => none := h.m
  have e1 : ({ D with dead := true } : DK).now = D.now := rfl
  have e2 : D.now = D.L := now_L h.m
  rw [e1, e2]
  split <;> rfl)
/-- what came of Add -/
inductive AddR (jb db lb mb : Nat) (D : DK) (rs : List (List UInt8)) (r : List UInt8) (w' : World) (e : Ending) : Prop
  | ok (D' : DK) (he : e = .returned (.int .i64 0)) (h : KD w' db lb mb D' (rs ++ [r])) (hn : D'.n = D.n) (hj : JAt w' jb db (rs ++ [r]).length (encAll (rs ++ [r])) false)
  | dead (D' : DK) (he : e = .returned (.int .i64 120)) (h : DiskAt w' db lb mb D') (hd : D'.dead = true) (hn : D'.n = D.n) (hs : Surv D' rs [r]) (hj : JAt w' jb db rs.length (encAll rs) true)
theorem add_kd {jb db lb mb : Nat} {D : DK} {rs : List (List UInt8)} {r : List UInt8} (ao : Option Addr) (c : Nat) (w : World) (hj : JAt w jb db rs.length (encAll rs) false) (h : KD w db lb mb D rs) (hb : BytesAt w (.slice ao r.length c) r.length (lsec r)) (hm : r.length ≤ 65536)
    (hf : (encAll rs).length + 4 + r.length ≤ (D.n - 2) * 64) :
    Calls Try.prog 28 #[.pointer (some ⟨jb, 0, none⟩), .slice ao r.length c] w fun e w' => AddR jb db lb mb D rs r w' e ∧ Fr [jb, db, lb, mb] w w' := by
  have n4 := h.c.c.n4
  obtain ⟨c1, c2⟩ := h.c.c.cnt
  refine (jadd_main ao c w hj h.k h.len hb hm (by omega) (by omega) h.dead).mono ?_
  rintro e w' ⟨hfr, ⟨⟨f0, f1, f2, f3⟩, rfl, hd, hjt, _⟩ | ⟨k, hk, _, _, rfl, hd, hjt⟩⟩
  · refine ⟨.ok _ rfl ⟨hd, ?_, ?_, rfl⟩ (st4_n D rs.length _ _) ?_, hfr⟩
    · rw [st4_n]; exact h.c.add (by omega) hf
    · unfold st4 DK.synced
      show (st3 D rs.length (encAll rs) (encAll rs ++ encR r)).burn.dead = false
      rw [burn_dead f3]; unfold st3
      show (st2 D (encAll rs) (encAll rs ++ encR r)).burn.dead = false
      rw [burn_dead f2]; unfold st2 DK.synced
      show (st1 D (encAll rs) (encAll rs ++ encR r)).burn.dead = false
      rw [burn_dead f1]; unfold st1
      show D.burn.dead = false
      rw [burn_dead f0]; exact h.dead
    · rw [List.length_append, List.length_singleton, encAll_append, encAll_one]; exact hjt
  · exact ⟨.dead _ rfl hd rfl (stg_n D rs.length _ _ k) (fun fate hfate => h.c.crash h.m (by omega) hf hk fate hfate rfl) hjt, hfr⟩
theorem add_full_kd {jb db lb mb : Nat} {D : DK} {rs : List (List UInt8)} (ao : Option Addr) (m c : Nat) (w : World) (hj : JAt w jb db rs.length (encAll rs) false) (h : KD w db lb mb D rs) (hm : m ≤ 65536)
    (hf : ¬ (encAll rs).length + 4 + m ≤ (D.n - 2) * 64) :
    Calls Try.prog 28 #[.pointer (some ⟨jb, 0, none⟩), .slice ao m c] w fun e w' => e = .returned (.int .i64 3) ∧ Fr [] w w' := by
  have n4 := h.c.c.n4
  exact jadd_full ao m c w hj h.k h.len hm (by omega)
theorem restart_kd {db lb mb : Nat} {D : DK} {rs fl : List (List UInt8)} (w : World) (h : DiskAt w db lb mb D) (hs : Surv D rs fl) {fv : Value} {len : Nat} {g : Nat → Int} (hF : IntsAt w fv len g) (hblk : 0 < len → ∀ k, fv.ownBlock = some k → k ≠ lb) :
    Calls Try.prog 16 #[.pointer (some ⟨db, 0, none⟩), fv] w fun e w' => e = .returned (.tuple #[]) ∧ (∃ D' rs', KD w' db lb mb D' rs' ∧ D'.n = D.n ∧ (rs' = rs ∨ rs' = rs ++ fl)) ∧ Fr [db, lb, mb] w w' :=
  (restart_some w h fv len g hF hblk).mono fun e w' ⟨a, b, c⟩ => by
    refine ⟨a, ?_, c⟩
    rcases hs (fateN len g) (fateN_le len g) with h1 | h1
    · exact ⟨_, rs, ⟨b, h1, rfl, rfl⟩, rfl, .inl rfl⟩
    · exact ⟨_, _, ⟨b, h1, rfl, rfl⟩, rfl, .inr rfl⟩
theorem kill_kd {db lb mb : Nat} {D : DK} {rs fl : List (List UInt8)} (w : World) (h : DiskAt w db lb mb D) (hs : Surv { D with dead := true } rs fl) :
    Calls Try.prog 20 #[.pointer (some ⟨db, 0, none⟩)] w fun e w' => e = .returned (.tuple #[]) ∧ (∃ D', DiskAt w' db lb mb D' ∧ D'.dead = true ∧ D'.n = D.n ∧ Surv D' rs fl) ∧ Fr [db] w w' :=
  (kill_some w h).mono fun e w' ⟨a, b, c⟩ => ⟨a, ⟨_, b, rfl, rfl, hs⟩, c⟩
theorem dead_eta {D : DK} (h : D.dead = true) : ({ D with dead := true } : DK) = D := by cases D; simp at h; subst h; rfl
end Go.Proofs.Ytgfdbjeliojhkaa
