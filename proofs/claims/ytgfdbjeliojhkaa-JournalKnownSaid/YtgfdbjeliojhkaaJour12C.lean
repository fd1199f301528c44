/-
  Jour12C: the four steps of Add, in one form. No condition beyond those stated.
-/
import Derived.Test.YtgfdbjeliojhkaaJour12B
namespace Go.Proofs.Ytgfdbjeliojhkaa
open Go.RowKit
section
variable {w : World} {x2 x6 x7 x8 xs g5 jb db lb mb N : Nat} {d nd : List UInt8} {F : Array Value} {D : DK}
abbrev ASt (w : World) (x2 x6 x7 x8 xs g5 jb db lb mb N : Nat) (d nd : List UInt8) (F : Array Value) (D : DK) : Prop := AddS w x2 x6 x7 x8 xs g5 jb db lb mb N (d.length / 64) (secsUp nd.length - d.length / 64) d nd (lsec (headL (N + 1) nd.length)) F D
theorem fr3 {w w' : World} {F : List Nat} {db lb mb : Nat} (h : Fr F w w') (hF : ∀ k ∈ F, k = db ∨ k = lb ∨ k = mb) : Fr [db, lb, mb] w w' := h.mono (fun k hk => by rcases hF k hk with rfl | rfl | rfl <;> simp)
theorem step0_ok (h : ASt w x2 x6 x7 x8 xs g5 jb db lb mb N d nd F D) (hd : D.dead = false) (hn : 2 + d.length / 64 + (secsUp nd.length - d.length / 64) ≤ D.n) (h0 : D.fuse ≠ 0) :
    Calls Try.prog 45 #[.pointer (some ⟨x2, 0, none⟩), .pointer (some ⟨x6, 0, none⟩), .pointer (some ⟨x7, 0, none⟩)] w fun e w' => e = .returned (.int .i64 0) ∧ ASt w' x2 x6 x7 x8 xs g5 jb db lb mb N d nd F (st1 D d nd) ∧ Fr [db, lb, mb] w w' :=
  (add1_ok w (h.a.add1 h.j) h.k hd hn h0).mono fun e w' ⟨h1, h2, h3⟩ => by
    have h4 := fr3 h3 (db := db) (lb := lb) (mb := mb) (by simp)
    exact ⟨h1, h.fr h4 h2, h4⟩
theorem step0_dead (h : ASt w x2 x6 x7 x8 xs g5 jb db lb mb N d nd F D) (hd : D.dead = false) (hn : 2 + d.length / 64 + (secsUp nd.length - d.length / 64) ≤ D.n) (h0 : D.fuse = 0) :
    Calls Try.prog 45 #[.pointer (some ⟨x2, 0, none⟩), .pointer (some ⟨x6, 0, none⟩), .pointer (some ⟨x7, 0, none⟩)] w fun e w' => e = .returned (.int .i64 120) ∧ ASt w' x2 x6 x7 x8 xs g5 jb db lb mb N d nd F { D with dead := true } ∧ Fr [db, lb, mb] w w' :=
  (add1_dead w (h.a.add1 h.j) h.k hd hn h0).mono fun e w' ⟨h1, h2, h3⟩ => by
    have h4 := fr3 h3 (db := db) (lb := lb) (mb := mb) (by simp)
    exact ⟨h1, h.fr h4 h2, h4⟩
theorem step2_ok (h : ASt w x2 x6 x7 x8 xs g5 jb db lb mb N d nd F D) (hN : N + 1 < 2 ^ 64) (hd : D.dead = false) (hn : 2 ≤ D.n) (h0 : D.fuse ≠ 0) :
    Calls Try.prog 46 #[.pointer (some ⟨x2, 0, none⟩), .pointer (some ⟨x8, 0, none⟩)] w fun e w' => e = .returned (.int .i64 0) ∧ ASt w' x2 x6 x7 x8 xs g5 jb db lb mb N d nd F (D.burn.write ((N + 1) % 2) 1 (lsec (headL (N + 1) nd.length))) ∧ Fr [db, lb, mb] w w' :=
  (add2_ok w h.a.c2 h.j.cells.1 h.j.cells.2.1 h.a.b8 hN h.k hd hn h0).mono fun e w' ⟨h1, h2, h3⟩ => by
    have h4 := fr3 h3 (db := db) (lb := lb) (mb := mb) (by simp)
    exact ⟨h1, h.fr h4 h2, h4⟩
theorem step2_dead (h : ASt w x2 x6 x7 x8 xs g5 jb db lb mb N d nd F D) (hN : N + 1 < 2 ^ 64) (hd : D.dead = false) (hn : 2 ≤ D.n) (h0 : D.fuse = 0) :
    Calls Try.prog 46 #[.pointer (some ⟨x2, 0, none⟩), .pointer (some ⟨x8, 0, none⟩)] w fun e w' => e = .returned (.int .i64 120) ∧ ASt w' x2 x6 x7 x8 xs g5 jb db lb mb N d nd F { D with dead := true } ∧ Fr [db, lb, mb] w w' :=
  (add2_dead w h.a.c2 h.j.cells.1 h.j.cells.2.1 h.a.b8 hN h.k hd hn h0).mono fun e w' ⟨h1, h2, h3⟩ => by
    have h4 := fr3 h3 (db := db) (lb := lb) (mb := mb) (by simp)
    exact ⟨h1, h.fr h4 h2, h4⟩
theorem step1_ok (h : ASt w x2 x6 x7 x8 xs g5 jb db lb mb N d nd F D) (hd : D.dead = false) (h0 : D.fuse ≠ 0) :
    Calls Try.prog 19 #[.pointer (some ⟨db, 0, none⟩)] w fun e w' => e = .returned (.int .i64 0) ∧ ASt w' x2 x6 x7 x8 xs g5 jb db lb mb N d nd F D.synced ∧ Fr [db, lb, mb] w w' :=
  (sync_ok w h.k hd h0).mono fun e w' ⟨h1, h2, h3⟩ => by
    have h4 := fr3 h3 (db := db) (lb := lb) (mb := mb) (by simp)
    exact ⟨h1, h.fr h4 h2, h4⟩
theorem step1_dead (h : ASt w x2 x6 x7 x8 xs g5 jb db lb mb N d nd F D) (hd : D.dead = false) (h0 : D.fuse = 0) :
    Calls Try.prog 19 #[.pointer (some ⟨db, 0, none⟩)] w fun e w' => e = .returned (.int .i64 120) ∧ ASt w' x2 x6 x7 x8 xs g5 jb db lb mb N d nd F { D with dead := true } ∧ Fr [db, lb, mb] w w' :=
  (sync_burnt w h.k hd h0).mono fun e w' ⟨h1, h2, h3⟩ => by
    have h4 := fr3 h3 (db := db) (lb := lb) (mb := mb) (by simp)
    exact ⟨h1, h.fr h4 h2, h4⟩
end
end Go.Proofs.Ytgfdbjeliojhkaa
