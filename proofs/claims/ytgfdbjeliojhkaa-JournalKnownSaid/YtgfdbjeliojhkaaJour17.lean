/-
  Jour17: Restart of a disk on which nothing waits; keeps. No condition beyond those stated.
-/
import Derived.Test.YtgfdbjeliojhkaaJour16
import Derived.Lib.SmallJoins
namespace Go.Proofs.Ytgfdbjeliojhkaa
open Go.RowKit
theorem JC.congr {n : Nat} {F G : Sec} {rs : List (List UInt8)} (h : JC n F rs) (e : ∀ i j, i < n → j < 64 → G (64 * i + j) = F (64 * i + j)) : JC n G rs := by
  have n4 := h.n4
  have hf := h.fit
  refine ⟨h.n4, h.fit, fun j hj => ?_, fun j hj => ?_, fun N' L' hh => h.ho N' L' ?_, h.sm, h.nl⟩
  · rw [show 64 * 2 + j = 64 * (2 + j / 64) + j % 64 by omega, e _ _ (by omega) (by omega), ← show 64 * 2 + j = 64 * (2 + j / 64) + j % 64 by omega]; exact h.dat j hj
  · rw [e _ _ (by omega) hj]; exact h.hp j hj
  · rw [← hh]; congr 1; exact secL_congr (fun j hj => (e _ _ (by omega) hj).symm)
theorem restart_held {db lb mb : Nat} {D : DK} {rs : List (List UInt8)} (w : World) (h : DiskAt w db lb mb D) (hc : JC D.n D.now rs) (hM : D.M = fun _ => none) :
    Calls Try.prog 16 #[.pointer (some ⟨db, 0, none⟩), .slice none 0 0] w fun e w' => e = .returned (.tuple #[]) ∧ (∃ D', DH w' db lb mb D' rs ∧ D'.n = D.n) ∧ Fr [db, lb, mb] w w' := by
  refine (restart_some w h (.slice none 0 0) 0 (fun _ => 0) ⟨none, 0, rfl, Nat.le_refl _, Nat.zero_le _, (fun _ => by simp), fun hm => absurd hm (Nat.lt_irrefl 0)⟩ (fun hm => absurd hm (Nat.lt_irrefl 0))).mono ?_
  rintro e w' ⟨rfl, hd, hf⟩
  refine ⟨rfl, ⟨_, ⟨hd, hc.congr (G := (D.restart (fateN 0 fun _ => 0)).now) (fun i j hi hj => ?_), rfl, rfl⟩, rfl⟩, hf⟩
  obtain ⟨c, _, h2⟩ := restart_at D (fateN 0 fun _ => 0) (fateN_le _ _) hi
  have hnow : D.now = D.L := by funext k; exact now_none (i := k / 64) (by rw [hM]) rfl
  rw [Nat.mul_comm 64 i, h2 j hj, hnow]
  simp
set_option maxRecDepth 100000 in
set_option maxHeartbeats 4000000 in
theorem keeps13_true (w : World) : Calls Try.prog 29 #[] w fun e w' => e = .returned (.bool true) ∧ Fr [] w w' := by
  go_enter Try.func29, Try.ntmps29
  go_wp2_with fail
  refine (new_held 4 w (by omega) (by omega)).mono ?_
  rintro e w1 ⟨rfl, hd1, hf1, hs1⟩
  have HD1 := Lib.hid hd1
  have HF1 := Lib.hid hf1
  have s1 : w.heap.size + 3 ≤ w1.heap.size := by omega
  clear hd1 hf1 hs1
  go_wp2_with fail
  refine (open_held w1 HD1.out).mono ?_
  rintro e w2 ⟨jb, rfl, hj2, hjb, hf2⟩
  have HD2 := Lib.hid (HD1.out.fr0 hf2)
  have HF2 := Lib.hid (HF1.out.trans hf2)
  have HJ2 := Lib.hid hj2
  have s2 := hf2.size
  clear hj2 hf2 HD1 HF1
  go_wp2_with fail
  refine (room_held w2 HJ2.out HD2.out).mono ?_
  rintro e w3 ⟨rfl, hf3⟩
  have HD3 := Lib.hid (HD2.out.fr0 hf3)
  have HF3 := Lib.hid (HF2.out.trans hf3)
  have HJ3 := Lib.hid (HJ2.out.fr0 hf3)
  have s3 := hf3.size
  have er : roomI (DK.fresh 4).n (encAll ([] : List (List UInt8))).length = 124 := by decide
  rw [er]
  clear hf3 HD2 HF2 HJ2 er
  have hcv   := Lib.run_convert_bytes_const (P := Try.prog) w3 31 5 #[.int .u8 97, .int .u8 98, .int .u8 99] 3 3 Try.underlying31 Try.underlying5
  simp only [List.size_toArray, List.length_cons, List.length_nil, Nat.reduceAdd] at hcv
  go_wp2_with fail
  clear hcv
  have q0 := heap_alloc_new w3 (.cells #[.int .u8 97, .int .u8 98, .int .u8 99] 5 (3, 4))
  have q1 : Fr [] w3 (w3.alloc (.cells #[.int .u8 97, .int .u8 98, .int .u8 99] 5 (3, 4))) := Fr.alloc _ _ _
  obtain ⟨w4, hw4⟩ : ∃ w4, w3.alloc (.cells #[.int .u8 97, .int .u8 98, .int .u8 99] 5 (3, 4)) = w4 := ⟨_, rfl⟩
  rw [hw4] at q0 q1 ⊢
  have HD4 := Lib.hid (HD3.out.fr0 q1)
  have HF4 := Lib.hid (HF3.out.trans q1)
  have HJ4 := Lib.hid (HJ3.out.fr0 q1)
  have s4 := q1.size
  have hb4 : BytesAt w4 (.slice (some ⟨w3.heap.size, 0, none⟩) ([97, 98, 99] : List UInt8).length 3) ([97, 98, 99] : List UInt8).length (lsec [97, 98, 99]) :=
    ⟨_, 3, rfl, Nat.le_refl _, by unfold maxLen; simp, (fun e => by cases e), fun _ => ⟨_, 0, rfl, rangeAt_row0 (n := 3) (f := lsec [97, 98, 99]) q0⟩⟩
  have HB4 := Lib.hid hb4
  clear hw4 q0 q1 HD3 HF3 HJ3 hb4
  refine (add_held (r := [97, 98, 99]) (some ⟨w3.heap.size, 0, none⟩) 3 w4 HJ4.out HD4.out HB4.out (by decide) (by decide)).mono ?_
  rintro e w5 ⟨rfl, ⟨D5, hd5, hn5, hm5⟩, hj5, hf5, _⟩
  have HF5 := Lib.hid (HF4.out.then_new hf5 (by simp; omega))
  have HD5 := Lib.hid hd5
  have HM5 := Lib.hid hm5
  have HN5 := Lib.hid hn5
  have s5 := hf5.size
  clear hd5 hm5 hn5 hj5 hf5 HD4 HF4 HJ4 HB4
  go_wp2_with fail
  refine (restart_held w5 HD5.out.k HD5.out.c HM5.out).mono ?_
  rintro e w6 ⟨rfl, ⟨D6, hd6, hn6⟩, hf6⟩
  have HF6 := Lib.hid (HF5.out.then_new hf6 (by simp))
  have HD6 := Lib.hid hd6
  have HN6 := Lib.hid (hn6.trans HN5.out)
  have s6 := hf6.size
  clear hd6 hn6 hf6 HD5 HF5 HM5 HN5
  go_wp2_with fail
  refine (open_held w6 HD6.out).mono ?_
  rintro e w7 ⟨kb, rfl, hj7, hkb, hf7⟩
  have HD7 := Lib.hid (HD6.out.fr0 hf7)
  have HF7 := Lib.hid (HF6.out.trans hf7)
  have HJ7 := Lib.hid hj7
  have s7 := hf7.size
  clear hj7 hf7 HD6 HF6
  go_wp2_with fail
  refine (recs_held w7 HJ7.out HD7.out.c.sm HD7.out.len).mono ?_
  rintro e w8 ⟨v8, rfl, hb8, hf8⟩
  have HD8 := Lib.hid (HD7.out.fr0 hf8)
  have HF8 := Lib.hid (HF7.out.trans hf8)
  have HJ8 := Lib.hid (HJ7.out.fr0 hf8)
  have s8 := hf8.size
  obtain ⟨ao8, cap8, rfl, h81, h82, h83⟩ := hb8.at
  obtain ⟨b8, o8, rfl, h84⟩ := h83 (by simp)
  obtain ⟨u8, h85, h86⟩ := h84 0 [97, 98, 99] rfl
  have HB8 := Lib.hid h86
  have hcv : (convert 31 9 u8).run Try.prog w8 = .ok (.string ⟨#[97, 98, 99]⟩) w8 := conv_bytes h86
  have h85' : w8.cell? ⟨b8, o8, none⟩ = some u8 := h85
  clear hf8 HD7 HF7 HJ7 h83 h84 h85 h86
  go_wp2_with fail
  refine (room_held w8 HJ8.out HD8.out).mono ?_
  rintro e w9 ⟨rfl, hf9⟩
  have HF9 := Lib.hid (HF8.out.trans hf9)
  have er : roomI D6.n (encAll ([] ++ [[97, 98, 99]] : List (List UInt8))).length = 117 := by rw [HN6.out]; decide
  rw [er]
  clear hf9 er
  go_wp2_with fail
  go_ret
  exact ⟨rfl, HF9.out⟩
end Go.Proofs.Ytgfdbjeliojhkaa
