/-
  Disk3: contract of Write. No condition.
-/
import Derived.Test.YtgfdbjeliojhkaaDisk2
namespace Go.Proofs.Ytgfdbjeliojhkaa
open Go.RowKit

def DK.write (D : DK) (a m : Nat) (f : Sec) : DK := { D with M := fun i => if a ≤ i ∧ i < a + m then some (fun j => f (64 * (i - a) + j)) else D.M i }

theorem write_nil (a : Int) (ao : Option Addr) (len cap : Nat) (hc : len ≤ maxLen) (w : World) :
    Calls Try.prog 14 #[.pointer none, .int .i64 a, .slice ao len cap] w fun e w' => e = .returned (.int .i64 8) ∧ w = w' := by
  unfold maxLen at hc
  by_cases hr : (len : Int) % 64 = 0
  · have hb : ((len : Int) % 64 != 0) = false := by simp [hr]
    go_enter Try.func14, Try.ntmps14
    go_wp2_with (go_at_call 34; refine (may_nil _ _ _).mono ?_; rintro e w' ⟨rfl, rfl⟩)
    go_ret
    exact ⟨rfl, rfl⟩
  · have hb : ((len : Int) % 64 != 0) = true := by simp [hr]
    go_enter Try.func14, Try.ntmps14
    go_wp2_with (go_at_call 34; refine (may_nil _ _ _).mono ?_; rintro e w' ⟨rfl, rfl⟩)
    go_ret
    exact ⟨rfl, rfl⟩

/-- how many sectors so many bytes are; -1: they are none -/
def secs (len : Nat) : Int := if len % 64 = 0 then ((len / 64 : Nat) : Int) else -1

theorem write_err {db lb mb : Nat} {D : DK} (a : Int) (ao : Option Addr) (len cap : Nat) (hc : len ≤ maxLen) (w : World) (h : DiskAt w db lb mb D) (ha : -9223372036854775808 ≤ a) (ha2 : a ≤ 9223372036854775807) (hE : mayE D a (secs len) ≠ 0) :
    Calls Try.prog 14 #[.pointer (some ⟨db, 0, none⟩), .int .i64 a, .slice ao len cap] w fun e w' => e = .returned (.int .i64 (mayE D a (secs len))) ∧ w = w' := by
  unfold maxLen at hc
  have t : (mayE D a (secs len) != 0) = true := by simpa using hE
  have H := Lib.hid h
  have HE := Lib.hid hE
  by_cases hr : len % 64 = 0
  · have hs : secs len = (len : Int) / 64 := by simp [secs, hr]
    rw [hs] at t ⊢
    have hb : ((len : Int) % 64 != 0) = false := by simp; omega
    have HS := Lib.hid hs
    have HR := Lib.hid hr
    clear h hE hs hr
    go_enter Try.func14, Try.ntmps14
    go_wp2_with (go_at_call 34; refine (may_some _ _ _ H.out ha ha2).mono ?_; rintro e w' ⟨rfl, rfl⟩)
    go_ret
    exact ⟨rfl, rfl⟩
  · have hs : secs len = -1 := by simp [secs, hr]
    rw [hs] at t ⊢
    have hb : ((len : Int) % 64 != 0) = true := by simp; omega
    have HS := Lib.hid hs
    have HR := Lib.hid hr
    clear h hE hs hr
    go_enter Try.func14, Try.ntmps14
    go_wp2_with (go_at_call 34; refine (may_some _ _ _ H.out ha ha2).mono ?_; rintro e w' ⟨rfl, rfl⟩)
    go_ret
    exact ⟨rfl, rfl⟩

theorem write_dead {db lb mb : Nat} {D : DK} (a m : Nat) (ao : Option Addr) (len cap : Nat) (hc : len ≤ maxLen) (w : World) (h : DiskAt w db lb mb D) (hm : len = 64 * m) (hd : D.dead = false) (ham : a + m ≤ D.n) (h0 : D.fuse = 0) :
    Calls Try.prog 14 #[.pointer (some ⟨db, 0, none⟩), .int .i64 (a : Int), .slice ao len cap] w fun e w' => e = .returned (.int .i64 120) ∧ DiskAt w' db lb mb { D with dead := true } ∧ Fr [db] w w' := by
  unfold maxLen at hc
  have hb : ((len : Int) % 64 != 0) = false := by simp; omega
  have hq : (len : Int) / 64 = (m : Int) := by omega
  have hE : mayE D a m = 0 := by simp only [mayE, hd]; rw [if_neg (by simp), if_neg (by omega)]
  have hB : burnE D = 120 := by simp [burnE, h0]
  have hD : D.burn = { D with dead := true } := by simp [DK.burn, h0]
  have HE := Lib.hid hE
  have HB := Lib.hid hB
  have HD := Lib.hid hD
  have H := Lib.hid h
  have n2 := h.n2
  have HM := Lib.hid hm
  clear h hE hB hD h0 hd hm
  go_enter Try.func14, Try.ntmps14
  go_wp2_with (first
    | (go_at_call 34; refine (may_some _ _ _ H.out (by omega) (by omega)).mono ?_; rw [HE.out]; rintro e w' ⟨rfl, rfl⟩)
    | (go_at_call 35; refine (burn_any _ H.out).mono ?_; rw [HB.out, HD.out]; rintro e w' ⟨rfl, hd1, hf1⟩))
  go_ret
  exact ⟨rfl, hd1, hf1⟩

theorem burn_n (D : DK) : D.burn.n = D.n := by unfold DK.burn; split <;> (try split) <;> rfl
theorem DiskAt.putM {w : World} {db lb mb : Nat} {D : DK} (h : DiskAt w db lb mb D) {o : Obj} {M : Nat → Option Sec} (hm : MapRep (w.drew.putObj mb o) mb D.n M) : DiskAt (w.drew.putObj mb o) db lb mb { D with M := M } :=
  ⟨h.n1, h.n2, h.f1, h.f2, (putObj_other h.ne2 o).trans h.d, (putObj_other h.ne3 o).trans h.l, hm⟩
theorem write_snoc (D : DK) (a k : Nat) (f : Sec) : updM (D.write a k f).M (a + k) (fun j => f (64 * k + j)) = (D.write a (k + 1) f).M := by
  funext i
  simp only [updM, DK.write]
  by_cases h : i = a + k
  · subst h
    rw [if_pos rfl, if_pos (by omega)]
    congr 1; funext j; rw [show a + k - a = k by omega]
  · rw [if_neg h]
    by_cases h2 : a ≤ i ∧ i < a + k
    · rw [if_pos h2, if_pos (by omega)]
    · rw [if_neg h2, if_neg (by omega)]
theorem write_zero' (D : DK) (a : Nat) (f : Sec) : D.write a 0 f = D := by
  have : (fun i => if a ≤ i ∧ i < a + 0 then some (fun j => f (64 * (i - a) + j)) else D.M i) = D.M := by
    funext i; rw [if_neg (by omega)]
  simp only [DK.write, this]

set_option maxRecDepth 100000 in
set_option maxHeartbeats 2000000 in
theorem write_pos {db lb mb : Nat} {D : DK} (a m b off len cap : Nat) (f : Sec) (w : World) (h : DiskAt w db lb mb D) (hm : 0 < m) (hlen : len = 64 * m) (hr : w.rangeAt b off (rowL (64 * m) f)) (hl1 : len ≤ cap) (hl2 : cap ≤ maxLen) (hk1 : b ≠ db) (hk2 : b ≠ mb)
    (hd : D.dead = false) (ham : a + m ≤ D.n) (h0 : D.fuse ≠ 0) :
    Calls Try.prog 14 #[.pointer (some ⟨db, 0, none⟩), .int .i64 (a : Int), .slice (some ⟨b, off, none⟩) len cap] w fun e w' => e = .returned (.int .i64 0) ∧ DiskAt w' db lb mb (D.burn.write a m f) ∧ Fr [db, mb] w w' := by
  unfold maxLen at hl2
  have hbl := rangeAt_lt hr (by omega)
  have hE : mayE D a m = 0 := by simp only [mayE, hd]; rw [if_neg (by simp), if_neg (by omega)]
  have hBE : burnE D = 0 := by simp [burnE, h0]
  have HE := Lib.hid hE
  have HBE := Lib.hid hBE
  have H := Lib.hid h
  have n2 := h.n2
  have HR := Lib.hid hr
  have hb : ((len : Int) % 64 != 0) = false := by simp; omega
  have hq : (len : Int) / 64 = (m : Int) := by omega
  have HM := Lib.hid hlen
  have hle : (len : Int) ≤ (cap : Int) := by omega
  clear h hE hBE h0 hd hlen hr
  go_enter Try.func14, Try.ntmps14
  go_wp2_with (first
    | (go_at_call 34; refine (may_some _ _ _ H.out (by omega) (by omega)).mono ?_; rw [HE.out]; rintro e w' ⟨rfl, rfl⟩)
    | (go_at_call 35; refine (burn_any _ H.out).mono ?_; rw [HBE.out]; rintro e w1 ⟨rfl, hd1, hf1⟩))
  have HD1 := Lib.hid hd1
  have HF1 := Lib.hid hf1
  have HR1 := Lib.hid (rangeAt_congr HR.out (hf1.block b hbl (by simpa using hk1)))
  have hs1 := hf1.size
  clear hd1 hf1
  go_loopw [31] (fun i wr => ∃ k : Nat, k ≤ m ∧ i = .int .i64 (k : Int) ∧ DiskAt wr db lb mb (D.burn.write a k f) ∧ Fr [mb] w1 wr) (fun i _ => m - (intOf i).toNat)
  case atStart => exact ⟨0, Nat.zero_le _, rfl, by rw [write_zero']; exact HD1.out, Fr.refl _ _⟩
  case round =>
    obtain ⟨k, hk, rfl, hdk, hfk⟩ := hrel
    have c1 := hdk.c1
    have HK := Lib.hid hdk
    have FK := Lib.hid hfk
    have hsk := hfk.size
    have HRk := Lib.hid (rangeAt_congr HR1.out (hfk.block b (by omega) (by simpa using hk2)))
    clear hdk hfk
    by_cases hlt : k < m
    · have hml := HM.out
      have hne : ¬ cap = k * 64 := by omega
      have hx1 : (k : Int) * 64 ≤ ((k : Int) + 1) * 64 := by omega
      have hx2 : ((k : Int) + 1) * 64 ≤ (cap : Int) := by omega
      have hx3 : 0 ≤ (k : Int) * 64 := by omega
      have hx4 : 0 ≤ ((k : Int) + 1) * 64 := by omega
      have hw1 : IntKind.i64.wrap ((k : Int) * 64) = (k : Int) * 64 := IntWalk.i64_in _ (by omega)
      have hw2 : IntKind.i64.wrap ((a : Int) + (k : Int)) = (a : Int) + (k : Int) := IntWalk.i64_in _ (by omega)
      have hw3 : IntKind.i64.wrap ((k : Int) + 1) = (k : Int) + 1 := IntWalk.i64_in _ (by omega)
      have hw4 : IntKind.i64.wrap (((k : Int) + 1) * 64) = ((k : Int) + 1) * 64 := IntWalk.i64_in _ (by omega)
      have hn1 : ((k : Int) * 64).toNat = k * 64 := by omega
      have hn2 : (((k : Int) + 1) * 64).toNat = (k + 1) * 64 := by omega
      have hx5 : (k : Int) ≤ (k : Int) + 1 := by omega
      have hn3 : (k + 1) * 64 - k * 64 = 64 := by omega
      have HLD := Lib.hid (rangeAt_sub HRk.out (k * 64) 64 (by omega))
      obtain ⟨o, hup, hmr⟩ := run_update_waits (P := Try.prog) (w := wr.drew) Try.underlying64 Try.underlying3 (HK.out.m.congrB (w' := wr.drew) rfl) (a + k) (by show a + k < D.burn.n; rw [burn_n]; omega) (fun j => f (64 * k + j))
      rw [show (((a + k : Nat)) : Int) = (a : Int) + (k : Int) by omega] at hup
      have HUP := Lib.hid hup
      have HMR := Lib.hid hmr
      have harr := fun ao c u => run_arrayAt (P := Try.prog) Try.underlying69 ao 64 c (Nat.le_refl _) u
      clear hml hup hmr
      go_wp2_with fail
      refine wp_region_still_tail 16 (by kernel_rfl) (by kernel_rfl) ?_
      simp only [List.take_succ_cons, List.take_zero, List.drop_succ_cons, List.drop_zero]
      iterate 15 still_step
      refine wpStill_load_arr rfl 69 _ rfl b (off + k * 64) rfl 64 _ _ (by exact HLD.out) Try.underlying69 rfl isz_sector ?_
      refine wpStill_nil ?_
      refine wpList_update_run rfl rfl rfl rfl rfl ((show (fun j => f (k * 64 + j)) = fun j => f (64 * k + j) by funext j; rw [Nat.mul_comm]) ▸ HUP.out) ?_
      clear hw1 hw2 hw3 hw4 hn1 hn2 hn3 harr hx1 hx2 hx3 hx4 hx5 hne
      go_wp2
      go_roundw
      case rel =>
        refine ⟨k + 1, by omega, by go_num, ?_, FK.out.trans ((Fr.drew _ wr).trans (Fr.putObj _ (by simp) _))⟩
        have := HK.out.putM (o := o) HMR.out
        rw [write_snoc] at this
        exact this
      case measure => simp [intOf]; omega
    · obtain rfl : k = m := by omega
      go_wp2
      go_ret
      exact ⟨rfl, HK.out, (HF1.out.mono (by simp)).trans (FK.out.mono (by simp))⟩

theorem write_zero {db lb mb : Nat} {D : DK} (a : Nat) (ao : Option Addr) (cap : Nat) (w : World) (h : DiskAt w db lb mb D) (hd : D.dead = false) (ham : a ≤ D.n) (h0 : D.fuse ≠ 0) :
    Calls Try.prog 14 #[.pointer (some ⟨db, 0, none⟩), .int .i64 (a : Int), .slice ao 0 cap] w fun e w' => e = .returned (.int .i64 0) ∧ DiskAt w' db lb mb D.burn ∧ Fr [db, mb] w w' := by
  have hE : mayE D a 0 = 0 := by simp only [mayE, hd]; rw [if_neg (by simp), if_neg (by omega)]
  have hBE : burnE D = 0 := by simp [burnE, h0]
  have HE := Lib.hid hE
  have HBE := Lib.hid hBE
  have H := Lib.hid h
  have n2 := h.n2
  clear h hE hBE h0 hd
  go_enter Try.func14, Try.ntmps14
  go_wp2_with (first
    | (go_at_call 34; refine (may_some _ _ _ H.out (by omega) (by omega)).mono ?_; rw [HE.out]; rintro e w' ⟨rfl, rfl⟩)
    | (go_at_call 35; refine (burn_any _ H.out).mono ?_; rw [HBE.out]; rintro e w1 ⟨rfl, hd1, hf1⟩))
  have HD1 := Lib.hid hd1
  have HF1 := Lib.hid hf1
  clear hd1 hf1
  refine wp_loop_rounds 1 ?_
  rw [rounds_succ]
  go_wp2
  go_ret
  exact ⟨rfl, HD1.out, HF1.out.mono (by simp)⟩

theorem write_ok {db lb mb : Nat} {D : DK} (a m : Nat) (v : Value) (f : Sec) (w : World) (h : DiskAt w db lb mb D) (hB : BytesAt w v (64 * m) f) (hblk : 0 < m → ∀ k, v.ownBlock = some k → k ≠ db ∧ k ≠ mb)
    (hd : D.dead = false) (ham : a + m ≤ D.n) (h0 : D.fuse ≠ 0) :
    Calls Try.prog 14 #[.pointer (some ⟨db, 0, none⟩), .int .i64 (a : Int), v] w fun e w' => e = .returned (.int .i64 0) ∧ DiskAt w' db lb mb (D.burn.write a m f) ∧ Fr [db, mb] w w' := by
  obtain ⟨ao, cap, rfl, hl1, hl2, hl3, hl4⟩ := hB
  rcases Nat.eq_zero_or_pos m with rfl | hm
  · rw [write_zero']
    exact write_zero a ao cap w h hd (by omega) h0
  · obtain ⟨b, off, rfl, hr⟩ := hl4 (by omega)
    obtain ⟨k1, k2⟩ := hblk hm b rfl
    exact write_pos a m b off (64 * m) cap f w h hm rfl hr hl1 hl2 k1 k2 hd ham h0
end Go.Proofs.Ytgfdbjeliojhkaa
