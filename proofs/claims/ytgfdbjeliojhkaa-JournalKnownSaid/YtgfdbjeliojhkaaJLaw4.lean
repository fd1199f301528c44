/-
  JLaw4: what a disk opens as, whose heads were written by hand; what waits on one sector alone, and lasts. Plain law. No condition beyond those stated.
-/
import Derived.Test.YtgfdbjeliojhkaaJour23
namespace Go.Proofs.Ytgfdbjeliojhkaa
/-- what heads and data open as -/
def openW (h0 h1 dd : List UInt8) (room : Nat) : Option (Nat × List UInt8) := match pickH (readS h0 room) (readS h1 room) with
  | none => none
  | some (N, L) => if recs (dd.take L) = none then none else some (N, dd.take L)
structure WS (D : DK) (h0 h1 dd : List UInt8) : Prop where
  n : D.n = 4
  dead : D.dead = false
  fuse : D.fuse = -1
  l0 : h0.length = 64
  l1 : h1.length = 64
  ld : dd.length = 128
  s0 : ∀ j, j < 64 → D.now (64 * 0 + j) = lsec h0 j
  s1 : ∀ j, j < 64 → D.now (64 * 1 + j) = lsec h1 j
  sd : ∀ j, j < 128 → D.now (64 * 2 + j) = lsec dd j
theorem pickF_H (D : DK) : pickF D = pickH (readS (secL 64 (hd0 D)) ((D.n - 2) * 64)) (readS (secL 64 (hd1 D)) ((D.n - 2) * 64)) := by
  rw [readS_okH, readS_okH]
  unfold pickF
  cases h0 : okH (hd0 D) ((D.n - 2) * 64) <;> cases h1 : okH (hd1 D) ((D.n - 2) * 64) <;> simp [pickH]
theorem readS_le {s : List UInt8} {room N L : Nat} (h : readS s room = some (N, L)) : L ≤ room := (readS_some h).2.1
theorem pickH_le {a b : Option (Nat × Nat)} {room N L : Nat} (ha : ∀ N L, a = some (N, L) → L ≤ room) (hb : ∀ N L, b = some (N, L) → L ≤ room) (h : pickH a b = some (N, L)) : L ≤ room := by
  cases a with
  | none => cases b with
    | none => simp [pickH] at h
    | some y => simp [pickH] at h; exact hb N L (by rw [h])
  | some x => cases b with
    | none => simp [pickH] at h; exact ha N L (by rw [h])
    | some y =>
      simp only [pickH] at h
      split at h
      · exact hb N L h
      · exact ha N L h
theorem WS.open {D : DK} {h0 h1 dd : List UInt8} (h : WS D h0 h1 dd) : openD D = openW h0 h1 dd 128 := by
  have e0 : secL 64 (hd0 D) = h0 := sec_eq (g := lsec h0) h.s0 h0 h.l0 rfl
  have e1 : secL 64 (hd1 D) = h1 := sec_eq (g := lsec h1) h.s1 h1 h.l1 rfl
  unfold openD openW
  rw [pickF_H, e0, e1, h.n]
  show (match pickH (readS h0 128) (readS h1 128) with | none => none | some (N, L) => _) = _
  cases hp : pickH (readS h0 128) (readS h1 128) with
  | none => rfl
  | some p =>
    obtain ⟨N, L⟩ := p
    have hL := pickH_le (fun N L h => readS_le h) (fun N L h => readS_le h) hp
    have ed : secL L (dat D) = dd.take L := by
      have h1 : secL L (dat D) = secL L (lsec dd) := secL_congr fun j hj => h.sd j (by omega)
      have h2 := secL_lsec dd
      rw [h1, ← secL_take dd.length L (lsec dd) (by rw [h.ld]; exact hL), h2]
    simp only [ed]
theorem WS.w0 {D : DK} {h0 h1 dd g : List UInt8} (h : WS D h0 h1 dd) (hg : g.length = 64) : WS (D.burn.write 0 1 (lsec g)) g h1 dd := by
  have hb : D.burn = D := burn_off h.fuse
  rw [hb]
  refine ⟨h.n, h.dead, h.fuse, hg, h.l1, h.ld, fun j hj => ?_, fun j hj => ?_, fun j hj => ?_⟩
  · rw [write_now _ _ _ _ _ _ hj, if_pos (by omega)]; congr 1; omega
  · rw [write_now _ _ _ _ _ _ hj, if_neg (by omega)]; exact h.s1 j hj
  · have e : 64 * 2 + j = 64 * (2 + j / 64) + j % 64 := by omega
    rw [e, write_now _ _ _ _ _ _ (by omega), if_neg (by omega), ← e]; exact h.sd j hj
theorem WS.w1 {D : DK} {h0 h1 dd g : List UInt8} (h : WS D h0 h1 dd) (hg : g.length = 64) : WS (D.burn.write 1 1 (lsec g)) h0 g dd := by
  have hb : D.burn = D := burn_off h.fuse
  rw [hb]
  refine ⟨h.n, h.dead, h.fuse, h.l0, hg, h.ld, fun j hj => ?_, fun j hj => ?_, fun j hj => ?_⟩
  · rw [write_now _ _ _ _ _ _ hj, if_neg (by omega)]; exact h.s0 j hj
  · rw [write_now _ _ _ _ _ _ hj, if_pos (by omega)]; congr 1; omega
  · have e : 64 * 2 + j = 64 * (2 + j / 64) + j % 64 := by omega
    rw [e, write_now _ _ _ _ _ _ (by omega), if_neg (by omega), ← e]; exact h.sd j hj
/-- the example's data -/
def exD : List UInt8 := encAll [[97, 98, 99], List.replicate 117 0]
def exT : List UInt8 := (headL 1 7).take 63 ++ [9]
def exU : List UInt8 := (headL 9 7).take 20 ++ (headL 9 7).take 44
theorem ex1 : openW (headL 0 0) (headL 1 7) exD 128 = some (1, encAll [[97, 98, 99]]) := by decide +kernel
theorem ex2 : openW (headL 0 0) exT exD 128 = some (0, encAll []) := by decide +kernel
theorem ex3 : openW exU exT exD 128 = none := by decide +kernel
theorem ex4 : openW (headL 9 129) exT exD 128 = none := by decide +kernel
theorem ex5 : openW (headL 9 6) exT exD 128 = none := by decide +kernel
theorem ex6 : openW (headL 9 8) exT exD 128 = none := by decide +kernel
/-- fates that let all that waits last -/
theorem restK_full (D : DK) (fate : Nat → Nat) (hle : ∀ k, fate k ≤ 64) : ∀ k i, (k ≤ i → ∀ j, j < 64 → (restK D fate (wl D k)).2 (i * 64 + j) = D.L (i * 64 + j)) ∧
    (i < D.n → i < k → fate (wl D i).length = 64 → ∀ j, j < 64 → (restK D fate (wl D k)).2 (i * 64 + j) = D.now (i * 64 + j)) := by
  intro k
  induction k with
  | zero => exact fun i => ⟨fun _ j _ => rfl, fun _ h => absurd h (Nat.not_lt_zero _)⟩
  | succ k ih =>
    intro i
    by_cases h : k < D.n ∧ (D.M k).isSome = true
    · rw [wl_some h.1 h.2, restK_snoc]
      obtain ⟨c, hc⟩ : ∃ c, fate (wl D k).length = c := ⟨_, rfl⟩
      have hc64 : c ≤ 64 := by rw [← hc]; exact hle _
      rw [hc]
      have hne : i ≠ k → ∀ j, j < 64 → splF (restK D fate (wl D k)).2 (k * 64) c (secW D ⟨k, h⟩) (i * 64 + j) = (restK D fate (wl D k)).2 (i * 64 + j) := by
        intro hik j hj
        simp only [splF]
        rw [if_neg]
        omega
      refine ⟨fun hik j hj => ?_, fun hi hik hf j hj => ?_⟩
      · rw [hne (by omega) j hj]; exact (ih i).1 (by omega) j hj
      · by_cases e : i = k
        · subst e
          have hc2 : c = 64 := hc.symm.trans hf
          subst hc2
          simp only [splF]
          obtain ⟨s, hs⟩ := Option.isSome_iff_exists.1 h.2
          rw [if_pos (by omega), now_some hs (by omega)]
          simp only [secW, hs, Option.getD_some]
          rw [show i * 64 + j - i * 64 = j by omega, show (i * 64 + j) % 64 = j by omega]
        · rw [hne e j hj]; exact (ih i).2 hi (by omega) hf j hj
    · have : wl D (k + 1) = wl D k := by simp [wl, h]
      rw [this]
      refine ⟨fun hik j hj => (ih i).1 (by omega) j hj, fun hi hik hf j hj => ?_⟩
      by_cases e : i = k
      · subst e
        rw [(ih i).1 (Nat.le_refl _) j hj]
        have hM : D.M i = none := by
          cases hm : D.M i with
          | none => rfl
          | some s => exact absurd ⟨hi, by rw [hm]; rfl⟩ h
        exact (now_none hM (by omega)).symm
      · exact (ih i).2 hi (by omega) hf j hj
/-- a crash ahead of the last Sync but one: nothing is added -/
theorem JK.crash_early {D : DK} {rs : List (List UInt8)} {r : List UInt8} (h : JK D.n D.now rs) (hM : D.M = fun _ => none) (hf : (encAll rs).length + 4 + r.length ≤ (D.n - 2) * 64) (fate : Nat → Nat) (hfate : ∀ k, fate k ≤ 64) {D' : DK}
    (hD' : D' = DK.restart { stg D rs.length (encAll rs) (encAll rs ++ encR r) 1 with dead := true } fate) : JK D'.n D'.now rs := by
  have hn : D'.n = D.n := by rw [hD']; exact stg_n D rs.length (encAll rs) (encAll rs ++ encR r) 1
  have n4 := h.c.n4
  have fit := h.c.fit
  obtain ⟨nd, hnd⟩ : ∃ nd, encAll rs ++ encR r = nd := ⟨_, rfl⟩
  rw [hnd] at hD'
  have hpre : ∀ j, j < (encAll rs).length → lsec nd j = lsec (encAll rs) j := fun j hj => by rw [← hnd]; exact lsec_append_lt hj
  have mix : ∀ i, i < D.n → ∃ c, c ≤ 64 ∧ ∀ j, j < 64 → D'.now (64 * i + j) = if j < c then (st1 D (encAll rs) nd).now (64 * i + j) else (st1 D (encAll rs) nd).L (64 * i + j) := fun i hi => by
    obtain ⟨c, h1, h2⟩ := restart_at { stg D rs.length (encAll rs) nd 1 with dead := true } fate hfate (i := i) (by rw [show ({ stg D rs.length (encAll rs) nd 1 with dead := true } : DK).n = D.n from stg_n D rs.length (encAll rs) nd 1]; exact hi)
    exact ⟨c, h1, fun j hj => by rw [hD', Nat.mul_comm 64 i]; exact h2 j hj⟩
  have hDL := now_L hM
  rw [hn]
  refine h.sub (fun i j hi hj => ?_) (fun q hq => ?_)
  · obtain ⟨c, _, h2⟩ := mix i (by omega)
    have e0 : (st1 D (encAll rs) nd).now (64 * i + j) = D.now (64 * i + j) := by rw [st1_now _ _ _ _ _ hj, if_neg (by omega)]
    rw [h2 j hj, e0, st1_L, ← hDL]
    split <;> rfl
  · obtain ⟨c, _, h2⟩ := mix (2 + q / 64) (by omega)
    have h3 := h2 (q % 64) (by omega)
    have e : 64 * (2 + q / 64) + q % 64 = 64 * 2 + q := by omega
    have h4 : (st1 D (encAll rs) nd).now (64 * (2 + q / 64) + q % 64) = D.now (64 * 2 + q) := by
      rw [st1_now _ _ _ _ _ (by omega)]
      split
      · rw [show 64 * (2 + q / 64 - 2) + q % 64 = q by omega, hpre q hq, h.c.dat q hq]
      · rw [e]
    rw [h4, st1_L, ← hDL, e] at h3
    rw [h3]
    split <;> rfl
/-- a crash behind the head's Write, all of which lasts: the first record is added -/
theorem JK.crash_full {D : DK} {r : List UInt8} (h : JK D.n D.now []) (hr : r.length < 2 ^ 32) (hf : 4 + r.length ≤ (D.n - 2) * 64) (fate : Nat → Nat) (hfate : ∀ k, fate k ≤ 64) (h0 : fate 0 = 64) {D' : DK}
    (hD' : D' = DK.restart { stg D 0 [] (encR r) 3 with dead := true } fate) : JK D'.n D'.now [r] := by
  have hn : D'.n = D.n := by rw [hD']; exact stg_n D 0 [] (encR r) 3
  have hadd := h.add hr (by simpa [encAll] using hf)
  have n4 := h.c.n4
  rw [hn]
  refine hadd.congr (n := D.n) fun i j hi hj => ?_
  show D'.now (64 * i + j) = (st4 D 0 [] (encR r)).now (64 * i + j)
  rw [st4_now]
  obtain ⟨E, hE⟩ : ∃ E : DK, E = { stg D 0 [] (encR r) 3 with dead := true } := ⟨_, rfl⟩
  have hEn : E.n = D.n := by rw [hE]; exact stg_n D 0 [] (encR r) 3
  have hEnow : E.now = (st3 D 0 [] (encR r)).now := by rw [hE]; rfl
  have hEM : ∀ i, i ≠ 1 → E.M i = none := fun i hi => by
    rw [hE]
    show (if 1 ≤ i ∧ i < 1 + 1 then _ else (st2 D [] (encR r)).burn.M i) = none
    rw [if_neg (by omega), burn_M]; rfl
  rw [← hE] at hD'
  by_cases e1 : i = 1
  · subst e1
    have hw : (wl E 1).length = 0 := by simp [wl, hEM 0 (by omega)]
    have h3 := (restK_full E fate hfate E.n 1).2 (by omega) (by omega) (by rw [hw]; exact h0) j hj
    rw [← hEnow, ← (show 1 * 64 + j = 64 * 1 + j by omega), ← h3, hD']
    rfl
  · obtain ⟨c, _, h2⟩ := restart_at E fate hfate (i := i) (by omega)
    have h3 := h2 j hj
    rw [hD', ← hEnow, Nat.mul_comm 64 i, h3]
    split
    · rfl
    · exact (now_none (hEM i e1) (by omega)).symm
end Go.Proofs.Ytgfdbjeliojhkaa
