/-
  JLaw: what a disk that holds records opens as, and what Add makes of it: plain law. No condition beyond those stated.
-/
import Derived.Test.YtgfdbjeliojhkaaJour15
namespace Go.Proofs.Ytgfdbjeliojhkaa
/-- the disk holds these records: the head that counts, the other one, the data -/
structure JC (n : Nat) (F : Sec) (rs : List (List UInt8)) : Prop where
  n4 : 4 ≤ n
  fit : (encAll rs).length ≤ (n - 2) * 64
  dat : ∀ j, j < (encAll rs).length → F (64 * 2 + j) = lsec (encAll rs) j
  hp : ∀ j, j < 64 → F (64 * (rs.length % 2) + j) = lsec (headL rs.length (encAll rs).length) j
  ho : ∀ N' L', readS (secL 64 fun j => F (64 * ((rs.length + 1) % 2) + j)) ((n - 2) * 64) = some (N', L') → N' < rs.length ∨ (N' = rs.length ∧ L' = (encAll rs).length)
  sm : ∀ r ∈ rs, r.length < 2 ^ 32
  nl : n ≤ 4096
theorem encAll_ge (rs : List (List UInt8)) : 4 * rs.length ≤ (encAll rs).length := by
  induction rs with
  | nil => simp [encAll]
  | cons r l ih => rw [encAll_cons, List.length_append, encR_len, List.length_cons]; omega
theorem JC.cnt {n : Nat} {F : Sec} {rs : List (List UInt8)} (h : JC n F rs) : rs.length < 2 ^ 32 ∧ (encAll rs).length < 2 ^ 32 := by
  have h1 := encAll_ge rs
  have h2 := h.fit
  have h3 := h.nl
  omega
theorem sec_eq {f g : Sec} (h : ∀ j, j < 64 → f j = g j) (l : List UInt8) (hl : l.length = 64) (hg : g = lsec l) : secL 64 f = l := by
  subst hg
  rw [secL_congr h]
  have := secL_lsec l
  rw [hl] at this
  exact this
theorem okH_of {f : Sec} {room N L : Nat} (h : readS (secL 64 f) room = some (N, L)) : okH f room = true ∧ hN f = N ∧ hL f = L := by
  rw [readS_okH] at h
  split at h
  · rename_i h1
    have h2 := Option.some.inj h
    exact ⟨h1, congrArg Prod.fst h2, congrArg Prod.snd h2⟩
  · cases h
theorem of_okH {f : Sec} {room : Nat} (h : okH f room = true) : readS (secL 64 f) room = some (hN f, hL f) := by rw [readS_okH, if_pos h]
theorem pick_of {D : DK} {rs : List (List UInt8)} (h : JC D.n D.now rs) : pickF D = some (rs.length, (encAll rs).length) := by
  obtain ⟨c1, c2⟩ := h.cnt
  have hfit := h.fit
  have hr : readS (secL 64 fun j => D.now (64 * (rs.length % 2) + j)) ((D.n - 2) * 64) = some (rs.length, (encAll rs).length) := by
    rw [sec_eq (g := lsec (headL rs.length (encAll rs).length)) h.hp _ (headL_len _ _) rfl]
    exact readS_head (by omega) (by omega) hfit
  have ho := h.ho
  unfold pickF
  rcases Nat.mod_two_eq_zero_or_one rs.length with e | e
  · rw [e] at hr
    have e2 : (rs.length + 1) % 2 = 1 := by omega
    rw [e2] at ho
    obtain ⟨a1, a2, a3⟩ := okH_of (f := hd0 D) hr
    rw [if_pos a1, a2, a3]
    split
    · rename_i hc
      obtain ⟨b1, b2⟩ := hc
      rcases ho _ _ (of_okH (f := hd1 D) b1) with h1 | ⟨h1, h2⟩
      · omega
      · rw [h1, h2]
    · rfl
  · rw [e] at hr
    have e2 : (rs.length + 1) % 2 = 0 := by omega
    rw [e2] at ho
    obtain ⟨a1, a2, a3⟩ := okH_of (f := hd1 D) hr
    rw [a1, a2, a3]
    split
    · rename_i hc
      split
      · rfl
      · rename_i hc2
        rcases ho _ _ (of_okH (f := hd0 D) hc) with h1 | ⟨h1, h2⟩
        · exact absurd ⟨rfl, h1⟩ hc2
        · rw [h1, h2]
    · simp
theorem open_of {D : DK} {rs : List (List UInt8)} (h : JC D.n D.now rs) : openD D = some (rs.length, encAll rs) := by
  unfold openD
  rw [pick_of h]
  simp only []
  have hd : secL (encAll rs).length (dat D) = encAll rs := by
    rw [secL_congr (f := dat D) (g := lsec (encAll rs)) (fun j hj => h.dat j hj), secL_lsec]
  rw [hd, recs_enc rs h.sm]
  simp
/-! what Add makes -/
theorem synced_now (D : DK) : D.synced.now = D.now := by
  funext j
  unfold DK.synced
  rfl
theorem write_now (D : DK) (a m : Nat) (f : Sec) (i j : Nat) (hj : j < 64) : (D.write a m f).now (64 * i + j) = if a ≤ i ∧ i < a + m then f (64 * (i - a) + j) else D.now (64 * i + j) := by
  have e1 : (64 * i + j) / 64 = i := by omega
  have e2 : (64 * i + j) % 64 = j := by omega
  unfold DK.now DK.write
  simp only [e1, e2]
  by_cases h : a ≤ i ∧ i < a + m
  · simp only [if_pos h]
  · simp only [if_neg h]
theorem st3_now (D : DK) (N : Nat) (d nd : List UInt8) (i j : Nat) (hj : j < 64) : (st3 D N d nd).now (64 * i + j) = if i = (N + 1) % 2 then lsec (headL (N + 1) nd.length) j else
    if 2 + d.length / 64 ≤ i ∧ i < 2 + d.length / 64 + (secsUp nd.length - d.length / 64) then lsec nd (64 * (i - 2) + j) else D.now (64 * i + j) := by
  unfold st3
  rw [write_now _ _ _ _ _ _ hj, burn_now]
  by_cases h : i = (N + 1) % 2
  · rw [if_pos (by omega), if_pos h]
    congr 1
    omega
  · rw [if_neg (by omega), if_neg h]
    unfold st2
    rw [synced_now]
    unfold st1
    rw [write_now _ _ _ _ _ _ hj, burn_now]
    split
    · congr 1
      omega
    · rfl
theorem st4_now (D : DK) (N : Nat) (d nd : List UInt8) : (st4 D N d nd).now = (st3 D N d nd).now := synced_now _
theorem lsec_app (a b : List UInt8) (j : Nat) (h : j < a.length) : lsec (a ++ b) j = lsec a j := lsec_append_lt h
/-- a record that there is room for is added -/
theorem JC.add {D : DK} {rs : List (List UInt8)} {r : List UInt8} (h : JC D.n D.now rs) (hr : r.length < 2 ^ 32) (hf : (encAll rs).length + 4 + r.length ≤ (D.n - 2) * 64) : JC D.n (st4 D rs.length (encAll rs) (encAll rs ++ encR r)).now (rs ++ [r]) := by
  have e : encAll (rs ++ [r]) = encAll rs ++ encR r := by rw [encAll_append, encAll_one]
  have el : (encAll rs ++ encR r).length = (encAll rs).length + 4 + r.length := by rw [List.length_append, encR_len]; omega
  obtain ⟨nd, hnd⟩ : ∃ nd, encAll rs ++ encR r = nd := ⟨_, rfl⟩
  obtain ⟨d, hd⟩ : ∃ d, encAll rs = d := ⟨_, rfl⟩
  have hN := h.hp
  have hD := h.dat
  obtain ⟨c1, c2⟩ := h.cnt
  have hpre : ∀ j, j < d.length → lsec nd j = lsec d j := fun j hj => by rw [← hnd, hd]; exact lsec_append_lt hj
  rw [hnd] at e el ⊢
  rw [hd] at hf el hN hD c2 ⊢
  refine ⟨h.n4, by rw [e]; omega, fun j hj => ?_, fun j hj => ?_, fun N' L' hh => ?_, fun x hx => ?_, h.nl⟩
  · rw [e] at hj ⊢
    rw [show 64 * 2 + j = 64 * (2 + j / 64) + j % 64 by omega, st4_now, st3_now _ _ _ _ _ _ (by omega), if_neg (by omega)]
    unfold secsUp
    split
    · congr 1
      omega
    · rename_i hc
      have hjd : j < d.length := by omega
      rw [show 64 * (2 + j / 64) + j % 64 = 64 * 2 + j by omega, hD j hjd, hpre j hjd]
  · rw [e, List.length_append, List.length_singleton, st4_now, st3_now _ _ _ _ _ _ hj, if_pos rfl]
  · left
    rw [List.length_append, List.length_singleton] at hh ⊢
    have e3 : secL 64 (fun j => (st4 D rs.length d nd).now (64 * ((rs.length + 1 + 1) % 2) + j)) = headL rs.length d.length := by
      refine sec_eq (g := lsec (headL rs.length d.length)) (fun j hj => ?_) _ (headL_len _ _) rfl
      rw [st4_now, st3_now _ _ _ _ _ _ hj, if_neg (by omega), if_neg (by omega), show (rs.length + 1 + 1) % 2 = rs.length % 2 by omega]
      exact hN j hj
    rw [e3, readS_head (by omega) (by omega) (by omega)] at hh
    have := congrArg Prod.fst (Option.some.inj hh)
    simp at this
    omega
  · rcases List.mem_append.1 hx with h1 | h1
    · exact h.sm x h1
    · have : x = r := by simpa using h1
      subst this; exact hr
theorem JC.fresh {n : Nat} (h4 : 4 ≤ n) (hn : n ≤ 4096) : JC (DK.fresh n).n (DK.fresh n).now [] := by
  have z : ∀ j, lsec (headL 0 0) j = 0 := by
    intro j
    have : headL 0 0 = List.replicate 64 0 := by decide
    rw [this]; exact lsec_rep 64 j
  refine ⟨h4, by simp [encAll], fun j hj => by simp [encAll] at hj, fun j hj => by rw [show (encAll ([] : List (List UInt8))).length = 0 from rfl]; exact (z j).symm, fun N' L' hh => ?_, (fun r hr => by cases hr), hn⟩
  right
  have e3 : secL 64 (fun j => (DK.fresh n).now (64 * ((([] : List (List UInt8)).length + 1) % 2) + j)) = headL 0 0 :=
    sec_eq (g := lsec (headL 0 0)) (fun j hj => (z j).symm) _ (headL_len _ _) rfl
  rw [e3, readS_head (by omega) (by omega) (by omega)] at hh
  have h1 := congrArg Prod.fst (Option.some.inj hh)
  have h2 := congrArg Prod.snd (Option.some.inj hh)
  exact ⟨h1.symm, h2.symm⟩
end Go.Proofs.Ytgfdbjeliojhkaa
