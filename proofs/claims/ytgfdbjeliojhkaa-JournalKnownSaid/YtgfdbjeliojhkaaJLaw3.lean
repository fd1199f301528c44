/-
  JLaw3: what a disk holds behind a crash, at whatever step of Add, whatever became of what waited. Plain law. No condition beyond those stated.
-/
import Derived.Test.YtgfdbjeliojhkaaJLaw2
import Derived.Test.YtgfdbjeliojhkaaJour21
namespace Go.Proofs.Ytgfdbjeliojhkaa
theorem u8_ne {a b : Nat} (h : a % 256 ≠ b % 256) : UInt8.ofNat (a % 256) ≠ UInt8.ofNat (b % 256) := fun e => h (by
  have := congrArg UInt8.toNat e
  rw [u8_mod, u8_mod] at this; exact this)
theorem headL_lo (N L j : Nat) (h : j < 8) : lsec (headL N L) j = lsec (be 8 N) j := by
  unfold headL
  rw [lsec_append_lt (by simp [be_len]; omega), lsec_append_lt (by simp [be_len]; omega), lsec_append_lt (by rw [be_len]; omega)]
theorem headL_mid (N L j : Nat) (h : j < 8) : lsec (headL N L) (8 + j) = lsec (be 8 L) j := by
  unfold headL
  rw [lsec_append_lt (by simp [be_len]; omega), lsec_append_lt (by simp [be_len]; omega), lsec_append_ge (by rw [be_len]; omega), be_len]
  congr 1; omega
theorem headL_hi (N L j : Nat) (h : j < 8) : lsec (headL N L) (56 + j) = lsec (be 8 N) j := by
  unfold headL
  rw [lsec_append_ge (by simp [be_len])]
  congr 1; simp [be_len]
theorem headL_7 (N L : Nat) : lsec (headL N L) 7 = UInt8.ofNat (N % 256) := by rw [headL_lo _ _ _ (by omega), be_at 8 N 7 (by omega)]; simp
theorem headL_63 (N L : Nat) : lsec (headL N L) 63 = UInt8.ofNat (N % 256) := by rw [show 63 = 56 + 7 from rfl, headL_hi _ _ _ (by omega), be_at 8 N 7 (by omega)]; simp
theorem be_ext {k a b : Nat} (h : ∀ j, j < k → lsec (be k a) j = lsec (be k b) j) : be k a = be k b := by
  have h1 := secL_lsec (be k a)
  have h2 := secL_lsec (be k b)
  rw [be_len] at h1 h2
  rw [← h1, ← h2]
  exact secL_congr h
/-- the other head: it can't be taken for the next one -/
structure OS (N L : Nat) (o : Sec) : Prop where
  b63 : o 63 ≠ UInt8.ofNat ((N + 1) % 256)
  alt : o 7 = UInt8.ofNat ((N + 1) % 256) ∨ ∃ No Lo, (No < N ∨ No = N ∧ Lo = L) ∧ No < 2 ^ 64 ∧ Lo < 2 ^ 64 ∧ ∀ j, 8 ≤ j → j < 64 → o j = lsec (headL No Lo) j
theorem OS.congr {N L : Nat} {o p : Sec} (h : OS N L o) (e : ∀ j, j < 64 → p j = o j) : OS N L p := by
  refine ⟨by rw [e 63 (by omega)]; exact h.b63, ?_⟩
  rcases h.alt with h1 | ⟨No, Lo, h1, h2, h3, h4⟩
  · exact .inl (by rw [e 7 (by omega)]; exact h1)
  · exact .inr ⟨No, Lo, h1, h2, h3, fun j a b => (e j b).trans (h4 j a b)⟩
theorem OS.ho {N L room N' L' : Nat} {o : Sec} (h : OS N L o) (hroom : room < 2 ^ 64) (hr : readS (secL 64 o) room = some (N', L')) : N' < N ∨ (N' = N ∧ L' = L) := by
  obtain ⟨e, hL, hN⟩ := readS_some hr
  have ho : ∀ j, j < 64 → o j = lsec (headL N' L') j := fun j hj => by rw [← e, lsec_secL o hj]
  rcases h.alt with h1 | ⟨No, Lo, h1, h2, h3, h4⟩
  · exfalso
    have h7 := ho 7 (by omega)
    have h63 := ho 63 (by omega)
    rw [headL_7] at h7
    rw [headL_63] at h63
    exact h.b63 (by rw [h63, ← h7, h1])
  · have eN : N' = No := be_inj (k := 8) (be_ext fun j hj => by
      rw [← headL_hi N' L' j hj, ← headL_hi No Lo j hj, ← ho _ (by omega), h4 _ (by omega) (by omega)]) (by omega) (by omega)
    have eL : L' = Lo := be_inj (k := 8) (be_ext fun j hj => by
      rw [← headL_mid N' L' j hj, ← headL_mid No Lo j hj, ← ho _ (by omega), h4 _ (by omega) (by omega)]) (by omega) (by omega)
    subst eN; subst eL; exact h1
/-- a head that is torn -/
theorem OS.torn {N L L1 c : Nat} {o : Sec} (h : OS N L o) (hc : c < 64) : OS N L (fun j => if j < c then lsec (headL (N + 1) L1) j else o j) := by
  refine ⟨by rw [if_neg (by omega)]; exact h.b63, ?_⟩
  by_cases h8 : 8 ≤ c
  · exact .inl (by rw [if_pos (by omega), headL_7])
  · rcases h.alt with h1 | ⟨No, Lo, h1, h2, h3, h4⟩
    · by_cases h7 : 7 < c
      · omega
      · exact .inl (by rw [if_neg h7]; exact h1)
    · exact .inr ⟨No, Lo, h1, h2, h3, fun j a b => by rw [if_neg (by omega)]; exact h4 j a b⟩
structure JK (n : Nat) (F : Sec) (rs : List (List UInt8)) : Prop where
  c : JC n F rs
  os : OS rs.length (encAll rs).length fun j => F (64 * ((rs.length + 1) % 2) + j)
theorem JK.of {n : Nat} {F : Sec} {rs : List (List UInt8)} (n4 : 4 ≤ n) (nl : n ≤ 4096) (fit : (encAll rs).length ≤ (n - 2) * 64) (dat : ∀ j, j < (encAll rs).length → F (64 * 2 + j) = lsec (encAll rs) j)
    (hp : ∀ j, j < 64 → F (64 * (rs.length % 2) + j) = lsec (headL rs.length (encAll rs).length) j) (sm : ∀ r ∈ rs, r.length < 2 ^ 32) (os : OS rs.length (encAll rs).length fun j => F (64 * ((rs.length + 1) % 2) + j)) : JK n F rs :=
  ⟨⟨n4, fit, dat, hp, fun _ _ h => os.ho (by omega) h, sm, nl⟩, os⟩
theorem JK.sub {n : Nat} {F G : Sec} {rs : List (List UInt8)} (h : JK n F rs) (e1 : ∀ i j, i < 2 → j < 64 → G (64 * i + j) = F (64 * i + j)) (e2 : ∀ q, q < (encAll rs).length → G (64 * 2 + q) = F (64 * 2 + q)) : JK n G rs :=
  JK.of h.c.n4 h.c.nl h.c.fit (fun j hj => (e2 j hj).trans (h.c.dat j hj)) (fun j hj => (e1 _ j (by omega) hj).trans (h.c.hp j hj)) h.c.sm (h.os.congr fun j hj => e1 _ j (by omega) hj)
theorem JK.congr {n : Nat} {F G : Sec} {rs : List (List UInt8)} (h : JK n F rs) (e : ∀ i j, i < n → j < 64 → G (64 * i + j) = F (64 * i + j)) : JK n G rs := by
  have n4 := h.c.n4
  have hf := h.c.fit
  refine h.sub (fun i j hi hj => e i j (by omega) hj) (fun q hq => ?_)
  rw [show 64 * 2 + q = 64 * (2 + q / 64) + q % 64 by omega]
  exact e _ _ (by omega) (by omega)
theorem JK.fresh {n : Nat} (h4 : 4 ≤ n) (hn : n ≤ 4096) : JK (DK.fresh n).n (DK.fresh n).now [] := by
  refine ⟨JC.fresh h4 hn, ?_⟩
  have z : ∀ j, lsec (headL 0 0) j = 0 := by
    intro j
    have : headL 0 0 = List.replicate 64 0 := by decide
    rw [this]; exact lsec_rep 64 j
  exact ⟨by show (0 : UInt8) ≠ _; decide, .inr ⟨0, 0, .inr ⟨rfl, rfl⟩, by omega, by omega, fun j _ _ => (z j).symm⟩⟩
theorem JK.add {D : DK} {rs : List (List UInt8)} {r : List UInt8} (h : JK D.n D.now rs) (hr : r.length < 2 ^ 32) (hf : (encAll rs).length + 4 + r.length ≤ (D.n - 2) * 64) : JK D.n (st4 D rs.length (encAll rs) (encAll rs ++ encR r)).now (rs ++ [r]) := by
  refine ⟨h.c.add hr hf, ?_⟩
  obtain ⟨c1, c2⟩ := h.c.cnt
  have key : ∀ j, j < 64 → (st4 D rs.length (encAll rs) (encAll rs ++ encR r)).now (64 * (((rs ++ [r]).length + 1) % 2) + j) = lsec (headL rs.length (encAll rs).length) j := fun j hj => by
    rw [List.length_append, List.length_singleton, st4_now, st3_now _ _ _ _ _ _ hj, if_neg (by omega), if_neg (by omega), show (rs.length + 1 + 1) % 2 = rs.length % 2 by omega]
    exact h.c.hp j hj
  refine OS.congr (o := lsec (headL rs.length (encAll rs).length)) ?_ key
  rw [List.length_append, List.length_singleton]
  exact ⟨by rw [headL_63]; exact u8_ne (by omega), .inr ⟨rs.length, (encAll rs).length, .inl (by omega), by omega, by omega, fun _ _ _ => rfl⟩⟩
theorem now_L {D : DK} (hM : D.M = fun _ => none) : D.now = D.L := by funext k; exact now_none (i := k / 64) (by rw [hM]) rfl
theorem st1_now (D : DK) (d nd : List UInt8) (i j : Nat) (hj : j < 64) : (st1 D d nd).now (64 * i + j) = if 2 + d.length / 64 ≤ i ∧ i < 2 + d.length / 64 + (secsUp nd.length - d.length / 64) then lsec nd (64 * (i - 2) + j) else D.now (64 * i + j) := by
  unfold st1
  rw [write_now _ _ _ _ _ _ hj, burn_now]
  split
  · congr 1
    omega
  · rfl
theorem st1_L (D : DK) (d nd : List UInt8) : (st1 D d nd).L = D.L := burn_L D
theorem st2_L (D : DK) (d nd : List UInt8) : (st2 D d nd).L = (st1 D d nd).now := rfl
theorem st2_M (D : DK) (d nd : List UInt8) : (st2 D d nd).M = fun _ => none := rfl
theorem st3_L (D : DK) (N : Nat) (d nd : List UInt8) : (st3 D N d nd).L = (st1 D d nd).now := burn_L (st2 D d nd)
/-- what is told of a disk that died between two steps of Add, and got power again -/
theorem JK.crash {D : DK} {rs : List (List UInt8)} {r : List UInt8} (h : JK D.n D.now rs) (hM : D.M = fun _ => none) (hr : r.length < 2 ^ 32) (hf : (encAll rs).length + 4 + r.length ≤ (D.n - 2) * 64) {k : Nat} (hk : k < 4) (fate : Nat → Nat) (hfate : ∀ k, fate k ≤ 64) {D' : DK}
    (hD' : D' = DK.restart { stg D rs.length (encAll rs) (encAll rs ++ encR r) k with dead := true } fate) : JK D'.n D'.now rs ∨ JK D'.n D'.now (rs ++ [r]) := by
  have hn : D'.n = D.n := by rw [hD']; exact stg_n D _ _ _ k
  have n4 := h.c.n4
  have fit := h.c.fit
  have hadd := h.add hr hf
  obtain ⟨nd, hnd⟩ : ∃ nd, encAll rs ++ encR r = nd := ⟨_, rfl⟩
  rw [hnd] at hD' hadd
  have hpre : ∀ j, j < (encAll rs).length → lsec nd j = lsec (encAll rs) j := fun j hj => by rw [← hnd]; exact lsec_append_lt hj
  have mix : ∀ i, i < D.n → ∃ c, c ≤ 64 ∧ ∀ j, j < 64 → D'.now (64 * i + j) = if j < c then (stg D rs.length (encAll rs) nd k).now (64 * i + j) else (stg D rs.length (encAll rs) nd k).L (64 * i + j) := fun i hi => by
    obtain ⟨c, h1, h2⟩ := restart_at { stg D rs.length (encAll rs) nd k with dead := true } fate hfate (i := i) (by rw [show ({ stg D rs.length (encAll rs) nd k with dead := true } : DK).n = D.n from stg_n D _ _ _ k]; exact hi)
    exact ⟨c, h1, fun j hj => by rw [hD', Nat.mul_comm 64 i]; exact h2 j hj⟩
  have dataof : ∀ i j, 2 ≤ i → j < 64 → 64 * (i - 2) + j < (encAll rs).length → (st1 D (encAll rs) nd).now (64 * i + j) = D.now (64 * i + j) := fun i j hi hj hq => by
    rw [st1_now _ _ _ _ _ hj]
    split
    · have h1 := h.c.dat _ hq
      rw [show 64 * 2 + (64 * (i - 2) + j) = 64 * i + j by omega] at h1
      rw [hpre _ hq, h1]
    · rfl
  have heads : ∀ i j, i < 2 → j < 64 → (st1 D (encAll rs) nd).now (64 * i + j) = D.now (64 * i + j) := fun i j hi hj => by
    rw [st1_now _ _ _ _ _ hj, if_neg (by omega)]
  have hDL := now_L hM
  rw [hn]
  rcases (by omega : k = 0 ∨ k = 1 ∨ k = 2 ∨ k = 3) with rfl | rfl | rfl | rfl
  · refine .inl (h.congr fun i j hi hj => ?_)
    obtain ⟨c, _, h2⟩ := mix i hi
    rw [h2 j hj, show stg D rs.length (encAll rs) nd 0 = D from rfl, ← hDL]
    split <;> rfl
  · left
    refine h.sub (fun i j hi hj => ?_) (fun q hq => ?_)
    · obtain ⟨c, _, h2⟩ := mix i (by omega)
      rw [h2 j hj, show stg D rs.length (encAll rs) nd 1 = st1 D (encAll rs) nd from rfl, heads i j hi hj, st1_L, ← hDL]
      split <;> rfl
    · obtain ⟨c, _, h2⟩ := mix (2 + q / 64) (by omega)
      have h3 := h2 (q % 64) (by omega)
      rw [show stg D rs.length (encAll rs) nd 1 = st1 D (encAll rs) nd from rfl, dataof _ _ (by omega) (by omega) (by omega), st1_L, ← hDL, show 64 * (2 + q / 64) + q % 64 = 64 * 2 + q by omega] at h3
      rw [h3]
      split <;> rfl
  · left
    have e : ∀ i j, i < D.n → j < 64 → D'.now (64 * i + j) = (st1 D (encAll rs) nd).now (64 * i + j) := fun i j hi hj => by
      obtain ⟨c, _, h2⟩ := mix i hi
      rw [h2 j hj, show stg D rs.length (encAll rs) nd 2 = st2 D (encAll rs) nd from rfl, now_L (st2_M D _ _), st2_L]
      split <;> rfl
    refine h.sub (fun i j hi hj => ?_) (fun q hq => ?_)
    · rw [e i j (by omega) hj, heads i j hi hj]
    · have h3 := e (2 + q / 64) (q % 64) (by omega) (by omega)
      rw [dataof _ _ (by omega) (by omega) (by omega), show 64 * (2 + q / 64) + q % 64 = 64 * 2 + q by omega] at h3
      exact h3
  · have e : ∀ i j, i < D.n → j < 64 → i ≠ (rs.length + 1) % 2 → D'.now (64 * i + j) = (st1 D (encAll rs) nd).now (64 * i + j) := fun i j hi hj hne => by
      obtain ⟨c, _, h2⟩ := mix i hi
      rw [h2 j hj, show stg D rs.length (encAll rs) nd 3 = st3 D rs.length (encAll rs) nd from rfl, st3_now _ _ _ _ _ _ hj, if_neg hne, st3_L, st1_now _ _ _ _ _ hj]
      split <;> rfl
    obtain ⟨c, hc, h2⟩ := mix ((rs.length + 1) % 2) (by omega)
    have h3 : ∀ j, j < 64 → D'.now (64 * ((rs.length + 1) % 2) + j) = if j < c then lsec (headL (rs.length + 1) nd.length) j else D.now (64 * ((rs.length + 1) % 2) + j) := fun j hj => by
      rw [h2 j hj, show stg D rs.length (encAll rs) nd 3 = st3 D rs.length (encAll rs) nd from rfl, st3_now _ _ _ _ _ _ hj, if_pos rfl, st3_L, heads _ _ (by omega) hj]
    by_cases hc64 : c = 64
    · right
      refine hadd.congr fun i j hi hj => ?_
      rw [st4_now, st3_now _ _ _ _ _ _ hj]
      by_cases hi2 : i = (rs.length + 1) % 2
      · rw [if_pos hi2, hi2, h3 j hj, if_pos (by omega)]
      · rw [if_neg hi2, e i j hi hj hi2, st1_now _ _ _ _ _ hj]
    · left
      refine JK.of h.c.n4 h.c.nl h.c.fit (fun q hq => ?_) (fun j hj => ?_) h.c.sm ?_
      · have h4 := e (2 + q / 64) (q % 64) (by omega) (by omega) (by omega)
        rw [dataof _ _ (by omega) (by omega) (by omega), show 64 * (2 + q / 64) + q % 64 = 64 * 2 + q by omega, h.c.dat q hq] at h4
        exact h4
      · rw [e _ j (by omega) hj (by omega), heads _ _ (by omega) hj, h.c.hp j hj]
      · exact (h.os.torn (L1 := nd.length) (by omega)).congr h3
end Go.Proofs.Ytgfdbjeliojhkaa
