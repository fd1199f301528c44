/-
  DiskLastsP: what a restart leaves, sector by sector; rows of booleans. No condition beyond those stated.
-/
import Derived.Test.YtgfdbjeliojhkaaDiskLastW
namespace Go.Proofs.Ytgfdbjeliojhkaa
open Go.RowKit

theorem restK_at (D : DK) (fate : Nat → Nat) (hf : ∀ k, fate k ≤ 64) : ∀ k i, (k ≤ i → ∀ j, j < 64 → (restK D fate (wl D k)).2 (i * 64 + j) = D.L (i * 64 + j)) ∧
    (i < D.n → ∃ c, c ≤ 64 ∧ ∀ j, j < 64 → (restK D fate (wl D k)).2 (i * 64 + j) = if j < c then D.now (i * 64 + j) else D.L (i * 64 + j)) := by
  intro k
  induction k with
  | zero => exact fun i => ⟨fun _ j _ => rfl, fun _ => ⟨0, Nat.zero_le _, fun j _ => by rw [if_neg (by omega)]; rfl⟩⟩
  | succ k ih =>
    intro i
    by_cases h : k < D.n ∧ (D.M k).isSome = true
    · rw [wl_some h.1 h.2, restK_snoc]
      have hc := hf (wl D k).length
      generalize fate (wl D k).length = c at hc
      have hne : i ≠ k → ∀ j, j < 64 → splF (restK D fate (wl D k)).2 (k * 64) c (secW D ⟨k, h⟩) (i * 64 + j) = (restK D fate (wl D k)).2 (i * 64 + j) := by
        intro hik j hj
        simp only [splF]
        rw [if_neg]
        omega
      refine ⟨fun hik j hj => ?_, fun hi => ?_⟩
      · rw [hne (by omega) j hj]; exact (ih i).1 (by omega) j hj
      · by_cases hik : i = k
        · subst hik
          refine ⟨c, hc, fun j hj => ?_⟩
          simp only [splF]
          obtain ⟨s, hs⟩ := Option.isSome_iff_exists.1 h.2
          by_cases hjc : j < c
          · rw [if_pos (by omega), if_pos hjc, now_some hs (by omega)]
            simp only [secW, hs, Option.getD_some]
            rw [show i * 64 + j - i * 64 = j by omega, show (i * 64 + j) % 64 = j by omega]
          · rw [if_neg (by omega), if_neg hjc]
            exact (ih i).1 (Nat.le_refl _) j hj
        · obtain ⟨c', h1, h2⟩ := (ih i).2 hi
          exact ⟨c', h1, fun j hj => by rw [hne hik j hj]; exact h2 j hj⟩
    · have : wl D (k + 1) = wl D k := by simp [wl, h]
      rw [this]
      exact ⟨fun hik j hj => (ih i).1 (by omega) j hj, (ih i).2⟩
/-- a sector after a restart: the first bytes of what was to be read, then what is kept -/
theorem restart_at (D : DK) (fate : Nat → Nat) (hf : ∀ k, fate k ≤ 64) {i : Nat} (hi : i < D.n) :
    ∃ c, c ≤ 64 ∧ ∀ j, j < 64 → (D.restart fate).now (i * 64 + j) = if j < c then D.now (i * 64 + j) else D.L (i * 64 + j) := by
  obtain ⟨c, h1, h2⟩ := (restK_at D fate hf D.n i).2 hi
  exact ⟨c, h1, fun j hj => h2 j hj⟩

/-- a disk alive, with no fuse -/
def dk (n : Nat) (L : Sec) (M : Nat → Option Sec) : DK := ⟨n, L, M, false, -1⟩
theorem dk_burn (n : Nat) (L : Sec) (M : Nat → Option Sec) : (dk n L M).burn = dk n L M := by unfold DK.burn dk; rfl
theorem cnt_none (n : Nat) : cntM (fun _ => none) n = 0 := by
  induction n with
  | zero => rfl
  | succ n ih => simp [cntM, ih]

theorem info_bool : (Try.prog.info? 4).map (fun i => (i.zero, i.size, i.bytes)) = some (some (.bool false), 1, 1) := by kernel_rfl
theorem run_make_bools (n : Nat) (hn : n ≤ 100) (u : World) : (Instr.makeSlice 41 (.int .i64 (n : Int)) (.int .i64 (n : Int))).run Try.prog u = .ok (.slice (some ⟨u.heap.size, 0, none⟩) n n) (u.alloc (.cells (valA n fun _ => .bool false) 4)) := by
  obtain ⟨i0, hi, hz0, hz1, hz2⟩ := info_parts info_bool
  have h := run_make (P := Try.prog) u 41 4 i0 _ Try.underlying41 hi hz0 .i64 .i64 (n : Int) (n : Int) (by omega) (Int.le_refl _) (by rw [hz2]; omega) (by omega)
  rw [h, hz1]
  simp only [Int.toNat_natCast, Value.cells, Nat.mul_one, made_val]
/-- which sectors were written -/
def SS (S : Nat → Bool) (a q : Nat) : Nat → Bool := fun i => if a ≤ i ∧ i < a + q then true else S i
theorem SS_zero (S : Nat → Bool) (a : Nat) : SS S a 0 = S := by funext i; simp only [SS]; rw [if_neg (by omega)]
theorem SS_succ (S : Nat → Bool) (a q : Nat) : (fun j => if j = a + q then Value.bool true else .bool (SS S a q j)) = fun j => .bool (SS S a (q + 1) j) := by
  funext j
  simp only [SS]
  by_cases h : j = a + q
  · rw [if_pos h, if_pos (by omega)]
  · rw [if_neg h]
    by_cases h2 : a ≤ j ∧ j < a + q
    · rw [if_pos h2, if_pos (by omega)]
    · rw [if_neg h2, if_neg (by omega)]
/-- what waits was written -/
def WOk (n : Nat) (M : Nat → Option Sec) (S : Nat → Bool) : Prop := ∀ i, i < n → S i = false → M i = none
theorem WOk.write {n : Nat} {L : Sec} {M : Nat → Option Sec} {S : Nat → Bool} (h : WOk n M S) (a m : Nat) (f : Sec) : WOk n ((dk n L M).write a m f).M (SS S a m) := by
  intro i hi hs
  simp only [SS] at hs
  simp only [DK.write]
  split at hs
  · cases hs
  · rename_i hc
    rw [if_neg hc]; exact h i hi hs
/-- the whole disk, read -/
theorem read_all {db lb mb : Nat} {D : DK} (n : Nat) (w : World) (h : DiskAt w db lb mb D) (hd : D.dead = false) (hn : D.n = n) (h1 : 1 ≤ n) :
    Calls Try.prog 17 #[.pointer (some ⟨db, 0, none⟩), .int .i64 0, .int .i64 (n : Int)] w fun e w' => ∃ b off cap, e = .returned (.tuple #[.slice (some ⟨b, off, none⟩) (64 * n) cap, .int .i64 0]) ∧
      64 * n ≤ cap ∧ cap ≤ maxLen ∧ w'.rangeAt b off (rowL (64 * n) D.now) ∧ w.heap.size ≤ b ∧ b < w'.heap.size ∧ Fr [] w w' := by
  refine (read_ok 0 n w h hd (by omega)).mono ?_
  rintro e w' ⟨v, rfl, ho, hf⟩
  obtain ⟨hb, hB⟩ := owns_bytes ho
  obtain ⟨ao, cap, rfl, h2, h3, h4, h5⟩ := hb
  obtain ⟨b, off, rfl, hr⟩ := h5 (by omega)
  have e : (fun j => D.now (64 * 0 + j)) = D.now := by funext j; rw [Nat.mul_zero, Nat.zero_add]
  rw [e] at hr
  exact ⟨b, off, cap, rfl, h2, h3, hr, hB b rfl, rangeAt_lt hr (by omega), hf⟩
section
variable {P : Program} {ops : Array Oper} {rest : List Oper} {o : Oper} {a : Act} {w : World}
theorem exec_convert {src dst : TypeId} {x : Operand} (ho : o.op = .convert src dst x) {xv v : Value} (hx : a.eval x = xv) (hr : (convert src dst xv).run P w = .ok v w) : (execOp a.eval o).run P w = .ok (.value v) w := by
  unfold execOp
  simp only [ho, hx, Sem.run_bind, hr, Result.andThen_ok, Sem.run_pure]
theorem wpStill_valG {R : Act → Prop} {v : Value} (hw : Region.wanted o (yielded ops a.tmps) = true) (hrun : (execOp a.eval o).run P w = .ok (.value v) w) (h : wpStill P ops w R rest (a.put o.dst v)) : wpStill P ops w R (o :: rest) a :=
  wpStill_step fun K hK => by
    rw [if_pos hw]
    unfold Oper.still; rw [hrun]; exact ⟨rfl, hK _ h⟩
theorem run_zero_string (w : World) (src dst e : TypeId) (b off cap : Nat) (hs : P.underlying src = some (.slice e)) (he : P.underlying e = some (.int .u8)) (hd : P.underlying dst = some .string) :
    (convert src dst (.slice (some ⟨b, off, none⟩) 0 cap)).run P w = .ok (.string (strOf 0 fun _ => 0)) w :=
  run_bytes_string w src dst e b off 0 cap _ hs he hd (fun j v hv => by simp [rowL] at hv)
end
/-- from the first byte on that is none of those written, all is as it was synced -/
theorem tail_eq {LR NW L1 : Sec} {o c : Nat} (hc : c ≤ 64) (h1 : ∃ c0, c0 ≤ 64 ∧ ∀ j, j < 64 → LR (o + j) = if j < c0 then NW (o + j) else L1 (o + j)) (hL : c = 64 ∨ ¬ LR (o + c) = NW (o + c)) :
    strOf (64 - c) (fun j => LR (o + c + j)) = strOf (64 - c) (fun j => L1 (o + c + j)) := by
  obtain ⟨c0, _, hj⟩ := h1
  apply strOf_congr
  intro j hj2
  have h2 := hj (c + j) (by omega)
  rw [← Nat.add_assoc] at h2
  rw [h2]
  rcases hL with h | h
  · omega
  · have : c0 ≤ c := by
      by_cases hcc : c < c0
      · have h3 := hj c (by omega)
        rw [if_pos hcc] at h3; exact absurd h3 h
      · omega
    rw [if_neg (by omega)]
theorem whole_eq {LR NW L1 : Sec} {o : Nat} (h1 : ∃ c0, c0 ≤ 64 ∧ ∀ j, j < 64 → LR (o + j) = if j < c0 then NW (o + j) else L1 (o + j)) (h0 : ∀ j, j < 64 → NW (o + j) = L1 (o + j)) :
    strOf 64 (fun j => LR (o + j)) = strOf 64 (fun j => L1 (o + j)) := by
  obtain ⟨c0, _, hj⟩ := h1
  apply strOf_congr
  intro j hj2
  rw [hj j hj2]
  split
  · exact h0 j hj2
  · rfl
end Go.Proofs.Ytgfdbjeliojhkaa
