/-
  EdiKnownP: contract of many; plain facts on the tables of EdiKnown. No condition beyond those stated.
-/
import Derived.Test.YtpfkmklhfafkiaaEdiCutsV
namespace Go.Proofs.Ytpfkmklhfafkiaa
open Go.RowKit
def repS (n : Nat) (s : Str) : Str := (List.replicate n s).flatten
theorem repS_two (m : Nat) (s : Str) : repS m (s ++ s) = repS (2 * m) s := by
  unfold repS
  induction m with
  | zero => rfl
  | succ m ih => rw [List.replicate_succ, List.flatten_cons, ih, show 2 * (m + 1) = 2 * m + 1 + 1 by omega, List.replicate_succ, List.replicate_succ, List.flatten_cons, List.flatten_cons, List.append_assoc]
theorem repS_succ (m : Nat) (s : Str) : repS (m + 1) s = s ++ repS m s := by unfold repS; rw [List.replicate_succ, List.flatten_cons]
theorem repS_len (n : Nat) (s : Str) : (repS n s).length = n * s.length := by
  induction n with
  | zero => simp [repS]
  | succ n ih => rw [repS_succ, List.length_append, ih, Nat.succ_mul]; omega
theorem cat_data (a b : ByteArray) : (a ++ b).data.toList = a.data.toList ++ b.data.toList := by simp [ByteArray.data_append]
def ManyQ (s : Str) (n : Nat) (e : Ending) : Prop := ∃ r : ByteArray, e = .returned (.string r) ∧ r.data.toList = repS n s
set_option maxRecDepth 100000 in
set_option maxHeartbeats 4000000 in
theorem many_any (s : ByteArray) (n : Nat) (hs : s.size ≤ 16) (hn : n ≤ 70000) (w : World) : Calls Try.prog 17 #[.string s, .int .i64 (n : Int)] w fun e w' => ManyQ s.data.toList n e ∧ w = w' := by
  obtain ⟨T, hT⟩ : ∃ T, repS n s.data.toList = T := ⟨_, rfl⟩
  have hTl : T.length ≤ 1200000 := by
    rw [← hT, repS_len, data_len]
    calc n * s.size ≤ 70000 * 16 := Nat.mul_le_mul hn hs
      _ ≤ 1200000 := by omega
  have HT := Lib.hid hT
  unfold ManyQ
  rw [hT]
  clear hT
  go_enter Try.func17, Try.ntmps17
  go_wp2_with fail
  go_loop [0, 1, 5] (fun sv nv ov => ∃ (m : Nat) (s' o : ByteArray), m ≤ 70000 ∧ sv = .string s' ∧ nv = .int .i64 (m : Int) ∧ ov = .string o ∧ Hid (o.data.toList ++ repS m s'.data.toList = T)) (fun _ nv _ => (intOf nv).toNat)
  case atStart => exact ⟨n, s, ⟨#[]⟩, hn, rfl, rfl, rfl, Lib.hid (by rw [HT.out]; rfl)⟩
  case round =>
    obtain ⟨m, s', o, hm, rfl, rfl, rfl, HR⟩ := hrel
    have hsz : o.size + m * s'.size = T.length := by
      have h := congrArg List.length HR.out
      rw [List.length_append, repS_len, data_len, data_len] at h; exact h
    by_cases h0 : 0 < m
    · have h0i : (0 : Int) < (m : Int) := by omega
      have hs' : s'.size ≤ 1200000 := by
        have : s'.size ≤ m * s'.size := Nat.le_mul_of_pos_left _ h0
        omega
      have ho' : o.size ≤ 1200000 := by omega
      have hmi : (0 : Int) ≤ (m : Int) := by omega
      clear hsz
      rcases Nat.mod_two_eq_zero_or_one m with hp | hp
      · have d1 : (((m : Int) % 2) == 1) = false := by rw [beq_eq_false_iff_ne]; omega
        have HP := Lib.hid hp
        clear hp
        go_wp2_with fail
        go_round
        case rel =>
          refine ⟨m / 2, s' ++ s', o, by omega, rfl, by go_num, rfl, Lib.hid ?_⟩
          have h1 := HP.out
          rw [cat_data, repS_two, show 2 * (m / 2) = m by omega]; exact HR.out
        case measure => simp [intOf]; omega
      · have d1 : (((m : Int) % 2) == 1) = true := by rw [beq_iff_eq]; omega
        have HP := Lib.hid hp
        clear hp
        go_wp2_with fail
        go_round
        case rel =>
          refine ⟨m / 2, s' ++ s', o ++ s', by omega, rfl, by go_num, rfl, Lib.hid ?_⟩
          have h1 := HP.out
          rw [cat_data, cat_data, repS_two, List.append_assoc, ← repS_succ, show 2 * (m / 2) + 1 = m by omega]; exact HR.out
        case measure => simp [intOf]; omega
    · obtain rfl : m = 0 := by omega
      go_wp2_with fail
      go_ret
      have h := HR.out
      have h0 : repS 0 s'.data.toList = [] := rfl
      rw [h0, List.append_nil] at h
      exact ⟨⟨o, rfl, h⟩, rfl⟩
end Go.Proofs.Ytpfkmklhfafkiaa
