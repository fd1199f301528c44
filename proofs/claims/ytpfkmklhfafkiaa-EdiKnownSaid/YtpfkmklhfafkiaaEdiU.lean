/-
  EdiU: contract of Parse. No condition beyond those stated.
-/
import Derived.Test.YtpfkmklhfafkiaaEdiT
import Derived.Deep.DeepFit
namespace Go.Proofs.Ytpfkmklhfafkiaa
open Go.RowKit
theorem parse_big (s : ByteArray) (h : 65536 < s.size) (w : World) : Calls Try.prog 16 #[.string s] w fun e w' => e = .returned (.tuple #[.slice none 0 0, .int .i64 0, .int .i64 2]) ∧ w = w' := by
  have d1 : decide ((65536 : Int) < (s.size : Int)) = true := by rw [decide_eq_true_eq]; omega
  go_enter Try.func16, Try.ntmps16
  go_wp2_with fail
  go_ret3
  exact ⟨rfl, rfl⟩
theorem parseE_ok {t : Str} (h : t.length ≤ 65536) : parseE t = match runE (.btw []) 0 t with
    | .err i k => ([], i, k)
    | .ok (.btw l) => (l, 0, 0)
    | .ok _ => ([], t.length, 31) := by
  unfold parseE
  rw [if_neg (by omega)]
  rfl
theorem rd_start (w : World) (n : Nat) (hn : n = w.heap.size) : Rd (w.alloc (.cells #[.slice none 0 0, .slice none 0 0] 63)) n n (.btw []) := by
  subst hn
  refine ⟨fun _ => False, .slice none 0 0, .slice none 0 0, [], [], ⟨Nat.le_refl _, ?_, ?_, ?_, rfl, ?_, ?_⟩, by decide⟩
  · exact heap_alloc_new _ _
  · exact ⟨rfl, .inl ⟨rfl, rfl⟩⟩
  · exact ⟨rfl, .inl ⟨rfl, rfl⟩⟩
  · intro i s x h; simp at h
  · intro k hk; exact hk.elim
theorem enter_fn {f : Nat} {fn : Func} {c : Code} (hf : Try.prog.funcs[f]? = some fn) (hname : (fn.name == "runtime.NumGoroutine") = false) (hb : fn.body = some c) (args : Array Value) (w : World) :
    (callFunc f args).run Try.prog w = .ok (.enter f args) w := by
  have h1 : fn.name ≠ "runtime.NumGoroutine" := by simpa using hname
  simp [callFunc, hf, h1, hb, mark]
theorem enter_step (c : EC) (args : Array Value) (w : World) : (callFunc (fnE c) args).run Try.prog w = .ok (.enter (fnE c) args) w := by
  cases c with
  | btw l => exact enter_fn Try.func30 (by decide) rfl args w
  | tag l t => exact enter_fn Try.func37 (by decide) rfl args w
  | bhd l t => exact enter_fn Try.func44 (by decide) rfl args w
  | cmp l t es cs p => exact enter_fn Try.func60 (by decide) rfl args w
  | rel l t es cs p => exact enter_fn Try.func71 (by decide) rfl args w
set_option maxRecDepth 100000 in
set_option maxHeartbeats 4000000 in
theorem parse_own (s : ByteArray) (h : s.size ≤ 65536) (w : World) : Calls Try.prog 16 #[.string s] w fun e w' => ∃ v, e = .returned (.tuple #[v, .int .i64 ((parseE s.data.toList).2.1 : Int), .int .i64 (parseE s.data.toList).2.2]) ∧ SegsO (fun k => w.heap.size ≤ k ∧ k < w'.heap.size) w.heap.size w' v (parseE s.data.toList).1 ∧ Below w.heap.size w w' := by
  have d1 : decide ((65536 : Int) < (s.size : Int)) = false := by rw [decide_eq_false_iff_not]; omega
  obtain ⟨P, hP⟩ : ∃ P, parseE s.data.toList = P := ⟨_, rfl⟩
  rw [hP]
  have HP := Lib.hid hP
  clear hP
  go_enter Try.func16, Try.ntmps16
  go_wp2_with fail
  obtain ⟨rb, hrb⟩ : ∃ rb, w.heap.size = rb := ⟨_, rfl⟩
  rw [hrb]
  obtain ⟨w1, hw1⟩ : ∃ w1, w.alloc (.cells #[.slice none 0 0, .slice none 0 0] 63) = w1 := ⟨_, rfl⟩
  have HR := Lib.hid (show Rd w1 rb rb (.btw []) by rw [← hw1]; exact rd_start w rb hrb.symm)
  have HB := Lib.hid (show Below rb w w1 by rw [← hw1, ← hrb]; exact (Below.refl _ w).alloc (Nat.le_refl _) _)
  rw [hw1]
  clear hw1
  go_loopw [6, 7, 20] (fun nx dn i wr => ∃ (k : Nat) (c : EC), k ≤ s.size ∧ i = .int .i64 (k : Int) ∧ nx = .func (.func (fnE c)) #[.pointer (some ⟨rb, 0, none⟩)] #[] ∧ dn = .bool (isBtw c) ∧ Hid (Rd wr rb rb c) ∧ Hid (Below rb w wr) ∧ Hid (runE (.btw []) 0 s.data.toList = runE c k (s.data.toList.drop k)) ∧ Hid ((heldN s.data.toList k % 2 == 1) = isRel c)) (fun _ _ i _ => s.size - (intOf i).toNat)
  case atStart => exact ⟨0, .btw [], by omega, rfl, rfl, rfl, HR, HB, Lib.hid rfl, Lib.hid (by rw [heldN_zero]; rfl)⟩
  case round =>
    obtain ⟨k, c, hk, rfl, rfl, rfl, HD, HF, HN, HH⟩ := hrel
    clear HR HB
    by_cases hlt : k < s.size
    · have hA := at_byte s _ hlt
      obtain ⟨b, hb⟩ : ∃ b, s[k]'hlt = b := ⟨_, rfl⟩
      rw [hb] at hA
      have hent := enter_step c
      have hDR : s.data.toList.drop k = b :: s.data.toList.drop (k + 1) := by
        obtain ⟨hl, he⟩ := List.getElem?_eq_some_iff.1 hA
        rw [List.drop_eq_getElem_cons hl, he]
      have hS := rd_step HD.out (by have := HF.out.size; omega) b
      cases hr : stepE c b with
      | err kk =>
        rw [hr] at hS
        have HS := Lib.hid hS
        clear hS
        have hP : P = ([], k, kk) := by
          rw [← HP.out, parseE_ok (by simpa using h), HN.out, hDR]
          simp only [runE, hr]
        subst hP
        rcases step_err hr with rfl | rfl
        · go_wp2_with (go_fit HS.out; rintro e w' ⟨rfl, hB⟩; have HB2 := Lib.hid hB; clear hB)
          go_ret3
          exact ⟨_, rfl, SegsO.nil _ _ _, HF.out.trans HB2.out⟩
        · go_wp2_with (go_fit HS.out; rintro e w' ⟨rfl, hB⟩; have HB2 := Lib.hid hB; clear hB)
          go_ret3
          exact ⟨_, rfl, SegsO.nil _ _ _, HF.out.trans HB2.out⟩
      | ok c' =>
        rw [hr] at hS
        have HS := Lib.hid hS
        have HC := Lib.hid (step_form hr)
        clear hS
        have HX := Lib.hid (show runE (.btw []) 0 s.data.toList = runE c' (k + 1) (s.data.toList.drop (k + 1)) by
          rw [HN.out, hDR]
          simp only [runE, hr])
        have HY := Lib.hid (held_step hA hr HH.out)
        have hHL := fun w => held_any (.pointer (some ⟨rb, 0, none⟩)) s k (by omega) (by omega) w
        have HHL := Lib.hid hHL
        clear hHL hDR
        by_cases h10 : b = 10
        · have hbv : isBtw c' = true := by rw [HC.out.1, h10]; rfl
          subst h10
          go_wp2_with (go_fit HS.out; rintro e w' ⟨rfl, hD, hB⟩; have HD2 := Lib.hid hD; have HB2 := Lib.hid hB; clear hB hD)
          go_round
          case rel => exact ⟨k + 1, c', by omega, by go_num, rfl, by rw [hbv], HD2, Lib.hid (HF.out.trans HB2.out), HX, HY⟩
          case measure => simp [intOf]; omega
        · have n10 : ((b.toNat : Int) == 10) = false := nat_eq b 10 h10
          by_cases h39 : b = 39
          · subst h39
            by_cases hk0 : k = 0
            · have k0 : ((k : Int) == 0) = true := by rw [hk0]; rfl
              have hbv : isBtw c' = true := by rw [HC.out.1, ← HH.out, hk0, heldN_zero]; rfl
              clear hk0
              go_wp2_with (go_fit HS.out; rintro e w' ⟨rfl, hD, hB⟩; have HD2 := Lib.hid hD; have HB2 := Lib.hid hB; clear hB hD)
              go_round
              case rel => exact ⟨k + 1, c', by omega, by go_num, rfl, by rw [hbv], HD2, Lib.hid (HF.out.trans HB2.out), HX, HY⟩
              case measure => simp [intOf]; omega
            · have k0 : ((k : Int) == 0) = false := by rw [beq_eq_false_iff_ne]; omega
              have hbv : isBtw c' = !(heldN s.data.toList k % 2 == 1) := by rw [HC.out.1, ← HH.out]; rfl
              have HBV := Lib.hid hbv
              clear hbv
              go_wp2_with first | (go_fit HS.out; rintro e w' ⟨rfl, hD, hB⟩; have HD2 := Lib.hid hD; have HB2 := Lib.hid hB; clear hB hD) | (go_at_call 31; refine (HHL.out _).mono ?_; rintro e w' ⟨rfl, rfl⟩)
              go_round
              case rel => exact ⟨k + 1, c', by omega, by go_num, rfl, by rw [HBV.out], HD2, Lib.hid (HF.out.trans HB2.out), HX, HY⟩
              case measure => simp [intOf]; omega
          · have n39 : ((b.toNat : Int) == 39) = false := nat_eq b 39 h39
            have hbv : isBtw c' = false := by rw [HC.out.1]; simp [h10, h39]
            go_wp2_with (go_fit HS.out; rintro e w' ⟨rfl, hD, hB⟩; have HD2 := Lib.hid hD; have HB2 := Lib.hid hB; clear hB hD)
            go_round
            case rel => exact ⟨k + 1, c', by omega, by go_num, rfl, by rw [hbv], HD2, Lib.hid (HF.out.trans HB2.out), HX, HY⟩
            case measure => simp [intOf]; omega
    · obtain rfl : k = s.size := by omega
      have hN := HN.out
      rw [List.drop_eq_nil_of_le (by simp)] at hN
      simp only [runE] at hN
      have hPP : P = match (EO.ok c) with
          | .err i k => ([], i, k)
          | .ok (.btw l) => (l, 0, 0)
          | .ok _ => ([], s.data.toList.length, 31) := by
        rw [← HP.out, parseE_ok (by simpa using h), hN]
      have hsz : s.data.toList.length = s.size := by simp
      rw [hsz] at hPP
      clear hN
      cases c with
      | btw l =>
        obtain ⟨S, lv, pv, xs, p, hR, hl64⟩ := HD.out
        have d0 := hR.c0
        have HRR := Lib.hid hR
        clear hR
        simp only [isBtw]
        replace hPP : P = (l, 0, 0) := hPP
        subst hPP
        go_wp2_with fail
        go_ret3
        exact ⟨_, rfl, HRR.out.segs, HF.out⟩
      | tag l t =>
        simp only [isBtw]
        replace hPP : P = ([], s.size, 31) := hPP
        subst hPP
        go_wp2_with fail
        go_ret3
        exact ⟨_, rfl, SegsO.nil _ _ _, HF.out⟩
      | bhd l t =>
        simp only [isBtw]
        replace hPP : P = ([], s.size, 31) := hPP
        subst hPP
        go_wp2_with fail
        go_ret3
        exact ⟨_, rfl, SegsO.nil _ _ _, HF.out⟩
      | cmp l t es cs p =>
        simp only [isBtw]
        replace hPP : P = ([], s.size, 31) := hPP
        subst hPP
        go_wp2_with fail
        go_ret3
        exact ⟨_, rfl, SegsO.nil _ _ _, HF.out⟩
      | rel l t es cs p =>
        simp only [isBtw]
        replace hPP : P = ([], s.size, 31) := hPP
        subst hPP
        go_wp2_with fail
        go_ret3
        exact ⟨_, rfl, SegsO.nil _ _ _, HF.out⟩
theorem parse_any (s : ByteArray) (h : s.size ≤ 65536) (w : World) : Calls Try.prog 16 #[.string s] w fun e w' => ∃ v, e = .returned (.tuple #[v, .int .i64 ((parseE s.data.toList).2.1 : Int), .int .i64 (parseE s.data.toList).2.2]) ∧ SegsAt (fun k => w.heap.size ≤ k ∧ k < w'.heap.size) w' v (parseE s.data.toList).1 ∧ Below w.heap.size w w' :=
  (parse_own s h w).mono fun _ _ ⟨v, h1, h2, h3⟩ => ⟨v, h1, h2.lies, h3⟩
end Go.Proofs.Ytpfkmklhfafkiaa
