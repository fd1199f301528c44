/-
  EdiA4: contracts of the reference's Tag and Sign; appends to owned bytes. No condition beyond those stated.
-/
import Derived.Test.YtpfkmklhfafkiaaEdiA3
import Derived.Lib.AppendStr
namespace Go.Proofs.Ytpfkmklhfafkiaa
open Go.RowKit
set_option maxHeartbeats 1000000 in
theorem rTag_any (c : UInt8) (w : World) : Calls Try.prog 29 #[.int .u8 (c.toNat : Int)] w fun e w' => e = .returned (.bool (tagB c)) ∧ w = w' := by
  have hE : tagB c = ((decide (65 ≤ c.toNat) && decide (c.toNat ≤ 90)) || (decide (48 ≤ c.toNat) && decide (c.toNat ≤ 57))) := rfl
  have HE := Lib.hid hE
  obtain ⟨n, hn⟩ : ∃ n : Nat, c.toNat = n := ⟨_, rfl⟩
  rw [hn] at HE ⊢
  clear hE hn
  by_cases h1 : 65 ≤ n
  · have d1 : decide ((65 : Int) ≤ (n : Int)) = true := by rw [decide_eq_true_eq]; omega
    by_cases h2 : n ≤ 90
    · have d2 : decide ((n : Int) ≤ 90) = true := by rw [decide_eq_true_eq]; omega
      go_enter Try.func29, Try.ntmps29
      go_wp2_with fail
      go_ret
      exact ⟨by rw [HE.out]; simp [h1, h2], rfl⟩
    · have d2 : decide ((n : Int) ≤ 90) = false := by rw [decide_eq_false_iff_not]; omega
      have d3 : decide ((48 : Int) ≤ (n : Int)) = true := by rw [decide_eq_true_eq]; omega
      have d4 : decide ((n : Int) ≤ 57) = false := by rw [decide_eq_false_iff_not]; omega
      go_enter Try.func29, Try.ntmps29
      go_wp2_with fail
      go_ret
      exact ⟨by rw [HE.out]; simp; omega, rfl⟩
  · have d1 : decide ((65 : Int) ≤ (n : Int)) = false := by rw [decide_eq_false_iff_not]; omega
    by_cases h3 : 48 ≤ n
    · have d3 : decide ((48 : Int) ≤ (n : Int)) = true := by rw [decide_eq_true_eq]; omega
      by_cases h4 : n ≤ 57
      · have d4 : decide ((n : Int) ≤ 57) = true := by rw [decide_eq_true_eq]; omega
        go_enter Try.func29, Try.ntmps29
        go_wp2_with fail
        go_ret
        exact ⟨by rw [HE.out]; simp [h3, h4], rfl⟩
      · have d4 : decide ((n : Int) ≤ 57) = false := by rw [decide_eq_false_iff_not]; omega
        go_enter Try.func29, Try.ntmps29
        go_wp2_with fail
        go_ret
        exact ⟨by rw [HE.out]; simp [h1, h4], rfl⟩
    · have d3 : decide ((48 : Int) ≤ (n : Int)) = false := by rw [decide_eq_false_iff_not]; omega
      go_enter Try.func29, Try.ntmps29
      go_wp2_with fail
      go_ret
      exact ⟨by rw [HE.out]; simp [h1, h3], rfl⟩
set_option maxHeartbeats 1000000 in
theorem rSign_any (c : UInt8) (w : World) : Calls Try.prog 18 #[.int .u8 (c.toNat : Int)] w fun e w' => e = .returned (.bool (signB c)) ∧ w = w' := by
  have e : ∀ x : UInt8, (c == x) = decide (c.toNat = x.toNat) := fun x => by rw [Bool.eq_iff_iff, beq_iff_eq, decide_eq_true_eq]; exact UInt8.toNat_inj.symm
  have hE : signB c = (decide (c.toNat = 43) || decide (c.toNat = 58) || decide (c.toNat = 39) || decide (c.toNat = 63)) := by unfold signB; rw [e, e, e, e]; rfl
  have HE := Lib.hid hE
  obtain ⟨n, hn⟩ : ∃ n : Nat, c.toNat = n := ⟨_, rfl⟩
  rw [hn] at HE ⊢
  clear hE hn e
  by_cases h1 : n = 43
  · subst h1
    go_enter Try.func18, Try.ntmps18
    go_wp2_with fail
    go_ret
    exact ⟨by rw [HE.out]; rfl, rfl⟩
  · have d1 : ((n : Int) == 43) = false := by rw [beq_eq_false_iff_ne]; omega
    by_cases h2 : n = 58
    · subst h2
      clear d1
      go_enter Try.func18, Try.ntmps18
      go_wp2_with fail
      go_ret
      exact ⟨by rw [HE.out]; rfl, rfl⟩
    · have d2 : ((n : Int) == 58) = false := by rw [beq_eq_false_iff_ne]; omega
      by_cases h3 : n = 39
      · subst h3
        clear d1 d2
        go_enter Try.func18, Try.ntmps18
        go_wp2_with fail
        go_ret
        exact ⟨by rw [HE.out]; rfl, rfl⟩
      · have d3 : ((n : Int) == 39) = false := by rw [beq_eq_false_iff_ne]; omega
        by_cases h4 : n = 63
        · subst h4
          clear d1 d2 d3
          go_enter Try.func18, Try.ntmps18
          go_wp2_with fail
          go_ret
          exact ⟨by rw [HE.out]; rfl, rfl⟩
        · have d4 : ((n : Int) == 63) = false := by rw [beq_eq_false_iff_ne]; omega
          go_enter Try.func18, Try.ntmps18
          go_wp2_with fail
          go_ret
          exact ⟨by rw [HE.out]; simp [h1, h2, h3, h4], rfl⟩
theorem grown_alloc {w w' : World} {o : Obj} {row : Option Nat} (h : (w.alloc o).grownBy w' row) : w.grownBy w' row :=
  ⟨h.os, h.tape, h.output, by have := h.size; rw [World.size_alloc] at this; omega, fun k hk hne => (h.block k (by rw [World.size_alloc]; omega) hne).trans (Below.heap_alloc _ _ _ hk)⟩
/-- one byte more -/
theorem wp_app1 {ops : Array Oper} {rest : List Oper} {o : Oper} {a : Act} {Q : Exit → Act → World → Prop} (hgd : o.guard = none) (s x : Operand)
    (ho : o.op = .call { callee := .builtin .append, args := #[s, x], argTypes := #[32, 32] })
    {w : World} {B : Nat} {v : Value} {l : Str} (c : UInt8) (hs : a.eval s = v) (hx : a.eval x = .slice (some ⟨w.heap.size, 0, none⟩) 1 1) (hown : OwnS w B v l) (hl : l.length + 1 ≤ 140737488355328) (hB : B ≤ w.heap.size)
    (h : ∀ v' w', OwnS w' B v' (l ++ [c]) → w.grownBy w' v.ownBlock → wpList Try.prog ops Q rest (a.put o.dst v') w') :
    wpList Try.prog ops Q (o :: rest) a (w.alloc (.cells #[bv c] 5)) := by
  obtain ⟨i0, hi, hz0, hz1, hz2⟩ := info_parts einfo_u8
  refine wpList_append_own_at _ hgd s x 32 ho B 5 i0 (.int .u8 0) 1 1 Try.underlying32 hi hz0 hz1 hz2 rfl (by decide) v l.length (l.map bv) hs (World.ownsRow.alloc hown _) ⟨w.heap.size, 0, none⟩ 1 1 [bv c] hx rfl (cell_one_new _ _ _) (by simp [Value.oneCell', bv]) (by unfold maxLen; omega) (by omega) (by simp; omega) ?_
  intro v' w' h1 h2 _ _
  refine h v' w' ?_ (grown_alloc h2)
  unfold OwnS
  rw [List.length_append, List.map_append]
  exact h1
/-- a string behind -/
theorem wp_app_str {ops : Array Oper} {rest : List Oper} {o : Oper} {a : Act} {Q : Exit → Act → World → Prop} (hgd : o.guard = none) (s x : Operand)
    (ho : o.op = .call { callee := .builtin .append, args := #[s, x], argTypes := #[32, 9] })
    {w : World} {B : Nat} {v : Value} {l : Str} (t : ByteArray) (hs : a.eval s = v) (hx : a.eval x = .string t) (hown : OwnS w B v l) (hl : l.length + t.size ≤ 140737488355328) (hB : B ≤ w.heap.size)
    (h : ∀ v' w', OwnS w' B v' (l ++ t.data.toList) → w.grownBy w' v.ownBlock → wpList Try.prog ops Q rest (a.put o.dst v') w') :
    wpList Try.prog ops Q (o :: rest) a w := by
  obtain ⟨i0, hi, hz0, hz1, hz2⟩ := info_parts einfo_u8
  refine Lib.wpList_append_own_string _ hgd s x 32 9 ho B 5 i0 Try.underlying32 Try.underlying9 hi hz0 hz1 hz2 v l.length (l.map bv) hs hown t hx (by unfold maxLen; omega) (by omega) hB ?_
  intro v' w' h1 h2 _
  refine h v' w' ?_ h2
  unfold OwnS
  rw [List.length_append, List.map_append]
  have e : (t.data.toList).length = t.size := by simp
  rw [e]
  exact h1
theorem OwnS.nil (w : World) (B : Nat) : OwnS w B (.slice none 0 0) [] := World.ownsRow_nil _ _ _ _
theorem OwnS.form {w : World} {B : Nat} {v : Value} {l : Str} (h : OwnS w B v l) : ∃ a c, v = .slice a l.length c := by
  obtain ⟨_, ⟨h1, h2⟩ | ⟨g, cap, _, h1, _⟩⟩ := h
  · exact ⟨none, 0, by rw [h1, h2]⟩
  · exact ⟨_, cap, h1⟩
theorem OwnS.cong {w w' : World} {B : Nat} {v : Value} {l : Str} (h : OwnS w B v l) (e : ∀ k, k < w.heap.size → w'.heap[k]? = w.heap[k]?) : OwnS w' B v l := own_cong h fun k hk => e k (own_lt h hk).2
theorem below_grownO {w0 w w' : World} {B : Nat} {v : Value} {l : Str} (h : Below B w0 w) (ho : OwnS w B v l) (hg : w.grownBy w' v.ownBlock) (hB : B ≤ w.heap.size) : Below B w0 w' := h.grown hg hB (fun _ hk => (own_lt ho hk).1)
end Go.Proofs.Ytpfkmklhfafkiaa
