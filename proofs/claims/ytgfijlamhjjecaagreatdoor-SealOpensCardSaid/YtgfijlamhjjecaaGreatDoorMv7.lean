/-
  Texts NumQ, MsgV1, WrapW, MsgW, WrapF, MsgX0, WrapX0, EdiT, EdiU, one behind the other. No condition beyond those stated in each.
-/
import Derived.Test.YtgfijlamhjjecaaGreatDoorMv6
import Derived.Test.YtgfijlamhjjecaaGreatDoorMv1
import Derived.Test.YtgfijlamhjjecaaGreatDoorMv4
import Derived.Lib.ItoaMem
import Derived.Lib.AppendIntMem
import Derived.LoopN
import Derived.Laws.EntriesVeiled
import Derived.Deep.DeepFit
namespace Go.Proofs.YtgfijlamhjjecaaGreatDoor
theorem valF_split (s : Str) : ∀ (v : Nat), valF v s = v * 10 ^ s.length + valN s := by
 induction s with
 | nil => intro v; rw [List.length_nil, Nat.pow_zero, Nat.mul_one]; rfl
 | cons c r ih =>
   intro v
   have e1 : valF v (c :: r) = valF (v * 10 + (c.toNat - 48)) r := rfl
   have e2 : valN (c :: r) = valF (0 * 10 + (c.toNat - 48)) r := rfl
   rw [e1, e2, List.length_cons, ih (v * 10 + (c.toNat - 48)), ih (0 * 10 + (c.toNat - 48)), Nat.pow_succ, Nat.add_mul, Nat.add_mul, Nat.zero_mul, Nat.mul_assoc v 10, Nat.mul_comm 10 (10 ^ r.length)]
   generalize v * (10 ^ r.length * 10) = A
   generalize (c.toNat - 48) * 10 ^ r.length = B
   omega
theorem valN_lt (s : Str) : s.all digB = true → valN s < 10 ^ s.length := by
 induction s with
 | nil => intro _; rw [List.length_nil, Nat.pow_zero]; exact Nat.one_pos
 | cons c r ih =>
   intro h
   rw [List.all_cons, Bool.and_eq_true] at h
   have h1 := ih h.2
   obtain ⟨_, h2, _⟩ := digC_of h.1
   have e2 : valN (c :: r) = valF (0 * 10 + (c.toNat - 48)) r := rfl
   rw [e2, valF_split, List.length_cons, Nat.pow_succ, Nat.zero_mul, Nat.zero_add]
   have h3 : (c.toNat - 48) * 10 ^ r.length ≤ 9 * 10 ^ r.length := Nat.mul_le_mul_right _ (by omega)
   generalize (c.toNat - 48) * 10 ^ r.length = B at *
   generalize 10 ^ r.length = P at *
   omega
end Go.Proofs.YtgfijlamhjjecaaGreatDoor
namespace Go.Proofs.YtgfijlamhjjecaaGreatDoor
open Go.RowKit
def msgA (m : MD) : List Value := [.int .u8 m.kind, .int .u8 m.tc, .int .u64 m.ts, .int .u8 m.pl, .int .u8 m.c.car, .int .u16 m.c.fl, .int .u32 m.c.we, .int .i64 m.c.va, .int .u8 m.c.st, .int .u32 m.c.no, .int .i64 m.am, .int .i64 m.co]
def pktA (p : PD) : List Value := [.int .u8 p.fr, .int .u8 p.dst, .bool p.ack, .int .u64 p.num] ++ msgA p.m
structure okM (m : MD) : Prop where
 kind : m.kind < 256
 tc : m.tc < 256
 ts : m.ts < 18446744073709551616
 pl : m.pl < 256
 car : m.c.car < 256
 fl : m.c.fl < 65536
 we : m.c.we < 4294967296
 va : -9223372036854775808 ≤ m.c.va ∧ m.c.va ≤ 9223372036854775807
 st : m.c.st < 256
 no : m.c.no < 4294967296
 am : -9223372036854775808 ≤ m.am ∧ m.am ≤ 9223372036854775807
 co : -9223372036854775808 ≤ m.co ∧ m.co ≤ 9223372036854775807
structure okPD (p : PD) : Prop where
 fr : p.fr < 256
 dst : p.dst < 256
 num : p.num < 18446744073709551616
 m : okM p.m
set_option maxHeartbeats 1000000 in
theorem nmay_any (c s : Nat) (w : World) : Calls Tryz.prog 84 #[.int .u64 (c : Int), .int .u64 (s : Int)] w fun e w' => e = .returned (.bool (mayT c s)) ∧ w' = w := by
 unfold mayT
 by_cases h1 : c < 8
 · by_cases h2 : 0 < s
   · by_cases h3 : s ≤ 9999999999
     · have i1 : ((c : Int) < 8) := by omega
       have i2 : ((s : Int) ≥ 1) := by omega
       have i3 : ((s : Int) ≤ 9999999999) := by omega
       have e : (decide (c < 8) && decide (0 < s) && decide (s ≤ 9999999999)) = true := by simp [h1, h2, h3]
       rw [e]
       go_enter Tryz.func84, Tryz.ntmps84
       go_wp2_with fail
       go_ret
       exact ⟨rfl, rfl⟩
     · have i1 : ((c : Int) < 8) := by omega
       have i2 : ((s : Int) ≥ 1) := by omega
       have i3 : ¬ ((s : Int) ≤ 9999999999) := by omega
       have e : (decide (c < 8) && decide (0 < s) && decide (s ≤ 9999999999)) = false := by simp [h1, h2, h3]
       rw [e]
       go_enter Tryz.func84, Tryz.ntmps84
       go_wp2_with fail
       go_ret
       exact ⟨rfl, rfl⟩
   · have i1 : ((c : Int) < 8) := by omega
     have i2 : ¬ ((s : Int) ≥ 1) := by omega
     have e : (decide (c < 8) && decide (0 < s) && decide (s ≤ 9999999999)) = false := by simp [h1, h2]
     rw [e]
     go_enter Tryz.func84, Tryz.ntmps84
     go_wp2_with fail
     go_ret
     exact ⟨rfl, rfl⟩
 · have i1 : ¬ ((c : Int) < 8) := by omega
   have e : (decide (c < 8) && decide (0 < s) && decide (s ≤ 9999999999)) = false := by simp [h1]
   rw [e]
   go_enter Tryz.func84, Tryz.ntmps84
   go_wp2_with fail
   go_ret
   exact ⟨rfl, rfl⟩
theorem carriers_any (a b : Nat) (w : World) : Calls Tryz.prog 41 #[.int .u8 (a : Int), .int .u8 (b : Int)] w fun e w' => e = .returned (.bool (decide (a < 8) && decide (b < 8))) ∧ w' = w := by
 by_cases h1 : a < 8
 · by_cases h2 : b < 8
   · have i1 : ((a : Int) < 8) := by omega
     have i2 : ((b : Int) < 8) := by omega
     have e : (decide (a < 8) && decide (b < 8)) = true := by simp [h1, h2]
     rw [e]
     go_enter Tryz.func41, Tryz.ntmps41
     go_wp2_with fail
     go_ret
     exact ⟨rfl, rfl⟩
   · have i1 : ((a : Int) < 8) := by omega
     have i2 : ¬ ((b : Int) < 8) := by omega
     have e : (decide (a < 8) && decide (b < 8)) = false := by simp [h2]
     rw [e]
     go_enter Tryz.func41, Tryz.ntmps41
     go_wp2_with fail
     go_ret
     exact ⟨rfl, rfl⟩
 · have i1 : ¬ ((a : Int) < 8) := by omega
   have e : (decide (a < 8) && decide (b < 8)) = false := by simp [h1]
   rw [e]
   go_enter Tryz.func41, Tryz.ntmps41
   go_wp2_with fail
   go_ret
   exact ⟨rfl, rfl⟩
def NumQ (bound : Nat) (cs : List Str) (r : Int) (b : Bool) : Prop := (b = true ∧ ∃ u : Nat, oneN cs = some u ∧ (bound = 0 ∨ u < bound) ∧ r = (u : Int)) ∨ (b = false ∧ ∀ u, oneN cs = some u → ¬ (bound = 0 ∨ u < bound))
def NumR (k : IntKind) (bound : Nat) (cs : List Str) (w : World) (e : Ending) (w' : World) : Prop := ∃ (r : Int) (b : Bool), e = .returned (.tuple #[.int k r, .bool b]) ∧ NumQ bound cs r b ∧ Below w.heap.size w w'
theorem NumQ.no {bound : Nat} {cs : List Str} {r : Int} (h : oneN cs = none) : NumQ bound cs r false := .inr ⟨rfl, fun u hu => by rw [h] at hu; cases hu⟩
set_option maxRecDepth 100000 in
set_option maxHeartbeats 4000000 in
theorem num8_any {S : Nat → Prop} (w : World) (v : Value) (cs : List Str) (h : CompsAt S w v cs) (hl : ∀ p ∈ cs, p.length ≤ 1048576) (hv : VarsOk w) :
  Calls Tryz.prog 102 #[v, .int .u64 8] w fun e w' => NumR .u8 8 cs w e w' := by
 obtain ⟨ao, cap, rfl, h1, h2⟩ := h.form
 unfold maxLen at h2
 match cs, h, hl, h1 with
 | [], h, hl, h1 =>
   simp only [List.length_nil]
   go_enter Tryz.func102, Tryz.ntmps102
   go_wp2_with fail
   go_ret2
   exact ⟨0, false, rfl, .no rfl, Below.refl _ _⟩
 | a :: b :: cs, h, hl, h1 =>
   obtain ⟨n, hn⟩ : ∃ n, (a :: b :: cs).length = n := ⟨_, rfl⟩
   have d0 : ((n : Int) != 1) = true := by rw [bne_iff_ne, ← hn]; simp; omega
   have hO : oneN (a :: b :: cs) = none := rfl
   rw [hn]
   clear hn
   go_enter Tryz.func102, Tryz.ntmps102
   go_wp2_with fail
   go_ret2
   exact ⟨0, false, rfl, .no hO, Below.refl _ _⟩
 | [p], h, hl, h1 =>
   obtain ⟨b, off, rfl, _, hc⟩ := h.get (k := 0) (p := p) rfl
   simp only [List.length_cons, List.length_nil, Nat.zero_add, Nat.add_zero] at h1 hc ⊢
   obtain ⟨s, hs⟩ : ∃ s : ByteArray, (⟨p.toArray⟩ : ByteArray) = s := ⟨_, rfl⟩
   have hsz : s.size = p.length := by rw [← hs]; rfl
   have hsl : s.data.toList = p := by rw [← hs]
   have hpl := hl p (by simp)
   unfold sv at hc
   rw [hs] at hc
   clear hl h hs
   cases p with
   | nil =>
     have e0 : s = ⟨#[]⟩ := by
      cases s with | mk d => cases d with | mk l => simp at hsl; rw [hsl]
     subst e0
     go_enter Tryz.func102, Tryz.ntmps102
     go_wp2_with fail
     go_ret2
     exact ⟨0, false, rfl, .no rfl, Below.refl _ _⟩
   | cons c p =>
     have hs0 : 0 < s.size := by rw [hsz]; simp
     have hA : s[0]'hs0 = c := by
      have h1 := at_byte s 0 hs0
      rw [hsl] at h1
      simpa using h1.symm
     have ne0 : s.toList.isEmpty = false := by
      have h1 := str_ne (s := s) (t := ⟨#[]⟩) (fun h => by rw [h] at hs0; exact absurd hs0 (by decide))
      cases h2 : s.toList with
      | nil => rw [h2] at h1; simp at h1
      | cons a l => rfl
     have i0 : (0 : Int) < (s.size : Int) := by omega
     have HSZ := Lib.hid hsz
     have HSL := Lib.hid hsl
     clear hsz hsl
     by_cases h43 : c = 43
     · subst h43
       go_enter Tryz.func102, Tryz.ntmps102
       go_wp2_with fail
       go_ret2
       exact ⟨0, false, rfl, .no (num_plus (s := 43 :: p) rfl : numW (43 :: p) = none), Below.refl _ _⟩
     · have n43 : ((c.toNat : Int) == 43) = false := nat_eq c 43 h43
       by_cases h48 : 1 < s.size ∧ c = 48
       · obtain ⟨hl1, rfl⟩ := h48
         have i1 : (1 : Int) < (s.size : Int) := by omega
         go_enter Tryz.func102, Tryz.ntmps102
         go_wp2_with fail
         go_ret2
         exact ⟨0, false, rfl, .no (num_zero (s := 48 :: p) ⟨rfl, by rw [← HSZ.out]; exact hl1⟩ : numW (48 :: p) = none), Below.refl _ _⟩
       · have HPU := Lib.hid (pu_any s (by rw [HSZ.out]; exact hpl) w hv)
         have HN := Lib.hid (num_pu (s := c :: p) (by simp) (fun h => h48 ⟨by rw [HSZ.out]; exact h.2, by simpa using h.1⟩))
         rw [HSL.out] at HPU
         by_cases hl1 : 1 < s.size
         · have i1 : (1 : Int) < (s.size : Int) := by omega
           have n48 : ((c.toNat : Int) == 48) = false := nat_eq c 48 (fun h => h48 ⟨hl1, h⟩)
           go_enter Tryz.func102, Tryz.ntmps102
           go_wp2_with (go_at_call 146; refine HPU.out.mono ?_; rintro e w' ⟨u, ev, rfl, hq, hb⟩; have HQ := Lib.hid hq; have HB := Lib.hid hb; clear hq hb)
           have hn : oneN [c :: p] = numEnd (Lib.parseUintB 64 (c :: p)) := HN.out.symm
           have HNN := Lib.hid hn
           clear hn
           rcases HQ.out with ⟨hq, rfl⟩ | ⟨hq, te, pe, rfl⟩
           · have HE := Lib.hid (HNN.out.trans hq)
             clear hq
             by_cases hu : u < 8
             · have u8 : decide ((u : Int) < 8) = true := by rw [decide_eq_true_eq]; omega
               go_simp
               go_wp2_with fail
               go_ret2
               exact ⟨_, true, rfl, .inl ⟨rfl, u, HE.out, .inr hu, by omega⟩, HB.out⟩
             · have u8 : decide ((u : Int) < 8) = false := by rw [decide_eq_false_iff_not]; omega
               go_simp
               go_wp2_with fail
               go_ret2
               exact ⟨_, false, rfl, .inr ⟨rfl, fun x hx => by rw [HE.out] at hx; cases hx; omega⟩, HB.out⟩
           · have HE := Lib.hid (HNN.out.trans hq)
             clear hq
             go_simp
             go_wp2_with fail
             go_ret2
             exact ⟨_, false, rfl, .no HE.out, HB.out⟩
         · have i1 : ¬ (1 : Int) < (s.size : Int) := by omega
           go_enter Tryz.func102, Tryz.ntmps102
           go_wp2_with (go_at_call 146; refine HPU.out.mono ?_; rintro e w' ⟨u, ev, rfl, hq, hb⟩; have HQ := Lib.hid hq; have HB := Lib.hid hb; clear hq hb)
           have hn : oneN [c :: p] = numEnd (Lib.parseUintB 64 (c :: p)) := HN.out.symm
           have HNN := Lib.hid hn
           clear hn
           rcases HQ.out with ⟨hq, rfl⟩ | ⟨hq, te, pe, rfl⟩
           · have HE := Lib.hid (HNN.out.trans hq)
             clear hq
             by_cases hu : u < 8
             · have u8 : decide ((u : Int) < 8) = true := by rw [decide_eq_true_eq]; omega
               go_simp
               go_wp2_with fail
               go_ret2
               exact ⟨_, true, rfl, .inl ⟨rfl, u, HE.out, .inr hu, by omega⟩, HB.out⟩
             · have u8 : decide ((u : Int) < 8) = false := by rw [decide_eq_false_iff_not]; omega
               go_simp
               go_wp2_with fail
               go_ret2
               exact ⟨_, false, rfl, .inr ⟨rfl, fun x hx => by rw [HE.out] at hx; cases hx; omega⟩, HB.out⟩
           · have HE := Lib.hid (HNN.out.trans hq)
             clear hq
             go_simp
             go_wp2_with fail
             go_ret2
             exact ⟨_, false, rfl, .no HE.out, HB.out⟩
set_option maxRecDepth 100000 in
set_option maxHeartbeats 4000000 in
theorem num64_any {S : Nat → Prop} (w : World) (v : Value) (cs : List Str) (h : CompsAt S w v cs) (hl : ∀ p ∈ cs, p.length ≤ 1048576) (hv : VarsOk w) :
  Calls Tryz.prog 103 #[v, .int .u64 0] w fun e w' => NumR .u64 0 cs w e w' := by
 obtain ⟨ao, cap, rfl, h1, h2⟩ := h.form
 unfold maxLen at h2
 match cs, h, hl, h1 with
 | [], h, hl, h1 =>
   simp only [List.length_nil]
   go_enter Tryz.func103, Tryz.ntmps103
   go_wp2_with fail
   go_ret2
   exact ⟨0, false, rfl, .no rfl, Below.refl _ _⟩
 | a :: b :: cs, h, hl, h1 =>
   obtain ⟨n, hn⟩ : ∃ n, (a :: b :: cs).length = n := ⟨_, rfl⟩
   have d0 : ((n : Int) != 1) = true := by rw [bne_iff_ne, ← hn]; simp; omega
   have hO : oneN (a :: b :: cs) = none := rfl
   rw [hn]
   clear hn
   go_enter Tryz.func103, Tryz.ntmps103
   go_wp2_with fail
   go_ret2
   exact ⟨0, false, rfl, .no hO, Below.refl _ _⟩
 | [p], h, hl, h1 =>
   obtain ⟨b, off, rfl, _, hc⟩ := h.get (k := 0) (p := p) rfl
   simp only [List.length_cons, List.length_nil, Nat.zero_add, Nat.add_zero] at h1 hc ⊢
   obtain ⟨s, hs⟩ : ∃ s : ByteArray, (⟨p.toArray⟩ : ByteArray) = s := ⟨_, rfl⟩
   have hsz : s.size = p.length := by rw [← hs]; rfl
   have hsl : s.data.toList = p := by rw [← hs]
   have hpl := hl p (by simp)
   unfold sv at hc
   rw [hs] at hc
   clear hl h hs
   cases p with
   | nil =>
     have e0 : s = ⟨#[]⟩ := by
      cases s with | mk d => cases d with | mk l => simp at hsl; rw [hsl]
     subst e0
     go_enter Tryz.func103, Tryz.ntmps103
     go_wp2_with fail
     go_ret2
     exact ⟨0, false, rfl, .no rfl, Below.refl _ _⟩
   | cons c p =>
     have hs0 : 0 < s.size := by rw [hsz]; simp
     have hA : s[0]'hs0 = c := by
      have h1 := at_byte s 0 hs0
      rw [hsl] at h1
      simpa using h1.symm
     have ne0 : s.toList.isEmpty = false := by
      have h1 := str_ne (s := s) (t := ⟨#[]⟩) (fun h => by rw [h] at hs0; exact absurd hs0 (by decide))
      cases h2 : s.toList with
      | nil => rw [h2] at h1; simp at h1
      | cons a l => rfl
     have i0 : (0 : Int) < (s.size : Int) := by omega
     have HSZ := Lib.hid hsz
     have HSL := Lib.hid hsl
     clear hsz hsl
     by_cases h43 : c = 43
     · subst h43
       go_enter Tryz.func103, Tryz.ntmps103
       go_wp2_with fail
       go_ret2
       exact ⟨0, false, rfl, .no (num_plus (s := 43 :: p) rfl : numW (43 :: p) = none), Below.refl _ _⟩
     · have n43 : ((c.toNat : Int) == 43) = false := nat_eq c 43 h43
       by_cases h48 : 1 < s.size ∧ c = 48
       · obtain ⟨hl1, rfl⟩ := h48
         have i1 : (1 : Int) < (s.size : Int) := by omega
         go_enter Tryz.func103, Tryz.ntmps103
         go_wp2_with fail
         go_ret2
         exact ⟨0, false, rfl, .no (num_zero (s := 48 :: p) ⟨rfl, by rw [← HSZ.out]; exact hl1⟩ : numW (48 :: p) = none), Below.refl _ _⟩
       · have HPU := Lib.hid (pu_any s (by rw [HSZ.out]; exact hpl) w hv)
         have HN := Lib.hid (num_pu (s := c :: p) (by simp) (fun h => h48 ⟨by rw [HSZ.out]; exact h.2, by simpa using h.1⟩))
         rw [HSL.out] at HPU
         by_cases hl1 : 1 < s.size
         · have i1 : (1 : Int) < (s.size : Int) := by omega
           have n48 : ((c.toNat : Int) == 48) = false := nat_eq c 48 (fun h => h48 ⟨hl1, h⟩)
           go_enter Tryz.func103, Tryz.ntmps103
           go_wp2_with (go_at_call 146; refine HPU.out.mono ?_; rintro e w' ⟨u, ev, rfl, hq, hb⟩; have HQ := Lib.hid hq; have HB := Lib.hid hb; clear hq hb)
           have hn : oneN [c :: p] = numEnd (Lib.parseUintB 64 (c :: p)) := HN.out.symm
           have HNN := Lib.hid hn
           clear hn
           rcases HQ.out with ⟨hq, rfl⟩ | ⟨hq, te, pe, rfl⟩
           · have HE := Lib.hid (HNN.out.trans hq)
             clear hq
             go_simp
             go_wp2_with fail
             go_ret2
             exact ⟨_, true, rfl, .inl ⟨rfl, u, HE.out, .inl rfl, rfl⟩, HB.out⟩
           · have HE := Lib.hid (HNN.out.trans hq)
             clear hq
             go_simp
             go_wp2_with fail
             go_ret2
             exact ⟨_, false, rfl, .no HE.out, HB.out⟩
         · have i1 : ¬ (1 : Int) < (s.size : Int) := by omega
           go_enter Tryz.func103, Tryz.ntmps103
           go_wp2_with (go_at_call 146; refine HPU.out.mono ?_; rintro e w' ⟨u, ev, rfl, hq, hb⟩; have HQ := Lib.hid hq; have HB := Lib.hid hb; clear hq hb)
           have hn : oneN [c :: p] = numEnd (Lib.parseUintB 64 (c :: p)) := HN.out.symm
           have HNN := Lib.hid hn
           clear hn
           rcases HQ.out with ⟨hq, rfl⟩ | ⟨hq, te, pe, rfl⟩
           · have HE := Lib.hid (HNN.out.trans hq)
             clear hq
             go_simp
             go_wp2_with fail
             go_ret2
             exact ⟨_, true, rfl, .inl ⟨rfl, u, HE.out, .inl rfl, rfl⟩, HB.out⟩
           · have HE := Lib.hid (HNN.out.trans hq)
             clear hq
             go_simp
             go_wp2_with fail
             go_ret2
             exact ⟨_, false, rfl, .no HE.out, HB.out⟩
set_option maxRecDepth 100000 in
set_option maxHeartbeats 4000000 in
/-- is a segment of a tag, and so many elements? -/
theorem is_any {S : Nat → Prop} (w : World) (t : Str) (ev : Value) (es : List (List Str)) (h : ElemsAt S w ev es) (tag : ByteArray) (n : Nat) :
  Calls Tryz.prog 101 #[.agg #[sv t, ev], .string tag, .int .i64 (n : Int)] w fun e w' => e = .returned (.bool (decide (t = tag.data.toList ∧ es.length = n))) ∧ Below w.heap.size w w' := by
 obtain ⟨ao, cap, rfl, h1, h2⟩ := h.form
 unfold sv
 obtain ⟨st, hst⟩ : ∃ st : ByteArray, (⟨t.toArray⟩ : ByteArray) = st := ⟨_, rfl⟩
 obtain ⟨m, hm⟩ : ∃ m, es.length = m := ⟨_, rfl⟩
 rw [hst, hm]
 have hte : t = st.data.toList := by rw [← hst]
 by_cases ht : st = tag
 · subst ht
   have s1 := str_same st
   by_cases hn : m = n
   · have d1 : ((m : Int) == (n : Int)) = true := by rw [beq_iff_eq]; omega
     have hd : decide (t = st.data.toList ∧ m = n) = true := by rw [decide_eq_true_eq]; exact ⟨hte, hn⟩
     rw [hd]
     clear hd hte hst hm hn
     go_enter Tryz.func101, Tryz.ntmps101
     go_wp2_with fail
     go_ret
     exact ⟨rfl, (Below.refl _ _).alloc (Nat.le_refl _) _⟩
   · have d1 : ((m : Int) == (n : Int)) = false := by rw [beq_eq_false_iff_ne]; omega
     have hd : decide (t = st.data.toList ∧ m = n) = false := by rw [decide_eq_false_iff_not]; exact fun h => hn h.2
     rw [hd]
     clear hd hte hst hm hn
     go_enter Tryz.func101, Tryz.ntmps101
     go_wp2_with fail
     go_ret
     exact ⟨rfl, (Below.refl _ _).alloc (Nat.le_refl _) _⟩
 · have s1 := str_ne ht
   have hd : decide (t = tag.data.toList ∧ m = n) = false := by
    rw [decide_eq_false_iff_not]; rintro ⟨h, _⟩
    apply ht
    rw [hte] at h
    cases st; cases tag
    simp only [ByteArray.mk.injEq]
    exact Array.toList_inj.1 h
   rw [hd]
   clear hd hte hst hm
   go_enter Tryz.func101, Tryz.ntmps101
   go_wp2_with fail
   go_ret
   exact ⟨rfl, (Below.refl _ _).alloc (Nat.le_refl _) _⟩
def PiQ (s : Str) (v : Int) (ev : Value) : Prop := (Lib.parseIntB 64 s = .ok v ∧ ev = .nilIface) ∨ ((∀ u, Lib.parseIntB 64 s ≠ .ok u) ∧ ∃ te pe, ev = .iface te pe)
theorem pi_any (s : ByteArray) (hl : s.size ≤ 1048576) (w : World) (hv : VarsOk w) : Calls Tryz.prog 95 #[.string s, .int .i64 10, .int .i64 64] w fun e w' => ∃ (u : Int) (ev : Value), e = .returned (.tuple #[.int .i64 u, ev]) ∧ PiQ s.data.toList u ev ∧ Below w.heap.size w w' := by
 by_cases h1 : ∃ u, Lib.parseIntB 64 s.data.toList = .ok u
 · obtain ⟨u, h⟩ := h1
   refine (Tryz.strconv_ParseInt_10_at64_ok s (by omega) u h w).mono ?_
   rintro e w' ⟨rfl, hw⟩
   refine ⟨u, _, rfl, .inl ⟨h, rfl⟩, ?_⟩
   rcases hw with rfl | ⟨t, rfl⟩
   · exact Below.refl _ _
   · exact Lib.bytesWorld_below _ _ _
 have hno : ∀ u, Lib.parseIntB 64 s.data.toList ≠ .ok u := fun u e => h1 ⟨u, e⟩
 by_cases h2 : Lib.parseIntB 64 s.data.toList = .range
 · obtain ⟨te, pe, hc⟩ := hv.rng
   refine (Tryz.strconv_ParseInt_10_at64_range s (by omega) h2 _ w hc (.inr ⟨te, pe, rfl⟩)).mono ?_
   rintro e w' ⟨N, rfl, _, _, hb⟩
   exact ⟨_, _, rfl, .inr ⟨hno, _, _, rfl⟩, hb⟩
 · obtain ⟨te, pe, hc⟩ := hv.syn
   refine (Tryz.strconv_ParseInt_10_at64_syntax s (by omega) ⟨hno, h2⟩ _ w hc (.inr ⟨te, pe, rfl⟩)).mono ?_
   rintro e w' ⟨N, rfl, _, _, hb⟩
   exact ⟨0, _, rfl, .inr ⟨hno, _, _, rfl⟩, hb⟩
def WholeQ (t : Str) (lo hi : Int) (w : World) (e : Ending) (w' : World) : Prop := e = .returned (.tuple #[.int .i64 ((wholeE t lo hi).getD 0), .bool (wholeE t lo hi).isSome]) ∧ Below w.heap.size w w'
theorem wholeQ_none {t : Str} {lo hi : Int} {w w' : World} (h : wholeE t lo hi = none) (hb : Below w.heap.size w w') : WholeQ t lo hi w (.returned (.tuple #[.int .i64 0, .bool false])) w' := by
 unfold WholeQ; rw [h]; exact ⟨rfl, hb⟩
theorem wholeQ_some {t : Str} {lo hi v : Int} {w w' : World} (h : wholeE t lo hi = some v) (hb : Below w.heap.size w w') : WholeQ t lo hi w (.returned (.tuple #[.int .i64 v, .bool true])) w' := by
 unfold WholeQ; rw [h]; exact ⟨rfl, hb⟩
theorem wpi_none {s : Str} {lo hi : Int} (h : ∀ u, Lib.parseIntB 64 s ≠ .ok u) : wholePI s lo hi = none := by
 unfold wholePI
 cases hx : Lib.parseIntB 64 s <;> first | rfl | exact absurd hx (h _)
theorem wpi_ok {s : Str} {lo hi v : Int} (h : Lib.parseIntB 64 s = .ok v) : wholePI s lo hi = if s.head? = some 43 ∨ ((if s.head? = some 45 then s.tail else s).head? = some 48 ∧ s ≠ [48]) ∨ v < lo ∨ hi < v then none else some v := by
 unfold wholePI; rw [h]
theorem pib_ne {s : Str} {v : Int} (h : Lib.parseIntB 64 s = .ok v) : s ≠ [] ∧ s ≠ [45] := by
 constructor
 · rintro rfl
   have e : ∀ u, Lib.parseIntB 64 ([] : Str) ≠ .ok u := fun u hu => by cases hu
   exact e _ h
 · rintro rfl
   cases h
theorem trim45 (s : Str) : Lib.trimPrefix s [45] = if s.head? = some 45 then s.tail else s := by
 unfold Lib.trimPrefix
 cases s with
 | nil => rfl
 | cons c r =>
   by_cases h : c = 45
   · subst h; rfl
   · have e : Lib.hasPrefix (c :: r) [45] = false := by
      unfold Lib.hasPrefix
      simp [List.isPrefixOf]
      try exact fun e => h e.symm
     rw [e]; simp [h]
end Go.Proofs.YtgfijlamhjjecaaGreatDoor
namespace Go.Proofs.YtgfijlamhjjecaaGreatDoor
open Go.RowKit Go.Sort Go.Lib
set_option maxHeartbeats 6400000 in
set_option maxRecDepth 100000 in
theorem ifmt_any (u : Nat) (hu64 : u < 18446744073709551616) (w : World) (hv : VarsOk w) :
  Calls Tryz.prog 151 #[.int .u64 (u : Int), .int .i64 10] w fun e w' => e = .returned (.string ⟨(decT u).toArray⟩) ∧ Below w.heap.size w w' := by
 by_cases hs : u < 100
 · have c100 : decide ((u : Int) < 100) = true := by rw [decide_eq_true_eq]; omega
   have hwr : IntKind.i64.wrap (u : Int) = (u : Int) := by rw [IntKind.wrap_i64]; omega
   go_enter Tryz.func151, Tryz.ntmps151
   go_wp2_with (go_at_call 153; refine (Tryz.internal_strconv_small u hs _).mono ?_; rintro e w' ⟨rfl, rfl⟩)
   go_ret
   exact ⟨rfl, Below.refl _ _⟩
 · have c100 : decide ((u : Int) < 100) = false := by rw [decide_eq_false_iff_not]; omega
   have hu1 : 1 ≤ u := by omega
   have hnd20 : Lib.nDigits u ≤ 20 := by have := Lib.numDigits_eq u hu1 hu64; split at this <;> omega
   have hal : Tryz.prog.arrayLen 231 = 24 := by kernel_rfl
   have hsl : ∀ W, (Instr.sliceAt 231 (.pointer (some ⟨w.heap.size, 0, none⟩)) none (some (.int .i64 (Lib.nDigits u : Int))) none).run Tryz.prog W = .ok (.slice (some ⟨w.heap.size, 0, none⟩) (Lib.nDigits u) 24) W := fun W => by
    rw [run_sliceAt_array_h W 231 ⟨w.heap.size, 0, none⟩ (by simp [Program.arrayLen, Program.elem, Tryz.underlying231]) .i64 (Lib.nDigits u : Int) (by omega) (by rw [hal]; omega)]
    go_simp
   have hH0 := Lib.holds_zero0 w 231 (Lib.nDigits u) (by omega)
   have hfmt := Tryz.internal_strconv_formatBase10 w.heap.size 0 24 u (Array.replicate (Lib.nDigits u) 0) (w.alloc (.cells Lib.zeros24 231)) hH0 (by rw [Array.size_replicate]; exact Lib.lt_pow_nDigits u) hu64 (by rw [Array.size_replicate]; omega)
   rw [Array.size_replicate] at hfmt
   have HH0 := Lib.hid hH0
   clear hH0 hal
   go_enter Tryz.func151, Tryz.ntmps151
   go_wp2_with (first
     | (go_at_call 154; refine (Tryz.internal_strconv_numDigits u hu1 hu64 _ (Lib.tabIs_alloc hv.tab _)).mono ?_; rintro e w' ⟨rfl, rfl⟩))
   go_at_call 155
   refine hfmt.mono ?_
   rintro e w' ⟨rfl, k, v', dk, rfl, hF⟩
   have hcv : (convert 72 9 (.slice (some ⟨w.heap.size, 0, none⟩) (Lib.nDigits u) 24)).run Tryz.prog ((putRow (fun (b : UInt8) => Value.int .u8 (b.toNat : Int)) (w.alloc (.cells Lib.zeros24 231)) w.heap.size 0 dk).drewN k) = .ok (.string ⟨(Lib.decDigits u).toArray⟩) ((putRow (fun (b : UInt8) => Value.int .u8 (b.toNat : Int)) (w.alloc (.cells Lib.zeros24 231)) w.heap.size 0 dk).drewN k) := by
    have h := run_convert_bytes_back (P := Tryz.prog) ((putRow (fun (b : UInt8) => Value.int .u8 (b.toNat : Int)) (w.alloc (.cells Lib.zeros24 231)) w.heap.size 0 dk).drewN k) 72 9 5 ⟨w.heap.size, 0, none⟩ 24 (Lib.decDigits u) Tryz.underlying72 Tryz.underlying5 Tryz.underlying9 (fun j hj => by
     rw [Lib.row_is_numeral hF j hj, Lib.add_plain, World.cell?_drewN]
     exact cell?_putRow (fun (b : UInt8) => Value.int .u8 (b.toNat : Int)) _ w.heap.size 0 _ dk HH0.out (by rw [hF.size, Array.size_replicate]) j (by rw [hF.size]; rw [Lib.decDigits_length] at hj; exact hj))
    rw [Lib.decDigits_length] at h
    exact h
   go_wp2
   go_ret
   obtain ⟨os, eo⟩ := Lib.fin_at w (.cells Lib.zeros24 231) dk k 0
   refine ⟨rfl, ?_⟩
   have hb := Lib.below_grow w.heap.size w (Nat.le_refl _) k os
   rw [← eo] at hb
   exact hb
set_option maxRecDepth 100000 in
theorem fmt_any (u : Nat) (hu64 : u < 18446744073709551616) (w : World) (hv : VarsOk w) :
  Calls Tryz.prog 128 #[.int .u64 (u : Int), .int .i64 10] w fun e w' => e = .returned (.string ⟨(decT u).toArray⟩) ∧ Below w.heap.size w w' := by
 go_enter Tryz.func128, Tryz.ntmps128
 go_wp2_with (go_at_call 151; refine (ifmt_any u hu64 _ hv).mono ?_; rintro e w' ⟨rfl, hb⟩)
 go_ret
 exact ⟨rfl, hb⟩
end Go.Proofs.YtgfijlamhjjecaaGreatDoor
namespace Go.Proofs.YtgfijlamhjjecaaGreatDoor
open Go.RowKit
theorem itoa_sgn (v : Int) : Lib.itoa v = sgnT v := by
 unfold Lib.itoa sgnT
 split
 · rfl
 · rw [show v.toNat = v.natAbs by omega]
theorem fmtInt_any (v : Int) (h0 : -9223372036854775808 ≤ v) (h1 : v ≤ 9223372036854775807) (w : World) (hv : VarsOk w) : Calls Tryz.prog 116 #[.int .i64 v, .int .i64 10] w fun e w' => e = .returned (.string ⟨(sgnT v).toArray⟩) ∧ Below w.heap.size w w' :=
 (Tryz.strconv_FormatInt_10 v h0 h1 w hv.tab).mono (by
  rintro e w' ⟨rfl, k, os, rfl⟩
  exact ⟨by rw [itoa_sgn], Lib.below_grow w.heap.size w (Nat.le_refl _) k os⟩)
theorem itoa_any (v : Int) (h0 : -9223372036854775808 ≤ v) (h1 : v ≤ 9223372036854775807) (w : World) (hv : VarsOk w) : Calls Tryz.prog 45 #[.int .i64 v] w fun e w' => e = .returned (.string ⟨(sgnT v).toArray⟩) ∧ Below w.heap.size w w' :=
 (Tryz.strconv_Itoa v h0 h1 w hv.tab).mono (by
  rintro e w' ⟨rfl, k, os, rfl⟩
  exact ⟨by rw [itoa_sgn], Lib.below_grow w.heap.size w (Nat.le_refl _) k os⟩)
theorem head_of {s : ByteArray} (h : s.data.toList ≠ []) : ∃ (c : UInt8) (hs : 0 < s.size), s[0]'hs = c ∧ s.data.toList.head? = some c := by
 obtain ⟨l, hl⟩ : ∃ l, s.data.toList = l := ⟨_, rfl⟩
 have hs0 : 0 < s.size := by
  have e : s.size = l.length := by rw [← hl]; rfl
  rw [e]
  rw [hl] at h
  exact List.length_pos_iff.2 h
 refine ⟨s[0]'hs0, hs0, rfl, ?_⟩
 have h1 := at_byte s 0 hs0
 rw [hl] at h1 ⊢
 cases l with
 | nil => exact absurd hl h
 | cons a l => simpa using h1
set_option maxRecDepth 100000 in
set_option maxHeartbeats 4000000 in
theorem whole_any (s : ByteArray) (hl : s.size ≤ 1048576) (lo hi : Int) (h1 : -9223372036854775808 ≤ lo) (h2 : hi ≤ 9223372036854775807) (w : World) (hv : VarsOk w) :
  Calls Tryz.prog 53 #[.string s, .int .i64 lo, .int .i64 hi] w fun e w' => WholeQ s.data.toList lo hi w e w' := by
 obtain ⟨l, hsl⟩ : ∃ l, s.data.toList = l := ⟨_, rfl⟩
 obtain ⟨D, hD⟩ : ∃ D : ByteArray, (⟨(Lib.trimPrefix s.data.toList [45]).toArray⟩ : ByteArray) = D := ⟨_, rfl⟩
 have HT := Lib.hid (show ∀ w, Calls Tryz.prog 94 #[.string s, .string ⟨#[45]⟩] w (fun e w' => e = .returned (.string D) ∧ w = w') from fun w => (Tryz.strings_TrimPrefix s ⟨#[45]⟩ w).mono (by
  rintro e w' ⟨rfl, rfl⟩
  exact ⟨by rw [← hD], rfl⟩))
 have hDl : D.data.toList = if l.head? = some 45 then l.tail else l := by rw [← hD, ← hsl]; exact trim45 _
 have HP := Lib.hid (fun w hv => pi_any s hl w hv)
 have HSL := Lib.hid hsl
 have HE := Lib.hid (whole_pi (s := l) h1 h2)
 rw [hsl] at HP ⊢
 by_cases hok : ∃ v, Lib.parseIntB 64 l = .ok v
 · obtain ⟨v, hok⟩ := hok
   have hw := wpi_ok (lo := lo) (hi := hi) hok
   rw [HE.out] at hw
   obtain ⟨hne, hne2⟩ := pib_ne hok
   obtain ⟨c0, hs0, hA, hh⟩ := head_of (s := s) (by rw [hsl]; exact hne)
   obtain ⟨c1, hd0, hB, hh1⟩ := head_of (s := D) (by
    rw [hDl]
    split
    · rename_i h
      cases l with
      | nil => exact absurd rfl hne
      | cons a r => rintro h3; simp at h h3; subst h; subst h3; exact hne2 rfl
    · exact hne)
   rw [hsl] at hh
   rw [← hDl, hh1, hh] at hw
   have i0 : (0 : Int) < (s.size : Int) := by omega
   have i1 : (0 : Int) < (D.size : Int) := by omega
   have HOK := Lib.hid hok
   clear hsl hD hDl hok h1 h2 hne hne2 hh hh1 HE
   by_cases h43 : c0 = 43
   · subst h43
     have HN : Hid (wholeE l lo hi = none) := Lib.hid (by rw [hw, if_pos (.inl rfl)])
     clear hw
     go_enter Tryz.func53, Tryz.ntmps53
     go_wp2_with (first | (go_at_call 94; refine (HT.out _).mono ?_; rintro e w' ⟨rfl, rfl⟩) | (go_at_call 95; refine (HP.out _ hv).mono ?_; rintro e w' ⟨u, ev, rfl, hq, hb⟩; have HQ := Lib.hid hq; have HB := Lib.hid hb; clear hq hb))
     rcases HQ.out with ⟨hq, rfl⟩ | ⟨hq, te, pe, rfl⟩
     · obtain rfl : v = u := Lib.NumEnd.ok.inj (HOK.out.symm.trans hq)
       clear hq
       go_simp
       go_wp2_with fail
       go_ret2
       exact wholeQ_none HN.out HB.out
     · exact absurd HOK.out (hq _)
   have n43 : ((c0.toNat : Int) == 43) = false := nat_eq c0 43 h43
   by_cases h48 : c1 = 48 ∧ l ≠ [48]
   · obtain ⟨rfl, hne⟩ := h48
     have HN : Hid (wholeE l lo hi = none) := Lib.hid (by rw [hw, if_pos (.inr (.inl ⟨rfl, hne⟩))])
     have nez : (s.toList == [48]) = false := by
      rw [beq_eq_false_iff_ne, ByteArray.toList_eq, HSL.out]; exact hne
     clear hw hne
     go_enter Tryz.func53, Tryz.ntmps53
     go_wp2_with (first | (go_at_call 94; refine (HT.out _).mono ?_; rintro e w' ⟨rfl, rfl⟩) | (go_at_call 95; refine (HP.out _ hv).mono ?_; rintro e w' ⟨u, ev, rfl, hq, hb⟩; have HQ := Lib.hid hq; have HB := Lib.hid hb; clear hq hb))
     rcases HQ.out with ⟨hq, rfl⟩ | ⟨hq, te, pe, rfl⟩
     · obtain rfl : v = u := Lib.NumEnd.ok.inj (HOK.out.symm.trans hq)
       clear hq
       go_simp
       go_wp2_with fail
       go_ret2
       exact wholeQ_none HN.out HB.out
     · exact absurd HOK.out (hq _)
   by_cases hlo : v < lo
   · have HN : Hid (wholeE l lo hi = none) := Lib.hid (by rw [hw, if_pos (.inr (.inr (.inl hlo)))])
     clear hw
     by_cases e48 : c1 = 48
     · have ez : (s.toList == [48]) = true := by
        have : l = [48] := Classical.byContradiction fun h => h48 ⟨e48, h⟩
        rw [beq_iff_eq, ByteArray.toList_eq, HSL.out, this]
       subst e48
       clear h48
       go_enter Tryz.func53, Tryz.ntmps53
       go_wp2_with (first | (go_at_call 94; refine (HT.out _).mono ?_; rintro e w' ⟨rfl, rfl⟩) | (go_at_call 95; refine (HP.out _ hv).mono ?_; rintro e w' ⟨u, ev, rfl, hq, hb⟩; have HQ := Lib.hid hq; have HB := Lib.hid hb; clear hq hb))
       rcases HQ.out with ⟨hq, rfl⟩ | ⟨hq, te, pe, rfl⟩
       · obtain rfl : v = u := Lib.NumEnd.ok.inj (HOK.out.symm.trans hq)
         clear hq
         go_simp
         go_wp2_with fail
         go_ret2
         exact wholeQ_none HN.out HB.out
       · exact absurd HOK.out (hq _)
     · have n48 : ((c1.toNat : Int) == 48) = false := nat_eq c1 48 e48
       clear h48 e48
       go_enter Tryz.func53, Tryz.ntmps53
       go_wp2_with (first | (go_at_call 94; refine (HT.out _).mono ?_; rintro e w' ⟨rfl, rfl⟩) | (go_at_call 95; refine (HP.out _ hv).mono ?_; rintro e w' ⟨u, ev, rfl, hq, hb⟩; have HQ := Lib.hid hq; have HB := Lib.hid hb; clear hq hb))
       rcases HQ.out with ⟨hq, rfl⟩ | ⟨hq, te, pe, rfl⟩
       · obtain rfl : v = u := Lib.NumEnd.ok.inj (HOK.out.symm.trans hq)
         clear hq
         go_simp
         go_wp2_with fail
         go_ret2
         exact wholeQ_none HN.out HB.out
       · exact absurd HOK.out (hq _)
   by_cases hhi : hi < v
   · have HN : Hid (wholeE l lo hi = none) := Lib.hid (by rw [hw, if_pos (.inr (.inr (.inr hhi)))])
     clear hw
     by_cases e48 : c1 = 48
     · have ez : (s.toList == [48]) = true := by
        have : l = [48] := Classical.byContradiction fun h => h48 ⟨e48, h⟩
        rw [beq_iff_eq, ByteArray.toList_eq, HSL.out, this]
       subst e48
       clear h48
       go_enter Tryz.func53, Tryz.ntmps53
       go_wp2_with (first | (go_at_call 94; refine (HT.out _).mono ?_; rintro e w' ⟨rfl, rfl⟩) | (go_at_call 95; refine (HP.out _ hv).mono ?_; rintro e w' ⟨u, ev, rfl, hq, hb⟩; have HQ := Lib.hid hq; have HB := Lib.hid hb; clear hq hb))
       rcases HQ.out with ⟨hq, rfl⟩ | ⟨hq, te, pe, rfl⟩
       · obtain rfl : v = u := Lib.NumEnd.ok.inj (HOK.out.symm.trans hq)
         clear hq
         go_simp
         go_wp2_with fail
         go_ret2
         exact wholeQ_none HN.out HB.out
       · exact absurd HOK.out (hq _)
     · have n48 : ((c1.toNat : Int) == 48) = false := nat_eq c1 48 e48
       clear h48 e48
       go_enter Tryz.func53, Tryz.ntmps53
       go_wp2_with (first | (go_at_call 94; refine (HT.out _).mono ?_; rintro e w' ⟨rfl, rfl⟩) | (go_at_call 95; refine (HP.out _ hv).mono ?_; rintro e w' ⟨u, ev, rfl, hq, hb⟩; have HQ := Lib.hid hq; have HB := Lib.hid hb; clear hq hb))
       rcases HQ.out with ⟨hq, rfl⟩ | ⟨hq, te, pe, rfl⟩
       · obtain rfl : v = u := Lib.NumEnd.ok.inj (HOK.out.symm.trans hq)
         clear hq
         go_simp
         go_wp2_with fail
         go_ret2
         exact wholeQ_none HN.out HB.out
       · exact absurd HOK.out (hq _)
   · have HN : Hid (wholeE l lo hi = some v) := Lib.hid (by
      rw [hw, if_neg]
      rintro (h | h | h | h)
      · exact h43 (Option.some.inj h)
      · exact h48 ⟨Option.some.inj h.1, h.2⟩
      · exact hlo h
      · exact hhi h)
     clear hw
     by_cases e48 : c1 = 48
     · have ez : (s.toList == [48]) = true := by
        have : l = [48] := Classical.byContradiction fun h => h48 ⟨e48, h⟩
        rw [beq_iff_eq, ByteArray.toList_eq, HSL.out, this]
       subst e48
       clear h48
       go_enter Tryz.func53, Tryz.ntmps53
       go_wp2_with (first | (go_at_call 94; refine (HT.out _).mono ?_; rintro e w' ⟨rfl, rfl⟩) | (go_at_call 95; refine (HP.out _ hv).mono ?_; rintro e w' ⟨u, ev, rfl, hq, hb⟩; have HQ := Lib.hid hq; have HB := Lib.hid hb; clear hq hb))
       rcases HQ.out with ⟨hq, rfl⟩ | ⟨hq, te, pe, rfl⟩
       · obtain rfl : v = u := Lib.NumEnd.ok.inj (HOK.out.symm.trans hq)
         clear hq
         go_simp
         go_wp2_with fail
         go_ret2
         exact wholeQ_some HN.out HB.out
       · exact absurd HOK.out (hq _)
     · have n48 : ((c1.toNat : Int) == 48) = false := nat_eq c1 48 e48
       clear h48 e48
       go_enter Tryz.func53, Tryz.ntmps53
       go_wp2_with (first | (go_at_call 94; refine (HT.out _).mono ?_; rintro e w' ⟨rfl, rfl⟩) | (go_at_call 95; refine (HP.out _ hv).mono ?_; rintro e w' ⟨u, ev, rfl, hq, hb⟩; have HQ := Lib.hid hq; have HB := Lib.hid hb; clear hq hb))
       rcases HQ.out with ⟨hq, rfl⟩ | ⟨hq, te, pe, rfl⟩
       · obtain rfl : v = u := Lib.NumEnd.ok.inj (HOK.out.symm.trans hq)
         clear hq
         go_simp
         go_wp2_with fail
         go_ret2
         exact wholeQ_some HN.out HB.out
       · exact absurd HOK.out (hq _)
 · have hno : ∀ u, Lib.parseIntB 64 l ≠ .ok u := fun u e => hok ⟨u, e⟩
   have HN := Lib.hid ((HE.out).symm.trans (wpi_none (lo := lo) (hi := hi) hno))
   have HNO := Lib.hid hno
   clear hsl hD hDl hno hok h1 h2
   go_enter Tryz.func53, Tryz.ntmps53
   go_wp2_with (first | (go_at_call 94; refine (HT.out _).mono ?_; rintro e w' ⟨rfl, rfl⟩) | (go_at_call 95; refine (HP.out _ hv).mono ?_; rintro e w' ⟨u, ev, rfl, hq, hb⟩; have HQ := Lib.hid hq; have HB := Lib.hid hb; clear hq hb))
   rcases HQ.out with ⟨hq, rfl⟩ | ⟨_, te, pe, rfl⟩
   · exact absurd hq (HNO.out _)
   · go_simp
     go_wp2_with fail
     go_ret2
     exact wholeQ_none HN.out HB.out
set_option maxRecDepth 100000 in
set_option maxHeartbeats 2000000 in
theorem p1_any {p0 p1 p2 p3 p4 : Nat} (w : World) {b0 b1 b2 b3 b4 : Bool} (h0 : w.cell? ⟨p0, 0, none⟩ = some (.bool b0)) (h1 : w.cell? ⟨p1, 0, none⟩ = some (.bool b1)) (h2 : w.cell? ⟨p2, 0, none⟩ = some (.bool b2)) (h3 : w.cell? ⟨p3, 0, none⟩ = some (.bool b3)) (h4 : w.cell? ⟨p4, 0, none⟩ = some (.bool b4)) :
  Calls Tryz.prog 104 #[.pointer (some ⟨p0, 0, none⟩), .pointer (some ⟨p1, 0, none⟩), .pointer (some ⟨p2, 0, none⟩), .pointer (some ⟨p3, 0, none⟩), .pointer (some ⟨p4, 0, none⟩)] w fun e w' => e = .returned (.bool (b0 && b1 && b2 && b3 && b4)) ∧ w = w' := by
 cases b0
 · go_enter Tryz.func104, Tryz.ntmps104
   go_wp2_with fail
   go_ret
   exact ⟨rfl, rfl⟩
 cases b1
 · go_enter Tryz.func104, Tryz.ntmps104
   go_wp2_with fail
   go_ret
   exact ⟨rfl, rfl⟩
 cases b2
 · go_enter Tryz.func104, Tryz.ntmps104
   go_wp2_with fail
   go_ret
   exact ⟨rfl, rfl⟩
 cases b3
 · go_enter Tryz.func104, Tryz.ntmps104
   go_wp2_with fail
   go_ret
   exact ⟨rfl, rfl⟩
 · go_enter Tryz.func104, Tryz.ntmps104
   go_wp2_with fail
   go_ret
   exact ⟨rfl, rfl⟩
set_option maxRecDepth 100000 in
theorem p2_any {p0 p1 : Nat} (w : World) {r : Int} {n : Nat} (hn : 2 ≤ n) (hn2 : n ≤ 64) (h0 : w.cell? ⟨p0, 0, none⟩ = some (.int .u64 r)) (h1 : w.cell? ⟨p1, 0, none⟩ = some (.int .i64 (n : Int))) :
  Calls Tryz.prog 105 #[.pointer (some ⟨p0, 0, none⟩), .pointer (some ⟨p1, 0, none⟩)] w fun e w' => e = .returned (.bool (r == ((n - 2 : Nat) : Int))) ∧ w = w' := by
 have en : (n : Int) - 2 = ((n - 2 : Nat) : Int) := by omega
 have hc : IntKind.u64.wrap ((n - 2 : Nat) : Int) = ((n - 2 : Nat) : Int) := by rw [IntKind.wrap_u64]; omega
 go_enter Tryz.func105, Tryz.ntmps105
 go_wp2_with fail
 go_ret
 exact ⟨rfl, rfl⟩
set_option maxRecDepth 100000 in
theorem p3_any {p0 p1 : Nat} (w : World) {r s : Int} (h0 : w.cell? ⟨p0, 0, none⟩ = some (.int .u64 r)) (h1 : w.cell? ⟨p1, 0, none⟩ = some (.int .u64 s)) :
  Calls Tryz.prog 106 #[.pointer (some ⟨p0, 0, none⟩), .pointer (some ⟨p1, 0, none⟩)] w fun e w' => e = .returned (.bool (r == s)) ∧ w = w' := by
 go_enter Tryz.func106, Tryz.ntmps106
 go_wp2_with fail
 go_ret
 exact ⟨rfl, rfl⟩
theorem wrapHT_num {e0 e1 e2 g0 g1 : List Str} {m : List Seg} {r0 r1 r2 r3 r4 : Int} {b0 b1 b2 b3 b4 : Bool} (q0 : NumQ 8 e0 r0 b0) (q1 : NumQ 8 e1 r1 b1) (q2 : NumQ 0 e2 r2 b2) (q3 : NumQ 0 g0 r3 b3) (q4 : NumQ 0 g1 r4 b4) :
  ((b0 && b1 && b2 && b3 && b4) = false → wrapHT ⟨unb, [e0, e1, e2]⟩ ⟨unz, [g0, g1]⟩ m = (wd0, 40)) ∧
  ((b0 && b1 && b2 && b3 && b4) = true → ∃ u0 u1 u2 u3 u4 : Nat, (r0 = u0 ∧ r1 = u1 ∧ r2 = u2 ∧ r3 = u3 ∧ r4 = u4) ∧ wrapHT ⟨unb, [e0, e1, e2]⟩ ⟨unz, [g0, g1]⟩ m = if u3 ≠ m.length then (wd0, 41) else if u2 ≠ u4 then (wd0, 42) else (⟨u0, u1, u2, m⟩, 0)) := by
 have eh : numsW ⟨unb, [e0, e1, e2]⟩ unb 3 = numsL [e0, e1, e2] := by unfold numsW; rw [if_pos ⟨rfl, rfl⟩]
 have ez : numsW ⟨unz, [g0, g1]⟩ unz 2 = numsL [g0, g1] := by unfold numsW; rw [if_pos ⟨rfl, rfl⟩]
 unfold wrapHT
 rw [eh, ez]
 simp only [numsL]
 refine ⟨fun h => ?_, fun h => ?_⟩
 · cases o0 : oneN e0 with
   | none => rfl
   | some v0 =>
   cases o1 : oneN e1 with
   | none => rfl
   | some v1 =>
   cases o2 : oneN e2 with
   | none => rfl
   | some v2 =>
   cases o3 : oneN g0 with
   | none => rfl
   | some v3 =>
   cases o4 : oneN g1 with
   | none => rfl
   | some v4 =>
   simp only
   have hb2 : b2 = true := by rcases q2 with ⟨h, _⟩ | ⟨_, h⟩; exact h; exact absurd (.inl rfl) (h _ o2)
   have hb3 : b3 = true := by rcases q3 with ⟨h, _⟩ | ⟨_, h⟩; exact h; exact absurd (.inl rfl) (h _ o3)
   have hb4 : b4 = true := by rcases q4 with ⟨h, _⟩ | ⟨_, h⟩; exact h; exact absurd (.inl rfl) (h _ o4)
   rw [if_pos]
   subst hb2; subst hb3; subst hb4
   rcases q0 with ⟨h0, _⟩ | ⟨_, h0⟩
   · rcases q1 with ⟨h1, _⟩ | ⟨_, h1⟩
     · subst h0; subst h1; exact absurd h (by decide)
     · have := h1 _ o1; right; omega
   · have := h0 _ o0; left; omega
 · simp only [Bool.and_eq_true] at h
   obtain ⟨⟨⟨⟨h0, h1⟩, h2⟩, h3⟩, h4⟩ := h
   rcases q0 with ⟨_, u0, o0, k0, s0⟩ | ⟨h, _⟩
   · rcases q1 with ⟨_, u1, o1, k1, s1⟩ | ⟨h, _⟩
     · rcases q2 with ⟨_, u2, o2, k2, s2⟩ | ⟨h, _⟩
       · rcases q3 with ⟨_, u3, o3, k3, s3⟩ | ⟨h, _⟩
         · rcases q4 with ⟨_, u4, o4, k4, s4⟩ | ⟨h, _⟩
           · rw [o0, o1, o2, o3, o4]
             simp only
             exact ⟨u0, u1, u2, u3, u4, ⟨s0, s1, s2, s3, s4⟩, by rw [if_neg (by omega)]⟩
           · rw [h] at h4; cases h4
         · rw [h] at h3; cases h3
       · rw [h] at h2; cases h2
     · rw [h] at h1; cases h1
   · rw [h] at h0; cases h0
def isBtw : EC → Bool
 | .btw _ => true
 | _ => false
def isRel : EC → Bool
 | .rel _ _ _ _ _ => true
 | _ => false
theorem tagS_form {l : List Seg} {t : Str} {c : UInt8} {s' : EC} (h : tagS l t c = .ok s') : tagB c = true ∧ isBtw s' = false ∧ isRel s' = false := by
 unfold tagS at h
 by_cases hc : tagB c = false
 · rw [if_pos hc] at h; cases h
 · rw [if_neg hc] at h
   refine ⟨by simpa using hc, ?_⟩
   by_cases h3 : t.length + 1 < 3
   · rw [if_pos h3] at h; cases h; exact ⟨rfl, rfl⟩
   · rw [if_neg h3] at h; cases h; exact ⟨rfl, rfl⟩
theorem putS_form {l : List Seg} {t : Str} {es : List (List Str)} {cs : List Str} {p : Str} {c : UInt8} {s' : EC} (h : putS l t es cs p c = .ok s') : isBtw s' = false ∧ isRel s' = false := by
 unfold putS at h
 split at h
 · cases h
 · cases h; exact ⟨rfl, rfl⟩
theorem signS_form {l : List Seg} {t : Str} {es : List (List Str)} {cs : List Str} {p : Str} {c : UInt8} {s' : EC} (h : signS l t es cs p c = .ok s') : isBtw s' = (c == 39) ∧ isRel s' = false := by
 unfold signS at h
 by_cases h39 : c = 39
 · rw [if_pos h39] at h; cases h; subst h39; exact ⟨rfl, rfl⟩
 · rw [if_neg h39] at h
   have e : (c == 39) = false := beq_eq_false_iff_ne.2 h39
   rw [e]
   split at h
   · split at h
     · cases h
     · cases h; exact ⟨rfl, rfl⟩
   · split at h
     · cases h
     · cases h; exact ⟨rfl, rfl⟩
theorem step_form {s s' : EC} {c : UInt8} (h : stepE s c = .ok s') : isBtw s' = (c == 10 || (c == 39 && !isRel s)) ∧ isRel s' = (c == 63 && !isRel s) := by
 cases s with
 | btw l =>
   simp only [stepE] at h
   by_cases hc : c = 10 ∧ l ≠ []
   · rw [if_pos hc] at h; cases h; rw [hc.1]; exact ⟨rfl, rfl⟩
   · rw [if_neg hc] at h
     split at h
     · cases h
     · obtain ⟨h1, h2, h3⟩ := tagS_form h
       rw [h2, h3]
       refine ⟨?_, ?_⟩
       · have n1 : c ≠ 10 := by rintro rfl; exact absurd h1 (by decide)
         have n2 : c ≠ 39 := by rintro rfl; exact absurd h1 (by decide)
         simp [n1, n2]
       · have n2 : c ≠ 63 := by rintro rfl; exact absurd h1 (by decide)
         simp [n2]
 | tag l t =>
   obtain ⟨h1, h2, h3⟩ := tagS_form h
   rw [h2, h3]
   refine ⟨?_, ?_⟩
   · have n1 : c ≠ 10 := by rintro rfl; exact absurd h1 (by decide)
     have n2 : c ≠ 39 := by rintro rfl; exact absurd h1 (by decide)
     simp [n1, n2]
   · have n2 : c ≠ 63 := by rintro rfl; exact absurd h1 (by decide)
     simp [n2]
 | bhd l t =>
   simp only [stepE] at h
   split at h
   · cases h; subst_vars; exact ⟨rfl, rfl⟩
   · split at h
     · cases h; subst_vars; exact ⟨rfl, rfl⟩
     · cases h
 | cmp l t es cs p =>
   simp only [stepE] at h
   split at h
   · cases h; subst_vars; exact ⟨rfl, rfl⟩
   · rename_i h63
     split at h
     · rename_i hs
       obtain ⟨h1, h2⟩ := signS_form h
       have n1 : c ≠ 10 := by rintro rfl; exact absurd hs (by decide)
       rw [h1, h2]
       simp [n1, h63, isRel]
     · rename_i hs
       split at h
       · cases h
       · rename_i hb
         obtain ⟨h1, h2⟩ := putS_form h
         have n1 : c ≠ 10 := by rintro rfl; exact hb (by decide)
         have n2 : c ≠ 39 := by rintro rfl; exact hs (by decide)
         rw [h1, h2]
         simp [n1, n2, h63]
 | rel l t es cs p =>
   simp only [stepE] at h
   split at h
   · rename_i hs
     obtain ⟨h1, h2⟩ := putS_form h
     have n1 : c ≠ 10 := by rintro rfl; exact absurd hs (by decide)
     rw [h1, h2]
     simp [n1, isRel]
   · cases h
theorem step_err {s : EC} {c : UInt8} {k : Int} (h : stepE s c = .err k) : k = 2 ∨ k = 30 := by
 have hT : ∀ l t, tagS l t c = .err k → k = 2 ∨ k = 30 := fun l t h => by
  unfold tagS at h
  split at h
  · cases h; exact .inr rfl
  · split at h <;> cases h
 have hP : ∀ l t es cs p, putS l t es cs p c = .err k → k = 2 ∨ k = 30 := fun l t es cs p h => by
  unfold putS at h
  split at h
  · cases h; exact .inl rfl
  · cases h
 have hS : ∀ l t es cs p, signS l t es cs p c = .err k → k = 2 ∨ k = 30 := fun l t es cs p h => by
  unfold signS at h
  split at h
  · cases h
  · split at h
    · split at h
      · cases h; exact .inl rfl
      · cases h
    · split at h
      · cases h; exact .inl rfl
      · cases h
 cases s with
 | btw l =>
   simp only [stepE] at h
   split at h
   · cases h
   · split at h
     · cases h; exact .inl rfl
     · exact hT _ _ h
 | tag l t => exact hT _ _ h
 | bhd l t =>
   simp only [stepE] at h
   split at h
   · cases h
   · split at h
     · cases h
     · cases h; exact .inr rfl
 | cmp l t es cs p =>
   simp only [stepE] at h
   split at h
   · cases h
   · split at h
     · exact hS _ _ _ _ _ h
     · split at h
       · cases h; exact .inr rfl
       · exact hP _ _ _ _ _ h
 | rel l t es cs p =>
   simp only [stepE] at h
   split at h
   · exact hP _ _ _ _ _ h
   · cases h; exact .inr rfl
theorem heldN_succ {t : Str} {i : Nat} {c : UInt8} (h : t[i]? = some c) : heldN t (i + 1) = if c == 63 then heldN t i + 1 else 0 := by
 have hi : i < t.length := (List.getElem?_eq_some_iff.1 h).1
 unfold heldN
 rw [List.take_add_one, h, Option.toList_some, List.reverse_append, List.reverse_singleton, List.singleton_append, List.takeWhile_cons]
 by_cases hc : (c == 63) = true
 · rw [if_pos hc, if_pos hc, List.length_cons]
 · rw [if_neg hc, if_neg hc]; rfl
theorem heldN_zero (t : Str) : heldN t 0 = 0 := by simp [heldN]
theorem held_step {t : Str} {i : Nat} {c : UInt8} {s s' : EC} (h : t[i]? = some c) (hs : stepE s c = .ok s') (hp : (heldN t i % 2 == 1) = isRel s) : (heldN t (i + 1) % 2 == 1) = isRel s' := by
 rw [heldN_succ h, (step_form hs).2, ← hp]
 by_cases hc : c = 63
 · subst hc
   simp only [beq_self_eq_true, if_pos, Bool.true_and]
   rw [Bool.eq_iff_iff, beq_iff_eq, Bool.not_eq_true', beq_eq_false_iff_ne]
   omega
 · have e : (c == 63) = false := beq_eq_false_iff_ne.2 hc
   rw [e]; rfl
section
variable {S : Nat → Prop} {w : World} {B rb : Nat} {l : List Seg} {lv pv : Value} {xs : List Value} {p : Str}
theorem RA.segs (h : RA S w B rb l lv pv xs p) : SegsO (fun k => B ≤ k ∧ k < w.heap.size) B w lv l :=
 ⟨xs, h.hl, fun _ hk => own_lt h.hl hk, h.xl, fun i s x hs hx => (h.hes i s x hs hx).cong (fun k hk => ⟨(h.s1 k hk).1, (h.s1 k hk).2.1⟩) (fun _ _ => rfl)⟩
end
theorem parse_big (s : ByteArray) (h : 65536 < s.size) (w : World) : Calls Tryz.prog 100 #[.string s] w fun e w' => e = .returned (.tuple #[.slice none 0 0, .int .i64 0, .int .i64 2]) ∧ w = w' := by
 have d1 : decide ((65536 : Int) < (s.size : Int)) = true := by rw [decide_eq_true_eq]; omega
 go_enter Tryz.func100, Tryz.ntmps100
 go_wp2_with fail
 go_ret3
 exact ⟨rfl, rfl⟩
theorem parseE_ok {t : Str} (h : t.length ≤ 65536) : parseE t = match runE (.btw []) 0 t with
  | .err i k => ([], i, k)
  | .ok (.btw l) => (l, 0, 0)
  | .ok _ => ([], t.length, 31) := by
 unfold parseE
 rw [if_neg (by omega)]
 rfl
theorem rd_start (w : World) (n : Nat) (hn : n = w.heap.size) : Rd (w.alloc (.cells #[.slice none 0 0, .slice none 0 0] 215)) n n (.btw []) := by
 subst hn
 refine ⟨fun _ => False, .slice none 0 0, .slice none 0 0, [], [], ⟨Nat.le_refl _, ?_, ?_, ?_, rfl, ?_, ?_⟩, by decide⟩
 · exact heap_alloc_new _ _
 · exact ⟨rfl, .inl ⟨rfl, rfl⟩⟩
 · exact ⟨rfl, .inl ⟨rfl, rfl⟩⟩
 · intro i s x h; simp at h
 · intro k hk; exact hk.elim
theorem enter_fn {f : Nat} {fn : Func} {c : Code} (hf : Tryz.prog.funcs[f]? = some fn) (hname : (fn.name == "runtime.NumGoroutine") = false) (hb : fn.body = some c) (args : Array Value) (w : World) :
  (callFunc f args).run Tryz.prog w = .ok (.enter f args) w := by
 have h1 : fn.name ≠ "runtime.NumGoroutine" := by simpa using hname
 simp [callFunc, hf, h1, hb, mark]
theorem enter_step (c : EC) (args : Array Value) (w : World) : (callFunc (fnE c) args).run Tryz.prog w = .ok (.enter (fnE c) args) w := by
 cases c with
 | btw l => exact enter_fn Tryz.func144 (by decide) rfl args w
 | tag l t => exact enter_fn Tryz.func168 (by decide) rfl args w
 | bhd l t => exact enter_fn Tryz.func187 (by decide) rfl args w
 | cmp l t es cs p => exact enter_fn Tryz.func205 (by decide) rfl args w
 | rel l t es cs p => exact enter_fn Tryz.func216 (by decide) rfl args w
set_option maxRecDepth 100000 in
set_option maxHeartbeats 4000000 in
theorem parse_own (s : ByteArray) (h : s.size ≤ 65536) (w : World) : Calls Tryz.prog 100 #[.string s] w fun e w' => ∃ v, e = .returned (.tuple #[v, .int .i64 ((parseE s.data.toList).2.1 : Int), .int .i64 (parseE s.data.toList).2.2]) ∧ SegsO (fun k => w.heap.size ≤ k ∧ k < w'.heap.size) w.heap.size w' v (parseE s.data.toList).1 ∧ Below w.heap.size w w' := by
 have d1 : decide ((65536 : Int) < (s.size : Int)) = false := by rw [decide_eq_false_iff_not]; omega
 obtain ⟨P, hP⟩ : ∃ P, parseE s.data.toList = P := ⟨_, rfl⟩
 rw [hP]
 have HP := Lib.hid hP
 clear hP
 go_enter Tryz.func100, Tryz.ntmps100
 go_wp2_with fail
 obtain ⟨rb, hrb⟩ : ∃ rb, w.heap.size = rb := ⟨_, rfl⟩
 rw [hrb]
 obtain ⟨w1, hw1⟩ : ∃ w1, w.alloc (.cells #[.slice none 0 0, .slice none 0 0] 215) = w1 := ⟨_, rfl⟩
 have HR := Lib.hid (show Rd w1 rb rb (.btw []) by rw [← hw1]; exact rd_start w rb hrb.symm)
 have HB := Lib.hid (show Below rb w w1 by rw [← hw1, ← hrb]; exact (Below.refl _ w).alloc (Nat.le_refl _) _)
 rw [hw1]
 clear hw1
 go_loopw [6, 7, 20] (fun nx dn i wr => ∃ (k : Nat) (c : EC), k ≤ s.size ∧ i = .int .i64 (k : Int) ∧ nx = .func (.func (fnE c)) #[.pointer (some ⟨rb, 0, none⟩)] #[] ∧ dn = .bool (isBtw c) ∧ Hid (Rd wr rb rb c) ∧ Hid (Below rb w wr) ∧ Hid (runE (.btw []) 0 s.data.toList = runE c k (s.data.toList.drop k)) ∧ Hid ((heldN s.data.toList k % 2 == 1) = isRel c)) (fun _ _ i _ => s.size - (intOf i).toNat)
 case atStart => exact ⟨0, .btw [], by omega, rfl, rfl, rfl, HR, HB, Lib.hid rfl, Lib.hid (by rw [heldN_zero]; rfl)⟩
 case round =>
  obtain ⟨k, c, hk, rfl, rfl, rfl, HD, HF, HN, HH⟩ := hrel
  clear HR HB
  by_cases hlt : k < s.size
  · have hA := at_byte s _ hlt
    obtain ⟨b, hb⟩ : ∃ b, s[k]'hlt = b := ⟨_, rfl⟩
    rw [hb] at hA
    have hent := enter_step c
    have hDR : s.data.toList.drop k = b :: s.data.toList.drop (k + 1) := by
     obtain ⟨hl, he⟩ := List.getElem?_eq_some_iff.1 hA
     rw [List.drop_eq_getElem_cons hl, he]
    have hS := rd_step HD.out (by have := HF.out.size; omega) b
    cases hr : stepE c b with
    | err kk =>
      rw [hr] at hS
      have HS := Lib.hid hS
      clear hS
      have hP : P = ([], k, kk) := by
       rw [← HP.out, parseE_ok (by simpa using h), HN.out, hDR]
       simp only [runE, hr]
      subst hP
      rcases step_err hr with rfl | rfl
      · go_wp2_with (go_fit HS.out; rintro e w' ⟨rfl, hB⟩; have HB2 := Lib.hid hB; clear hB)
        go_ret3
        exact ⟨_, rfl, SegsO.nil _ _ _, HF.out.trans HB2.out⟩
      · go_wp2_with (go_fit HS.out; rintro e w' ⟨rfl, hB⟩; have HB2 := Lib.hid hB; clear hB)
        go_ret3
        exact ⟨_, rfl, SegsO.nil _ _ _, HF.out.trans HB2.out⟩
    | ok c' =>
      rw [hr] at hS
      have HS := Lib.hid hS
      have HC := Lib.hid (step_form hr)
      clear hS
      have HX := Lib.hid (show runE (.btw []) 0 s.data.toList = runE c' (k + 1) (s.data.toList.drop (k + 1)) by
       rw [HN.out, hDR]
       simp only [runE, hr])
      have HY := Lib.hid (held_step hA hr HH.out)
      have hHL := fun w => held_any (.pointer (some ⟨rb, 0, none⟩)) s k (by omega) (by omega) w
      have HHL := Lib.hid hHL
      clear hHL hDR
      by_cases h10 : b = 10
      · have hbv : isBtw c' = true := by rw [HC.out.1, h10]; rfl
        subst h10
        go_wp2_with (go_fit HS.out; rintro e w' ⟨rfl, hD, hB⟩; have HD2 := Lib.hid hD; have HB2 := Lib.hid hB; clear hB hD)
        go_round
        case rel => exact ⟨k + 1, c', by omega, by go_num, rfl, by rw [hbv], HD2, Lib.hid (HF.out.trans HB2.out), HX, HY⟩
        case measure => simp [intOf]; omega
      · have n10 : ((b.toNat : Int) == 10) = false := nat_eq b 10 h10
        by_cases h39 : b = 39
        · subst h39
          by_cases hk0 : k = 0
          · have k0 : ((k : Int) == 0) = true := by rw [hk0]; rfl
            have hbv : isBtw c' = true := by rw [HC.out.1, ← HH.out, hk0, heldN_zero]; rfl
            clear hk0
            go_wp2_with (go_fit HS.out; rintro e w' ⟨rfl, hD, hB⟩; have HD2 := Lib.hid hD; have HB2 := Lib.hid hB; clear hB hD)
            go_round
            case rel => exact ⟨k + 1, c', by omega, by go_num, rfl, by rw [hbv], HD2, Lib.hid (HF.out.trans HB2.out), HX, HY⟩
            case measure => simp [intOf]; omega
          · have k0 : ((k : Int) == 0) = false := by rw [beq_eq_false_iff_ne]; omega
            have hbv : isBtw c' = !(heldN s.data.toList k % 2 == 1) := by rw [HC.out.1, ← HH.out]; rfl
            have HBV := Lib.hid hbv
            clear hbv
            go_wp2_with first | (go_fit HS.out; rintro e w' ⟨rfl, hD, hB⟩; have HD2 := Lib.hid hD; have HB2 := Lib.hid hB; clear hB hD) | (go_at_call 145; refine (HHL.out _).mono ?_; rintro e w' ⟨rfl, rfl⟩)
            go_round
            case rel => exact ⟨k + 1, c', by omega, by go_num, rfl, by rw [HBV.out], HD2, Lib.hid (HF.out.trans HB2.out), HX, HY⟩
            case measure => simp [intOf]; omega
        · have n39 : ((b.toNat : Int) == 39) = false := nat_eq b 39 h39
          have hbv : isBtw c' = false := by rw [HC.out.1]; simp [h10, h39]
          go_wp2_with (go_fit HS.out; rintro e w' ⟨rfl, hD, hB⟩; have HD2 := Lib.hid hD; have HB2 := Lib.hid hB; clear hB hD)
          go_round
          case rel => exact ⟨k + 1, c', by omega, by go_num, rfl, by rw [hbv], HD2, Lib.hid (HF.out.trans HB2.out), HX, HY⟩
          case measure => simp [intOf]; omega
  · obtain rfl : k = s.size := by omega
    have hN := HN.out
    rw [List.drop_eq_nil_of_le (by simp)] at hN
    simp only [runE] at hN
    have hPP : P = match (EO.ok c) with
      | .err i k => ([], i, k)
      | .ok (.btw l) => (l, 0, 0)
      | .ok _ => ([], s.data.toList.length, 31) := by
     rw [← HP.out, parseE_ok (by simpa using h), hN]
    have hsz : s.data.toList.length = s.size := by simp
    rw [hsz] at hPP
    clear hN
    cases c with
    | btw l =>
      obtain ⟨S, lv, pv, xs, p, hR, hl64⟩ := HD.out
      have d0 := hR.c0
      have HRR := Lib.hid hR
      clear hR
      simp only [isBtw]
      replace hPP : P = (l, 0, 0) := hPP
      subst hPP
      go_wp2_with fail
      go_ret3
      exact ⟨_, rfl, HRR.out.segs, HF.out⟩
    | tag l t =>
      simp only [isBtw]
      replace hPP : P = ([], s.size, 31) := hPP
      subst hPP
      go_wp2_with fail
      go_ret3
      exact ⟨_, rfl, SegsO.nil _ _ _, HF.out⟩
    | bhd l t =>
      simp only [isBtw]
      replace hPP : P = ([], s.size, 31) := hPP
      subst hPP
      go_wp2_with fail
      go_ret3
      exact ⟨_, rfl, SegsO.nil _ _ _, HF.out⟩
    | cmp l t es cs p =>
      simp only [isBtw]
      replace hPP : P = ([], s.size, 31) := hPP
      subst hPP
      go_wp2_with fail
      go_ret3
      exact ⟨_, rfl, SegsO.nil _ _ _, HF.out⟩
    | rel l t es cs p =>
      simp only [isBtw]
      replace hPP : P = ([], s.size, 31) := hPP
      subst hPP
      go_wp2_with fail
      go_ret3
      exact ⟨_, rfl, SegsO.nil _ _ _, HF.out⟩
end Go.Proofs.YtgfijlamhjjecaaGreatDoor
