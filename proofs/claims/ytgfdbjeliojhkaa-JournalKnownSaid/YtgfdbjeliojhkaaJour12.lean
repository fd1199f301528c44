/-
  Jour12: contract of Add. No condition beyond those stated.
-/
import Derived.Test.YtgfdbjeliojhkaaJour11
import Derived.WalkHide
import Derived.Laws.EntriesVeiled
import Derived.Laws.AppendOwnNone
namespace Go.Proofs.Ytgfdbjeliojhkaa
open Go.RowKit
/-- bytes, nil or not, appended to an owned row -/
theorem wpList_append_B {ops : Array Oper} {rest : List Oper} {o : Oper} {a : Act} {Q : Exit → Act → World → Prop} {w : World} (hgd : o.guard = none) (s x : Operand)
    (ho : o.op = .call { callee := .builtin .append, args := #[s, x], argTypes := #[31, 31] }) (B : Nat) {v xv : Value} {l : List UInt8} {m : Nat} {f : Sec} (hs : a.eval s = v) (hown : OwnB w B v l) (hx : a.eval x = xv) (hxb : BytesAt w xv m f)
    (hB : B ≤ w.heap.size) (hlim : l.length + m ≤ 100000000) (h : ∀ v' w', OwnB w' B v' (l ++ secL m f) → Below B w w' → wpList Try.prog ops Q rest (a.put o.dst v') w') : wpList Try.prog ops Q (o :: rest) a w := by
  obtain ⟨i0, hi, hz0, hz1, hz2⟩ := info_parts info_u8
  obtain ⟨ao, cap, rfl, h1, h2, h3, h4⟩ := hxb
  cases ao with
  | none =>
    obtain ⟨rfl, rfl⟩ := h3 rfl
    refine wpList_append_own_none hgd s x 31 ho B 5 i0 1 Try.underlying31 hi v _ _ hs hown hx (h v w ?_ (Below.refl _ _))
    have e : secL 0 f = [] := rfl
    rw [e, List.append_nil]; exact hown
  | some ad =>
    refine wpList_append_own w hgd s x 31 ho B 5 i0 (.int .u8 0) 1 1 Try.underlying31 hi hz0 hz1 hz2 rfl (by decide) v _ _ hs hown ad m cap (rowL m f) hx (by rw [rowL_length, Nat.mul_one]) (fun j u hu => ?_) rowL_one (by unfold maxLen; omega) (by omega) hB (fun v' w' h5 h6 _ => h v' w' ?_ ?_)
    · have hj : j < m := by have := (List.getElem?_eq_some_iff.1 hu).1; rw [rowL_length] at this; exact this
      obtain ⟨b, off, e, hr⟩ := h4 (by omega)
      obtain rfl : ad = ⟨b, off, none⟩ := by simpa using e
      rw [Addr.add_mid]; exact hr j u hu
    · unfold OwnB; rw [List.length_append, secL_len, List.map_append, secL_map]; exact h5
    · exact (Below.refl B w).grown h6 hB (fun k hk => (hown.lt k hk).1)
def secsUp (n : Nat) : Nat := (n + 63) / 64
def st1 (D : DK) (d nd : List UInt8) : DK := D.burn.write (2 + d.length / 64) (secsUp nd.length - d.length / 64) (fun j => lsec nd (d.length / 64 * 64 + j))
def st2 (D : DK) (d nd : List UInt8) : DK := (st1 D d nd).synced
def st3 (D : DK) (N : Nat) (d nd : List UInt8) : DK := (st2 D d nd).burn.write ((N + 1) % 2) 1 (lsec (headL (N + 1) nd.length))
def st4 (D : DK) (N : Nat) (d nd : List UInt8) : DK := (st3 D N d nd).synced
/-- the disk ahead of each of the four steps, and behind the last -/
def stg (D : DK) (N : Nat) (d nd : List UInt8) (k : Nat) : DK :=
  if k = 0 then D else if k = 1 then st1 D d nd else if k = 2 then st2 D d nd else if k = 3 then st3 D N d nd else st4 D N d nd
theorem synced_n (D : DK) : D.synced.n = D.n := by unfold DK.synced; exact burn_n D
theorem write_n (D : DK) (a m : Nat) (f : Sec) : (D.write a m f).n = D.n := rfl
theorem st1_n (D : DK) (d nd : List UInt8) : (st1 D d nd).n = D.n := burn_n D
theorem st2_n (D : DK) (d nd : List UInt8) : (st2 D d nd).n = D.n := (synced_n _).trans (st1_n D d nd)
theorem st3_n (D : DK) (N : Nat) (d nd : List UInt8) : (st3 D N d nd).n = D.n := (burn_n _).trans (st2_n D d nd)
theorem st4_n (D : DK) (N : Nat) (d nd : List UInt8) : (st4 D N d nd).n = D.n := (synced_n _).trans (st3_n D N d nd)
theorem stg_n (D : DK) (N : Nat) (d nd : List UInt8) (k : Nat) : (stg D N d nd k).n = D.n := by
  unfold stg
  split
  · rfl
  · split
    · exact st1_n D d nd
    · split
      · exact st2_n D d nd
      · split
        · exact st3_n D N d nd
        · exact st4_n D N d nd
theorem st1_dead {D : DK} {d nd : List UInt8} (h : D.fuse ≠ 0) (hd : D.dead = false) : (st1 D d nd).dead = false := (burn_dead h).trans hd
theorem st2_dead {D : DK} {d nd : List UInt8} (h : (st1 D d nd).fuse ≠ 0) (hd : (st1 D d nd).dead = false) : (st2 D d nd).dead = false := (burn_dead h).trans hd
theorem st3_dead {D : DK} {N : Nat} {d nd : List UInt8} (h : (st2 D d nd).fuse ≠ 0) (hd : (st2 D d nd).dead = false) : (st3 D N d nd).dead = false := (burn_dead h).trans hd
theorem st4_dead {D : DK} {N : Nat} {d nd : List UInt8} (h : (st3 D N d nd).fuse ≠ 0) (hd : (st3 D N d nd).dead = false) : (st4 D N d nd).dead = false := (burn_dead h).trans hd
theorem jadd_nil (v : Value) (w : World) : Calls Try.prog 28 #[.pointer none, v] w fun e w' => e = .returned (.int .i64 8) ∧ Fr [] w w' := by
  go_enter Try.func28, Try.ntmps28
  go_wp2
  go_ret
  exact ⟨rfl, Fr.alloc _ _ _⟩
theorem jadd_long (jb : Nat) (ao : Option Addr) (m c : Nat) (hm : 65536 < m) (w : World) : Calls Try.prog 28 #[.pointer (some ⟨jb, 0, none⟩), .slice ao m c] w fun e w' => e = .returned (.int .i64 2) ∧ Fr [] w w' := by
  have hmi : (65536 : Int) < (m : Int) := by omega
  go_enter Try.func28, Try.ntmps28
  go_wp2
  go_ret
  exact ⟨rfl, Fr.alloc _ _ _⟩
theorem jadd_full {jb db lb mb N : Nat} {d : List UInt8} {dd : Bool} {D : DK} (ao : Option Addr) (m c : Nat) (w : World) (hj : JAt w jb db N d dd) (h : DiskAt w db lb mb D) (hlen : d.length ≤ 1000000) (hm : m ≤ 65536) (hf : ((D.n : Int) - 2) * 64 - (d.length : Int) - 4 < (m : Int)) :
    Calls Try.prog 28 #[.pointer (some ⟨jb, 0, none⟩), .slice ao m c] w fun e w' => e = .returned (.int .i64 3) ∧ Fr [] w w' := by
  have hmi : ¬ (65536 : Int) < (m : Int) := by omega
  have H := Lib.hid (h.fr0 (Fr.alloc [] w (.cells #[.pointer (some ⟨jb, 0, none⟩)] 47)))
  have HJ := Lib.hid (hj.fr0 (Fr.alloc [] w (.cells #[.pointer (some ⟨jb, 0, none⟩)] 47)))
  have n2 := h.n2
  clear h hj
  go_enter Try.func28, Try.ntmps28
  go_wp2_with (go_at_call 40; refine (left_any _ HJ.out H.out hlen).mono ?_; rintro e w' ⟨rfl, rfl⟩)
  go_ret
  exact ⟨rfl, (Fr.alloc _ _ _).trans (Fr.drew _ _)⟩
theorem jadd_deadJ {jb db lb mb N : Nat} {d : List UInt8} {D : DK} (ao : Option Addr) (m c : Nat) (w : World) (hj : JAt w jb db N d true) (h : DiskAt w db lb mb D) (hlen : d.length ≤ 1000000) (hm : m ≤ 65536) (hf : (m : Int) ≤ ((D.n : Int) - 2) * 64 - (d.length : Int) - 4) :
    Calls Try.prog 28 #[.pointer (some ⟨jb, 0, none⟩), .slice ao m c] w fun e w' => e = .returned (.int .i64 120) ∧ Fr [] w w' := by
  have hmi : ¬ (65536 : Int) < (m : Int) := by omega
  have hff : ¬ ((D.n : Int) - 2) * 64 - (d.length : Int) - 4 < (m : Int) := by omega
  have H := Lib.hid (h.fr0 (Fr.alloc [] w (.cells #[.pointer (some ⟨jb, 0, none⟩)] 47)))
  have HJ := Lib.hid (hj.fr0 (Fr.alloc [] w (.cells #[.pointer (some ⟨jb, 0, none⟩)] 47)))
  have n2 := h.n2
  obtain ⟨ao', cap', h1, _⟩ := hj.ex
  have c3 : w.cell? ⟨jb, 3, none⟩ = some (.bool true) := by rw [cell_of_row w jb 3 _ _ _ h1]; rfl
  have hjl := hj.lt
  clear h hj h1
  go_enter Try.func28, Try.ntmps28
  go_wp2_with (go_at_call 40; refine (left_any _ HJ.out H.out hlen).mono ?_; rintro e w' ⟨rfl, rfl⟩)
  go_ret
  exact ⟨rfl, (Fr.alloc _ _ _).trans (Fr.drew _ _)⟩
end Go.Proofs.Ytgfdbjeliojhkaa
