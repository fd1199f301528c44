/-
  Disk4: the sectors that wait, by their numbers: the iterator's contract. No condition.
-/
import Derived.Test.YtgfdbjeliojhkaaDisk3
import Derived.Test.YtgfdbjeliojhkaaRound
namespace Go.Proofs.Ytgfdbjeliojhkaa
open Go.RowKit Go.Shelf

attribute [local go_sem] Oper.semAt_some

abbrev WI (D : DK) := { i : Nat // i < D.n ∧ (D.M i).isSome = true }
def secW (D : DK) (x : WI D) : Sec := (D.M x.1).getD fun _ => 0
def encW (D : DK) (x : WI D) : Array Value := #[.int .i64 (x.1 : Int), .agg (rowA 64 (secW D x))]
/-- those that wait below k -/
def wl (D : DK) : Nat → List (WI D)
  | 0 => []
  | k + 1 => wl D k ++ if h : k < D.n ∧ (D.M k).isSome = true then [⟨k, h⟩] else []
theorem wl_none {D : DK} {k : Nat} (h : D.M k = none) : wl D (k + 1) = wl D k := by simp [wl, h]
theorem wl_some {D : DK} {k : Nat} (h1 : k < D.n) (h : (D.M k).isSome = true) : wl D (k + 1) = wl D k ++ [⟨k, h1, h⟩] := by simp [wl, h, h1]
theorem wl_len (D : DK) : ∀ k, (wl D k).length ≤ k
  | 0 => Nat.le_refl _
  | k + 1 => by have := wl_len D k; simp only [wl, List.length_append]; split <;> simp <;> omega

/-- what the iterator reads -/
structure ItAt (w : World) (bx db lb mb : Nat) (D : DK) : Prop where
  n2 : D.n ≤ 4096
  x : w.heap[bx]? = some (.cells #[.pointer (some ⟨db, 0, none⟩)] 25 (0, 0))
  d : w.heap[db]? = some (.cells #[.slice (some ⟨lb, 0, none⟩) D.n D.n, .map (some mb), .bool D.dead, .int .i64 D.fuse] 66 (0, 0))
  m : MapRep w mb D.n D.M
/-- what a round keeps -/
def Kp3 (bx db mb : Nat) (w w' : World) : Prop := w'.heap[bx]? = w.heap[bx]? ∧ w'.heap[db]? = w.heap[db]? ∧ w'.heap[mb]? = w.heap[mb]? ∧ w.heap.size ≤ w'.heap.size
theorem Kp3.trans {bx db mb : Nat} {a b c : World} (h : Kp3 bx db mb a b) (k : Kp3 bx db mb b c) : Kp3 bx db mb a c := ⟨k.1.trans h.1, k.2.1.trans h.2.1, k.2.2.1.trans h.2.2.1, Nat.le_trans h.2.2.2 k.2.2.2⟩
theorem Kp3.refl (bx db mb : Nat) (a : World) : Kp3 bx db mb a a := ⟨rfl, rfl, rfl, Nat.le_refl _⟩
theorem Fr.kp3 {F : List Nat} {w w' : World} {bx db mb : Nat} (h : Fr F w w') (h1 : bx < w.heap.size) (h2 : db < w.heap.size) (h3 : mb < w.heap.size) (n1 : bx ∉ F) (n2 : db ∉ F) (n3 : mb ∉ F) : Kp3 bx db mb w w' :=
  ⟨h.block _ h1 n1, h.block _ h2 n2, h.block _ h3 n3, h.size⟩
namespace ItAt
variable {w w' : World} {bx db lb mb : Nat} {D : DK}
theorem keep (h : ItAt w bx db lb mb D) (k : Kp3 bx db mb w w') : ItAt w' bx db lb mb D := ⟨h.n2, k.1.trans h.x, k.2.1.trans h.d, h.m.congrB k.2.2.1⟩
theorem bx_lt (h : ItAt w bx db lb mb D) : bx < w.heap.size := (Array.getElem?_eq_some_iff.1 h.x).1
theorem db_lt (h : ItAt w bx db lb mb D) : db < w.heap.size := (Array.getElem?_eq_some_iff.1 h.d).1
theorem mb_lt (h : ItAt w bx db lb mb D) : mb < w.heap.size := h.m.lt
theorem cx (h : ItAt w bx db lb mb D) : w.cell? ⟨bx, 0, none⟩ = some (.pointer (some ⟨db, 0, none⟩)) := by rw [cell_of_row w bx 0 _ _ _ h.x]; rfl
theorem c0 (h : ItAt w bx db lb mb D) : w.cell? ⟨db, 0, none⟩ = some (.slice (some ⟨lb, 0, none⟩) D.n D.n) := by rw [cell_of_row w db 0 _ _ _ h.d]; rfl
theorem c1 (h : ItAt w bx db lb mb D) : w.cell? ⟨db, 1, none⟩ = some (.map (some mb)) := by rw [cell_of_row w db 1 _ _ _ h.d]; rfl
end ItAt

theorem sectors_in (n : Nat) (db : Nat) (w : World) :
    CallsIn Fence.wide n Try.prog 36 #[.pointer (some ⟨db, 0, none⟩)] w fun e w' => e = .returned (.func (.func 47) #[] #[.pointer (some ⟨w.heap.size, 0, none⟩)]) ∧ w' = w.alloc (.cells #[.pointer (some ⟨db, 0, none⟩)] 25) := by
  refine callsIn_wide.2 ?_
  go_enter Try.func36, Try.ntmps36
  go_wp2
  go_ret
  exact ⟨rfl, rfl⟩

set_option maxRecDepth 100000 in
set_option maxHeartbeats 2000000 in
theorem sectors1_in (n : Nat) (hn : 1 ≤ n) (l bx db lb mb : Nat) (D : DK) (J Jx : List (WI D) → World → Prop) (W : World) (hab : AbidesFrom W.heap.size J) (h : ItAt W bx db lb mb D)
    (hY : ∀ pre x W1, J pre W1 → pre.length < D.n → YieldAt Fence.wide (n - 1) Try.prog l (encW D x) W1 fun e W' =>
      (e = .returned (.bool true) ∧ J (pre ++ [x]) W' ∧ Kp3 bx db mb W1 W') ∨ (e = .returned (.bool false) ∧ Jx (pre ++ [x]) W'))
    (h0 : J [] W) :
    CallsIn Fence.wide n Try.prog 47 #[.func (.yield l) #[] #[], .pointer (some ⟨bx, 0, none⟩)] W fun e W' => (∃ v, e = .returned v) ∧ ((∃ xs, xs = wl D D.n ∧ J xs W') ∨ (∃ pre, True ∧ Jx pre W')) := by
  have cx := h.cx
  have c0 := h.c0
  have n2 := h.n2
  have H := Lib.hid h
  clear h
  refine callsIn_of_wp Try.func47 rfl trivial ?_ rfl
  simp only [Try.ntmps47, List.size_toArray, List.length_cons, List.length_nil, Nat.reduceAdd, Nat.reduceSub, Array.replicate_succ, Array.replicate_zero, List.push_toArray, List.append_toArray, List.nil_append, List.cons_append]
  gi_wp2
  gi_loopw [11] (fun i wr => ∃ k : Nat, k ≤ D.n ∧ i = .int .i64 (k : Int) ∧ J (wl D k) wr ∧ ItAt wr bx db lb mb D ∧ W.heap.size ≤ wr.heap.size) (fun i _ => D.n - (intOf i).toNat)
  case atStart => exact ⟨0, Nat.zero_le _, rfl, h0, H.out, Nat.le_refl _⟩
  case round =>
    obtain ⟨k, hk, rfl, hJ, hI, hsz⟩ := hrel
    have HI := Lib.hid hI
    have cx := hI.cx
    have c1 := hI.c1
    have l1 := hI.bx_lt
    have l2 := hI.db_lt
    have l3 := hI.mb_lt
    clear hI
    by_cases hlt : k < D.n
    · have HLK := Lib.hid (run_lookup_waits (P := Try.prog) Try.underlying64 Try.underlying3 zero_sector HI.out.m k)
      have al := fun o : Obj => hab _ _ _ none hJ (World.grownBy_alloc wr o none) (fun r e => by cases e)
      have AL := Lib.hid al
      have HJ := Lib.hid hJ
      have hit := fun o : Obj => HI.out.keep ((Fr.alloc [] wr o).kp3 l1 l2 l3 (by simp) (by simp) (by simp))
      have HIT := Lib.hid hit
      clear al hJ hit
      cases hM : D.M k with
      | none =>
        rw [hM] at HLK
        have HM := Lib.hid hM
        clear hM
        gi_wp2_with (first
          | (gi_at_lookup; refine wpListIn_valG (fun _ => trivial) rfl (nd_of rfl (fun c h => by cases h)) (exec_lookup rfl rfl rfl HLK.out) ?_)
          | ((with_reducible refine wpListIn_at (.alloc 69) rfl ?_); refine wpListIn_valG (fun _ => trivial) rfl (nd_of rfl (fun c h => by cases h)) (exec_alloc_arr 69 rfl 64 (fun _ => 0) zero_sector) ?_)
          | ((with_reducible refine wpListIn_at (.store 69 (.tmp 4) (.tmp 21)) rfl ?_); refine wpListIn_skipG (fun _ => trivial) rfl (nd_of rfl (fun c h => by cases h)) (exec_store_new 69 _ _ rfl 64 (fun _ => 0) _ rfl rfl isz_sector) ?_))
        refine ⟨fun _ h => (by cases h), ?_⟩
        gi_wp2
        go_roundw
        case rel => exact ⟨k + 1, by omega, by go_num, by rw [wl_none HM.out]; exact AL.out _, HIT.out _, by simp; omega⟩
        case measure => simp [intOf]; omega
      | some s =>
        rw [hM] at HLK
        have hs : (D.M k).isSome = true := by rw [hM]; rfl

        obtain ⟨fn, tmps, assign, body, hy, hR⟩ := hY (wl D k) ⟨k, hlt, hs⟩ (wr.alloc (.cells (rowA 64 s) 69)) (AL.out _) (by have := wl_len D k; omega)
        rw [show encW D ⟨k, hlt, hs⟩ = #[.int .i64 (k : Int), .agg (rowA 64 s)] by simp [encW, secW, hM]] at hy
        have HM := Lib.hid hM
        have HR := Lib.hid hR
        clear hM hR
        gi_wp2_with (first
          | (gi_at_lookup; refine wpListIn_valG (fun _ => trivial) rfl (nd_of rfl (fun c h => by cases h)) (exec_lookup rfl rfl rfl HLK.out) ?_)
          | ((with_reducible refine wpListIn_at (.alloc 69) rfl ?_); refine wpListIn_valG (fun _ => trivial) rfl (nd_of rfl (fun c h => by cases h)) (exec_alloc_arr 69 rfl 64 (fun _ => 0) zero_sector) ?_)
          | ((with_reducible refine wpListIn_at (.store 69 (.tmp 4) (.tmp 21)) rfl ?_); refine wpListIn_skipG (fun _ => trivial) rfl (nd_of rfl (fun c h => by cases h)) (exec_store_new 69 _ _ rfl 64 (fun _ => 0) s rfl rfl isz_sector) ?_)
          | ((with_reducible refine wpListIn_at (.load 69 (.tmp 4)) rfl ?_); refine wpListIn_valG (fun _ => trivial) rfl (nd_of rfl (fun c h => by cases h)) (exec_load_new 69 _ rfl 64 s rfl Try.underlying69 rfl isz_sector) ?_))
        refine HR.out.mono ?_
        rintro e W3 (⟨rfl, hJ3, hk3⟩ | ⟨rfl, hJx3⟩)
        · have HJ3 := Lib.hid hJ3
          have hI3 := ((HIT.out (.cells (rowA 64 s) 69)).keep hk3)
          have hs3 : (wr.alloc (.cells (rowA 64 s) 69)).heap.size ≤ W3.heap.size := hk3.2.2.2
          have HI3 := Lib.hid hI3
          clear hJ3 hk3 hI3
          gi_wp2
          go_roundw
          case rel => exact ⟨k + 1, by omega, by go_num, by rw [wl_some hlt hs]; exact HJ3.out, HI3.out, by simp at hs3; omega⟩
          case measure => simp [intOf]; omega
        · have HX := Lib.hid hJx3
          clear hJx3
          gi_wp2
          refine bodyPost_ret (results_none rfl _ _ _) rfl ?_
          exact ⟨⟨_, rfl⟩, .inr ⟨_, trivial, HX.out⟩⟩
    · obtain rfl : k = D.n := by omega
      gi_wp2
      go_end0
      exact ⟨⟨_, rfl⟩, .inl ⟨_, rfl, hJ⟩⟩

theorem sectors1_stops (n : Nat) (hn : 1 ≤ n) (bx db lb mb : Nat) (D : DK) (w : World) (h : ItAt w bx db lb mb D) :
    SeqStopsK Fence.wide n Try.prog 47 #[.pointer (some ⟨bx, 0, none⟩)] (encW D) (Kp3 bx db mb) (fun xs => xs = wl D D.n) (fun _ => True) D.n w := fun l J Jx W hW hab _ hY h0 =>
  sectors1_in n hn l bx db lb mb D J Jx W hab (h.keep ⟨hW.block _ h.bx_lt, hW.block _ h.db_lt, hW.block _ h.mb_lt, hW.size⟩) hY h0
end Go.Proofs.Ytgfdbjeliojhkaa
