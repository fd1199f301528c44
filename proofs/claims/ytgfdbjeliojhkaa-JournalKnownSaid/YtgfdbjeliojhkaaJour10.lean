/-
  Jour10: how a journal lies in memory; contracts of room, left, Room. No condition beyond those stated.
-/
import Derived.Test.YtgfdbjeliojhkaaJour9
namespace Go.Proofs.Ytgfdbjeliojhkaa
open Go.RowKit

theorem room_some {db lb mb : Nat} {D : DK} (w : World) (h : DiskAt w db lb mb D) :
    Calls Try.prog 38 #[.pointer (some ⟨db, 0, none⟩)] w fun e w' => e = .returned (.int .i64 (((D.n : Int) - 2) * 64)) ∧ w = w' := by
  have H := Lib.hid h
  have n2 := h.n2
  clear h
  go_enter Try.func38, Try.ntmps38
  go_wp2_with (go_at_call 24; refine (size_some _ H.out).mono ?_; rintro e w' ⟨rfl, rfl⟩)
  go_ret
  exact ⟨rfl, rfl⟩
/-- a journal lies in the block jb; its data are d -/
structure JAt (w : World) (jb db : Nat) (N : Nat) (d : List UInt8) (dd : Bool) : Prop where
  ex : ∃ ao cap, w.heap[jb]? = some (.cells #[.pointer (some ⟨db, 0, none⟩), .int .u64 (N : Int), .slice ao d.length cap, .bool dd] 75 (0, 0)) ∧ BytesAt w (.slice ao d.length cap) d.length (lsec d) ∧
    ∀ k, (Value.slice ao d.length cap).ownBlock = some k → ∃ C t, w.heap[k]? = some (.cells C t (0, 0)) ∧ t ≠ 75 ∧ t ≠ 66 ∧ t ≠ 69 ∧ t = 5
namespace JAt
variable {w w' : World} {jb db N : Nat} {d : List UInt8} {dd : Bool}
theorem lt (h : JAt w jb db N d dd) : jb < w.heap.size := by obtain ⟨ao, cap, h1, _⟩ := h.ex; exact (Array.getElem?_eq_some_iff.1 h1).1
theorem ne_disk {lb mb : Nat} {D : DK} (h : JAt w jb db N d dd) (hd : DiskAt w db lb mb D) : jb ≠ db ∧ jb ≠ lb ∧ jb ≠ mb := by
  obtain ⟨ao, cap, h1, _⟩ := h.ex
  refine ⟨fun e => ?_, fun e => ?_, fun e => ?_⟩
  · subst e; have h2 := hd.d; rw [h1] at h2; simp at h2
  · subst e; have h2 := hd.l; rw [h1] at h2; have h3 := Option.some.inj h2; injection h3 with _ h4; exact absurd h4 (by decide)
  · subst e; obtain ⟨l, c, h2, _⟩ := hd.m; rw [h1] at h2; cases h2
/-- what is written to a disk, and into other blocks of a journal's and a disk's types, leaves the journal as it is -/
theorem cong (h : JAt w jb db N d dd) (e1 : w'.heap[jb]? = w.heap[jb]?) (e2 : ∀ (k : Nat) (C : Array Value) (t : TypeId), w.heap[k]? = some (.cells C t (0, 0)) → t ≠ 75 → t ≠ 66 → t ≠ 69 → w'.heap[k]? = w.heap[k]?) : JAt w' jb db N d dd := by
  obtain ⟨ao, cap, h1, h2, h3⟩ := h.ex
  refine ⟨ao, cap, e1.trans h1, h2.cong (fun k hk hok => ?_), fun k hk => ?_⟩
  · obtain ⟨C, t, h4, h5, h6, h7, _⟩ := h3 k hok
    exact e2 k C t h4 h5 h6 h7
  · obtain ⟨C, t, h4, h5, h6, h7, h8⟩ := h3 k hk
    exact ⟨C, t, (e2 k C t h4 h5 h6 h7).trans h4, h5, h6, h7, h8⟩
theorem fr0 (h : JAt w jb db N d dd) (hf : Fr [] w w') : JAt w' jb db N d dd :=
  h.cong (hf.block _ h.lt (by simp)) (fun k C t hk _ _ _ => hf.block k (Array.getElem?_eq_some_iff.1 hk).1 (by simp))
/-- the disk alone has turned -/
theorem frD {F : List Nat} {lb mb : Nat} {D : DK} (h : JAt w jb db N d dd) (hd : DiskAt w db lb mb D) (hf : Fr F w w') (hF : ∀ k ∈ F, k = db ∨ k = lb ∨ k = mb) : JAt w' jb db N d dd := by
  have hn := h.ne_disk hd
  refine h.cong (hf.block _ h.lt (fun hm => by rcases hF jb hm with h | h | h <;> omega)) (fun k C t hk a1 a2 a3 => hf.block k (Array.getElem?_eq_some_iff.1 hk).1 (fun hm => ?_))
  rcases hF k hm with rfl | rfl | rfl
  · have h2 := hd.d; rw [hk] at h2; have h3 := Option.some.inj h2; injection h3 with _ h4; exact a2 h4
  · have h2 := hd.l; rw [hk] at h2; have h3 := Option.some.inj h2; injection h3 with _ h4; exact a3 h4
  · obtain ⟨l, c, h2, _⟩ := hd.m; rw [hk] at h2; cases h2
/-- what is written into blocks that hold no bytes leaves the journal as it is -/
theorem frT {F : List Nat} (h : JAt w jb db N d dd) (hf : Fr F w w') (hj : jb ∉ F) (hF : ∀ k ∈ F, ∀ C, w.heap[k]? ≠ some (.cells C 5 (0, 0))) : JAt w' jb db N d dd := by
  obtain ⟨ao, cap, h1, h2, h3⟩ := h.ex
  have key : ∀ k, (Value.slice ao d.length cap).ownBlock = some k → w'.heap[k]? = w.heap[k]? := fun k hk => by
    obtain ⟨C, t, h4, _, _, _, h8⟩ := h3 k hk
    exact hf.block k (Array.getElem?_eq_some_iff.1 h4).1 (fun hm => hF k hm C (by rw [h4, h8]))
  refine ⟨ao, cap, (hf.block jb h.lt hj).trans h1, h2.cong (fun k _ hok => key k hok), fun k hk => ?_⟩
  obtain ⟨C, t, h4, h5⟩ := h3 k hk
  exact ⟨C, t, (key k hk).trans h4, h5⟩
end JAt
set_option maxRecDepth 100000 in
set_option maxHeartbeats 2000000 in
theorem left_any {jb db lb mb N : Nat} {d : List UInt8} {dd : Bool} {D : DK} (w : World) (hj : JAt w jb db N d dd) (h : DiskAt w db lb mb D) (hlen : d.length ≤ 1000000) :
    Calls Try.prog 40 #[.pointer (some ⟨jb, 0, none⟩)] w fun e w' => e = .returned (.int .i64 (((D.n : Int) - 2) * 64 - (d.length : Int))) ∧ w.drew = w' := by
  obtain ⟨ao, cap, h1, h2, h3⟩ := hj.ex
  have H := Lib.hid (show DiskAt w.drew db lb mb D from h.cong rfl rfl rfl)
  have n2 := h.n2
  have c0 : w.cell? ⟨jb, 0, none⟩ = some (.pointer (some ⟨db, 0, none⟩)) := by rw [cell_of_row w jb 0 _ _ _ h1]; rfl
  have c2 : w.cell? ⟨jb, 2, none⟩ = some (.slice ao d.length cap) := by rw [cell_of_row w jb 2 _ _ _ h1]; rfl
  have hw : IntKind.i64.wrap (((D.n : Int) - 2) * 64 - (d.length : Int)) = ((D.n : Int) - 2) * 64 - (d.length : Int) := IntWalk.i64_in _ (by omega)
  clear hj h h1 h2 h3
  go_enter Try.func40, Try.ntmps40
  go_wp2_with fail
  refine wp_region_plan [(0, false), (1, false), (2, false), (3, false), (5, false), (6, false), (7, false), (8, false), (9, false), (4, true), (10, false), (11, false)] (fun w' => w'.cell? ⟨jb, 0, none⟩ = some (.pointer (some ⟨db, 0, none⟩)) ∧ w'.cell? ⟨jb, 2, none⟩ = some (.slice ao d.length cap)) (by kernel_rfl) (by kernel_rfl) ⟨c0, c2⟩ ?_
  iterate 9 (refine' plan_val rfl rfl (fun w' hS => ?_) ?_; rotate_left; (focus (go_simp; rfl)); simp only [Act.put, List.setIfInBounds_toArray, List.set_cons_zero, List.set_cons_succ])
  refine plan_do rfl (fun K hK => ?_)
  go_wp2_with fail
  refine (room_some w.drew H.out).mono ?_
  rintro e w2 ⟨rfl, rfl⟩
  go_wp2_with fail
  refine hK _ _ ⟨c0, c2⟩ ?_
  clear hK K
  iterate 2 (refine' plan_val rfl rfl (fun w' hS => ?_) ?_; rotate_left; (focus (go_simp; rfl)); simp only [Act.put, List.setIfInBounds_toArray, List.set_cons_zero, List.set_cons_succ])
  refine plan_nil ?_
  go_wp2_with fail
  go_ret
  exact ⟨rfl, rfl⟩
theorem jroom_nil (w : World) : Calls Try.prog 27 #[.pointer none] w fun e w' => e = .returned (.int .i64 0) ∧ w = w' := by
  go_enter Try.func27, Try.ntmps27
  go_wp2
  go_ret
  exact ⟨rfl, rfl⟩
/-- Room -/
def roomI (n m : Nat) : Int := max 0 (((n : Int) - 2) * 64 - (m : Int) - 4)
theorem jroom_some {jb db lb mb N : Nat} {d : List UInt8} {dd : Bool} {D : DK} (w : World) (hj : JAt w jb db N d dd) (h : DiskAt w db lb mb D) (hlen : d.length ≤ 1000000) :
    Calls Try.prog 27 #[.pointer (some ⟨jb, 0, none⟩)] w fun e w' => e = .returned (.int .i64 (roomI D.n d.length)) ∧ w.drew = w' := by
  have H := Lib.hid h
  have HJ := Lib.hid hj
  have n2 := h.n2
  have HE := Lib.hid (show roomI D.n d.length = max 0 (((D.n : Int) - 2) * 64 - (d.length : Int) - 4) from rfl)
  clear h hj
  by_cases hp : 0 < ((D.n : Int) - 2) * 64 - (d.length : Int) - 4
  · have hd : decide (0 < ((D.n : Int) - 2) * 64 - (d.length : Int) - 4) = true := by simpa using hp
    go_enter Try.func27, Try.ntmps27
    go_wp2_with (go_at_call 40; refine (left_any _ HJ.out H.out hlen).mono ?_; rintro e w' ⟨rfl, rfl⟩)
    go_ret
    refine ⟨ret_int ?_, rfl⟩
    rw [HE.out]; omega
  · go_enter Try.func27, Try.ntmps27
    go_wp2_with (go_at_call 40; refine (left_any _ HJ.out H.out hlen).mono ?_; rintro e w' ⟨rfl, rfl⟩)
    go_ret
    refine ⟨ret_int ?_, rfl⟩
    rw [HE.out]; omega
theorem jrecs_nil (w : World) : Calls Try.prog 26 #[.pointer none] w fun e w' => e = .returned (.slice none 0 0) ∧ w = w' := by
  go_enter Try.func26, Try.ntmps26
  go_wp2
  go_ret
  exact ⟨rfl, rfl⟩
end Go.Proofs.Ytgfdbjeliojhkaa
