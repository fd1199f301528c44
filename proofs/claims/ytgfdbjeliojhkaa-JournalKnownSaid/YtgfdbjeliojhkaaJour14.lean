/-
  Jour14: contract of Open: what is opened by none. No condition beyond those stated.
-/
import Derived.Test.YtgfdbjeliojhkaaJour13
namespace Go.Proofs.Ytgfdbjeliojhkaa
open Go.RowKit Go.Shelf
theorem cells2 (w : World) (o o' : Obj) : ((w.alloc o).alloc o').heap[w.heap.size]? = some o ∧ ((w.alloc o).alloc o').heap[w.heap.size + 1]? = some o' := by
  refine ⟨(Below.heap_alloc _ _ _ (by simp)).trans (heap_alloc_new _ _), ?_⟩
  have := heap_alloc_new (w.alloc o) o'
  simpa using this
theorem load_pj {w : World} {b o : Nat} {v : Value} (h : w.cell? ⟨b, o, none⟩ = some v) : (loadVar 47 ⟨b, o, none⟩).run Try.prog w = .ok v w := by
  have h2 := Try.isAgg47 w
  simp [loadVar, Sem.run_bind, h2, h]
theorem load_en {w : World} {b o : Nat} {v : Value} (h : w.cell? ⟨b, o, none⟩ = some v) : (loadVar 26 ⟨b, o, none⟩).run Try.prog w = .ok v w := by
  have h2 := Try.isAgg26 w
  simp [loadVar, Sem.run_bind, h2, h]
theorem open_ret {w : World} {tmps : Array Value} {R : Ending → World → Prop} {b c : Nat} {v u : Value} {t s : TypeId} (h2 : tmps.getD 2 undef = .pointer (some ⟨b, 0, none⟩)) (h3 : tmps.getD 3 undef = .pointer (some ⟨c, 0, none⟩))
    (hb : w.heap[b]? = some (.cells #[v] t (0, 0))) (hc : w.heap[c]? = some (.cells #[u] s (0, 0))) (hR : R (.returned (.tuple #[v, u])) w) : LeavesInM Fence.wide 10 Try.prog Try.f25 tmps R [] .returning w :=
  ⟨_, results_cells2 rfl _ h2 (load_pj (by rw [cell_of_row w b 0 _ _ _ hb]; rfl)) h3 (load_en (by rw [cell_of_row w c 0 _ _ _ hc]; rfl)), hR⟩
set_option maxRecDepth 100000 in
theorem open_nil (w : World) : Calls Try.prog 25 #[.pointer none] w fun e w' => e = .returned (.tuple #[.pointer none, .int .i64 8]) ∧ Fr [] w w' := by
  refine (callsIn_wide (n := 10)).1 ?_
  refine callsIn_of_wp_marks Try.func25 rfl trivial ?_ rfl
  simp only [Try.ntmps25, List.size_toArray, List.length_cons, List.length_nil, Nat.reduceAdd, Nat.reduceSub, Array.replicate_succ, Array.replicate_zero, List.push_toArray, List.append_toArray, List.nil_append, List.cons_append]
  refine wpIn_wide.2 ?_
  go_wp2_with fail
  exact open_ret rfl rfl (cells2 _ _ _).1 (cells2 _ _ _).2 ⟨rfl, (Fr.alloc _ _ _).trans (Fr.alloc _ _ _)⟩
set_option maxRecDepth 100000 in
theorem open_dead {db lb mb : Nat} {D : DK} (w : World) (h : DiskAt w db lb mb D) (hd : D.dead = true) : Calls Try.prog 25 #[.pointer (some ⟨db, 0, none⟩)] w fun e w' => e = .returned (.tuple #[.pointer none, .int .i64 120]) ∧ Fr [] w w' := by
  have HX := Lib.hid (h.fr0 ((Fr.alloc [] w (.cells #[.pointer none] 47)).trans (Fr.alloc [] _ (.cells #[.int .i64 0] 26))))
  clear h
  refine (callsIn_wide (n := 10)).1 ?_
  refine callsIn_of_wp_marks Try.func25 rfl trivial ?_ rfl
  simp only [Try.ntmps25, List.size_toArray, List.length_cons, List.length_nil, Nat.reduceAdd, Nat.reduceSub, Array.replicate_succ, Array.replicate_zero, List.push_toArray, List.append_toArray, List.nil_append, List.cons_append]
  refine wpIn_wide.2 ?_
  go_wp2_with (go_at_call 22; refine (dead_some _ HX.out).mono ?_; rw [hd]; rintro e w' ⟨rfl, rfl⟩)
  exact open_ret rfl rfl (cells2 _ _ _).1 (cells2 _ _ _).2 ⟨rfl, (Fr.alloc _ _ _).trans (Fr.alloc _ _ _)⟩
set_option maxRecDepth 100000 in
theorem open_small {db lb mb : Nat} {D : DK} (w : World) (h : DiskAt w db lb mb D) (hd : D.dead = false) (hn : D.n < 4) : Calls Try.prog 25 #[.pointer (some ⟨db, 0, none⟩)] w fun e w' => e = .returned (.tuple #[.pointer none, .int .i64 130]) ∧ Fr [] w w' := by
  have HX := Lib.hid (h.fr0 ((Fr.alloc [] w (.cells #[.pointer none] 47)).trans (Fr.alloc [] _ (.cells #[.int .i64 0] 26))))
  clear h
  have hni : (D.n : Int) < 4 := by omega
  refine (callsIn_wide (n := 10)).1 ?_
  refine callsIn_of_wp_marks Try.func25 rfl trivial ?_ rfl
  simp only [Try.ntmps25, List.size_toArray, List.length_cons, List.length_nil, Nat.reduceAdd, Nat.reduceSub, Array.replicate_succ, Array.replicate_zero, List.push_toArray, List.append_toArray, List.nil_append, List.cons_append]
  refine wpIn_wide.2 ?_
  go_wp2_with (first
    | (go_at_call 22; refine (dead_some _ HX.out).mono ?_; rw [hd]; rintro e w' ⟨rfl, rfl⟩)
    | (go_at_call 24; refine (size_some _ HX.out).mono ?_; rintro e w' ⟨rfl, rfl⟩))
  exact open_ret rfl rfl (cells2 _ _ _).1 (cells2 _ _ _).2 ⟨rfl, (Fr.alloc _ _ _).trans (Fr.alloc _ _ _)⟩
end Go.Proofs.Ytgfdbjeliojhkaa
