/-
  EdiPrintsV: the walk of EdiPrints for every input. No condition.
-/
import Derived.Test.YtpfkmklhfafkiaaEdiA5
import Derived.Test.YtpfkmklhfafkiaaEdiA8
namespace Go.Proofs.Ytpfkmklhfafkiaa
open Go.RowKit
theorem sameB_self (l : List Seg) : sameB l l = true := by unfold sameB; simp
theorem int_same (n : Int) : (n == n) = true := by simp
set_option maxRecDepth 100000 in
set_option maxHeartbeats 4000000 in
theorem ediPrints_walk {W : World} (v : Value) (l : List Seg) (h : SegsAt (Low W) W v l) : Calls Try.prog 3 #[v] W fun e w' => e = .returned (.bool true) ∧ Below W.heap.size W w' := by
  have H := Lib.hid h
  have HHV := Lib.hid (eheavy_any W h)
  obtain ⟨B, hB⟩ : ∃ B, W.heap.size = B := ⟨_, rfl⟩
  have HBQ := Lib.hid hB
  rw [hB]
  clear h hB
  go_enter Try.func3, Try.ntmps3
  go_wp2_with fail
  refine HHV.out.mono ?_
  rintro e w' ⟨⟨b, rfl, hlt⟩, rfl⟩
  cases b with
  | true =>
    clear hlt
    go_wp2_with fail
    go_ret
    exact ⟨rfl, Below.refl _ _⟩
  | false =>
    have HP := Lib.hid (hlt rfl).print
    clear hlt
    go_wp2_with fail
    refine (own_any W v l H.out (fun _ hk => hk) HP.out).mono ?_
    rintro e w1 ⟨⟨v1, _, rfl, ho1⟩, hb1⟩
    have hs1 := ho1.rest
    clear ho1
    have HS1 := Lib.hid hs1
    have HB1 := Lib.hid hb1
    clear hs1 hb1
    obtain ⟨R, hR⟩ : ∃ R, printE l = R := ⟨_, rfl⟩
    obtain ⟨rs, rn⟩ := R
    obtain ⟨ra, hra⟩ : ∃ ra : ByteArray, (⟨rs.toArray⟩ : ByteArray) = ra := ⟨_, rfl⟩
    have d1 := str_same ra
    have d2 := int_same rn
    have HPR := Lib.hid (print_any w1 v1 l (HS1.out.cong (fun _ hk => hk.2) (fun _ _ => rfl)) HP.out)
    rw [hR] at HPR
    simp only [sv, hra] at HPR
    go_wp2_with ((with_reducible refine HPR.out.mono ?_); rintro e w2 ⟨rfl, hb2⟩; have HB2 := Lib.hid hb2; clear hb2)
    have HRP := Lib.hid (rPrint_any (S := Low W) w2 v l (H.out.cong (fun _ hk => hk) (fun k hk => (HB2.out.block k (Nat.lt_of_lt_of_le hk HB1.out.size)).trans (HB1.out.block k hk))) (fun k hk => Nat.lt_of_lt_of_le hk (Nat.le_trans HB1.out.size HB2.out.size)) HP.out)
    rw [hR] at HRP
    simp only [sv, hra] at HRP
    clear HPR hR hra
    refine HRP.out.mono ?_
    rintro e w3 ⟨rfl, hb3⟩
    have HB3 := Lib.hid hb3
    clear hb3 HRP
    have HSM := Lib.hid (same_any (S := fun _ => True) (T := fun _ => True) w3 (HS1.out.cong (fun _ _ => trivial) (fun k hk => (HB3.out.block k (Nat.lt_of_lt_of_le hk.2 HB2.out.size)).trans (HB2.out.block k hk.2)))
      (H.out.cong (fun _ _ => trivial) (fun k hk => (HB3.out.block k (Nat.lt_of_lt_of_le hk (Nat.le_trans HB1.out.size HB2.out.size))).trans ((HB2.out.block k (Nat.lt_of_lt_of_le hk HB1.out.size)).trans (HB1.out.block k hk)))))
    rw [sameB_self] at HSM
    have HB4 := Lib.hid (show Below B W w3 from (HB1.out.mono (by rw [HBQ.out]; exact Nat.le_refl _)).trans ((HB2.out.mono (by rw [← HBQ.out]; exact HB1.out.size)).trans (HB3.out.mono (by rw [← HBQ.out]; exact Nat.le_trans HB1.out.size HB2.out.size))))
    clear HB1 HB2 HB3
    go_wp2_with first
      | ((with_reducible refine HSM.out.mono ?_); rintro e w4 ⟨rfl, hd⟩; have HD := Lib.hid (hd.below B); clear hd)
      | ((with_reducible refine (reads_any _).mono ?_); rintro e w5 ⟨rfl, hb5⟩; have HB5 := Lib.hid hb5; clear hb5)
    go_ret
    refine ⟨rfl, HB4.out.trans (HD.out.trans (HB5.out.mono ?_))⟩
    have h1 := HB4.out.size
    have h2 := HD.out.size
    rw [HBQ.out] at h1
    omega
end Go.Proofs.Ytpfkmklhfafkiaa
