/-
  EdiY7: contract of (*Replacer).Replace at the four signs. No condition beyond those stated.
-/
import Derived.Test.YtpfkmklhfafkiaaEdiY6
namespace Go.Proofs.Ytpfkmklhfafkiaa
open Go.RowKit
theorem TabAt.full {w : World} {B g : Nat} (h : TabAt w B g (DE 0) (DE 0)) : FullAt w g := by
  obtain ⟨C, tv, h⟩ := h; exact ⟨B, C, tv, h⟩
theorem method_repl (a : Addr) (w : World) : (method 273 109 (.pointer (some a)) "Replace").run Try.prog w = .ok (110, .pointer (some a)) w := by kernel_rfl
set_option maxRecDepth 100000 in
theorem replace_any (w : World) (rb ob cap : Nat) (r : Value) (s : ByteArray) (hs : s.size ≤ 1048576) (hR : RepAt w rb 0 0 r (.slice (some ⟨ob, 0, none⟩) 8 cap)) (hO : OldAt w ob) (hne : ob ≠ rb) (hcap : 8 ≤ cap) (hc2 : cap ≤ maxLen) :
    Calls Try.prog 24 #[.pointer (some ⟨rb, 0, none⟩), .string s] w fun e w' => e = .returned (sv (compT s.data.toList)) ∧ Fr [rb] w w' := by
  have HD := Lib.hid (do_any w rb ob cap r hR hO hne hcap hc2)
  have hm := fun w g => method_repl ⟨g, 0, none⟩ w
  clear hR hO hc2
  go_enter Try.func24, Try.ntmps24
  go_wp2_with first | (go_at_call 110; refine HS.out.mono ?_; rintro e w2 ⟨rfl, hb2⟩; have HB2 := Lib.hid hb2; clear hb2) | (go_at_call 33; refine HD.out.mono ?_; rintro e w1 ⟨rfl, ⟨g, hr, ht⟩, hf⟩; have HT := Lib.hid ht.full; have HF := Lib.hid hf; have c3 := hr.cell 3; have HS := Lib.hid (bsr_any w1 g s HT.out hs); unfold repV at *; clear hr ht hf)
  go_ret
  exact ⟨rfl, HF.out.then_below HB2.out HF.out.size⟩
end Go.Proofs.Ytpfkmklhfafkiaa
