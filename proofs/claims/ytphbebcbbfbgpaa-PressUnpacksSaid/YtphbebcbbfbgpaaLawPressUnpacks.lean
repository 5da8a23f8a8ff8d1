/- The law PressUnpacks returns true for every string. -/
import Derived.Test.YtphbebcbbfbgpaaUnpack
namespace Go.Proofs.Ytphbebcbbfbgpaa
open Go Go.RowKit

set_option maxHeartbeats 1000000 in
theorem lawPressUnpacks (s : ByteArray) (w : World) (hs : s.size ≤ maxLen) :
    Calls Try.prog 9 #[.string s] w fun e w' => e = .returned (.bool true) ∧ Below w.heap.size w w' := by
  obtain ⟨p, k, h1, h2⟩ : ∃ (p : ByteArray) (k : Int), (∀ W, Calls Try.prog 22 #[.string s] W fun e w' => e = .returned (.tuple #[.string p, .int .i64 k]) ∧ Below W.heap.size W w') ∧
      (∀ W, Calls Try.prog 23 #[.string s] W fun e w' => e = .returned (.tuple #[.string p, .int .i64 k]) ∧ Below W.heap.size W w') :=
    ⟨unpackB s, unpackN s, fun W => unpack_any s W hs, fun W => unpacked_any s W hs⟩
  have HC := Lib.hid h1
  have HC2 := Lib.hid h2
  clear h1 h2
  go_enter Try.func9, Try.ntmps9
  go_wp2_with fail
  refine (HC.out _).mono ?_
  rintro e w1 ⟨he, hb1⟩
  subst he
  have HB1 := Lib.hid hb1
  clear hb1
  go_wp2_with fail
  refine (HC2.out _).mono ?_
  rintro e w2 ⟨he, hb2⟩
  subst he
  have HB2 : Hid (Below w.heap.size w w2) := Lib.hid (HB1.out.trans (hb2.mono HB1.out.size))
  clear hb2
  go_wp2
  go_ret
  exact ⟨rfl, HB2.out⟩
end Go.Proofs.Ytphbebcbbfbgpaa
