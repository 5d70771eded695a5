/-
  The walk of the law FnExactSameBlocks: it returns true for all arguments, because both functions count the same blocks.
-/
import Derived.Test.YtjbicmlilgimlaaSameBlocksSpec
namespace Go.Proofs.Ytjbicmlilgimlaa
open Go.RowKit

theorem lawFnExactSameBlocks (a : ByteArray) (_ha : a.size ≤ maxLen) (b : ByteArray) (_hb : b.size ≤ maxLen) (w : World) :
    Calls Try.prog 10 #[.string a, .string b] w fun e w' => e = .returned (.bool true) ∧ Below w.heap.size w w' := by
  unfold maxLen at _ha _hb
  by_cases ha : a.size ≤ 1048576
  · by_cases hb : b.size ≤ 1048576
    · go_enter Try.func10, Try.ntmps10
      go_wp2_with fail
      refine (specSameBlocks a b _ ha hb).mono ?_
      rintro e w1 ⟨rfl, hd1⟩
      go_wp2_with fail
      refine (implSameBlocks a b _ ha hb).mono ?_
      rintro e w2 ⟨rfl, hd2⟩
      go_wp2_with fail
      go_ret
      exact ⟨rfl, hd1.trans (hd2.mono hd1.size)⟩
    · go_enter Try.func10, Try.ntmps10
      go_wp2_with fail
      go_ret
      exact ⟨rfl, Below.refl _ _⟩
  · go_enter Try.func10, Try.ntmps10
    go_wp2_with fail
    go_ret
    exact ⟨rfl, Below.refl _ _⟩

end Go.Proofs.Ytjbicmlilgimlaa
