/-
  The walk of the law FnExactSharedStart: it returns true for all arguments, because both functions return the length of the longest common prefix.
-/
import Derived.Test.YtbdoidcknlbenaaSharedStart
namespace Go.Proofs.Ytbdoidcknlbenaa
open Go.RowKit

theorem lawFnExactSharedStart (a : ByteArray) (_ha : a.size ≤ maxLen) (b : ByteArray) (_hb : b.size ≤ maxLen) (w : World) :
    Calls Try.prog 4 #[.string a, .string b] w fun e w' => e = .returned (.bool true) ∧ Below w.heap.size w w' := by
  unfold maxLen at _ha _hb
  by_cases ha : a.size ≤ 1048576
  · by_cases hb : b.size ≤ 1048576
    · go_enter Try.func4, Try.ntmps4
      go_wp2_with fail
      refine (specSharedStart a b _ ha hb).mono ?_
      rintro e w1 ⟨rfl, hd1⟩
      go_wp2_with fail
      refine (implSharedStart a b _ ha hb).mono ?_
      rintro e w2 ⟨rfl, hd2⟩
      go_wp2_with fail
      go_ret
      exact ⟨rfl, (hd1.trans hd2).below _⟩
    · go_enter Try.func4, Try.ntmps4
      go_wp2_with fail
      go_ret
      exact ⟨rfl, Below.refl _ _⟩
  · go_enter Try.func4, Try.ntmps4
    go_wp2_with fail
    go_ret
    exact ⟨rfl, Below.refl _ _⟩
end Go.Proofs.Ytbdoidcknlbenaa
