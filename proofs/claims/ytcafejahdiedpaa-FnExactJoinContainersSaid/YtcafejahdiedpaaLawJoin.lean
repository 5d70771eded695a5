/-
  The walk of the law FnExactJoinContainers: it returns true for all arguments, because both functions make the same container.
-/
import Derived.Test.YtcafejahdiedpaaJoinC
namespace Go.Proofs.Ytcafejahdiedpaa
open Go.RowKit

theorem lawFnExactJoinContainers (a : ByteArray) (_ha : a.size ≤ maxLen) (b : ByteArray) (_hb : b.size ≤ maxLen) (w : World) :
    Calls Try.prog 6 #[.string a, .string b] w fun e w' => e = .returned (.bool true) ∧ Below w.heap.size w w' := by
  unfold maxLen at _ha _hb
  by_cases ha : a.size ≤ 1048576
  · by_cases hb : b.size ≤ 1048576
    · have h1 := specJoinContainers a b
      have h2 := implJoinContainers a b
      obtain ⟨⟨t, r⟩, hr⟩ : ∃ p : ByteArray × Bool, ((joinC (contB a) (contB b)).getD ByteArray.empty, (joinC (contB a) (contB b)).isSome) = p := ⟨_, rfl⟩
      simp only [Prod.mk.injEq] at hr
      unfold optV at h1 h2
      rw [hr.1, hr.2] at h1 h2
      have H1 := Lib.hid h1
      have H2 := Lib.hid h2
      clear h1 h2 hr
      go_enter Try.func6, Try.ntmps6
      go_wp2_with fail
      refine (H1.out _ ha hb).mono ?_
      rintro e w1 ⟨rfl, hd1⟩
      go_wp2_with fail
      refine (H2.out _ ha hb).mono ?_
      rintro e w2 ⟨rfl, hd2⟩
      go_wp2_with fail
      go_ret
      exact ⟨rfl, hd1.trans (hd2.mono hd1.size)⟩
    · go_enter Try.func6, Try.ntmps6
      go_wp2_with fail
      go_ret
      exact ⟨rfl, Below.refl _ _⟩
  · go_enter Try.func6, Try.ntmps6
    go_wp2_with fail
    go_ret
    exact ⟨rfl, Below.refl _ _⟩

end Go.Proofs.Ytcafejahdiedpaa
