/-
  The walk of the law FnExactCheckContainer: it returns true for all arguments, because both functions tell the same fault at the same place.
-/
import Derived.Test.YtjbicmlilgimlaaCheckSpec
namespace Go.Proofs.Ytjbicmlilgimlaa
open Go.RowKit

theorem lawFnExactCheckContainer (a : ByteArray) (_ha : a.size ≤ maxLen) (w : World) :
    Calls Try.prog 8 #[.string a] w fun e w' => e = .returned (.bool true) ∧ Below w.heap.size w w' := by
  unfold maxLen at _ha
  by_cases ha : a.size ≤ 1048576
  · have h1 := specCheckContainer a
    have h2 := implCheckContainer a
    obtain ⟨⟨p, q⟩, hr⟩ : ∃ r, checkC a 0 0 0 = r := ⟨_, rfl⟩
    rw [hr] at h1 h2
    have H1 := Lib.hid h1
    have H2 := Lib.hid h2
    clear h1 h2 hr
    go_enter Try.func8, Try.ntmps8
    go_wp2_with fail
    refine (H1.out _ ha).mono ?_
    rintro e w1 ⟨rfl, hd1⟩
    go_wp2_with fail
    refine (H2.out _ ha).mono ?_
    rintro e w2 ⟨rfl, hd2⟩
    go_wp2_with fail
    go_ret
    exact ⟨rfl, hd1.trans (hd2.mono hd1.size)⟩
  · go_enter Try.func8, Try.ntmps8
    go_wp2_with fail
    go_ret
    exact ⟨rfl, Below.refl _ _⟩

end Go.Proofs.Ytjbicmlilgimlaa
