/-
  The walk of the law FnExactNextBlock: it returns true for all arguments, because both functions return where the next block begins.
-/
import Derived.Test.YtjbicmlilgimlaaNextSpec
namespace Go.Proofs.Ytjbicmlilgimlaa
open Go.RowKit

theorem lawFnExactNextBlock (a : ByteArray) (_ha : a.size ≤ maxLen) (i : Int) (wf : (Lit.int .i64 i).wf = true) (w : World) :
    Calls Try.prog 7 #[.string a, .int .i64 i] w fun e w' => e = .returned (.bool true) ∧ Below w.heap.size w w' := by
  unfold maxLen at _ha
  have hi : i ≤ 9223372036854775807 := by
    have : -9223372036854775808 ≤ i ∧ i ≤ 9223372036854775807 := by simpa [Lit.wf, IntKind.min, IntKind.max, IntKind.signed, IntKind.bits] using wf
    exact this.2
  by_cases ha : a.size ≤ 1048576
  · go_enter Try.func7, Try.ntmps7
    go_wp2_with fail
    refine (specNextBlock a i _ ha hi).mono ?_
    rintro e w1 ⟨rfl, hd1⟩
    go_wp2_with fail
    refine (implNextBlock a i _ ha hi).mono ?_
    rintro e w2 ⟨rfl, hd2⟩
    go_wp2_with fail
    go_ret
    exact ⟨rfl, hd1.trans (hd2.mono hd1.size)⟩
  · go_enter Try.func7, Try.ntmps7
    go_wp2_with fail
    go_ret
    exact ⟨rfl, Below.refl _ _⟩

end Go.Proofs.Ytjbicmlilgimlaa
