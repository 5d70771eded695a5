/-
  The walk of the law FnExactTakeBlocks: it returns true for all arguments, because both functions make the same container.
-/
import Derived.Test.YtcafejahdiedpaaTake
namespace Go.Proofs.Ytcafejahdiedpaa
open Go.RowKit

theorem lawFnExactTakeBlocks (a : ByteArray) (_ha : a.size ≤ maxLen) (first : Int) (wf : (Lit.int .i64 first).wf = true) (k : Int) (wk : (Lit.int .i64 k).wf = true) (w : World) :
    Calls Try.prog 3 #[.string a, .int .i64 first, .int .i64 k] w fun e w' => e = .returned (.bool true) ∧ Below w.heap.size w w' := by
  unfold maxLen at _ha
  have hf : -9223372036854775808 ≤ first ∧ first ≤ 9223372036854775807 := by simpa [Lit.wf, IntKind.min, IntKind.max, IntKind.signed, IntKind.bits] using wf
  have hk : -9223372036854775808 ≤ k ∧ k ≤ 9223372036854775807 := by simpa [Lit.wf, IntKind.min, IntKind.max, IntKind.signed, IntKind.bits] using wk
  by_cases ha : a.size ≤ 1048576
  · have h1 := fun W => specTakeBlocks a first k W ha hf hk
    have h2 := fun W => implTakeBlocks a first k W ha hf hk
    obtain ⟨⟨t, r⟩, hr⟩ : ∃ p : ByteArray × Bool, ((takeC (contB a) first k).getD ByteArray.empty, (takeC (contB a) first k).isSome) = p := ⟨_, rfl⟩
    simp only [Prod.mk.injEq] at hr
    unfold optV at h1 h2
    rw [hr.1, hr.2] at h1 h2
    have H1 := Lib.hid h1
    have H2 := Lib.hid h2
    clear h1 h2 hr wf wk hf hk
    go_enter Try.func3, Try.ntmps3
    go_wp2_with fail
    refine (H1.out _).mono ?_
    rintro e w1 ⟨rfl, hd1⟩
    go_wp2_with fail
    refine (H2.out _).mono ?_
    rintro e w2 ⟨rfl, hd2⟩
    go_wp2_with fail
    go_ret
    exact ⟨rfl, hd1.trans (hd2.mono hd1.size)⟩
  · clear wf wk hf hk
    go_enter Try.func3, Try.ntmps3
    go_wp2_with fail
    go_ret
    exact ⟨rfl, Below.refl _ _⟩

end Go.Proofs.Ytcafejahdiedpaa
