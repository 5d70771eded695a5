/-
  The walk of the law FnExactParsePatch: it returns true for all arguments, because the program's function and the reference's return the same.
-/
import Derived.Test.YtlcflddjbhlloaaDoorParsePatchI
namespace Go.Proofs.YtlcflddjbhlloaaDoor
open Go.RowKit
set_option linter.unusedVariables false

set_option maxHeartbeats 2000000 in
theorem lawFnExactParsePatch (t : ByteArray) (ht0 : t.size ≤ maxLen) (w : World) (hL : LaidW w) :
    Calls Tryd.prog 3 #[.string t] w fun e w' => e = .returned (.bool true) ∧ Below w.heap.size w w' := by
  unfold maxLen at ht0
  by_cases ht : t.size ≤ 1048576
  · have HS := fun W => specParsePatch t W ht
    have HI := fun W hl => implParsePatch t W ht hl
    obtain ⟨P, hP⟩ : ∃ P, ppOf t = P := ⟨_, rfl⟩
    rw [hP] at HS HI
    obtain ⟨f, u, d, b⟩ := P
    unfold PB.val at HS HI
    have HS := Lib.hid HS
    have HI := Lib.hid HI
    clear hP
    go_enter Tryd.func3, Tryd.ntmps3
    go_wp2_with fail
    refine (HS.out _).mono ?_
    rintro e w1 ⟨rfl, hb1⟩
    have H1 := Lib.hid hb1
    have hz1 := hb1.size
    clear hb1
    go_upto_region 4 with fail
    have hB1 := H1.out.alloc hz1 (.cells #[.int .i64 f, .int .i64 u, .string d] 23)
    have hbx : BoxAt (w1.alloc (.cells #[.int .i64 f, .int .i64 u, .string d] 23)) w1.heap.size f u d := heap_alloc_new w1 _
    obtain ⟨g, hg⟩ : ∃ g, w1.heap.size = g := ⟨_, rfl⟩
    rw [hg] at hbx
    go_wp2_with fail
    refine (HI.out _ (hL.below hB1 (Nat.le_refl _))).mono ?_
    rintro e w2 ⟨rfl, hb2⟩
    have hbx2 := hbx.below hb2 (Nat.le_refl _)
    have hB2 := hB1.trans (hb2.mono hB1.size)
    have H2 := Lib.hid (And.intro hbx2 hB2)
    have hz2 := hB2.size
    clear hbx hb2 hB1 hbx2 hB2
    go_upto_region 5 with fail
    have hbx3 := H2.out.1.alloc (.cells #[.int .i64 f, .int .i64 u, .string d] 23)
    have hB3 := Lib.hid (H2.out.2.alloc hz2 (.cells #[.int .i64 f, .int .i64 u, .string d] 23))
    obtain ⟨q0, q1, q2, qf⟩ := hbx3.cells
    clear hbx3 hg
    go_wp2_with fail
    refine (lawsEqPatch f u d _).mono ?_
    rintro e w4 ⟨rfl, hb4⟩
    have hB4 := Lib.hid (hB3.out.trans (hb4.mono hB3.out.size))
    clear q0 q1 q2 qf hB3 hb4 H1 H2
    cases b
    all_goals go_wp2_with fail
    all_goals go_ret
    all_goals exact ⟨rfl, hB4.out⟩
  · go_enter Tryd.func3, Tryd.ntmps3
    go_wp2_with fail
    go_ret
    exact ⟨rfl, Below.refl _ _⟩

end Go.Proofs.YtlcflddjbhlloaaDoor
