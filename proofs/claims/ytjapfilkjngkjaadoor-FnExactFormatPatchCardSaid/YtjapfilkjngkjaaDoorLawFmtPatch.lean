/-
  The walk of the law FnExactFormatPatch: it returns true for all arguments, because the program's function and the reference's return the same.
-/
import Derived.Test.YtjapfilkjngkjaaDoorFmtPatch
namespace Go.Proofs.YtjapfilkjngkjaaDoor
open Go.RowKit
set_option linter.unusedVariables false

set_option maxHeartbeats 1000000 in
theorem lawFnExactFormatPatch (f : Int) (hf0 : (Lit.int .i64 f).wf = true) (t : Int) (ht0 : (Lit.int .i64 t).wf = true) (d : ByteArray) (hd0 : d.size ≤ maxLen) (w : World) (hT : TabW w) :
    Calls Tryd.prog 3 #[.agg #[.int .i64 f, .int .i64 t, .string d]] w fun e w' => e = .returned (.bool true) ∧ Below w.heap.size w w' := by
  unfold maxLen at hd0
  clear hf0 ht0
  by_cases hd : d.size ≤ 1048576
  · have hsz : (if (1048576 : Int) < d.size then (-1 : Int) else 1048576 - d.size) = 1048576 - d.size := by rw [if_neg (by omega)]
    have HS := Lib.hid hsz
    clear hsz
    go_enter Tryd.func3, Tryd.ntmps3
    go_wp2_with fail
    refine (lawsSzPatch f t d _ _ hd0 (by omega) (by omega)).mono ?_
    rintro e w1 ⟨rfl, hb1⟩
    rw [HS.out]
    obtain ⟨hc, hf⟩ := bcell hb1
    go_wp2_with fail
    refine (lawsToPatch f t d _).mono ?_
    rintro e w2 ⟨rfl, hb2⟩
    go_wp2_with fail
    refine (specFormatPatch f t d _).mono ?_
    rintro e w3 ⟨rfl, hb3⟩
    clear hc hf
    have hb03 := hb1.trans ((hb2.trans (hb3.mono hb2.size)).mono hb1.size)
    clear hb1 hb2 hb3
    obtain ⟨hc, hf⟩ := bcell hb03
    go_wp2_with fail
    refine (lawsToPatch f t d _).mono ?_
    rintro e w4 ⟨rfl, hb4⟩
    have hW4 : Below w.heap.size w w4 := ((Below.refl _ _).alloc (Nat.le_refl _) _).trans ((hb03.trans (hb4.mono hb03.size)).mono (by simp))
    go_wp2_with fail
    refine (implFormatPatch f t d _ (hT.below hW4 (Nat.le_refl _))).mono ?_
    rintro e w5 ⟨rfl, hb5⟩
    go_wp2_with fail
    go_ret
    exact ⟨rfl, hW4.trans (hb5.mono hW4.size)⟩
  · have hsz : (if (1048576 : Int) < d.size then (-1 : Int) else 1048576 - d.size) = -1 := by rw [if_pos (by omega)]
    have HS := Lib.hid hsz
    clear hsz
    go_enter Tryd.func3, Tryd.ntmps3
    go_wp2_with fail
    refine (lawsSzPatch f t d _ _ hd0 (by omega) (by omega)).mono ?_
    rintro e w1 ⟨rfl, hb1⟩
    rw [HS.out]
    go_wp2_with fail
    go_ret
    exact ⟨rfl, ((Below.refl _ _).alloc (Nat.le_refl _) _).trans (hb1.mono (by simp))⟩

end Go.Proofs.YtjapfilkjngkjaaDoor
