/-
  The walks of the laws FnExactApplyPatch and FnExactInvertPatch: they return true for all arguments, because the program's function and the reference's return the same.
-/
import Derived.Test.YtjbicmlilgimlaaPatchSmall
namespace Go.Proofs.Ytjbicmlilgimlaa
open Go.RowKit
set_option linter.unusedVariables false

set_option maxHeartbeats 1000000 in
theorem lawFnExactInvertPatch (s : ByteArray) (hs0 : s.size ≤ maxLen) (f : Int) (hf0 : (Lit.int .i64 f).wf = true) (t : Int) (ht0 : (Lit.int .i64 t).wf = true) (d : ByteArray) (hd0 : d.size ≤ maxLen) (w : World) :
    Calls Try.prog 3 #[.string s, .agg #[.int .i64 f, .int .i64 t, .string d]] w fun e w' => e = .returned (.bool true) ∧ Below w.heap.size w w' := by
  unfold maxLen at hs0 hd0
  clear hf0 ht0
  by_cases hs : s.size ≤ 1048576
  · by_cases hd : d.size ≤ 1048576
    · have hsz : (if (1048576 : Int) < d.size then (-1 : Int) else 1048576 - d.size) = 1048576 - d.size := by rw [if_neg (by omega)]
      have HS := Lib.hid hsz
      clear hsz
      go_enter Try.func3, Try.ntmps3
      go_wp2_with fail
      refine (lawsSzPatch f t d _ _ hd0 (by omega) (by omega)).mono ?_
      rintro e w1 ⟨rfl, hb1⟩
      rw [HS.out]
      obtain ⟨hc, hf⟩ := bcell hb1
      go_wp2_with fail
      refine (lawsToPatch f t d _).mono ?_
      rintro e w2 ⟨rfl, hb2⟩
      go_wp2_with fail
      refine (specInvertPatch s f t d _ hs hd).mono ?_
      rintro e w3 ⟨rfl, hb3⟩
      unfold PB.val
      clear hc hf
      have hb03 := hb1.trans ((hb2.trans (hb3.mono hb2.size)).mono hb1.size)
      clear hb1 hb2 hb3
      obtain ⟨hc, hf⟩ := bcell hb03
      have hz : w.heap.size < w3.heap.size := by have := hb03.size; simp at this; omega
      go_wp2_with fail
      refine (lawsToPatch f t d _).mono ?_
      rintro e w4 ⟨rfl, hb4⟩
      go_wp2_with fail
      refine (implInvertPatch s f t d _ hs hd).mono ?_
      rintro e w5 ⟨rfl, hb5⟩
      unfold PB.val
      clear hc hf
      have hb45 := hb4.trans (hb5.mono hb4.size)
      clear hb4 hb5
      obtain ⟨hc, hf⟩ := bcell hb45
      have hz5 : w3.heap.size < w5.heap.size := by have := hb45.size; simp at this; omega
      go_wp2_with fail
      refine (lawsEqPatch _ _ _ _).mono ?_
      rintro e w6 ⟨rfl, hb6⟩
      go_wp2_with fail
      go_ret
      refine ⟨rfl, ?_⟩
      have h36 : Below w3.heap.size w3 w6 := ((Below.refl _ _).alloc (Nat.le_refl _) _).trans ((hb45.mono (by simp)).trans (((Below.refl _ _).alloc (by omega) _).trans (hb6.mono (by simp; omega))))
      exact ((Below.refl _ _).alloc (Nat.le_refl _) _).trans ((hb03.mono (by simp)).trans (h36.mono (by omega)))
    · have hsz : (if (1048576 : Int) < d.size then (-1 : Int) else 1048576 - d.size) = -1 := by rw [if_pos (by omega)]
      have HS := Lib.hid hsz
      clear hsz
      go_enter Try.func3, Try.ntmps3
      go_wp2_with fail
      refine (lawsSzPatch f t d _ _ hd0 (by omega) (by omega)).mono ?_
      rintro e w1 ⟨rfl, hb1⟩
      rw [HS.out]
      go_wp2_with fail
      go_ret
      exact ⟨rfl, ((Below.refl _ _).alloc (Nat.le_refl _) _).trans (hb1.mono (by simp))⟩
  · go_enter Try.func3, Try.ntmps3
    go_wp2_with fail
    go_ret
    exact ⟨rfl, (Below.refl _ _).alloc (Nat.le_refl _) _⟩

end Go.Proofs.Ytjbicmlilgimlaa
