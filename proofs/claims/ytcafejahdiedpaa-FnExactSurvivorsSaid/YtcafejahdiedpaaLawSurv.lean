/-
  The walk of the law FnExactSurvivors: it returns true for all arguments, because both functions return the same numbers, in new memory.
-/
import Derived.Test.YtcafejahdiedpaaSurvSpec
import Derived.Test.YtcafejahdiedpaaApart
namespace Go.Proofs.Ytcafejahdiedpaa
open Go.RowKit
set_option linter.unusedVariables false

theorem survOf_length (a b : ByteArray) : (survOf (contB a) (foundB b)).length ≤ 40 := by
  unfold survOf survI
  rw [List.length_map]
  refine Nat.le_trans (List.length_filter_le _ _) ?_
  rcases hx : contB a with _ | x
  · simp
  · exact (contB_numbered hx).length

set_option maxHeartbeats 2000000 in
theorem lawFnExactSurvivors (a : ByteArray) (_ha : a.size ≤ maxLen) (b : ByteArray) (_hb : b.size ≤ maxLen) (w : World) :
    Calls Try.prog 7 #[.string a, .string b] w fun e w' => e = .returned (.bool true) ∧ Below w.heap.size w w' := by
  unfold maxLen at _ha _hb
  by_cases ha : a.size ≤ 1048576
  · by_cases hb : b.size ≤ 1048576
    · have HS := fun W => specSurvivors a b W ha hb
      have HI := fun W => implSurvivors a b W ha hb
      have hzl := survOf_length a b
      obtain ⟨zs, hzs⟩ : ∃ zs, survOf (contB a) (foundB b) = zs := ⟨_, rfl⟩
      rw [hzs] at HS HI hzl
      have HS := Lib.hid HS
      have HI := Lib.hid HI
      clear hzs
      go_enter Try.func7, Try.ntmps7
      go_wp2_with fail
      refine (HS.out _).mono ?_
      rintro e w1 ⟨A1, c1, rfl, hown1, hb1⟩
      go_wp2_with fail
      refine (HI.out _).mono ?_
      rintro e w2 ⟨A2, c2, rfl, hown2, hb2⟩
      have hb02 := hb1.trans (hb2.mono hb1.size)
      have hne' := own_ne hown1 hown2 (Nat.le_refl _)
      have hown1 := own_below hown1 hb2 (Nat.le_refl _)
      have hz1 := hb1.size
      have hz2 := hb2.size
      clear hb1 hb2
      go_wp2_with fail
      refine (lawsEqIntS A2 A1 zs.length c2 c1 _ _ zs _ rfl (by omega) (Row.of_own hown2) (Row.of_own hown1)).mono ?_
      rintro e w3 ⟨rfl, hd3⟩
      have hb3 := hd3.below w2.heap.size
      have hb03 := hb02.trans (hd3.below _)
      have hown1 := own_below hown1 hb3 (Nat.le_refl _)
      have hown2 := own_below hown2 hb3 (Nat.le_refl _)
      clear hb3 hd3
      go_wp2_with fail
      refine (lawsMarkIntS _ A2 zs.length c2 zs 1 _ rfl (by omega) (by omega) (by omega) hown2).mono ?_
      rintro e w4 ⟨rfl, hownm, hg4⟩
      have hb04 : Below w.heap.size w w4 := hb03.grown hg4 hb03.size (fun g hg => Nat.le_trans hz1 (hown2.lt g hg).1)
      have hown1 := hown1.kept hg4 hne'
      clear hg4 hown2
      go_wp2_with fail
      refine (lawsHeldIntS A2 zs.length c2 _ 1 _ (by omega) (by omega) (by omega) (Row.of_own hownm)).mono ?_
      rintro e w5 ⟨rfl, rfl⟩
      go_wp2_with fail
      refine (HI.out _).mono ?_
      rintro e w6 ⟨A6, c6, rfl, hown6, hb6⟩
      have hb06 := hb04.trans (hb6.mono hb04.size)
      have hown1 := own_below hown1 hb6 (Nat.le_refl _)
      have hownm := own_below hownm hb6 (Nat.le_refl _)
      clear hb6
      go_wp2_with fail
      refine (lawsEqIntS A6 A1 zs.length c6 c1 _ _ zs _ rfl (by omega) (Row.of_own hown6) (Row.of_own hown1)).mono ?_
      rintro e w7 ⟨rfl, hd7⟩
      have hb07 := hb06.trans (hd7.below _)
      have hownm := own_below hownm (hd7.below w6.heap.size) (Nat.le_refl _)
      go_wp2_with fail
      refine (lawsHeldIntS A2 zs.length c2 _ 1 _ (by omega) (by omega) (by omega) (Row.of_own hownm)).mono ?_
      rintro e w8 ⟨rfl, rfl⟩
      go_wp2_with fail
      go_ret
      exact ⟨rfl, hb07⟩
    · go_enter Try.func7, Try.ntmps7
      go_wp2_with fail
      go_ret
      exact ⟨rfl, Below.refl _ _⟩
  · go_enter Try.func7, Try.ntmps7
    go_wp2_with fail
    go_ret
    exact ⟨rfl, Below.refl _ _⟩

end Go.Proofs.Ytcafejahdiedpaa
