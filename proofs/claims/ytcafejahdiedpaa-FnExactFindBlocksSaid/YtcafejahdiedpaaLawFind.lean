/-
  The walk of the law FnExactFindBlocks: it returns true for all arguments, because both functions find the same blocks, in new memory.
-/
import Derived.Test.YtcafejahdiedpaaFoundLaw
import Derived.Test.YtcafejahdiedpaaFoundSpec
import Derived.Test.YtcafejahdiedpaaApart
namespace Go.Proofs.Ytcafejahdiedpaa
open Go.RowKit
set_option linter.unusedVariables false

set_option maxHeartbeats 2000000 in
theorem lawFnExactFindBlocks (a : ByteArray) (_ha : a.size ≤ maxLen) (w : World) :
    Calls Try.prog 4 #[.string a] w fun e w' => e = .returned (.bool true) ∧ Below w.heap.size w w' := by
  unfold maxLen at _ha
  by_cases ha : a.size ≤ 1048576
  · have HS := fun W => specFindBlocks a W ha
    have HI := fun W => implFindBlocks a W ha
    obtain ⟨fs, hfs⟩ : ∃ fs, foundB a = fs := ⟨_, rfl⟩
    rw [hfs] at HS HI
    obtain ⟨n, hn⟩ : ∃ n, fs.length = n := ⟨_, rfl⟩
    unfold FndsPost at HS HI
    rw [hn] at HS HI
    have HS := Lib.hid HS
    have HI := Lib.hid HI
    clear hfs hn
    go_enter Try.func4, Try.ntmps4
    go_wp2_with fail
    refine (HS.out _).mono ?_
    rintro e w1 ⟨A1, c1, rfl, hown1, hb1, hn⟩
    go_wp2_with fail
    refine (HI.out _).mono ?_
    rintro e w2 ⟨A2, c2, rfl, hown2, hb2, _⟩
    have hb02 := hb1.trans (hb2.mono hb1.size)
    have hne := own_ne' hown1 hown2 (Nat.le_refl _)
    have hne' := own_ne hown1 hown2 (Nat.le_refl _)
    have hown1 := own_below hown1 hb2 (Nat.le_refl _)
    have hz1 := hb1.size
    have hz2 := hb2.size
    clear hb1 hb2
    go_wp2_with fail
    refine (lawsEqFoundS A2 A1 n c2 c1 fs _ hn (Row.of_own hown2) (Row.of_own hown1)).mono ?_
    rintro e w3 ⟨rfl, hb3⟩
    have hb03 := hb02.trans (hb3.mono hb02.size)
    have hown1 := own_below hown1 hb3 (Nat.le_refl _)
    have hown2 := own_below hown2 hb3 (Nat.le_refl _)
    clear hb3
    go_wp2_with fail
    refine (lawsMarkFoundS _ A2 n c2 _ _ hn hown2).mono ?_
    rintro e w4 ⟨rfl, hownm, hg4⟩
    have hb04 : Below w.heap.size w w4 := hb03.grown hg4 hb03.size (fun g hg => Nat.le_trans hz1 (hown2.lt g hg).1)
    have hown1 := hown1.kept hg4 hne'
    clear hg4 hown2
    go_wp2_with fail
    refine (lawsHeldFoundS A2 n c2 _ _ hn (Row.of_own hownm) (Nat.le_refl _)).mono ?_
    rintro e w5 ⟨rfl, hb5⟩
    have hb05 := hb04.trans (hb5.mono hb04.size)
    have hown1 := own_below hown1 hb5 (Nat.le_refl _)
    have hownm := own_below hownm hb5 (Nat.le_refl _)
    clear hb5
    go_wp2_with fail
    refine (HI.out _).mono ?_
    rintro e w6 ⟨A6, c6, rfl, hown6, hb6, _⟩
    have hb06 := hb05.trans (hb6.mono hb05.size)
    have hown1 := own_below hown1 hb6 (Nat.le_refl _)
    have hownm := own_below hownm hb6 (Nat.le_refl _)
    clear hb6
    go_wp2_with fail
    refine (lawsEqFoundS A6 A1 n c6 c1 fs _ hn (Row.of_own hown6) (Row.of_own hown1)).mono ?_
    rintro e w7 ⟨rfl, hb7⟩
    have hb07 := hb06.trans (hb7.mono hb06.size)
    have hownm := own_below hownm hb7 (Nat.le_refl _)
    clear hb7
    go_wp2_with fail
    refine (lawsHeldFoundS A2 n c2 _ _ hn (Row.of_own hownm) (Nat.le_refl _)).mono ?_
    rintro e w8 ⟨rfl, hb8⟩
    go_wp2_with fail
    go_ret
    exact ⟨rfl, hb07.trans (hb8.mono hb07.size)⟩
  · go_enter Try.func4, Try.ntmps4
    go_wp2_with fail
    go_ret
    exact ⟨rfl, Below.refl _ _⟩

end Go.Proofs.Ytcafejahdiedpaa
