/-
  The walk of the law FnExactParityOf: it returns true for all arguments, because both functions return the same parities, in new memory.
-/
import Derived.Test.YtcafejahdiedpaaParSpec
import Derived.Test.YtcafejahdiedpaaApart
import Derived.Test.YtcafejahdiedpaaMark
namespace Go.Proofs.Ytcafejahdiedpaa
open Go.RowKit
set_option linter.unusedVariables false

theorem parO_length (a : ByteArray) (g : Int) : ((parO (contB a) g).getD []).length ≤ 1048576 := by
  rcases hx : contB a with _ | x
  · simp [parO]
  · by_cases h : 1 ≤ g ∧ g ≤ 40
    · have h1 : parO (some x) g = some (parFrom x g.toNat 0) := if_pos h
      rw [h1]
      have := parFrom_length (bs := x) (g := g.toNat) (by omega) _ 0 rfl
      have h2 := (contB_numbered hx).length
      simp only [Option.getD_some]
      omega
    · rw [parO_no h]; simp

set_option maxHeartbeats 2000000 in
theorem lawFnExactParityOf (a : ByteArray) (_ha : a.size ≤ maxLen) (g : Int) (wf : (Lit.int .i64 g).wf = true) (w : World) :
    Calls Try.prog 8 #[.string a, .int .i64 g] w fun e w' => e = .returned (.bool true) ∧ Below w.heap.size w w' := by
  unfold maxLen at _ha
  obtain ⟨hg1, hg2⟩ : -9223372036854775808 ≤ g ∧ g ≤ 9223372036854775807 := by simpa [Lit.wf, IntKind.min, IntKind.max, IntKind.signed, IntKind.bits] using wf
  by_cases ha : a.size ≤ 1048576
  · have HS := fun W => specParityOf a g W ha hg1 hg2
    have HI := fun W => implParityOf a g W ha hg1 hg2
    have hzl := parO_length a g
    unfold StrsPost at HS HI
    obtain ⟨zs, hzs⟩ : ∃ zs, (parO (contB a) g).getD [] = zs := ⟨_, rfl⟩
    obtain ⟨ok, hok⟩ : ∃ ok, (parO (contB a) g).isSome = ok := ⟨_, rfl⟩
    rw [hzs, hok] at HS HI
    rw [hzs] at hzl
    have HS := Lib.hid HS
    have HI := Lib.hid HI
    clear hzs hok wf hg1 hg2
    go_enter Try.func8, Try.ntmps8
    go_wp2_with fail
    refine (HS.out _).mono ?_
    rintro e w1 ⟨A1, c1, rfl, hown1, hb1⟩
    go_wp2_with fail
    refine (HI.out _).mono ?_
    rintro e w2 ⟨A2, c2, rfl, hown2, hb2⟩
    have hb02 := hb1.trans (hb2.mono hb1.size)
    have hne' := own_ne hown1 hown2 (Nat.le_refl _)
    have hown1 := own_below hown1 hb2 (Nat.le_refl _)
    have hz1 := hb1.size
    have hz2 := hb2.size
    clear hb1 hb2
    go_wp2_with fail
    refine (lawsEqStringS A2 A1 zs.length c2 c1 _ _ zs _ rfl (by omega) (Row.of_own hown2) (Row.of_own hown1)).mono ?_
    rintro e w3 ⟨rfl, hd3⟩
    have hb3 := hd3.below w2.heap.size
    have hb03 := hb02.trans (hd3.below _)
    have hown1 := own_below hown1 hb3 (Nat.le_refl _)
    have hown2 := own_below hown2 hb3 (Nat.le_refl _)
    clear hb3 hd3
    go_wp2_with fail
    refine (lawsMarkStringS _ A2 zs.length c2 _ _ (by omega) hown2).mono ?_
    rintro e w4 ⟨rfl, hownm, hg4⟩
    have hb04 : Below w.heap.size w w4 := hb03.grown hg4 hb03.size (fun g hg => Nat.le_trans hz1 (hown2.lt g hg).1)
    have hown1 := hown1.kept hg4 hne'
    clear hg4 hown2
    go_wp2_with fail
    refine (lawsHeldStringS A2 zs.length c2 _ _ (by omega) (Row.of_own hownm) (Nat.le_refl _)).mono ?_
    rintro e w5 ⟨rfl, hb5⟩
    have hb05 := hb04.trans (hb5.mono hb04.size)
    have hown1 := own_below hown1 hb5 (Nat.le_refl _)
    have hownm := own_below hownm hb5 (Nat.le_refl _)
    clear hb5
    go_wp2_with fail
    refine (HI.out _).mono ?_
    rintro e w6 ⟨A6, c6, rfl, hown6, hb6⟩
    have hb06 := hb05.trans (hb6.mono hb05.size)
    have hown1 := own_below hown1 hb6 (Nat.le_refl _)
    have hownm := own_below hownm hb6 (Nat.le_refl _)
    clear hb6
    go_wp2_with fail
    refine (lawsEqStringS A6 A1 zs.length c6 c1 _ _ zs _ rfl (by omega) (Row.of_own hown6) (Row.of_own hown1)).mono ?_
    rintro e w7 ⟨rfl, hd7⟩
    have hb07 := hb06.trans (hd7.below _)
    have hownm := own_below hownm (hd7.below w6.heap.size) (Nat.le_refl _)
    go_wp2_with fail
    refine (lawsHeldStringS A2 zs.length c2 _ _ (by omega) (Row.of_own hownm) (Nat.le_refl _)).mono ?_
    rintro e w8 ⟨rfl, hb8⟩
    go_wp2_with fail
    go_ret
    exact ⟨rfl, hb07.trans (hb8.mono hb07.size)⟩
  · clear wf hg1 hg2
    go_enter Try.func8, Try.ntmps8
    go_wp2_with fail
    go_ret
    exact ⟨rfl, Below.refl _ _⟩

end Go.Proofs.Ytcafejahdiedpaa
