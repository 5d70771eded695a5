/-
  The walk of the law FnExactRebuildText: it returns true for all arguments, because the program's function and the reference's return the same.
-/
import Derived.Test.YtjbicmlilgimlaaRebuild
namespace Go.Proofs.Ytjbicmlilgimlaa
open Go.RowKit
set_option linter.unusedVariables false

set_option maxHeartbeats 1000000 in
theorem lawFnExactRebuildText (A : Option Addr) (n c : Nat) (ss : List ByteArray) (p : ByteArray) (hp0 : p.size ≤ maxLen) (w : World) (h : StrRow w A n ss) :
    Calls Try.prog 6 #[.slice A n c, .string p] w fun e w' => e = .returned (.bool true) ∧ Below w.heap.size w w' := by
  unfold maxLen at hp0
  by_cases hp : p.size ≤ 1048576
  · go_enter Try.func6, Try.ntmps6
    go_wp2_with fail
    refine (lawsSzStringS A n c ss _ _ h (by omega) (by omega)).mono ?_
    rintro e w' ⟨rfl, r, rfl, hr⟩
    rcases hr with hr | ⟨hr, htot⟩
    · go_wp2_with fail
      go_ret
      exact ⟨rfl, Below.refl _ _⟩
    · have hr0 : 0 ≤ r := by omega
      have hn : n ≤ 1048576 := by omega
      have hs : ∀ s ∈ ss, s.size ≤ 1048576 := fun s hs => by have := sumSz_mem hs; omega
      clear hr
      have hlen := Lib.hid h.len
      go_wp2_with fail
      refine (lawsToStringS A n c ss _ h hn).mono ?_
      rintro e w1 ⟨A1, c1, rfl, hown1, hb1⟩
      go_wp2_with fail
      refine (specRebuildText A1 ss.length c1 w1.heap.size ss p _ rfl (Row.of_own hown1) (Nat.le_refl _) (by rw [hlen.out]; exact hn) hs hp).mono ?_
      rintro e w2 ⟨rfl, hb2⟩
      have hb02 := hb1.trans (hb2.mono hb1.size)
      clear hb1 hb2 hown1
      go_wp2_with fail
      refine (lawsToStringS A n c ss _ (h.below hb02) hn).mono ?_
      rintro e w3 ⟨A3, c3, rfl, hown3, hb3⟩
      go_wp2_with fail
      refine (implRebuildText A3 ss.length c3 w3.heap.size ss p _ rfl (Row.of_own hown3) (Nat.le_refl _) (by rw [hlen.out]; exact hn) hs hp).mono ?_
      rintro e w4 ⟨rfl, hb4⟩
      have hrow3 := (Row.of_own hown3).below hb4 (Nat.le_refl _)
      have hb04 := hb02.trans ((hb3.trans (hb4.mono hb3.size)).mono hb02.size)
      have hz34 := hb4.size
      clear hb3 hb4 hown3 hb02
      go_wp2_with fail
      refine (lawsToStringS A n c ss _ (h.below hb04) hn).mono ?_
      rintro e w5 ⟨A5, c5, rfl, hown5, hb5⟩
      go_wp2_with fail
      refine (lawsEqStringS A3 A5 ss.length c3 c5 w3.heap.size w5.heap.size ss _ rfl (by rw [hlen.out]; exact hn) (hrow3.below hb5 hz34) (Row.of_own hown5)).mono ?_
      rintro e w6 ⟨rfl, hd6⟩
      go_wp2_with fail
      go_ret
      exact ⟨rfl, (hb04.trans (hb5.mono hb04.size)).trans (hd6.below _)⟩
  · go_enter Try.func6, Try.ntmps6
    go_wp2_with fail
    go_ret
    exact ⟨rfl, Below.refl _ _⟩

end Go.Proofs.Ytjbicmlilgimlaa
