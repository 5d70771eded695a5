/-
  The walk of the law FnExactShuffleBlocks: it returns true for all arguments, because both functions write the same bytes.
-/
import Derived.Test.YtcafejahdiedpaaShuf
import Derived.Test.YtcafejahdiedpaaIntArg
namespace Go.Proofs.Ytcafejahdiedpaa
open Go.RowKit
set_option linter.unusedVariables false

set_option maxHeartbeats 1000000 in
theorem lawFnExactShuffleBlocks (a : ByteArray) (_ha : a.size ≤ maxLen) (A : Option Addr) (n c : Nat) (os : List Int) (w : World) (h : IntRow w A n os) :
    Calls Try.prog 5 #[.string a, .slice A n c] w fun e w' => e = .returned (.bool true) ∧ Below w.heap.size w w' := by
  unfold maxLen at _ha
  have hle := h.le
  unfold maxLen at hle
  by_cases ha : a.size ≤ 1048576
  · by_cases hn : n ≤ 1048576
    · have hlen := h.len
      have HLEN := Lib.hid hlen
      have h1 := fun A c Q W => specShuffleBlocks a A os.length c Q os W ha rfl (by omega)
      have h2 := fun A c Q W => implShuffleBlocks a A os.length c Q os W ha rfl (by omega)
      obtain ⟨⟨t, r⟩, hr⟩ : ∃ p : ByteArray × Bool, ((shufC (contB a) os).getD ByteArray.empty, (shufC (contB a) os).isSome) = p := ⟨_, rfl⟩
      simp only [Prod.mk.injEq] at hr
      unfold optV at h1 h2
      rw [hr.1, hr.2] at h1 h2
      have H1 := Lib.hid h1
      have H2 := Lib.hid h2
      clear h1 h2 hr hlen
      go_enter Try.func5, Try.ntmps5
      go_wp2_with fail
      refine (lawsToIntS A n c os _ h hn).mono ?_
      rintro e w1 ⟨A1, c1, rfl, hown1, hb1⟩
      go_wp2_with fail
      refine (H1.out A1 c1 _ _ (Row.of_own hown1) (Nat.le_refl _)).mono ?_
      rintro e w2 ⟨rfl, hb2⟩
      have hb02 := hb1.trans (hb2.mono hb1.size)
      clear hown1
      go_wp2_with fail
      refine (lawsToIntS A n c os _ (h.below hb02) hn).mono ?_
      rintro e w3 ⟨A3, c3, rfl, hown3, hb3⟩
      have hb03 := hb02.trans (hb3.mono hb02.size)
      go_wp2_with fail
      refine (H2.out A3 c3 _ _ (Row.of_own hown3) (Nat.le_refl _)).mono ?_
      rintro e w4 ⟨rfl, hb4⟩
      have hb04 := hb03.trans (hb4.mono hb03.size)
      have hown3 := own_below hown3 hb4 (Nat.le_refl _)
      go_wp2_with fail
      refine (lawsToIntS A n c os _ (h.below hb04) hn).mono ?_
      rintro e w5 ⟨A5, c5, rfl, hown5, hb5⟩
      have hb05 := hb04.trans (hb5.mono hb04.size)
      have hown3 := own_below hown3 hb5 (Nat.le_refl _)
      have hnl : os.length ≤ 1048576 := by rw [HLEN.out]; exact hn
      go_wp2_with fail
      refine (lawsEqIntS A3 A5 os.length c3 c5 _ _ os _ rfl hnl (Row.of_own hown3) (Row.of_own hown5)).mono ?_
      rintro e w6 ⟨rfl, hd6⟩
      go_wp2_with fail
      go_ret
      exact ⟨rfl, hb05.trans (hd6.below _)⟩
    · go_enter Try.func5, Try.ntmps5
      go_wp2_with fail
      go_ret
      exact ⟨rfl, Below.refl _ _⟩
  · go_enter Try.func5, Try.ntmps5
    go_wp2_with fail
    go_ret
    exact ⟨rfl, Below.refl _ _⟩

end Go.Proofs.Ytcafejahdiedpaa
