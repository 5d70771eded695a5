/-
  Plain facts on the blocks that are found in any bytes, one behind the other.
-/
import Derived.Test.YtcafejahdiedpaaNext
namespace Go.Proofs.Ytcafejahdiedpaa
set_option linter.unusedVariables false

/-- A block that was found, and where it begins. -/
structure Fnd where
  pos : Nat
  b : Blk

theorem nextB_spec (s : ByteArray) (k : Nat) : nextB s k = -1 ∨ ∃ j, nextB s k = ((j : Nat) : Int) ∧ k ≤ j ∧ pbOk s j := by
  by_cases hk : k < s.size
  · by_cases hp : pbOk s k
    · exact Or.inr ⟨k, nextB_hit hp, Nat.le_refl _, hp⟩
    · rw [nextB_miss hk hp]
      rcases nextB_spec s (k + 1) with h | ⟨j, h1, h2, h3⟩
      · exact Or.inl h
      · exact Or.inr ⟨j, h1, by omega, h3⟩
  · exact Or.inl (nextB_end (by omega))
termination_by s.size - k

theorem nextBlk_spec (s : ByteArray) (k : Nat) : nextBlk s k = -1 ∨ ∃ j, nextBlk s k = ((j : Nat) : Int) ∧ k ≤ j ∧ pbOk s j := by
  unfold nextBlk
  split
  · rw [Int.toNat_natCast]; exact nextB_spec s k
  · exact Or.inl rfl

/-- The blocks that are found from a place on; a negative place is none. -/
def findR (s : ByteArray) (a : Int) : List Fnd :=
  if h : 0 ≤ a ∧ a.toNat < s.size then ⟨a.toNat, pbBlk s a.toNat⟩ :: findR s (nextBlk s ((pbEnd s a.toNat + 2 : Nat) : Int)) else []
termination_by if 0 ≤ a ∧ a.toNat < s.size then s.size - a.toNat else 0
decreasing_by
  rw [if_pos h]
  have hge := pbEnd_ge s a.toNat
  rcases nextBlk_spec s (pbEnd s a.toNat + 2) with h1 | ⟨j, h1, h2, h3⟩
  · rw [h1, if_neg (by omega)]; omega
  · rw [h1]
    split <;> omega

theorem findR_next {s : ByteArray} {k : Nat} (h : k < s.size) : findR s (k : Int) = ⟨k, pbBlk s k⟩ :: findR s (nextBlk s ((pbEnd s k + 2 : Nat) : Int)) := by
  rw [findR, dif_pos ⟨by omega, by simpa using h⟩, Int.toNat_natCast]

theorem findR_end (s : ByteArray) : findR s (-1) = [] := by
  rw [findR, dif_neg (by omega)]

/-- What FindBlocks returns. -/
def foundB (s : ByteArray) : List Fnd := findR s (nextBlk s 0)

end Go.Proofs.Ytcafejahdiedpaa
