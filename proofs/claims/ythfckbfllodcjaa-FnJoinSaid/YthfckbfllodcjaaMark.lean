/-
  The law's own marks for strings: markText, with its value; markStringS, heldStringS.
-/
import Derived.Test.YthfckbfllodcjaaInts
import Derived.Test.YthfckbfllodcjaaTexts
import Derived.Deep.RegionHeld3
namespace Go.Proofs.Ythfckbfllodcjaa
open Go.RowKit
set_option linter.unusedVariables false

/-- The digits of a number ahead of a text. -/
def mtxGo (k : Nat) (t : ByteArray) : ByteArray := if k = 0 then t else mtxGo (k / 10) (⟨#[48 + UInt8.ofNat (k % 10)]⟩ ++ t)

/-- The mark of a number. -/
def mtx (k : Nat) : ByteArray := ⟨#[109]⟩ ++ mtxGo k ByteArray.empty

theorem mtxGo_zero (t : ByteArray) : mtxGo 0 t = t := by rw [mtxGo, if_pos rfl]

theorem mtxGo_next {k : Nat} (h : 0 < k) (t : ByteArray) : mtxGo k t = mtxGo (k / 10) (⟨#[48 + UInt8.ofNat (k % 10)]⟩ ++ t) := by rw [mtxGo, if_neg (by omega)]

theorem mtxGo_size {k : Nat} : ∀ (t : ByteArray), (mtxGo k t).size ≤ k + t.size := by
  induction k using Nat.strongRecOn with
  | ind k ih =>
    intro t
    by_cases hk : k = 0
    · subst hk; rw [mtxGo_zero]; omega
    · rw [mtxGo_next (by omega)]
      have := ih (k / 10) (by omega) (⟨#[48 + UInt8.ofNat (k % 10)]⟩ ++ t)
      have hs : (⟨#[48 + UInt8.ofNat (k % 10)]⟩ ++ t : ByteArray).size = 1 + t.size := by rw [ByteArray.size_append]; rfl
      omega

theorem mtx_size (k : Nat) : (mtx k).size ≤ k + 1 := by
  unfold mtx
  rw [ByteArray.size_append]
  have := mtxGo_size (k := k) ByteArray.empty
  show 1 + _ ≤ _
  have h0 : ByteArray.empty.size = 0 := rfl
  omega

/-- The marks of n strings, from k on. -/
def marksS (k n : Nat) : List ByteArray := (List.range n).map fun i => mtx (k + i)

theorem marksS_length (k n : Nat) : (marksS k n).length = n := by simp [marksS]

theorem below_call' {w wx wy : World} (hb : Below wx.heap.size wx wy) (h : Below w.heap.size w wx) : Below w.heap.size w wy := h.trans (hb.mono h.size)

theorem held1 {w0 wx : World} {b o : Nat} {u : Value} (hb : b < w0.heap.size) (h0 : w0.cell? ⟨b, o, none⟩ = some u) (h : Below w0.heap.size w0 wx) : wx.cell? ⟨b, o, none⟩ = some u ∧ Below w0.heap.size w0 wx :=
  ⟨(h.cell (p := ⟨b, o, none⟩) hb).trans h0, h⟩

theorem toList_inj' {a b : ByteArray} : a.toList = b.toList ↔ a = b := ⟨fun h => by
  rw [ByteArray.toList_eq, ByteArray.toList_eq] at h
  exact ByteArray.ext (Array.toList_inj.1 h), fun h => by rw [h]⟩

end Go.Proofs.Ythfckbfllodcjaa
