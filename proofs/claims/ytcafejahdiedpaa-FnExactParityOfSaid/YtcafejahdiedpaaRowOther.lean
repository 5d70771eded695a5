/-
  Rows that stay as they are when another block is written to.
-/
import Derived.Test.YtcafejahdiedpaaMem
namespace Go.Proofs.Ytcafejahdiedpaa
open Go.RowKit
set_option linter.unusedVariables false

/-- A slice value of the call's own lies in one block, or from another one on. -/
def OutAt (g0 B : Nat) (v : Value) : Prop := ∀ g, v.ownBlock = some g → g = g0 ∨ B ≤ g

/-- A row that one reads stays as it is when another block is written to. -/
theorem Row.other {w w' : World} {B size n : Nat} {A : Option Addr} {xs : List Value} {row : Option Nat} (h : Row w B size A n xs) (hg : w.grownBy w' row) (hB : B ≤ w.heap.size) (hr : ∀ b off, A = some ⟨b, off, none⟩ → row ≠ some b) : Row w' B size A n xs :=
  ⟨h.1, fun hn => by
    obtain ⟨b, off, e, hb, hc⟩ := h.2 hn
    exact ⟨b, off, e, hb, fun j u hu => (World.cell?_of_block (hg.block b (by omega) (fun e' => hr b off e e'.symm))).trans (hc j u hu)⟩⟩

end Go.Proofs.Ytcafejahdiedpaa
