/-
  Two slices of the call's own that were made one after the other lie in different blocks.
-/
import Derived.Test.YtcafejahdiedpaaMem
namespace Go.Proofs.Ytcafejahdiedpaa
set_option linter.unusedVariables false

/-- A slice that is owned lies in another block than one that was made later. -/
theorem own_ne {w w' : World} {base base' size size' n n' : Nat} {e e' : TypeId} {v v' : Value} {xs xs' : List Value} (h : w.ownsRow base e size v n xs) (h' : w'.ownsRow base' e' size' v' n' xs') (hb : w.heap.size ≤ base') :
    v.ownBlock = none ∨ v.ownBlock ≠ v'.ownBlock := by
  rcases hv : v.ownBlock with _ | g
  · exact .inl rfl
  · refine .inr fun e => ?_
    have h1 := (h.lt g hv).2
    have h2 := (h'.lt g e.symm).1
    omega

theorem own_ne' {w w' : World} {base base' size size' n n' : Nat} {e e' : TypeId} {v v' : Value} {xs xs' : List Value} (h : w.ownsRow base e size v n xs) (h' : w'.ownsRow base' e' size' v' n' xs') (hb : w.heap.size ≤ base') :
    v'.ownBlock = none ∨ v'.ownBlock ≠ v.ownBlock := by
  rcases hv : v'.ownBlock with _ | g
  · exact .inl rfl
  · refine .inr fun e => ?_
    have h1 := (h'.lt g hv).1
    have h2 := (h.lt g e.symm).2
    omega

end Go.Proofs.Ytcafejahdiedpaa
