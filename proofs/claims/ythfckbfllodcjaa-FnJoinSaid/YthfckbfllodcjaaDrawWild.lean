/-
  Draws of wild data, of two strings, and DrawPatchOf.
-/
import Derived.Test.YthfckbfllodcjaaDrawTwo
import Derived.Test.YthfckbfllodcjaaMark
import Derived.Deep.RegionHeld3
namespace Go.Proofs.Ythfckbfllodcjaa
open Go.RowKit
set_option linter.unusedVariables false

theorem Dr.cell {w w1 : World} {g P : Nat} (h : Dr g P w w1) (b j : Nat) (v : Value) (hc : w.cell? ⟨b, j, none⟩ = some v) (hb : b < w.heap.size) (hne : b ≠ g) : w1.cell? ⟨b, j, none⟩ = some v :=
  (World.cell?_of_block (h.only.block b hb (fun e => by injection e with e; exact hne e))).trans hc

theorem Dr.drew {w w1 : World} {g P : Nat} (h : Dr g P w w1) : Dr g P w w1.drew := h.drewN 1

theorem new_cell2 (w : World) (H : Nat) (hH : w.heap.size = H) (e : TypeId) (cs : List Value) (o : Obj) (j : Nat) (u : Value) (hu : cs[j]? = some u) : ((w.alloc (.cells cs.toArray e)).alloc o).cell? ⟨H, j, none⟩ = some u := by
  rw [World.cell?_alloc_lt _ _ _ (by subst hH; simp)]
  exact new_cell w H hH e cs j u hu

end Go.Proofs.Ythfckbfllodcjaa
