/-
  The law's own helpers for slices of strings: szStringS, toStringS, eqStringS.
-/
import Derived.Test.YthfckbfllodcjaaMem
namespace Go.Proofs.Ythfckbfllodcjaa
open Go.RowKit
set_option linter.unusedVariables false

/-- How many bytes some strings have together. -/
def sumSz : List ByteArray → Nat
  | [] => 0
  | s :: ss => s.size + sumSz ss

theorem sumSz_append (a b : List ByteArray) : sumSz (a ++ b) = sumSz a + sumSz b := by
  induction a with
  | nil => simp [sumSz]
  | cons x xs ih => simp [sumSz, ih]; omega

theorem sumSz_take_succ (ss : List ByteArray) (k : Nat) (h : k < ss.length) : sumSz (ss.take (k + 1)) = sumSz (ss.take k) + ss[k].size := by
  rw [List.take_succ_eq_append_getElem h, sumSz_append]; simp [sumSz]

theorem sumSz_take_le (ss : List ByteArray) (k : Nat) : sumSz (ss.take k) ≤ sumSz ss := by
  conv => rhs; rw [← List.take_append_drop k ss]
  rw [sumSz_append]; omega

theorem sumSz_mem {ss : List ByteArray} {s : ByteArray} (h : s ∈ ss) : s.size ≤ sumSz ss := by
  induction ss with
  | nil => cases h
  | cons x xs ih =>
    simp [sumSz]
    rcases List.mem_cons.1 h with rfl | h
    · omega
    · have := ih h; omega

/-- What szStringS says: what is left, if this is not negative. -/
def SzPost (tot : Nat) (left : Int) (w : World) (e : Ending) (w' : World) : Prop := w = w' ∧ ∃ r : Int, e = .returned (.int .i64 r) ∧ (r < 0 ∨ (r = left - tot ∧ tot ≤ left))

/-- Strings as cells. -/
theorem strs_oneCell (ss : List ByteArray) : ∀ u ∈ ss.map Value.string, u.oneCell' = true := by
  intro u hu
  obtain ⟨s, _, rfl⟩ := List.mem_map.1 hu
  rfl

theorem infoStr : (Try.prog.info? 9).map (fun i => (i.zero, i.size, i.bytes)) = some (some (.string ByteArray.empty), 1, 16) := by kernel_rfl

/-- What toStringS returns: new memory that holds the same strings. -/
def NewStrs (w : World) (ss : List ByteArray) (e : Ending) (w' : World) : Prop :=
  ∃ A c, e = .returned (.slice A ss.length c) ∧ w'.ownsRow w.heap.size 9 1 (.slice A ss.length c) ss.length (ss.map .string) ∧ Below w.heap.size w w'

end Go.Proofs.Ythfckbfllodcjaa
