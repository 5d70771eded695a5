/-
  The law's own helpers for slices of strings: szStringS, toStringS, eqStringS.
-/
import Derived.Test.YtcafejahdiedpaaMem
namespace Go.Proofs.Ytcafejahdiedpaa
open Go.RowKit
set_option linter.unusedVariables false

/-- How many bytes some strings have together. -/
def sumSz : List ByteArray → Nat
  | [] => 0
  | s :: ss => s.size + sumSz ss

theorem sumSz_append (a b : List ByteArray) : sumSz (a ++ b) = sumSz a + sumSz b := by
  induction a with
  | nil => simp [sumSz]
  | cons x xs ih => simp [sumSz, ih]; omega

theorem sumSz_take_succ (ss : List ByteArray) (k : Nat) (h : k < ss.length) : sumSz (ss.take (k + 1)) = sumSz (ss.take k) + ss[k].size := by
  rw [List.take_succ_eq_append_getElem h, sumSz_append]; simp [sumSz]

theorem sumSz_take_le (ss : List ByteArray) (k : Nat) : sumSz (ss.take k) ≤ sumSz ss := by
  conv => rhs; rw [← List.take_append_drop k ss]
  rw [sumSz_append]; omega

theorem sumSz_mem {ss : List ByteArray} {s : ByteArray} (h : s ∈ ss) : s.size ≤ sumSz ss := by
  induction ss with
  | nil => cases h
  | cons x xs ih =>
    simp [sumSz]
    rcases List.mem_cons.1 h with rfl | h
    · omega
    · have := ih h; omega

/-- What szStringS says: what is left, if this is not negative. -/
def SzPost (tot : Nat) (left : Int) (w : World) (e : Ending) (w' : World) : Prop := w = w' ∧ ∃ r : Int, e = .returned (.int .i64 r) ∧ (r < 0 ∨ (r = left - tot ∧ tot ≤ left))

/-- Strings as cells. -/
theorem strs_oneCell (ss : List ByteArray) : ∀ u ∈ ss.map Value.string, u.oneCell' = true := by
  intro u hu
  obtain ⟨s, _, rfl⟩ := List.mem_map.1 hu
  rfl

theorem infoStr : (Try.prog.info? 9).map (fun i => (i.zero, i.size, i.bytes)) = some (some (.string ByteArray.empty), 1, 16) := by kernel_rfl

theorem elemStr : Elem Try.prog 39 9 (.string ByteArray.empty) 1 16 := ⟨Try.underlying39, infoStr, rfl, by decide⟩

/-- What toStringS returns: new memory that holds the same strings. -/
def NewStrs (w : World) (ss : List ByteArray) (e : Ending) (w' : World) : Prop :=
  ∃ A c, e = .returned (.slice A ss.length c) ∧ w'.ownsRow w.heap.size 9 1 (.slice A ss.length c) ss.length (ss.map .string) ∧ Below w.heap.size w w'

/-- eqStringS at two slices that hold the same strings. -/
theorem lawsEqStringS (A B : Option Addr) (n c d Q R : Nat) (ss : List ByteArray) (w : World) (hl : ss.length = n) (hn : n ≤ 1048576) (h1 : Row w Q 1 A n (ss.map .string)) (h2 : Row w R 1 B n (ss.map .string)) :
    Calls Try.prog 31 #[.slice A n c, .slice B n d] w fun e w' => e = .returned (.bool true) ∧ Drawn w w' := by
  go_enter Try.func31, Try.ntmps31
  go_wp2
  go_loopw [5] (fun i wr => ∃ k : Nat, k ≤ n ∧ i = .int .i64 k ∧ Drawn w wr) (fun i _ => n - (intOf i).toNat)
  case atStart => exact ⟨0, Nat.zero_le _, rfl, Drawn.refl _⟩
  case round =>
    obtain ⟨k, hk, rfl, hd⟩ := hrel
    by_cases hlt : k < n
    · obtain ⟨b, off, rfl, hbl, hc⟩ := h1.2 (by omega)
      obtain ⟨b', off', rfl, hbl', hc'⟩ := h2.2 (by omega)
      have hkl : k < ss.length := by omega
      obtain ⟨s, hs⟩ : ∃ s, ss[k] = s := ⟨_, rfl⟩
      have hcell : wr.cell? ⟨b, off + k, none⟩ = some (.string s) := (hd.cells.1 _).trans (hc k _ (by simp [hs, hkl]))
      have hcell' : wr.cell? ⟨b', off' + k, none⟩ = some (.string s) := (hd.cells.1 _).trans (hc' k _ (by simp [hs, hkl]))
      clear hc hc' hs
      go_wp2
      go_quiet (fail)
      go_wp2
      go_roundw
      case rel => exact ⟨k + 1, by omega, by go_num, hd.more _⟩
      case measure => simp [intOf]; omega
    · go_wp2
      go_ret
      exact ⟨rfl, hd⟩

end Go.Proofs.Ytcafejahdiedpaa
