/-
  Pairs in memory: two cells each; what is known with its pairs at hand; the texts of words as strings.
-/
import Derived.Test.YthfckbfllodcjaaWordsA
import Derived.Test.YthfckbfllodcjaaMem
namespace Go.Proofs.Ythfckbfllodcjaa
open Go.RowKit
set_option linter.unusedVariables false

/-- The two cells of a pair. -/
def pairCells (p : Nat × Nat) : List Value := [.int .i64 (p.1 : Int), .int .i64 (p.2 : Int)]

/-- The cells of pairs, one behind the other. -/
def cellsP (ps : List (Nat × Nat)) : List Value := ps.flatMap pairCells

theorem cellsP_append (a b : List (Nat × Nat)) : cellsP (a ++ b) = cellsP a ++ cellsP b := by unfold cellsP; exact List.flatMap_append

theorem cellsP_one (b : Nat × Nat) : cellsP [b] = pairCells b := by simp [cellsP]

theorem cellsP_length (ps : List (Nat × Nat)) : (cellsP ps).length = ps.length * 2 := by
  induction ps with
  | nil => rfl
  | cons x xs ih =>
    have h : cellsP (x :: xs) = pairCells x ++ cellsP xs := by simp [cellsP]
    rw [h, List.length_append, ih]
    simp [pairCells]; omega

theorem cellsP_oneCell (ps : List (Nat × Nat)) : ∀ u ∈ cellsP ps, u.oneCell' = true := by
  intro u hu
  unfold cellsP at hu
  obtain ⟨b, _, hb⟩ := List.mem_flatMap.1 hu
  simp only [pairCells, List.mem_cons, List.not_mem_nil, or_false] at hb
  rcases hb with rfl | rfl <;> rfl

theorem cellsP_get (ps : List (Nat × Nat)) (k j : Nat) (b : Nat × Nat) (hb : ps[k]? = some b) (hj : j < 2) : (cellsP ps)[k * 2 + j]? = (pairCells b)[j]? := by
  induction ps generalizing k with
  | nil => simp at hb
  | cons x xs ih =>
    have h : cellsP (x :: xs) = pairCells x ++ cellsP xs := by simp [cellsP]
    have hl : (pairCells x).length = 2 := rfl
    rw [h]
    cases k with
    | zero =>
      simp only [List.getElem?_cons_zero, Option.some.injEq] at hb
      subst hb
      rw [List.getElem?_append_left (by omega), Nat.zero_mul, Nat.zero_add]
    | succ k =>
      rw [List.getElem?_append_right (by omega), hl, show (k + 1) * 2 + j - 2 = k * 2 + j from by omega]
      exact ih k (by simpa using hb)

theorem cellsP_take (ps : List (Nat × Nat)) (k : Nat) : cellsP (ps.take k) = (cellsP ps).take (k * 2) := by
  induction ps generalizing k with
  | nil => simp [cellsP]
  | cons x xs ih =>
    cases k with
    | zero => simp [cellsP]
    | succ k =>
      have h : ∀ (y : Nat × Nat) (ys : List (Nat × Nat)), cellsP (y :: ys) = pairCells y ++ cellsP ys := fun y ys => by simp [cellsP]
      have hl : (pairCells x).length = 2 := rfl
      rw [List.take_succ_cons, h, h, ih, show (k + 1) * 2 = 2 + k * 2 from by omega, List.take_append, hl, show 2 + k * 2 - 2 = k * 2 from by omega, List.take_of_length_le (show (pairCells x).length ≤ 2 + k * 2 by omega)]

theorem Row.pair {w : World} {B n : Nat} {A : Option Addr} {ps : List (Nat × Nat)} (h : Row w B 2 A n (cellsP ps)) {k p q : Nat} (hk : k < n) (hb : ps[k]? = some (p, q)) :
    ∃ b off, A = some ⟨b, off, none⟩ ∧ b < B ∧ w.cell? ⟨b, off + k * 2, none⟩ = some (.int .i64 (p : Int)) ∧ w.cell? ⟨b, off + k * 2 + 1, none⟩ = some (.int .i64 (q : Int)) := by
  obtain ⟨b, off, e, hB, hc⟩ := h.2 (by omega)
  refine ⟨b, off, e, hB, ?_, ?_⟩
  · exact hc (k * 2 + 0) _ ((cellsP_get ps k 0 _ hb (by omega)).trans rfl)
  · exact hc (k * 2 + 1) _ ((cellsP_get ps k 1 _ hb (by omega)).trans rfl)

theorem Row.len2 {w : World} {B n : Nat} {A : Option Addr} {ps : List (Nat × Nat)} (h : Row w B 2 A n (cellsP ps)) : ps.length = n := by
  have := h.1; rw [cellsP_length] at this; omega

theorem infoPair : (Try.prog.info? 102).map (fun i => (i.zero, i.size, i.bytes)) = some (some (.agg #[.int .i64 0, .int .i64 0]), 2, 16) := by kernel_rfl

theorem elemPair : Elem Try.prog 89 102 (.agg #[.int .i64 0, .int .i64 0]) 2 16 := ⟨Try.underlying89, infoPair, rfl, by decide⟩

/-- A text as a string. -/
abbrev bsL (l : List UInt8) : ByteArray := ⟨l.toArray⟩

/-- The pairs of what is known lie in memory. -/
def Kn.At (k : Kn) (w : World) (B : Nat) (A : Option Addr) : Prop := Row w B 2 A k.ps.length (cellsP k.ps)

theorem belowC {w wx wy : World} (hb : Below wx.heap.size wx wy) (h : Below w.heap.size w wx) : Below w.heap.size w wy := h.trans (hb.mono h.size)

/-- A list with its first i elements and its last i ones changed for each other. -/
def swp (l : List UInt8) (i : Nat) : List UInt8 := (List.range l.length).map fun j => if j < i ∨ l.length - 1 - j < i then l.getD (l.length - 1 - j) 0 else l.getD j 0

theorem swp_zero (l : List UInt8) : swp l 0 = l := by
  apply List.ext_getElem?
  intro j
  unfold swp
  by_cases hj : j < l.length
  · simp [hj, List.getD]
  · simp [hj]

theorem swp_length (l : List UInt8) (i : Nat) : (swp l i).length = l.length := by simp [swp]

theorem swp_get (l : List UInt8) (i : Nat) {j : Nat} (hj : j < l.length) : (swp l i)[j]? = some (if j < i ∨ l.length - 1 - j < i then l.getD (l.length - 1 - j) 0 else l.getD j 0) := by
  unfold swp
  simp [hj]

theorem swp_half (l : List UInt8) {i : Nat} (h : l.length / 2 ≤ i) (h2 : i ≤ l.length / 2) : swp l i = l.reverse := by
  apply List.ext_getElem?
  intro j
  by_cases hj : j < l.length
  · rw [swp_get l i hj, List.getElem?_reverse hj]
    by_cases hc : j < i ∨ l.length - 1 - j < i
    · rw [if_pos hc, List.getD, List.getElem?_eq_getElem (by omega)]
      rfl
    · rw [if_neg hc]
      have e : j = l.length - 1 - j := by omega
      conv => lhs; rw [e]
      rw [List.getD, List.getElem?_eq_getElem (by omega)]
      rfl
  · rw [List.getElem?_eq_none (by rw [swp_length]; omega), List.getElem?_eq_none (by simp; omega)]

theorem swp_succ (l : List UInt8) {i : Nat} (h : i < l.length / 2) : swp l (i + 1) = ((swp l i).set i (l.getD (l.length - 1 - i) 0)).set (l.length - 1 - i) (l.getD i 0) := by
  apply List.ext_getElem?
  intro j
  by_cases hj : j < l.length
  · rw [swp_get l _ hj]
    by_cases h1 : j = l.length - 1 - i
    · subst h1
      rw [List.getElem?_set_self (by simp [swp_length]; omega), if_pos (by omega)]
      rw [show l.length - 1 - (l.length - 1 - i) = i by omega]
    · rw [List.getElem?_set_ne (by omega)]
      by_cases h2 : j = i
      · subst h2
        rw [List.getElem?_set_self (by simp [swp_length]; omega), if_pos (by omega)]
      · rw [List.getElem?_set_ne (by omega), swp_get l _ hj]
        by_cases hc : j < i ∨ l.length - 1 - j < i
        · rw [if_pos hc, if_pos (by omega)]
        · rw [if_neg hc, if_neg (by omega)]
  · rw [List.getElem?_eq_none (by rw [swp_length]; omega), List.getElem?_eq_none (by simp [swp_length]; omega)]

/-- A word has at most one byte more than there are pairs. -/
theorem wordF_le (fin : Nat) (ps : List (Nat × Nat)) : ∀ (f c : Nat), (wordF fin ps f c).length ≤ f + 1 := by
  intro f
  induction f with
  | zero => intro c; simp [wordF]
  | succ f ih =>
    intro c
    rw [wordF]
    split
    · split
      · rename_i p b _
        have := ih p
        simp; omega
      · simp
    · simp

theorem Kn.word_le (k : Kn) (c : Nat) : (k.word c).length ≤ k.ps.length + 2 := wordF_le _ _ _ _

theorem Kn.any_le (k : Kn) (c : Nat) : (k.any c).length ≤ k.ps.length + 3 := by
  unfold Kn.any
  split
  · rename_i q _
    split
    · have := k.word_le q
      rw [List.length_append, List.length_take]
      omega
    · have := k.word_le c; omega
  · have := k.word_le c; omega

end Go.Proofs.Ythfckbfllodcjaa
