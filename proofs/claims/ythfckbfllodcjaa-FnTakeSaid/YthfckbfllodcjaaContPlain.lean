/-
  Plain facts on containers: the blocks that stand in some bytes, one behind the other.
-/
import Derived.Test.YthfckbfllodcjaaParsePlain
namespace Go.Proofs.Ythfckbfllodcjaa
set_option linter.unusedVariables false

/-- The sizes of blocks together. -/
def szs : List Blk → Nat
  | [] => 0
  | b :: bs => b.size + szs bs

theorem szs_append (a b : List Blk) : szs (a ++ b) = szs a + szs b := by
  induction a with
  | nil => simp [szs]
  | cons x xs ih => simp [szs, ih]; omega

theorem pbEnd_ge (s : ByteArray) (k : Nat) : k + 8 ≤ pbEnd s k := by unfold pbEnd; omega

theorem pbOk_lt {s : ByteArray} {k : Nat} (h : pbOk s k) : k < s.size := by have := h.1; omega

theorem pbOk_end {s : ByteArray} {k : Nat} (h : pbOk s k) : pbEnd s k + 2 ≤ s.size := h.2.2.2.1

theorem pbBlk_ok {s : ByteArray} {k : Nat} (h : pbOk s k) : (pbBlk s k).ok := h.2.2.2.2.1

/-- The blocks of a container from an index on, behind those that were found. -/
def conts (s : ByteArray) (k : Nat) (acc : List Blk) : Option (List Blk) :=
  if h : k < s.size then
    if pbOk s k ∧ (pbBlk s k).num = acc.length then conts s (pbEnd s k + 2) (acc ++ [pbBlk s k]) else none
  else if szs acc ≤ 2000 then some acc else none
termination_by s.size - k
decreasing_by have := pbEnd_ge s k; omega

theorem conts_next {s : ByteArray} {k : Nat} {acc : List Blk} (h : k < s.size) (h1 : pbOk s k) (h2 : (pbBlk s k).num = acc.length) : conts s k acc = conts s (pbEnd s k + 2) (acc ++ [pbBlk s k]) := by
  rw [conts, dif_pos h, if_pos ⟨h1, h2⟩]

theorem conts_bad {s : ByteArray} {k : Nat} {acc : List Blk} (h : k < s.size) (h1 : ¬ (pbOk s k ∧ (pbBlk s k).num = acc.length)) : conts s k acc = none := by
  rw [conts, dif_pos h, if_neg h1]

theorem conts_end {s : ByteArray} {k : Nat} {acc : List Blk} (h : s.size ≤ k) : conts s k acc = if szs acc ≤ 2000 then some acc else none := by
  rw [conts, dif_neg (by omega)]

/-- Blocks that were found have the numbers of their places, and each one is valid. -/
def Numbered (bs : List Blk) : Prop := ∀ (i : Nat) (b : Blk), bs[i]? = some b → b.num = i ∧ b.ok

theorem Numbered.nil : Numbered [] := by intro i b h; simp at h

theorem Numbered.snoc {bs : List Blk} {b : Blk} (h : Numbered bs) (h1 : b.num = bs.length) (h2 : b.ok) : Numbered (bs ++ [b]) := by
  intro i c hc
  rw [List.getElem?_append] at hc
  split at hc
  · exact h i c hc
  · rename_i hi
    have h0 : i - bs.length = 0 := by
      rcases Nat.eq_zero_or_pos (i - bs.length) with h0 | h0
      · exact h0
      · rw [List.getElem?_eq_none (by simp; omega)] at hc
        cases hc
    rw [h0] at hc
    simp only [List.getElem?_cons_zero, Option.some.injEq] at hc
    subst hc
    exact ⟨by omega, h2⟩

theorem Numbered.length {bs : List Blk} (h : Numbered bs) : bs.length ≤ 40 := by
  rcases Nat.lt_or_ge 40 bs.length with hl | hl
  · obtain ⟨h1, h2⟩ := h 40 _ (List.getElem?_eq_getElem hl)
    have := h2.1
    omega
  · exact hl

theorem Numbered.of_mem {bs : List Blk} (h : Numbered bs) {b : Blk} (hb : b ∈ bs) : b.ok := by
  obtain ⟨i, hi, rfl⟩ := List.mem_iff_getElem.1 hb
  exact (h i _ (List.getElem?_eq_getElem hi)).2

theorem conts_numbered {s : ByteArray} {k : Nat} {acc bs : List Blk} (h : Numbered acc) (hc : conts s k acc = some bs) : Numbered bs := by
  by_cases hk : k < s.size
  · by_cases h1 : pbOk s k ∧ (pbBlk s k).num = acc.length
    · rw [conts_next hk h1.1 h1.2] at hc
      exact conts_numbered (h.snoc h1.2 (pbBlk_ok h1.1)) hc
    · rw [conts_bad hk h1] at hc
      cases hc
  · rw [conts_end (by omega)] at hc
    split at hc
    · injection hc with hc
      subst hc
      exact h
    · cases hc
termination_by s.size - k
decreasing_by have := pbEnd_ge s k; omega

/-- The blocks of a container. -/
def contB (s : ByteArray) : Option (List Blk) := conts s 0 []

theorem contB_numbered {s : ByteArray} {bs : List Blk} (h : contB s = some bs) : Numbered bs := conts_numbered Numbered.nil h

/-- What is known of blocks that were found together: their sizes. -/
theorem szs_le {bs : List Blk} (h : ∀ b ∈ bs, b.ok) : szs bs ≤ 64 * bs.length := by
  induction bs with
  | nil => simp [szs]
  | cons x xs ih =>
    have h1 := ih fun b hb => h b (List.mem_cons_of_mem _ hb)
    have h2 := (h x (List.mem_cons_self ..)).2.2.1
    simp [szs]
    omega

end Go.Proofs.Ythfckbfllodcjaa
