/-
  Plain facts on the smallest patch of two strings.
-/
import Derived.Test.YtlcflddjbhlloaaDoorPatchOf
namespace Go.Proofs.YtlcflddjbhlloaaDoor
set_option linter.unusedVariables false

theorem lcp_take : ∀ (x y : List UInt8) (p q : Nat), lcp (x.take p) (y.take q) = min (lcp x y) (min p q)
  | [], y, p, q => by simp [lcp]
  | a :: xs, [], p, q => by cases p <;> simp [lcp]
  | a :: xs, b :: ys, 0, q => by simp [lcp]
  | a :: xs, b :: ys, p + 1, 0 => by simp [lcp]
  | a :: xs, b :: ys, p + 1, q + 1 => by
    rw [List.take_succ_cons, List.take_succ_cons]
    unfold lcp
    by_cases h : a = b
    · rw [if_pos h, if_pos h, lcp_take xs ys p q]; omega
    · rw [if_neg h, if_neg h]; omega

theorem lcp_get : ∀ (x y : List UInt8) (h1 : lcp x y < x.length) (h2 : lcp x y < y.length), x[lcp x y] ≠ y[lcp x y]
  | [], y, h1, _ => by simp at h1
  | a :: xs, [], _, h2 => by simp at h2
  | a :: xs, b :: ys, h1, h2 => by
    by_cases h : a = b
    · have e : lcp (a :: xs) (b :: ys) = lcp xs ys + 1 := by rw [lcp, if_pos h]
      have := lcp_get xs ys (by rw [e] at h1; simpa using h1) (by rw [e] at h2; simpa using h2)
      simpa [e] using this
    · have e : lcp (a :: xs) (b :: ys) = 0 := by rw [lcp, if_neg h]
      simpa [e] using h

theorem lcp_of_take : ∀ (x y : List UInt8) (k : Nat), k ≤ x.length → k ≤ y.length → x.take k = y.take k → k ≤ lcp x y
  | x, y, 0, _, _, _ => by omega
  | [], y, k + 1, h, _, _ => by simp at h
  | a :: xs, [], k + 1, _, h, _ => by simp at h
  | a :: xs, b :: ys, k + 1, h1, h2, h => by
    rw [List.take_succ_cons, List.take_succ_cons] at h
    injection h with h3 h4
    have := lcp_of_take xs ys k (by simpa using h1) (by simpa using h2) h4
    rw [lcp, if_pos h3]
    omega

/-- How many bytes two strings share at their ends. -/
def shEnd (a b : ByteArray) : Nat := lcp a.data.toList.reverse b.data.toList.reverse

/-- How many bytes two strings share at their beginnings. -/
def shStart (a b : ByteArray) : Nat := lcp a.data.toList b.data.toList

theorem shEnd_le (a b : ByteArray) : shEnd a b ≤ a.size ∧ shEnd a b ≤ b.size := by
  have h1 := lcp_le_left a.data.toList.reverse b.data.toList.reverse
  have h2 := lcp_le_right a.data.toList.reverse b.data.toList.reverse
  simp at h1 h2
  exact ⟨h1, h2⟩

theorem shStart_le (a b : ByteArray) : shStart a b ≤ a.size ∧ shStart a b ≤ b.size := by
  have h1 := lcp_le_left a.data.toList b.data.toList
  have h2 := lcp_le_right a.data.toList b.data.toList
  simp at h1 h2
  exact ⟨h1, h2⟩

theorem drop_reverse (x : List UInt8) (n : Nat) : (x.drop n).reverse = x.reverse.take (x.length - n) := by
  rw [List.reverse_drop]

theorem ext_list (a : ByteArray) (i j : Nat) : (a.extract i j).data.toList = (a.data.toList.take j).drop i := by
  rw [List.drop_take]; simp

theorem endK_eq (a b : ByteArray) (n : Nat) : endK a b n = min (shEnd a b) (min (a.size - n) (b.size - n)) := by
  unfold endK shEnd
  have h : ∀ s : ByteArray, (s.extract n s.size).data.toList.reverse = s.data.toList.reverse.take (s.size - n) := fun s => by
    rw [ext_list, List.take_of_length_le (by simp), drop_reverse]
    simp
  rw [h a, h b, lcp_take]

theorem prefix_start (a b : ByteArray) (k : Nat) (ha : k ≤ a.size) (hb : k ≤ b.size) (h : a.extract 0 k = b.extract 0 k) : k ≤ shStart a b := by
  refine lcp_of_take _ _ k (by simpa using ha) (by simpa using hb) ?_
  have h1 := congrArg (fun s : ByteArray => s.data.toList) h
  simp only [ext_list, List.drop_zero] at h1
  exact h1

theorem suffix_end (a b : ByteArray) (i j : Nat) (ha : i ≤ a.size) (hb : j ≤ b.size) (h : a.extract i a.size = b.extract j b.size) : a.size - i ≤ shEnd a b ∧ a.size - i = b.size - j := by
  have hs := congrArg ByteArray.size h
  simp at hs
  have hs' : a.size - i = b.size - j := by omega
  refine ⟨lcp_of_take _ _ _ (by simp) (by simp; omega) ?_, hs'⟩
  have h1 := congrArg (fun s : ByteArray => s.data.toList.reverse) h
  simp only [ext_list] at h1
  rw [List.take_of_length_le (by simp), List.take_of_length_le (by simp), drop_reverse, drop_reverse] at h1
  simpa [hs'] using h1

theorem start_differ (a b : ByteArray) (h1 : shStart a b < a.size) (h2 : shStart a b < b.size) : a[shStart a b] ≠ b[shStart a b] := by
  have := lcp_get a.data.toList b.data.toList (by simpa [shStart] using h1) (by simpa [shStart] using h2)
  exact fun e => this (by rw [Array.getElem_toList, Array.getElem_toList]; exact e)

/-- No smaller range does. -/
theorem least (a b : ByteArray) (f t : Nat) (hft : f ≤ t) (hta : t ≤ a.size) (hlt : t < f + (a.size - endK a b (shStart a b)) - shStart a b) (hfb : f ≤ b.size)
    (hend : f + (a.size - t) ≤ b.size) (hp : a.extract 0 f = b.extract 0 f) (hs : a.extract t a.size = b.extract (b.size - (a.size - t)) b.size) : False := by
  have h1 := prefix_start a b f (by omega) hfb hp
  obtain ⟨h2, h3⟩ := suffix_end a b t _ hta (by omega) hs
  have h4 := shStart_le a b
  have h5 := shEnd_le a b
  rw [endK_eq] at hlt
  omega

end Go.Proofs.YtlcflddjbhlloaaDoor
