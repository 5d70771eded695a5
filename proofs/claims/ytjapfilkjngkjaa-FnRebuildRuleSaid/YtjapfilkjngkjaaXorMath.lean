/-
  Plain facts on sums of strings: their order does not matter, and twice the same gives zeros.
-/
import Derived.Test.YtjapfilkjngkjaaXor
import Derived.Test.YtjapfilkjngkjaaRep
namespace Go.Proofs.Ytjapfilkjngkjaa
set_option linter.unusedVariables false

theorem ba_same {a b : ByteArray} (h : a.size = b.size) (h2 : ∀ i, i < a.size → bAt a i = bAt b i) : a = b := by
  apply ByteArray.ext
  apply Array.toList_inj.1
  apply List.ext_getElem?
  intro i
  have e1 : a.data.toList.length = a.size := rfl
  have e2 : b.data.toList.length = b.size := rfl
  by_cases hi : i < a.size
  · have := h2 i hi
    unfold bAt at this
    rw [List.getD_eq_getElem?_getD, List.getD_eq_getElem?_getD] at this
    rw [List.getElem?_eq_getElem (by omega), List.getElem?_eq_getElem (by omega)] at this ⊢
    simpa using this
  · rw [List.getElem?_eq_none (by omega), List.getElem?_eq_none (by omega)]

theorem xor_init (j : Nat) : ∀ (ss : List ByteArray) (a : UInt8), ss.foldl (fun a s => a ^^^ bAt s j) a = a ^^^ xorAt ss j := by
  intro ss
  induction ss with
  | nil => intro a; simp [xorAt]
  | cons x xs ih =>
    intro a
    unfold xorAt
    simp only [List.foldl_cons]
    rw [ih, ih (0 ^^^ bAt x j)]
    simp [UInt8.xor_assoc]

theorem xorAt_cons (s : ByteArray) (ss : List ByteArray) (j : Nat) : xorAt (s :: ss) j = bAt s j ^^^ xorAt ss j := by
  conv => lhs; unfold xorAt
  simp only [List.foldl_cons]
  rw [xor_init]; simp

theorem xorAt_append (a b : List ByteArray) (j : Nat) : xorAt (a ++ b) j = xorAt a j ^^^ xorAt b j := by
  conv => lhs; unfold xorAt
  rw [List.foldl_append, xor_init]
  rfl

theorem xorAt_reverse (ss : List ByteArray) (j : Nat) : xorAt ss.reverse j = xorAt ss j := by
  induction ss with
  | nil => rfl
  | cons x xs ih =>
    rw [List.reverse_cons, xorAt_append, ih, xorAt_cons, xorAt_cons]
    simp [xorAt, UInt8.xor_comm]

theorem max_init : ∀ (ss : List ByteArray) (m : Nat), ss.foldl (fun m s => max m s.size) m = max m (maxSz ss) := by
  intro ss
  induction ss with
  | nil => intro m; simp [maxSz]
  | cons x xs ih =>
    intro m
    unfold maxSz
    simp only [List.foldl_cons]
    rw [ih, ih (max 0 x.size)]
    omega

theorem maxSz_cons (s : ByteArray) (ss : List ByteArray) : maxSz (s :: ss) = max s.size (maxSz ss) := by
  conv => lhs; unfold maxSz
  simp only [List.foldl_cons]
  rw [max_init]; omega

theorem maxSz_append (a b : List ByteArray) : maxSz (a ++ b) = max (maxSz a) (maxSz b) := by
  conv => lhs; unfold maxSz
  rw [List.foldl_append, max_init]
  rfl

theorem maxSz_reverse (ss : List ByteArray) : maxSz ss.reverse = maxSz ss := by
  induction ss with
  | nil => rfl
  | cons x xs ih =>
    rw [List.reverse_cons, maxSz_append, ih, maxSz_cons, maxSz_cons]
    have : maxSz [] = 0 := rfl
    omega

theorem bAt_xorAll (ss : List ByteArray) (j : Nat) : bAt (xorAll ss) j = xorAt ss j := by
  by_cases h : j < maxSz ss
  · unfold bAt xorAll
    rw [List.getD_eq_getElem?_getD]
    simp [h]
  · rw [bAt_ge (by rw [xorAll_size]; omega), xorAt_ge (by omega)]

theorem xorAll_reverse (ss : List ByteArray) : xorAll ss.reverse = xorAll ss := by
  refine ba_same (by rw [xorAll_size, xorAll_size, maxSz_reverse]) fun i _ => ?_
  rw [bAt_xorAll, bAt_xorAll, xorAt_reverse]

theorem xorAll_one (x : ByteArray) : xorAll [x] = x := by
  refine ba_same (by rw [xorAll_size, maxSz_cons]; have : maxSz [] = 0 := rfl; omega) fun i _ => ?_
  rw [bAt_xorAll, xorAt_cons]; simp [xorAt]

theorem bAt_rep0 (n j : Nat) : bAt (repB ⟨#[0]⟩ n) j = 0 := by
  have h : ∀ n, (repB ⟨#[0]⟩ n).data.toList = List.replicate n 0 := by
    intro n
    induction n with
    | zero => rfl
    | succ n ih => simp only [repB, ByteArray.data_append, Array.toList_append, ih]; rfl
  unfold bAt
  rw [h, List.getD_eq_getElem?_getD, List.getElem?_replicate]
  split <;> rfl

theorem xorAll_twice (ss : List ByteArray) : xorAll (xorAll ss :: ss.reverse) = repB ⟨#[0]⟩ (maxSz ss) := by
  refine ba_same ?_ fun i _ => ?_
  · rw [xorAll_size, maxSz_cons, xorAll_size, maxSz_reverse, repB_size]
    show _ = 1 * _
    omega
  · rw [bAt_xorAll, xorAt_cons, bAt_xorAll, xorAt_reverse, bAt_rep0]
    simp

end Go.Proofs.Ytjapfilkjngkjaa
