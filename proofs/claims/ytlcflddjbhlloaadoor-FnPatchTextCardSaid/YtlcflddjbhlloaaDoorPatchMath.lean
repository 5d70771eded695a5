/-
  Plain facts on the patch of two strings: it makes the second of the first, its inverse the first of the second.
-/
import Derived.Test.YtlcflddjbhlloaaDoorLeastMath
import Derived.Test.YtlcflddjbhlloaaDoorFmtPatch
namespace Go.Proofs.YtlcflddjbhlloaaDoor
set_option linter.unusedVariables false

theorem lcp_take_eq : ∀ (x y : List UInt8) (k : Nat), k ≤ lcp x y → x.take k = y.take k
  | x, y, 0, _ => by simp
  | [], y, k + 1, h => by simp [lcp] at h
  | a :: xs, [], k + 1, h => by simp [lcp] at h
  | a :: xs, b :: ys, k + 1, h => by
    by_cases he : a = b
    · rw [lcp, if_pos he] at h
      rw [List.take_succ_cons, List.take_succ_cons, he, lcp_take_eq xs ys k (by omega)]
    · rw [lcp, if_neg he] at h; omega

theorem ba_ext_list {a b : ByteArray} (h : a.data.toList = b.data.toList) : a = b := ByteArray.ext (Array.toList_inj.1 h)

theorem start_same (a b : ByteArray) (s : Nat) (h : s ≤ shStart a b) : a.extract 0 s = b.extract 0 s := by
  apply ba_ext_list
  rw [ext_list, ext_list, List.drop_zero, List.drop_zero]
  exact lcp_take_eq _ _ s h

theorem end_same (a b : ByteArray) (k : Nat) (h : k ≤ shEnd a b) : a.extract (a.size - k) a.size = b.extract (b.size - k) b.size := by
  have h1 := lcp_take_eq _ _ k h
  have h2 := shEnd_le a b
  apply ba_ext_list
  rw [ext_list, ext_list, List.take_of_length_le (by simp), List.take_of_length_le (by simp)]
  have e : ∀ s : ByteArray, k ≤ s.size → s.data.toList.drop (s.size - k) = (s.data.toList.reverse.take k).reverse := fun s hs => by
    have e1 := drop_reverse s.data.toList (s.size - k)
    rw [show s.data.toList.length - (s.size - k) = k by simp; omega] at e1
    rw [← e1, List.reverse_reverse]
  rw [e a (by omega), e b (by omega), h1]

theorem three_parts (b : ByteArray) (s u : Nat) (h1 : s ≤ u) (h2 : u ≤ b.size) : b.extract 0 s ++ b.extract s u ++ b.extract u b.size = b := by
  apply ba_ext_list
  have e0 : b.data.toList.take b.size = b.data.toList := List.take_of_length_le (by simp)
  have e1 : b.data.toList.take s = (b.data.toList.take u).take s := by rw [List.take_take, Nat.min_eq_left h1]
  rw [ByteArray.data_append, ByteArray.data_append, Array.toList_append, Array.toList_append, ext_list, ext_list, ext_list, List.drop_zero, e0, e1, List.take_append_drop, List.take_append_drop]

/-- The patch's places. -/
structure PatchOfAt (a b : ByteArray) (s t u : Nat) (d : ByteArray) : Prop where
  pat : pat a b = ⟨s, t, d, true⟩
  fwd : apl a s t d = (b, true)
  inv : inv a s t d = ⟨s, u, a.extract s t, true⟩
  bwd : apl b s u (a.extract s t) = (a, true)
  valid : pvalid (s : Int) (t : Int) d.size
  same : a = b → s = t ∧ d = ByteArray.empty
  dsz : d.size ≤ 2000
  asz : (a.extract s t).size ≤ 2000

theorem patchOf_at (a b : ByteArray) (ha : a.size ≤ 2000) (hb : b.size ≤ 2000) : ∃ (s t u : Nat) (d : ByteArray), PatchOfAt a b s t u d := by
  obtain ⟨s, hs⟩ : ∃ s, shStart a b = s := ⟨_, rfl⟩
  obtain ⟨K, hK⟩ : ∃ K, endK a b s = K := ⟨_, rfl⟩
  have hE := endK_eq a b s
  have hS := shStart_le a b
  have hN := shEnd_le a b
  rw [hK] at hE
  rw [hs] at hS
  obtain ⟨t, ht⟩ : ∃ t, a.size - K = t := ⟨_, rfl⟩
  obtain ⟨u, hu⟩ : ∃ u, b.size - K = u := ⟨_, rfl⟩
  have hst : s ≤ t := by omega
  have hsu : s ≤ u := by omega
  have hta : t ≤ a.size := by omega
  have hub : u ≤ b.size := by omega
  have hp : a.extract 0 s = b.extract 0 s := start_same a b s (by omega)
  have hq : a.extract t a.size = b.extract u b.size := by rw [← ht, ← hu]; exact end_same a b K (by omega)
  have hd : (b.extract s u).size = u - s := by simp; omega
  have hd2 : (a.extract s t).size = t - s := by simp; omega
  refine ⟨s, t, u, b.extract s u, ?_, ?_, ?_, ?_, ?_, ?_, by omega, by omega⟩
  · unfold pat
    rw [if_pos ⟨ha, hb⟩, show lcp a.data.toList b.data.toList = s from hs, hK, hu]
    congr 1
    try omega
  · unfold apl
    rw [if_pos (by unfold pfits; omega), Int.toNat_natCast, Int.toNat_natCast, hp, hq, three_parts b s u hsu hub]
  · rw [inv_yes (by unfold pfits; omega)]
    congr 1
    try omega
  · unfold apl
    rw [if_pos (by unfold pfits; omega), Int.toNat_natCast, Int.toNat_natCast, ← hp, ← hq, three_parts a s t hst hta]
  · refine ⟨by omega, by omega, by omega, by omega⟩
  · intro e
    subst e
    have h1 : s = a.size := by
      have h2 := lcp_of_take a.data.toList a.data.toList a.size (by simp) (by simp) rfl
      have h3 : shStart a a = s := hs
      unfold shStart at h3
      omega
    refine ⟨by omega, ?_⟩
    apply ba_ext_list
    rw [ext_list]
    have : (a.data.toList.take u).drop s = [] := List.drop_of_length_le (by simp; omega)
    rw [this]
    rfl

end Go.Proofs.YtlcflddjbhlloaaDoor
