/-
  The contracts of PatchOf, and the walk of the law FnExactPatchOf: it returns true for all arguments.
-/
import Derived.Test.YtlcflddjbhlloaaDoorSharedEnd
import Derived.Test.YtlcflddjbhlloaaDoorPatchSmall
namespace Go.Proofs.YtlcflddjbhlloaaDoor
open Go.RowKit
set_option linter.unusedVariables false

/-- How many bytes two strings share at their ends behind the ones that they share at their beginnings. -/
def endK (a b : ByteArray) (n : Nat) : Nat := lcp (a.extract n a.size).data.toList.reverse (b.extract n b.size).data.toList.reverse

theorem endK_le (a b : ByteArray) (n : Nat) (ha : n ≤ a.size) (hb : n ≤ b.size) : endK a b n ≤ a.size - n ∧ endK a b n ≤ b.size - n := by
  have h1 := lcp_le_left (a.extract n a.size).data.toList.reverse (b.extract n b.size).data.toList.reverse
  have h2 := lcp_le_right (a.extract n a.size).data.toList.reverse (b.extract n b.size).data.toList.reverse
  simp at h1 h2
  unfold endK
  constructor
  · simpa using h1
  · simpa using h2

/-- What PatchOf returns. -/
def pat (a b : ByteArray) : PB :=
  if a.size ≤ 2000 ∧ b.size ≤ 2000 then
    ⟨lcp a.data.toList b.data.toList, a.size - endK a b (lcp a.data.toList b.data.toList), b.extract (lcp a.data.toList b.data.toList) (b.size - endK a b (lcp a.data.toList b.data.toList)), true⟩
  else ⟨0, 0, ByteArray.empty, false⟩

theorem pat_no (a b : ByteArray) (h : ¬ (a.size ≤ 2000 ∧ b.size ≤ 2000)) : pat a b = ⟨0, 0, ByteArray.empty, false⟩ := by
  unfold pat; rw [if_neg h]

theorem pat_yes {a b : ByteArray} {n k : Nat} (h : a.size ≤ 2000) (h' : b.size ≤ 2000) (hn : lcp a.data.toList b.data.toList = n) (hk : endK a b n = k) : pat a b = ⟨n, a.size - k, b.extract n (b.size - k), true⟩ := by
  unfold pat; rw [if_pos ⟨h, h'⟩, hn, hk]

set_option maxHeartbeats 400000 in
set_option maxRecDepth 20000 in
theorem implPatchOf (a b : ByteArray) (w : World) (ha : a.size ≤ 1048576) (hb : b.size ≤ 1048576) :
    Calls Tryd.prog 10 #[.string a, .string b] w fun e w' => e = .returned (pat a b).val ∧ Below w.heap.size w w' := by
  by_cases h : a.size ≤ 2000 ∧ b.size ≤ 2000
  · obtain ⟨h1, h2⟩ := h
    obtain ⟨n, hn⟩ : ∃ n, lcp a.data.toList b.data.toList = n := ⟨_, rfl⟩
    have hna : n ≤ a.size := by have := lcp_le_left a.data.toList b.data.toList; simp at this; omega
    have hnb : n ≤ b.size := by have := lcp_le_right a.data.toList b.data.toList; simp at this; omega
    obtain ⟨k, hk⟩ : ∃ k, endK a b n = k := ⟨_, rfl⟩
    have hka := (endK_le a b n hna hnb).1
    have hkb := (endK_le a b n hna hnb).2
    rw [hk] at hka hkb
    have hC := pat_yes h1 h2 hn hk
    obtain ⟨j, hj⟩ : ∃ j, b.size - k = j := ⟨_, rfl⟩
    rw [hj] at hC
    have HC := Lib.hid hC
    have ej : (b.size : Int) - ↑k = ↑j := by omega
    have hnj : n ≤ j := by omega
    have hjb : j ≤ b.size := by omega
    clear hC hj
    have HN := Lib.hid hn
    have HK := Lib.hid hk
    clear hn hk
    go_enter Tryd.func10, Tryd.ntmps10
    go_wp2_with fail
    refine (implSharedStart a b _ ha hb).mono ?_
    rintro e w1 ⟨rfl, hd1⟩
    rw [HN.out]
    have hb1 := ((Below.refl _ _).alloc (Nat.le_refl _) _).trans (hd1.below w.heap.size)
    obtain ⟨hc1, hf1, hz1⟩ := hd1.cells
    clear hd1
    go_wp2_with fail
    have hc := implSharedEnd (a.extract n a.size) (b.extract n b.size)
    go_quiet ((go_at_call 34; exact Calls.quiet_of (hc _ (by simp; omega) (by simp; omega))))
    clear hc
    unfold endK at HK
    rw [HK.out]
    go_wp2
    refine bodyPost_ret (v := .tuple #[.agg #[.int .i64 n, .int .i64 (a.size - k), .string (b.extract n j)], .bool true]) (by simp [results, Tryd.results10, go_sem, hc1]) rfl ?_
    refine ⟨ret_pb HC.out, ?_⟩
    clear hc1 hf1 hz1 HC HK HN
    have hb2 := below_drewN hb1 nq
    go_grown
  · have HC := Lib.hid (pat_no a b h)
    by_cases h1 : a.size ≤ 2000
    all_goals go_enter Tryd.func10, Tryd.ntmps10
    all_goals go_wp2
    all_goals refine bodyPost_ret (v := .tuple #[.agg #[.int .i64 0, .int .i64 0, .string ByteArray.empty], .bool false]) (by simp [results, Tryd.results10, go_sem]; rfl) rfl ?_
    all_goals refine ⟨ret_pb HC.out, ?_⟩
    all_goals go_grown

set_option maxHeartbeats 400000 in
set_option maxRecDepth 20000 in
theorem specPatchOf (a b : ByteArray) (w : World) (ha : a.size ≤ 1048576) (hb : b.size ≤ 1048576) :
    Calls Tryd.prog 11 #[.string a, .string b] w fun e w' => e = .returned (pat a b).val ∧ Below w.heap.size w w' := by
  by_cases h : a.size ≤ 2000 ∧ b.size ≤ 2000
  · obtain ⟨h1, h2⟩ := h
    obtain ⟨n, hn⟩ : ∃ n, lcp a.data.toList b.data.toList = n := ⟨_, rfl⟩
    have hna : n ≤ a.size := by have := lcp_le_left a.data.toList b.data.toList; simp at this; omega
    have hnb : n ≤ b.size := by have := lcp_le_right a.data.toList b.data.toList; simp at this; omega
    obtain ⟨k, hk⟩ : ∃ k, endK a b n = k := ⟨_, rfl⟩
    have hka := (endK_le a b n hna hnb).1
    have hkb := (endK_le a b n hna hnb).2
    rw [hk] at hka hkb
    have hC := pat_yes h1 h2 hn hk
    obtain ⟨j, hj⟩ : ∃ j, b.size - k = j := ⟨_, rfl⟩
    rw [hj] at hC
    have HC := Lib.hid hC
    have ej : (b.size : Int) - ↑k = ↑j := by omega
    have hnj : n ≤ j := by omega
    have hjb : j ≤ b.size := by omega
    clear hC hj
    have HN := Lib.hid hn
    have HK := Lib.hid hk
    clear hn hk
    go_enter Tryd.func11, Tryd.ntmps11
    go_wp2_with fail
    refine (specSharedStart a b _ ha hb).mono ?_
    rintro e w1 ⟨rfl, hd1⟩
    rw [HN.out]
    have hb1 := ((Below.refl _ _).alloc (Nat.le_refl _) _).trans (hd1.below w.heap.size)
    obtain ⟨hc1, hf1, hz1⟩ := hd1.cells
    clear hd1
    go_wp2_with fail
    have hc := specSharedEnd (a.extract n a.size) (b.extract n b.size)
    go_quiet ((go_at_call 36; exact Calls.quiet_of (hc _ (by simp; omega) (by simp; omega))))
    clear hc
    unfold endK at HK
    rw [HK.out]
    go_wp2
    refine bodyPost_ret (v := .tuple #[.agg #[.int .i64 n, .int .i64 (a.size - k), .string (b.extract n j)], .bool true]) (by simp [results, Tryd.results11, go_sem, hc1]) rfl ?_
    refine ⟨ret_pb HC.out, ?_⟩
    clear hc1 hf1 hz1 HC HK HN
    have hb2 := below_drewN hb1 nq
    go_grown
  · have HC := Lib.hid (pat_no a b h)
    by_cases h1 : a.size ≤ 2000
    all_goals go_enter Tryd.func11, Tryd.ntmps11
    all_goals go_wp2
    all_goals refine bodyPost_ret (v := .tuple #[.agg #[.int .i64 0, .int .i64 0, .string ByteArray.empty], .bool false]) (by simp [results, Tryd.results11, go_sem]; rfl) rfl ?_
    all_goals refine ⟨ret_pb HC.out, ?_⟩
    all_goals go_grown

end Go.Proofs.YtlcflddjbhlloaaDoor
