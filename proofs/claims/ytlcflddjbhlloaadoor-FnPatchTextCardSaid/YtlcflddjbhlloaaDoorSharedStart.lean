/-
  The contracts of SharedStart: the program's and the reference's both return the length of the longest common prefix.
-/
import Derived.Test.YtlcflddjbhlloaaDoorBase
namespace Go.Proofs.YtlcflddjbhlloaaDoor
open Go.RowKit
set_option linter.unusedVariables false

/-- The length of the longest common prefix. -/
def lcp : List UInt8 → List UInt8 → Nat
  | a :: xs, b :: ys => if a = b then lcp xs ys + 1 else 0
  | _, _ => 0

theorem lcp_le_left : ∀ a b : List UInt8, lcp a b ≤ a.length
  | [], b => by simp [lcp]
  | a :: xs, [] => by simp [lcp]
  | a :: xs, b :: ys => by
    have := lcp_le_left xs ys
    unfold lcp; split <;> simp <;> omega
theorem lcp_le_right : ∀ a b : List UInt8, lcp a b ≤ b.length
  | [], b => by simp [lcp]
  | a :: xs, [] => by simp [lcp]
  | a :: xs, b :: ys => by
    have := lcp_le_right xs ys
    unfold lcp; split <;> simp <;> omega
theorem lcp_step : ∀ (a b : List UInt8) (k : Nat) (ha : k < a.length) (hb : k < b.length), k ≤ lcp a b → a[k] = b[k] → k + 1 ≤ lcp a b
  | a :: xs, b :: ys, 0, _, _, _, h => by
    have h : a = b := by simpa using h
    unfold lcp; rw [if_pos h]; omega
  | a :: xs, b :: ys, k + 1, ha, hb, hk, h => by
    unfold lcp at hk ⊢
    split at hk
    · rename_i e; rw [if_pos e]
      have := lcp_step xs ys k (by simpa using ha) (by simpa using hb) (by omega) (by simpa using h)
      omega
    · omega
theorem lcp_stop : ∀ (a b : List UInt8) (k : Nat) (ha : k < a.length) (hb : k < b.length), k ≤ lcp a b → a[k] ≠ b[k] → lcp a b = k
  | a :: xs, b :: ys, 0, _, _, _, h => by
    have h : a ≠ b := by simpa using h
    unfold lcp; rw [if_neg h]
  | a :: xs, b :: ys, k + 1, ha, hb, hk, h => by
    unfold lcp at hk ⊢
    split at hk
    · rename_i e; rw [if_pos e]
      have := lcp_stop xs ys k (by simpa using ha) (by simpa using hb) (by omega) (by simpa using h)
      omega
    · omega

set_option maxHeartbeats 400000 in
theorem implSharedStart (a b : ByteArray) (w : World) (ha : a.size ≤ 1048576) (hb : b.size ≤ 1048576) :
    Calls Tryd.prog 33 #[.string a, .string b] w fun e w' => e = .returned (.int .i64 (lcp a.data.toList b.data.toList)) ∧ Drawn w w' := by
  have l1 := lcp_le_left a.data.toList b.data.toList
  have l2 := lcp_le_right a.data.toList b.data.toList
  go_enter Tryd.func33, Tryd.ntmps33
  go_wp2
  go_loopw [5] (fun i wr => ∃ k : Nat, k ≤ lcp a.data.toList b.data.toList ∧ i = .int .i64 k ∧ Drawn w wr) (fun i _ => a.size - (intOf i).toNat)
  case atStart => exact ⟨0, Nat.zero_le _, rfl, Drawn.refl _⟩
  case round =>
    obtain ⟨k, hk, rfl, hdr⟩ := hrel
    have hla : k ≤ a.size := by simpa using Nat.le_trans hk l1
    have hlb : k ≤ b.size := by simpa using Nat.le_trans hk l2
    by_cases h1 : k < a.size ∧ k < b.size
    · obtain ⟨ha', hb'⟩ := h1
      have hda : decide ((k : Int) < a.size) = true := by simp; omega
      have hdb : decide ((k : Int) < b.size) = true := by simp; omega
      by_cases h2 : a[k] = b[k]
      · have hs := lcp_step _ _ k (by simpa using ha') (by simpa using hb') hk (by simpa [ByteArray.getElem_eq_getElem_data] using h2)
        by_cases hm : b.size < a.size
        all_goals
          go_wp2
          go_quiet (fail)
          go_wp2
          go_roundw
          case rel => exact ⟨k + 1, hs, by go_num, hdr.more _⟩
          case measure => simp [intOf]; omega
      · have hs := lcp_stop _ _ k (by simpa using ha') (by simpa using hb') hk (by simpa [ByteArray.getElem_eq_getElem_data] using h2)
        have HS := Lib.hid hs
        clear hs
        have h3 : (((a[k].toNat : Nat) : Int) == ((b[k].toNat : Nat) : Int)) = false := by
          rw [beq_eq_false_iff_ne]; intro h; exact h2 (UInt8.toNat_inj.1 (by omega))
        by_cases hm : b.size < a.size
        all_goals
          go_wp2
          go_quiet (fail)
          go_wp2
          go_ret
          exact ⟨ret_int (by rw [HS.out]), hdr.more _⟩
    · have hs : lcp a.data.toList b.data.toList = k := by
        simp at l1 l2; omega
      have HS := Lib.hid hs
      clear hs
      by_cases hm : b.size < a.size
      · have hd : decide (k < b.size) = false := by simp; omega
        clear h1
        go_wp2
        go_quiet (fail)
        go_wp2
        go_ret
        exact ⟨ret_int (by rw [HS.out]), hdr.more _⟩
      · have hd : decide (k < a.size) = false := by simp; omega
        clear h1
        go_wp2
        go_quiet (fail)
        go_wp2
        go_ret
        exact ⟨ret_int (by rw [HS.out]), hdr.more _⟩


set_option maxHeartbeats 400000 in
theorem specSharedStart (a b : ByteArray) (w : World) (ha : a.size ≤ 1048576) (hb : b.size ≤ 1048576) :
    Calls Tryd.prog 35 #[.string a, .string b] w fun e w' => e = .returned (.int .i64 (lcp a.data.toList b.data.toList)) ∧ Drawn w w' := by
  have l1 := lcp_le_left a.data.toList b.data.toList
  have l2 := lcp_le_right a.data.toList b.data.toList
  go_enter Tryd.func35, Tryd.ntmps35
  go_wp2
  go_loopw [5] (fun i wr => ∃ k : Nat, k ≤ lcp a.data.toList b.data.toList ∧ i = .int .i64 k ∧ Drawn w wr) (fun i _ => a.size - (intOf i).toNat)
  case atStart => exact ⟨0, Nat.zero_le _, rfl, Drawn.refl _⟩
  case round =>
    obtain ⟨k, hk, rfl, hdr⟩ := hrel
    have hla : k ≤ a.size := by simpa using Nat.le_trans hk l1
    have hlb : k ≤ b.size := by simpa using Nat.le_trans hk l2
    by_cases h1 : k < a.size ∧ k < b.size
    · obtain ⟨ha', hb'⟩ := h1
      have hda : decide ((k : Int) < a.size) = true := by simp; omega
      have hdb : decide ((k : Int) < b.size) = true := by simp; omega
      by_cases h2 : a[k] = b[k]
      · have hs := lcp_step _ _ k (by simpa using ha') (by simpa using hb') hk (by simpa [ByteArray.getElem_eq_getElem_data] using h2)
        skip
        all_goals
          go_wp2
          go_quiet (fail)
          go_wp2
          go_roundw
          case rel => exact ⟨k + 1, hs, by go_num, hdr.more _⟩
          case measure => simp [intOf]; omega
      · have hs := lcp_stop _ _ k (by simpa using ha') (by simpa using hb') hk (by simpa [ByteArray.getElem_eq_getElem_data] using h2)
        have HS := Lib.hid hs
        clear hs
        have h3 : (((a[k].toNat : Nat) : Int) == ((b[k].toNat : Nat) : Int)) = false := by
          rw [beq_eq_false_iff_ne]; intro h; exact h2 (UInt8.toNat_inj.1 (by omega))
        skip
        all_goals
          go_wp2
          go_quiet (fail)
          go_wp2
          go_ret
          exact ⟨ret_int (by rw [HS.out]), hdr.more _⟩
    · have hs : lcp a.data.toList b.data.toList = k := by
        simp at l1 l2; omega
      have HS := Lib.hid hs
      clear hs
      by_cases hm : k < a.size
      · have hd : decide (k < b.size) = false := by simp; omega
        have hda : decide ((k : Int) < a.size) = true := by simp; omega
        clear h1
        go_wp2
        go_quiet (fail)
        go_wp2
        go_ret
        exact ⟨ret_int (by rw [HS.out]), hdr.more _⟩
      · have hd : decide (k < a.size) = false := by simp; omega
        clear h1
        go_wp2
        go_quiet (fail)
        go_wp2
        go_ret
        exact ⟨ret_int (by rw [HS.out]), hdr.more _⟩

end Go.Proofs.YtlcflddjbhlloaaDoor
