/-
  The contracts of SharedEnd: the program's and the reference's both return the length of the longest common suffix.
-/
import Derived.Test.YtlcflddjbhlloaaDoorSharedStart
namespace Go.Proofs.YtlcflddjbhlloaaDoor
open Go.RowKit
set_option linter.unusedVariables false

set_option maxHeartbeats 400000 in
theorem implSharedEnd (a b : ByteArray) (w : World) (ha : a.size ≤ 1048576) (hb : b.size ≤ 1048576) :
    Calls Tryd.prog 34 #[.string a, .string b] w fun e w' => e = .returned (.int .i64 (lcp a.data.toList.reverse b.data.toList.reverse)) ∧ Drawn w w' := by
  have l1 := lcp_le_left a.data.toList.reverse b.data.toList.reverse
  have l2 := lcp_le_right a.data.toList.reverse b.data.toList.reverse
  go_enter Tryd.func34, Tryd.ntmps34
  go_wp2
  go_loopw [5] (fun i wr => ∃ k : Nat, k ≤ lcp a.data.toList.reverse b.data.toList.reverse ∧ i = .int .i64 k ∧ Drawn w wr) (fun i _ => a.size - (intOf i).toNat)
  case atStart => exact ⟨0, Nat.zero_le _, rfl, Drawn.refl _⟩
  case round =>
    obtain ⟨k, hk, rfl, hdr⟩ := hrel
    have hla : k ≤ a.size := by simpa using Nat.le_trans hk l1
    have hlb : k ≤ b.size := by simpa using Nat.le_trans hk l2
    by_cases h1 : k < a.size ∧ k < b.size
    · obtain ⟨ha', hb'⟩ := h1
      have hda : decide ((k : Int) < a.size) = true := by simp; omega
      have hdb : decide ((k : Int) < b.size) = true := by simp; omega
      obtain ⟨i, hi⟩ : ∃ i, i = a.size - 1 - k := ⟨_, rfl⟩
      obtain ⟨j, hj⟩ : ∃ j, j = b.size - 1 - k := ⟨_, rfl⟩
      have hil : i < a.size := by omega
      have hjl : j < b.size := by omega
      by_cases h2 : a[i] = b[j]
      · have hs := lcp_step _ _ k (by simpa using ha') (by simpa using hb') hk (by subst hi hj; simpa [ByteArray.getElem_eq_getElem_data, List.getElem_reverse] using h2)
        have ea1 : IntKind.i64.wrap (↑a.size - 1) = ↑a.size - 1 := IntWalk.i64_in _ (by omega)
        have ea2 : IntKind.i64.wrap (↑a.size - 1 - ↑k) = (i : Int) := by rw [IntWalk.i64_in _ (by omega)]; omega
        have eb1 : IntKind.i64.wrap (↑b.size - 1) = ↑b.size - 1 := IntWalk.i64_in _ (by omega)
        have eb2 : IntKind.i64.wrap (↑b.size - 1 - ↑k) = (j : Int) := by rw [IntWalk.i64_in _ (by omega)]; omega
        clear hi hj
        by_cases hm : b.size < a.size
        all_goals
          go_wp2
          go_quiet (fail)
          clear ea1 ea2 eb1 eb2
          go_wp2
          go_roundw
          case rel => exact ⟨k + 1, hs, by go_num, hdr.more _⟩
          case measure => simp [intOf]; omega
      · have hs := lcp_stop _ _ k (by simpa using ha') (by simpa using hb') hk (by subst hi hj; simpa [ByteArray.getElem_eq_getElem_data, List.getElem_reverse] using h2)
        have HS := Lib.hid hs
        clear hs
        have h3 : (((a[i].toNat : Nat) : Int) == ((b[j].toNat : Nat) : Int)) = false := by
          rw [beq_eq_false_iff_ne]; intro h; exact h2 (UInt8.toNat_inj.1 (by omega))
        have ea1 : IntKind.i64.wrap (↑a.size - 1) = ↑a.size - 1 := IntWalk.i64_in _ (by omega)
        have ea2 : IntKind.i64.wrap (↑a.size - 1 - ↑k) = (i : Int) := by rw [IntWalk.i64_in _ (by omega)]; omega
        have eb1 : IntKind.i64.wrap (↑b.size - 1) = ↑b.size - 1 := IntWalk.i64_in _ (by omega)
        have eb2 : IntKind.i64.wrap (↑b.size - 1 - ↑k) = (j : Int) := by rw [IntWalk.i64_in _ (by omega)]; omega
        clear hi hj
        by_cases hm : b.size < a.size
        all_goals
          go_wp2
          go_quiet (fail)
          clear ea1 ea2 eb1 eb2
          go_wp2
          go_ret
          exact ⟨ret_int (by rw [HS.out]), hdr.more _⟩
    · have hs : lcp a.data.toList.reverse b.data.toList.reverse = k := by
        simp at l1 l2; omega
      have HS := Lib.hid hs
      clear hs
      by_cases hm : b.size < a.size
      · have hd : decide (k < b.size) = false := by simp; omega
        clear h1
        go_wp2
        go_quiet (fail)
        go_wp2
        go_ret
        exact ⟨ret_int (by rw [HS.out]), hdr.more _⟩
      · have hd : decide (k < a.size) = false := by simp; omega
        clear h1
        go_wp2
        go_quiet (fail)
        go_wp2
        go_ret
        exact ⟨ret_int (by rw [HS.out]), hdr.more _⟩


set_option maxHeartbeats 400000 in
theorem specSharedEnd (a b : ByteArray) (w : World) (ha : a.size ≤ 1048576) (hb : b.size ≤ 1048576) :
    Calls Tryd.prog 36 #[.string a, .string b] w fun e w' => e = .returned (.int .i64 (lcp a.data.toList.reverse b.data.toList.reverse)) ∧ Drawn w w' := by
  have l1 := lcp_le_left a.data.toList.reverse b.data.toList.reverse
  have l2 := lcp_le_right a.data.toList.reverse b.data.toList.reverse
  go_enter Tryd.func36, Tryd.ntmps36
  go_wp2
  go_loopw [5] (fun i wr => ∃ k : Nat, k ≤ lcp a.data.toList.reverse b.data.toList.reverse ∧ i = .int .i64 k ∧ Drawn w wr) (fun i _ => a.size - (intOf i).toNat)
  case atStart => exact ⟨0, Nat.zero_le _, rfl, Drawn.refl _⟩
  case round =>
    obtain ⟨k, hk, rfl, hdr⟩ := hrel
    have hla : k ≤ a.size := by simpa using Nat.le_trans hk l1
    have hlb : k ≤ b.size := by simpa using Nat.le_trans hk l2
    by_cases h1 : k < a.size ∧ k < b.size
    · obtain ⟨ha', hb'⟩ := h1
      have hda : decide ((k : Int) < a.size) = true := by simp; omega
      have hdb : decide ((k : Int) < b.size) = true := by simp; omega
      obtain ⟨i, hi⟩ : ∃ i, i = a.size - 1 - k := ⟨_, rfl⟩
      obtain ⟨j, hj⟩ : ∃ j, j = b.size - 1 - k := ⟨_, rfl⟩
      have hil : i < a.size := by omega
      have hjl : j < b.size := by omega
      by_cases h2 : a[i] = b[j]
      · have hs := lcp_step _ _ k (by simpa using ha') (by simpa using hb') hk (by subst hi hj; simpa [ByteArray.getElem_eq_getElem_data, List.getElem_reverse] using h2)
        have ea1 : IntKind.i64.wrap (↑a.size - 1) = ↑a.size - 1 := IntWalk.i64_in _ (by omega)
        have ea2 : IntKind.i64.wrap (↑a.size - 1 - ↑k) = (i : Int) := by rw [IntWalk.i64_in _ (by omega)]; omega
        have eb1 : IntKind.i64.wrap (↑b.size - 1) = ↑b.size - 1 := IntWalk.i64_in _ (by omega)
        have eb2 : IntKind.i64.wrap (↑b.size - 1 - ↑k) = (j : Int) := by rw [IntWalk.i64_in _ (by omega)]; omega
        clear hi hj
        skip
        all_goals
          go_wp2
          go_quiet (fail)
          clear ea1 ea2 eb1 eb2
          go_wp2
          go_roundw
          case rel => exact ⟨k + 1, hs, by go_num, hdr.more _⟩
          case measure => simp [intOf]; omega
      · have hs := lcp_stop _ _ k (by simpa using ha') (by simpa using hb') hk (by subst hi hj; simpa [ByteArray.getElem_eq_getElem_data, List.getElem_reverse] using h2)
        have HS := Lib.hid hs
        clear hs
        have h3 : (((a[i].toNat : Nat) : Int) == ((b[j].toNat : Nat) : Int)) = false := by
          rw [beq_eq_false_iff_ne]; intro h; exact h2 (UInt8.toNat_inj.1 (by omega))
        have ea1 : IntKind.i64.wrap (↑a.size - 1) = ↑a.size - 1 := IntWalk.i64_in _ (by omega)
        have ea2 : IntKind.i64.wrap (↑a.size - 1 - ↑k) = (i : Int) := by rw [IntWalk.i64_in _ (by omega)]; omega
        have eb1 : IntKind.i64.wrap (↑b.size - 1) = ↑b.size - 1 := IntWalk.i64_in _ (by omega)
        have eb2 : IntKind.i64.wrap (↑b.size - 1 - ↑k) = (j : Int) := by rw [IntWalk.i64_in _ (by omega)]; omega
        clear hi hj
        skip
        all_goals
          go_wp2
          go_quiet (fail)
          clear ea1 ea2 eb1 eb2
          go_wp2
          go_ret
          exact ⟨ret_int (by rw [HS.out]), hdr.more _⟩
    · have hs : lcp a.data.toList.reverse b.data.toList.reverse = k := by
        simp at l1 l2; omega
      have HS := Lib.hid hs
      clear hs
      by_cases hm : k < a.size
      · have hd : decide (k < b.size) = false := by simp; omega
        have hda : decide ((k : Int) < a.size) = true := by simp; omega
        clear h1
        go_wp2
        go_quiet (fail)
        go_wp2
        go_ret
        exact ⟨ret_int (by rw [HS.out]), hdr.more _⟩
      · have hd : decide (k < a.size) = false := by simp; omega
        clear h1
        go_wp2
        go_quiet (fail)
        go_wp2
        go_ret
        exact ⟨ret_int (by rw [HS.out]), hdr.more _⟩

end Go.Proofs.YtlcflddjbhlloaaDoor
