/-
  The reference's l1Code: a code's bits.
-/
import Derived.Test.YthfckbfllodcjaaWordsC
import Derived.Test.YthfckbfllodcjaaBlockSmall
namespace Go.Proofs.Ythfckbfllodcjaa
open Go.RowKit
set_option linter.unusedVariables false

/-- Bit i of a code as a digit. -/
def bitC (c i : Nat) : UInt8 := UInt8.ofNat (48 + c / 2 ^ i % 2)

/-- The bits of a code with a width, in an order. -/
def codeL (o c w : Nat) : List UInt8 := if o = 0 then (List.range w).map (bitC c) else ((List.range w).map (bitC c)).reverse

theorem codeL_length (o c w : Nat) : (codeL o c w).length = w := by unfold codeL; split <;> simp

theorem codeL_zero (o c : Nat) : codeL o c 0 = [] := by unfold codeL; split <;> simp

theorem codeL_succ (o c w : Nat) : codeL o c (w + 1) = if o = 0 then codeL o c w ++ [bitC c w] else bitC c w :: codeL o c w := by
  unfold codeL
  split
  · rw [range_snoc]
  · rw [range_snoc, List.reverse_append]; rfl

set_option maxHeartbeats 4000000 in
theorem specL1Code (o c wd : Nat) (w : World) (hc : c ≤ 100000) (hw : wd ≤ 20) (ho : o ≤ 1) :
    Calls Try.prog 83 #[.int .i64 (o : Int), .int .i64 (c : Int), .int .i64 (wd : Int)] w fun e w' => e = .returned (.string (bsL (codeL o c wd))) ∧ Below w.heap.size w w' := by
  go_enter Try.func83, Try.ntmps83
  go_wp2_with fail
  go_loopw [7, 8] (fun u v wr => ∃ i : Nat, u = .string (bsL (codeL o c i)) ∧ v = .int .i64 (i : Int) ∧ i ≤ wd ∧ Below w.heap.size w wr) (fun _ v _ => wd - (intOf v).toNat)
  case atStart => exact ⟨0, by rw [codeL_zero], rfl, Nat.zero_le _, Below.refl _ _⟩
  case round =>
    obtain ⟨i, rfl, rfl, hi, hb⟩ := hrel
    by_cases h1 : (i : Int) < wd
    · have i0 : (0 : Int) ≤ i := by omega
      obtain ⟨q, hq⟩ : ∃ q, c / 2 ^ i = q := ⟨_, rfl⟩
      have hqi : (c : Int) / 2 ^ i = (q : Int) := by rw [← hq]; simp
      have hqc : q ≤ c := by rw [← hq]; exact Nat.div_le_self _ _
      obtain ⟨r, hr⟩ : ∃ r, q % 2 = r := ⟨_, rfl⟩
      have hr2 : r < 2 := by omega
      have hand : bits .and .i64 (q : Int) 1 = (r : Int) := by
        have := i64_and_nat q 1 (by omega) (by omega)
        rw [Nat.and_one_is_mod, hr] at this
        exact this
      obtain ⟨x, hx⟩ : ∃ x : Nat, (48 : Int) + r = x := ⟨48 + r, by omega⟩
      have hxc : UInt8.ofNat x = bitC c i := by unfold bitC; rw [hq, hr]; congr 1; omega
      have hx2 : x < 256 := by omega
      have wu : IntKind.u64.wrap (i : Int) = i := by
        have : i < 256 := by omega
        have h : ∀ y : Fin 256, IntKind.u64.wrap ((y.val : Nat) : Int) = ((y.val : Nat) : Int) := by decide +kernel
        exact h ⟨i, this⟩
      have wx : IntKind.u8.wrap (x : Int) = x := u8_in x hx2
      have wx2 : IntKind.i64.wrap (x : Int) = x := IntWalk.i64_in _ (by omega)
      have hcv := run_one_byte (P := Try.prog) Try.underlying22 Try.underlying5 Try.underlying9 x hx2
      have hxc2 : (⟨#[UInt8.ofNat x]⟩ : ByteArray) = bsL [bitC c i] := by rw [hxc]
      rw [hxc2] at hcv
      replace hxc := Lib.hid hxc
      have hlen := codeL_length o c i
      have hsucc := codeL_succ o c i
      obtain ⟨L, hL⟩ : ∃ L, codeL o c i = L := ⟨_, rfl⟩
      rw [hL] at hlen hsucc ⊢
      clear hq hr hL hqc hr2 hxc2
      by_cases h0 : o = 0
      · rw [if_pos h0] at hsucc
        have hadd : ∀ W, (Op.stringOp .add (bsL L) (bsL [bitC c i])).run Try.prog W = .ok (.string (bsL (L ++ [bitC c i]))) W := fun W => by
          rw [run_string_add_sum W _ _ (by rw [bsL_size, bsL_size, hlen]; simp; omega), bsL_append]
        obtain ⟨T, hT⟩ : ∃ T, bsL [bitC c i] = T := ⟨_, rfl⟩
        rw [hT] at hadd hcv
        replace hsucc := Lib.hid hsucc
        subst h0
        clear hT
        go_wp2_with fail
        go_roundw
        case rel => exact ⟨i + 1, by rw [hsucc.out], by go_num, by omega, hb.alloc hb.size _⟩
        case measure => simp [intOf]; omega
      · have h0' : ((o : Int) == 0) = false := by rw [beq_eq_false_iff_ne]; omega
        rw [if_neg h0] at hsucc
        have hadd : ∀ W, (Op.stringOp .add (bsL [bitC c i]) (bsL L)).run Try.prog W = .ok (.string (bsL (bitC c i :: L))) W := fun W => by
          rw [run_string_add_sum W _ _ (by rw [bsL_size, bsL_size, hlen]; simp; omega), bsL_append]; rfl
        obtain ⟨T, hT⟩ : ∃ T, bsL [bitC c i] = T := ⟨_, rfl⟩
        rw [hT] at hadd hcv
        replace hsucc := Lib.hid hsucc
        clear hT h0
        go_wp2_with fail
        go_roundw
        case rel => exact ⟨i + 1, by rw [hsucc.out], by go_num, by omega, hb.alloc hb.size _⟩
        case measure => simp [intOf]; omega
    · obtain rfl : i = wd := by omega
      go_wp2_with fail
      go_ret
      exact ⟨rfl, hb⟩

end Go.Proofs.Ythfckbfllodcjaa
