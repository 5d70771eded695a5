/-
  The contract of NextBlock, of the program: where the next block begins.
-/
import Derived.Test.YtcafejahdiedpaaContPlain
namespace Go.Proofs.Ytcafejahdiedpaa
open Go.RowKit
set_option linter.unusedVariables false

theorem implParseYes (s : ByteArray) (k : Nat) (a : Int) (w : World) (hs : s.size ≤ 1048576) (ha : a = k) (h : pbOk s k) (num size n : Nat) (raw : Bool) (body : ByteArray) (hb : pbBlk s k = ⟨num, raw, size, body⟩) (hn : pbEnd s k + 2 = n) :
    Calls Try.prog 50 #[.string s, .int .i64 a] w fun e w' => e = .returned (.tuple #[.agg #[.int .i64 num, .bool raw, .int .i64 size, .string body], .int .i64 n, .bool true]) ∧ Below w.heap.size w w' := by
  refine (implParseBlock s a w hs).mono ?_
  rintro e w' ⟨rfl, h'⟩
  subst ha
  exact ⟨by rw [parse_yes h, hb, hn], h'⟩

theorem implParseNo (s : ByteArray) (k : Nat) (a : Int) (w : World) (hs : s.size ≤ 1048576) (ha : a = k) (h : ¬ pbOk s k) :
    Calls Try.prog 50 #[.string s, .int .i64 a] w fun e w' => e = .returned (.tuple #[.agg #[.int .i64 0, .bool false, .int .i64 0, .string ByteArray.empty], .int .i64 0, .bool false]) ∧ Below w.heap.size w w' := by
  refine (implParseBlock s a w hs).mono ?_
  rintro e w' ⟨rfl, h'⟩
  subst ha
  exact ⟨by rw [parse_no' h]; rfl, h'⟩

/-- Where the next block begins, or -1. -/
def nextB (s : ByteArray) (k : Nat) : Int := if k < s.size then if pbOk s k then k else nextB s (k + 1) else -1
termination_by s.size - k

theorem nextB_hit {s : ByteArray} {k : Nat} (h : pbOk s k) : nextB s k = k := by rw [nextB, if_pos (pbOk_lt h), if_pos h]

theorem nextB_miss {s : ByteArray} {k : Nat} (h0 : k < s.size) (h : ¬ pbOk s k) : nextB s k = nextB s (k + 1) := by rw [nextB, if_pos h0, if_neg h]

theorem nextB_end {s : ByteArray} {k : Nat} (h : s.size ≤ k) : nextB s k = -1 := by rw [nextB, if_neg (by omega)]

/-- What NextBlock returns. -/
def nextBlk (s : ByteArray) (a : Int) : Int := if s.size ≤ 8000 ∧ 0 ≤ a then nextB s a.toNat else -1

set_option maxHeartbeats 1000000 in
theorem implNextBlock (s : ByteArray) (a : Int) (w : World) (hs : s.size ≤ 1048576) (ha : a ≤ 9223372036854775807) :
    Calls Try.prog 49 #[.string s, .int .i64 a] w fun e w' => e = .returned (.int .i64 (nextBlk s a)) ∧ Below w.heap.size w w' := by
  by_cases h0 : s.size ≤ 8000 ∧ 0 ≤ a
  · have hR : nextBlk s a = nextB s a.toNat := if_pos h0
    obtain ⟨h1, h2⟩ := h0
    obtain ⟨k0, rfl⟩ := Int.eq_ofNat_of_zero_le h2
    obtain ⟨R, hR'⟩ : ∃ R, nextB s k0 = R := ⟨_, rfl⟩
    rw [Int.toNat_natCast, hR'] at hR
    rw [hR]
    clear hR
    have HR := Lib.hid hR'
    clear hR' h2
    go_enter Try.func49, Try.ntmps49
    go_wp2_with fail
    go_loopw [1] (fun i wr => ∃ k : Nat, i = .int .i64 k ∧ Hid (nextB s k = R) ∧ Below w.heap.size w wr) (fun i _ => s.size - (intOf i).toNat)
    case atStart => exact ⟨k0, rfl, HR, Below.refl _ _⟩
    case round =>
      obtain ⟨k, rfl, HK, hbel⟩ := hrel
      have hwz := hbel.size
      by_cases hk : k < s.size
      · by_cases hp : pbOk s k
        · obtain ⟨⟨num, raw, size, body⟩, hb⟩ : ∃ b, pbBlk s k = b := ⟨_, rfl⟩
          obtain ⟨n, hn⟩ : ∃ n, pbEnd s k + 2 = n := ⟨_, rfl⟩
          have hv : R = k := by rw [← HK.out]; exact nextB_hit hp
          have HV := Lib.hid hv
          have HP := fun W => implParseYes s k k W hs rfl hp num size n raw body hb hn
          have HP := Lib.hid HP
          clear hv hb hn hp
          go_wp2_with fail
          refine (HP.out _).mono ?_
          rintro e w1 ⟨rfl, hb1⟩
          go_wp2_with fail
          go_ret
          exact ⟨ret_int HV.out.symm, (hbel.trans (hb1.mono hwz)).alloc (by have := hb1.size; omega) _⟩
        · have hv := nextB_miss hk hp
          have HV := Lib.hid hv
          have HP := Lib.hid (fun W => implParseNo s k k W hs rfl hp)
          clear hv hp
          go_wp2_with fail
          refine (HP.out _).mono ?_
          rintro e w1 ⟨rfl, hb1⟩
          go_wp2_with fail
          go_roundw
          case rel => exact ⟨k + 1, by go_num, by rw [← HV.out]; exact HK, (hbel.trans (hb1.mono hwz)).alloc (by have := hb1.size; omega) _⟩
          case measure => simp [intOf]; omega
      · have hv : R = -1 := by rw [← HK.out]; exact nextB_end (by omega)
        have HV := Lib.hid hv
        clear hv
        go_wp2_with fail
        go_ret
        exact ⟨ret_int HV.out.symm, hbel⟩
  · have hR : nextBlk s a = -1 := if_neg h0
    rw [hR]
    clear hR
    go_enter Try.func49, Try.ntmps49
    by_cases h1 : s.size ≤ 8000
    · have h2 : a < 0 := by omega
      clear h0
      go_wp2_with fail
      go_ret
      exact ⟨rfl, Below.refl _ _⟩
    · clear h0
      go_wp2_with fail
      go_ret
      exact ⟨rfl, Below.refl _ _⟩

end Go.Proofs.Ytcafejahdiedpaa
