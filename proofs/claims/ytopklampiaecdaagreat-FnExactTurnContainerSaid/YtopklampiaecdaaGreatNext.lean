/-
  The contract of NextBlock, of the program: where the next block begins.
-/
import Derived.Test.YtopklampiaecdaaGreatContPlain
namespace Go.Proofs.YtopklampiaecdaaGreat
open Go.RowKit
set_option linter.unusedVariables false

theorem implParseYes (s : ByteArray) (k : Nat) (a : Int) (w : World) (hs : s.size ≤ 1048576) (ha : a = k) (h : pbOk s k) (num size n : Nat) (raw : Bool) (body : ByteArray) (hb : pbBlk s k = ⟨num, raw, size, body⟩) (hn : pbEnd s k + 2 = n) :
    Calls Tryz.prog 111 #[.string s, .int .i64 a] w fun e w' => e = .returned (.tuple #[.agg #[.int .i64 num, .bool raw, .int .i64 size, .string body], .int .i64 n, .bool true]) ∧ Below w.heap.size w w' := by
  refine (implParseBlock s a w hs).mono ?_
  rintro e w' ⟨rfl, h'⟩
  subst ha
  exact ⟨by rw [parse_yes h, hb, hn], h'⟩

theorem implParseNo (s : ByteArray) (k : Nat) (a : Int) (w : World) (hs : s.size ≤ 1048576) (ha : a = k) (h : ¬ pbOk s k) :
    Calls Tryz.prog 111 #[.string s, .int .i64 a] w fun e w' => e = .returned (.tuple #[.agg #[.int .i64 0, .bool false, .int .i64 0, .string ByteArray.empty], .int .i64 0, .bool false]) ∧ Below w.heap.size w w' := by
  refine (implParseBlock s a w hs).mono ?_
  rintro e w' ⟨rfl, h'⟩
  subst ha
  exact ⟨by rw [parse_no' h]; rfl, h'⟩

/-- Where the next block begins, or -1. -/
def nextB (s : ByteArray) (k : Nat) : Int := if k < s.size then if pbOk s k then k else nextB s (k + 1) else -1
termination_by s.size - k

theorem nextB_hit {s : ByteArray} {k : Nat} (h : pbOk s k) : nextB s k = k := by rw [nextB, if_pos (pbOk_lt h), if_pos h]

theorem nextB_miss {s : ByteArray} {k : Nat} (h0 : k < s.size) (h : ¬ pbOk s k) : nextB s k = nextB s (k + 1) := by rw [nextB, if_pos h0, if_neg h]

theorem nextB_end {s : ByteArray} {k : Nat} (h : s.size ≤ k) : nextB s k = -1 := by rw [nextB, if_neg (by omega)]

/-- What NextBlock returns. -/
def nextBlk (s : ByteArray) (a : Int) : Int := if s.size ≤ 8000 ∧ 0 ≤ a then nextB s a.toNat else -1

end Go.Proofs.YtopklampiaecdaaGreat
