/-
  The contract of the reference's NextBlock: it returns the same as the program's.
-/
import Derived.Test.YthfckbfllodcjaaParseSpec
import Derived.Test.YthfckbfllodcjaaNext
namespace Go.Proofs.Ythfckbfllodcjaa
open Go.RowKit
set_option linter.unusedVariables false

theorem specParseYes (s : ByteArray) (k : Nat) (a : Int) (w : World) (hs : s.size ≤ 1048576) (ha : a = k) (h : pbOk s k) (num size n : Nat) (raw : Bool) (body : ByteArray) (hb : pbBlk s k = ⟨num, raw, size, body⟩) (hn : pbEnd s k + 2 = n) :
    Calls Try.prog 35 #[.string s, .int .i64 a] w fun e w' => e = .returned (.tuple #[.agg #[.int .i64 num, .bool raw, .int .i64 size, .string body], .int .i64 n, .bool true]) ∧ Below w.heap.size w w' := by
  refine (specParseBlock s a w hs).mono ?_
  rintro e w' ⟨rfl, h'⟩
  subst ha
  exact ⟨by rw [parse_yes h, hb, hn], h'⟩

theorem specParseNo (s : ByteArray) (k : Nat) (a : Int) (w : World) (hs : s.size ≤ 1048576) (ha : a = k) (h : ¬ pbOk s k) :
    Calls Try.prog 35 #[.string s, .int .i64 a] w fun e w' => e = .returned (.tuple #[.agg #[.int .i64 0, .bool false, .int .i64 0, .string ByteArray.empty], .int .i64 0, .bool false]) ∧ Below w.heap.size w w' := by
  refine (specParseBlock s a w hs).mono ?_
  rintro e w' ⟨rfl, h'⟩
  subst ha
  exact ⟨by rw [parse_no' h]; rfl, h'⟩

end Go.Proofs.Ythfckbfllodcjaa
