/-
  Small contracts that many functions use: spec.l7Most, spec.l1In, a string of one byte.
-/
import Derived.Test.YthfckbfllodcjaaBase
import Derived.BigRegion
namespace Go.Proofs.Ythfckbfllodcjaa
open Go.RowKit
set_option linter.unusedVariables false

theorem btrue {p : Prop} (h : p) : (true = true ↔ p) := ⟨fun _ => h, fun _ => rfl⟩
theorem bfalse {p : Prop} (h : ¬ p) : (false = true ↔ p) := ⟨(fun e => by cases e), fun e => absurd e h⟩

theorem specL1In (n low high : Int) (b : Bool) (w : World) (hb : b = true ↔ low ≤ n ∧ n ≤ high) :
    Calls Try.prog 26 #[.int .i64 n, .int .i64 low, .int .i64 high] w fun e w' => e = .returned (.bool b) ∧ w = w' := by
  go_enter Try.func26, Try.ntmps26
  go_wp2
  all_goals go_ret
  all_goals refine ⟨ret_bool ?_, rfl⟩
  all_goals rw [Bool.eq_iff_iff, hb]; simp; try omega

/-- 'string([]byte{x})': a slice of one byte as a string. -/
theorem run_one_byte {P : Program} {src dst e : TypeId} (hs : P.underlying src = some (.slice e)) (he : P.underlying e = some (.int .u8)) (hd : P.underlying dst = some .string) (x : Nat) (hx : x < 256)
    (W : World) (a : Addr) (hc : W.cell? a = some (.int .u8 (x : Int))) : (convert src dst (.slice (some a) 1 1)).run P W = .ok (.string ⟨#[UInt8.ofNat x]⟩) W := by
  have := run_convert_bytes_back (P := P) W src dst e a 1 [UInt8.ofNat x] hs he hd (fun j hj => by
    have : j = 0 := by simpa using hj
    subst this
    simp [Addr.add, hc, Nat.mod_eq_of_lt hx])
  simpa using this

theorem ret_sb {a : ByteArray} {b : Bool} {o : ByteArray × Bool} (h : o = (a, b)) : Ending.returned (.tuple #[.string a, .bool b]) = .returned (.tuple #[.string o.1, .bool o.2]) := by rw [h]

end Go.Proofs.Ythfckbfllodcjaa
