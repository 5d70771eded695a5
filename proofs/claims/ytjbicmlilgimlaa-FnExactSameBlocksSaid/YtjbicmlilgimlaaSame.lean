/-
  The contracts of sameBlock and l6Equal: whether two blocks differ at most in their numbers.
-/
import Derived.Test.YtjbicmlilgimlaaCont
namespace Go.Proofs.Ytjbicmlilgimlaa
open Go.RowKit
set_option linter.unusedVariables false

/-- Two blocks differ at most in their numbers. -/
def SameB (a b : Blk) : Prop := a.raw = b.raw ∧ a.size = b.size ∧ a.body = b.body

instance (a b : Blk) : Decidable (SameB a b) := by unfold SameB; infer_instance

theorem toList_inj {a b : ByteArray} : a.toList = b.toList ↔ a = b := ⟨ba_toList, fun h => by rw [h]⟩

set_option maxHeartbeats 400000 in
theorem implSameBlock (n1 z1 n2 z2 : Nat) (r1 r2 : Bool) (b1 b2 : ByteArray) (r : Bool) (w : World) (hr : r = true ↔ SameB ⟨n1, r1, z1, b1⟩ ⟨n2, r2, z2, b2⟩) :
    Calls Try.prog 73 #[.agg #[.int .i64 n1, .bool r1, .int .i64 z1, .string b1], .agg #[.int .i64 n2, .bool r2, .int .i64 z2, .string b2]] w fun e w' => e = .returned (.bool r) ∧ Below w.heap.size w w' := by
  have HR := Lib.hid hr
  clear hr
  go_enter Try.func73, Try.ntmps73
  go_wp2
  all_goals go_ret
  all_goals refine ⟨ret_bool ?_, by go_grown⟩
  all_goals rw [Bool.eq_iff_iff, HR.out]
  all_goals simp_all [SameB, toList_inj]
  all_goals try omega

set_option maxHeartbeats 400000 in
theorem specL6Equal (n1 z1 n2 z2 : Nat) (r1 r2 : Bool) (b1 b2 : ByteArray) (r : Bool) (w : World) (hr : r = true ↔ SameB ⟨n1, r1, z1, b1⟩ ⟨n2, r2, z2, b2⟩) :
    Calls Try.prog 71 #[.agg #[.int .i64 n1, .bool r1, .int .i64 z1, .string b1], .agg #[.int .i64 n2, .bool r2, .int .i64 z2, .string b2]] w fun e w' => e = .returned (.bool r) ∧ Below w.heap.size w w' := by
  have HR := Lib.hid hr
  clear hr
  go_enter Try.func71, Try.ntmps71
  go_wp2
  all_goals go_ret
  all_goals refine ⟨ret_bool ?_, by go_grown⟩
  all_goals rw [Bool.eq_iff_iff, HR.out]
  all_goals simp_all [SameB, toList_inj]
  all_goals try omega

end Go.Proofs.Ytjbicmlilgimlaa
