/-
  The contracts of the small functions on patches: patchFits, ApplyPatch, InvertPatch, and those of the reference and of the law's own helpers.
-/
import Derived.Test.YtopklampiaecdaaGreatBase
import Derived.Handy
namespace Go.Proofs.YtopklampiaecdaaGreat
open Go.RowKit
set_option linter.unusedVariables false

/-- That a patch can be applied to data of a size. -/
def pfits (n : Nat) (f t : Int) (d : Nat) : Prop := n ≤ 2000 ∧ 0 ≤ f ∧ f ≤ t ∧ t ≤ n ∧ d ≤ 2000 ∧ n - (t - f) + d ≤ 2000

instance (n : Nat) (f t : Int) (d : Nat) : Decidable (pfits n f t d) := by unfold pfits; infer_instance

theorem lawsSzPatch (f t : Int) (d : ByteArray) (l : Int) (w : World) (hd : d.size ≤ 9223372036854775807) (h1 : 0 ≤ l) (h2 : l ≤ 1048576) :
    Calls Tryz.prog 32 #[.agg #[.int .i64 f, .int .i64 t, .string d], .int .i64 l] w fun e w' => e = .returned (.int .i64 (if l < d.size then -1 else l - d.size)) ∧ Below w.heap.size w w' := by
  by_cases h : l < d.size
  all_goals go_enter Tryz.func32, Tryz.ntmps32
  all_goals go_wp2
  all_goals go_ret
  all_goals refine ⟨ret_int ?_, (Below.refl _ _).alloc (Nat.le_refl _) _⟩
  all_goals simp; try omega

theorem lawsToPatch (f t : Int) (d : ByteArray) (w : World) :
    Calls Tryz.prog 34 #[.agg #[.int .i64 f, .int .i64 t, .string d]] w fun e w' => e = .returned (.agg #[.int .i64 f, .int .i64 t, .string d]) ∧ Below w.heap.size w w' := by
  go_enter Tryz.func34, Tryz.ntmps34
  go_wp2
  go_returns
  refine ⟨rfl, ?_⟩
  go_grown

/-- What ApplyPatch returns. -/
def apl (s : ByteArray) (f t : Int) (d : ByteArray) : ByteArray × Bool :=
  if pfits s.size f t d.size then (s.extract 0 f.toNat ++ d ++ s.extract t.toNat s.size, true) else (ByteArray.empty, false)

theorem apl_yes {s : ByteArray} {i j : Nat} {d : ByteArray} (h : pfits s.size i j d.size) : apl s i j d = (s.extract 0 i ++ d ++ s.extract j s.size, true) := by
  unfold apl; rw [if_pos h]; simp

theorem apl_no {s : ByteArray} {f t : Int} {d : ByteArray} (h : ¬ pfits s.size f t d.size) : apl s f t d = (ByteArray.empty, false) := by
  unfold apl; rw [if_neg h]

/-- A patch, and whether there is one. -/
structure PB where
  f : Int
  t : Int
  d : ByteArray
  ok : Bool

/-- What InvertPatch returns. -/
def inv (s : ByteArray) (f t : Int) (d : ByteArray) : PB :=
  if pfits s.size f t d.size then ⟨f, f + d.size, s.extract f.toNat t.toNat, true⟩ else ⟨0, 0, ByteArray.empty, false⟩

theorem inv_yes {s : ByteArray} {i j : Nat} {d : ByteArray} (h : pfits s.size i j d.size) : inv s i j d = ⟨i, i + d.size, s.extract i j, true⟩ := by
  unfold inv; rw [if_pos h]; simp

theorem inv_no {s : ByteArray} {f t : Int} {d : ByteArray} (h : ¬ pfits s.size f t d.size) : inv s f t d = ⟨0, 0, ByteArray.empty, false⟩ := by
  unfold inv; rw [if_neg h]

/-- A patch and a truth, as a function's two results. -/
def PB.val (p : PB) : Value := .tuple #[.agg #[.int .i64 p.f, .int .i64 p.t, .string p.d], .bool p.ok]

theorem ret_pb {f t : Int} {d : ByteArray} {b : Bool} {o : PB} (h : o = ⟨f, t, d, b⟩) : Ending.returned (.tuple #[.agg #[.int .i64 f, .int .i64 t, .string d], .bool b]) = .returned o.val := by rw [h]; rfl

end Go.Proofs.YtopklampiaecdaaGreat
