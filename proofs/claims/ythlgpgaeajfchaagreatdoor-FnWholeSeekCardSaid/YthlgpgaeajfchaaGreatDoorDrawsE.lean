/-
  The reference's draws of the edits' arguments.
-/
import Derived.Test.YthlgpgaeajfchaaGreatDoorDrawCont
namespace Go.Proofs.YthlgpgaeajfchaaGreatDoor
open Go.RowKit
set_option linter.unusedVariables false
set_option linter.unusedSimpArgs false
set_option maxRecDepth 100000

theorem ByteRow.below2 {w w' : World} {A : Option Addr} {n : Nat} {bs : List UInt8} (h : ByteRow w A n bs) (hb : Below w.heap.size w w') : ByteRow w' A n bs :=
  ⟨h.le, h.len, (h.row.below hb (Nat.le_refl _)).more hb.size⟩

theorem below_set3 {w0 w : World} {B H : Nat} (h : Below B w0 w) (hH : B ≤ H) (a b c : Value) : Below B w0 (((w.setCell ⟨H, 0, none⟩ a).setCell ⟨H, 1, none⟩ b).setCell ⟨H, 2, none⟩ c) :=
  ((h.setCell (p := ⟨H, 0, none⟩) hH a).setCell (p := ⟨H, 1, none⟩) hH b).setCell (p := ⟨H, 2, none⟩) hH c

theorem KBn.drew1 {w : World} {H : Nat} {vs : List Value} (h : KBn w H vs) : KBn w.drew H vs := h.below ((Below.refl _ _).drew)

/-- A drawn setting and two strings. -/
def SetSS (w : World) (e : Ending) (w' : World) : Prop := ∃ (o l m : Int) (d s : ByteArray), e = .returned (.tuple #[.agg #[.int .i64 o, .int .i64 l, .int .i64 m], .string d, .string s]) ∧ d.size ≤ 1000 ∧ s.size ≤ 10000 ∧ Below w.heap.size w w'

/-- A drawn setting, two strings and a number. -/
def SetSSI (w : World) (e : Ending) (w' : World) : Prop := ∃ (o l m : Int) (d s : ByteArray) (z : Int), e = .returned (.tuple #[.agg #[.int .i64 o, .int .i64 l, .int .i64 m], .string d, .string s, .int .i64 z]) ∧ d.size ≤ 1000 ∧ s.size ≤ 10000 ∧ (-9223372036854775808 ≤ z ∧ z ≤ 9223372036854775807) ∧ Below w.heap.size w w'

/-- What MakeContainer's draw returns. -/
def SetMk (w : World) (e : Ending) (w' : World) : Prop := ∃ (o l m : Int) (d s : ByteArray) (z : Int), e = .returned (.tuple #[.agg #[.int .i64 o, .int .i64 l, .int .i64 m], .string d, .string s, .int .i64 z]) ∧ d.size ≤ 1000 ∧ s.size ≤ 600 ∧ (-9223372036854775808 ≤ z ∧ z ≤ 9223372036854775807) ∧ Below w.heap.size w w'

/-- A drawn setting, three strings and a number. -/
def SetSSSI (w : World) (e : Ending) (w' : World) : Prop := ∃ (o l m : Int) (d s t : ByteArray) (z : Int), e = .returned (.tuple #[.agg #[.int .i64 o, .int .i64 l, .int .i64 m], .string d, .string s, .string t, .int .i64 z]) ∧ d.size ≤ 1000 ∧ s.size ≤ 10000 ∧ t.size ≤ 10000 ∧ (-9223372036854775808 ≤ z ∧ z ≤ 9223372036854775807) ∧ Below w.heap.size w w'

/-- A drawn setting, two strings and two numbers. -/
def SetSSII (w : World) (e : Ending) (w' : World) : Prop := ∃ (o l m : Int) (d s : ByteArray) (a b : Int), e = .returned (.tuple #[.agg #[.int .i64 o, .int .i64 l, .int .i64 m], .string d, .string s, .int .i64 a, .int .i64 b]) ∧ d.size ≤ 1000 ∧ s.size ≤ 10000 ∧ (-9223372036854775808 ≤ a ∧ a ≤ 9223372036854775807) ∧ (-9223372036854775808 ≤ b ∧ b ≤ 9223372036854775807) ∧ Below w.heap.size w w'

/-- What ReplaceRange's draw returns. -/
def SetRep (w : World) (e : Ending) (w' : World) : Prop := ∃ (o l m : Int) (d s : ByteArray) (a b : Int) (t : ByteArray) (z : Int), e = .returned (.tuple #[.agg #[.int .i64 o, .int .i64 l, .int .i64 m], .string d, .string s, .int .i64 a, .int .i64 b, .string t, .int .i64 z]) ∧ d.size ≤ 1000 ∧ s.size ≤ 10000 ∧ (-9223372036854775808 ≤ a ∧ a ≤ 9223372036854775807) ∧ (-9223372036854775808 ≤ b ∧ b ≤ 9223372036854775807) ∧ t.size ≤ 10000 ∧ (-9223372036854775808 ≤ z ∧ z ≤ 9223372036854775807) ∧ Below w.heap.size w w'

end Go.Proofs.YthlgpgaeajfchaaGreatDoor
