/-
  A text, or a dash for no text: orDash of the program, l3Some of the reference.
-/
import Derived.Test.YtlcflddjbhlloaaDoorSmall
namespace Go.Proofs.YtlcflddjbhlloaaDoor
open Go.RowKit
set_option linter.unusedVariables false

/-- A text, or a dash for no text. -/
def dashB (s : ByteArray) : ByteArray := if s.toList = [] then ⟨#[45]⟩ else s

theorem implOrDash (s : ByteArray) (w : World) :
    Calls Tryd.prog 39 #[.string s] w fun e w' => e = .returned (.string (dashB s)) ∧ w = w' := by
  by_cases h : s.toList = []
  · have hR : dashB s = ⟨#[45]⟩ := if_pos h
    have h2 : s.toList.isEmpty = true := by rw [h]; rfl
    rw [hR]
    clear hR
    go_enter Tryd.func39, Tryd.ntmps39
    go_wp2_with fail
    go_ret
    exact ⟨rfl, rfl⟩
  · have hR : dashB s = s := if_neg h
    have h2 : s.toList.isEmpty = false := by cases hd3 : s.toList with
      | nil => exact absurd hd3 h
      | cons a b => rfl
    rw [hR]
    clear hR
    go_enter Tryd.func39, Tryd.ntmps39
    go_wp2_with fail
    go_ret
    exact ⟨rfl, rfl⟩

theorem specL3Some (s : ByteArray) (w : World) :
    Calls Tryd.prog 47 #[.string s] w fun e w' => e = .returned (.string (dashB s)) ∧ w = w' := by
  by_cases h : s.toList = []
  · have hR : dashB s = ⟨#[45]⟩ := if_pos h
    have h2 : s.toList.isEmpty = true := by rw [h]; rfl
    rw [hR]
    clear hR
    go_enter Tryd.func47, Tryd.ntmps47
    go_wp2_with fail
    go_ret
    exact ⟨rfl, rfl⟩
  · have hR : dashB s = s := if_neg h
    have h2 : s.toList.isEmpty = false := by cases hd3 : s.toList with
      | nil => exact absurd hd3 h
      | cons a b => rfl
    rw [hR]
    clear hR
    go_enter Tryd.func47, Tryd.ntmps47
    go_wp2_with fail
    go_ret
    exact ⟨rfl, rfl⟩

end Go.Proofs.YtlcflddjbhlloaaDoor
