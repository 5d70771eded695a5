/-
  The dash of a text read back: withoutDash, parseHexOrDash of the program; l3None of the reference.
-/
import Derived.Test.YtlcflddjbhlloaaDoorParsePlain2
namespace Go.Proofs.YtlcflddjbhlloaaDoor
open Go.RowKit
set_option linter.unusedVariables false

theorem eq_dash {t : ByteArray} (h : t.data.toList = [45]) : t = ⟨#[45]⟩ := ba_of_list (by rw [h])

theorem ne_dash {t : ByteArray} (h : t.data.toList ≠ [45]) : (t.toList == [45]) = false ∧ (t.toList == (⟨#[45]⟩ : ByteArray).toList) = false ∧ (t == ⟨#[45]⟩) = false := by
  refine ⟨?_, ?_, ?_⟩
  · rw [beq_eq_false_iff_ne, toList_data]; exact h
  · rw [beq_eq_false_iff_ne, toList_data, toList_data]; exact h
  · rcases hc : (t == (⟨#[45]⟩ : ByteArray)) with _ | _
    · rfl
    · exfalso
      apply h
      obtain ⟨x⟩ := t
      have e : x = #[45] := by simpa using (show (x == #[45]) = true from hc)
      rw [e]

theorem specL3None (t : ByteArray) (w : World) :
    Calls Tryd.prog 21 #[.string t] w fun e w' => e = .returned (.string (undash t)) ∧ w = w' := by
  by_cases h : t.data.toList = [45]
  · have e : undash t = ⟨#[]⟩ := if_pos h
    have et := eq_dash h
    rw [e]
    subst et
    clear h e
    go_enter Tryd.func21, Tryd.ntmps21
    go_wp2_with fail
    go_ret
    exact ⟨rfl, rfl⟩
  · have e : undash t = t := if_neg h
    obtain ⟨h1, h2, h3⟩ := ne_dash h
    rw [e]
    clear h e
    go_enter Tryd.func21, Tryd.ntmps21
    go_wp2_with fail
    go_ret
    exact ⟨rfl, rfl⟩

/-- What withoutDash returns. -/
def woB (t : ByteArray) : Bool := !t.data.toList.isEmpty

theorem implWithoutDash (t : ByteArray) (w : World) :
    Calls Tryd.prog 51 #[.string t] w fun e w' => e = .returned (.tuple #[.string (undash t), .bool (woB t)]) ∧ w = w' := by
  by_cases h : t.data.toList = [45]
  · have e : undash t = ⟨#[]⟩ := if_pos h
    have e2 : woB t = true := by unfold woB; rw [h]; rfl
    have et := eq_dash h
    rw [e, e2]
    subst et
    clear h e e2
    go_enter Tryd.func51, Tryd.ntmps51
    go_wp2_with fail
    go_returns
    exact ⟨rfl, rfl⟩
  · have e : undash t = t := if_neg h
    obtain ⟨h1, h2, h3⟩ := ne_dash h
    rw [e]
    obtain ⟨b, hb⟩ : ∃ b, woB t = b := ⟨_, rfl⟩
    have h4 : t.toList.isEmpty = !b := by rw [toList_data, ← hb]; unfold woB; rw [Bool.not_not]
    rw [hb]
    clear h e hb
    cases b
    all_goals simp only [Bool.not_false, Bool.not_true] at h4
    all_goals go_enter Tryd.func51, Tryd.ntmps51
    all_goals go_wp2_with fail
    all_goals go_returns
    all_goals exact ⟨rfl, rfl⟩

/-- What parseHexOrDash hands back. -/
def PdRes (t : ByteArray) (w : World) (e : Ending) (w' : World) : Prop := ∃ (d : ByteArray) (b : Bool), e = .returned (.tuple #[.string d, .bool b]) ∧ (b = true → t = dashB (hexOf d)) ∧ (∀ x : ByteArray, x.size ≤ 2000 → t = dashB (hexOf x) → b = true ∧ d = x) ∧ Below w.heap.size w w'

theorem implParseHexOrDash (t : ByteArray) (w : World) (ht : t.size ≤ 1048576) :
    Calls Tryd.prog 25 #[.string t] w (PdRes t w) := by
  have huz : (undash t).size ≤ 1048576 := by unfold undash; split; exact Nat.zero_le _; exact ht
  cases hw : woB t with
  | true =>
    have hne : t.data.toList ≠ [] := fun e => by unfold woB at hw; rw [e] at hw; cases hw
    have H1 := Lib.hid (show (unhexB (undash t)).2 = true → t = dashB (hexOf (unhexB (undash t)).1) from dash_fwd hne)
    have H2 := Lib.hid (show ∀ x : ByteArray, x.size ≤ 2000 → t = dashB (hexOf x) → (unhexB (undash t)).2 = true ∧ (unhexB (undash t)).1 = x from fun x hx e => by
      rw [e, (dash_back hx).1]; exact ⟨rfl, rfl⟩)
    have HW := Lib.hid (fun W => hw ▸ implWithoutDash t W)
    have HP := Lib.hid (fun W => implParseHex (undash t) W huz)
    obtain ⟨u, hu⟩ : ∃ u, undash t = u := ⟨_, rfl⟩
    rw [hu] at H1 H2 HW HP
    clear hw hne hu huz
    go_enter Tryd.func25, Tryd.ntmps25
    go_wp2_with (go_at_call 51; refine (HW.out _).mono ?_; rintro e w1 ⟨rfl, rfl⟩)
    refine (HP.out _).mono ?_
    rintro e w2 ⟨rfl, hb2⟩
    go_wp2_with fail
    go_returns
    exact ⟨_, _, rfl, H1.out, H2.out, hb2⟩
  | false =>
    have he : t.data.toList = [] := by
      unfold woB at hw
      cases h : t.data.toList with
      | nil => rfl
      | cons a b => rw [h] at hw; cases hw
    have H2 := Lib.hid (show ∀ x : ByteArray, x.size ≤ 2000 → t ≠ dashB (hexOf x) from fun x hx e => (dash_back hx).2 (by rw [← e]; exact he))
    have HW := Lib.hid (fun W => hw ▸ implWithoutDash t W)
    obtain ⟨u, hu⟩ : ∃ u, undash t = u := ⟨_, rfl⟩
    rw [hu] at HW
    clear hw he hu huz
    go_enter Tryd.func25, Tryd.ntmps25
    go_wp2_with (go_at_call 51; refine (HW.out _).mono ?_; rintro e w1 ⟨rfl, rfl⟩)
    go_returns
    refine ⟨⟨#[]⟩, false, rfl, ?_, fun x hx e => absurd e (H2.out x hx), Below.refl _ _⟩
    intro h
    cases h

end Go.Proofs.YtlcflddjbhlloaaDoor
