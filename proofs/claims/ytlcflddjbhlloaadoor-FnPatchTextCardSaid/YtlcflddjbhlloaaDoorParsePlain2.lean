/-
  What ParsePatch returns: plain facts.
-/
import Derived.Test.YtlcflddjbhlloaaDoorCutPlain
import Derived.Test.YtlcflddjbhlloaaDoorNumPlain
import Derived.Test.YtlcflddjbhlloaaDoorUnhexTwo
import Derived.Test.YtlcflddjbhlloaaDoorFmtPatch
namespace Go.Proofs.YtlcflddjbhlloaaDoor
set_option linter.unusedVariables false

/-- A dash stands for no text. -/
def undash (t : ByteArray) : ByteArray := if t.data.toList = [45] then ⟨#[]⟩ else t

theorem ba_of_list {a b : ByteArray} (h : a.data.toList = b.data.toList) : a = b := ByteArray.ext (Array.toList_inj.1 h)

theorem toList_data (s : ByteArray) : s.toList = s.data.toList := ByteArray.toList_eq s

theorem hexOf_small {d : ByteArray} (h : d.size ≤ 4000) : hexOf d = ⟨(hexB d.data.toList).toArray⟩ := if_pos h

theorem dash_back {d : ByteArray} (hd : d.size ≤ 2000) : unhexB (undash (dashB (hexOf d))) = (d, true) ∧ (dashB (hexOf d)).data.toList ≠ [] := by
  rw [hexOf_small (by omega)]
  unfold dashB
  rw [toList_data]
  by_cases h : hexB d.data.toList = []
  · have hl := hexB_length d.data.toList
    rw [h] at hl
    have h0 : d.data.toList = [] := List.eq_nil_of_length_eq_zero (by simp only [List.length_nil] at hl; omega)
    have h1 : d = ⟨#[]⟩ := ba_of_list (by rw [h0])
    have e : (⟨(hexB d.data.toList).toArray⟩ : ByteArray).data.toList = [] := by simp [h]
    rw [if_pos e]
    refine ⟨?_, by simp⟩
    have : undash ⟨#[45]⟩ = ⟨#[]⟩ := if_pos rfl
    rw [this, h1]
    rfl
  · have e : ¬ (⟨(hexB d.data.toList).toArray⟩ : ByteArray).data.toList = [] := by simpa using h
    rw [if_neg e]
    refine ⟨?_, e⟩
    have hl := hexB_length d.data.toList
    have h2 : undash ⟨(hexB d.data.toList).toArray⟩ = ⟨(hexB d.data.toList).toArray⟩ := by
      refine if_neg fun h' => ?_
      have h3 : hexB d.data.toList = [45] := by simpa using h'
      rw [h3] at hl
      simp at hl
      omega
    rw [h2]
    have hs : (⟨(hexB d.data.toList).toArray⟩ : ByteArray).size = 2 * d.size := by
      show (hexB d.data.toList).toArray.size = _
      simp at hl ⊢
      exact hl
    have h4 : unhexL (⟨(hexB d.data.toList).toArray⟩ : ByteArray).data.toList = some d.data.toList := by
      have : (⟨(hexB d.data.toList).toArray⟩ : ByteArray).data.toList = hexB d.data.toList := by simp
      rw [this, unhex_hex]
    rw [unhexB_some (by rw [hs]; omega) (by rw [hs]; omega) h4]

theorem dash_fwd {t : ByteArray} (h0 : t.data.toList ≠ []) (h : (unhexB (undash t)).2 = true) : t = dashB (hexOf (unhexB (undash t)).1) := by
  by_cases hd : t.data.toList = [45]
  · have e : undash t = ⟨#[]⟩ := if_pos hd
    have e2 : t = ⟨#[45]⟩ := ba_of_list (by rw [hd])
    rw [e, e2]
    have e3 : (unhexB ⟨#[]⟩).1 = ⟨#[]⟩ := rfl
    rw [e3]
    have e4 : hexOf ⟨#[]⟩ = ⟨#[]⟩ := by unfold hexOf; rfl
    rw [e4]
    unfold dashB
    rw [toList_data]
    rfl
  · have e : undash t = t := if_neg hd
    rw [e] at h ⊢
    unfold unhexB at h ⊢
    by_cases hc : t.size % 2 = 0 ∧ t.size ≤ 8000
    · rw [if_pos hc] at h ⊢
      rcases hu : unhexL t.data.toList with _ | l
      · rw [hu] at h; simp at h
      · simp only
        have hb := hex_unhex _ _ hu
        have hl := hexB_length l
        have hts : t.data.toList.length = t.size := by simp
        have hz : (⟨l.toArray⟩ : ByteArray).size ≤ 4000 := by
          show l.toArray.size ≤ 4000
          rw [hb] at hl
          simp at hl ⊢
          omega
        rw [hexOf_small hz]
        have hb2 : (⟨(hexB (⟨l.toArray⟩ : ByteArray).data.toList).toArray⟩ : ByteArray) = t := ba_of_list (by simp [hb])
        rw [hb2]
        unfold dashB
        rw [toList_data, if_neg h0]
    · rw [if_neg hc] at h
      simp at h

theorem fmtP_list (F T : Nat) (d : ByteArray) : (fmtP F T d).data.toList = Lib.decDigits F ++ 32 :: (Lib.decDigits T ++ 32 :: (dashB (hexOf d)).data.toList) := by
  unfold fmtP decB
  simp

theorem no32_dec (n : Nat) : (32 : UInt8) ∉ Lib.decDigits n := fun h => by
  have := (dd_digit n 32 h).1
  simp at this

theorem no32_hex (l : List UInt8) : (32 : UInt8) ∉ hexB l := by
  have h2 : ∀ p : Fin 16, hexD p.val ≠ 32 := by decide +kernel
  intro h
  unfold hexB at h
  obtain ⟨x, _, hx⟩ := List.mem_flatMap.1 h
  have hc := x.toNat_lt
  simp at hx
  rcases hx with hx | hx
  · exact h2 ⟨x.toNat / 16, by omega⟩ hx.symm
  · exact h2 ⟨x.toNat % 16, by omega⟩ hx.symm

theorem no32_dash {d : ByteArray} (hd : d.size ≤ 2000) : (32 : UInt8) ∉ (dashB (hexOf d)).data.toList := by
  rw [hexOf_small (by omega)]
  unfold dashB
  split
  · simp
  · simpa using no32_hex d.data.toList

/-- What ParsePatch returns. -/
def ppOf (t : ByteArray) : PB :=
  match cutB t with
  | [a, b, c] =>
    if pvalid (valL a.data.toList : Int) (valL b.data.toList : Int) (unhexB (undash c)).1.size ∧ t = fmtP (valL a.data.toList) (valL b.data.toList) (unhexB (undash c)).1 then
      ⟨valL a.data.toList, valL b.data.toList, (unhexB (undash c)).1, true⟩
    else ⟨0, 0, ByteArray.empty, false⟩
  | _ => ⟨0, 0, ByteArray.empty, false⟩

theorem cut_fmt {F T : Nat} {d : ByteArray} (hd : d.size ≤ 2000) : cutB (fmtP F T d) = [decB F, decB T, dashB (hexOf d)] := by
  unfold cutB
  rw [fmtP_list, three_cut (no32_dec F) (no32_dec T) (no32_dash hd)]
  simp only [List.map_cons, List.map_nil]
  rw [show (⟨(dashB (hexOf d)).data.toList.toArray⟩ : ByteArray) = dashB (hexOf d) from ba_of_list (by simp)]
  rfl

theorem pp_yes {t : ByteArray} {F T : Nat} {d : ByteArray} (hv : pvalid (F : Int) (T : Int) d.size) (h : t = fmtP F T d) : ppOf t = ⟨F, T, d, true⟩ := by
  have hd := hv.2.2.2
  have hc := cut_fmt (F := F) (T := T) hd
  have e1 : valL (decB F).data.toList = F := dd_val F
  have e2 : valL (decB T).data.toList = T := dd_val T
  have e3 := (dash_back hd).1
  subst h
  unfold ppOf
  rw [hc]
  simp only
  rw [e1, e2, e3, if_pos ⟨hv, rfl⟩]

theorem pp_no {t : ByteArray} (h : ∀ (F T : Nat) (d : ByteArray), pvalid (F : Int) (T : Int) d.size → t ≠ fmtP F T d) : ppOf t = ⟨0, 0, ByteArray.empty, false⟩ := by
  unfold ppOf
  split
  · rw [if_neg (fun hc => h _ _ _ hc.1 hc.2)]
  · rfl

theorem three_of {t a b c : ByteArray} (h : cutB t = [a, b, c]) : t.data.toList = a.data.toList ++ 32 :: (b.data.toList ++ 32 :: c.data.toList) := by
  unfold cutB at h
  rcases hl : cutL t.data.toList with _ | ⟨p, _ | ⟨q, _ | ⟨r, _ | ⟨x, l⟩⟩⟩⟩
  all_goals rw [hl] at h
  all_goals simp at h
  obtain ⟨rfl, rfl, rfl⟩ := h
  have := (cut_three hl).1
  simpa using this

theorem parts_of {t a b c : ByteArray} {F T : Nat} {d : ByteArray} (h : cutB t = [a, b, c]) (hd : d.size ≤ 2000) (ht : t = fmtP F T d) : a = decB F ∧ b = decB T ∧ c = dashB (hexOf d) := by
  subst ht
  rw [cut_fmt hd] at h
  injection h with h1 h
  injection h with h2 h
  injection h with h3 _
  exact ⟨h1.symm, h2.symm, h3.symm⟩

end Go.Proofs.YtlcflddjbhlloaaDoor
