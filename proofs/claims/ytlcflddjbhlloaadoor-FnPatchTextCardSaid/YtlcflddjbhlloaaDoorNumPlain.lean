/-
  Decimal numbers read back: plain facts.
-/
import Derived.Test.YtlcflddjbhlloaaDoorDec
import Derived.Lib.AtoiAll
namespace Go.Proofs.YtlcflddjbhlloaaDoor
set_option linter.unusedVariables false

/-- What digits spell. -/
def valL (l : List UInt8) : Nat := l.foldl (fun a c => a * 10 + (c.toNat - 48)) 0

theorem valL_snoc (l : List UInt8) (c : UInt8) : valL (l ++ [c]) = valL l * 10 + (c.toNat - 48) := by
  unfold valL; rw [List.foldl_append]; rfl

theorem dd_eq (n : Nat) : Lib.decDigits n = if n < 10 then [UInt8.ofNat (48 + n)] else Lib.decDigits (n / 10) ++ [UInt8.ofNat (48 + n % 10)] := by
  conv => lhs; rw [Lib.decDigits]
  split <;> rfl

theorem u8_48 (d : Nat) (h : d < 10) : (UInt8.ofNat (48 + d)).toNat = 48 + d := by rw [UInt8.toNat_ofNat']; omega

theorem dd_digit (n : Nat) : ∀ c ∈ Lib.decDigits n, 48 ≤ c.toNat ∧ c.toNat ≤ 57 := by
  induction n using Nat.strongRecOn with
  | ind n ih =>
    intro c hc
    rw [dd_eq] at hc
    split at hc
    · rename_i h
      rw [List.mem_singleton.1 hc, u8_48 _ h]; omega
    · rcases List.mem_append.1 hc with hc | hc
      · exact ih (n / 10) (by omega) c hc
      · rw [List.mem_singleton.1 hc, u8_48 _ (by omega)]; omega

theorem dd_val (n : Nat) : valL (Lib.decDigits n) = n := by
  induction n using Nat.strongRecOn with
  | ind n ih =>
    rw [dd_eq]
    split
    · rename_i h
      show valL ([] ++ [_]) = n
      rw [valL_snoc, u8_48 _ h]
      show 0 * 10 + _ = _
      omega
    · rw [valL_snoc, ih (n / 10) (by omega), u8_48 _ (by omega)]; omega

theorem dd_len : ∀ (k n : Nat), n < 10 ^ (k + 1) → (Lib.decDigits n).length ≤ k + 1 := by
  intro k
  induction k with
  | zero => intro n h; rw [dd_eq, if_pos (by simpa using h)]; simp
  | succ k ih =>
    intro n h
    rw [dd_eq]
    split
    · simp
    · have := ih (n / 10) (by rw [Nat.pow_succ] at h; omega)
      simp; omega

theorem dd_head (n : Nat) (hn : 1 ≤ n) : ∃ c r, Lib.decDigits n = c :: r ∧ c.toNat ≠ 48 := by
  induction n using Nat.strongRecOn with
  | ind n ih =>
    rw [dd_eq]
    split
    · rename_i h
      exact ⟨_, [], rfl, by rw [u8_48 _ h]; omega⟩
    · obtain ⟨c, r, e, h⟩ := ih (n / 10) (by omega) (by omega)
      exact ⟨c, r ++ [_], by rw [e]; rfl, h⟩

theorem num_facts {s : ByteArray} {F : Nat} (h : s = decB F) (hF : F ≤ 2000) :
    0 < s.size ∧ s.size ≤ 17 ∧ (∀ (k : Nat) (hk : k < s.size), 48 ≤ (s[k]).toNat ∧ (s[k]).toNat ≤ 57) ∧ (∀ h0 : 0 < s.size, (s[0]).toNat = 48 → s.size = 1) ∧ valL s.data.toList = F := by
  subst h
  have hz : (decB F).size = (Lib.decDigits F).length := by show (Lib.decDigits F).toArray.size = _; simp
  have hl := dd_len 3 F (by omega)
  have hd : (decB F).data.toList = Lib.decDigits F := rfl
  have hget : ∀ (k : Nat) (hk : k < (decB F).size), (decB F)[k] = (Lib.decDigits F)[k]'(by omega) := fun k hk => rfl
  refine ⟨?_, by omega, fun k hk => ?_, fun h0 h => ?_, by rw [hd, dd_val]⟩
  · rw [hz, dd_eq]; split <;> simp
  · rw [hget k hk]; exact dd_digit F _ (List.getElem_mem _)
  · rcases Nat.eq_zero_or_pos F with e | e
    · subst e; rw [hz, dd_eq]; rfl
    · obtain ⟨c, r, e1, e2⟩ := dd_head F e
      rw [hget 0 h0] at h
      simp only [e1, List.getElem_cons_zero] at h
      exact absurd h e2

theorem parse_fold : ∀ (l : List UInt8) (acc : Nat), (∀ c ∈ l, 48 ≤ c.toNat ∧ c.toNat ≤ 57) → l.foldl (fun a c => a * 10 + (c.toNat - 48)) acc ≤ 100000000000000000 → acc ≤ 100000000000000000 →
    Lib.parseUint10 acc l = .ok (l.foldl (fun a c => a * 10 + (c.toNat - 48)) acc)
  | [], acc, _, _, _ => rfl
  | c :: r, acc, hd, hf, ha => by
    have h1 := hd c (by simp)
    have hmono : ∀ (l : List UInt8) (a : Nat), a ≤ l.foldl (fun a c => a * 10 + (c.toNat - 48)) a := by
      intro l
      induction l with
      | nil => intro a; exact Nat.le_refl _
      | cons x xs ih => intro a; rw [List.foldl_cons]; exact Nat.le_trans (by omega) (ih _)
    rw [List.foldl_cons] at hf ⊢
    have h2 := Nat.le_trans (hmono r (acc * 10 + (c.toNat - 48))) hf
    rw [Lib.parseUint10, if_pos h1, if_neg (by omega), if_neg (by omega)]
    exact parse_fold r _ (fun c hc => hd c (List.mem_cons_of_mem _ hc)) hf h2

theorem atoi_dec (F : Nat) (hF : F ≤ 2000) : Lib.atoiAll (Lib.decDigits F) = .ok (F : Int) := by
  have hd := dd_digit F
  have hv := dd_val F
  obtain ⟨c, r, e⟩ : ∃ c r, Lib.decDigits F = c :: r := by
    rcases Nat.eq_zero_or_pos F with h | h
    · subst h; exact ⟨_, _, by rw [dd_eq]; rfl⟩
    · obtain ⟨c, r, e, _⟩ := dd_head F h; exact ⟨c, r, e⟩
  rw [e] at hd hv ⊢
  have h1 := hd c (by simp)
  have hp : Lib.parseMag (c :: r) = .ok F := by
    unfold Lib.parseMag
    rw [if_neg (by simp)]
    rw [parse_fold (c :: r) 0 hd (by unfold valL at hv; rw [hv]; omega) (by omega)]
    unfold valL at hv; rw [hv]
  unfold Lib.atoiAll
  simp only
  rw [if_neg (by omega), hp]
  simp only
  rw [if_neg (by omega)]
  have h2 : ¬ c.toNat = 45 := by omega
  simp [h2]

end Go.Proofs.YtlcflddjbhlloaaDoor
