/-
  What is known, further plain facts: what follows a code is known too; the longest word has a code.
-/
import Derived.Test.YthfckbfllodcjaaKn
namespace Go.Proofs.Ythfckbfllodcjaa
set_option linter.unusedVariables false

/-- A code with a word that can follow. -/
def Kn.can (k : Kn) (c : Nat) : Prop := k.has k.ps.length c ∨ (k.grows ∧ c = k.next)

theorem Kn.has_more {k : Kn} {n n' c : Nat} (h : k.has n c) (hn : n ≤ n') : k.has n' c := by
  unfold Kn.has at *; omega

theorem Kn.great_bounds {k : Kn} (h : k.Valid) : k.fin + k.ps.length ≤ k.great ∧ k.great ≤ k.top ∧ k.great ≤ k.fin + k.ps.length + 1 := by
  have hr := h.room
  have hp := h.pow
  have hf := k.fin_eq
  unfold Kn.great
  split
  · rename_i hg
    have := hg.2
    unfold Kn.next at *
    omega
  · unfold Kn.next
    omega

theorem Kn.can_range {k : Kn} (h : k.Valid) {c : Nat} (h1 : k.fin < c) (h2 : c ≤ k.great) : k.can c := by
  unfold Kn.great at h2
  split at h2
  · rename_i hg
    by_cases hc : c = k.next
    · exact Or.inr ⟨hg, hc⟩
    · exact Or.inl (Or.inr ⟨h1, by unfold Kn.next at *; omega⟩)
  · exact Or.inl (Or.inr ⟨h1, by unfold Kn.next at *; omega⟩)

theorem Kn.can_great {k : Kn} (h : k.Valid) {c : Nat} (hc : k.can c) : c < k.clear ∨ (k.fin < c ∧ c ≤ k.great) := by
  have hg := Kn.great_bounds h
  rcases hc with h1 | ⟨h1, h2⟩
  · unfold Kn.has at h1; omega
  · right
    unfold Kn.great
    rw [if_pos h1]
    unfold Kn.next at *
    omega

theorem headD_append {a b : List UInt8} (h : a ≠ []) : (a ++ b).headD 0 = a.headD 0 := by
  cases a with
  | nil => exact absurd rfl h
  | cons x xs => rfl

theorem Kn.word_head {k : Kn} (h : k.Valid) : ∀ (n c : Nat), c ≤ n → k.has k.ps.length c → ((k.word c).headD 0).toNat < k.clear := by
  have hp := h.pow
  intro n
  induction n with
  | zero =>
    intro c hc _
    obtain rfl : c = 0 := by omega
    rw [k.word_lit (by omega)]
    show (UInt8.ofNat 0).toNat < _
    rw [UInt8.toNat_ofNat']
    omega
  | succ n ih =>
    intro c hc hh
    by_cases hl : c < k.clear
    · rw [k.word_lit (by have := k.fin_eq; omega)]
      show (UInt8.ofNat c).toNat < _
      rw [UInt8.toNat_ofNat']
      omega
    · have hf := k.fin_eq
      have hh' : k.fin < c ∧ c ≤ k.fin + k.ps.length := by unfold Kn.has at hh; omega
      obtain ⟨i, rfl⟩ : ∃ i, c = k.fin + 1 + i := ⟨c - k.fin - 1, by omega⟩
      have hi : i < k.ps.length := by omega
      rcases hx : k.ps[i] with ⟨p, b⟩
      have hpb : k.ps[i]? = some (p, b) := by rw [List.getElem?_eq_getElem hi, hx]
      rw [Kn.word_pair h hpb, headD_append (Kn.word_ne p)]
      have h1 := (h.pair i p b hpb).1
      refine ih p ?_ (Kn.has_more h1 (by omega))
      unfold Kn.has at h1
      omega

theorem Kn.any_old {k : Kn} {c : Nat} (hc : c ≠ k.next) : k.any c = k.word c := by
  unfold Kn.any
  split
  · rw [if_neg hc]
  · rfl

theorem Kn.has_ne {k : Kn} {c : Nat} (hc : k.has k.ps.length c) : c ≠ k.next := by
  unfold Kn.has at hc
  unfold Kn.next
  have := k.fin_eq
  omega

theorem Kn.any_next {k : Kn} {q : Nat} (hq : k.last = some q) : k.any k.next = k.word q ++ (k.word q).take 1 := by
  unfold Kn.any
  rw [hq]
  simp only
  rw [if_pos trivial]

theorem Kn.any_head {k : Kn} (h : k.Valid) {c : Nat} (hc : k.can c) : ((k.any c).headD 0).toNat < k.clear ∧ k.any c ≠ [] := by
  rcases hc with h1 | ⟨h1, h2⟩
  · rw [Kn.any_old (Kn.has_ne h1)]
    exact ⟨Kn.word_head h c c (Nat.le_refl _) h1, Kn.word_ne c⟩
  · obtain ⟨q, hq⟩ : ∃ q, k.last = some q := by
      have := h1.1
      cases hl : k.last with
      | none => rw [hl] at this; cases this
      | some q => exact ⟨q, rfl⟩
    subst h2
    rw [Kn.any_next hq]
    have hn := Kn.word_ne (k := k) q
    refine ⟨?_, by simp [hn]⟩
    rw [headD_append hn]
    exact Kn.word_head h q q (Nat.le_refl _) (h.tail q hq)

theorem Kn.after_valid {k : Kn} (h : k.Valid) {c : Nat} (hc : k.can c) : (k.after c).Valid := by
  have hf := k.fin_eq
  have hp := h.pow
  by_cases hg : k.grows
  · obtain ⟨q, hq⟩ : ∃ q, k.last = some q := by
      have := hg.1
      cases hl : k.last with
      | none => rw [hl] at this; cases this
      | some q => exact ⟨q, rfl⟩
    have e : k.after c = { k with ps := k.ps ++ [(q, ((k.any c).headD 0).toNat)], last := some c } := by
      unfold Kn.after
      rw [if_pos hg, hq]
      rfl
    rw [e]
    refine ⟨h.ord, h.lit1, h.lit8, h.most, h.most10, ?_, ?_, ?_, ?_⟩
    · have := hg.2
      unfold Kn.next at this
      show (k.ps ++ _).length ≤ k.top - k.fin
      rw [List.length_append]
      simp only [List.length_cons, List.length_nil]
      omega
    · have := h.keep
      show k.base ≤ (k.ps ++ _).length
      rw [List.length_append]
      omega
    · intro i p b hi
      by_cases hlt : i < k.ps.length
      · have hi' : k.ps[i]? = some (p, b) := by
          have : (k.ps ++ [(q, ((k.any c).headD 0).toNat)])[i]? = some (p, b) := hi
          rwa [List.getElem?_append_left hlt] at this
        exact h.pair i p b hi'
      · have hi' : (k.ps ++ [(q, ((k.any c).headD 0).toNat)])[i]? = some (p, b) := hi
        have hil := (List.getElem?_eq_some_iff.1 hi').1
        rw [List.length_append] at hil
        simp only [List.length_cons, List.length_nil] at hil
        obtain rfl : i = k.ps.length := by omega
        rw [List.getElem?_append_right (Nat.le_refl _), Nat.sub_self] at hi'
        simp only [List.getElem?_cons_zero, Option.some.injEq, Prod.mk.injEq] at hi'
        obtain ⟨rfl, rfl⟩ := hi'
        exact ⟨h.tail _ hq, (Kn.any_head h hc).1⟩
    · intro x hx
      have hx' : c = x := by injection hx
      subst hx'
      show k.has (k.ps ++ _).length c
      rw [List.length_append]
      rcases hc with h1 | ⟨h1, h2⟩
      · exact Kn.has_more h1 (by omega)
      · right
        unfold Kn.next at h2
        simp only [List.length_cons, List.length_nil]
        omega
  · have e : k.after c = { k with last := some c } := by
      unfold Kn.after
      rw [if_neg hg]
    rw [e]
    refine ⟨h.ord, h.lit1, h.lit8, h.most, h.most10, h.room, h.keep, h.pair, ?_⟩
    intro x hx
    have hx' : c = x := by injection hx
    subst hx'
    rcases hc with h1 | ⟨h1, h2⟩
    · exact h1
    · exact absurd h1 hg

/-- A text that can be written: its bytes are literals. -/
def Kn.fits (k : Kn) (data : List UInt8) : Prop := ∀ c ∈ data, c.toNat < k.clear

theorem Kn.longest_spec {k : Kn} (h : k.Valid) {x : UInt8} {r : List UInt8} (hx : x.toNat < k.clear) :
    (k.longest (x :: r)).isPrefixOf (x :: r) = true ∧ ∃ c, k.can c ∧ k.any c = k.longest (x :: r) := by
  have hf := k.fin_eq
  have hp := h.pow
  unfold Kn.longest
  have main : ∀ (cs : List Nat) (best : List UInt8), (∀ c ∈ cs, k.can c) → (best.isPrefixOf (x :: r) = true ∧ ∃ c, k.can c ∧ k.any c = best) →
      ((cs.foldl (fun best c => if best.length < (k.any c).length ∧ (k.any c).isPrefixOf (x :: r) = true then k.any c else best) best).isPrefixOf (x :: r) = true ∧
        ∃ c, k.can c ∧ k.any c = cs.foldl (fun best c => if best.length < (k.any c).length ∧ (k.any c).isPrefixOf (x :: r) = true then k.any c else best) best) := by
    intro cs
    induction cs with
    | nil => intro best _ hb; exact hb
    | cons c cs ih =>
      intro best hcs hb
      rw [List.foldl_cons]
      refine ih _ (fun c' hc' => hcs c' (List.mem_cons_of_mem _ hc')) ?_
      split
      · rename_i hif
        exact ⟨hif.2, c, hcs c (by simp), rfl⟩
      · exact hb
  refine main _ _ (fun c hc => ?_) ⟨by simp, x.toNat, Or.inl (Or.inl hx), ?_⟩
  · rw [List.mem_range'] at hc
    obtain ⟨i, hi, rfl⟩ := hc
    exact Kn.can_range h (by omega) (by omega)
  · rw [Kn.any_old (Kn.has_ne (Or.inl hx)), k.word_lit (by omega)]
    simp

theorem Kn.find_spec {k : Kn} (h : k.Valid) {w : List UInt8} (hw : ∃ c, k.can c ∧ k.any c = w) : ∃ c, k.find w = some c ∧ k.can c ∧ k.any c = w := by
  have hf := k.fin_eq
  have hp := h.pow
  obtain ⟨c, hc, he⟩ := hw
  unfold Kn.find
  by_cases h1 : w.length = 1 ∧ (w.headD 0).toNat < k.clear
  · rw [if_pos h1]
    refine ⟨_, rfl, Or.inl (Or.inl h1.2), ?_⟩
    rw [Kn.any_old (Kn.has_ne (Or.inl h1.2)), k.word_lit (by omega)]
    match w, h1.1 with
    | [y], _ => simp
  · rw [if_neg h1]
    rcases Kn.can_great h hc with hl | ⟨hl1, hl2⟩
    · exfalso
      apply h1
      rw [Kn.any_old (Kn.has_ne (Or.inl hl)), k.word_lit (by omega)] at he
      subst he
      refine ⟨rfl, ?_⟩
      show (UInt8.ofNat c).toNat < _
      rw [UInt8.toNat_ofNat']
      omega
    · have hmem : c ∈ List.range' (k.fin + 1) (k.great - k.fin) := by
        rw [List.mem_range']
        exact ⟨c - k.fin - 1, by omega, by omega⟩
      have hsome : ((List.range' (k.fin + 1) (k.great - k.fin)).find? fun c => decide (k.any c = w)).isSome = true := by
        rw [List.find?_isSome]
        exact ⟨c, hmem, by simpa using he⟩
      obtain ⟨c', hc'⟩ := Option.isSome_iff_exists.1 hsome
      refine ⟨c', hc', ?_, by simpa using List.find?_some hc'⟩
      have hm' := List.mem_of_find?_eq_some hc'
      rw [List.mem_range'] at hm'
      obtain ⟨i, hi, rfl⟩ := hm'
      exact Kn.can_range h (by omega) (by omega)

end Go.Proofs.Ythfckbfllodcjaa
