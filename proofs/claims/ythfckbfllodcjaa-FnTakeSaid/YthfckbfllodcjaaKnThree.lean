/-
  Codes that can follow one after the other, as plain data: the step, the greedy codes, the widths and the data of codes.
-/
import Derived.Test.YthfckbfllodcjaaKnTwo
namespace Go.Proofs.Ythfckbfllodcjaa
set_option linter.unusedVariables false

/-- What is known behind a clear code or a code with a word. -/
def Kn.step (k : Kn) (x : Nat) : Kn := if x = k.clear then k.cleared else k.after x

/-- A clear code or a code with a word. -/
def Kn.goes (k : Kn) (x : Nat) : Prop := x = k.clear ∨ k.can x

theorem Kn.step_valid {k : Kn} (h : k.Valid) {x : Nat} (hx : k.goes x) : (k.step x).Valid := by
  unfold Kn.step
  split
  · exact Kn.cleared_valid h
  · rename_i hc
    rcases hx with h1 | h1
    · exact absurd h1 hc
    · exact Kn.after_valid h h1

theorem Kn.can_ne_clear {k : Kn} (h : k.Valid) {x : Nat} (hx : k.can x) : x ≠ k.clear := by
  have := Kn.can_great h hx
  have := k.fin_eq
  omega

theorem Kn.can_ne_fin {k : Kn} (h : k.Valid) {x : Nat} (hx : k.can x) : x ≠ k.fin := by
  have := Kn.can_great h hx
  have := k.fin_eq
  omega

/-- The setting and the base. -/
structure Kn.Like (k k' : Kn) : Prop where
  o : k'.o = k.o
  l : k'.l = k.l
  m : k'.m = k.m
  base : k'.base = k.base

theorem Kn.Like.refl (k : Kn) : k.Like k := ⟨rfl, rfl, rfl, rfl⟩

theorem Kn.Like.trans {a b c : Kn} (h : a.Like b) (g : b.Like c) : a.Like c := ⟨g.o.trans h.o, g.l.trans h.l, g.m.trans h.m, g.base.trans h.base⟩

theorem Kn.like_cleared (k : Kn) : k.Like k.cleared := ⟨rfl, rfl, rfl, rfl⟩

theorem Kn.like_after (k : Kn) (x : Nat) : k.Like (k.after x) := ⟨rfl, rfl, rfl, rfl⟩

theorem Kn.like_step (k : Kn) (x : Nat) : k.Like (k.step x) := by
  unfold Kn.step
  split
  · exact k.like_cleared
  · exact k.like_after x

theorem Kn.Like.clear {k k' : Kn} (h : k.Like k') : k'.clear = k.clear := by unfold Kn.clear; rw [h.l]

theorem Kn.Like.fin {k k' : Kn} (h : k.Like k') : k'.fin = k.fin := by unfold Kn.fin; rw [h.l]

theorem Kn.Like.top {k k' : Kn} (h : k.Like k') : k'.top = k.top := by unfold Kn.top; rw [h.m]

/-- Codes that can follow one after the other: the end code at most at the end. -/
inductive Kn.Follow : Kn → List Nat → Prop
  | nil (k : Kn) : Kn.Follow k []
  | last (k : Kn) : Kn.Follow k [k.fin]
  | cons (k : Kn) (x : Nat) (xs : List Nat) : k.goes x → Kn.Follow (k.step x) xs → Kn.Follow k (x :: xs)

/-- What is known behind codes, without an end code. -/
def Kn.steps (k : Kn) : List Nat → Kn
  | [] => k
  | x :: xs => if x = k.fin then k else (k.step x).steps xs

/-- The data of codes. -/
def Kn.data (k : Kn) : List Nat → List UInt8
  | [] => []
  | x :: xs => if x = k.fin then [] else (if x = k.clear then [] else k.any x) ++ (k.step x).data xs

/-- Greedy codes of data, by fuel: without the clear code ahead. -/
def greedyF : Nat → Kn → List UInt8 → List Nat
  | 0, k, _ => [k.fin]
  | f + 1, k, data =>
    if data = [] then [k.fin]
    else
      let c := (k.find (k.longest data)).getD 0
      let k' := k.after c
      let rest := data.drop (k.longest data).length
      if rest ≠ [] ∧ k'.top < k'.next ∧ k'.base < k'.ps.length then c :: k'.clear :: greedyF f k'.cleared rest
      else c :: greedyF f k' rest

def Kn.greedy (k : Kn) (data : List UInt8) : List Nat := k.clear :: greedyF data.length k.cleared data

theorem Kn.longest_take {k : Kn} (h : k.Valid) {data : List UInt8} (hne : data ≠ []) (hf : k.fits data) :
    ∃ c, k.find (k.longest data) = some c ∧ k.can c ∧ k.any c = k.longest data ∧ k.longest data ++ data.drop (k.longest data).length = data ∧ 1 ≤ (k.longest data).length ∧ (k.longest data).length ≤ data.length ∧ ((k.longest data).length = 1 → ((k.longest data).headD 0).toNat < k.clear) := by
  cases data with
  | nil => exact absurd rfl hne
  | cons x r =>
    have hx := hf x (by simp)
    obtain ⟨hp, hc⟩ := Kn.longest_spec h (r := r) hx
    obtain ⟨c, h1, h2, h3⟩ := Kn.find_spec h hc
    rw [List.isPrefixOf_iff_prefix] at hp
    have hh := Kn.any_head h h2
    rw [h3] at hh
    obtain ⟨W, hW⟩ : ∃ W, k.longest (x :: r) = W := ⟨_, rfl⟩
    rw [hW] at hp hh h3 h1 ⊢
    obtain ⟨t, ht⟩ := hp
    refine ⟨c, h1, h2, h3, ?_, ?_, ?_, fun _ => hh.1⟩
    · rw [← ht]; simp
    · cases W with
      | nil => exact absurd rfl hh.2
      | cons a l => simp
    · rw [← ht]; simp

theorem Kn.Like.fits {k k' : Kn} (h : k.Like k') {data : List UInt8} (hf : k.fits data) : k'.fits data := fun c hc => by rw [h.clear]; exact hf c hc

theorem fits_drop {k : Kn} {data : List UInt8} (hf : k.fits data) (n : Nat) : k.fits (data.drop n) := fun c hc => hf c (List.mem_of_mem_drop hc)

theorem Kn.step_can {k : Kn} (h : k.Valid) {x : Nat} (hx : k.can x) : k.step x = k.after x := by
  unfold Kn.step
  rw [if_neg (Kn.can_ne_clear h hx)]

theorem Kn.step_clear (k : Kn) : k.step k.clear = k.cleared := by
  unfold Kn.step
  rw [if_pos rfl]

/-- Greedy codes can follow, and their data is the data. -/
theorem greedyF_spec : ∀ (f : Nat) (k : Kn) (data : List UInt8), k.Valid → k.fits data → data.length ≤ f → k.Follow (greedyF f k data) ∧ k.data (greedyF f k data) = data ∧ (greedyF f k data).length ≤ 2 * data.length + 1 := by
  intro f
  induction f with
  | zero =>
    intro k data h hf hl
    have : data = [] := List.eq_nil_of_length_eq_zero (by omega)
    subst this
    refine ⟨Kn.Follow.last k, ?_, by simp [greedyF]⟩
    unfold greedyF Kn.data
    rw [if_pos rfl]
  | succ f ih =>
    intro k data h hf hl
    rw [greedyF]
    by_cases hd : data = []
    · subst hd
      rw [if_pos rfl]
      refine ⟨Kn.Follow.last k, ?_, by simp⟩
      unfold Kn.data
      rw [if_pos rfl]
    · rw [if_neg hd]
      obtain ⟨c, h1, h2, h3, h4, h5, h6, _⟩ := Kn.longest_take h hd hf
      simp only [h1, Option.getD_some]
      have hv := Kn.after_valid h h2
      have hlk := k.like_after c
      have hfr : (k.after c).fits (data.drop (k.longest data).length) := hlk.fits (fits_drop hf _)
      have hrl : (data.drop (k.longest data).length).length + (k.longest data).length = data.length := by rw [List.length_drop]; omega
      have hst := Kn.step_can h h2
      have hne := Kn.can_ne_fin h h2
      have hnc := Kn.can_ne_clear h h2
      split
      · have hcv := Kn.cleared_valid hv
        have hlc := (k.after c).like_cleared
        obtain ⟨g1, g2, g3⟩ := ih (k.after c).cleared (data.drop (k.longest data).length) hcv (hlc.fits hfr) (by omega)
        have hcf : (k.after c).clear ≠ (k.after c).fin := by have := (k.after c).fin_eq; omega
        refine ⟨Kn.Follow.cons k c _ (Or.inr h2) ?_, ?_, ?_⟩
        · rw [hst]
          exact Kn.Follow.cons _ _ _ (Or.inl rfl) (by rw [Kn.step_clear]; exact g1)
        · rw [Kn.data, if_neg hne, if_neg hnc, hst, Kn.data, if_neg hcf, if_pos rfl, Kn.step_clear, g2, h3]
          simpa using h4
        · simp only [List.length_cons]
          omega
      · obtain ⟨g1, g2, g3⟩ := ih (k.after c) (data.drop (k.longest data).length) hv hfr (by omega)
        refine ⟨Kn.Follow.cons k c _ (Or.inr h2) (by rw [hst]; exact g1), ?_, ?_⟩
        · rw [Kn.data, if_neg hne, if_neg hnc, hst, g2, h3]
          exact h4
        · simp only [List.length_cons]
          omega

theorem Kn.greedy_spec {k : Kn} (h : k.Valid) {data : List UInt8} (hf : k.fits data) : k.Follow (k.greedy data) ∧ k.data (k.greedy data) = data ∧ (k.greedy data).length ≤ 2 * data.length + 2 := by
  obtain ⟨g1, g2, g3⟩ := greedyF_spec data.length k.cleared data (Kn.cleared_valid h) (k.like_cleared.fits hf) (Nat.le_refl _)
  have hcf : k.clear ≠ k.fin := by have := k.fin_eq; omega
  unfold Kn.greedy
  refine ⟨Kn.Follow.cons k _ _ (Or.inl rfl) (by rw [Kn.step_clear]; exact g1), ?_, by simp only [List.length_cons]; omega⟩
  rw [Kn.data, if_neg hcf, if_pos rfl, Kn.step_clear, g2]
  rfl

end Go.Proofs.Ythfckbfllodcjaa
