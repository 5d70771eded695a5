/-
  What is known to a reader of codes, as plain data: words, the next code, the longest word, the codes of a text.
-/
import Derived.Test.YthfckbfllodcjaaBase
namespace Go.Proofs.Ythfckbfllodcjaa
set_option linter.unusedVariables false

/-- What is known: the setting (order, literal, most), the pairs, how many a clear code keeps, the last code. -/
structure Kn where
  o : Nat
  l : Nat
  m : Nat
  ps : List (Nat × Nat)
  base : Nat
  last : Option Nat

def Kn.clear (k : Kn) : Nat := 2 ^ k.l

def Kn.fin (k : Kn) : Nat := 2 ^ k.l + 1

def Kn.top (k : Kn) : Nat := 2 ^ k.m - 1

def Kn.next (k : Kn) : Nat := k.fin + 1 + k.ps.length

def Kn.grows (k : Kn) : Prop := k.last.isSome = true ∧ k.next ≤ k.top

instance (k : Kn) : Decidable k.grows := by unfold Kn.grows; infer_instance

def Kn.great (k : Kn) : Nat := if k.grows then k.next else k.next - 1

/-- A code of a word among the literals and the first n pairs. -/
def Kn.has (k : Kn) (n c : Nat) : Prop := c < k.clear ∨ (k.fin < c ∧ c ≤ k.fin + n)

instance (k : Kn) (n c : Nat) : Decidable (k.has n c) := by unfold Kn.has; infer_instance

/-- The word of a code, by fuel. -/
def wordF (fin : Nat) (ps : List (Nat × Nat)) : Nat → Nat → List UInt8
  | 0, c => [UInt8.ofNat c]
  | f + 1, c => if fin < c then match ps[c - fin - 1]? with
      | some (p, b) => wordF fin ps f p ++ [UInt8.ofNat b]
      | none => [UInt8.ofNat c]
    else [UInt8.ofNat c]

def Kn.word (k : Kn) (c : Nat) : List UInt8 := wordF k.fin k.ps (k.ps.length + 1) c

structure Kn.Valid (k : Kn) : Prop where
  ord : k.o < 2
  lit1 : 1 ≤ k.l
  lit8 : k.l ≤ 8
  most : k.l + 2 ≤ k.m
  most10 : k.m ≤ 10
  room : k.ps.length ≤ k.top - k.fin
  keep : k.base ≤ k.ps.length
  pair : ∀ i p b, k.ps[i]? = some (p, b) → k.has i p ∧ b < k.clear
  tail : ∀ c, k.last = some c → k.has k.ps.length c

theorem Kn.Valid.pow {k : Kn} (h : k.Valid) : 2 ≤ k.clear ∧ k.clear ≤ 256 ∧ 4 * k.clear ≤ k.top + 1 ∧ k.top ≤ 1023 := by
  unfold Kn.clear Kn.top
  have h1 : 2 ^ 1 ≤ 2 ^ k.l := Nat.pow_le_pow_right (by omega) h.lit1
  have h2 : 2 ^ k.l ≤ 2 ^ 8 := Nat.pow_le_pow_right (by omega) h.lit8
  have h3 : 2 ^ (k.l + 2) ≤ 2 ^ k.m := Nat.pow_le_pow_right (by omega) h.most
  have h4 : 2 ^ k.m ≤ 2 ^ 10 := Nat.pow_le_pow_right (by omega) h.most10
  have h5 : 2 ^ (k.l + 2) = 2 ^ k.l * 4 := by rw [Nat.pow_add]
  omega

theorem Kn.fin_eq (k : Kn) : k.fin = k.clear + 1 := rfl

/-- A code's word does not hang on the fuel, if there is enough of it. -/
theorem wordF_more {fin : Nat} {ps : List (Nat × Nat)} (hp : ∀ i p b, ps[i]? = some (p, b) → p ≤ fin ∨ p ≤ fin + i) : ∀ (f g c : Nat), c - fin ≤ f → c - fin ≤ g → wordF fin ps f c = wordF fin ps g c := by
  intro f
  induction f with
  | zero =>
    intro g c hf hg
    cases g with
    | zero => rfl
    | succ g => rw [wordF, wordF, if_neg (by omega)]
  | succ f ih =>
    intro g c hf hg
    by_cases hc : fin < c
    · cases g with
      | zero => omega
      | succ g =>
        rw [wordF, wordF, if_pos hc, if_pos hc]
        rcases hx : ps[c - fin - 1]? with _ | ⟨p, b⟩
        · rfl
        · simp only
          have := hp _ _ _ hx
          rw [ih g p (by omega) (by omega)]
    · cases g with
      | zero => rw [wordF, wordF, if_neg hc]
      | succ g => rw [wordF, wordF, if_neg hc, if_neg hc]

theorem Kn.Valid.below {k : Kn} (h : k.Valid) : ∀ i p b, k.ps[i]? = some (p, b) → p ≤ k.fin ∨ p ≤ k.fin + i := fun i p b hi => by
  have := (h.pair i p b hi).1
  have := k.fin_eq
  unfold Kn.has at *
  omega

theorem Kn.word_lit (k : Kn) {c : Nat} (hc : c ≤ k.fin) : k.word c = [UInt8.ofNat c] := by
  unfold Kn.word
  rw [wordF, if_neg (by omega)]

theorem Kn.word_pair {k : Kn} (h : k.Valid) {i p b : Nat} (hi : k.ps[i]? = some (p, b)) : k.word (k.fin + 1 + i) = k.word p ++ [UInt8.ofNat b] := by
  have hlt := (List.getElem?_eq_some_iff.1 hi).1
  have hb := h.below i p b hi
  unfold Kn.word
  conv => lhs; rw [wordF, if_pos (by omega)]
  rw [show k.fin + 1 + i - k.fin - 1 = i by omega, hi]
  simp only
  rw [wordF_more h.below k.ps.length (k.ps.length + 1) p (by omega) (by omega)]

theorem Kn.word_ne {k : Kn} (c : Nat) : k.word c ≠ [] := by
  unfold Kn.word
  rw [wordF]
  split
  · split
    · simp
    · simp
  · simp

/-- The word of a code that can follow: that to come, or one that there is. -/
def Kn.any (k : Kn) (c : Nat) : List UInt8 :=
  match k.last with
  | some q => if c = k.next then k.word q ++ (k.word q).take 1 else k.word c
  | none => k.word c

/-- The least code with a word. -/
def Kn.find (k : Kn) (w : List UInt8) : Option Nat :=
  if w.length = 1 ∧ (w.headD 0).toNat < k.clear then some (w.headD 0).toNat
  else ((List.range' (k.fin + 1) (k.great - k.fin)).find? fun c => k.any c = w)

/-- What is known behind a code with a word. -/
def Kn.after (k : Kn) (c : Nat) : Kn :=
  { k with ps := if k.grows then k.ps ++ [(k.last.getD 0, ((k.any c).headD 0).toNat)] else k.ps, last := some c }

def Kn.cleared (k : Kn) : Kn := { k with ps := k.ps.take k.base, last := none }

/-- The longest word with which data begins. -/
def Kn.longest (k : Kn) (data : List UInt8) : List UInt8 :=
  (List.range' (k.fin + 1) (k.great - k.fin)).foldl (fun best c => if best.length < (k.any c).length ∧ (k.any c).isPrefixOf data = true then k.any c else best) (data.take 1)

theorem Kn.cleared_valid {k : Kn} (h : k.Valid) : k.cleared.Valid := by
  have hk := h.keep
  refine ⟨h.ord, h.lit1, h.lit8, h.most, h.most10, ?_, ?_, ?_, ?_⟩
  · show (k.ps.take k.base).length ≤ k.top - k.fin
    have := h.room
    rw [List.length_take]; omega
  · show k.base ≤ (k.ps.take k.base).length
    rw [List.length_take]; omega
  · intro i p b hi
    have hi' : k.ps[i]? = some (p, b) := by
      have hlt := (List.getElem?_eq_some_iff.1 hi).1
      have : i < k.base := by
        have := hlt
        simp only [Kn.cleared, List.length_take] at this
        omega
      simpa [Kn.cleared, List.getElem?_take, this] using hi
    exact h.pair i p b hi'
  · intro c hc; cases hc

end Go.Proofs.Ythfckbfllodcjaa
