/-
  What is known to a reader of codes, as plain data: words, the next code, the longest word, the codes of a text.
  What is known, further plain facts: what follows a code is known too; the longest word has a code.
  Codes that can follow one after the other, as plain data: the step, the greedy codes, the widths and the data of codes.
  The greedy codes in the program's order: a clear code ahead of a word when no code is left.
  The tree of words as plain data: nodes behind the literals (parent, last byte, least code), the node of each pair; what it finds is the longest word and its least code.
  The tree of words, further plain facts: the tree of nothing, pairs forgotten, the longest word.
  The tree finds the longest word and its least code.
-/
import Derived.Test.YthlgpgaeajfchaaGreatDoorBase

namespace Go.Proofs.YthlgpgaeajfchaaGreatDoor
set_option linter.unusedVariables false

/-- What is known: the setting (order, literal, most), the pairs, how many a clear code keeps, the last code. -/
structure Kn where
  o : Nat
  l : Nat
  m : Nat
  ps : List (Nat × Nat)
  base : Nat
  last : Option Nat

def Kn.clear (k : Kn) : Nat := 2 ^ k.l

def Kn.fin (k : Kn) : Nat := 2 ^ k.l + 1

def Kn.top (k : Kn) : Nat := 2 ^ k.m - 1

def Kn.next (k : Kn) : Nat := k.fin + 1 + k.ps.length

def Kn.grows (k : Kn) : Prop := k.last.isSome = true ∧ k.next ≤ k.top

instance (k : Kn) : Decidable k.grows := by unfold Kn.grows; infer_instance

def Kn.great (k : Kn) : Nat := if k.grows then k.next else k.next - 1

/-- A code of a word among the literals and the first n pairs. -/
def Kn.has (k : Kn) (n c : Nat) : Prop := c < k.clear ∨ (k.fin < c ∧ c ≤ k.fin + n)

instance (k : Kn) (n c : Nat) : Decidable (k.has n c) := by unfold Kn.has; infer_instance

/-- The word of a code, by fuel. -/
def wordF (fin : Nat) (ps : List (Nat × Nat)) : Nat → Nat → List UInt8
  | 0, c => [UInt8.ofNat c]
  | f + 1, c => if fin < c then match ps[c - fin - 1]? with
      | some (p, b) => wordF fin ps f p ++ [UInt8.ofNat b]
      | none => [UInt8.ofNat c]
    else [UInt8.ofNat c]

def Kn.word (k : Kn) (c : Nat) : List UInt8 := wordF k.fin k.ps (k.ps.length + 1) c

structure Kn.Valid (k : Kn) : Prop where
  ord : k.o < 2
  lit1 : 1 ≤ k.l
  lit8 : k.l ≤ 8
  most : k.l + 2 ≤ k.m
  most10 : k.m ≤ 10
  room : k.ps.length ≤ k.top - k.fin
  keep : k.base ≤ k.ps.length
  pair : ∀ i p b, k.ps[i]? = some (p, b) → k.has i p ∧ b < k.clear
  tail : ∀ c, k.last = some c → k.has k.ps.length c

theorem Kn.Valid.pow {k : Kn} (h : k.Valid) : 2 ≤ k.clear ∧ k.clear ≤ 256 ∧ 4 * k.clear ≤ k.top + 1 ∧ k.top ≤ 1023 := by
  unfold Kn.clear Kn.top
  have h1 : 2 ^ 1 ≤ 2 ^ k.l := Nat.pow_le_pow_right (by omega) h.lit1
  have h2 : 2 ^ k.l ≤ 2 ^ 8 := Nat.pow_le_pow_right (by omega) h.lit8
  have h3 : 2 ^ (k.l + 2) ≤ 2 ^ k.m := Nat.pow_le_pow_right (by omega) h.most
  have h4 : 2 ^ k.m ≤ 2 ^ 10 := Nat.pow_le_pow_right (by omega) h.most10
  have h5 : 2 ^ (k.l + 2) = 2 ^ k.l * 4 := by rw [Nat.pow_add]
  omega

theorem Kn.fin_eq (k : Kn) : k.fin = k.clear + 1 := rfl

/-- A code's word does not hang on the fuel, if there is enough of it. -/
theorem wordF_more {fin : Nat} {ps : List (Nat × Nat)} (hp : ∀ i p b, ps[i]? = some (p, b) → p ≤ fin ∨ p ≤ fin + i) : ∀ (f g c : Nat), c - fin ≤ f → c - fin ≤ g → wordF fin ps f c = wordF fin ps g c := by
  intro f
  induction f with
  | zero =>
    intro g c hf hg
    cases g with
    | zero => rfl
    | succ g => rw [wordF, wordF, if_neg (by omega)]
  | succ f ih =>
    intro g c hf hg
    by_cases hc : fin < c
    · cases g with
      | zero => omega
      | succ g =>
        rw [wordF, wordF, if_pos hc, if_pos hc]
        rcases hx : ps[c - fin - 1]? with _ | ⟨p, b⟩
        · rfl
        · simp only
          have := hp _ _ _ hx
          rw [ih g p (by omega) (by omega)]
    · cases g with
      | zero => rw [wordF, wordF, if_neg hc]
      | succ g => rw [wordF, wordF, if_neg hc, if_neg hc]

theorem Kn.Valid.below {k : Kn} (h : k.Valid) : ∀ i p b, k.ps[i]? = some (p, b) → p ≤ k.fin ∨ p ≤ k.fin + i := fun i p b hi => by
  have := (h.pair i p b hi).1
  have := k.fin_eq
  unfold Kn.has at *
  omega

theorem Kn.word_lit (k : Kn) {c : Nat} (hc : c ≤ k.fin) : k.word c = [UInt8.ofNat c] := by
  unfold Kn.word
  rw [wordF, if_neg (by omega)]

theorem Kn.word_pair {k : Kn} (h : k.Valid) {i p b : Nat} (hi : k.ps[i]? = some (p, b)) : k.word (k.fin + 1 + i) = k.word p ++ [UInt8.ofNat b] := by
  have hlt := (List.getElem?_eq_some_iff.1 hi).1
  have hb := h.below i p b hi
  unfold Kn.word
  conv => lhs; rw [wordF, if_pos (by omega)]
  rw [show k.fin + 1 + i - k.fin - 1 = i by omega, hi]
  simp only
  rw [wordF_more h.below k.ps.length (k.ps.length + 1) p (by omega) (by omega)]

theorem Kn.word_ne {k : Kn} (c : Nat) : k.word c ≠ [] := by
  unfold Kn.word
  rw [wordF]
  split
  · split
    · simp
    · simp
  · simp

/-- The word of a code that can follow: that to come, or one that there is. -/
def Kn.any (k : Kn) (c : Nat) : List UInt8 :=
  match k.last with
  | some q => if c = k.next then k.word q ++ (k.word q).take 1 else k.word c
  | none => k.word c

/-- The least code with a word. -/
def Kn.find (k : Kn) (w : List UInt8) : Option Nat :=
  if w.length = 1 ∧ (w.headD 0).toNat < k.clear then some (w.headD 0).toNat
  else ((List.range' (k.fin + 1) (k.great - k.fin)).find? fun c => k.any c = w)

/-- What is known behind a code with a word. -/
def Kn.after (k : Kn) (c : Nat) : Kn :=
  { k with ps := if k.grows then k.ps ++ [(k.last.getD 0, ((k.any c).headD 0).toNat)] else k.ps, last := some c }

def Kn.cleared (k : Kn) : Kn := { k with ps := k.ps.take k.base, last := none }

/-- The longest word with which data begins. -/
def Kn.longest (k : Kn) (data : List UInt8) : List UInt8 :=
  (List.range' (k.fin + 1) (k.great - k.fin)).foldl (fun best c => if best.length < (k.any c).length ∧ (k.any c).isPrefixOf data = true then k.any c else best) (data.take 1)

theorem Kn.cleared_valid {k : Kn} (h : k.Valid) : k.cleared.Valid := by
  have hk := h.keep
  refine ⟨h.ord, h.lit1, h.lit8, h.most, h.most10, ?_, ?_, ?_, ?_⟩
  · show (k.ps.take k.base).length ≤ k.top - k.fin
    have := h.room
    rw [List.length_take]; omega
  · show k.base ≤ (k.ps.take k.base).length
    rw [List.length_take]; omega
  · intro i p b hi
    have hi' : k.ps[i]? = some (p, b) := by
      have hlt := (List.getElem?_eq_some_iff.1 hi).1
      have : i < k.base := by
        have := hlt
        simp only [Kn.cleared, List.length_take] at this
        omega
      simpa [Kn.cleared, List.getElem?_take, this] using hi
    exact h.pair i p b hi'
  · intro c hc; cases hc

end Go.Proofs.YthlgpgaeajfchaaGreatDoor

namespace Go.Proofs.YthlgpgaeajfchaaGreatDoor
set_option linter.unusedVariables false

/-- A code with a word that can follow. -/
def Kn.can (k : Kn) (c : Nat) : Prop := k.has k.ps.length c ∨ (k.grows ∧ c = k.next)

theorem Kn.has_more {k : Kn} {n n' c : Nat} (h : k.has n c) (hn : n ≤ n') : k.has n' c := by
  unfold Kn.has at *; omega

theorem Kn.great_bounds {k : Kn} (h : k.Valid) : k.fin + k.ps.length ≤ k.great ∧ k.great ≤ k.top ∧ k.great ≤ k.fin + k.ps.length + 1 := by
  have hr := h.room
  have hp := h.pow
  have hf := k.fin_eq
  unfold Kn.great
  split
  · rename_i hg
    have := hg.2
    unfold Kn.next at *
    omega
  · unfold Kn.next
    omega

theorem Kn.can_range {k : Kn} (h : k.Valid) {c : Nat} (h1 : k.fin < c) (h2 : c ≤ k.great) : k.can c := by
  unfold Kn.great at h2
  split at h2
  · rename_i hg
    by_cases hc : c = k.next
    · exact Or.inr ⟨hg, hc⟩
    · exact Or.inl (Or.inr ⟨h1, by unfold Kn.next at *; omega⟩)
  · exact Or.inl (Or.inr ⟨h1, by unfold Kn.next at *; omega⟩)

theorem Kn.can_great {k : Kn} (h : k.Valid) {c : Nat} (hc : k.can c) : c < k.clear ∨ (k.fin < c ∧ c ≤ k.great) := by
  have hg := Kn.great_bounds h
  rcases hc with h1 | ⟨h1, h2⟩
  · unfold Kn.has at h1; omega
  · right
    unfold Kn.great
    rw [if_pos h1]
    unfold Kn.next at *
    omega

theorem headD_append {a b : List UInt8} (h : a ≠ []) : (a ++ b).headD 0 = a.headD 0 := by
  cases a with
  | nil => exact absurd rfl h
  | cons x xs => rfl

theorem Kn.word_head {k : Kn} (h : k.Valid) : ∀ (n c : Nat), c ≤ n → k.has k.ps.length c → ((k.word c).headD 0).toNat < k.clear := by
  have hp := h.pow
  intro n
  induction n with
  | zero =>
    intro c hc _
    obtain rfl : c = 0 := by omega
    rw [k.word_lit (by omega)]
    show (UInt8.ofNat 0).toNat < _
    rw [UInt8.toNat_ofNat']
    omega
  | succ n ih =>
    intro c hc hh
    by_cases hl : c < k.clear
    · rw [k.word_lit (by have := k.fin_eq; omega)]
      show (UInt8.ofNat c).toNat < _
      rw [UInt8.toNat_ofNat']
      omega
    · have hf := k.fin_eq
      have hh' : k.fin < c ∧ c ≤ k.fin + k.ps.length := by unfold Kn.has at hh; omega
      obtain ⟨i, rfl⟩ : ∃ i, c = k.fin + 1 + i := ⟨c - k.fin - 1, by omega⟩
      have hi : i < k.ps.length := by omega
      rcases hx : k.ps[i] with ⟨p, b⟩
      have hpb : k.ps[i]? = some (p, b) := by rw [List.getElem?_eq_getElem hi, hx]
      rw [Kn.word_pair h hpb, headD_append (Kn.word_ne p)]
      have h1 := (h.pair i p b hpb).1
      refine ih p ?_ (Kn.has_more h1 (by omega))
      unfold Kn.has at h1
      omega

theorem Kn.any_old {k : Kn} {c : Nat} (hc : c ≠ k.next) : k.any c = k.word c := by
  unfold Kn.any
  split
  · rw [if_neg hc]
  · rfl

theorem Kn.has_ne {k : Kn} {c : Nat} (hc : k.has k.ps.length c) : c ≠ k.next := by
  unfold Kn.has at hc
  unfold Kn.next
  have := k.fin_eq
  omega

theorem Kn.any_next {k : Kn} {q : Nat} (hq : k.last = some q) : k.any k.next = k.word q ++ (k.word q).take 1 := by
  unfold Kn.any
  rw [hq]
  simp only
  rw [if_pos trivial]

theorem Kn.any_head {k : Kn} (h : k.Valid) {c : Nat} (hc : k.can c) : ((k.any c).headD 0).toNat < k.clear ∧ k.any c ≠ [] := by
  rcases hc with h1 | ⟨h1, h2⟩
  · rw [Kn.any_old (Kn.has_ne h1)]
    exact ⟨Kn.word_head h c c (Nat.le_refl _) h1, Kn.word_ne c⟩
  · obtain ⟨q, hq⟩ : ∃ q, k.last = some q := by
      have := h1.1
      cases hl : k.last with
      | none => rw [hl] at this; cases this
      | some q => exact ⟨q, rfl⟩
    subst h2
    rw [Kn.any_next hq]
    have hn := Kn.word_ne (k := k) q
    refine ⟨?_, by simp [hn]⟩
    rw [headD_append hn]
    exact Kn.word_head h q q (Nat.le_refl _) (h.tail q hq)

theorem Kn.after_valid {k : Kn} (h : k.Valid) {c : Nat} (hc : k.can c) : (k.after c).Valid := by
  have hf := k.fin_eq
  have hp := h.pow
  by_cases hg : k.grows
  · obtain ⟨q, hq⟩ : ∃ q, k.last = some q := by
      have := hg.1
      cases hl : k.last with
      | none => rw [hl] at this; cases this
      | some q => exact ⟨q, rfl⟩
    have e : k.after c = { k with ps := k.ps ++ [(q, ((k.any c).headD 0).toNat)], last := some c } := by
      unfold Kn.after
      rw [if_pos hg, hq]
      rfl
    rw [e]
    refine ⟨h.ord, h.lit1, h.lit8, h.most, h.most10, ?_, ?_, ?_, ?_⟩
    · have := hg.2
      unfold Kn.next at this
      show (k.ps ++ _).length ≤ k.top - k.fin
      rw [List.length_append]
      simp only [List.length_cons, List.length_nil]
      omega
    · have := h.keep
      show k.base ≤ (k.ps ++ _).length
      rw [List.length_append]
      omega
    · intro i p b hi
      by_cases hlt : i < k.ps.length
      · have hi' : k.ps[i]? = some (p, b) := by
          have : (k.ps ++ [(q, ((k.any c).headD 0).toNat)])[i]? = some (p, b) := hi
          rwa [List.getElem?_append_left hlt] at this
        exact h.pair i p b hi'
      · have hi' : (k.ps ++ [(q, ((k.any c).headD 0).toNat)])[i]? = some (p, b) := hi
        have hil := (List.getElem?_eq_some_iff.1 hi').1
        rw [List.length_append] at hil
        simp only [List.length_cons, List.length_nil] at hil
        obtain rfl : i = k.ps.length := by omega
        rw [List.getElem?_append_right (Nat.le_refl _), Nat.sub_self] at hi'
        simp only [List.getElem?_cons_zero, Option.some.injEq, Prod.mk.injEq] at hi'
        obtain ⟨rfl, rfl⟩ := hi'
        exact ⟨h.tail _ hq, (Kn.any_head h hc).1⟩
    · intro x hx
      have hx' : c = x := by injection hx
      subst hx'
      show k.has (k.ps ++ _).length c
      rw [List.length_append]
      rcases hc with h1 | ⟨h1, h2⟩
      · exact Kn.has_more h1 (by omega)
      · right
        unfold Kn.next at h2
        simp only [List.length_cons, List.length_nil]
        omega
  · have e : k.after c = { k with last := some c } := by
      unfold Kn.after
      rw [if_neg hg]
    rw [e]
    refine ⟨h.ord, h.lit1, h.lit8, h.most, h.most10, h.room, h.keep, h.pair, ?_⟩
    intro x hx
    have hx' : c = x := by injection hx
    subst hx'
    rcases hc with h1 | ⟨h1, h2⟩
    · exact h1
    · exact absurd h1 hg

/-- A text that can be written: its bytes are literals. -/
def Kn.fits (k : Kn) (data : List UInt8) : Prop := ∀ c ∈ data, c.toNat < k.clear

theorem Kn.longest_spec {k : Kn} (h : k.Valid) {x : UInt8} {r : List UInt8} (hx : x.toNat < k.clear) :
    (k.longest (x :: r)).isPrefixOf (x :: r) = true ∧ ∃ c, k.can c ∧ k.any c = k.longest (x :: r) := by
  have hf := k.fin_eq
  have hp := h.pow
  unfold Kn.longest
  have main : ∀ (cs : List Nat) (best : List UInt8), (∀ c ∈ cs, k.can c) → (best.isPrefixOf (x :: r) = true ∧ ∃ c, k.can c ∧ k.any c = best) →
      ((cs.foldl (fun best c => if best.length < (k.any c).length ∧ (k.any c).isPrefixOf (x :: r) = true then k.any c else best) best).isPrefixOf (x :: r) = true ∧
        ∃ c, k.can c ∧ k.any c = cs.foldl (fun best c => if best.length < (k.any c).length ∧ (k.any c).isPrefixOf (x :: r) = true then k.any c else best) best) := by
    intro cs
    induction cs with
    | nil => intro best _ hb; exact hb
    | cons c cs ih =>
      intro best hcs hb
      rw [List.foldl_cons]
      refine ih _ (fun c' hc' => hcs c' (List.mem_cons_of_mem _ hc')) ?_
      split
      · rename_i hif
        exact ⟨hif.2, c, hcs c (by simp), rfl⟩
      · exact hb
  refine main _ _ (fun c hc => ?_) ⟨by simp, x.toNat, Or.inl (Or.inl hx), ?_⟩
  · rw [List.mem_range'] at hc
    obtain ⟨i, hi, rfl⟩ := hc
    exact Kn.can_range h (by omega) (by omega)
  · rw [Kn.any_old (Kn.has_ne (Or.inl hx)), k.word_lit (by omega)]
    simp

theorem Kn.find_spec {k : Kn} (h : k.Valid) {w : List UInt8} (hw : ∃ c, k.can c ∧ k.any c = w) : ∃ c, k.find w = some c ∧ k.can c ∧ k.any c = w := by
  have hf := k.fin_eq
  have hp := h.pow
  obtain ⟨c, hc, he⟩ := hw
  unfold Kn.find
  by_cases h1 : w.length = 1 ∧ (w.headD 0).toNat < k.clear
  · rw [if_pos h1]
    refine ⟨_, rfl, Or.inl (Or.inl h1.2), ?_⟩
    rw [Kn.any_old (Kn.has_ne (Or.inl h1.2)), k.word_lit (by omega)]
    match w, h1.1 with
    | [y], _ => simp
  · rw [if_neg h1]
    rcases Kn.can_great h hc with hl | ⟨hl1, hl2⟩
    · exfalso
      apply h1
      rw [Kn.any_old (Kn.has_ne (Or.inl hl)), k.word_lit (by omega)] at he
      subst he
      refine ⟨rfl, ?_⟩
      show (UInt8.ofNat c).toNat < _
      rw [UInt8.toNat_ofNat']
      omega
    · have hmem : c ∈ List.range' (k.fin + 1) (k.great - k.fin) := by
        rw [List.mem_range']
        exact ⟨c - k.fin - 1, by omega, by omega⟩
      have hsome : ((List.range' (k.fin + 1) (k.great - k.fin)).find? fun c => decide (k.any c = w)).isSome = true := by
        rw [List.find?_isSome]
        exact ⟨c, hmem, by simpa using he⟩
      obtain ⟨c', hc'⟩ := Option.isSome_iff_exists.1 hsome
      refine ⟨c', hc', ?_, by simpa using List.find?_some hc'⟩
      have hm' := List.mem_of_find?_eq_some hc'
      rw [List.mem_range'] at hm'
      obtain ⟨i, hi, rfl⟩ := hm'
      exact Kn.can_range h (by omega) (by omega)

end Go.Proofs.YthlgpgaeajfchaaGreatDoor

namespace Go.Proofs.YthlgpgaeajfchaaGreatDoor
set_option linter.unusedVariables false

/-- What is known behind a clear code or a code with a word. -/
def Kn.step (k : Kn) (x : Nat) : Kn := if x = k.clear then k.cleared else k.after x

/-- A clear code or a code with a word. -/
def Kn.goes (k : Kn) (x : Nat) : Prop := x = k.clear ∨ k.can x

theorem Kn.step_valid {k : Kn} (h : k.Valid) {x : Nat} (hx : k.goes x) : (k.step x).Valid := by
  unfold Kn.step
  split
  · exact Kn.cleared_valid h
  · rename_i hc
    rcases hx with h1 | h1
    · exact absurd h1 hc
    · exact Kn.after_valid h h1

theorem Kn.can_ne_clear {k : Kn} (h : k.Valid) {x : Nat} (hx : k.can x) : x ≠ k.clear := by
  have := Kn.can_great h hx
  have := k.fin_eq
  omega

theorem Kn.can_ne_fin {k : Kn} (h : k.Valid) {x : Nat} (hx : k.can x) : x ≠ k.fin := by
  have := Kn.can_great h hx
  have := k.fin_eq
  omega

/-- The setting and the base. -/
structure Kn.Like (k k' : Kn) : Prop where
  o : k'.o = k.o
  l : k'.l = k.l
  m : k'.m = k.m
  base : k'.base = k.base

theorem Kn.Like.refl (k : Kn) : k.Like k := ⟨rfl, rfl, rfl, rfl⟩

theorem Kn.Like.trans {a b c : Kn} (h : a.Like b) (g : b.Like c) : a.Like c := ⟨g.o.trans h.o, g.l.trans h.l, g.m.trans h.m, g.base.trans h.base⟩

theorem Kn.like_cleared (k : Kn) : k.Like k.cleared := ⟨rfl, rfl, rfl, rfl⟩

theorem Kn.like_after (k : Kn) (x : Nat) : k.Like (k.after x) := ⟨rfl, rfl, rfl, rfl⟩

theorem Kn.like_step (k : Kn) (x : Nat) : k.Like (k.step x) := by
  unfold Kn.step
  split
  · exact k.like_cleared
  · exact k.like_after x

theorem Kn.Like.clear {k k' : Kn} (h : k.Like k') : k'.clear = k.clear := by unfold Kn.clear; rw [h.l]

theorem Kn.Like.fin {k k' : Kn} (h : k.Like k') : k'.fin = k.fin := by unfold Kn.fin; rw [h.l]

theorem Kn.Like.top {k k' : Kn} (h : k.Like k') : k'.top = k.top := by unfold Kn.top; rw [h.m]

/-- Codes that can follow one after the other: the end code at most at the end. -/
inductive Kn.Follow : Kn → List Nat → Prop
  | nil (k : Kn) : Kn.Follow k []
  | last (k : Kn) : Kn.Follow k [k.fin]
  | cons (k : Kn) (x : Nat) (xs : List Nat) : k.goes x → Kn.Follow (k.step x) xs → Kn.Follow k (x :: xs)

/-- What is known behind codes, without an end code. -/
def Kn.steps (k : Kn) : List Nat → Kn
  | [] => k
  | x :: xs => if x = k.fin then k else (k.step x).steps xs

/-- The data of codes. -/
def Kn.data (k : Kn) : List Nat → List UInt8
  | [] => []
  | x :: xs => if x = k.fin then [] else (if x = k.clear then [] else k.any x) ++ (k.step x).data xs

/-- Greedy codes of data, by fuel: without the clear code ahead. -/
def greedyF : Nat → Kn → List UInt8 → List Nat
  | 0, k, _ => [k.fin]
  | f + 1, k, data =>
    if data = [] then [k.fin]
    else
      let c := (k.find (k.longest data)).getD 0
      let k' := k.after c
      let rest := data.drop (k.longest data).length
      if rest ≠ [] ∧ k'.top < k'.next ∧ k'.base < k'.ps.length then c :: k'.clear :: greedyF f k'.cleared rest
      else c :: greedyF f k' rest

def Kn.greedy (k : Kn) (data : List UInt8) : List Nat := k.clear :: greedyF data.length k.cleared data

theorem Kn.longest_take {k : Kn} (h : k.Valid) {data : List UInt8} (hne : data ≠ []) (hf : k.fits data) :
    ∃ c, k.find (k.longest data) = some c ∧ k.can c ∧ k.any c = k.longest data ∧ k.longest data ++ data.drop (k.longest data).length = data ∧ 1 ≤ (k.longest data).length ∧ (k.longest data).length ≤ data.length ∧ ((k.longest data).length = 1 → ((k.longest data).headD 0).toNat < k.clear) := by
  cases data with
  | nil => exact absurd rfl hne
  | cons x r =>
    have hx := hf x (by simp)
    obtain ⟨hp, hc⟩ := Kn.longest_spec h (r := r) hx
    obtain ⟨c, h1, h2, h3⟩ := Kn.find_spec h hc
    rw [List.isPrefixOf_iff_prefix] at hp
    have hh := Kn.any_head h h2
    rw [h3] at hh
    obtain ⟨W, hW⟩ : ∃ W, k.longest (x :: r) = W := ⟨_, rfl⟩
    rw [hW] at hp hh h3 h1 ⊢
    obtain ⟨t, ht⟩ := hp
    refine ⟨c, h1, h2, h3, ?_, ?_, ?_, fun _ => hh.1⟩
    · rw [← ht]; simp
    · cases W with
      | nil => exact absurd rfl hh.2
      | cons a l => simp
    · rw [← ht]; simp

theorem Kn.Like.fits {k k' : Kn} (h : k.Like k') {data : List UInt8} (hf : k.fits data) : k'.fits data := fun c hc => by rw [h.clear]; exact hf c hc

theorem fits_drop {k : Kn} {data : List UInt8} (hf : k.fits data) (n : Nat) : k.fits (data.drop n) := fun c hc => hf c (List.mem_of_mem_drop hc)

theorem Kn.step_can {k : Kn} (h : k.Valid) {x : Nat} (hx : k.can x) : k.step x = k.after x := by
  unfold Kn.step
  rw [if_neg (Kn.can_ne_clear h hx)]

theorem Kn.step_clear (k : Kn) : k.step k.clear = k.cleared := by
  unfold Kn.step
  rw [if_pos rfl]

/-- Greedy codes can follow, and their data is the data. -/
theorem greedyF_spec : ∀ (f : Nat) (k : Kn) (data : List UInt8), k.Valid → k.fits data → data.length ≤ f → k.Follow (greedyF f k data) ∧ k.data (greedyF f k data) = data ∧ (greedyF f k data).length ≤ 2 * data.length + 1 := by
  intro f
  induction f with
  | zero =>
    intro k data h hf hl
    have : data = [] := List.eq_nil_of_length_eq_zero (by omega)
    subst this
    refine ⟨Kn.Follow.last k, ?_, by simp [greedyF]⟩
    unfold greedyF Kn.data
    rw [if_pos rfl]
  | succ f ih =>
    intro k data h hf hl
    rw [greedyF]
    by_cases hd : data = []
    · subst hd
      rw [if_pos rfl]
      refine ⟨Kn.Follow.last k, ?_, by simp⟩
      unfold Kn.data
      rw [if_pos rfl]
    · rw [if_neg hd]
      obtain ⟨c, h1, h2, h3, h4, h5, h6, _⟩ := Kn.longest_take h hd hf
      simp only [h1, Option.getD_some]
      have hv := Kn.after_valid h h2
      have hlk := k.like_after c
      have hfr : (k.after c).fits (data.drop (k.longest data).length) := hlk.fits (fits_drop hf _)
      have hrl : (data.drop (k.longest data).length).length + (k.longest data).length = data.length := by rw [List.length_drop]; omega
      have hst := Kn.step_can h h2
      have hne := Kn.can_ne_fin h h2
      have hnc := Kn.can_ne_clear h h2
      split
      · have hcv := Kn.cleared_valid hv
        have hlc := (k.after c).like_cleared
        obtain ⟨g1, g2, g3⟩ := ih (k.after c).cleared (data.drop (k.longest data).length) hcv (hlc.fits hfr) (by omega)
        have hcf : (k.after c).clear ≠ (k.after c).fin := by have := (k.after c).fin_eq; omega
        refine ⟨Kn.Follow.cons k c _ (Or.inr h2) ?_, ?_, ?_⟩
        · rw [hst]
          exact Kn.Follow.cons _ _ _ (Or.inl rfl) (by rw [Kn.step_clear]; exact g1)
        · rw [Kn.data, if_neg hne, if_neg hnc, hst, Kn.data, if_neg hcf, if_pos rfl, Kn.step_clear, g2, h3]
          simpa using h4
        · simp only [List.length_cons]
          omega
      · obtain ⟨g1, g2, g3⟩ := ih (k.after c) (data.drop (k.longest data).length) hv hfr (by omega)
        refine ⟨Kn.Follow.cons k c _ (Or.inr h2) (by rw [hst]; exact g1), ?_, ?_⟩
        · rw [Kn.data, if_neg hne, if_neg hnc, hst, g2, h3]
          exact h4
        · simp only [List.length_cons]
          omega

theorem Kn.greedy_spec {k : Kn} (h : k.Valid) {data : List UInt8} (hf : k.fits data) : k.Follow (k.greedy data) ∧ k.data (k.greedy data) = data ∧ (k.greedy data).length ≤ 2 * data.length + 2 := by
  obtain ⟨g1, g2, g3⟩ := greedyF_spec data.length k.cleared data (Kn.cleared_valid h) (k.like_cleared.fits hf) (Nat.le_refl _)
  have hcf : k.clear ≠ k.fin := by have := k.fin_eq; omega
  unfold Kn.greedy
  refine ⟨Kn.Follow.cons k _ _ (Or.inl rfl) (by rw [Kn.step_clear]; exact g1), ?_, by simp only [List.length_cons]; omega⟩
  rw [Kn.data, if_neg hcf, if_pos rfl, Kn.step_clear, g2]
  rfl

end Go.Proofs.YthlgpgaeajfchaaGreatDoor

namespace Go.Proofs.YthlgpgaeajfchaaGreatDoor
set_option linter.unusedVariables false

/-- No code is left, and a clear code would make room. -/
def Kn.full (k : Kn) : Prop := k.top < k.next ∧ k.base < k.ps.length

instance (k : Kn) : Decidable k.full := by unfold Kn.full; infer_instance

/-- Greedy codes in the program's order, by fuel. -/
def greedyI : Nat → Kn → List UInt8 → List Nat
  | 0, k, _ => [k.fin]
  | f + 1, k, data =>
    if data = [] then [k.fin]
    else if k.full then k.clear :: (k.cleared.find (k.cleared.longest data)).getD 0 :: greedyI f (k.cleared.after ((k.cleared.find (k.cleared.longest data)).getD 0)) (data.drop (k.cleared.longest data).length)
    else (k.find (k.longest data)).getD 0 :: greedyI f (k.after ((k.find (k.longest data)).getD 0)) (data.drop (k.longest data).length)

theorem Kn.cleared_not_full (k : Kn) : ¬ k.cleared.full := by
  intro h
  have : k.base < (k.ps.take k.base).length := h.2
  rw [List.length_take] at this
  omega

theorem greedyI_eq : ∀ (f : Nat) (k : Kn) (data : List UInt8), k.Valid → k.fits data → data.length ≤ f → ¬ k.full → greedyI f k data = greedyF f k data := by
  intro f
  induction f with
  | zero => intro k data _ _ _ _; rfl
  | succ f ih =>
    intro k data h hf hl hn
    rw [greedyI, greedyF]
    by_cases hd : data = []
    · rw [if_pos hd, if_pos hd]
    · rw [if_neg hd, if_neg hd, if_neg hn]
      obtain ⟨c, h1, h2, h3, h4, h5, h6, _⟩ := Kn.longest_take h hd hf
      simp only [h1, Option.getD_some]
      have hv := Kn.after_valid h h2
      have hfr : (k.after c).fits (data.drop (k.longest data).length) := (k.like_after c).fits (fits_drop hf _)
      have hrl : (data.drop (k.longest data).length).length + (k.longest data).length = data.length := by rw [List.length_drop]; omega
      obtain ⟨rest, hr⟩ : ∃ r, data.drop (k.longest data).length = r := ⟨_, rfl⟩
      rw [hr] at hfr hrl ⊢
      by_cases hc : rest ≠ [] ∧ (k.after c).top < (k.after c).next ∧ (k.after c).base < (k.after c).ps.length
      · rw [if_pos hc]
        congr 1
        have hfull : (k.after c).full := hc.2
        cases f with
        | zero => exact absurd (List.eq_nil_of_length_eq_zero (by omega)) hc.1
        | succ f =>
          have h7 := ih (k.after c).cleared rest (Kn.cleared_valid hv) ((k.after c).like_cleared.fits hfr) (by omega) (Kn.cleared_not_full _)
          rw [← h7, greedyI, greedyI, if_neg hc.1, if_pos hfull, if_neg hc.1, if_neg (Kn.cleared_not_full _)]
      · rw [if_neg hc]
        congr 1
        by_cases hr0 : rest = []
        · subst hr0
          cases f with
          | zero => rfl
          | succ f => rw [greedyI, greedyF, if_pos rfl, if_pos rfl]
        · exact ih (k.after c) rest hv hfr (by omega) (fun hh => hc ⟨hr0, hh⟩)

theorem Kn.greedy_impl {k : Kn} (h : k.Valid) {data : List UInt8} (hf : k.fits data) : k.greedy data = k.clear :: greedyI data.length k.cleared data := by
  unfold Kn.greedy
  rw [greedyI_eq data.length k.cleared data (Kn.cleared_valid h) (k.like_cleared.fits hf) (Nat.le_refl _) (Kn.cleared_not_full k)]

end Go.Proofs.YthlgpgaeajfchaaGreatDoor

namespace Go.Proofs.YthlgpgaeajfchaaGreatDoor
set_option linter.unusedVariables false

/-- A node behind the literals. -/
structure Nd where
  par : Nat
  byte : Nat
  code : Nat

/-- A tree: how many literals there are, the nodes behind them, the node of each pair. -/
structure Tr where
  c : Nat
  ns : List Nd
  pr : List Nat

/-- The word of a node, by fuel. -/
def nwordF (c : Nat) (ns : List Nd) : Nat → Nat → List UInt8
  | 0, i => [UInt8.ofNat i]
  | f + 1, i => if i < c then [UInt8.ofNat i] else match ns[i - c]? with
    | some d => nwordF c ns f d.par ++ [UInt8.ofNat d.byte]
    | none => [UInt8.ofNat i]

def Tr.word (t : Tr) (i : Nat) : List UInt8 := nwordF t.c t.ns (i + 1) i

/-- The nodes of a tree in themselves. -/
structure NdOk (c : Nat) (ns : List Nd) : Prop where
  par : ∀ (j : Nat) (d : Nd), ns[j]? = some d → d.par < c + j ∧ d.byte < c
  uniq : ∀ (i j : Nat) (d e : Nd), ns[i]? = some d → ns[j]? = some e → d.par = e.par → d.byte = e.byte → i = j
  rise : ∀ (i j : Nat) (d e : Nd), ns[i]? = some d → ns[j]? = some e → i < j → d.code < e.code
  c256 : c ≤ 256

theorem nwordF_more {c : Nat} {ns : List Nd} (h : NdOk c ns) : ∀ (f g i : Nat), i < f → i < g → nwordF c ns f i = nwordF c ns g i := by
  intro f
  induction f with
  | zero => intro g i hf; omega
  | succ f ih =>
    intro g i hf hg
    cases g with
    | zero => omega
    | succ g =>
      rw [nwordF, nwordF]
      by_cases hc : i < c
      · rw [if_pos hc, if_pos hc]
      · rw [if_neg hc, if_neg hc]
        rcases hx : ns[i - c]? with _ | d
        · rfl
        · simp only
          have := (h.par _ _ hx).1
          rw [ih g d.par (by omega) (by omega)]

theorem Tr.word_lit (t : Tr) {i : Nat} (h : i < t.c) : t.word i = [UInt8.ofNat i] := by
  unfold Tr.word
  rw [nwordF, if_pos h]

theorem Tr.word_node {t : Tr} (h : NdOk t.c t.ns) {j : Nat} {d : Nd} (hd : t.ns[j]? = some d) : t.word (t.c + j) = t.word d.par ++ [UInt8.ofNat d.byte] := by
  have hp := (h.par _ _ hd).1
  unfold Tr.word
  conv => lhs; rw [nwordF, if_neg (by omega)]
  rw [show t.c + j - t.c = j by omega, hd]
  simp only
  rw [nwordF_more h (t.c + j) (d.par + 1) d.par (by omega) (by omega)]

theorem Tr.word_ne (t : Tr) (i : Nat) : t.word i ≠ [] := by
  unfold Tr.word
  rw [nwordF]
  split
  · simp
  · split <;> simp

/-- Every node is a literal or one behind. -/
theorem Tr.node_or (t : Tr) {i : Nat} (h : i < t.c + t.ns.length) : i < t.c ∨ ∃ j d, i = t.c + j ∧ t.ns[j]? = some d := by
  by_cases hc : i < t.c
  · exact Or.inl hc
  · exact Or.inr ⟨i - t.c, t.ns[i - t.c]'(by omega), by omega, List.getElem?_eq_getElem (by omega)⟩

theorem snoc_inj {a b : List UInt8} {x y : UInt8} (h : a ++ [x] = b ++ [y]) : a = b ∧ x = y := by
  have := List.append_inj' h rfl
  exact ⟨this.1, by simpa using this.2⟩

theorem ofNat_inj {a b : Nat} (ha : a < 256) (hb : b < 256) (h : UInt8.ofNat a = UInt8.ofNat b) : a = b := by
  have := congrArg UInt8.toNat h
  rw [UInt8.toNat_ofNat', UInt8.toNat_ofNat'] at this
  omega

/-- Different nodes have different words. -/
theorem Tr.word_inj {t : Tr} (h : NdOk t.c t.ns) : ∀ (n i k : Nat), i < n → i < t.c + t.ns.length → k < t.c + t.ns.length → t.word i = t.word k → i = k := by
  have hc := h.c256
  intro n
  induction n with
  | zero => intro i k hi; omega
  | succ n ih =>
    intro i k hi h1 h2 he
    rcases t.node_or h1 with ha | ⟨ja, da, rfl, hda⟩
    · rcases t.node_or h2 with hb | ⟨jb, db, rfl, hdb⟩
      · rw [t.word_lit ha, t.word_lit hb] at he
        have he' : UInt8.ofNat i = UInt8.ofNat k := by simpa using he
        exact ofNat_inj (by omega) (by omega) he'
      · rw [t.word_lit ha, Tr.word_node h hdb] at he
        have := congrArg List.length he
        have hn := t.word_ne db.par
        rw [List.length_append] at this
        have h3 : (t.word db.par).length ≠ 0 := fun e => hn (List.eq_nil_of_length_eq_zero e)
        simp only [List.length_cons, List.length_nil] at this
        omega
    · rcases t.node_or h2 with hb | ⟨jb, db, rfl, hdb⟩
      · rw [t.word_lit hb, Tr.word_node h hda] at he
        have := congrArg List.length he
        have hn := t.word_ne da.par
        rw [List.length_append] at this
        have h3 : (t.word da.par).length ≠ 0 := fun e => hn (List.eq_nil_of_length_eq_zero e)
        simp only [List.length_cons, List.length_nil] at this
        omega
      · rw [Tr.word_node h hda, Tr.word_node h hdb] at he
        obtain ⟨e1, e2⟩ := snoc_inj he
        have pa := h.par _ _ hda
        have pb := h.par _ _ hdb
        have hja := (List.getElem?_eq_some_iff.1 hda).1
        have hjb := (List.getElem?_eq_some_iff.1 hdb).1
        have e3 := ih da.par db.par (by omega) (by omega) (by omega) e1
        have e4 := ofNat_inj (by omega) (by omega) e2
        rw [h.uniq _ _ _ _ hda hdb e3 e4]

/-- The tree of what is known. -/
structure TrOk (k : Kn) (t : Tr) : Prop where
  nd : NdOk t.c t.ns
  cl : t.c = k.clear
  len : t.pr.length = k.ps.length
  pr : ∀ (j n : Nat), t.pr[j]? = some n → n < t.c + t.ns.length ∧ t.word n = k.word (k.fin + 1 + j)
  code : ∀ (j : Nat) (d : Nd), t.ns[j]? = some d → k.fin < d.code ∧ t.pr[d.code - k.fin - 1]? = some (t.c + j) ∧ ∀ i, t.pr[i]? = some (t.c + j) → d.code ≤ k.fin + 1 + i

/-- The node of a code that has a word. -/
def Tr.of (t : Tr) (fin : Nat) (x : Nat) : Nat := if fin < x then t.pr.getD (x - fin - 1) 0 else x

theorem TrOk.of {k : Kn} {t : Tr} (h : TrOk k t) {x : Nat} (hx : k.has k.ps.length x) : t.of k.fin x < t.c + t.ns.length ∧ t.word (t.of k.fin x) = k.word x ∧ (x < k.clear → t.of k.fin x = x) ∧ (k.fin < x → t.pr[x - k.fin - 1]? = some (t.of k.fin x)) := by
  have hf := k.fin_eq
  have hc := h.cl
  have hl := h.len
  unfold Tr.of
  by_cases h1 : k.fin < x
  · rw [if_pos h1]
    have hlt : x - k.fin - 1 < t.pr.length := by unfold Kn.has at hx; omega
    have e : t.pr[x - k.fin - 1]? = some (t.pr.getD (x - k.fin - 1) 0) := by rw [List.getD, List.getElem?_eq_getElem hlt]; rfl
    have := h.pr _ _ e
    rw [show k.fin + 1 + (x - k.fin - 1) = x by omega] at this
    exact ⟨this.1, this.2, fun h2 => by omega, fun _ => e⟩
  · rw [if_neg h1]
    have hx' : x < k.clear := by unfold Kn.has at hx; omega
    refine ⟨by omega, ?_, fun _ => rfl, fun h2 => absurd h2 h1⟩
    rw [t.word_lit (by omega), k.word_lit (by omega)]

/-- Node r is the child of p with a byte. -/
def Tr.IsKid (t : Tr) (p b r : Nat) : Prop := ∃ (j : Nat) (d : Nd), r = t.c + j ∧ t.ns[j]? = some d ∧ d.par = p ∧ d.byte = b

/-- Node p has no child with a byte. -/
def Tr.NoKid (t : Tr) (p b : Nat) : Prop := ∀ (j : Nat) (d : Nd), t.ns[j]? = some d → d.par = p → d.byte ≠ b

/-- A pair more whose word is there already. -/
def Tr.same (t : Tr) (n : Nat) : Tr := { t with pr := t.pr ++ [n] }

/-- A pair more with a new word. -/
def Tr.more (t : Tr) (p b x : Nat) : Tr := { t with ns := t.ns ++ [⟨p, b, x⟩], pr := t.pr ++ [t.c + t.ns.length] }

/-- Pairs go back to what is there before them. -/
def Kn.Low (k : Kn) : Prop := ∀ i p b, k.ps[i]? = some (p, b) → p ≤ k.fin ∨ p ≤ k.fin + i

/-- What is known with one pair more. -/
def Kn.push (k : Kn) (q b : Nat) : Kn := { k with ps := k.ps ++ [(q, b)] }

theorem Kn.push_word {k : Kn} {q b : Nat} (hb : k.Low) {x : Nat} (hx : x ≤ k.fin + k.ps.length) : (k.push q b).word x = k.word x := by
  have main : ∀ (f x : Nat), x ≤ k.fin + k.ps.length → wordF k.fin (k.ps ++ [(q, b)]) f x = wordF k.fin k.ps f x := by
    intro f
    induction f with
    | zero => intro x _; rfl
    | succ f ih =>
      intro x hx
      rw [wordF, wordF]
      by_cases h1 : k.fin < x
      · rw [if_pos h1, if_pos h1, List.getElem?_append_left (by omega)]
        rcases hp : k.ps[x - k.fin - 1]? with _ | ⟨p, y⟩
        · rfl
        · simp only
          have := hb _ _ _ hp
          rw [ih p (by omega)]
      · rw [if_neg h1, if_neg h1]
  show wordF k.fin (k.ps ++ [(q, b)]) ((k.ps ++ [(q, b)]).length + 1) x = wordF k.fin k.ps (k.ps.length + 1) x
  rw [main _ _ hx]
  exact wordF_more hb _ _ x (by rw [List.length_append]; simp; omega) (by omega)

theorem Kn.push_last {k : Kn} {q b : Nat} (hb : k.Low) (hq : k.has k.ps.length q) : (k.push q b).word (k.fin + 1 + k.ps.length) = k.word q ++ [UInt8.ofNat b] := by
  have hf := k.fin_eq
  have hql : q ≤ k.fin + k.ps.length := by unfold Kn.has at hq; omega
  have main : (k.push q b).word (k.fin + 1 + k.ps.length) = (k.push q b).word q ++ [UInt8.ofNat b] := by
    have hp : ∀ i p y, (k.push q b).ps[i]? = some (p, y) → p ≤ (k.push q b).fin ∨ p ≤ (k.push q b).fin + i := by
      intro i p y hi
      show p ≤ k.fin ∨ p ≤ k.fin + i
      have hi' : (k.ps ++ [(q, b)])[i]? = some (p, y) := hi
      by_cases h1 : i < k.ps.length
      · rw [List.getElem?_append_left h1] at hi'
        exact hb i p y hi'
      · have h2 := (List.getElem?_eq_some_iff.1 hi').1
        rw [List.length_append] at h2
        simp at h2
        obtain rfl : i = k.ps.length := by omega
        rw [List.getElem?_append_right (Nat.le_refl _), Nat.sub_self] at hi'
        simp at hi'
        obtain ⟨rfl, rfl⟩ := hi'
        unfold Kn.has at hq
        omega
    have hlen : (k.push q b).ps.length = k.ps.length + 1 := by show (k.ps ++ [(q, b)]).length = _; simp
    unfold Kn.word
    conv => lhs; rw [wordF, if_pos (show (k.push q b).fin < k.fin + 1 + k.ps.length by show k.fin < _; omega)]
    have e : (k.push q b).ps[k.fin + 1 + k.ps.length - (k.push q b).fin - 1]? = some (q, b) := by
      show (k.ps ++ [(q, b)])[k.fin + 1 + k.ps.length - k.fin - 1]? = _
      rw [List.getElem?_append_right (by omega), show k.fin + 1 + k.ps.length - k.fin - 1 - k.ps.length = 0 by omega]
      rfl
    rw [e]
    simp only
    rw [wordF_more hp (k.push q b).ps.length ((k.push q b).ps.length + 1) q (by rw [hlen]; show q - k.fin ≤ _; omega) (by rw [hlen]; show q - k.fin ≤ _; omega)]
  rw [main, Kn.push_word hb hql]

theorem Tr.word_pr (t : Tr) (pr : List Nat) (i : Nat) : ({ t with pr := pr } : Tr).word i = t.word i := rfl

/-- Nodes more do not change the words of those that are there. -/
theorem nwordF_append {c : Nat} {ns ms : List Nd} (h : NdOk c ns) : ∀ (f i : Nat), i < c + ns.length → nwordF c (ns ++ ms) f i = nwordF c ns f i := by
  intro f
  induction f with
  | zero => intro i _; rfl
  | succ f ih =>
    intro i hi
    rw [nwordF, nwordF]
    by_cases h1 : i < c
    · rw [if_pos h1, if_pos h1]
    · rw [if_neg h1, if_neg h1, List.getElem?_append_left (by omega)]
      rcases hx : ns[i - c]? with _ | d
      · rfl
      · simp only
        have := (h.par _ _ hx).1
        have hl := (List.getElem?_eq_some_iff.1 hx).1
        rw [ih d.par (by omega)]

theorem TrOk.same {k : Kn} {t : Tr} (h : TrOk k t) (hv : k.Low) {q b n : Nat} (hq : k.has k.ps.length q) (hn : t.IsKid (t.of k.fin q) b n) : TrOk (k.push q b) (t.same n) := by
  obtain ⟨j, d, rfl, hd, hp, hb⟩ := hn
  have hw := (h.of hq).2.1
  have hjl := (List.getElem?_eq_some_iff.1 hd).1
  have hpl : (k.push q b).ps.length = k.ps.length + 1 := by show (k.ps ++ [(q, b)]).length = _; simp
  refine ⟨h.nd, h.cl, ?_, ?_, ?_⟩
  · show (t.pr ++ [_]).length = _
    rw [hpl, List.length_append, h.len]; rfl
  · intro i n hi
    have hi' : (t.pr ++ [t.c + j])[i]? = some n := hi
    show n < t.c + t.ns.length ∧ t.word n = (k.push q b).word (k.fin + 1 + i)
    by_cases h1 : i < t.pr.length
    · rw [List.getElem?_append_left h1] at hi'
      have := h.pr i n hi'
      rw [Kn.push_word hv (by rw [← h.len]; omega)]
      exact this
    · have h2 := (List.getElem?_eq_some_iff.1 hi').1
      rw [List.length_append] at h2
      simp at h2
      obtain rfl : i = t.pr.length := by omega
      rw [List.getElem?_append_right (Nat.le_refl _), Nat.sub_self] at hi'
      simp at hi'
      subst hi'
      refine ⟨by omega, ?_⟩
      rw [h.len, Kn.push_last hv hq, Tr.word_node h.nd hd, hp, hw, hb]
  · intro i e hi
    show k.fin < e.code ∧ (t.pr ++ [t.c + j])[e.code - k.fin - 1]? = some (t.c + i) ∧ _
    have h1 := h.code i e hi
    have hlt := (List.getElem?_eq_some_iff.1 h1.2.1).1
    refine ⟨h1.1, by rw [List.getElem?_append_left hlt]; exact h1.2.1, ?_⟩
    intro x hx
    have hx' : (t.pr ++ [t.c + j])[x]? = some (t.c + i) := hx
    show e.code ≤ k.fin + 1 + x
    by_cases h2 : x < t.pr.length
    · rw [List.getElem?_append_left h2] at hx'
      exact h1.2.2 x hx'
    · omega

theorem TrOk.more {k : Kn} {t : Tr} (h : TrOk k t) (hv : k.Low) {q b : Nat} (hq : k.has k.ps.length q) (hb : b < k.clear) (hn : t.NoKid (t.of k.fin q) b) : TrOk (k.push q b) (t.more (t.of k.fin q) b k.next) := by
  have ho := h.of hq
  have hf := k.fin_eq
  have hpl : (k.push q b).ps.length = k.ps.length + 1 := by show (k.ps ++ [(q, b)]).length = _; simp
  have hget : ∀ {i : Nat} {d : Nd}, (t.ns ++ [⟨t.of k.fin q, b, k.next⟩])[i]? = some d → t.ns[i]? = some d ∨ (i = t.ns.length ∧ d = ⟨t.of k.fin q, b, k.next⟩) := by
    intro i d hi
    by_cases h1 : i < t.ns.length
    · rw [List.getElem?_append_left h1] at hi
      exact Or.inl hi
    · have h2 := (List.getElem?_eq_some_iff.1 hi).1
      rw [List.length_append] at h2
      simp at h2
      obtain rfl : i = t.ns.length := by omega
      rw [List.getElem?_append_right (Nat.le_refl _), Nat.sub_self] at hi
      simp at hi
      exact Or.inr ⟨rfl, hi.symm⟩
  have hnd : NdOk t.c (t.ns ++ [⟨t.of k.fin q, b, k.next⟩]) := by
    refine ⟨?_, ?_, ?_, h.nd.c256⟩
    · intro j d hj
      rcases hget hj with h1 | ⟨rfl, rfl⟩
      · exact h.nd.par j d h1
      · exact ⟨ho.1, by rw [h.cl]; exact hb⟩
    · intro i j d e hi hj e1 e2
      rcases hget hi with h1 | ⟨rfl, rfl⟩
      · rcases hget hj with h2 | ⟨rfl, rfl⟩
        · exact h.nd.uniq i j d e h1 h2 e1 e2
        · exact absurd e2 (hn i d h1 e1)
      · rcases hget hj with h2 | ⟨rfl, rfl⟩
        · exact absurd e2.symm (hn j e h2 e1.symm)
        · rfl
    · intro i j d e hi hj hij
      rcases hget hi with h1 | ⟨rfl, rfl⟩
      · rcases hget hj with h2 | ⟨rfl, rfl⟩
        · exact h.nd.rise i j d e h1 h2 hij
        · show d.code < k.next
          have h3 := h.code i d h1
          have h4 := (List.getElem?_eq_some_iff.1 h3.2.1).1
          unfold Kn.next
          rw [h.len] at h4
          omega
      · rcases hget hj with h2 | ⟨rfl, rfl⟩
        · have := (List.getElem?_eq_some_iff.1 h2).1; omega
        · omega
  have hword : ∀ i, i < t.c + t.ns.length → (t.more (t.of k.fin q) b k.next).word i = t.word i := fun i hi => nwordF_append h.nd (i + 1) i hi
  have hlast : (t.more (t.of k.fin q) b k.next).word (t.c + t.ns.length) = k.word q ++ [UInt8.ofNat b] := by
    have := Tr.word_node (t := t.more (t.of k.fin q) b k.next) hnd (j := t.ns.length) (d := ⟨t.of k.fin q, b, k.next⟩) (by show (t.ns ++ _)[_]? = _; simp)
    rw [show (t.more (t.of k.fin q) b k.next).c = t.c from rfl] at this
    rw [this, hword _ ho.1, ho.2.1]
  refine ⟨hnd, h.cl, ?_, ?_, ?_⟩
  · show (t.pr ++ [_]).length = _
    rw [hpl, List.length_append, h.len]; rfl
  · intro i n hi
    have hi' : (t.pr ++ [t.c + t.ns.length])[i]? = some n := hi
    show n < t.c + (t.ns ++ [_]).length ∧ _ = (k.push q b).word (k.fin + 1 + i)
    rw [List.length_append]
    by_cases h1 : i < t.pr.length
    · rw [List.getElem?_append_left h1] at hi'
      have := h.pr i n hi'
      rw [Kn.push_word hv (by rw [← h.len]; omega), hword n this.1]
      exact ⟨by omega, this.2⟩
    · have h2 := (List.getElem?_eq_some_iff.1 hi').1
      rw [List.length_append] at h2
      simp at h2
      obtain rfl : i = t.pr.length := by omega
      rw [List.getElem?_append_right (Nat.le_refl _), Nat.sub_self] at hi'
      simp at hi'
      subst hi'
      refine ⟨by simp, ?_⟩
      rw [h.len, Kn.push_last hv hq]
      exact hlast
  · intro i e hi
    show k.fin < e.code ∧ (t.pr ++ [t.c + t.ns.length])[e.code - k.fin - 1]? = some (t.c + i) ∧ ∀ x, (t.pr ++ [t.c + t.ns.length])[x]? = some (t.c + i) → e.code ≤ k.fin + 1 + x
    rcases hget hi with h1 | ⟨rfl, rfl⟩
    · have h3 := h.code i e h1
      have hlt := (List.getElem?_eq_some_iff.1 h3.2.1).1
      have hil := (List.getElem?_eq_some_iff.1 h1).1
      refine ⟨h3.1, by rw [List.getElem?_append_left hlt]; exact h3.2.1, ?_⟩
      intro x hx
      by_cases h2 : x < t.pr.length
      · rw [List.getElem?_append_left h2] at hx
        exact h3.2.2 x hx
      · omega
    · show k.fin < k.next ∧ (t.pr ++ [t.c + t.ns.length])[k.next - k.fin - 1]? = some (t.c + t.ns.length) ∧ ∀ x, (t.pr ++ [t.c + t.ns.length])[x]? = some (t.c + t.ns.length) → k.next ≤ k.fin + 1 + x
      have e1 : k.next - k.fin - 1 = t.pr.length := by unfold Kn.next; rw [h.len]; omega
      refine ⟨by unfold Kn.next; omega, by rw [e1]; simp, ?_⟩
      intro x hx
      by_cases h2 : x < t.pr.length
      · rw [List.getElem?_append_left h2] at hx
        have := (h.pr x _ hx).1
        omega
      · unfold Kn.next; rw [← h.len]; omega

end Go.Proofs.YthlgpgaeajfchaaGreatDoor

namespace Go.Proofs.YthlgpgaeajfchaaGreatDoor
set_option linter.unusedVariables false

theorem TrOk.start {k : Kn} (h : k.ps = []) (hc : k.clear ≤ 256) : TrOk k ⟨k.clear, [], []⟩ := by
  refine ⟨⟨?_, ?_, ?_, hc⟩, rfl, by rw [h]; rfl, ?_, ?_⟩
  · intro j d hj; simp at hj
  · intro i j d e hi; simp at hi
  · intro i j d e hi; simp at hi
  · intro j n hj; simp at hj
  · intro j d hj; simp at hj

theorem wordF_take {fin : Nat} {ps : List (Nat × Nat)} {b : Nat} (hp : ∀ i p y, ps[i]? = some (p, y) → p ≤ fin ∨ p ≤ fin + i) : ∀ (f x : Nat), x ≤ fin + b → wordF fin (ps.take b) f x = wordF fin ps f x := by
  intro f
  induction f with
  | zero => intro x _; rfl
  | succ f ih =>
    intro x hx
    rw [wordF, wordF]
    by_cases h1 : fin < x
    · rw [if_pos h1, if_pos h1, List.getElem?_take, if_pos (by omega)]
      rcases he : ps[x - fin - 1]? with _ | ⟨p, y⟩
      · rfl
      · simp only
        have := hp _ _ _ he
        rw [ih p (by omega)]
    · rw [if_neg h1, if_neg h1]

theorem Kn.cleared_word {k : Kn} (h : k.Valid) {x : Nat} (hx : x ≤ k.fin + k.base) : k.cleared.word x = k.word x := by
  have hk := h.keep
  show wordF k.fin (k.ps.take k.base) ((k.ps.take k.base).length + 1) x = wordF k.fin k.ps (k.ps.length + 1) x
  rw [wordF_take h.below _ _ hx]
  exact wordF_more h.below _ _ x (by rw [List.length_take]; omega) (by omega)

theorem nwordF_take {c : Nat} {ns : List Nd} (h : NdOk c ns) {m : Nat} (hm : m ≤ ns.length) (f i : Nat) (hi : i < c + m) : nwordF c (ns.take m) f i = nwordF c ns f i := by
  have hok : NdOk c (ns.take m) := by
    have hg : ∀ (j : Nat) (d : Nd), (ns.take m)[j]? = some d → ns[j]? = some d := by
      intro j d hj
      rw [List.getElem?_take] at hj
      split at hj
      · exact hj
      · cases hj
    exact ⟨fun j d hj => h.par j d (hg j d hj), fun i j d e hi hj => h.uniq i j d e (hg _ _ hi) (hg _ _ hj), fun i j d e hi hj => h.rise i j d e (hg _ _ hi) (hg _ _ hj), h.c256⟩
  have := nwordF_append (ms := ns.drop m) hok f i (by rw [List.length_take]; omega)
  rw [List.take_append_drop] at this
  exact this.symm

theorem NdOk.take {c : Nat} {ns : List Nd} (h : NdOk c ns) (m : Nat) : NdOk c (ns.take m) := by
  have hg : ∀ (j : Nat) (d : Nd), (ns.take m)[j]? = some d → ns[j]? = some d := by
    intro j d hj
    rw [List.getElem?_take] at hj
    split at hj
    · exact hj
    · cases hj
  exact ⟨fun j d hj => h.par j d (hg j d hj), fun i j d e hi hj => h.uniq i j d e (hg _ _ hi) (hg _ _ hj), fun i j d e hi hj => h.rise i j d e (hg _ _ hi) (hg _ _ hj), h.c256⟩

theorem TrOk.forget {k : Kn} {t : Tr} (h : TrOk k t) (hv : k.Valid) {m : Nat} (hm : m ≤ t.ns.length)
    (h1 : ∀ (j : Nat) (d : Nd), j < m → t.ns[j]? = some d → d.code < k.fin + 1 + k.base) (h2 : ∀ (j : Nat) (d : Nd), m ≤ j → t.ns[j]? = some d → k.fin + 1 + k.base ≤ d.code) : TrOk k.cleared ⟨t.c, t.ns.take m, t.pr.take k.base⟩ := by
  have hk := hv.keep
  have hlen := h.len
  have hw : ∀ i, i < t.c + m → (⟨t.c, t.ns.take m, t.pr.take k.base⟩ : Tr).word i = t.word i := fun i hi => nwordF_take h.nd hm (i + 1) i hi
  refine ⟨h.nd.take m, h.cl, ?_, ?_, ?_⟩
  · show (t.pr.take k.base).length = (k.ps.take k.base).length
    rw [List.length_take, List.length_take, hlen]
  · intro j n hj
    have hj' : (t.pr.take k.base)[j]? = some n := hj
    rw [List.getElem?_take] at hj'
    split at hj'
    · rename_i hjb
      have h3 := h.pr j n hj'
      have hnm : n < t.c + m := by
        rcases t.node_or h3.1 with ha | ⟨i, d, rfl, hd⟩
        · omega
        · rcases Nat.lt_or_ge i m with hi | hi
          · omega
          · have h4 := h2 i d hi hd
            have h5 := (h.code i d hd).2.2 j hj'
            omega
      show n < t.c + (t.ns.take m).length ∧ _ = k.cleared.word (k.fin + 1 + j)
      rw [List.length_take, hw n hnm, Kn.cleared_word hv (by omega)]
      exact ⟨by omega, h3.2⟩
    · cases hj'
  · intro j d hj
    have hj' : (t.ns.take m)[j]? = some d := hj
    rw [List.getElem?_take] at hj'
    split at hj'
    · rename_i hjm
      have h3 := h.code j d hj'
      have h4 := h1 j d hjm hj'
      show k.fin < d.code ∧ (t.pr.take k.base)[d.code - k.fin - 1]? = some (t.c + j) ∧ ∀ i, (t.pr.take k.base)[i]? = some (t.c + j) → d.code ≤ k.fin + 1 + i
      refine ⟨h3.1, ?_, ?_⟩
      · rw [List.getElem?_take, if_pos (by omega)]; exact h3.2.1
      · intro i hi
        rw [List.getElem?_take] at hi
        split at hi
        · exact h3.2.2 i hi
        · cases hi
    · cases hj'

theorem pre_take {w data : List UInt8} (h : w.isPrefixOf data = true) : w = data.take w.length ∧ w.length ≤ data.length := by
  rw [List.isPrefixOf_iff_prefix] at h
  obtain ⟨r, rfl⟩ := h
  simp

theorem take_isPrefixOf (data : List UInt8) (n : Nat) : (data.take n).isPrefixOf data = true := by
  rw [List.isPrefixOf_iff_prefix]; exact List.take_prefix n data

/-- The longest word, by its length. -/
theorem Kn.longest_len {k : Kn} (h : k.Valid) {x : UInt8} {r : List UInt8} (hx : x.toNat < k.clear) {L : Nat} (h1 : 1 ≤ L) (hL : L ≤ (x :: r).length)
    (hat : L = 1 ∨ ∃ c, k.fin < c ∧ c ≤ k.great ∧ k.any c = (x :: r).take L)
    (hup : ∀ c, k.fin < c → c ≤ k.great → (k.any c).isPrefixOf (x :: r) = true → (k.any c).length ≤ L) : k.longest (x :: r) = (x :: r).take L := by
  have main : ∀ (cs : List Nat) (best : List UInt8), (∀ c ∈ cs, k.fin < c ∧ c ≤ k.great) → best.isPrefixOf (x :: r) = true → best.length ≤ L → (best.length = L ∨ ∃ c ∈ cs, k.any c = (x :: r).take L) →
      cs.foldl (fun best c => if best.length < (k.any c).length ∧ (k.any c).isPrefixOf (x :: r) = true then k.any c else best) best = (x :: r).take L := by
    intro cs
    induction cs with
    | nil =>
      intro best _ hp hb ho
      rcases ho with h2 | ⟨c, hc, _⟩
      · have := (pre_take hp).1
        rw [h2] at this
        exact this
      · simp at hc
    | cons c cs ih =>
      intro best hcs hp hb ho
      rw [List.foldl_cons]
      have hc := hcs c (by simp)
      split
      · rename_i hif
        refine ih _ (fun c' hc' => hcs c' (List.mem_cons_of_mem _ hc')) hif.2 (hup c hc.1 hc.2 hif.2) ?_
        rcases ho with h2 | ⟨c', hc', he⟩
        · have := hup c hc.1 hc.2 hif.2
          omega
        · rcases List.mem_cons.1 hc' with rfl | h3
          · left; rw [he, List.length_take]; omega
          · exact Or.inr ⟨c', h3, he⟩
      · rename_i hif
        refine ih _ (fun c' hc' => hcs c' (List.mem_cons_of_mem _ hc')) hp hb ?_
        rcases ho with h2 | ⟨c', hc', he⟩
        · exact Or.inl h2
        · rcases List.mem_cons.1 hc' with rfl | h3
          · left
            have h4 : (k.any c').isPrefixOf (x :: r) = true := by rw [he]; exact take_isPrefixOf _ _
            have h5 : ¬ best.length < (k.any c').length := fun h6 => hif ⟨h6, h4⟩
            rw [he, List.length_take] at h5
            omega
          · exact Or.inr ⟨c', h3, he⟩
  unfold Kn.longest
  refine main _ _ (fun c hc => ?_) (take_isPrefixOf _ _) (by rw [List.length_take]; omega) ?_
  · rw [List.mem_range'] at hc
    obtain ⟨i, hi, rfl⟩ := hc
    omega
  · rcases hat with h2 | ⟨c, hc1, hc2, he⟩
    · left; rw [List.length_take]; simp; omega
    · right
      refine ⟨c, ?_, he⟩
      rw [List.mem_range']
      exact ⟨c - k.fin - 1, by omega, by omega⟩

/-- The least code with a word that is not one literal. -/
theorem Kn.find_least {k : Kn} {w : List UInt8} (h2 : w.length ≠ 1) {c : Nat} (hc1 : k.fin < c) (hc2 : c ≤ k.great) (he : k.any c = w) (hl : ∀ x, k.fin < x → x < c → k.any x ≠ w) : k.find w = some c := by
  unfold Kn.find
  rw [if_neg (fun h => h2 h.1)]
  have : List.range' (k.fin + 1) (k.great - k.fin) = List.range' (k.fin + 1) (c - k.fin - 1) ++ c :: List.range' (c + 1) (k.great - c) := by
    have e1 : k.great - k.fin = (c - k.fin - 1) + ((k.great - c) + 1) := by omega
    rw [e1, ← List.range'_append_1]
    congr 1
    rw [List.range'_succ, show k.fin + 1 + (c - k.fin - 1) = c by omega]
  rw [this, List.find?_append]
  have hn : (List.range' (k.fin + 1) (c - k.fin - 1)).find? (fun c => decide (k.any c = w)) = none := by
    rw [List.find?_eq_none]
    intro x hx
    rw [List.mem_range'] at hx
    obtain ⟨i, hi, rfl⟩ := hx
    simp only [decide_eq_true_eq]
    exact hl _ (by omega) (by omega)
  rw [hn]
  simp [he]

/-- A node that is as far as data goes along the tree. -/
structure Tr.Far (t : Tr) (data : List UInt8) (n size : Nat) : Prop where
  pos : 1 ≤ size
  le : size ≤ data.length
  node : n < t.c + t.ns.length
  word : t.word n = data.take size

theorem Tr.Far.step {t : Tr} (hn : NdOk t.c t.ns) {data : List UInt8} {n size r : Nat} (h : t.Far data n size) (hs : size < data.length) (hk : t.IsKid n (data[size]).toNat r) : t.Far data r (size + 1) := by
  obtain ⟨j, d, rfl, hd, hp, hb⟩ := hk
  have hjl := (List.getElem?_eq_some_iff.1 hd).1
  refine ⟨by omega, by omega, by omega, ?_⟩
  rw [Tr.word_node hn hd, hp, h.word, hb, List.take_succ_eq_append_getElem hs]
  simp

theorem Tr.Far.first {t : Tr} {x : UInt8} {r : List UInt8} (hx : x.toNat < t.c) : t.Far (x :: r) x.toNat 1 := by
  refine ⟨Nat.le_refl _, by simp, by omega, ?_⟩
  rw [t.word_lit hx]
  simp

/-- Where the way along the tree ends, no node has a longer word with which data begins. -/
theorem Tr.Far.max {t : Tr} (hn : NdOk t.c t.ns) {data : List UInt8} {n size : Nat} (h : t.Far data n size) (hs : ∀ (hlt : size < data.length), t.NoKid n (data[size]).toNat) :
    ∀ (f i : Nat), i < f → i < t.c + t.ns.length → (t.word i).isPrefixOf data = true → (t.word i).length ≤ size ∧ ((t.word i).length = size → i = n) := by
  intro f
  induction f with
  | zero => intro i hi; omega
  | succ f ih =>
    intro i hi hl hp
    have heq : (t.word i).length = size → i = n := fun he => by
      have := (pre_take hp).1
      rw [he, ← h.word] at this
      exact Tr.word_inj hn (i + 1) i n (by omega) hl h.node this
    refine ⟨?_, heq⟩
    rcases t.node_or hl with ha | ⟨j, d, rfl, hd⟩
    · rw [t.word_lit ha]
      exact h.pos
    · have hpar := hn.par _ _ hd
      have hjl := (List.getElem?_eq_some_iff.1 hd).1
      have hwd := Tr.word_node hn hd
      have hpp : (t.word d.par).isPrefixOf data = true := by
        rw [hwd, List.isPrefixOf_iff_prefix] at hp
        rw [List.isPrefixOf_iff_prefix]
        exact (List.prefix_append _ _).trans hp
      have h3 := ih d.par (by omega) (by omega) hpp
      rw [hwd, List.length_append]
      simp only [List.length_cons, List.length_nil]
      rcases Nat.lt_or_ge (t.word d.par).length size with h4 | h4
      · omega
      · exfalso
        have h5 : (t.word d.par).length = size := by omega
        have h6 := h3.2 h5
        have h7 := pre_take hp
        rw [hwd, List.length_append, h5] at h7
        simp only [List.length_cons, List.length_nil] at h7
        have hlt : size < data.length := by omega
        have h8 := h7.1
        rw [List.take_succ_eq_append_getElem hlt] at h8
        have h9 := (snoc_inj h8).2
        refine hs hlt j d hd h6 ?_
        rw [← h9, UInt8.toNat_ofNat']
        have := hn.c256
        omega

end Go.Proofs.YthlgpgaeajfchaaGreatDoor

namespace Go.Proofs.YthlgpgaeajfchaaGreatDoor
set_option linter.unusedVariables false

/-- The least code of a node. -/
def Tr.codeOf (t : Tr) (n : Nat) : Nat := if n < t.c then n else match t.ns[n - t.c]? with
  | some d => d.code
  | none => 0

theorem Tr.codeOf_lit (t : Tr) {n : Nat} (h : n < t.c) : t.codeOf n = n := by unfold Tr.codeOf; rw [if_pos h]

theorem Tr.codeOf_node (t : Tr) {j : Nat} {d : Nd} (h : t.ns[j]? = some d) : t.codeOf (t.c + j) = d.code := by
  unfold Tr.codeOf
  rw [if_neg (by omega), show t.c + j - t.c = j by omega, h]

theorem Kn.great_grows {k : Kn} (h : k.grows) : k.great = k.next := by unfold Kn.great; rw [if_pos h]

theorem Kn.great_not {k : Kn} (h : ¬ k.grows) : k.great = k.fin + k.ps.length := by unfold Kn.great; rw [if_neg h]; unfold Kn.next; omega

/-- An old code's word is that of a node. -/
theorem TrOk.old {k : Kn} {t : Tr} (h : TrOk k t) {c : Nat} (h1 : k.fin < c) (h2 : c ≤ k.fin + k.ps.length) : ∃ i, t.pr[c - k.fin - 1]? = some i ∧ i < t.c + t.ns.length ∧ t.word i = k.any c := by
  have ho := h.of (x := c) (Or.inr ⟨h1, h2⟩)
  refine ⟨t.of k.fin c, ho.2.2.2 h1, ho.1, ?_⟩
  rw [ho.2.1, Kn.any_old (by unfold Kn.next; omega)]

/-- The next word ends the way. -/
theorem TrOk.longest_next {k : Kn} {t : Tr} (h : TrOk k t) (hv : k.Valid) {x : UInt8} {r : List UInt8} (hx : x.toNat < k.clear) {n size : Nat} (hf : t.Far (x :: r) n size) (hs : ∀ (hlt : size < (x :: r).length), t.NoKid n ((x :: r)[size]).toNat)
    (hlt : size < (x :: r).length) (hg : k.grows) {q : Nat} (hq : k.last = some q) (hqn : t.of k.fin q = n) (hb : (x :: r)[size] = (t.word n).headD 0) :
    k.longest (x :: r) = (x :: r).take (size + 1) ∧ k.find ((x :: r).take (size + 1)) = some k.next := by
  have hqh := hv.tail q hq
  have ho := h.of hqh
  rw [hqn] at ho
  have hany : k.any k.next = (x :: r).take (size + 1) := by
    rw [Kn.any_next hq, ← ho.2.1, List.take_succ_eq_append_getElem hlt, hf.word, hb, hf.word]
    congr 1
    cases hh : (x :: r).take size with
    | nil =>
      have h9 := congrArg List.length hh
      rw [List.length_take] at h9
      have := hf.pos
      simp only [List.length_nil] at h9
      omega
    | cons a l => simp
  have hgr := Kn.great_grows hg
  have hfl : k.fin < k.next := by unfold Kn.next; omega
  have hmax := fun i => Tr.Far.max h.nd hf hs (i + 1) i (by omega)
  refine ⟨Kn.longest_len hv hx (by omega) (by omega) (Or.inr ⟨k.next, hfl, by omega, hany⟩) ?_, ?_⟩
  · intro c hc1 hc2 hp
    by_cases hcn : c = k.next
    · subst hcn; rw [hany, List.length_take]; omega
    · obtain ⟨i, _, hi, hw⟩ := h.old hc1 (by rw [hgr] at hc2; unfold Kn.next at *; omega)
      rw [← hw] at hp ⊢
      have := (hmax i hi hp).1
      omega
  · refine Kn.find_least (by rw [List.length_take]; have := hf.pos; omega) hfl (by omega) hany ?_
    intro c hc1 hc2 he
    obtain ⟨i, _, hi, hw⟩ := h.old hc1 (by unfold Kn.next at *; omega)
    rw [← hw] at he
    have := (hmax i hi (by rw [he]; exact take_isPrefixOf _ _)).1
    rw [he, List.length_take] at this
    omega

/-- The node where the way ends has the longest word. -/
theorem TrOk.longest_node {k : Kn} {t : Tr} (h : TrOk k t) (hv : k.Valid) {x : UInt8} {r : List UInt8} (hx : x.toNat < k.clear) {n size : Nat} (hf : t.Far (x :: r) n size) (hs : ∀ (hlt : size < (x :: r).length), t.NoKid n ((x :: r)[size]).toNat)
    (hno : ∀ (hlt : size < (x :: r).length) (q : Nat), k.grows → k.last = some q → t.of k.fin q = n → (x :: r)[size] ≠ (t.word n).headD 0) :
    k.longest (x :: r) = (x :: r).take size ∧ k.find ((x :: r).take size) = some (t.codeOf n) := by
  have hfc := k.fin_eq
  have hcl := h.cl
  have hb := Kn.great_bounds hv
  have hmax := fun i => Tr.Far.max h.nd hf hs (i + 1) i (by omega)
  have hold : ∀ c, k.fin < c → c ≤ k.great → (k.any c).isPrefixOf (x :: r) = true → (k.any c).length ≤ size := by
    intro c hc1 hc2 hp
    by_cases hcn : k.grows ∧ c = k.next
    · obtain ⟨hg, rfl⟩ := hcn
      obtain ⟨q, hq⟩ := Option.isSome_iff_exists.1 hg.1
      have ho := h.of (hv.tail q hq)
      have hne := k.word_ne (c := q)
      have hany := Kn.any_next hq
      have hp2 := pre_take hp
      have hl1 : (k.any k.next).length = (k.word q).length + 1 := by
        rw [hany, List.length_append, List.length_take]
        have : (k.word q).length ≠ 0 := fun e => hne (List.eq_nil_of_length_eq_zero e)
        omega
      rcases Nat.lt_or_ge (k.word q).length size with h1 | h1
      · omega
      · exfalso
        have hpq : (t.word (t.of k.fin q)).isPrefixOf (x :: r) = true := by
          rw [ho.2.1, List.isPrefixOf_iff_prefix]
          rw [hany, List.isPrefixOf_iff_prefix] at hp
          exact (List.prefix_append _ _).trans hp
        have h3 := hmax _ ho.1 hpq
        rw [ho.2.1] at h3
        have h4 : (k.word q).length = size := by omega
        have h5 := h3.2 h4
        have hlt : size < (x :: r).length := by omega
        refine hno hlt q hg hq h5 ?_
        have h6 := hp2.1
        rw [hl1, h4, hany, List.take_succ_eq_append_getElem hlt] at h6
        rw [← h5, ho.2.1]
        cases hw : k.word q with
        | nil => exact absurd hw hne
        | cons a l =>
          rw [hw] at h6
          simp only [List.take_succ_cons, List.take_zero] at h6
          exact (snoc_inj h6).2.symm
    · obtain ⟨i, _, hi, hw⟩ := h.old hc1 (by
        by_cases hg : k.grows
        · rw [Kn.great_grows hg] at hc2
          have : c ≠ k.next := fun e => hcn ⟨hg, e⟩
          unfold Kn.next at *; omega
        · rw [Kn.great_not hg] at hc2; exact hc2)
      rw [← hw] at hp ⊢
      exact (hmax i hi hp).1
  have hsz := hf.pos
  have hle := hf.le
  rcases t.node_or hf.node with ha | ⟨j, d, rfl, hd⟩
  · have hwl := hf.word
    rw [t.word_lit ha] at hwl
    have hs1 : size = 1 := by
      have h9 := congrArg List.length hwl
      rw [List.length_take] at h9
      simp only [List.length_cons, List.length_nil] at h9 hle
      omega
    refine ⟨Kn.longest_len hv hx hsz hle (Or.inl hs1) hold, ?_⟩
    rw [← hwl, t.codeOf_lit ha]
    unfold Kn.find
    have hn256 : n < 256 := by have := h.nd.c256; omega
    have e : (UInt8.ofNat n).toNat = n := by rw [UInt8.toNat_ofNat']; omega
    rw [if_pos ⟨rfl, by show (UInt8.ofNat n).toNat < _; rw [e]; omega⟩]
    show some (UInt8.ofNat n).toNat = _
    rw [e]
  · have hc := h.code j d hd
    have hlt := (List.getElem?_eq_some_iff.1 hc.2.1).1
    rw [h.len] at hlt
    have hdn : d.code ≠ k.next := by unfold Kn.next; omega
    have hw : k.any d.code = (x :: r).take size := by
      rw [Kn.any_old hdn, ← hf.word]
      have := (h.pr _ _ hc.2.1).2
      rw [this, show k.fin + 1 + (d.code - k.fin - 1) = d.code by omega]
    refine ⟨Kn.longest_len hv hx hsz hle (Or.inr ⟨d.code, hc.1, by omega, hw⟩) hold, ?_⟩
    rw [t.codeOf_node hd]
    have hl2 : ((x :: r).take size).length ≠ 1 := by
      rw [← hf.word, Tr.word_node h.nd hd, List.length_append]
      have : (t.word d.par).length ≠ 0 := fun e => t.word_ne d.par (List.eq_nil_of_length_eq_zero e)
      simp only [List.length_cons, List.length_nil]
      omega
    refine Kn.find_least hl2 hc.1 (by omega) hw ?_
    intro c hc1 hc2 he
    obtain ⟨i, hi1, hi, hwi⟩ := h.old hc1 (by omega)
    rw [he] at hwi
    have h3 := (hmax i hi (by rw [hwi]; exact take_isPrefixOf _ _)).2 (by rw [hwi, List.length_take]; omega)
    subst h3
    have := hc.2.2 _ hi1
    omega

/-- Greedy codes are not too many. -/
theorem greedyF_len : ∀ (f : Nat) (k : Kn) (data : List UInt8), k.Valid → k.fits data → data.length ≤ f → (k.last = none → k.ps.length ≤ k.base) → (greedyF f k data).length ≤ 1 + data.length + (data.length + (if k.last.isSome then 1 else 0)) / 2 := by
  intro f
  induction f with
  | zero =>
    intro k data h hf hl _
    rw [greedyF]
    simp
    omega
  | succ f ih =>
    intro k data h hf hl hfr
    rw [greedyF]
    by_cases hd : data = []
    · subst hd
      rw [if_pos rfl]
      simp
    · rw [if_neg hd]
      obtain ⟨c, h1, h2, h3, h4, h5, h6, _⟩ := Kn.longest_take h hd hf
      simp only [h1, Option.getD_some]
      have hv := Kn.after_valid h h2
      have hfr2 : (k.after c).fits (data.drop (k.longest data).length) := (k.like_after c).fits (fits_drop hf _)
      have hrl : (data.drop (k.longest data).length).length + (k.longest data).length = data.length := by rw [List.length_drop]; omega
      have hls : (k.after c).last.isSome = true := rfl
      split
      · rename_i hif
        have hcv := Kn.cleared_valid hv
        have h7 := ih (k.after c).cleared (data.drop (k.longest data).length) hcv ((k.after c).like_cleared.fits hfr2) (by omega) (fun _ => by show ((k.after c).ps.take (k.after c).base).length ≤ (k.after c).base; rw [List.length_take]; omega)
        have h8 : (k.after c).cleared.last.isSome = false := rfl
        rw [h8] at h7
        have h9 : k.last.isSome = true := by
          cases hl2 : k.last with
          | some q => rfl
          | none =>
            exfalso
            have hng : ¬ k.grows := fun hg => by have := hg.1; rw [hl2] at this; cases this
            have e : (k.after c).ps = k.ps := by show (if k.grows then _ else _) = _; rw [if_neg hng]
            have e2 : (k.after c).base = k.base := rfl
            have := hif.2.2
            rw [e, e2] at this
            have := hfr hl2
            omega
        rw [h9]
        simp only [List.length_cons, if_true, if_neg Bool.false_ne_true] at h7 ⊢
        omega
      · have h7 := ih (k.after c) (data.drop (k.longest data).length) hv hfr2 (by omega) (fun e => by rw [e] at hls; cases hls)
        rw [hls] at h7
        simp only [List.length_cons, if_true] at h7 ⊢
        split <;> omega

theorem Kn.greedy_len {k : Kn} (h : k.Valid) {data : List UInt8} (hf : k.fits data) : (k.greedy data).length ≤ 2 + data.length + data.length / 2 := by
  have h1 := greedyF_len data.length k.cleared data (Kn.cleared_valid h) (k.like_cleared.fits hf) (Nat.le_refl _) (fun _ => by show (k.ps.take k.base).length ≤ k.base; rw [List.length_take]; omega)
  have h2 : k.cleared.last.isSome = false := rfl
  rw [h2] at h1
  simp only [if_neg Bool.false_ne_true] at h1
  unfold Kn.greedy
  rw [List.length_cons]
  omega

end Go.Proofs.YthlgpgaeajfchaaGreatDoor
