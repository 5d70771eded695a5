/-
 Taken out of MergeFacts.
-/
import Derived.Test.YthlgpgaeajfchaaGreatQMergeFacts
import Derived.Test.YthlgpgaeajfchaaGreatQMakeS
import Derived.Test.YthlgpgaeajfchaaGreatQKn
import Derived.Test.YthlgpgaeajfchaaGreatQMakeC

namespace Go.Proofs.YthlgpgaeajfchaaGreat
set_option linter.unusedVariables false
set_option maxRecDepth 100000

def Kn.turnB (k : Kn) (b : Blk) : Option Blk :=
 if b.raw then some b
 else match k.blockData b with
  | some _ => some { b with body := bsL (packL k.flip.o (k.flip.bits (k.unpack b.body.data.toList).codes)) }
  | none => none

def Kn.turnL (k : Kn) : List Blk → Option (List Blk)
 | [] => some []
 | b :: bs => match k.turnB b, k.turnL bs with
  | some c, some r => some (c :: r)
  | _, _ => none

theorem flip_flip {k : Kn} (h : k.o < 2) : k.flip.flip = k := by
 unfold Kn.flip
 have : 1 - (1 - k.o) = k.o := by omega
 simp only [this]

theorem flip_valid {k : Kn} (h : k.Valid) : k.flip.Valid := ⟨by show 1 - k.o < 2; omega, h.lit1, h.lit8, h.most, h.most10, h.room, h.keep, h.pair, h.tail⟩

theorem flip_fresh {k : Kn} (h : k.Fresh) : k.flip.Fresh := ⟨flip_valid h.val, h.last, h.base⟩

theorem flip_after (k : Kn) (c : Nat) : k.flip.after c = (k.after c).flip := rfl

theorem flip_cleared (k : Kn) : k.flip.cleared = k.cleared.flip := rfl

theorem flip_step (k : Kn) (c : Nat) : k.flip.step c = (k.step c).flip := by
 unfold Kn.step
 have : k.flip.clear = k.clear := rfl
 rw [this]
 split <;> rfl

theorem flip_greedyF : ∀ (f : Nat) (k : Kn) (d : List UInt8), greedyF f k.flip d = greedyF f k d := by
 intro f
 induction f with
 | zero => intro k d; rfl
 | succ f ih =>
  intro k d
  rw [greedyF, greedyF]
  have e1 : k.flip.longest d = k.longest d := rfl
  have e2 : k.flip.find (k.longest d) = k.find (k.longest d) := rfl
  have e3 : k.flip.fin = k.fin := rfl
  rw [e1, e2, e3]
  simp only [flip_after, flip_cleared, ih]
  rfl

theorem flip_greedy (k : Kn) (d : List UInt8) : k.flip.greedy d = k.greedy d := by
 unfold Kn.greedy
 rw [flip_cleared, flip_greedyF]
 rfl

theorem flip_widths : ∀ (xs : List Nat) (k : Kn), k.flip.widths xs = k.widths xs := by
 intro xs
 induction xs with
 | nil => intro k; rfl
 | cons x xs ih =>
  intro k
  rw [Kn.widths, Kn.widths, flip_step, ih]
  rfl

theorem flip_data : ∀ (xs : List Nat) (k : Kn), k.flip.data xs = k.data xs := by
 intro xs
 induction xs with
 | nil => intro k; rfl
 | cons x xs ih =>
  intro k
  rw [Kn.data, Kn.data, flip_step, ih]
  rfl

theorem flip_follow {k : Kn} {xs : List Nat} (h : k.Follow xs) : k.flip.Follow xs := by
 induction h with
 | nil k => exact Kn.Follow.nil _
 | last k => exact Kn.Follow.last k.flip
 | cons k x xs hg hf ih =>
  refine Kn.Follow.cons _ _ _ hg ?_
  rw [flip_step]
  exact ih

theorem packW_length_eq (o o' : Nat) : ∀ (xs ws : List Nat), (packW o xs ws).length = (packW o' xs ws).length := by
 intro xs
 induction xs with
 | nil => intro ws; rfl
 | cons x xs ih =>
  intro ws
  cases ws with
  | nil => rfl
  | cons wd ws => rw [packW, packW, List.length_append, List.length_append, codeL_length, codeL_length, ih]

theorem flip_bits_length (k : Kn) (xs : List Nat) : (k.flip.bits xs).length = (k.bits xs).length := by
 unfold Kn.bits
 rw [flip_widths]
 exact packW_length_eq _ _ _ _

theorem flip_learnF : ∀ (f : Nat) (k : Kn) (d : List UInt8), learnF f k.flip d = (learnF f k d).flip := by
 intro f
 induction f with
 | zero => intro k d; rfl
 | succ f ih =>
  intro k d
  rw [learnF, learnF]
  have e1 : k.flip.longest d = k.longest d := rfl
  have e2 : k.flip.find (k.longest d) = k.find (k.longest d) := rfl
  rw [e1, e2, flip_after, ih]
  split <;> rfl

theorem flip_learn (k : Kn) (d : List UInt8) : k.flip.learn d = (k.learn d).flip := by
 unfold Kn.learn
 rw [flip_cleared, flip_learnF]
 rfl

theorem flip_dict (o l m : Nat) (d : List UInt8) : Kn.dict (1 - o) l m d = (Kn.dict o l m d).flip := by
 unfold Kn.dict
 rw [← flip_learn]
 rfl

theorem unF_codes_bits (bits : List UInt8) : ∀ (f : Nat) (k : Kn) (p size : Nat) (acc : List Nat), k.Valid → (unF bits f k p size acc).fin = 0 →
  ∃ more, (unF bits f k p size acc).codes = acc ++ more ∧ (unF bits f k p size acc).bits = p + (k.bits more).length := by
 intro f
 induction f with
 | zero => intro k p size acc _ h; cases h
 | succ f ih =>
  intro k p size acc hv h
  rw [unF] at h ⊢
  obtain ⟨x, hx⟩ : ∃ x, k.peek bits p = x := ⟨_, rfl⟩
  rw [hx] at h ⊢
  by_cases h1 : bits.length < p + k.width
  ·rw [if_pos h1] at h; cases h
  rw [if_neg h1] at h ⊢
  by_cases h2 : x = k.fin
  ·rw [if_pos h2]
   exact ⟨[x], rfl, by rw [Kn.bits_last h2, codeL_length]⟩
  rw [if_neg h2] at h ⊢
  by_cases h3 : x ≠ k.clear ∧ ¬ k.can x
  ·rw [if_pos h3] at h; cases h
  rw [if_neg h3] at h ⊢
  obtain ⟨z, hz⟩ : ∃ z, (if x = k.clear then 0 else (k.any x).length) = z := ⟨_, rfl⟩
  rw [hz] at h ⊢
  by_cases h4 : 2000 < size + z
  ·rw [if_pos h4] at h; cases h
  rw [if_neg h4] at h ⊢
  have hg : k.goes x := by
   by_cases hc : x = k.clear
   ·exact Or.inl hc
   ·by_cases hk : k.can x
    ·exact Or.inr hk
    ·exact absurd ⟨hc, hk⟩ h3
  obtain ⟨more, e1, e2⟩ := ih _ _ _ _ (Kn.step_valid hv hg) h
  refine ⟨x :: more, by rw [e1]; simp, ?_⟩
  rw [e2, Kn.bits_cons h2, List.length_append, codeL_length]
  omega

theorem Kn.whole {k : Kn} (h : k.Valid) {s : List UInt8} (hf : (k.unpack s).fin = 0) :
  k.Follow (k.unpack s).codes ∧ (k.unpack s).codes.getLast? = some k.fin ∧ (k.unpack s).codes.length ≤ 3100 ∧ (k.data (k.unpack s).codes).length ≤ 2000 ∧ (k.unpack s).bits = (k.bits (k.unpack s).codes).length := by
 obtain ⟨⟨more, e1, e2, e3, e4, e5⟩, _, _, _⟩ := unF_ok (unpL k.o s) 3100 k 0 0 [] h (by omega) (Nat.zero_le _)
 obtain ⟨more2, f1, f2⟩ := unF_codes_bits (unpL k.o s) 3100 k 0 0 [] h hf
 unfold Kn.unpack at hf ⊢
 rw [List.nil_append] at e1 f1
 have : more2 = more := by rw [← e1, f1]
 subst this
 rw [e1]
 exact ⟨e2, e5 hf, e3, by omega, by rw [f2]; omega⟩

theorem turnB_some {k : Kn} (h : k.Valid) {b c : Blk} (hb : b.okb) (hc : k.turnB b = some c) :
  c.okb ∧ c.size = b.size ∧ c.raw = b.raw ∧ c.num = b.num ∧ c.body.size = b.body.size ∧ ∃ d, k.blockData b = some d ∧ k.flip.blockData c = some d := by
 unfold Kn.turnB at hc
 by_cases hr : b.raw = true
 ·rw [if_pos hr] at hc
  injection hc with hc
  subst hc
  refine ⟨hb, rfl, rfl, rfl, rfl, b.body.data.toList, ?_, ?_⟩
  ·unfold Kn.blockData; rw [if_pos hr]
  ·unfold Kn.blockData; rw [if_pos hr]
 ·rw [if_neg hr] at hc
  cases hd : k.blockData b with
  | none => rw [hd] at hc; cases hc
  | some d =>
   rw [hd] at hc
   injection hc with hc
   subst hc
   have hd' := hd
   unfold Kn.blockData at hd'
   rw [if_neg hr] at hd'
   split at hd'
   ·rename_i hcond
    injection hd' with hd'
    obtain ⟨g1, g2, g3, g4, g5⟩ := Kn.whole h hcond.1
    obtain ⟨cs, hcs⟩ : ∃ cs, (k.unpack b.body.data.toList).codes = cs := ⟨_, rfl⟩
    rw [hcs] at g1 g2 g3 g4 g5 hd' hcond
    have hu := hcond.2.1
    unfold Kn.used at hu
    rw [hcond.1, if_neg (by omega), g5] at hu
    have hlen : (packL k.flip.o (k.flip.bits cs)).length = b.body.size := by rw [packL_length, flip_bits_length]; exact hu
    have hsz : (bsL (packL k.flip.o (k.flip.bits cs))).size = b.body.size := hlen
    obtain ⟨u1, u2⟩ := Kn.unpack_pack (flip_valid h) (flip_follow g1) g2 g3 (by rw [flip_data]; exact g4) (k.flip.bits_digs cs)
    rw [hcs]
    refine ⟨⟨hb.1, hb.2.1, ?_⟩, rfl, rfl, rfl, hsz, d, rfl, ?_⟩
    ·have := hb.2.2
     rw [if_neg hr] at this ⊢
     show 1 ≤ (bsL _).size ∧ (bsL _).size < b.size
     rw [hsz]; exact this
    ·unfold Kn.blockData
     show (if b.raw = true then _ else _) = _
     rw [if_neg hr]
     show (if (k.flip.unpack (packL k.flip.o (k.flip.bits cs))).fin = 0 ∧ k.flip.used (packL k.flip.o (k.flip.bits cs)) = (bsL (packL k.flip.o (k.flip.bits cs))).size ∧ (k.flip.data (k.flip.unpack (packL k.flip.o (k.flip.bits cs))).codes).length = b.size then some (k.flip.data (k.flip.unpack (packL k.flip.o (k.flip.bits cs))).codes) else none) = _
     rw [u1, u2, flip_data, hsz, hlen, hd', if_pos ⟨rfl, rfl, by rw [← hd']; exact hcond.2.2⟩]
   ·cases hd'

end Go.Proofs.YthlgpgaeajfchaaGreat
