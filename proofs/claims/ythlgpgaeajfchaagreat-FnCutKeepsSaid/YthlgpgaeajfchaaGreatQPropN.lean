/-
 Taken out of PropQ.
-/
import Derived.Test.YthlgpgaeajfchaaGreatQPropR
import Derived.Test.YthlgpgaeajfchaaGreatQEditP

namespace Go.Proofs.YthlgpgaeajfchaaGreat
open Go.RowKit
set_option linter.unusedVariables false
set_option linter.unusedSimpArgs false

def n1 (f : Nat) : Nat → List Blk → Nat
 | _, [] => 0
 | p, b :: bs => if p + b.size ≤ f then 1 + n1 f (p + b.size) bs else 0

def n2 (t : Nat) : Nat → List Blk → Nat
 | _, [] => 0
 | p, b :: bs => if t ≤ p then bs.length + 1 else n2 t (p + b.size) bs

def n3 (f t : Nat) : Nat → List Blk → Nat
 | _, [] => 0
 | p, b :: bs => (if p + b.size ≤ f ∨ t ≤ p then 1 else 0) + n3 f t (p + b.size) bs

theorem n1_le (f : Nat) : ∀ (bs : List Blk) (p : Nat), n1 f p bs ≤ bs.length := by
 intro bs
 induction bs with
 | nil => intro p; exact Nat.le_refl _
 | cons b bs ih =>
  intro p
  unfold n1
  split
  ·have := ih (p + b.size); simp only [List.length_cons]; omega
  ·exact Nat.zero_le _

theorem n2_le (t : Nat) : ∀ (bs : List Blk) (p : Nat), n2 t p bs ≤ bs.length := by
 intro bs
 induction bs with
 | nil => intro p; exact Nat.le_refl _
 | cons b bs ih =>
  intro p
  unfold n2
  split
  ·exact Nat.le_refl _
  ·have := ih (p + b.size); simp only [List.length_cons]; omega

theorem n1_zero (f : Nat) (bs : List Blk) (p : Nat) (h : f ≤ p) (hok : ∀ b ∈ bs, b.okb) : n1 f p bs = 0 := by
 cases bs with
 | nil => rfl
 | cons b bs =>
  have := (hok b (List.mem_cons_self ..)).1
  unfold n1
  rw [if_neg (by omega)]

theorem n3_all (f t : Nat) : ∀ (bs : List Blk) (p : Nat), t ≤ p → n3 f t p bs = bs.length := by
 intro bs
 induction bs with
 | nil => intro p _; rfl
 | cons b bs ih =>
  intro p h
  unfold n3
  rw [if_pos (Or.inr h), ih _ (by omega), List.length_cons]
  omega

theorem n3_eq (f t : Nat) (hft : f ≤ t) : ∀ (bs : List Blk) (p : Nat), (∀ b ∈ bs, b.okb) → n3 f t p bs = n1 f p bs + n2 t p bs := by
 intro bs
 induction bs with
 | nil => intro p _; rfl
 | cons b bs ih =>
  intro p hok
  have hb := (hok b (List.mem_cons_self ..)).1
  have hok' : ∀ c ∈ bs, c.okb := fun c hc => hok c (List.mem_cons_of_mem _ hc)
  unfold n3 n1 n2
  by_cases h1 : p + b.size ≤ f
  ·rw [if_pos (Or.inl h1), if_pos h1, if_neg (by omega), ih _ hok']
   omega
  ·rw [if_neg h1]
   by_cases h2 : t ≤ p
   ·rw [if_pos (Or.inr h2), if_pos h2, n3_all f t bs _ (by omega)]
    omega
   ·rw [if_neg (by omega), if_neg h2, ih _ hok', n1_zero f bs _ (by omega) hok']
    omega

theorem cut_first {k : Kn} {f : Nat} : ∀ (bs : List Blk) (p : Nat) (x : List Blk), (∀ b ∈ bs, b.okb) → k.cut 0 f p bs = some x → n1 f p bs ≤ x.length ∧ x.take (n1 f p bs) = bs.take (n1 f p bs) := by
 intro bs
 induction bs with
 | nil => intro p x _ _; exact ⟨Nat.zero_le _, by simp [n1]⟩
 | cons b bs ih =>
  intro p x hok hx
  have hb := (hok b (List.mem_cons_self ..)).1
  unfold n1
  by_cases h1 : p + b.size ≤ f
  ·rw [if_pos h1]
   rw [cut_cons, if_neg (by omega), if_pos (by omega)] at hx
   cases hc : k.cut 0 f (p + b.size) bs with
   | none => rw [hc] at hx; cases hx
   | some r =>
    rw [hc] at hx
    injection hx with hx
    subst hx
    obtain ⟨i1, i2⟩ := ih _ r (fun c hc => hok c (List.mem_cons_of_mem _ hc)) hc
    refine ⟨by simp only [List.length_cons]; omega, ?_⟩
    rw [Nat.add_comm 1, List.take_succ_cons, List.take_succ_cons, i2]
  ·rw [if_neg h1]
   exact ⟨Nat.zero_le _, rfl⟩

theorem cut_last {k : Kn} {t z : Nat} : ∀ (bs : List Blk) (p : Nat) (y : List Blk), (∀ b ∈ bs, b.okb) → p + szs bs ≤ z → k.cut t z p bs = some y → n2 t p bs ≤ y.length ∧ y.drop (y.length - n2 t p bs) = bs.drop (bs.length - n2 t p bs) := by
 intro bs
 induction bs with
 | nil =>
  intro p y _ _ hy
  injection hy with hy
  subst hy
  exact ⟨Nat.zero_le _, rfl⟩
 | cons b bs ih =>
  intro p y hok hz hy
  have hok' : ∀ c ∈ bs, c.okb := fun c hc => hok c (List.mem_cons_of_mem _ hc)
  unfold n2
  by_cases h1 : t ≤ p
  ·have hall := cut_within (k := k) (f := t) (t := z) (b :: bs) [] p hok h1 hz
   rw [List.append_nil] at hall
   rw [hall] at hy
   have he : k.cut t z (p + szs (b :: bs)) [] = some [] := rfl
   rw [he] at hy
   injection hy with hy
   have hy' : b :: bs = y := by rw [← hy]; simp
   subst hy'
   rw [if_pos h1]
   exact ⟨Nat.le_refl _, rfl⟩
  ·rw [if_neg h1]
   rw [szs_cons] at hz
   have hle := n2_le t bs (p + b.size)
   have fin : ∀ (c : Blk) (r : List Blk), n2 t (p + b.size) bs ≤ r.length → r.drop (r.length - n2 t (p + b.size) bs) = bs.drop (bs.length - n2 t (p + b.size) bs) →
     n2 t (p + b.size) bs ≤ (c :: r).length ∧ (c :: r).drop ((c :: r).length - n2 t (p + b.size) bs) = (b :: bs).drop ((b :: bs).length - n2 t (p + b.size) bs) := fun c r i1 i2 => by
    refine ⟨by simp only [List.length_cons]; omega, ?_⟩
    rw [List.length_cons, List.length_cons, Nat.succ_sub i1, Nat.succ_sub hle, List.drop_succ_cons, List.drop_succ_cons, i2]
   have fin0 : ∀ (r : List Blk), n2 t (p + b.size) bs ≤ r.length → r.drop (r.length - n2 t (p + b.size) bs) = bs.drop (bs.length - n2 t (p + b.size) bs) →
     n2 t (p + b.size) bs ≤ r.length ∧ r.drop (r.length - n2 t (p + b.size) bs) = (b :: bs).drop ((b :: bs).length - n2 t (p + b.size) bs) := fun r i1 i2 => by
    refine ⟨i1, ?_⟩
    rw [List.length_cons, Nat.succ_sub hle, List.drop_succ_cons, i2]
   rw [cut_cons] at hy
   split at hy
   ·obtain ⟨i1, i2⟩ := ih _ _ hok' (by omega) hy
    exact fin0 _ i1 i2
   ·split at hy
    ·cases hc : k.cut t z (p + b.size) bs with
     | none => rw [hc] at hy; cases hy
     | some r =>
      rw [hc] at hy
      injection hy with hy
      subst hy
      obtain ⟨i1, i2⟩ := ih _ _ hok' (by omega) hc
      exact fin _ _ i1 i2
    ·cases hd : k.blockData b with
     | none => rw [hd] at hy; cases hy
     | some d =>
      cases hc : k.cut t z (p + b.size) bs with
      | none => rw [hd, hc] at hy; cases hy
      | some r =>
       rw [hd, hc] at hy
       injection hy with hy
       subst hy
       obtain ⟨i1, i2⟩ := ih _ _ hok' (by omega) hc
       exact fin _ _ i1 i2

end Go.Proofs.YthlgpgaeajfchaaGreat
