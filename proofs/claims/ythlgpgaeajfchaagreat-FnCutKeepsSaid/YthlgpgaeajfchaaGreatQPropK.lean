/-
 Taken out of PropQ.
-/
import Derived.Test.YthlgpgaeajfchaaGreatQPropR
import Derived.Test.YthlgpgaeajfchaaGreatQEditP

namespace Go.Proofs.YthlgpgaeajfchaaGreat
open Go.RowKit
set_option linter.unusedVariables false
set_option linter.unusedSimpArgs false

def tchL (f t : Nat) : Nat → Nat → List Blk → List Nat
 | _, _, [] => []
 | p, i, b :: bs => (if max p f < min (p + b.size) t then [i] else []) ++ tchL f t (p + b.size) (i + 1) bs

theorem tchL_length {f t : Nat} : ∀ (bs : List Blk) (p i : Nat), (tchL f t p i bs).length = tch f t p bs := by
 intro bs
 induction bs with
 | nil => intro p i; rfl
 | cons b bs ih =>
  intro p i
  show ((if _ then [i] else []) ++ tchL f t (p + b.size) (i + 1) bs).length = (if _ then 1 else 0) + tch f t (p + b.size) bs
  rw [List.length_append, ih]
  split <;> rfl

theorem cut_keeps {k : Kn} {f t : Nat} : ∀ (bs : List Blk) (p i : Nat) (r : List Blk), k.cut f t p bs = some r → ∀ (q j : Nat), (tchL f t p i bs)[q]? = some j →
  i ≤ j ∧ ∃ b, bs[j - i]? = some b ∧ (f ≤ p + szs (bs.take (j - i)) → p + szs (bs.take (j - i)) + b.size ≤ t → r[q]? = some b) := by
 intro bs
 induction bs with
 | nil => intro p i r _ q j h; simp [tchL] at h
 | cons b bs ih =>
  intro p i r hr q j hq
  have hq' : ((if max p f < min (p + b.size) t then [i] else []) ++ tchL f t (p + b.size) (i + 1) bs)[q]? = some j := hq
  rw [cut_cons] at hr
  have next : ∀ (q' j' : Nat) (r' : List Blk), k.cut f t (p + b.size) bs = some r' → (tchL f t (p + b.size) (i + 1) bs)[q']? = some j' →
    i ≤ j' ∧ ∃ c, (b :: bs)[j' - i]? = some c ∧ (f ≤ p + szs ((b :: bs).take (j' - i)) → p + szs ((b :: bs).take (j' - i)) + c.size ≤ t → r'[q']? = some c) := fun q' j' r' h1 h2 => by
   obtain ⟨g1, c, g2, g3⟩ := ih _ _ _ h1 _ _ h2
   have e : j' - i = (j' - (i + 1)) + 1 := by omega
   refine ⟨by omega, c, by rw [e, List.getElem?_cons_succ]; exact g2, ?_⟩
   rw [e, List.take_succ_cons, szs_cons]
   intro h3 h4
   exact g3 (by omega) (by omega)
  by_cases h1 : min (p + b.size) t ≤ max p f
  ·rw [if_pos h1] at hr
   rw [if_neg (by omega), List.nil_append] at hq'
   exact next q j r hr hq'
  ·rw [if_neg h1] at hr
   rw [if_pos (by omega)] at hq'
   cases q with
   | zero =>
    have hj : i = j := by simpa using hq'
    subst hj
    refine ⟨Nat.le_refl _, b, by simp, ?_⟩
    rw [Nat.sub_self]
    intro h2 h3
    have h2' : f ≤ p := h2
    have h3' : p + b.size ≤ t := h3
    rw [if_pos (by omega)] at hr
    cases hc : k.cut f t (p + b.size) bs with
    | none => rw [hc] at hr; cases hr
    | some r' =>
     rw [hc] at hr
     injection hr with hr
     subst hr
     rfl
   | succ q =>
    have hq2 : (tchL f t (p + b.size) (i + 1) bs)[q]? = some j := by simpa using hq'
    split at hr
    ·cases hc : k.cut f t (p + b.size) bs with
     | none => rw [hc] at hr; cases hr
     | some r' =>
      rw [hc] at hr
      injection hr with hr
      subst hr
      obtain ⟨g1, c, g2, g3⟩ := next q j r' hc hq2
      exact ⟨g1, c, g2, fun h2 h3 => by rw [List.getElem?_cons_succ]; exact g3 h2 h3⟩
    ·cases hd : k.blockData b with
     | none => rw [hd] at hr; cases hr
     | some d =>
      cases hc : k.cut f t (p + b.size) bs with
      | none => rw [hd, hc] at hr; cases hr
      | some r' =>
       rw [hd, hc] at hr
       injection hr with hr
       subst hr
       obtain ⟨g1, c, g2, g3⟩ := next q j r' hc hq2
       exact ⟨g1, c, g2, fun h2 h3 => by rw [List.getElem?_cons_succ]; exact g3 h2 h3⟩

end Go.Proofs.YthlgpgaeajfchaaGreat
