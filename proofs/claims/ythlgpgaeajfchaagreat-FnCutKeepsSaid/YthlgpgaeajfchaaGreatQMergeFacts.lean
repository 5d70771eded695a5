/-
 Blocks and their data, and edits of containers, as plain data.
-/
import Derived.Test.YthlgpgaeajfchaaGreatQMakeS
import Derived.Test.YthlgpgaeajfchaaGreatQKn
import Derived.Test.YthlgpgaeajfchaaGreatQMakeC

namespace Go.Proofs.YthlgpgaeajfchaaGreat
set_option linter.unusedVariables false
set_option maxRecDepth 100000

theorem greedyF_ne (f : Nat) (k : Kn) (d : List UInt8) : greedyF f k d ≠ [] := by
 cases f with
 | zero => simp [greedyF]
 | succ f =>
  rw [greedyF]
  split
  ·simp
  ·simp only
   split <;> simp

theorem greedyF_last : ∀ (f : Nat) (k : Kn) (d : List UInt8), k.Valid → k.fits d → (greedyF f k d).getLast? = some k.fin := by
 intro f
 induction f with
 | zero => intro k d _ _; rfl
 | succ f ih =>
  intro k d h hf
  rw [greedyF]
  by_cases hd : d = []
  ·rw [if_pos hd]; rfl
  ·rw [if_neg hd]
   obtain ⟨c, h1, h2, _⟩ := Kn.longest_take h hd hf
   simp only [h1, Option.getD_some]
   have hv := Kn.after_valid h h2
   have hfr := (k.like_after c).fits (fits_drop hf (k.longest d).length)
   have cons : ∀ (x : Nat) (l : List Nat), l ≠ [] → (x :: l).getLast? = l.getLast? := fun x l hl => by
    cases l with
    | nil => exact absurd rfl hl
    | cons y ys => exact List.getLast?_cons_cons
   split
   ·rw [cons _ _ (by simp), cons _ _ (greedyF_ne _ _ _), ih _ _ (Kn.cleared_valid hv) ((k.after c).like_cleared.fits hfr)]; rfl
   ·rw [cons _ _ (greedyF_ne _ _ _), ih _ _ hv hfr]; rfl

theorem Kn.greedy_last {k : Kn} (h : k.Valid) {d : List UInt8} (hf : k.fits d) : (k.greedy d).getLast? = some k.fin := by
 unfold Kn.greedy
 have h1 := greedyF_last d.length k.cleared d (Kn.cleared_valid h) (k.like_cleared.fits hf)
 cases hg : greedyF d.length k.cleared d with
 | nil => exact absurd hg (greedyF_ne _ _ _)
 | cons x xs => rw [List.getLast?_cons_cons, ← hg, h1]; rfl

def Kn.blockData (k : Kn) (b : Blk) : Option (List UInt8) :=
 if b.raw then some b.body.data.toList
 else if (k.unpack b.body.data.toList).fin = 0 ∧ k.used b.body.data.toList = b.body.size ∧ (k.data (k.unpack b.body.data.toList).codes).length = b.size then some (k.data (k.unpack b.body.data.toList).codes) else none

theorem Kn.comp_data {k : Kn} (h : k.Valid) {d : List UInt8} (hf : k.fits d) (hl : d.length ≤ 2000) :
  (k.unpack (k.comp d)).fin = 0 ∧ k.used (k.comp d) = (k.comp d).length ∧ k.data (k.unpack (k.comp d)).codes = d := by
 obtain ⟨g1, g2, g3⟩ := Kn.greedy_spec h hf
 have hlen := Kn.greedy_len h hf
 obtain ⟨u1, u2⟩ := Kn.unpack_pack h g1 (Kn.greedy_last h hf) (by omega) (by rw [g2]; exact hl) (k.bits_digs _)
 unfold Kn.comp
 rw [u1, u2]
 exact ⟨rfl, rfl, g2⟩

theorem Kn.block_data {k : Kn} (h : k.Valid) (d : List UInt8) : k.blockData (k.block d) = some d := by
 unfold Kn.block
 by_cases hc : dfits k.o k.l k.m d ∧ (k.comp d).length < d.length
 ·rw [if_pos hc]
  have hff := h.dfits.1 hc.1
  obtain ⟨h1, h2, h3⟩ := Kn.comp_data h hff.2 hff.1
  unfold Kn.blockData
  simp only [Bool.false_eq_true, if_false]
  rw [h1, h2, h3, if_pos ⟨rfl, rfl, rfl⟩]
 ·rw [if_neg hc]
  unfold Kn.blockData
  simp

theorem Kn.blockData_size {k : Kn} {b : Blk} {d : List UInt8} (hb : b.okb) (h : k.blockData b = some d) : d.length = b.size := by
 unfold Kn.blockData at h
 split at h
 ·rename_i hr
  injection h with h
  subst h
  have := hb.2.2
  rw [if_pos hr] at this
  simpa using this
 ·split at h
  ·rename_i hc
   injection h with h
   subst h
   exact hc.2.2
  ·cases h

theorem Kn.blockData_renum (k : Kn) (i : Nat) (b : Blk) : k.blockData (renum i b) = k.blockData b := rfl

def Kn.datas (k : Kn) : List Blk → Option (List UInt8)
 | [] => some []
 | b :: bs => match k.blockData b, k.datas bs with
  | some d, some e => some (d ++ e)
  | _, _ => none

theorem Kn.datas_append {k : Kn} (a b : List Blk) : k.datas (a ++ b) = match k.datas a, k.datas b with
  | some d, some e => some (d ++ e)
  | _, _ => none := by
 induction a with
 | nil =>
  show k.datas b = _
  cases k.datas b <;> simp [Kn.datas]
 | cons x xs ih =>
  show (match k.blockData x, k.datas (xs ++ b) with | some d, some e => some (d ++ e) | _, _ => none) = _
  rw [ih]
  cases h1 : k.blockData x <;> cases h2 : k.datas xs <;> cases h3 : k.datas b <;> simp [Kn.datas, h1, h2]

theorem Kn.datas_renumL (k : Kn) (bs : List Blk) : ∀ i, k.datas (renumL i bs) = k.datas bs := by
 induction bs with
 | nil => intro i; rfl
 | cons b bs ih =>
  intro i
  show (match k.blockData (renum i b), k.datas (renumL (i + 1) bs) with | some d, some e => some (d ++ e) | _, _ => none) = _
  rw [ih, Kn.blockData_renum]; rfl

theorem Kn.datas_size {k : Kn} {bs : List Blk} (hok : ∀ b ∈ bs, b.okb) {d : List UInt8} (h : k.datas bs = some d) : d.length = szs bs := by
 induction bs generalizing d with
 | nil => injection h with h; subst h; rfl
 | cons b bs ih =>
  unfold Kn.datas at h
  cases h1 : k.blockData b with
  | none => rw [h1] at h; cases h
  | some x =>
   cases h2 : k.datas bs with
   | none => rw [h1, h2] at h; cases h
   | some y =>
    rw [h1, h2] at h
    injection h with h
    subst h
    rw [List.length_append, Kn.blockData_size (hok b (by simp)) h1, ih (fun c hc => hok c (List.mem_cons_of_mem _ hc)) h2]
    rfl

theorem splitF_data {k : Kn} (h : k.Valid) {size : Nat} (h1 : 1 ≤ size) : ∀ (f : Nat) (d : List UInt8), d.length ≤ f → k.datas (splitF k size f d) = some d := by
 intro f
 induction f with
 | zero =>
  intro d hd
  have : d = [] := List.eq_nil_of_length_eq_zero (by omega)
  subst this
  rfl
 | succ f ih =>
  intro d hd
  rw [splitF]
  split
  ·rename_i h0; subst h0; rfl
  ·rename_i h0
   have hl : d.length ≠ 0 := fun e => h0 (List.eq_nil_of_length_eq_zero e)
   unfold Kn.datas
   rw [Kn.block_data h, ih (d.drop size) (by rw [List.length_drop]; omega)]
   simp

theorem Kn.split_data {k : Kn} (h : k.Valid) {size : Nat} (h1 : 1 ≤ size) (d : List UInt8) : k.datas (k.split size d) = some d := splitF_data h h1 _ _ (Nat.le_refl _)

def Kn.cut (k : Kn) (f t : Nat) : Nat → List Blk → Option (List Blk)
 | _, [] => some []
 | p, b :: bs =>
  if min (p + b.size) t ≤ max p f then k.cut f t (p + b.size) bs
  else if max p f = p ∧ min (p + b.size) t = p + b.size then (k.cut f t (p + b.size) bs).map (b :: ·)
  else match k.blockData b, k.cut f t (p + b.size) bs with
   | some d, some r => some (k.block ((d.drop (max p f - p)).take (min (p + b.size) t - max p f)) :: r)
   | _, _ => none

def Kn.flip (k : Kn) : Kn := { k with o := 1 - k.o }

def Kn.mergeF (k : Kn) (size : Nat) : Blk → List UInt8 → List Blk → Option (List Blk)
 | b, _, [] => some [b]
 | b, d, c :: cs => match k.blockData c with
  | some e => if d.length + e.length ≤ size then k.mergeF size (k.block (d ++ e)) (d ++ e) cs else (k.mergeF size c e cs).map (b :: ·)
  | none => none

def Kn.merge (k : Kn) (size : Nat) : List Blk → Option (List Blk)
 | [] => some []
 | b :: bs => match k.blockData b with
  | some d => k.mergeF size b d bs
  | none => none

end Go.Proofs.YthlgpgaeajfchaaGreat

namespace Go.Proofs.YthlgpgaeajfchaaGreat
set_option linter.unusedVariables false

def slc (D : List UInt8) (p f t : Nat) : List UInt8 := (D.drop (f - p)).take (t - max p f)

theorem slc_append (d E : List UInt8) (p f t : Nat) : slc (d ++ E) p f t = slc d p f t ++ slc E (p + d.length) f t := by
 unfold slc
 rw [List.drop_append, List.take_append, List.length_drop]
 congr 2
 ·omega
 ·congr 1; omega

theorem slc_length (D : List UInt8) (p f t : Nat) : (slc D p f t).length = min t (p + D.length) - max p f := by
 unfold slc
 rw [List.length_take, List.length_drop]
 omega

theorem slc_all {D : List UInt8} {p f t : Nat} (h1 : f ≤ p) (h2 : p + D.length ≤ t) : slc D p f t = D := by
 unfold slc
 rw [show f - p = 0 by omega, List.drop_zero, List.take_of_length_le (by omega)]

theorem slc_part {D : List UInt8} {p f t : Nat} : (D.drop (max p f - p)).take (min (p + D.length) t - max p f) = slc D p f t := by
 unfold slc
 rw [show max p f - p = f - p by omega]
 by_cases h : t ≤ p + D.length
 ·rw [Nat.min_eq_right h]
 ·rw [Nat.min_eq_left (by omega), List.take_of_length_le (by rw [List.length_drop]; omega), List.take_of_length_le (by rw [List.length_drop]; omega)]

theorem slc_none {D : List UInt8} {p f t : Nat} (h : min (p + D.length) t ≤ max p f) : slc D p f t = [] := by
 apply List.eq_nil_of_length_eq_zero
 rw [slc_length]
 omega

def tch (f t : Nat) : Nat → List Blk → Nat
 | _, [] => 0
 | p, b :: bs => (if max p f < min (p + b.size) t then 1 else 0) + tch f t (p + b.size) bs

theorem cut_some {k : Kn} (h : k.Valid) {f t : Nat} : ∀ (bs : List Blk) (p : Nat) (r : List Blk), (∀ b ∈ bs, b.okb) → k.cut f t p bs = some r →
  (∀ b ∈ r, b.okb) ∧ szs r = min t (p + szs bs) - max p f ∧ r.length = tch f t p bs := by
 intro bs
 induction bs with
 | nil =>
  intro p r _ hr
  injection hr with hr
  subst hr
  refine ⟨fun b hb => by simp at hb, ?_, rfl⟩
  show 0 = min t (p + 0) - max p f
  omega
 | cons b bs ih =>
  intro p r hok hr
  have hb := hok b (by simp)
  have hok2 : ∀ c ∈ bs, c.okb := fun c hc => hok c (List.mem_cons_of_mem _ hc)
  have hb1 := hb.1
  rw [Kn.cut] at hr
  show _ ∧ szs r = min t (p + (b.size + szs bs)) - max p f ∧ r.length = (if max p f < min (p + b.size) t then 1 else 0) + tch f t (p + b.size) bs
  by_cases h1 : min (p + b.size) t ≤ max p f
  ·rw [if_pos h1] at hr
   obtain ⟨i1, i2, i3⟩ := ih _ _ hok2 hr
   rw [if_neg (by omega)]
   exact ⟨i1, by omega, by omega⟩
  ·rw [if_neg h1] at hr
   rw [if_pos (by omega)]
   by_cases h2 : max p f = p ∧ min (p + b.size) t = p + b.size
   ·rw [if_pos h2] at hr
    cases hc : k.cut f t (p + b.size) bs with
    | none => rw [hc] at hr; cases hr
    | some r2 =>
     rw [hc] at hr
     injection hr with hr
     subst hr
     obtain ⟨i1, i2, i3⟩ := ih _ _ hok2 hc
     refine ⟨fun c hc2 => ?_, ?_, by rw [List.length_cons, i3]; omega⟩
     ·rcases List.mem_cons.1 hc2 with rfl | hc2
      ·exact hb
      ·exact i1 c hc2
     ·show b.size + szs r2 = _
      omega
   ·rw [if_neg h2] at hr
    cases hd : k.blockData b with
    | none => rw [hd] at hr; cases hr
    | some d =>
     cases hc : k.cut f t (p + b.size) bs with
     | none => rw [hd, hc] at hr; cases hr
     | some r2 =>
      rw [hd, hc] at hr
      injection hr with hr
      subst hr
      obtain ⟨i1, i2, i3⟩ := ih _ _ hok2 hc
      have hdl := Kn.blockData_size hb hd
      have hpl : ((d.drop (max p f - p)).take (min (p + b.size) t - max p f)).length = min (p + b.size) t - max p f := by
       rw [List.length_take, List.length_drop]; omega
      have hb2 := hb.2.1
      refine ⟨fun c hc2 => ?_, ?_, by rw [List.length_cons, i3]; omega⟩
      ·rcases List.mem_cons.1 hc2 with rfl | hc2
       ·exact Kn.block_okb h (by omega) (by omega)
       ·exact i1 c hc2
      ·show (k.block _).size + szs r2 = _
       rw [Kn.block_size, hpl]
       omega

theorem cut_data {k : Kn} (h : k.Valid) {f t : Nat} : ∀ (bs : List Blk) (p : Nat) (D : List UInt8), (∀ b ∈ bs, b.okb) → k.datas bs = some D → ∃ r, k.cut f t p bs = some r ∧ k.datas r = some (slc D p f t) := by
 intro bs
 induction bs with
 | nil =>
  intro p D _ hD
  injection hD with hD
  subst hD
  exact ⟨[], rfl, by simp [Kn.datas, slc]⟩
 | cons b bs ih =>
  intro p D hok hD
  have hb := hok b (by simp)
  have hok2 : ∀ c ∈ bs, c.okb := fun c hc => hok c (List.mem_cons_of_mem _ hc)
  unfold Kn.datas at hD
  cases hd : k.blockData b with
  | none => rw [hd] at hD; cases hD
  | some d =>
   cases he : k.datas bs with
   | none => rw [hd, he] at hD; cases hD
   | some E =>
    rw [hd, he] at hD
    injection hD with hD
    subst hD
    have hdl := Kn.blockData_size hb hd
    obtain ⟨r, hr1, hr2⟩ := ih (p + b.size) E hok2 he
    rw [slc_append, hdl]
    rw [Kn.cut]
    by_cases h1 : min (p + b.size) t ≤ max p f
    ·rw [if_pos h1]
     refine ⟨r, hr1, ?_⟩
     rw [slc_none (by rw [hdl]; exact h1), List.nil_append]
     exact hr2
    ·rw [if_neg h1]
     by_cases h2 : max p f = p ∧ min (p + b.size) t = p + b.size
     ·rw [if_pos h2, hr1]
      refine ⟨b :: r, rfl, ?_⟩
      unfold Kn.datas
      rw [hd, hr2, slc_all (D := d) (p := p) (by omega) (by rw [hdl]; omega)]
     ·rw [if_neg h2, hd, hr1]
      refine ⟨_, rfl, ?_⟩
      unfold Kn.datas
      rw [Kn.block_data h, hr2]
      simp only
      rw [← hdl, slc_part]

end Go.Proofs.YthlgpgaeajfchaaGreat

namespace Go.Proofs.YthlgpgaeajfchaaGreat
set_option linter.unusedVariables false

theorem Kn.can_iff {k : Kn} (h : k.Valid) {x : Nat} : k.can x ↔ x ≤ k.great ∧ x ≠ k.clear ∧ x ≠ k.fin := by
 have hg := Kn.great_bounds h
 have hf := k.fin_eq
 constructor
 ·intro hc
  have h1 := Kn.can_great h hc
  exact ⟨by omega, Kn.can_ne_clear h hc, Kn.can_ne_fin h hc⟩
 ·rintro ⟨h1, h2, h3⟩
  by_cases hl : x < k.clear
  ·exact Or.inl (Or.inl hl)
  ·exact Kn.can_range h (by omega) h1

theorem Kn.goes_iff {k : Kn} (h : k.Valid) {x : Nat} : (k.goes x ∨ x = k.fin) ↔ x ≤ k.great := by
 have hg := Kn.great_bounds h
 have hf := k.fin_eq
 have hc := Kn.can_iff h (x := x)
 unfold Kn.goes
 constructor
 ·rintro ((h1 | h1) | h1)
  ·omega
  ·exact (hc.1 h1).1
  ·omega
 ·intro h1
  by_cases h2 : x = k.clear
  ·exact Or.inl (Or.inl h2)
  ·by_cases h3 : x = k.fin
   ·exact Or.inr h3
   ·exact Or.inl (Or.inr (hc.2 ⟨h1, h2, h3⟩))

def kdict (o l m : Int) (d : List UInt8) : Kn := Kn.dict o.toNat l.toNat m.toNat d

end Go.Proofs.YthlgpgaeajfchaaGreat
