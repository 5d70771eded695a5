/-
  Blocks and their data, and edits of containers, as plain data.
  Facts on the blocks of a range: their data, sizes and number; on blocks in the other order of bits; on merged blocks.
  Facts on merged blocks: their data, that no two neighbors fit into one, that merging again changes nothing.
-/
import Derived.Test.YthlgpgaeajfchaaGreatDoorMakeS
import Derived.Test.YthlgpgaeajfchaaGreatDoorKn
import Derived.Test.YthlgpgaeajfchaaGreatDoorMakeC

namespace Go.Proofs.YthlgpgaeajfchaaGreatDoor
set_option linter.unusedVariables false
set_option maxRecDepth 100000

theorem greedyF_ne (f : Nat) (k : Kn) (d : List UInt8) : greedyF f k d ≠ [] := by
  cases f with
  | zero => simp [greedyF]
  | succ f =>
    rw [greedyF]
    split
    · simp
    · simp only
      split <;> simp

theorem greedyF_last : ∀ (f : Nat) (k : Kn) (d : List UInt8), k.Valid → k.fits d → (greedyF f k d).getLast? = some k.fin := by
  intro f
  induction f with
  | zero => intro k d _ _; rfl
  | succ f ih =>
    intro k d h hf
    rw [greedyF]
    by_cases hd : d = []
    · rw [if_pos hd]; rfl
    · rw [if_neg hd]
      obtain ⟨c, h1, h2, _⟩ := Kn.longest_take h hd hf
      simp only [h1, Option.getD_some]
      have hv := Kn.after_valid h h2
      have hfr := (k.like_after c).fits (fits_drop hf (k.longest d).length)
      have cons : ∀ (x : Nat) (l : List Nat), l ≠ [] → (x :: l).getLast? = l.getLast? := fun x l hl => by
        cases l with
        | nil => exact absurd rfl hl
        | cons y ys => exact List.getLast?_cons_cons
      split
      · rw [cons _ _ (by simp), cons _ _ (greedyF_ne _ _ _), ih _ _ (Kn.cleared_valid hv) ((k.after c).like_cleared.fits hfr)]; rfl
      · rw [cons _ _ (greedyF_ne _ _ _), ih _ _ hv hfr]; rfl

theorem Kn.greedy_last {k : Kn} (h : k.Valid) {d : List UInt8} (hf : k.fits d) : (k.greedy d).getLast? = some k.fin := by
  unfold Kn.greedy
  have h1 := greedyF_last d.length k.cleared d (Kn.cleared_valid h) (k.like_cleared.fits hf)
  cases hg : greedyF d.length k.cleared d with
  | nil => exact absurd hg (greedyF_ne _ _ _)
  | cons x xs => rw [List.getLast?_cons_cons, ← hg, h1]; rfl

/-- The data of a block. -/
def Kn.blockData (k : Kn) (b : Blk) : Option (List UInt8) :=
  if b.raw then some b.body.data.toList
  else if (k.unpack b.body.data.toList).fin = 0 ∧ k.used b.body.data.toList = b.body.size ∧ (k.data (k.unpack b.body.data.toList).codes).length = b.size then some (k.data (k.unpack b.body.data.toList).codes) else none

/-- The data of compressed data. -/
theorem Kn.comp_data {k : Kn} (h : k.Valid) {d : List UInt8} (hf : k.fits d) (hl : d.length ≤ 2000) :
    (k.unpack (k.comp d)).fin = 0 ∧ k.used (k.comp d) = (k.comp d).length ∧ k.data (k.unpack (k.comp d)).codes = d := by
  obtain ⟨g1, g2, g3⟩ := Kn.greedy_spec h hf
  have hlen := Kn.greedy_len h hf
  obtain ⟨u1, u2⟩ := Kn.unpack_pack h g1 (Kn.greedy_last h hf) (by omega) (by rw [g2]; exact hl) (k.bits_digs _)
  unfold Kn.comp
  rw [u1, u2]
  exact ⟨rfl, rfl, g2⟩

theorem Kn.block_data {k : Kn} (h : k.Valid) (d : List UInt8) : k.blockData (k.block d) = some d := by
  unfold Kn.block
  by_cases hc : dfits k.o k.l k.m d ∧ (k.comp d).length < d.length
  · rw [if_pos hc]
    have hff := h.dfits.1 hc.1
    obtain ⟨h1, h2, h3⟩ := Kn.comp_data h hff.2 hff.1
    unfold Kn.blockData
    simp only [Bool.false_eq_true, if_false]
    rw [h1, h2, h3, if_pos ⟨rfl, rfl, rfl⟩]
  · rw [if_neg hc]
    unfold Kn.blockData
    simp

theorem Kn.blockData_size {k : Kn} {b : Blk} {d : List UInt8} (hb : b.okb) (h : k.blockData b = some d) : d.length = b.size := by
  unfold Kn.blockData at h
  split at h
  · rename_i hr
    injection h with h
    subst h
    have := hb.2.2
    rw [if_pos hr] at this
    simpa using this
  · split at h
    · rename_i hc
      injection h with h
      subst h
      exact hc.2.2
    · cases h

theorem Kn.blockData_renum (k : Kn) (i : Nat) (b : Blk) : k.blockData (renum i b) = k.blockData b := rfl

/-- The data of blocks, one behind the other. -/
def Kn.datas (k : Kn) : List Blk → Option (List UInt8)
  | [] => some []
  | b :: bs => match k.blockData b, k.datas bs with
    | some d, some e => some (d ++ e)
    | _, _ => none

theorem Kn.datas_append {k : Kn} (a b : List Blk) : k.datas (a ++ b) = match k.datas a, k.datas b with
    | some d, some e => some (d ++ e)
    | _, _ => none := by
  induction a with
  | nil =>
    show k.datas b = _
    cases k.datas b <;> simp [Kn.datas]
  | cons x xs ih =>
    show (match k.blockData x, k.datas (xs ++ b) with | some d, some e => some (d ++ e) | _, _ => none) = _
    rw [ih]
    cases h1 : k.blockData x <;> cases h2 : k.datas xs <;> cases h3 : k.datas b <;> simp [Kn.datas, h1, h2]

theorem Kn.datas_renumL (k : Kn) (bs : List Blk) : ∀ i, k.datas (renumL i bs) = k.datas bs := by
  induction bs with
  | nil => intro i; rfl
  | cons b bs ih =>
    intro i
    show (match k.blockData (renum i b), k.datas (renumL (i + 1) bs) with | some d, some e => some (d ++ e) | _, _ => none) = _
    rw [ih, Kn.blockData_renum]; rfl

theorem Kn.datas_size {k : Kn} {bs : List Blk} (hok : ∀ b ∈ bs, b.okb) {d : List UInt8} (h : k.datas bs = some d) : d.length = szs bs := by
  induction bs generalizing d with
  | nil => injection h with h; subst h; rfl
  | cons b bs ih =>
    unfold Kn.datas at h
    cases h1 : k.blockData b with
    | none => rw [h1] at h; cases h
    | some x =>
      cases h2 : k.datas bs with
      | none => rw [h1, h2] at h; cases h
      | some y =>
        rw [h1, h2] at h
        injection h with h
        subst h
        rw [List.length_append, Kn.blockData_size (hok b (by simp)) h1, ih (fun c hc => hok c (List.mem_cons_of_mem _ hc)) h2]
        rfl

theorem splitF_data {k : Kn} (h : k.Valid) {size : Nat} (h1 : 1 ≤ size) : ∀ (f : Nat) (d : List UInt8), d.length ≤ f → k.datas (splitF k size f d) = some d := by
  intro f
  induction f with
  | zero =>
    intro d hd
    have : d = [] := List.eq_nil_of_length_eq_zero (by omega)
    subst this
    rfl
  | succ f ih =>
    intro d hd
    rw [splitF]
    split
    · rename_i h0; subst h0; rfl
    · rename_i h0
      have hl : d.length ≠ 0 := fun e => h0 (List.eq_nil_of_length_eq_zero e)
      unfold Kn.datas
      rw [Kn.block_data h, ih (d.drop size) (by rw [List.length_drop]; omega)]
      simp

/-- The data of split data. -/
theorem Kn.split_data {k : Kn} (h : k.Valid) {size : Nat} (h1 : 1 ≤ size) (d : List UInt8) : k.datas (k.split size d) = some d := splitF_data h h1 _ _ (Nat.le_refl _)

/-- The blocks of a range of the data of blocks that begin at an offset. -/
def Kn.cut (k : Kn) (f t : Nat) : Nat → List Blk → Option (List Blk)
  | _, [] => some []
  | p, b :: bs =>
    if min (p + b.size) t ≤ max p f then k.cut f t (p + b.size) bs
    else if max p f = p ∧ min (p + b.size) t = p + b.size then (k.cut f t (p + b.size) bs).map (b :: ·)
    else match k.blockData b, k.cut f t (p + b.size) bs with
      | some d, some r => some (k.block ((d.drop (max p f - p)).take (min (p + b.size) t - max p f)) :: r)
      | _, _ => none

/-- A block in the other order of bits. -/
def Kn.flip (k : Kn) : Kn := { k with o := 1 - k.o }

def Kn.turnB (k : Kn) (b : Blk) : Option Blk :=
  if b.raw then some b
  else match k.blockData b with
    | some _ => some { b with body := bsL (packL k.flip.o (k.flip.bits (k.unpack b.body.data.toList).codes)) }
    | none => none

def Kn.turnL (k : Kn) : List Blk → Option (List Blk)
  | [] => some []
  | b :: bs => match k.turnB b, k.turnL bs with
    | some c, some r => some (c :: r)
    | _, _ => none

/-- Neighbors that are small together joined: what is joined, its data, the other blocks. -/
def Kn.mergeF (k : Kn) (size : Nat) : Blk → List UInt8 → List Blk → Option (List Blk)
  | b, _, [] => some [b]
  | b, d, c :: cs => match k.blockData c with
    | some e => if d.length + e.length ≤ size then k.mergeF size (k.block (d ++ e)) (d ++ e) cs else (k.mergeF size c e cs).map (b :: ·)
    | none => none

def Kn.merge (k : Kn) (size : Nat) : List Blk → Option (List Blk)
  | [] => some []
  | b :: bs => match k.blockData b with
    | some d => k.mergeF size b d bs
    | none => none

end Go.Proofs.YthlgpgaeajfchaaGreatDoor

namespace Go.Proofs.YthlgpgaeajfchaaGreatDoor
set_option linter.unusedVariables false

/-- The range from f to t of data that begins at p. -/
def slc (D : List UInt8) (p f t : Nat) : List UInt8 := (D.drop (f - p)).take (t - max p f)

theorem slc_append (d E : List UInt8) (p f t : Nat) : slc (d ++ E) p f t = slc d p f t ++ slc E (p + d.length) f t := by
  unfold slc
  rw [List.drop_append, List.take_append, List.length_drop]
  congr 2
  · omega
  · congr 1; omega

theorem slc_length (D : List UInt8) (p f t : Nat) : (slc D p f t).length = min t (p + D.length) - max p f := by
  unfold slc
  rw [List.length_take, List.length_drop]
  omega

theorem slc_all {D : List UInt8} {p f t : Nat} (h1 : f ≤ p) (h2 : p + D.length ≤ t) : slc D p f t = D := by
  unfold slc
  rw [show f - p = 0 by omega, List.drop_zero, List.take_of_length_le (by omega)]

theorem slc_part {D : List UInt8} {p f t : Nat} : (D.drop (max p f - p)).take (min (p + D.length) t - max p f) = slc D p f t := by
  unfold slc
  rw [show max p f - p = f - p by omega]
  by_cases h : t ≤ p + D.length
  · rw [Nat.min_eq_right h]
  · rw [Nat.min_eq_left (by omega), List.take_of_length_le (by rw [List.length_drop]; omega), List.take_of_length_le (by rw [List.length_drop]; omega)]

theorem slc_none {D : List UInt8} {p f t : Nat} (h : min (p + D.length) t ≤ max p f) : slc D p f t = [] := by
  apply List.eq_nil_of_length_eq_zero
  rw [slc_length]
  omega

/-- How many blocks a range touches. -/
def tch (f t : Nat) : Nat → List Blk → Nat
  | _, [] => 0
  | p, b :: bs => (if max p f < min (p + b.size) t then 1 else 0) + tch f t (p + b.size) bs

/-- What is known of the blocks of a range. -/
theorem cut_some {k : Kn} (h : k.Valid) {f t : Nat} : ∀ (bs : List Blk) (p : Nat) (r : List Blk), (∀ b ∈ bs, b.okb) → k.cut f t p bs = some r →
    (∀ b ∈ r, b.okb) ∧ szs r = min t (p + szs bs) - max p f ∧ r.length = tch f t p bs := by
  intro bs
  induction bs with
  | nil =>
    intro p r _ hr
    injection hr with hr
    subst hr
    refine ⟨fun b hb => by simp at hb, ?_, rfl⟩
    show 0 = min t (p + 0) - max p f
    omega
  | cons b bs ih =>
    intro p r hok hr
    have hb := hok b (by simp)
    have hok2 : ∀ c ∈ bs, c.okb := fun c hc => hok c (List.mem_cons_of_mem _ hc)
    have hb1 := hb.1
    rw [Kn.cut] at hr
    show _ ∧ szs r = min t (p + (b.size + szs bs)) - max p f ∧ r.length = (if max p f < min (p + b.size) t then 1 else 0) + tch f t (p + b.size) bs
    by_cases h1 : min (p + b.size) t ≤ max p f
    · rw [if_pos h1] at hr
      obtain ⟨i1, i2, i3⟩ := ih _ _ hok2 hr
      rw [if_neg (by omega)]
      exact ⟨i1, by omega, by omega⟩
    · rw [if_neg h1] at hr
      rw [if_pos (by omega)]
      by_cases h2 : max p f = p ∧ min (p + b.size) t = p + b.size
      · rw [if_pos h2] at hr
        cases hc : k.cut f t (p + b.size) bs with
        | none => rw [hc] at hr; cases hr
        | some r2 =>
          rw [hc] at hr
          injection hr with hr
          subst hr
          obtain ⟨i1, i2, i3⟩ := ih _ _ hok2 hc
          refine ⟨fun c hc2 => ?_, ?_, by rw [List.length_cons, i3]; omega⟩
          · rcases List.mem_cons.1 hc2 with rfl | hc2
            · exact hb
            · exact i1 c hc2
          · show b.size + szs r2 = _
            omega
      · rw [if_neg h2] at hr
        cases hd : k.blockData b with
        | none => rw [hd] at hr; cases hr
        | some d =>
          cases hc : k.cut f t (p + b.size) bs with
          | none => rw [hd, hc] at hr; cases hr
          | some r2 =>
            rw [hd, hc] at hr
            injection hr with hr
            subst hr
            obtain ⟨i1, i2, i3⟩ := ih _ _ hok2 hc
            have hdl := Kn.blockData_size hb hd
            have hpl : ((d.drop (max p f - p)).take (min (p + b.size) t - max p f)).length = min (p + b.size) t - max p f := by
              rw [List.length_take, List.length_drop]; omega
            have hb2 := hb.2.1
            refine ⟨fun c hc2 => ?_, ?_, by rw [List.length_cons, i3]; omega⟩
            · rcases List.mem_cons.1 hc2 with rfl | hc2
              · exact Kn.block_okb h (by omega) (by omega)
              · exact i1 c hc2
            · show (k.block _).size + szs r2 = _
              rw [Kn.block_size, hpl]
              omega

/-- The data of the blocks of a range. -/
theorem cut_data {k : Kn} (h : k.Valid) {f t : Nat} : ∀ (bs : List Blk) (p : Nat) (D : List UInt8), (∀ b ∈ bs, b.okb) → k.datas bs = some D → ∃ r, k.cut f t p bs = some r ∧ k.datas r = some (slc D p f t) := by
  intro bs
  induction bs with
  | nil =>
    intro p D _ hD
    injection hD with hD
    subst hD
    exact ⟨[], rfl, by simp [Kn.datas, slc]⟩
  | cons b bs ih =>
    intro p D hok hD
    have hb := hok b (by simp)
    have hok2 : ∀ c ∈ bs, c.okb := fun c hc => hok c (List.mem_cons_of_mem _ hc)
    unfold Kn.datas at hD
    cases hd : k.blockData b with
    | none => rw [hd] at hD; cases hD
    | some d =>
      cases he : k.datas bs with
      | none => rw [hd, he] at hD; cases hD
      | some E =>
        rw [hd, he] at hD
        injection hD with hD
        subst hD
        have hdl := Kn.blockData_size hb hd
        obtain ⟨r, hr1, hr2⟩ := ih (p + b.size) E hok2 he
        rw [slc_append, hdl]
        rw [Kn.cut]
        by_cases h1 : min (p + b.size) t ≤ max p f
        · rw [if_pos h1]
          refine ⟨r, hr1, ?_⟩
          rw [slc_none (by rw [hdl]; exact h1), List.nil_append]
          exact hr2
        · rw [if_neg h1]
          by_cases h2 : max p f = p ∧ min (p + b.size) t = p + b.size
          · rw [if_pos h2, hr1]
            refine ⟨b :: r, rfl, ?_⟩
            unfold Kn.datas
            rw [hd, hr2, slc_all (D := d) (p := p) (by omega) (by rw [hdl]; omega)]
          · rw [if_neg h2, hd, hr1]
            refine ⟨_, rfl, ?_⟩
            unfold Kn.datas
            rw [Kn.block_data h, hr2]
            simp only
            rw [← hdl, slc_part]

/-- The other order of bits. -/
theorem flip_flip {k : Kn} (h : k.o < 2) : k.flip.flip = k := by
  unfold Kn.flip
  have : 1 - (1 - k.o) = k.o := by omega
  simp only [this]

theorem flip_valid {k : Kn} (h : k.Valid) : k.flip.Valid := ⟨by show 1 - k.o < 2; omega, h.lit1, h.lit8, h.most, h.most10, h.room, h.keep, h.pair, h.tail⟩

theorem flip_fresh {k : Kn} (h : k.Fresh) : k.flip.Fresh := ⟨flip_valid h.val, h.last, h.base⟩

theorem flip_after (k : Kn) (c : Nat) : k.flip.after c = (k.after c).flip := rfl

theorem flip_cleared (k : Kn) : k.flip.cleared = k.cleared.flip := rfl

theorem flip_step (k : Kn) (c : Nat) : k.flip.step c = (k.step c).flip := by
  unfold Kn.step
  have : k.flip.clear = k.clear := rfl
  rw [this]
  split <;> rfl

theorem flip_greedyF : ∀ (f : Nat) (k : Kn) (d : List UInt8), greedyF f k.flip d = greedyF f k d := by
  intro f
  induction f with
  | zero => intro k d; rfl
  | succ f ih =>
    intro k d
    rw [greedyF, greedyF]
    have e1 : k.flip.longest d = k.longest d := rfl
    have e2 : k.flip.find (k.longest d) = k.find (k.longest d) := rfl
    have e3 : k.flip.fin = k.fin := rfl
    rw [e1, e2, e3]
    simp only [flip_after, flip_cleared, ih]
    rfl

theorem flip_greedy (k : Kn) (d : List UInt8) : k.flip.greedy d = k.greedy d := by
  unfold Kn.greedy
  rw [flip_cleared, flip_greedyF]
  rfl

theorem flip_widths : ∀ (xs : List Nat) (k : Kn), k.flip.widths xs = k.widths xs := by
  intro xs
  induction xs with
  | nil => intro k; rfl
  | cons x xs ih =>
    intro k
    rw [Kn.widths, Kn.widths, flip_step, ih]
    rfl

theorem flip_data : ∀ (xs : List Nat) (k : Kn), k.flip.data xs = k.data xs := by
  intro xs
  induction xs with
  | nil => intro k; rfl
  | cons x xs ih =>
    intro k
    rw [Kn.data, Kn.data, flip_step, ih]
    rfl

theorem flip_follow {k : Kn} {xs : List Nat} (h : k.Follow xs) : k.flip.Follow xs := by
  induction h with
  | nil k => exact Kn.Follow.nil _
  | last k => exact Kn.Follow.last k.flip
  | cons k x xs hg hf ih =>
    refine Kn.Follow.cons _ _ _ hg ?_
    rw [flip_step]
    exact ih

theorem packW_length_eq (o o' : Nat) : ∀ (xs ws : List Nat), (packW o xs ws).length = (packW o' xs ws).length := by
  intro xs
  induction xs with
  | nil => intro ws; rfl
  | cons x xs ih =>
    intro ws
    cases ws with
    | nil => rfl
    | cons wd ws => rw [packW, packW, List.length_append, List.length_append, codeL_length, codeL_length, ih]

theorem flip_bits_length (k : Kn) (xs : List Nat) : (k.flip.bits xs).length = (k.bits xs).length := by
  unfold Kn.bits
  rw [flip_widths]
  exact packW_length_eq _ _ _ _

theorem flip_learnF : ∀ (f : Nat) (k : Kn) (d : List UInt8), learnF f k.flip d = (learnF f k d).flip := by
  intro f
  induction f with
  | zero => intro k d; rfl
  | succ f ih =>
    intro k d
    rw [learnF, learnF]
    have e1 : k.flip.longest d = k.longest d := rfl
    have e2 : k.flip.find (k.longest d) = k.find (k.longest d) := rfl
    rw [e1, e2, flip_after, ih]
    split <;> rfl

theorem flip_learn (k : Kn) (d : List UInt8) : k.flip.learn d = (k.learn d).flip := by
  unfold Kn.learn
  rw [flip_cleared, flip_learnF]
  rfl

theorem flip_dict (o l m : Nat) (d : List UInt8) : Kn.dict (1 - o) l m d = (Kn.dict o l m d).flip := by
  unfold Kn.dict
  rw [← flip_learn]
  rfl

/-- Bits behind the end of what is read do not count. -/
theorem unF_codes_bits (bits : List UInt8) : ∀ (f : Nat) (k : Kn) (p size : Nat) (acc : List Nat), k.Valid → (unF bits f k p size acc).fin = 0 →
    ∃ more, (unF bits f k p size acc).codes = acc ++ more ∧ (unF bits f k p size acc).bits = p + (k.bits more).length := by
  intro f
  induction f with
  | zero => intro k p size acc _ h; cases h
  | succ f ih =>
    intro k p size acc hv h
    rw [unF] at h ⊢
    obtain ⟨x, hx⟩ : ∃ x, k.peek bits p = x := ⟨_, rfl⟩
    rw [hx] at h ⊢
    by_cases h1 : bits.length < p + k.width
    · rw [if_pos h1] at h; cases h
    rw [if_neg h1] at h ⊢
    by_cases h2 : x = k.fin
    · rw [if_pos h2]
      exact ⟨[x], rfl, by rw [Kn.bits_last h2, codeL_length]⟩
    rw [if_neg h2] at h ⊢
    by_cases h3 : x ≠ k.clear ∧ ¬ k.can x
    · rw [if_pos h3] at h; cases h
    rw [if_neg h3] at h ⊢
    obtain ⟨z, hz⟩ : ∃ z, (if x = k.clear then 0 else (k.any x).length) = z := ⟨_, rfl⟩
    rw [hz] at h ⊢
    by_cases h4 : 2000 < size + z
    · rw [if_pos h4] at h; cases h
    rw [if_neg h4] at h ⊢
    have hg : k.goes x := by
      by_cases hc : x = k.clear
      · exact Or.inl hc
      · by_cases hk : k.can x
        · exact Or.inr hk
        · exact absurd ⟨hc, hk⟩ h3
    obtain ⟨more, e1, e2⟩ := ih _ _ _ _ (Kn.step_valid hv hg) h
    refine ⟨x :: more, by rw [e1]; simp, ?_⟩
    rw [e2, Kn.bits_cons h2, List.length_append, codeL_length]
    omega

/-- A stream that is read whole: its codes follow, end with the end code, and take the bits that were read. -/
theorem Kn.whole {k : Kn} (h : k.Valid) {s : List UInt8} (hf : (k.unpack s).fin = 0) :
    k.Follow (k.unpack s).codes ∧ (k.unpack s).codes.getLast? = some k.fin ∧ (k.unpack s).codes.length ≤ 3100 ∧ (k.data (k.unpack s).codes).length ≤ 2000 ∧ (k.unpack s).bits = (k.bits (k.unpack s).codes).length := by
  obtain ⟨⟨more, e1, e2, e3, e4, e5⟩, _, _, _⟩ := unF_ok (unpL k.o s) 3100 k 0 0 [] h (by omega) (Nat.zero_le _)
  obtain ⟨more2, f1, f2⟩ := unF_codes_bits (unpL k.o s) 3100 k 0 0 [] h hf
  unfold Kn.unpack at hf ⊢
  rw [List.nil_append] at e1 f1
  have : more2 = more := by rw [← e1, f1]
  subst this
  rw [e1]
  exact ⟨e2, e5 hf, e3, by omega, by rw [f2]; omega⟩

/-- What a turned block is. -/
theorem turnB_some {k : Kn} (h : k.Valid) {b c : Blk} (hb : b.okb) (hc : k.turnB b = some c) :
    c.okb ∧ c.size = b.size ∧ c.raw = b.raw ∧ c.num = b.num ∧ c.body.size = b.body.size ∧ ∃ d, k.blockData b = some d ∧ k.flip.blockData c = some d := by
  unfold Kn.turnB at hc
  by_cases hr : b.raw = true
  · rw [if_pos hr] at hc
    injection hc with hc
    subst hc
    refine ⟨hb, rfl, rfl, rfl, rfl, b.body.data.toList, ?_, ?_⟩
    · unfold Kn.blockData; rw [if_pos hr]
    · unfold Kn.blockData; rw [if_pos hr]
  · rw [if_neg hr] at hc
    cases hd : k.blockData b with
    | none => rw [hd] at hc; cases hc
    | some d =>
      rw [hd] at hc
      injection hc with hc
      subst hc
      have hd' := hd
      unfold Kn.blockData at hd'
      rw [if_neg hr] at hd'
      split at hd'
      · rename_i hcond
        injection hd' with hd'
        obtain ⟨g1, g2, g3, g4, g5⟩ := Kn.whole h hcond.1
        obtain ⟨cs, hcs⟩ : ∃ cs, (k.unpack b.body.data.toList).codes = cs := ⟨_, rfl⟩
        rw [hcs] at g1 g2 g3 g4 g5 hd' hcond
        have hu := hcond.2.1
        unfold Kn.used at hu
        rw [hcond.1, if_neg (by omega), g5] at hu
        have hlen : (packL k.flip.o (k.flip.bits cs)).length = b.body.size := by rw [packL_length, flip_bits_length]; exact hu
        have hsz : (bsL (packL k.flip.o (k.flip.bits cs))).size = b.body.size := hlen
        obtain ⟨u1, u2⟩ := Kn.unpack_pack (flip_valid h) (flip_follow g1) g2 g3 (by rw [flip_data]; exact g4) (k.flip.bits_digs cs)
        rw [hcs]
        refine ⟨⟨hb.1, hb.2.1, ?_⟩, rfl, rfl, rfl, hsz, d, rfl, ?_⟩
        · have := hb.2.2
          rw [if_neg hr] at this ⊢
          show 1 ≤ (bsL _).size ∧ (bsL _).size < b.size
          rw [hsz]; exact this
        · unfold Kn.blockData
          show (if b.raw = true then _ else _) = _
          rw [if_neg hr]
          show (if (k.flip.unpack (packL k.flip.o (k.flip.bits cs))).fin = 0 ∧ k.flip.used (packL k.flip.o (k.flip.bits cs)) = (bsL (packL k.flip.o (k.flip.bits cs))).size ∧ (k.flip.data (k.flip.unpack (packL k.flip.o (k.flip.bits cs))).codes).length = b.size then some (k.flip.data (k.flip.unpack (packL k.flip.o (k.flip.bits cs))).codes) else none) = _
          rw [u1, u2, flip_data, hsz, hlen, hd', if_pos ⟨rfl, rfl, by rw [← hd']; exact hcond.2.2⟩]
      · cases hd'

end Go.Proofs.YthlgpgaeajfchaaGreatDoor

namespace Go.Proofs.YthlgpgaeajfchaaGreatDoor
set_option linter.unusedVariables false

/-- No two neighbors fit into one block. -/
def NoFit (size : Nat) : List Blk → Prop
  | [] => True
  | [_] => True
  | a :: b :: r => size < a.size + b.size ∧ NoFit size (b :: r)

theorem mergeF_ok {k : Kn} (h : k.Valid) {size : Nat} (hs : size ≤ 64) : ∀ (cs : List Blk) (b : Blk) (d E : List UInt8), b.okb → k.blockData b = some d → (∀ c ∈ cs, c.okb) → k.datas cs = some E →
    ∃ x r, k.mergeF size b d cs = some (x :: r) ∧ k.datas (x :: r) = some (d ++ E) ∧ (∀ c ∈ x :: r, c.okb) ∧ r.length ≤ cs.length ∧ NoFit size (x :: r) ∧ b.size ≤ x.size := by
  intro cs
  induction cs with
  | nil =>
    intro b d E hb hd _ hE
    injection hE with hE
    subst hE
    refine ⟨b, [], rfl, ?_, fun c hc => ?_, Nat.le_refl _, trivial, Nat.le_refl _⟩
    · unfold Kn.datas; rw [hd]; rfl
    · rw [List.mem_singleton] at hc; subst hc; exact hb
  | cons c cs ih =>
    intro b d E hb hd hok hE
    have hc := hok c (by simp)
    have hok2 : ∀ y ∈ cs, y.okb := fun y hy => hok y (List.mem_cons_of_mem _ hy)
    unfold Kn.datas at hE
    cases he : k.blockData c with
    | none => rw [he] at hE; cases hE
    | some e =>
      cases hF : k.datas cs with
      | none => rw [he, hF] at hE; cases hE
      | some F =>
        rw [he, hF] at hE
        injection hE with hE
        subst hE
        have ld := Kn.blockData_size hb hd
        have le := Kn.blockData_size hc he
        have hb1 := hb.1
        rw [Kn.mergeF, he]
        simp only
        by_cases h1 : d.length + e.length ≤ size
        · rw [if_pos h1]
          obtain ⟨x, r, r1, r2, r3, r4, r5, r6⟩ := ih (k.block (d ++ e)) (d ++ e) F (Kn.block_okb h (by rw [List.length_append]; omega) (by rw [List.length_append]; omega)) (Kn.block_data h _) hok2 hF
          refine ⟨x, r, r1, by rw [r2, List.append_assoc], r3, by rw [List.length_cons]; omega, r5, ?_⟩
          rw [Kn.block_size, List.length_append] at r6
          omega
        · rw [if_neg h1]
          obtain ⟨x, r, r1, r2, r3, r4, r5, r6⟩ := ih c e F hc he hok2 hF
          refine ⟨b, x :: r, by rw [r1]; rfl, ?_, fun y hy => ?_, by rw [List.length_cons, List.length_cons]; omega, ⟨by omega, r5⟩, Nat.le_refl _⟩
          · rw [Kn.datas, hd, r2]
          · rcases List.mem_cons.1 hy with rfl | hy
            · exact hb
            · exact r3 y hy

/-- What merging makes. -/
theorem merge_ok {k : Kn} (h : k.Valid) {size : Nat} (hs : size ≤ 64) {bs : List Blk} (hok : ∀ b ∈ bs, b.okb) {D : List UInt8} (hD : k.datas bs = some D) :
    ∃ r, k.merge size bs = some r ∧ k.datas r = some D ∧ (∀ c ∈ r, c.okb) ∧ r.length ≤ bs.length ∧ NoFit size r := by
  cases bs with
  | nil =>
    injection hD with hD
    subst hD
    exact ⟨[], rfl, rfl, fun c hc => by simp at hc, Nat.le_refl _, trivial⟩
  | cons b bs =>
    unfold Kn.datas at hD
    cases hd : k.blockData b with
    | none => rw [hd] at hD; cases hD
    | some d =>
      cases hE : k.datas bs with
      | none => rw [hd, hE] at hD; cases hD
      | some E =>
        rw [hd, hE] at hD
        injection hD with hD
        subst hD
        obtain ⟨x, r, r1, r2, r3, r4, r5, _⟩ := mergeF_ok h hs bs b d E (hok b (by simp)) hd (fun c hc => hok c (List.mem_cons_of_mem _ hc)) hE
        refine ⟨x :: r, ?_, r2, r3, by rw [List.length_cons, List.length_cons]; omega, r5⟩
        show (match k.blockData b with | some d => k.mergeF size b d bs | none => none) = _
        rw [hd]
        exact r1

theorem mergeF_same {k : Kn} {size : Nat} : ∀ (cs : List Blk) (b : Blk) (d E : List UInt8), b.okb → k.blockData b = some d → (∀ c ∈ cs, c.okb) → k.datas cs = some E → NoFit size (b :: cs) → k.mergeF size b d cs = some (b :: cs) := by
  intro cs
  induction cs with
  | nil => intro b d E _ _ _ _ _; rfl
  | cons c cs ih =>
    intro b d E hb hd hok hE hn
    have hc := hok c (by simp)
    unfold Kn.datas at hE
    cases he : k.blockData c with
    | none => rw [he] at hE; cases hE
    | some e =>
      cases hF : k.datas cs with
      | none => rw [he, hF] at hE; cases hE
      | some F =>
        have ld := Kn.blockData_size hb hd
        have le := Kn.blockData_size hc he
        have h1 := hn.1
        rw [Kn.mergeF, he]
        simp only
        rw [if_neg (by omega), ih c e F hc he (fun y hy => hok y (List.mem_cons_of_mem _ hy)) hF hn.2]
        rfl

theorem merge_same {k : Kn} {size : Nat} {bs : List Blk} (hok : ∀ b ∈ bs, b.okb) {D : List UInt8} (hD : k.datas bs = some D) (hn : NoFit size bs) : k.merge size bs = some bs := by
  cases bs with
  | nil => rfl
  | cons b bs =>
    unfold Kn.datas at hD
    cases hd : k.blockData b with
    | none => rw [hd] at hD; cases hD
    | some d =>
      cases hE : k.datas bs with
      | none => rw [hd, hE] at hD; cases hD
      | some E =>
        show (match k.blockData b with | some d => k.mergeF size b d bs | none => none) = _
        rw [hd]
        exact mergeF_same bs b d E (hok b (by simp)) hd (fun c hc => hok c (List.mem_cons_of_mem _ hc)) hE hn

theorem NoFit_renum {size : Nat} : ∀ (bs : List Blk) (i : Nat), NoFit size bs → NoFit size (renumL i bs) := by
  intro bs
  induction bs with
  | nil => intro i _; trivial
  | cons a bs ih =>
    intro i h
    cases bs with
    | nil => trivial
    | cons b bs => exact ⟨h.1, ih (i + 1) h.2⟩

/-- A code can follow if it is not greater than the greatest one, and neither the clear code nor the end code. -/
theorem Kn.can_iff {k : Kn} (h : k.Valid) {x : Nat} : k.can x ↔ x ≤ k.great ∧ x ≠ k.clear ∧ x ≠ k.fin := by
  have hg := Kn.great_bounds h
  have hf := k.fin_eq
  constructor
  · intro hc
    have h1 := Kn.can_great h hc
    exact ⟨by omega, Kn.can_ne_clear h hc, Kn.can_ne_fin h hc⟩
  · rintro ⟨h1, h2, h3⟩
    by_cases hl : x < k.clear
    · exact Or.inl (Or.inl hl)
    · exact Kn.can_range h (by omega) h1

theorem Kn.goes_iff {k : Kn} (h : k.Valid) {x : Nat} : (k.goes x ∨ x = k.fin) ↔ x ≤ k.great := by
  have hg := Kn.great_bounds h
  have hf := k.fin_eq
  have hc := Kn.can_iff h (x := x)
  unfold Kn.goes
  constructor
  · rintro ((h1 | h1) | h1)
    · omega
    · exact (hc.1 h1).1
    · omega
  · intro h1
    by_cases h2 : x = k.clear
    · exact Or.inl (Or.inl h2)
    · by_cases h3 : x = k.fin
      · exact Or.inr h3
      · exact Or.inl (Or.inr (hc.2 ⟨h1, h2, h3⟩))

/-- What is known behind a dictionary, for whole numbers. -/
def kdict (o l m : Int) (d : List UInt8) : Kn := Kn.dict o.toNat l.toNat m.toNat d

end Go.Proofs.YthlgpgaeajfchaaGreatDoor
