/-
 Taken out of MergeFacts.
-/
import Derived.Test.YthlgpgaeajfchaaGreatQEditP
import Derived.Test.YthlgpgaeajfchaaGreatQMergeFacts
import Derived.Test.YthlgpgaeajfchaaGreatQMakeS
import Derived.Test.YthlgpgaeajfchaaGreatQKn
import Derived.Test.YthlgpgaeajfchaaGreatQMakeC

namespace Go.Proofs.YthlgpgaeajfchaaGreat
set_option linter.unusedVariables false
set_option maxRecDepth 100000

def NoFit (size : Nat) : List Blk → Prop
 | [] => True
 | [_] => True
 | a :: b :: r => size < a.size + b.size ∧ NoFit size (b :: r)

theorem mergeF_ok {k : Kn} (h : k.Valid) {size : Nat} (hs : size ≤ 64) : ∀ (cs : List Blk) (b : Blk) (d E : List UInt8), b.okb → k.blockData b = some d → (∀ c ∈ cs, c.okb) → k.datas cs = some E →
  ∃ x r, k.mergeF size b d cs = some (x :: r) ∧ k.datas (x :: r) = some (d ++ E) ∧ (∀ c ∈ x :: r, c.okb) ∧ r.length ≤ cs.length ∧ NoFit size (x :: r) ∧ b.size ≤ x.size := by
 intro cs
 induction cs with
 | nil =>
  intro b d E hb hd _ hE
  injection hE with hE
  subst hE
  refine ⟨b, [], rfl, ?_, fun c hc => ?_, Nat.le_refl _, trivial, Nat.le_refl _⟩
  ·unfold Kn.datas; rw [hd]; rfl
  ·rw [List.mem_singleton] at hc; subst hc; exact hb
 | cons c cs ih =>
  intro b d E hb hd hok hE
  have hc := hok c (by simp)
  have hok2 : ∀ y ∈ cs, y.okb := fun y hy => hok y (List.mem_cons_of_mem _ hy)
  unfold Kn.datas at hE
  cases he : k.blockData c with
  | none => rw [he] at hE; cases hE
  | some e =>
   cases hF : k.datas cs with
   | none => rw [he, hF] at hE; cases hE
   | some F =>
    rw [he, hF] at hE
    injection hE with hE
    subst hE
    have ld := Kn.blockData_size hb hd
    have le := Kn.blockData_size hc he
    have hb1 := hb.1
    rw [Kn.mergeF, he]
    simp only
    by_cases h1 : d.length + e.length ≤ size
    ·rw [if_pos h1]
     obtain ⟨x, r, r1, r2, r3, r4, r5, r6⟩ := ih (k.block (d ++ e)) (d ++ e) F (Kn.block_okb h (by rw [List.length_append]; omega) (by rw [List.length_append]; omega)) (Kn.block_data h _) hok2 hF
     refine ⟨x, r, r1, by rw [r2, List.append_assoc], r3, by rw [List.length_cons]; omega, r5, ?_⟩
     rw [Kn.block_size, List.length_append] at r6
     omega
    ·rw [if_neg h1]
     obtain ⟨x, r, r1, r2, r3, r4, r5, r6⟩ := ih c e F hc he hok2 hF
     refine ⟨b, x :: r, by rw [r1]; rfl, ?_, fun y hy => ?_, by rw [List.length_cons, List.length_cons]; omega, ⟨by omega, r5⟩, Nat.le_refl _⟩
     ·rw [Kn.datas, hd, r2]
     ·rcases List.mem_cons.1 hy with rfl | hy
      ·exact hb
      ·exact r3 y hy

theorem merge_ok {k : Kn} (h : k.Valid) {size : Nat} (hs : size ≤ 64) {bs : List Blk} (hok : ∀ b ∈ bs, b.okb) {D : List UInt8} (hD : k.datas bs = some D) :
  ∃ r, k.merge size bs = some r ∧ k.datas r = some D ∧ (∀ c ∈ r, c.okb) ∧ r.length ≤ bs.length ∧ NoFit size r := by
 cases bs with
 | nil =>
  injection hD with hD
  subst hD
  exact ⟨[], rfl, rfl, fun c hc => by simp at hc, Nat.le_refl _, trivial⟩
 | cons b bs =>
  unfold Kn.datas at hD
  cases hd : k.blockData b with
  | none => rw [hd] at hD; cases hD
  | some d =>
   cases hE : k.datas bs with
   | none => rw [hd, hE] at hD; cases hD
   | some E =>
    rw [hd, hE] at hD
    injection hD with hD
    subst hD
    obtain ⟨x, r, r1, r2, r3, r4, r5, _⟩ := mergeF_ok h hs bs b d E (hok b (by simp)) hd (fun c hc => hok c (List.mem_cons_of_mem _ hc)) hE
    refine ⟨x :: r, ?_, r2, r3, by rw [List.length_cons, List.length_cons]; omega, r5⟩
    show (match k.blockData b with | some d => k.mergeF size b d bs | none => none) = _
    rw [hd]
    exact r1

theorem mergeF_same {k : Kn} {size : Nat} : ∀ (cs : List Blk) (b : Blk) (d E : List UInt8), b.okb → k.blockData b = some d → (∀ c ∈ cs, c.okb) → k.datas cs = some E → NoFit size (b :: cs) → k.mergeF size b d cs = some (b :: cs) := by
 intro cs
 induction cs with
 | nil => intro b d E _ _ _ _ _; rfl
 | cons c cs ih =>
  intro b d E hb hd hok hE hn
  have hc := hok c (by simp)
  unfold Kn.datas at hE
  cases he : k.blockData c with
  | none => rw [he] at hE; cases hE
  | some e =>
   cases hF : k.datas cs with
   | none => rw [he, hF] at hE; cases hE
   | some F =>
    have ld := Kn.blockData_size hb hd
    have le := Kn.blockData_size hc he
    have h1 := hn.1
    rw [Kn.mergeF, he]
    simp only
    rw [if_neg (by omega), ih c e F hc he (fun y hy => hok y (List.mem_cons_of_mem _ hy)) hF hn.2]
    rfl

theorem merge_same {k : Kn} {size : Nat} {bs : List Blk} (hok : ∀ b ∈ bs, b.okb) {D : List UInt8} (hD : k.datas bs = some D) (hn : NoFit size bs) : k.merge size bs = some bs := by
 cases bs with
 | nil => rfl
 | cons b bs =>
  unfold Kn.datas at hD
  cases hd : k.blockData b with
  | none => rw [hd] at hD; cases hD
  | some d =>
   cases hE : k.datas bs with
   | none => rw [hd, hE] at hD; cases hD
   | some E =>
    show (match k.blockData b with | some d => k.mergeF size b d bs | none => none) = _
    rw [hd]
    exact mergeF_same bs b d E (hok b (by simp)) hd (fun c hc => hok c (List.mem_cons_of_mem _ hc)) hE hn

theorem NoFit_renum {size : Nat} : ∀ (bs : List Blk) (i : Nat), NoFit size bs → NoFit size (renumL i bs) := by
 intro bs
 induction bs with
 | nil => intro i _; trivial
 | cons a bs ih =>
  intro i h
  cases bs with
  | nil => trivial
  | cons b bs => exact ⟨h.1, ih (i + 1) h.2⟩

def mergeC (o l m : Int) (d : List UInt8) (ob : Option (List Blk)) (size : Int) : Option ByteArray :=
 match ob with
 | some bs => if dfits o l m d ∧ (1 ≤ size ∧ size ≤ 64) then ((kdict o l m d).merge size.toNat bs).bind mkC else none
 | none => none

theorem mergeC_yes {o l m size : Int} {d : List UInt8} {bs : List Blk} (h : dfits o l m d) (h1 : 1 ≤ size ∧ size ≤ 64) : mergeC o l m d (some bs) size = ((kdict o l m d).merge size.toNat bs).bind mkC := by
 show (if _ then _ else _) = _
 rw [if_pos ⟨h, h1⟩]

theorem mergeC_no {o l m size : Int} {d : List UInt8} {ob : Option (List Blk)} (h : ¬ (dfits o l m d ∧ (1 ≤ size ∧ size ≤ 64)) ∨ ob = none) : mergeC o l m d ob size = none := by
 unfold mergeC
 split
 ·rcases h with h | h
  ·rw [if_neg h]
  ·cases h
 ·rfl

theorem mergeF_none {k : Kn} {size : Nat} : ∀ (cs : List Blk) (b : Blk) (d : List UInt8), k.datas cs = none → k.mergeF size b d cs = none := by
 intro cs
 induction cs with
 | nil => intro b d h; cases h
 | cons c cs ih =>
  intro b d h
  show (match k.blockData c with | some e => _ | none => _) = _
  have h' : (match k.blockData c, k.datas cs with | some d, some e => some (d ++ e) | _, _ => none) = none := h
  rcases hc : k.blockData c with _ | e
  ·rfl
  ·rw [hc] at h'
   have h2 : k.datas cs = none := by
    rcases hd : k.datas cs with _ | f
    ·rfl
    ·rw [hd] at h'; cases h'
   show (if _ then _ else _) = _
   split
   ·exact ih _ _ h2
   ·rw [ih _ _ h2]; rfl

theorem merge_none {k : Kn} {size : Nat} {bs : List Blk} (h : k.datas bs = none) : k.merge size bs = none := by
 cases bs with
 | nil => cases h
 | cons c cs =>
  show (match k.blockData c with | some d => _ | none => _) = _
  have h' : (match k.blockData c, k.datas cs with | some d, some e => some (d ++ e) | _, _ => none) = none := h
  rcases hc : k.blockData c with _ | e
  ·rfl
  ·rw [hc] at h'
   have h2 : k.datas cs = none := by
    rcases hd : k.datas cs with _ | f
    ·rfl
    ·rw [hd] at h'; cases h'
   exact mergeF_none cs c e h2

def MgAt (k : Kn) (size : Nat) (bs : List Blk) (j : Nat) (acc : List Blk) (D : List UInt8) : Prop :=
 (acc = [] ∧ j = 0 ∧ D = []) ∨ ∃ pre b, acc = pre ++ [b] ∧ b.okb ∧ k.blockData b = some D ∧ D.length = b.size ∧ k.merge size bs = (k.mergeF size b D (bs.drop j)).map (pre ++ ·)

theorem MgAt.start (k : Kn) (size : Nat) (bs : List Blk) : MgAt k size bs 0 [] [] := Or.inl ⟨rfl, rfl, rfl⟩

theorem MgAt.bad {k : Kn} {size j : Nat} {bs acc : List Blk} {D : List UInt8} {c : Blk} (h : MgAt k size bs j acc D) (hc : bs[j]? = some c) (hn : k.blockData c = none) : k.merge size bs = none := by
 have hd := drop_at hc
 rcases h with ⟨_, rfl, _⟩ | ⟨pre, b, _, _, _, _, he⟩
 ·rw [List.drop_zero] at hd
  rw [hd]
  show (match k.blockData c with | some d => _ | none => _) = _
  rw [hn]
 ·rw [he, hd]
  have : k.mergeF size b D (c :: bs.drop (j + 1)) = none := by
   show (match k.blockData c with | some e => _ | none => _) = _
   rw [hn]
  rw [this]; rfl

theorem MgAt.more {k : Kn} {size j : Nat} {bs acc : List Blk} {D e : List UInt8} {c : Blk} (h : MgAt k size bs j acc D) (hc : bs[j]? = some c) (ho : c.okb) (he : k.blockData c = some e) (hno : acc = [] ∨ size < D.length + e.length) : MgAt k size bs (j + 1) (acc ++ [c]) e := by
 have hd := drop_at hc
 have hl := Kn.blockData_size ho he
 rcases h with ⟨rfl, rfl, rfl⟩ | ⟨pre, b, rfl, _, _, _, hm⟩
 ·refine Or.inr ⟨[], c, rfl, ho, he, hl, ?_⟩
  rw [List.drop_zero] at hd
  have : k.merge size bs = k.mergeF size c e (bs.drop 1) := by
   conv => lhs; rw [hd]
   show (match k.blockData c with | some d => _ | none => _) = _
   rw [he]
  rw [this]
  cases k.mergeF size c e (bs.drop 1) <;> simp
 ·rcases hno with h0 | h0
  ·simp at h0
  ·refine Or.inr ⟨pre ++ [b], c, rfl, ho, he, hl, ?_⟩
   rw [hm, hd]
   have : k.mergeF size b D (c :: bs.drop (j + 1)) = (k.mergeF size c e (bs.drop (j + 1))).map (b :: ·) := by
    show (match k.blockData c with | some e => _ | none => _) = _
    rw [he]
    show (if _ then _ else _) = _
    rw [if_neg (by omega)]
   rw [this]
   cases k.mergeF size c e (bs.drop (j + 1)) <;> simp

theorem MgAt.join {k : Kn} (hk : k.Valid) {size j : Nat} (hs : size ≤ 64) {bs acc : List Blk} {D e : List UInt8} {c : Blk} (h : MgAt k size bs j acc D) (hc : bs[j]? = some c) (ho : c.okb) (he : k.blockData c = some e) (hne : acc ≠ []) (hy : D.length + e.length ≤ size) :
  MgAt k size bs (j + 1) (acc.set (acc.length - 1) (k.block (D ++ e))) (D ++ e) := by
 have hd := drop_at hc
 have hl := Kn.blockData_size ho he
 rcases h with ⟨rfl, rfl, rfl⟩ | ⟨pre, b, rfl, hb, _, hbl, hm⟩
 ·exact absurd rfl hne
 ·have hbo := hb.1
  have hset : (pre ++ [b]).set ((pre ++ [b]).length - 1) (k.block (D ++ e)) = pre ++ [k.block (D ++ e)] := by
   rw [List.length_append]
   show (pre ++ [b]).set (pre.length + 1 - 1) _ = _
   rw [Nat.add_sub_cancel, List.set_append_right _ _ (Nat.le_refl _), Nat.sub_self]
   rfl
  rw [hset]
  refine Or.inr ⟨pre, k.block (D ++ e), rfl, Kn.block_okb hk (by rw [List.length_append]; omega) (by rw [List.length_append]; omega), Kn.block_data hk _, (Kn.block_size k _).symm, ?_⟩
  rw [hm, hd]
  have : k.mergeF size b D (c :: bs.drop (j + 1)) = k.mergeF size (k.block (D ++ e)) (D ++ e) (bs.drop (j + 1)) := by
   show (match k.blockData c with | some e => _ | none => _) = _
   rw [he]
   show (if _ then _ else _) = _
   rw [if_pos hy]
  rw [this]

theorem MgAt.done {k : Kn} {size j : Nat} {bs acc : List Blk} {D : List UInt8} (h : MgAt k size bs j acc D) (hj : bs.length ≤ j) : k.merge size bs = some acc := by
 rcases h with ⟨rfl, rfl, rfl⟩ | ⟨pre, b, rfl, _, _, _, hm⟩
 ·have : bs = [] := List.length_eq_zero_iff.1 (by omega)
  subst this; rfl
 ·rw [hm, List.drop_eq_nil_of_le hj]; rfl

theorem MgAt.len {k : Kn} {size j : Nat} {bs acc : List Blk} {D : List UInt8} (h : MgAt k size bs j acc D) (hne : acc ≠ []) : ∃ b, acc[acc.length - 1]? = some b ∧ b.okb ∧ k.blockData b = some D ∧ D.length = b.size := by
 rcases h with ⟨rfl, _, _⟩ | ⟨pre, b, rfl, h1, h2, h3, _⟩
 ·exact absurd rfl hne
 ·exact ⟨b, by simp, h1, h2, h3⟩

theorem cellsB_setBlk (c : Blk) : ∀ (rows : List Blk) (j : Nat), j < rows.length → ((((cellsB rows).set (j * 4) (.int .i64 (c.num : Int))).set (j * 4 + 1) (.bool c.raw)).set (j * 4 + 2) (.int .i64 (c.size : Int))).set (j * 4 + 3) (.string c.body) = cellsB (rows.set j c) := by
 intro rows
 induction rows with
 | nil => intro j h; simp at h
 | cons a ys ih =>
  intro j h
  have hc : ∀ (y : Blk) (zs : List Blk), cellsB (y :: zs) = blkCells y ++ cellsB zs := fun y zs => by simp [cellsB]
  cases j with
  | zero => rfl
  | succ j =>
   have h2 : j < ys.length := by simpa using h
   rw [hc, List.set_cons_succ, hc, ← ih j h2]
   have e0 : (j + 1) * 4 = j * 4 + 4 := by omega
   have e1 : j * 4 + 4 + 1 = (j * 4 + 1) + 4 := by omega
   have e2 : j * 4 + 4 + 2 = (j * 4 + 2) + 4 := by omega
   have e3 : j * 4 + 4 + 3 = (j * 4 + 3) + 4 := by omega
   rw [e0, e1, e2, e3]
   rfl

theorem MgAt.le {k : Kn} {size j : Nat} {bs acc : List Blk} {D : List UInt8} (h : MgAt k size bs j acc D) : D.length ≤ 64 := by
 rcases h with ⟨_, _, rfl⟩ | ⟨pre, b, _, hb, _, hl, _⟩
 ·simp
 ·have := hb.2.1; omega

end Go.Proofs.YthlgpgaeajfchaaGreat
