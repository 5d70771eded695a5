/-
  More of containers: their blocks when they are read again, and the program's ContainerSize.
  Plain facts behind the laws on edits: what is read of containers that were made, turned, appended to.
-/
import Derived.Test.YthlgpgaeajfchaaGreatDoorMakeC
import Derived.Test.YthlgpgaeajfchaaGreatDoorSpecRead

namespace Go.Proofs.YthlgpgaeajfchaaGreatDoor
open Go.RowKit
set_option linter.unusedVariables false

theorem textsFrom_renum (bs : List Blk) : ∀ i j, textsFrom i (renumL j bs) = textsFrom i bs := by
  induction bs with
  | nil => intro i j; rfl
  | cons b bs ih =>
    intro i j
    show textB (renum i (renum j b)) ++ textsFrom (i + 1) (renumL (j + 1) bs) = _
    rw [ih]; rfl

theorem renumL_okb {bs : List Blk} (h : ∀ b ∈ bs, b.okb) (i : Nat) : ∀ b ∈ renumL i bs, b.okb := by
  intro b hb
  obtain ⟨j, hj, rfl⟩ := List.mem_iff_getElem.1 hb
  have h1 := renumL_get bs i j
  rw [List.getElem?_eq_getElem hj] at h1
  cases h2 : bs[j]? with
  | none => rw [h2] at h1; cases h1
  | some c =>
    rw [h2] at h1
    simp at h1
    rw [h1]
    exact h c (List.mem_of_getElem? h2)

theorem numbered_okb {bs : List Blk} (h : Numbered bs) : ∀ b ∈ bs, b.okb := fun b hb => Blk.okb_of (h.of_mem hb)

theorem contB_szs {s : ByteArray} {bs : List Blk} (h : contB s = some bs) : szs bs ≤ 2000 := by
  have main : ∀ (n : Nat) (k : Nat) (acc bs : List Blk), s.size - k ≤ n → conts s k acc = some bs → szs bs ≤ 2000 := by
    intro n
    induction n with
    | zero =>
      intro k acc bs hn hc
      rw [conts_end (by omega)] at hc
      split at hc
      · injection hc with hc; subst hc; assumption
      · cases hc
    | succ n ih =>
      intro k acc bs hn hc
      by_cases hlt : k < s.size
      · by_cases h1 : pbOk s k ∧ (pbBlk s k).num = acc.length
        · rw [conts_next hlt h1.1 h1.2] at hc
          have := pbEnd_ge s k
          exact ih _ _ _ (by omega) hc
        · rw [conts_bad hlt h1] at hc; cases hc
      · rw [conts_end (by omega)] at hc
        split at hc
        · injection hc with hc; subst hc; assumption
        · cases hc
  exact main s.size 0 [] bs (by omega) h

theorem texts_mk {bs : List Blk} (h : ∀ b ∈ bs, b.okb) (h1 : bs.length ≤ 40) (h2 : szs bs ≤ 2000) : mkC bs = some (textsFrom 0 bs) ∧ contB (textsFrom 0 bs) = some (renumL 0 bs) := ⟨mkC_yes h1 h2, contB_texts h h1 h2⟩

end Go.Proofs.YthlgpgaeajfchaaGreatDoor

namespace Go.Proofs.YthlgpgaeajfchaaGreatDoor
open Go.RowKit
set_option linter.unusedVariables false
set_option linter.unusedSimpArgs false

/-- A container that is read: its blocks, numbered, and their kind. -/
theorem contB_ok {s : ByteArray} {bs : List Blk} (h : contB s = some bs) : (∀ b ∈ bs, b.okb) ∧ bs.length ≤ 40 ∧ szs bs ≤ 2000 ∧ textsFrom 0 bs = s ∧ s.size ≤ 2960 := by
  have hn := contB_numbered h
  have hok := numbered_okb hn
  have hl := hn.length
  have ht := contB_text h
  have hsz := textsFrom_size bs hok 0
  rw [ht] at hsz
  exact ⟨hok, hl, contB_szs h, ht, by omega⟩

theorem mkC_some {bs : List Blk} {x : ByteArray} (hok : ∀ b ∈ bs, b.okb) (h : mkC bs = some x) : bs.length ≤ 40 ∧ szs bs ≤ 2000 ∧ x = textsFrom 0 bs ∧ contB x = some (renumL 0 bs) := by
  unfold mkC at h
  split at h
  · rename_i hc
    injection h with h
    subst h
    exact ⟨hc.1, hc.2, rfl, contB_texts hok hc.1 hc.2⟩
  · cases h

theorem textsFrom_renumL' (bs : List Blk) (i j : Nat) : textsFrom i (renumL j bs) = textsFrom i bs := textsFrom_renum bs i j

theorem szs_cons (b : Blk) (bs : List Blk) : szs (b :: bs) = b.size + szs bs := by simp [szs]

/-- The size of a text does not depend on the numbers. -/
def txl : List Blk → Nat
  | [] => 0
  | b :: bs => 10 + b.body.size + txl bs

theorem textsFrom_txl (bs : List Blk) : ∀ i, (textsFrom i bs).size = txl bs := by
  induction bs with
  | nil => intro i; rfl
  | cons b bs ih =>
    intro i
    show (textB (renum i b) ++ textsFrom (i + 1) bs).size = _
    rw [ByteArray.size_append, textB_size, ih]
    rfl

theorem contD_eq {o l m : Nat} {d : List UInt8} {s : ByteArray} {bs : List Blk} (hf : dfits o l m d) (h : contB s = some bs) : contD o l m d (contB s) = (Kn.dict o l m d).datas bs := by
  rw [h]
  show (if _ then _ else _) = _
  rw [if_pos hf]; rfl

theorem contD_texts {o l m : Nat} {d : List UInt8} {bs : List Blk} (hf : dfits o l m d) (hok : ∀ b ∈ bs, b.okb) (h1 : bs.length ≤ 40) (h2 : szs bs ≤ 2000) : contD o l m d (contB (textsFrom 0 bs)) = (Kn.dict o l m d).datas bs := by
  rw [contD_eq hf (contB_texts hok h1 h2), Kn.datas_renumL]

/-- The other order of bits fits as well. -/
theorem dfits_flip {o l m : Nat} {d : List UInt8} (h : dfits o l m d) : dfits (1 - o : Nat) l m d ∧ o < 2 ∧ (1 : Int) - (o : Int) = ((1 - o : Nat) : Int) ∧ 1 - (1 - o) = o := by
  have h1 := h.1.1
  refine ⟨⟨⟨by omega, h.1.2⟩, h.2⟩, by omega, by omega, by omega⟩

theorem dict_flip {o l m : Nat} {d : List UInt8} : Kn.dict (1 - o : Nat) l m d = (Kn.dict o l m d).flip := flip_dict o l m d

/-- A turned block that is not raw. -/
theorem turnB_form {k : Kn} (h : k.Valid) {b c : Blk} (hr : b.raw = false) (hc : k.turnB b = some c) :
    ∃ cs, k.Follow cs ∧ cs.getLast? = some k.fin ∧ cs.length ≤ 3100 ∧ (k.data cs).length ≤ 2000 ∧ (k.unpack b.body.data.toList).codes = cs ∧ c = { b with body := bsL (packL k.flip.o (k.flip.bits cs)) } := by
  unfold Kn.turnB at hc
  rw [hr] at hc
  simp only [Bool.false_eq_true, if_false] at hc
  cases hd : k.blockData b with
  | none => rw [hd] at hc; cases hc
  | some d =>
    rw [hd] at hc
    injection hc with hc
    unfold Kn.blockData at hd
    rw [hr] at hd
    simp only [Bool.false_eq_true, if_false] at hd
    split at hd
    · rename_i hcond
      obtain ⟨g1, g2, g3, g4, g5⟩ := Kn.whole h hcond.1
      exact ⟨_, g1, g2, g3, g4, rfl, by rw [hr]; exact hc.symm⟩
    · cases hd

theorem turnB_of {k : Kn} (h : k.Valid) {b : Blk} {cs : List Nat} {d : List UInt8} (hr : b.raw = false) (g1 : k.Follow cs) (g2 : cs.getLast? = some k.fin) (g3 : cs.length ≤ 3100) (g4 : (k.data cs).length ≤ 2000) (hb : b.body.data.toList = packL k.o (k.bits cs)) (hd : k.blockData b = some d) :
    k.turnB b = some { b with body := bsL (packL k.flip.o (k.flip.bits cs)) } := by
  obtain ⟨u1, _⟩ := Kn.unpack_pack h g1 g2 g3 g4 (k.bits_digs cs)
  unfold Kn.turnB
  rw [hr]
  simp only [Bool.false_eq_true, if_false]
  rw [hd]
  show some _ = _
  rw [hb, u1]

/-- A turned block is turned back, and turned again it is the same. -/
theorem turnB_back {k : Kn} (h : k.Valid) {b c : Blk} (hb : b.okb) (hc : k.turnB b = some c) :
    ∃ e, k.flip.turnB c = some e ∧ k.turnB e = some c ∧ e.okb ∧ e.body.size = b.body.size := by
  obtain ⟨c1, c2, c3, c4, c5, d, hd1, hd2⟩ := turnB_some h hb hc
  have hff : k.flip.flip = k := flip_flip h.ord
  cases hr : b.raw with
  | true =>
    have hcb : c = b := by
      unfold Kn.turnB at hc
      rw [hr] at hc
      simp only [if_true] at hc
      injection hc with hc
      exact hc.symm
    subst hcb
    refine ⟨c, ?_, hc, hb, rfl⟩
    unfold Kn.turnB
    rw [hr]; rfl
  | false =>
    obtain ⟨cs, g1, g2, g3, g4, _, rfl⟩ := turnB_form h hr hc
    have hfv := flip_valid h
    have t1 := turnB_of hfv (b := { b with body := bsL (packL k.flip.o (k.flip.bits cs)) }) (cs := cs) hr (flip_follow g1) g2 g3 (by rw [flip_data]; exact g4) rfl hd2
    rw [hff] at t1
    obtain ⟨e1, e2, e3, e4, e5, d', hd3, hd4⟩ := turnB_some hfv c1 t1
    rw [hff] at hd4
    refine ⟨_, t1, ?_, e1, by rw [e5, c5]⟩
    exact turnB_of h (b := { b with body := bsL (packL k.o (k.bits cs)) }) (cs := cs) hr g1 g2 g3 g4 rfl hd4

theorem turnB_renum (k : Kn) (i : Nat) (b : Blk) : k.turnB (renum i b) = (k.turnB b).map (renum i) := by
  have hr : (renum i b).raw = b.raw := rfl
  unfold Kn.turnB
  rw [hr, Kn.blockData_renum]
  cases b.raw with
  | true => rfl
  | false =>
    simp only [Bool.false_eq_true, if_false]
    cases k.blockData b <;> rfl

theorem turnL_cons (k : Kn) (b : Blk) (bs : List Blk) : k.turnL (b :: bs) = match k.turnB b, k.turnL bs with
    | some c, some r => some (c :: r)
    | _, _ => none := rfl

theorem turnL_renumL (k : Kn) (bs : List Blk) : ∀ i, k.turnL (renumL i bs) = (k.turnL bs).map (renumL i) := by
  induction bs with
  | nil => intro i; rfl
  | cons b bs ih =>
    intro i
    rw [show renumL i (b :: bs) = renum i b :: renumL (i + 1) bs from rfl, turnL_cons, turnL_cons, ih, turnB_renum]
    cases k.turnB b with
    | none => rfl
    | some c => cases k.turnL bs <;> rfl

/-- Turned blocks: their data, what they are turned back into. -/
theorem turnL_back {k : Kn} (h : k.Valid) : ∀ (bs cs : List Blk), (∀ b ∈ bs, b.okb) → k.turnL bs = some cs →
    (∀ c ∈ cs, c.okb) ∧ cs.length = bs.length ∧ szs cs = szs bs ∧ (cs.map (·.raw)) = bs.map (·.raw) ∧ (cs.map (·.size)) = bs.map (·.size) ∧ (∃ D, k.datas bs = some D ∧ k.flip.datas cs = some D) ∧ txl cs = txl bs ∧
    ∃ es, k.flip.turnL cs = some es ∧ k.turnL es = some cs ∧ (∀ e ∈ es, e.okb) ∧ es.length = bs.length ∧ szs es = szs bs ∧ txl es = txl bs := by
  intro bs
  induction bs with
  | nil =>
    intro cs _ hc
    injection hc with hc
    subst hc
    exact ⟨by simp, rfl, rfl, rfl, rfl, ⟨[], rfl, rfl⟩, rfl, [], rfl, rfl, by simp, rfl, rfl, rfl⟩
  | cons b bs ih =>
    intro cs hok hc
    rw [turnL_cons] at hc
    cases hb : k.turnB b with
    | none => rw [hb] at hc; cases hc
    | some c =>
      cases hl : k.turnL bs with
      | none => rw [hb, hl] at hc; cases hc
      | some r =>
        rw [hb, hl] at hc
        injection hc with hc
        subst hc
        have hbo := hok b (List.mem_cons_self ..)
        obtain ⟨c1, c2, c3, c4, c5, d, hd1, hd2⟩ := turnB_some h hbo hb
        obtain ⟨e, t1, t2, t3, t4⟩ := turnB_back h hbo hb
        have es2 := (turnB_some (flip_valid h) c1 t1).2.1
        obtain ⟨i1, i2, i3, i4, i5, ⟨D, i6, i7⟩, i8, es, j1, j2, j3, j4, j5, j6⟩ := ih r (fun x hx => hok x (List.mem_cons_of_mem _ hx)) hl
        refine ⟨?_, by simp [i2], ?_, by simp [c3, i4], by simp [c2, i5], ⟨d ++ D, ?_, ?_⟩, ?_, e :: es, ?_, ?_, ?_, by simp [j4], ?_, ?_⟩
        · intro x hx
          rcases List.mem_cons.1 hx with rfl | hx
          · exact c1
          · exact i1 x hx
        · show szs (c :: r) = szs (b :: bs)
          simp only [szs_cons, c2, i3]
        · show (match k.blockData b, k.datas bs with | some d, some e => some (d ++ e) | _, _ => none) = _
          rw [hd1, i6]
        · show (match k.flip.blockData c, k.flip.datas r with | some d, some e => some (d ++ e) | _, _ => none) = _
          rw [hd2, i7]
        · show 10 + c.body.size + txl r = 10 + b.body.size + txl bs
          rw [c5, i8]
        · rw [turnL_cons, t1, j1]
        · rw [turnL_cons, t2, j2]
        · intro x hx
          rcases List.mem_cons.1 hx with rfl | hx
          · exact t3
          · exact j3 x hx
        · simp only [szs_cons, es2, c2, j5]
        · show 10 + e.body.size + txl es = 10 + b.body.size + txl bs
          rw [t4, j6]

/-- Making and turning. -/
theorem turnB_block {k : Kn} (h : k.Valid) (d : List UInt8) : k.turnB (k.block d) = some (k.flip.block d) := by
  have hfv := flip_valid h
  have hdf : dfits k.flip.o k.flip.l k.flip.m d ↔ dfits k.o k.l k.m d := (hfv.dfits).trans h.dfits.symm
  have hcl : (k.flip.comp d).length = (k.comp d).length := by
    unfold Kn.comp
    rw [packL_length, packL_length, flip_greedy, flip_bits_length]
  unfold Kn.block
  by_cases hc : dfits k.o k.l k.m d ∧ (k.comp d).length < d.length
  · rw [if_pos hc, if_pos ⟨hdf.2 hc.1, by rw [hcl]; exact hc.2⟩]
    have hff := h.dfits.1 hc.1
    obtain ⟨g1, g2, _⟩ := Kn.greedy_spec h hff.2
    have hlen := Kn.greedy_len h hff.2
    have hbd := Kn.block_data h d
    unfold Kn.block at hbd
    rw [if_pos hc] at hbd
    rw [turnB_of h (cs := k.greedy d) rfl g1 (Kn.greedy_last h hff.2) (by omega) (by rw [g2]; exact hff.1) rfl hbd]
    unfold Kn.comp
    rw [flip_greedy]
  · rw [if_neg hc, if_neg (fun hh => hc ⟨hdf.1 hh.1, by rw [← hcl]; exact hh.2⟩)]
    rfl

theorem turnL_split {k : Kn} (h : k.Valid) (size : Nat) : ∀ (f : Nat) (d : List UInt8), k.turnL (splitF k size f d) = some (splitF k.flip size f d) := by
  intro f
  induction f with
  | zero => intro d; rfl
  | succ f ih =>
    intro d
    unfold splitF
    split
    · rfl
    · rw [turnL_cons, turnB_block h, ih]

/-- How many blocks are not compressed. -/
def rawN (bs : List Blk) : Nat := (bs.map (·.raw)).count true

theorem renumL_raw (bs : List Blk) : ∀ i, (renumL i bs).map (·.raw) = bs.map (·.raw) := by
  induction bs with
  | nil => intro i; rfl
  | cons b bs ih => intro i; show b.raw :: _ = b.raw :: _; rw [ih]

theorem renumL_size (bs : List Blk) : ∀ i, (renumL i bs).map (·.size) = bs.map (·.size) := by
  induction bs with
  | nil => intro i; rfl
  | cons b bs ih => intro i; show b.size :: _ = b.size :: _; rw [ih]

/-- What MakeContainer returns. -/
def makeC (o l m : Int) (d D : List UInt8) (size : Int) : Option ByteArray :=
  if dfits o l m d then (if (1 ≤ size ∧ size ≤ 64) ∧ (D.length : Int) ≤ size * 40 ∧ D.length ≤ 2000 then some (textsFrom 0 ((kdict o l m d).split size.toNat D)) else none) else none

end Go.Proofs.YthlgpgaeajfchaaGreatDoor
