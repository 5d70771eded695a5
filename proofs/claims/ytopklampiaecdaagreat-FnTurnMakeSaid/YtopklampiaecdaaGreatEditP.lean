/-
  What the edits of containers make: cuts, merges, replaced ranges; plain facts.
-/
import Derived.Test.YtopklampiaecdaaGreatMergeFacts
namespace Go.Proofs.YtopklampiaecdaaGreat
open Go.RowKit
set_option linter.unusedVariables false
set_option linter.unusedSimpArgs false

theorem block_renum (k : Kn) (d : List UInt8) : renum 0 (k.block d) = k.block d := by
  unfold Kn.block
  split <;> rfl

theorem bsL_cut (D : List UInt8) (f t : Nat) : (bsL D).extract f t = bsL ((D.drop f).take (t - f)) := bsL_part _ _ _

/-- What CutContainer returns. -/
def cutC (o l m : Int) (d : List UInt8) (ob : Option (List Blk)) (f t : Int) : Option ByteArray :=
  match ob with
  | some bs => if dfits o l m d ∧ (0 ≤ f ∧ f ≤ t ∧ t ≤ (szs bs : Int)) then ((kdict o l m d).cut f.toNat t.toNat 0 bs).bind mkC else none
  | none => none

theorem cut_len {k : Kn} {f t : Nat} : ∀ (bs : List Blk) (p : Nat) (r : List Blk), k.cut f t p bs = some r → r.length ≤ bs.length := by
  intro bs
  induction bs with
  | nil =>
    intro p r hr
    injection hr with hr
    subst hr
    exact Nat.le_refl _
  | cons b bs ih =>
    intro p r hr
    unfold Kn.cut at hr
    split at hr
    · exact Nat.le_succ_of_le (ih _ _ hr)
    · split at hr
      · cases hc : k.cut f t (p + b.size) bs with
        | none => rw [hc] at hr; cases hr
        | some x =>
          rw [hc] at hr
          injection hr with hr
          subst hr
          exact Nat.succ_le_succ (ih _ _ hc)
      · cases hd : k.blockData b with
        | none => rw [hd] at hr; cases hr
        | some D =>
          cases hc : k.cut f t (p + b.size) bs with
          | none => rw [hd, hc] at hr; cases hr
          | some x =>
            rw [hd, hc] at hr
            injection hr with hr
            subst hr
            exact Nat.succ_le_succ (ih _ _ hc)

/-- Data that makes blocks of a size, not too many. -/
def roomy (n : Nat) (size : Int) : Prop := (1 ≤ size ∧ size ≤ 64) ∧ n ≤ 2000 ∧ (n : Int) ≤ 40 * size

instance (n : Nat) (size : Int) : Decidable (roomy n size) := by unfold roomy; infer_instance

/-- What MergeBlocks returns. -/
def mergeC (o l m : Int) (d : List UInt8) (ob : Option (List Blk)) (size : Int) : Option ByteArray :=
  match ob with
  | some bs => if dfits o l m d ∧ (1 ≤ size ∧ size ≤ 64) then ((kdict o l m d).merge size.toNat bs).bind mkC else none
  | none => none

theorem mergeC_yes {o l m size : Int} {d : List UInt8} {bs : List Blk} (h : dfits o l m d) (h1 : 1 ≤ size ∧ size ≤ 64) : mergeC o l m d (some bs) size = ((kdict o l m d).merge size.toNat bs).bind mkC := by
  show (if _ then _ else _) = _
  rw [if_pos ⟨h, h1⟩]

theorem mergeC_no {o l m size : Int} {d : List UInt8} {ob : Option (List Blk)} (h : ¬ (dfits o l m d ∧ (1 ≤ size ∧ size ≤ 64)) ∨ ob = none) : mergeC o l m d ob size = none := by
  unfold mergeC
  split
  · rcases h with h | h
    · rw [if_neg h]
    · cases h
  · rfl

theorem mergeF_none {k : Kn} {size : Nat} : ∀ (cs : List Blk) (b : Blk) (d : List UInt8), k.datas cs = none → k.mergeF size b d cs = none := by
  intro cs
  induction cs with
  | nil => intro b d h; cases h
  | cons c cs ih =>
    intro b d h
    show (match k.blockData c with | some e => _ | none => _) = _
    have h' : (match k.blockData c, k.datas cs with | some d, some e => some (d ++ e) | _, _ => none) = none := h
    rcases hc : k.blockData c with _ | e
    · rfl
    · rw [hc] at h'
      have h2 : k.datas cs = none := by
        rcases hd : k.datas cs with _ | f
        · rfl
        · rw [hd] at h'; cases h'
      show (if _ then _ else _) = _
      split
      · exact ih _ _ h2
      · rw [ih _ _ h2]; rfl

theorem merge_none {k : Kn} {size : Nat} {bs : List Blk} (h : k.datas bs = none) : k.merge size bs = none := by
  cases bs with
  | nil => cases h
  | cons c cs =>
    show (match k.blockData c with | some d => _ | none => _) = _
    have h' : (match k.blockData c, k.datas cs with | some d, some e => some (d ++ e) | _, _ => none) = none := h
    rcases hc : k.blockData c with _ | e
    · rfl
    · rw [hc] at h'
      have h2 : k.datas cs = none := by
        rcases hd : k.datas cs with _ | f
        · rfl
        · rw [hd] at h'; cases h'
      exact mergeF_none cs c e h2

/-- Where a merge stands: the blocks made so far, and the data of the last one. -/
def MgAt (k : Kn) (size : Nat) (bs : List Blk) (j : Nat) (acc : List Blk) (D : List UInt8) : Prop :=
  (acc = [] ∧ j = 0 ∧ D = []) ∨ ∃ pre b, acc = pre ++ [b] ∧ b.okb ∧ k.blockData b = some D ∧ D.length = b.size ∧ k.merge size bs = (k.mergeF size b D (bs.drop j)).map (pre ++ ·)

theorem MgAt.start (k : Kn) (size : Nat) (bs : List Blk) : MgAt k size bs 0 [] [] := Or.inl ⟨rfl, rfl, rfl⟩

theorem drop_at {bs : List Blk} {j : Nat} {c : Blk} (hc : bs[j]? = some c) : bs.drop j = c :: bs.drop (j + 1) := by
  obtain ⟨hi, e⟩ := List.getElem?_eq_some_iff.1 hc
  rw [List.drop_eq_getElem_cons hi, e]

/-- A block without data: nothing is made. -/
theorem MgAt.bad {k : Kn} {size j : Nat} {bs acc : List Blk} {D : List UInt8} {c : Blk} (h : MgAt k size bs j acc D) (hc : bs[j]? = some c) (hn : k.blockData c = none) : k.merge size bs = none := by
  have hd := drop_at hc
  rcases h with ⟨_, rfl, _⟩ | ⟨pre, b, _, _, _, _, he⟩
  · rw [List.drop_zero] at hd
    rw [hd]
    show (match k.blockData c with | some d => _ | none => _) = _
    rw [hn]
  · rw [he, hd]
    have : k.mergeF size b D (c :: bs.drop (j + 1)) = none := by
      show (match k.blockData c with | some e => _ | none => _) = _
      rw [hn]
    rw [this]; rfl

/-- A block that does not fit into the last one is taken over. -/
theorem MgAt.more {k : Kn} {size j : Nat} {bs acc : List Blk} {D e : List UInt8} {c : Blk} (h : MgAt k size bs j acc D) (hc : bs[j]? = some c) (ho : c.okb) (he : k.blockData c = some e) (hno : acc = [] ∨ size < D.length + e.length) : MgAt k size bs (j + 1) (acc ++ [c]) e := by
  have hd := drop_at hc
  have hl := Kn.blockData_size ho he
  rcases h with ⟨rfl, rfl, rfl⟩ | ⟨pre, b, rfl, _, _, _, hm⟩
  · refine Or.inr ⟨[], c, rfl, ho, he, hl, ?_⟩
    rw [List.drop_zero] at hd
    have : k.merge size bs = k.mergeF size c e (bs.drop 1) := by
      conv => lhs; rw [hd]
      show (match k.blockData c with | some d => _ | none => _) = _
      rw [he]
    rw [this]
    cases k.mergeF size c e (bs.drop 1) <;> simp
  · rcases hno with h0 | h0
    · simp at h0
    · refine Or.inr ⟨pre ++ [b], c, rfl, ho, he, hl, ?_⟩
      rw [hm, hd]
      have : k.mergeF size b D (c :: bs.drop (j + 1)) = (k.mergeF size c e (bs.drop (j + 1))).map (b :: ·) := by
        show (match k.blockData c with | some e => _ | none => _) = _
        rw [he]
        show (if _ then _ else _) = _
        rw [if_neg (by omega)]
      rw [this]
      cases k.mergeF size c e (bs.drop (j + 1)) <;> simp

/-- A block that fits into the last one is joined to it. -/
theorem MgAt.join {k : Kn} (hk : k.Valid) {size j : Nat} (hs : size ≤ 64) {bs acc : List Blk} {D e : List UInt8} {c : Blk} (h : MgAt k size bs j acc D) (hc : bs[j]? = some c) (ho : c.okb) (he : k.blockData c = some e) (hne : acc ≠ []) (hy : D.length + e.length ≤ size) :
    MgAt k size bs (j + 1) (acc.set (acc.length - 1) (k.block (D ++ e))) (D ++ e) := by
  have hd := drop_at hc
  have hl := Kn.blockData_size ho he
  rcases h with ⟨rfl, rfl, rfl⟩ | ⟨pre, b, rfl, hb, _, hbl, hm⟩
  · exact absurd rfl hne
  · have hbo := hb.1
    have hset : (pre ++ [b]).set ((pre ++ [b]).length - 1) (k.block (D ++ e)) = pre ++ [k.block (D ++ e)] := by
      rw [List.length_append]
      show (pre ++ [b]).set (pre.length + 1 - 1) _ = _
      rw [Nat.add_sub_cancel, List.set_append_right _ _ (Nat.le_refl _), Nat.sub_self]
      rfl
    rw [hset]
    refine Or.inr ⟨pre, k.block (D ++ e), rfl, Kn.block_okb hk (by rw [List.length_append]; omega) (by rw [List.length_append]; omega), Kn.block_data hk _, (Kn.block_size k _).symm, ?_⟩
    rw [hm, hd]
    have : k.mergeF size b D (c :: bs.drop (j + 1)) = k.mergeF size (k.block (D ++ e)) (D ++ e) (bs.drop (j + 1)) := by
      show (match k.blockData c with | some e => _ | none => _) = _
      rw [he]
      show (if _ then _ else _) = _
      rw [if_pos hy]
    rw [this]

/-- At the end the blocks made so far are the result. -/
theorem MgAt.done {k : Kn} {size j : Nat} {bs acc : List Blk} {D : List UInt8} (h : MgAt k size bs j acc D) (hj : bs.length ≤ j) : k.merge size bs = some acc := by
  rcases h with ⟨rfl, rfl, rfl⟩ | ⟨pre, b, rfl, _, _, _, hm⟩
  · have : bs = [] := List.length_eq_zero_iff.1 (by omega)
    subst this; rfl
  · rw [hm, List.drop_eq_nil_of_le hj]; rfl

theorem MgAt.len {k : Kn} {size j : Nat} {bs acc : List Blk} {D : List UInt8} (h : MgAt k size bs j acc D) (hne : acc ≠ []) : ∃ b, acc[acc.length - 1]? = some b ∧ b.okb ∧ k.blockData b = some D ∧ D.length = b.size := by
  rcases h with ⟨rfl, _, _⟩ | ⟨pre, b, rfl, h1, h2, h3, _⟩
  · exact absurd rfl hne
  · exact ⟨b, by simp, h1, h2, h3⟩

/-- A block is written in its four cells. -/
theorem cellsB_setBlk (c : Blk) : ∀ (rows : List Blk) (j : Nat), j < rows.length → ((((cellsB rows).set (j * 4) (.int .i64 (c.num : Int))).set (j * 4 + 1) (.bool c.raw)).set (j * 4 + 2) (.int .i64 (c.size : Int))).set (j * 4 + 3) (.string c.body) = cellsB (rows.set j c) := by
  intro rows
  induction rows with
  | nil => intro j h; simp at h
  | cons a ys ih =>
    intro j h
    have hc : ∀ (y : Blk) (zs : List Blk), cellsB (y :: zs) = blkCells y ++ cellsB zs := fun y zs => by simp [cellsB]
    cases j with
    | zero => rfl
    | succ j =>
      have h2 : j < ys.length := by simpa using h
      rw [hc, List.set_cons_succ, hc, ← ih j h2]
      have e0 : (j + 1) * 4 = j * 4 + 4 := by omega
      have e1 : j * 4 + 4 + 1 = (j * 4 + 1) + 4 := by omega
      have e2 : j * 4 + 4 + 2 = (j * 4 + 2) + 4 := by omega
      have e3 : j * 4 + 4 + 3 = (j * 4 + 3) + 4 := by omega
      rw [e0, e1, e2, e3]
      rfl

/-- What ReplaceRange makes of blocks. -/
def replB (k : Kn) (f t size : Nat) (L : List UInt8) (bs : List Blk) : Option (List Blk) :=
  match k.cut 0 f 0 bs, k.cut t (szs bs) 0 bs with
  | some x, some y => some (x ++ k.split size L ++ y)
  | _, _ => none

/-- When ReplaceRange may begin. -/
def replOk (o l m : Int) (d : List UInt8) (bs : List Blk) (f t : Int) (n : Nat) (size : Int) : Prop := (dfits o l m d ∧ (0 ≤ f ∧ f ≤ t ∧ t ≤ (szs bs : Int))) ∧ roomy n size

instance (o l m : Int) (d : List UInt8) (bs : List Blk) (f t : Int) (n : Nat) (size : Int) : Decidable (replOk o l m d bs f t n size) := by unfold replOk; infer_instance

/-- What ReplaceRange returns. -/
def replC (o l m : Int) (d : List UInt8) (ob : Option (List Blk)) (f t : Int) (L : List UInt8) (size : Int) : Option ByteArray :=
  match ob with
  | some bs => if replOk o l m d bs f t L.length size then (replB (kdict o l m d) f.toNat t.toNat size.toNat L bs).bind mkC else none
  | none => none

theorem replC_yes {o l m size f t : Nat} {d L : List UInt8} {bs : List Blk} (h : replOk o l m d bs f t L.length size) : replC o l m d (some bs) f t L size = (replB (Kn.dict o l m d) f t size L bs).bind mkC := by
  show (if _ then _ else _) = _
  rw [if_pos h]; rfl

theorem replC_no {o l m size f t : Int} {d L : List UInt8} {bs : List Blk} (h : ¬ replOk o l m d bs f t L.length size) : replC o l m d (some bs) f t L size = none := by
  show (if _ then _ else _) = _
  rw [if_neg h]

theorem splitF_len (k : Kn) {size : Nat} {L : List UInt8} (h : roomy L.length size) : (k.split size L).length ≤ 40 := by
  obtain ⟨⟨h1, _⟩, _, h3⟩ := h
  exact splitF_length_le k (by omega) L.length L (Nat.le_refl _) (by rw [Nat.mul_comm]; exact_mod_cast h3)

/-- The blocks of a replaced range. -/
theorem repl_ok {k : Kn} (hk : k.Valid) {size f t : Nat} {L : List UInt8} (hr : roomy L.length size) {bs : List Blk} (hok : ∀ b ∈ bs, b.okb) (hl : bs.length ≤ 40) (hz : szs bs ≤ 2000) {x y : List Blk} (hx : k.cut 0 f 0 bs = some x) (hy : k.cut t (szs bs) 0 bs = some y) :
    (∀ b ∈ x ++ k.split size L ++ y, b.okb) ∧ szs (x ++ k.split size L ++ y) ≤ 1048576 ∧ x.length ≤ 40 ∧ y.length ≤ 40 ∧ (k.split size L).length ≤ 40 := by
  have hX := cut_some hk bs 0 x hok hx
  have hY := cut_some hk bs 0 y hok hy
  have l1 := cut_len bs 0 x hx
  have l2 := cut_len bs 0 y hy
  have l3 := splitF_len k hr
  obtain ⟨⟨h1, h64⟩, h2, h3⟩ := hr
  have hs := splitF_szs k (size := size) (by omega) L.length L (Nat.le_refl _)
  have hsp := splitF_okb hk (size := size) (by omega) (by omega) L.length L
  refine ⟨fun b hb => ?_, ?_, by omega, by omega, l3⟩
  · rcases List.mem_append.1 hb with hb | hb
    · rcases List.mem_append.1 hb with hb | hb
      · exact hX.1 b hb
      · exact hsp b hb
    · exact hY.1 b hb
  · rw [szs_append, szs_append]
    have e : szs (k.split size L) = L.length := hs.1
    have a1 := hX.2.1
    have a2 := hY.2.1
    omega

theorem Row.grownX {w w' : World} {B size n : Nat} {A : Option Addr} {xs : List Value} {row : Option Nat} (h : Row w B size A n xs) (hB : B ≤ w.heap.size) (hg : w.grownBy w' row) (hne : 0 < n → ∀ b off, A = some ⟨b, off, none⟩ → row ≠ some b) : Row w' B size A n xs := by
  refine ⟨h.1, fun hn => ?_⟩
  obtain ⟨b, off, rfl, hb, hc⟩ := h.2 hn
  exact ⟨b, off, rfl, hb, fun j v hj => hg.cell (hc j v hj) (fun e => hne hn b off rfl e.symm)⟩

theorem szs_le64 {bs : List Blk} (h : ∀ b ∈ bs, b.okb) : szs bs ≤ 64 * bs.length := by
  induction bs with
  | nil => simp [szs]
  | cons x xs ih =>
    have h1 := ih fun b hb => h b (List.mem_cons_of_mem _ hb)
    have h2 := (h x (List.mem_cons_self ..)).2.1
    simp [szs]
    omega

theorem MgAt.le {k : Kn} {size j : Nat} {bs acc : List Blk} {D : List UInt8} (h : MgAt k size bs j acc D) : D.length ≤ 64 := by
  rcases h with ⟨_, _, rfl⟩ | ⟨pre, b, _, hb, _, hl, _⟩
  · simp
  · have := hb.2.1; omega

end Go.Proofs.YtopklampiaecdaaGreat
