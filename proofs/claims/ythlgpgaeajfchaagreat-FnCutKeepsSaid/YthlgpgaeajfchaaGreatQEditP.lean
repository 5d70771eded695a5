/-
 What the edits of containers make: cuts, merges, replaced ranges; plain facts.
-/
import Derived.Test.YthlgpgaeajfchaaGreatQMergeFacts

namespace Go.Proofs.YthlgpgaeajfchaaGreat
open Go.RowKit
set_option linter.unusedVariables false
set_option linter.unusedSimpArgs false

theorem block_renum (k : Kn) (d : List UInt8) : renum 0 (k.block d) = k.block d := by
 unfold Kn.block
 split <;> rfl

theorem bsL_cut (D : List UInt8) (f t : Nat) : (bsL D).extract f t = bsL ((D.drop f).take (t - f)) := bsL_part _ _ _

def cutC (o l m : Int) (d : List UInt8) (ob : Option (List Blk)) (f t : Int) : Option ByteArray :=
 match ob with
 | some bs => if dfits o l m d ∧ (0 ≤ f ∧ f ≤ t ∧ t ≤ (szs bs : Int)) then ((kdict o l m d).cut f.toNat t.toNat 0 bs).bind mkC else none
 | none => none

theorem cut_len {k : Kn} {f t : Nat} : ∀ (bs : List Blk) (p : Nat) (r : List Blk), k.cut f t p bs = some r → r.length ≤ bs.length := by
 intro bs
 induction bs with
 | nil =>
  intro p r hr
  injection hr with hr
  subst hr
  exact Nat.le_refl _
 | cons b bs ih =>
  intro p r hr
  unfold Kn.cut at hr
  split at hr
  ·exact Nat.le_succ_of_le (ih _ _ hr)
  ·split at hr
   ·cases hc : k.cut f t (p + b.size) bs with
    | none => rw [hc] at hr; cases hr
    | some x =>
     rw [hc] at hr
     injection hr with hr
     subst hr
     exact Nat.succ_le_succ (ih _ _ hc)
   ·cases hd : k.blockData b with
    | none => rw [hd] at hr; cases hr
    | some D =>
     cases hc : k.cut f t (p + b.size) bs with
     | none => rw [hd, hc] at hr; cases hr
     | some x =>
      rw [hd, hc] at hr
      injection hr with hr
      subst hr
      exact Nat.succ_le_succ (ih _ _ hc)

def roomy (n : Nat) (size : Int) : Prop := (1 ≤ size ∧ size ≤ 64) ∧ n ≤ 2000 ∧ (n : Int) ≤ 40 * size

instance (n : Nat) (size : Int) : Decidable (roomy n size) := by unfold roomy; infer_instance

theorem drop_at {bs : List Blk} {j : Nat} {c : Blk} (hc : bs[j]? = some c) : bs.drop j = c :: bs.drop (j + 1) := by
 obtain ⟨hi, e⟩ := List.getElem?_eq_some_iff.1 hc
 rw [List.drop_eq_getElem_cons hi, e]

def replB (k : Kn) (f t size : Nat) (L : List UInt8) (bs : List Blk) : Option (List Blk) :=
 match k.cut 0 f 0 bs, k.cut t (szs bs) 0 bs with
 | some x, some y => some (x ++ k.split size L ++ y)
 | _, _ => none

def replOk (o l m : Int) (d : List UInt8) (bs : List Blk) (f t : Int) (n : Nat) (size : Int) : Prop := (dfits o l m d ∧ (0 ≤ f ∧ f ≤ t ∧ t ≤ (szs bs : Int))) ∧ roomy n size

instance (o l m : Int) (d : List UInt8) (bs : List Blk) (f t : Int) (n : Nat) (size : Int) : Decidable (replOk o l m d bs f t n size) := by unfold replOk; infer_instance

def replC (o l m : Int) (d : List UInt8) (ob : Option (List Blk)) (f t : Int) (L : List UInt8) (size : Int) : Option ByteArray :=
 match ob with
 | some bs => if replOk o l m d bs f t L.length size then (replB (kdict o l m d) f.toNat t.toNat size.toNat L bs).bind mkC else none
 | none => none

theorem replC_yes {o l m size f t : Nat} {d L : List UInt8} {bs : List Blk} (h : replOk o l m d bs f t L.length size) : replC o l m d (some bs) f t L size = (replB (Kn.dict o l m d) f t size L bs).bind mkC := by
 show (if _ then _ else _) = _
 rw [if_pos h]; rfl

theorem replC_no {o l m size f t : Int} {d L : List UInt8} {bs : List Blk} (h : ¬ replOk o l m d bs f t L.length size) : replC o l m d (some bs) f t L size = none := by
 show (if _ then _ else _) = _
 rw [if_neg h]

theorem splitF_len (k : Kn) {size : Nat} {L : List UInt8} (h : roomy L.length size) : (k.split size L).length ≤ 40 := by
 obtain ⟨⟨h1, _⟩, _, h3⟩ := h
 exact splitF_length_le k (by omega) L.length L (Nat.le_refl _) (by rw [Nat.mul_comm]; exact_mod_cast h3)

theorem repl_ok {k : Kn} (hk : k.Valid) {size f t : Nat} {L : List UInt8} (hr : roomy L.length size) {bs : List Blk} (hok : ∀ b ∈ bs, b.okb) (hl : bs.length ≤ 40) (hz : szs bs ≤ 2000) {x y : List Blk} (hx : k.cut 0 f 0 bs = some x) (hy : k.cut t (szs bs) 0 bs = some y) :
  (∀ b ∈ x ++ k.split size L ++ y, b.okb) ∧ szs (x ++ k.split size L ++ y) ≤ 1048576 ∧ x.length ≤ 40 ∧ y.length ≤ 40 ∧ (k.split size L).length ≤ 40 := by
 have hX := cut_some hk bs 0 x hok hx
 have hY := cut_some hk bs 0 y hok hy
 have l1 := cut_len bs 0 x hx
 have l2 := cut_len bs 0 y hy
 have l3 := splitF_len k hr
 obtain ⟨⟨h1, h64⟩, h2, h3⟩ := hr
 have hs := splitF_szs k (size := size) (by omega) L.length L (Nat.le_refl _)
 have hsp := splitF_okb hk (size := size) (by omega) (by omega) L.length L
 refine ⟨fun b hb => ?_, ?_, by omega, by omega, l3⟩
 ·rcases List.mem_append.1 hb with hb | hb
  ·rcases List.mem_append.1 hb with hb | hb
   ·exact hX.1 b hb
   ·exact hsp b hb
  ·exact hY.1 b hb
 ·rw [szs_append, szs_append]
  have e : szs (k.split size L) = L.length := hs.1
  have a1 := hX.2.1
  have a2 := hY.2.1
  omega

theorem Row.grownX {w w' : World} {B size n : Nat} {A : Option Addr} {xs : List Value} {row : Option Nat} (h : Row w B size A n xs) (hB : B ≤ w.heap.size) (hg : w.grownBy w' row) (hne : 0 < n → ∀ b off, A = some ⟨b, off, none⟩ → row ≠ some b) : Row w' B size A n xs := by
 refine ⟨h.1, fun hn => ?_⟩
 obtain ⟨b, off, rfl, hb, hc⟩ := h.2 hn
 exact ⟨b, off, rfl, hb, fun j v hj => hg.cell (hc j v hj) (fun e => hne hn b off rfl e.symm)⟩

theorem szs_le64 {bs : List Blk} (h : ∀ b ∈ bs, b.okb) : szs bs ≤ 64 * bs.length := by
 induction bs with
 | nil => simp [szs]
 | cons x xs ih =>
  have h1 := ih fun b hb => h b (List.mem_cons_of_mem _ hb)
  have h2 := (h x (List.mem_cons_self ..)).2.1
  simp [szs]
  omega

end Go.Proofs.YthlgpgaeajfchaaGreat
