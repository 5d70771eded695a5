/-
 Taken out of PropR.
-/
import Derived.Test.YthlgpgaeajfchaaGreatQPropR
import Derived.Test.YthlgpgaeajfchaaGreatQMergeP

namespace Go.Proofs.YthlgpgaeajfchaaGreat
open Go.RowKit
set_option linter.unusedVariables false
set_option linter.unusedSimpArgs false

theorem resize_law {o l m size : Int} {d : List UInt8} {s x : ByteArray} (h : resizeC o l m d (contB s) size = some x) :
  ∃ D : List UInt8, contD o l m d (contB s) = some D ∧ contD o l m d (contB x) = some D ∧ resizeC o l m d (contB x) size = some x ∧ makeC o l m d D size = some x ∧ D.length ≤ 2000 ∧ s.size ≤ 2960 ∧ x.size ≤ 2960 := by
 unfold resizeC at h
 cases hD : contD o l m d (contB s) with
 | none => rw [hD] at h; cases h
 | some D =>
  rw [hD] at h
  have hf := (contD_some hD).1
  by_cases hc : (1 ≤ size ∧ size ≤ 64) ∧ (D.length : Int) ≤ size * 40 ∧ D.length ≤ 2000
  ·have h' : (if (1 ≤ size ∧ size ≤ 64) ∧ (D.length : Int) ≤ size * 40 ∧ D.length ≤ 2000 then some (textsFrom 0 ((kdict o l m d).split size.toNat D)) else none) = some x := h
   rw [if_pos hc] at h'
   have hs : s.size ≤ 2960 := by
    cases hbs : contB s with
    | none => rw [hbs] at hD; cases hD
    | some bs => exact (contB_ok hbs).2.2.2.2
   obtain ⟨on, rfl⟩ : ∃ n : Nat, o = n := ⟨o.toNat, by have := hf.1.1; omega⟩
   obtain ⟨ln, rfl⟩ : ∃ n : Nat, l = n := ⟨l.toNat, by have := hf.1.2.1; omega⟩
   obtain ⟨mn, rfl⟩ : ∃ n : Nat, m = n := ⟨m.toNat, by have := hf.1.2; omega⟩
   obtain ⟨sz, rfl⟩ : ∃ n : Nat, size = n := ⟨size.toNat, by omega⟩
   have hkd : kdict on ln mn d = Kn.dict on ln mn d := rfl
   have ez : ((sz : Int)).toNat = sz := rfl
   have hx0 := h'
   rw [hkd, ez] at h'
   have hx : textsFrom 0 ((Kn.dict on ln mn d).split sz D) = x := by injection h'
   have hkv := (Kn.dict_fresh hf).1.val
   have s1 : ∀ b ∈ (Kn.dict on ln mn d).split sz D, b.okb := splitF_okb hkv (size := sz) (by omega) (by omega) D.length D
   have s2 : ((Kn.dict on ln mn d).split sz D).length ≤ 40 := splitF_length_le (Kn.dict on ln mn d) (size := sz) (by omega) _ _ (Nat.le_refl _) (by omega)
   have s3 : szs ((Kn.dict on ln mn d).split sz D) = D.length := (splitF_szs (Kn.dict on ln mn d) (size := sz) (by omega) _ _ (Nat.le_refl _)).1
   have hxD : contD on ln mn d (contB x) = some D := by
    rw [← hx, contD_texts hf s1 s2 (by omega)]
    exact Kn.split_data hkv (by omega) D
   refine ⟨D, rfl, hxD, ?_, ?_, hc.2.2, hs, ?_⟩
   ·unfold resizeC
    rw [hxD]
    show (if _ then _ else _) = _
    rw [if_pos hc]; exact hx0
   ·unfold makeC
    rw [if_pos hf, if_pos hc]; exact hx0
   ·have h5 := textsFrom_size _ s1 0
    rw [hx] at h5
    omega
  ·have h' : (if (1 ≤ size ∧ size ≤ 64) ∧ (D.length : Int) ≤ size * 40 ∧ D.length ≤ 2000 then some (textsFrom 0 ((kdict o l m d).split size.toNat D)) else none) = some x := h
   rw [if_neg hc] at h'; cases h'

theorem NoFit_get {size : Nat} : ∀ (bs : List Blk) (i : Nat) (a b : Blk), NoFit size bs → bs[i]? = some a → bs[i + 1]? = some b → size < a.size + b.size := by
 intro bs
 induction bs with
 | nil => intro i a b _ h; simp at h
 | cons x bs ih =>
  intro i a b hn ha hb
  cases bs with
  | nil => simp at hb
  | cons y bs =>
   have hn' : size < x.size + y.size ∧ NoFit size (y :: bs) := hn
   cases i with
   | zero =>
    have e1 : x = a := by simpa using ha
    have e2 : y = b := by simpa using hb
    subst e1 e2
    exact hn'.1
   | succ i => exact ih i a b hn'.2 (by simpa using ha) (by simpa using hb)

theorem merge_law {o l m size : Int} {d : List UInt8} {s x : ByteArray} (h : mergeC o l m d (contB s) size = some x) :
  ∃ (sz : Nat) (bs cs : List Blk) (D : List UInt8), size = sz ∧ sz ≤ 64 ∧ contB s = some bs ∧ contB x = some cs ∧ contD o l m d (some bs) = some D ∧ contD o l m d (some cs) = some D ∧ mergeC o l m d (some cs) size = some x ∧ NoFit sz cs ∧ cs.length ≤ bs.length ∧ bs.length ≤ 40 ∧ (∀ c ∈ cs, c.okb) ∧ s.size ≤ 2960 ∧ x.size ≤ 2960 := by
 cases hbs : contB s with
 | none => rw [hbs] at h; cases h
 | some bs =>
  rw [hbs] at h
  by_cases hc : dfits o l m d ∧ (1 ≤ size ∧ size ≤ 64)
  ·obtain ⟨hf, hsz⟩ := hc
   rw [mergeC_yes hf hsz] at h
   obtain ⟨on, rfl⟩ : ∃ n : Nat, o = n := ⟨o.toNat, by have := hf.1.1; omega⟩
   obtain ⟨ln, rfl⟩ : ∃ n : Nat, l = n := ⟨l.toNat, by have := hf.1.2.1; omega⟩
   obtain ⟨mn, rfl⟩ : ∃ n : Nat, m = n := ⟨m.toNat, by have := hf.1.2; omega⟩
   obtain ⟨sz, rfl⟩ : ∃ n : Nat, size = n := ⟨size.toNat, by omega⟩
   have hkd : kdict on ln mn d = Kn.dict on ln mn d := rfl
   have ez : ((sz : Int)).toNat = sz := rfl
   rw [hkd, ez] at h
   obtain ⟨hok, h40, hz, htx, hs⟩ := contB_ok hbs
   have hkv := (Kn.dict_fresh hf).1.val
   cases hD : (Kn.dict on ln mn d).datas bs with
   | none => rw [merge_none hD] at h; cases h
   | some D =>
    obtain ⟨r, r1, r2, r3, r4, r5⟩ := merge_ok hkv (size := sz) (by omega) hok hD
    rw [r1] at h
    obtain ⟨m1, m2, m3, m4⟩ := mkC_some r3 h
    have hok2 := renumL_okb r3 0
    have hn2 := NoFit_renum r 0 r5
    have hd2 : (Kn.dict on ln mn d).datas (renumL 0 r) = some D := by rw [Kn.datas_renumL]; exact r2
    refine ⟨sz, bs, renumL 0 r, D, rfl, by omega, rfl, m4, ?_, ?_, ?_, hn2, by rw [renumL_length]; exact r4, h40, hok2, hs, (contB_ok m4).2.2.2.2⟩
    ·show (if _ then _ else _) = _
     rw [if_pos hf]; exact hD
    ·show (if _ then _ else _) = _
     rw [if_pos hf]; exact hd2
    ·rw [mergeC_yes hf hsz, hkd, ez, merge_same hok2 hd2 hn2]
     show mkC (renumL 0 r) = _
     rw [mkC_yes (by rw [renumL_length]; exact m1) (by rw [renumL_szs]; exact m2), textsFrom_renumL', m3]
  ·rw [mergeC_no (Or.inl hc)] at h; cases h

end Go.Proofs.YthlgpgaeajfchaaGreat
