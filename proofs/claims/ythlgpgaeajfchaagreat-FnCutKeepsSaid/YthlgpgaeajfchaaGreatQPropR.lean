/-
 Plain facts behind the laws on replaced ranges: what ReplaceRange, CutContainer and MergeBlocks make, read again.
-/
import Derived.Test.YthlgpgaeajfchaaGreatQFlipFacts
import Derived.Test.YthlgpgaeajfchaaGreatQMakeC
import Derived.Test.YthlgpgaeajfchaaGreatQSpecRead
import Derived.Test.YthlgpgaeajfchaaGreatQEditP
import Derived.Test.YthlgpgaeajfchaaGreatQMergeP

namespace Go.Proofs.YthlgpgaeajfchaaGreat
open Go.RowKit
set_option linter.unusedVariables false

theorem textsFrom_renum (bs : List Blk) : ∀ i j, textsFrom i (renumL j bs) = textsFrom i bs := by
 induction bs with
 | nil => intro i j; rfl
 | cons b bs ih =>
  intro i j
  show textB (renum i (renum j b)) ++ textsFrom (i + 1) (renumL (j + 1) bs) = _
  rw [ih]; rfl

theorem renumL_okb {bs : List Blk} (h : ∀ b ∈ bs, b.okb) (i : Nat) : ∀ b ∈ renumL i bs, b.okb := by
 intro b hb
 obtain ⟨j, hj, rfl⟩ := List.mem_iff_getElem.1 hb
 have h1 := renumL_get bs i j
 rw [List.getElem?_eq_getElem hj] at h1
 cases h2 : bs[j]? with
 | none => rw [h2] at h1; cases h1
 | some c =>
  rw [h2] at h1
  simp at h1
  rw [h1]
  exact h c (List.mem_of_getElem? h2)

theorem numbered_okb {bs : List Blk} (h : Numbered bs) : ∀ b ∈ bs, b.okb := fun b hb => Blk.okb_of (h.of_mem hb)

theorem contB_szs {s : ByteArray} {bs : List Blk} (h : contB s = some bs) : szs bs ≤ 2000 := by
 have main : ∀ (n : Nat) (k : Nat) (acc bs : List Blk), s.size - k ≤ n → conts s k acc = some bs → szs bs ≤ 2000 := by
  intro n
  induction n with
  | zero =>
   intro k acc bs hn hc
   rw [conts_end (by omega)] at hc
   split at hc
   ·injection hc with hc; subst hc; assumption
   ·cases hc
  | succ n ih =>
   intro k acc bs hn hc
   by_cases hlt : k < s.size
   ·by_cases h1 : pbOk s k ∧ (pbBlk s k).num = acc.length
    ·rw [conts_next hlt h1.1 h1.2] at hc
     have := pbEnd_ge s k
     exact ih _ _ _ (by omega) hc
    ·rw [conts_bad hlt h1] at hc; cases hc
   ·rw [conts_end (by omega)] at hc
    split at hc
    ·injection hc with hc; subst hc; assumption
    ·cases hc
 exact main s.size 0 [] bs (by omega) h

theorem implContainerSizeYes (s : ByteArray) (bs : List Blk) (w : World) (hs : s.size ≤ 1048576) (h : contB s = some bs) :
  Calls Tryz.prog 29 #[.string s] w fun e w' => e = .returned (.int .i64 (szs bs : Int)) ∧ Below w.heap.size w w' := by
 have hnum := contB_numbered h
 have h40 := hnum.length
 have hz := contB_szs h
 obtain ⟨n, hn⟩ : ∃ n, bs.length = n := ⟨_, rfl⟩
 have H1 := Lib.hid (fun W => implContainerBlocksYes s bs n W hs h hn)
 have HS := Lib.hid (fun (A : Option Addr) (c : Nat) (W : World) (hh : Row W W.heap.size 4 A n (cellsB bs)) => implSizeOf A n c W.heap.size bs W hh (Nat.le_refl _) (by omega) (by omega))
 obtain ⟨z, hzz⟩ : ∃ z, szs bs = z := ⟨_, rfl⟩
 rw [hzz] at HS ⊢
 clear h hnum hz hzz hn
 go_enter Tryz.func29, Tryz.ntmps29
 go_wp2_with fail
 refine (H1.out _).mono ?_
 rintro e w1 ⟨A1, c1, rfl, ho1, hb1⟩
 have hr := Lib.hid (Row.of_own ho1)
 clear ho1
 go_wp2_with fail
 refine (HS.out _ _ _ hr.out).mono ?_
 rintro e w2 ⟨rfl, hb2⟩
 go_wp2_with fail
 go_ret
 exact ⟨rfl, hb1.trans (hb2.mono hb1.size)⟩

end Go.Proofs.YthlgpgaeajfchaaGreat

namespace Go.Proofs.YthlgpgaeajfchaaGreat
open Go.RowKit
set_option linter.unusedVariables false
set_option linter.unusedSimpArgs false

theorem contB_ok {s : ByteArray} {bs : List Blk} (h : contB s = some bs) : (∀ b ∈ bs, b.okb) ∧ bs.length ≤ 40 ∧ szs bs ≤ 2000 ∧ textsFrom 0 bs = s ∧ s.size ≤ 2960 := by
 have hn := contB_numbered h
 have hok := numbered_okb hn
 have hl := hn.length
 have ht := contB_text h
 have hsz := textsFrom_size bs hok 0
 rw [ht] at hsz
 exact ⟨hok, hl, contB_szs h, ht, by omega⟩

theorem mkC_some {bs : List Blk} {x : ByteArray} (hok : ∀ b ∈ bs, b.okb) (h : mkC bs = some x) : bs.length ≤ 40 ∧ szs bs ≤ 2000 ∧ x = textsFrom 0 bs ∧ contB x = some (renumL 0 bs) := by
 unfold mkC at h
 split at h
 ·rename_i hc
  injection h with h
  subst h
  exact ⟨hc.1, hc.2, rfl, contB_texts hok hc.1 hc.2⟩
 ·cases h

theorem textsFrom_renumL' (bs : List Blk) (i j : Nat) : textsFrom i (renumL j bs) = textsFrom i bs := textsFrom_renum bs i j

theorem szs_cons (b : Blk) (bs : List Blk) : szs (b :: bs) = b.size + szs bs := by simp [szs]

theorem contD_eq {o l m : Nat} {d : List UInt8} {s : ByteArray} {bs : List Blk} (hf : dfits o l m d) (h : contB s = some bs) : contD o l m d (contB s) = (Kn.dict o l m d).datas bs := by
 rw [h]
 show (if _ then _ else _) = _
 rw [if_pos hf]; rfl

theorem contD_texts {o l m : Nat} {d : List UInt8} {bs : List Blk} (hf : dfits o l m d) (hok : ∀ b ∈ bs, b.okb) (h1 : bs.length ≤ 40) (h2 : szs bs ≤ 2000) : contD o l m d (contB (textsFrom 0 bs)) = (Kn.dict o l m d).datas bs := by
 rw [contD_eq hf (contB_texts hok h1 h2), Kn.datas_renumL]

def makeC (o l m : Int) (d D : List UInt8) (size : Int) : Option ByteArray :=
 if dfits o l m d then (if (1 ≤ size ∧ size ≤ 64) ∧ (D.length : Int) ≤ size * 40 ∧ D.length ≤ 2000 then some (textsFrom 0 ((kdict o l m d).split size.toNat D)) else none) else none

end Go.Proofs.YthlgpgaeajfchaaGreat

namespace Go.Proofs.YthlgpgaeajfchaaGreat
open Go.RowKit
set_option linter.unusedVariables false
set_option linter.unusedSimpArgs false

theorem cut_cons (k : Kn) (f t p : Nat) (b : Blk) (bs : List Blk) : k.cut f t p (b :: bs) =
  if min (p + b.size) t ≤ max p f then k.cut f t (p + b.size) bs
  else if max p f = p ∧ min (p + b.size) t = p + b.size then (k.cut f t (p + b.size) bs).map (b :: ·)
  else match k.blockData b, k.cut f t (p + b.size) bs with
   | some d, some r => some (k.block ((d.drop (max p f - p)).take (min (p + b.size) t - max p f)) :: r)
   | _, _ => none := rfl

theorem cut_before {k : Kn} {f t : Nat} : ∀ (a r : List Blk) (p : Nat), p + szs a ≤ f → k.cut f t p (a ++ r) = k.cut f t (p + szs a) r := by
 intro a
 induction a with
 | nil => intro r p h; rfl
 | cons b a ih =>
  intro r p h
  rw [szs_cons] at h
  rw [List.cons_append, cut_cons, if_pos (by omega), ih r _ (by omega), szs_cons, Nat.add_assoc]

theorem cut_within {k : Kn} {f t : Nat} : ∀ (a r : List Blk) (p : Nat), (∀ b ∈ a, b.okb) → f ≤ p → p + szs a ≤ t → k.cut f t p (a ++ r) = (k.cut f t (p + szs a) r).map (a ++ ·) := by
 intro a
 induction a with
 | nil =>
  intro r p _ h1 h2
  show k.cut f t p r = (k.cut f t p r).map ([] ++ ·)
  cases k.cut f t p r <;> simp
 | cons b a ih =>
  intro r p hok h1 h2
  rw [szs_cons] at h2
  have hb := (hok b (List.mem_cons_self ..)).1
  rw [List.cons_append, cut_cons, if_neg (by omega), if_pos (by omega), ih r _ (fun c hc => hok c (List.mem_cons_of_mem _ hc)) (by omega) (by omega), szs_cons, Nat.add_assoc]
  cases k.cut f t (p + (b.size + szs a)) r <;> rfl

theorem cut_behind {k : Kn} {f t : Nat} : ∀ (a : List Blk) (p : Nat), t ≤ p → k.cut f t p a = some [] := by
 intro a
 induction a with
 | nil => intro p h; rfl
 | cons b a ih => intro p h; rw [cut_cons, if_pos (by omega)]; exact ih _ (by omega)

theorem cut_mid {k : Kn} {a b c : List Blk} {f t : Nat} (hok : ∀ x ∈ b, x.okb) (hf : szs a = f) (ht : f + szs b = t) : k.cut f t 0 (a ++ (b ++ c)) = some b := by
 rw [cut_before a _ 0 (by omega), Nat.zero_add, cut_within b c _ hok (by omega) (by omega), cut_behind c _ (by omega)]
 simp

theorem tch_two {f t z : Nat} (hft : f ≤ t) : ∀ (bs : List Blk) (p : Nat), tch 0 f p bs + tch t z p bs ≤ bs.length + (if p < f then 1 else 0) := by
 intro bs
 induction bs with
 | nil => intro p; simp [tch]
 | cons b bs ih =>
  intro p
  have h := ih (p + b.size)
  unfold tch
  rw [List.length_cons]
  by_cases h1 : p + b.size < f
  ·rw [if_pos h1] at h
   have e2 : ¬ (max p t < min (p + b.size) z) := by omega
   rw [if_neg e2]
   by_cases h3 : p < f
   ·rw [if_pos h3]; split <;> omega
   ·omega
  ·rw [if_neg h1] at h
   by_cases h3 : p < f
   ·rw [if_pos h3]
    split <;> split <;> omega
   ·rw [if_neg h3]
    have e1 : ¬ (max p 0 < min (p + b.size) f) := by omega
    rw [if_neg e1]
    split <;> omega

end Go.Proofs.YthlgpgaeajfchaaGreat

namespace Go.Proofs.YthlgpgaeajfchaaGreat
open Go.RowKit
set_option linter.unusedVariables false
set_option linter.unusedSimpArgs false

theorem cutC_some {o l m : Int} {d : List UInt8} {s x : ByteArray} {f t : Int} (h : cutC o l m d (contB s) f t = some x) :
  ∃ (on ln mn fn tn : Nat) (bs r : List Blk), o = on ∧ l = ln ∧ m = mn ∧ f = fn ∧ t = tn ∧ dfits on ln mn d ∧ contB s = some bs ∧ (∀ b ∈ bs, b.okb) ∧ bs.length ≤ 40 ∧ szs bs ≤ 2000 ∧ s.size ≤ 2960 ∧ fn ≤ tn ∧ tn ≤ szs bs ∧
   (Kn.dict on ln mn d).cut fn tn 0 bs = some r ∧ (∀ b ∈ r, b.okb) ∧ szs r = tn - fn ∧ r.length = tch fn tn 0 bs ∧ x = textsFrom 0 r ∧ contB x = some (renumL 0 r) ∧ r.length ≤ 40 ∧ x.size ≤ 2960 := by
 cases hbs : contB s with
 | none => rw [hbs] at h; cases h
 | some bs =>
  rw [hbs] at h
  have h' : (if dfits o l m d ∧ (0 ≤ f ∧ f ≤ t ∧ t ≤ (szs bs : Int)) then ((kdict o l m d).cut f.toNat t.toNat 0 bs).bind mkC else none) = some x := h
  by_cases hc : dfits o l m d ∧ (0 ≤ f ∧ f ≤ t ∧ t ≤ (szs bs : Int))
  ·rw [if_pos hc] at h'
   obtain ⟨hf, h0, hft, htz⟩ := hc
   obtain ⟨on, rfl⟩ : ∃ n : Nat, o = n := ⟨o.toNat, by have := hf.1.1; omega⟩
   obtain ⟨ln, rfl⟩ : ∃ n : Nat, l = n := ⟨l.toNat, by have := hf.1.2.1; omega⟩
   obtain ⟨mn, rfl⟩ : ∃ n : Nat, m = n := ⟨m.toNat, by have := hf.1.2; omega⟩
   obtain ⟨fn, rfl⟩ : ∃ n : Nat, f = n := ⟨f.toNat, by omega⟩
   obtain ⟨tn, rfl⟩ : ∃ n : Nat, t = n := ⟨t.toNat, by omega⟩
   obtain ⟨hok, h40, hz, htx, hs⟩ := contB_ok hbs
   have hkv := (Kn.dict_fresh hf).1.val
   have h2 : ((Kn.dict on ln mn d).cut fn tn 0 bs).bind mkC = some x := h'
   cases hr : (Kn.dict on ln mn d).cut fn tn 0 bs with
   | none => rw [hr] at h2; cases h2
   | some r =>
    rw [hr] at h2
    obtain ⟨c1, c2, c3⟩ := cut_some hkv bs 0 r hok hr
    obtain ⟨m1, m2, m3, m4⟩ := mkC_some c1 h2
    exact ⟨on, ln, mn, fn, tn, bs, r, rfl, rfl, rfl, rfl, rfl, hf, rfl, hok, h40, hz, hs, by omega, by omega, hr, c1, by omega, c3, m3, m4, m1, (contB_ok m4).2.2.2.2⟩
  ·rw [if_neg hc] at h'; cases h'

structure RepFacts (on ln mn fn tn sz : Nat) (d L : List UInt8) (s x : ByteArray) (bs a b : List Blk) : Prop where
 fit : dfits on ln mn d
 room : roomy L.length sz
 ok : ∀ c ∈ bs, c.okb
 l40 : bs.length ≤ 40
 z : szs bs ≤ 2000
 ss : s.size ≤ 2960
 ft : fn ≤ tn
 tz : tn ≤ szs bs
 cut1 : (Kn.dict on ln mn d).cut 0 fn 0 bs = some a
 cut2 : (Kn.dict on ln mn d).cut tn (szs bs) 0 bs = some b
 oka : ∀ c ∈ a, c.okb
 okb' : ∀ c ∈ b, c.okb
 oks : ∀ c ∈ (Kn.dict on ln mn d).split sz L, c.okb
 za : szs a = fn
 zb : szs b = szs bs - tn
 zs : szs ((Kn.dict on ln mn d).split sz L) = L.length
 len : (a ++ (Kn.dict on ln mn d).split sz L ++ b).length ≤ 40
 zz : szs (a ++ (Kn.dict on ln mn d).split sz L ++ b) ≤ 2000
 xe : x = textsFrom 0 (a ++ (Kn.dict on ln mn d).split sz L ++ b)
 xb : contB x = some (renumL 0 (a ++ (Kn.dict on ln mn d).split sz L ++ b))
 xs : x.size ≤ 2960

theorem replC_some {o l m size f t : Int} {d L : List UInt8} {s x : ByteArray} (h : replC o l m d (contB s) f t L size = some x) :
  ∃ (on ln mn fn tn sz : Nat) (bs a b : List Blk), o = on ∧ l = ln ∧ m = mn ∧ f = fn ∧ t = tn ∧ size = sz ∧ contB s = some bs ∧ RepFacts on ln mn fn tn sz d L s x bs a b := by
 cases hbs : contB s with
 | none => rw [hbs] at h; cases h
 | some bs =>
  rw [hbs] at h
  by_cases hc : replOk o l m d bs f t L.length size
  ·have hc' := hc
   obtain ⟨⟨hf, h0, hft, htz⟩, hr⟩ := hc'
   obtain ⟨on, rfl⟩ : ∃ n : Nat, o = n := ⟨o.toNat, by have := hf.1.1; omega⟩
   obtain ⟨ln, rfl⟩ : ∃ n : Nat, l = n := ⟨l.toNat, by have := hf.1.2.1; omega⟩
   obtain ⟨mn, rfl⟩ : ∃ n : Nat, m = n := ⟨m.toNat, by have := hf.1.2; omega⟩
   obtain ⟨fn, rfl⟩ : ∃ n : Nat, f = n := ⟨f.toNat, by omega⟩
   obtain ⟨tn, rfl⟩ : ∃ n : Nat, t = n := ⟨t.toNat, by omega⟩
   obtain ⟨sz, rfl⟩ : ∃ n : Nat, size = n := ⟨size.toNat, by have := hr.1; omega⟩
   rw [replC_yes hc] at h
   obtain ⟨hok, h40, hz, htx, hs⟩ := contB_ok hbs
   have hkv := (Kn.dict_fresh hf).1.val
   unfold replB at h
   cases h1 : (Kn.dict on ln mn d).cut 0 fn 0 bs with
   | none => rw [h1] at h; cases h
   | some a =>
    cases h2 : (Kn.dict on ln mn d).cut tn (szs bs) 0 bs with
    | none => rw [h1, h2] at h; cases h
    | some b =>
     rw [h1, h2] at h
     have h3 : mkC (a ++ (Kn.dict on ln mn d).split sz L ++ b) = some x := h
     obtain ⟨c1, c2, c3⟩ := cut_some hkv bs 0 a hok h1
     obtain ⟨e1, e2, e3⟩ := cut_some hkv bs 0 b hok h2
     have hsp := splitF_okb hkv (size := sz) (by have := hr.1; omega) (by have := hr.1; omega) L.length L
     have hspz := (splitF_szs (Kn.dict on ln mn d) (size := sz) (by have := hr.1; omega) L.length L (Nat.le_refl _)).1
     obtain ⟨g1, _, _, _, _⟩ := repl_ok hkv hr hok h40 hz h1 h2
     obtain ⟨m1, m2, m3, m4⟩ := mkC_some g1 h3
     exact ⟨on, ln, mn, fn, tn, sz, bs, a, b, rfl, rfl, rfl, rfl, rfl, rfl, rfl, ⟨hf, hr, hok, h40, hz, hs, by omega, by omega, h1, h2, c1, e1, hsp, by omega, by omega, hspz, m1, m2, m3, m4, (contB_ok m4).2.2.2.2⟩⟩
  ·rw [replC_no hc] at h; cases h

theorem RepFacts.data {on ln mn fn tn sz : Nat} {d L : List UInt8} {s x : ByteArray} {bs a b : List Blk} (h : RepFacts on ln mn fn tn sz d L s x bs a b) {D : List UInt8} (hD : (Kn.dict on ln mn d).datas bs = some D) :
  D.length = szs bs ∧ (Kn.dict on ln mn d).datas a = some (D.take fn) ∧ (Kn.dict on ln mn d).datas b = some (D.drop tn) ∧ (Kn.dict on ln mn d).datas (a ++ (Kn.dict on ln mn d).split sz L ++ b) = some (D.take fn ++ L ++ D.drop tn) := by
 have hkv := (Kn.dict_fresh h.fit).1.val
 have hl := Kn.datas_size h.ok hD
 obtain ⟨a', q1, q2⟩ := cut_data hkv (f := 0) (t := fn) bs 0 D h.ok hD
 obtain ⟨b', q3, q4⟩ := cut_data hkv (f := tn) (t := szs bs) bs 0 D h.ok hD
 rw [h.cut1] at q1
 rw [h.cut2] at q3
 injection q1 with q1
 injection q3 with q3
 subst q1 q3
 have e1 : slc D 0 0 fn = D.take fn := by unfold slc; simp
 have e2 : slc D 0 tn (szs bs) = D.drop tn := by
  unfold slc
  rw [Nat.sub_zero, List.take_of_length_le]
  rw [List.length_drop, hl]
  have := h.tz
  omega
 rw [e1] at q2
 rw [e2] at q4
 have hs := Kn.split_data hkv (size := sz) (by have := h.room.1; omega) L
 refine ⟨hl, q2, q4, ?_⟩
 rw [Kn.datas_append, Kn.datas_append, q2, hs, q4]

end Go.Proofs.YthlgpgaeajfchaaGreat
