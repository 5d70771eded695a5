/-
 Plain facts: what the laws on replaced ranges compare.
-/
import Derived.Test.YthlgpgaeajfchaaGreatQMergeP
import Derived.Test.YthlgpgaeajfchaaGreatQPropR
import Derived.Test.YthlgpgaeajfchaaGreatQEdits

namespace Go.Proofs.YthlgpgaeajfchaaGreat
open Go.RowKit
set_option linter.unusedVariables false
set_option linter.unusedSimpArgs false

theorem contD_of {on ln mn : Nat} {d : List UInt8} {bs : List Blk} (hf : dfits on ln mn d) : contD on ln mn d (some bs) = (Kn.dict on ln mn d).datas bs := by
 show (if _ then _ else _) = _
 rw [if_pos hf]; rfl

theorem replace_law {o l m size f t : Int} {d L : List UInt8} {s x : ByteArray} (h : replC o l m d (contB s) f t L size = some x) :
  ∃ (fn tn z : Nat) (bs cs : List Blk) (Do Dx : Option (List UInt8)), f = fn ∧ t = tn ∧ fn ≤ tn ∧ tn ≤ z ∧ z ≤ 2000 ∧ L.length ≤ 2000 ∧ contB s = some bs ∧ contB x = some cs ∧ szs bs = z ∧ szs cs = z - (tn - fn) + L.length ∧ s.size ≤ 2960 ∧ x.size ≤ 2960 ∧
   contD o l m d (some bs) = Do ∧ contD o l m d (some cs) = Dx ∧ ∀ D, Do = some D → D.length = z ∧ Dx = some (D.take fn ++ L ++ D.drop tn) := by
 obtain ⟨on, ln, mn, fn, tn, sz, bs, a, b, rfl, rfl, rfl, rfl, rfl, rfl, hbs, hR⟩ := replC_some h
 refine ⟨fn, tn, szs bs, bs, _, _, _, rfl, rfl, hR.ft, hR.tz, hR.z, hR.room.2.1, hbs, hR.xb, rfl, ?_, hR.ss, hR.xs, rfl, rfl, ?_⟩
 ·rw [renumL_szs, szs_append, szs_append, hR.za, hR.zb, hR.zs]
  have := hR.ft
  have := hR.tz
  omega
 ·intro D hD
  rw [contD_of hR.fit] at hD
  obtain ⟨e1, e2, e3, e4⟩ := hR.data hD
  refine ⟨e1, ?_⟩
  rw [contD_of hR.fit, Kn.datas_renumL, e4]

theorem delete_some {o l m f t : Int} {d D : List UInt8} {s : ByteArray} {bs : List Blk} (hbs : contB s = some bs) (hD : contD o l m d (some bs) = some D) (hr : 0 ≤ f ∧ f ≤ t ∧ t ≤ (D.length : Int)) (h40 : bs.length ≠ 40) : ∃ x, replC o l m d (some bs) f t [] 1 = some x := by
 have hf : dfits o l m d := by
  by_cases h : dfits o l m d
  ·exact h
  ·have hc2 : (if dfits o l m d then (kdict o l m d).datas bs else none) = some D := hD
   rw [if_neg h] at hc2; cases hc2
 obtain ⟨on, rfl⟩ : ∃ n : Nat, o = n := ⟨o.toNat, by have := hf.1.1; omega⟩
 obtain ⟨ln, rfl⟩ : ∃ n : Nat, l = n := ⟨l.toNat, by have := hf.1.2.1; omega⟩
 obtain ⟨mn, rfl⟩ : ∃ n : Nat, m = n := ⟨m.toNat, by have := hf.1.2; omega⟩
 obtain ⟨fn, rfl⟩ : ∃ n : Nat, f = n := ⟨f.toNat, by omega⟩
 obtain ⟨tn, rfl⟩ : ∃ n : Nat, t = n := ⟨t.toNat, by omega⟩
 rw [contD_of hf] at hD
 obtain ⟨hok, hl, hz, htx, hs⟩ := contB_ok hbs
 have hkv := (Kn.dict_fresh hf).1.val
 have hDl := Kn.datas_size hok hD
 obtain ⟨a, q1, q2⟩ := cut_data hkv (f := 0) (t := fn) bs 0 D hok hD
 obtain ⟨b, q3, q4⟩ := cut_data hkv (f := tn) (t := szs bs) bs 0 D hok hD
 obtain ⟨c1, c2, c3⟩ := cut_some hkv bs 0 a hok q1
 obtain ⟨e1, e2, e3⟩ := cut_some hkv bs 0 b hok q3
 have htwo := tch_two (f := fn) (t := tn) (z := szs bs) (by omega) bs 0
 have hr1 : roomy ([] : List UInt8).length ((1 : Nat) : Int) := by unfold roomy; simp
 have hrep : replOk on ln mn d bs fn tn ([] : List UInt8).length ((1 : Nat) : Int) := ⟨⟨hf, by omega, by omega, by omega⟩, hr1⟩
 have h1 := replC_yes (size := 1) (bs := bs) (L := []) hrep
 have hB : replB (Kn.dict on ln mn d) fn tn 1 [] bs = some (a ++ (Kn.dict on ln mn d).split 1 [] ++ b) := by
  unfold replB
  rw [q1, q3]
 have hsp : (Kn.dict on ln mn d).split 1 [] = [] := rfl
 rw [hB, hsp, List.append_nil] at h1
 have hmk : mkC (a ++ b) = some (textsFrom 0 (a ++ b)) := mkC_yes (by rw [List.length_append]; split at htwo <;> omega) (by rw [szs_append]; omega)
 exact ⟨_, h1.trans hmk⟩

theorem textsFrom_app (a b : List Blk) (i j : Nat) : textsFrom i (renumL j a ++ b) = textsFrom i (a ++ b) := by
 rw [textsFrom_append, textsFrom_append, textsFrom_renumL', renumL_length]

theorem textsFrom_app2 (a b : List Blk) (i j : Nat) : textsFrom i (a ++ renumL j b) = textsFrom i (a ++ b) := by
 rw [textsFrom_append, textsFrom_append, textsFrom_renumL']

theorem insert_law {o l m size f : Int} {d L : List UInt8} {s x : ByteArray} (h : replC o l m d (contB s) f f L size = some x) :
  ∃ (fn : Nat) (bs cs ys zs : List Blk) (y z : ByteArray) (Do Dy : Option (List UInt8)), f = fn ∧ fn ≤ 2000 ∧ L.length ≤ 2000 ∧ contB s = some bs ∧ contB x = some cs ∧ replC o l m d (some cs) fn ((fn + L.length : Nat) : Int) [] 1 = some y ∧ cutC o l m d (some cs) fn ((fn + L.length : Nat) : Int) = some z ∧
   contB y = some ys ∧ contB z = some zs ∧ contD o l m d (some ys) = Dy ∧ contD o l m d (some bs) = Do ∧ (∀ D, Do = some D → Dy = some D) ∧ szs zs = L.length ∧ szs ys = szs bs ∧ s.size ≤ 2960 ∧ x.size ≤ 2960 ∧ y.size ≤ 2960 ∧ z.size ≤ 2960 := by
 obtain ⟨on, ln, mn, fn, tn, sz, bs, a, b, rfl, rfl, rfl, rfl, e0, rfl, hbs, hR⟩ := replC_some h
 have e0' : tn = fn := by omega
 subst e0'
 have hfit := hR.fit
 have hkv := (Kn.dict_fresh hfit).1.val
 have hlen := hR.len
 have hzz := hR.zz
 have hoks := hR.oks
 have hzs := hR.zs
 have hxb := hR.xb
 obtain ⟨k, hk⟩ : ∃ k, Kn.dict on ln mn d = k := ⟨_, rfl⟩
 obtain ⟨sp, hsp⟩ : ∃ sp, k.split sz L = sp := ⟨_, rfl⟩
 rw [hk] at hkv
 rw [hk, hsp] at hlen hzz hoks hzs hxb
 rw [List.length_append, List.length_append] at hlen
 rw [szs_append, szs_append] at hzz
 have hza := hR.za
 have hzb := hR.zb
 have htz := hR.tz
 -- the container's blocks, renumbered, in three parts
 obtain ⟨a2, ha2⟩ : ∃ a2, renumL 0 a = a2 := ⟨_, rfl⟩
 obtain ⟨s2, hs2⟩ : ∃ s2, renumL (0 + a.length) sp = s2 := ⟨_, rfl⟩
 obtain ⟨b2, hb2⟩ : ∃ b2, renumL (0 + (a ++ sp).length) b = b2 := ⟨_, rfl⟩
 have hcs : renumL 0 (a ++ sp ++ b) = a2 ++ (s2 ++ b2) := by rw [renumL_append, renumL_append, ha2, hs2, hb2, List.append_assoc]
 have oa2 : ∀ c ∈ a2, c.okb := by rw [← ha2]; exact renumL_okb hR.oka 0
 have os2 : ∀ c ∈ s2, c.okb := by rw [← hs2]; exact renumL_okb hoks _
 have ob2 : ∀ c ∈ b2, c.okb := by rw [← hb2]; exact renumL_okb hR.okb' _
 have za2 : szs a2 = tn := by rw [← ha2, renumL_szs]; exact hza
 have zs2 : szs s2 = L.length := by rw [← hs2, renumL_szs]; exact hzs
 have zb2 : szs b2 = szs bs - tn := by rw [← hb2, renumL_szs]; exact hzb
 have la2 : a2.length = a.length := by rw [← ha2, renumL_length]
 have ls2 : s2.length = sp.length := by rw [← hs2, renumL_length]
 have lb2 : b2.length = b.length := by rw [← hb2, renumL_length]
 have hL := hR.room.2.1
 have c1 : k.cut 0 tn 0 (a2 ++ (s2 ++ b2)) = some a2 := cut_mid (k := k) (a := []) (b := a2) (c := s2 ++ b2) oa2 rfl (by show 0 + szs a2 = tn; omega)
 have c2 : k.cut tn (tn + L.length) 0 (a2 ++ (s2 ++ b2)) = some s2 := cut_mid os2 za2 (by omega)
 have zall : szs (a2 ++ (s2 ++ b2)) = tn + L.length + szs b2 := by rw [szs_append, szs_append]; omega
 have c3 : k.cut (tn + L.length) (tn + L.length + szs b2) 0 (a2 ++ (s2 ++ b2)) = some b2 := by
  have := cut_mid (k := k) (a := a2 ++ s2) (b := b2) (c := []) (f := tn + L.length) (t := tn + L.length + szs b2) ob2 (by rw [szs_append]; omega) rfl
  rw [List.append_nil, List.append_assoc] at this
  exact this
 have my : mkC (a2 ++ b2) = some (textsFrom 0 (a2 ++ b2)) := mkC_yes (by rw [List.length_append]; omega) (by rw [szs_append]; omega)
 have mz : mkC s2 = some (textsFrom 0 s2) := mkC_yes (by omega) (by omega)
 have oy : ∀ c ∈ a2 ++ b2, c.okb := fun c hc => by
  rcases List.mem_append.1 hc with h1 | h1
  ·exact oa2 c h1
  ·exact ob2 c h1
 have ty := contB_texts oy (by rw [List.length_append]; omega) (by rw [szs_append]; omega)
 have tz := contB_texts os2 (by omega) (by omega)
 have hr1 : roomy ([] : List UInt8).length ((1 : Nat) : Int) := by unfold roomy; simp
 have hrep : replOk on ln mn d (a2 ++ (s2 ++ b2)) tn ((tn + L.length : Nat) : Int) ([] : List UInt8).length ((1 : Nat) : Int) := ⟨⟨hfit, by omega, by omega, by rw [zall]; omega⟩, hr1⟩
 refine ⟨tn, bs, a2 ++ (s2 ++ b2), renumL 0 (a2 ++ b2), renumL 0 s2, textsFrom 0 (a2 ++ b2), textsFrom 0 s2, _, _, rfl, by have := hR.z; omega, hL, hbs, by rw [hxb, hcs], ?_, ?_, ty, tz, rfl, rfl, ?_, by rw [renumL_szs]; exact zs2, by rw [renumL_szs, szs_append]; omega, hR.ss, hR.xs, (contB_ok ty).2.2.2.2, (contB_ok tz).2.2.2.2⟩
 ·have h1 := replC_yes (size := 1) (bs := a2 ++ (s2 ++ b2)) (L := []) hrep
  have hB : replB (Kn.dict on ln mn d) tn (tn + L.length) 1 [] (a2 ++ (s2 ++ b2)) = some (a2 ++ k.split 1 [] ++ b2) := by
   unfold replB
   rw [hk, c1, zall, c3]
  have hsp1 : k.split 1 [] = [] := rfl
  rw [hB, hsp1, List.append_nil] at h1
  exact h1.trans my
 ·show (if _ then _ else _) = _
  rw [if_pos ⟨hfit, by omega, by omega, by rw [zall]; omega⟩]
  show ((Kn.dict on ln mn d).cut tn (tn + L.length) 0 (a2 ++ (s2 ++ b2))).bind mkC = _
  rw [hk, c2]; exact mz
 ·intro D hD
  rw [contD_of hfit] at hD
  obtain ⟨e1, e2, e3, e4⟩ := hR.data hD
  rw [contD_of hfit, Kn.datas_renumL, hk, Kn.datas_append]
  rw [hk] at e2 e3
  rw [← ha2, ← hb2, Kn.datas_renumL, Kn.datas_renumL, e2, e3]
  show some (D.take tn ++ D.drop tn) = some D
  rw [List.take_append_drop]

end Go.Proofs.YthlgpgaeajfchaaGreat
