/-
 The walk of the law FnCut.
-/
import Derived.Test.YthlgpgaeajfchaaGreatQPropN
import Derived.Test.YthlgpgaeajfchaaGreatQPropK
import Derived.Test.YthlgpgaeajfchaaGreatQMergeP
import Derived.Test.YthlgpgaeajfchaaGreatQCutImpl
import Derived.Test.YthlgpgaeajfchaaGreatQCutSpecB
import Derived.Test.YthlgpgaeajfchaaGreatQReadRange
import Derived.Test.YthlgpgaeajfchaaGreatQTouched
import Derived.Test.YthlgpgaeajfchaaGreatQPropR
import Derived.Test.YthlgpgaeajfchaaGreatQDrawsR
import Derived.Test.YthlgpgaeajfchaaGreatQTreeMem

namespace Go.Proofs.YthlgpgaeajfchaaGreat
open Go.RowKit
set_option linter.unusedVariables false
set_option linter.unusedSimpArgs false
set_option maxRecDepth 100000

theorem cut_size {o l m f t : Int} {d : List UInt8} {s x : ByteArray} (h : cutC o l m d (contB s) f t = some x) :
  ∃ (fn tn zx : Nat) (q : List Blk), f = fn ∧ t = tn ∧ (tn : Int) - fn = zx ∧ zx ≤ 2000 ∧ contB x = some q ∧ szs q = zx ∧ x.size ≤ 2960 := by
 obtain ⟨on, ln, mn, fn, tn, p, r, _, _, _, e1, e2, _, _, _, _, hz, _, hft, htz, _, _, hzr, _, _, hq, _, s2⟩ := cutC_some h
 exact ⟨fn, tn, tn - fn, _, e1, e2, by omega, by omega, hq, by rw [renumL_szs]; exact hzr, s2⟩

theorem cut_read {o l m f t : Int} {d : List UInt8} {s X : ByteArray} (h : readC o l m d (contB s) f t = some X) :
  ∃ (fn tn n : Nat) (bs cs : List Blk) (x : ByteArray) (Dx : List UInt8), f = fn ∧ t = tn ∧ tn ≤ 4000 ∧ fn ≤ tn ∧ contB s = some bs ∧ cutC o l m d (some bs) f t = some x ∧ contB x = some cs ∧ contD o l m d (some cs) = some Dx ∧ bsL Dx = X ∧ cs.length = n ∧ (tchL fn tn 0 0 bs).length = n ∧ x.size ≤ 2960 := by
 unfold readC at h
 cases hD : contD o l m d (contB s) with
 | none => rw [hD] at h; cases h
 | some D =>
  rw [hD] at h
  have h' : (if 0 ≤ f ∧ f ≤ t ∧ t ≤ (D.length : Int) then some (bsL ((D.drop f.toNat).take (t.toNat - f.toNat))) else none) = some X := h
  by_cases hc : 0 ≤ f ∧ f ≤ t ∧ t ≤ (D.length : Int)
  ·rw [if_pos hc] at h'
   have hX : bsL ((D.drop f.toNat).take (t.toNat - f.toNat)) = X := by injection h'
   obtain ⟨hf, hDl⟩ := contD_some hD
   cases hbs : contB s with
   | none => rw [hbs] at hD; cases hD
   | some bs =>
    rw [hbs] at hD
    obtain ⟨on, rfl⟩ : ∃ n : Nat, o = n := ⟨o.toNat, by have := hf.1.1; omega⟩
    obtain ⟨ln, rfl⟩ : ∃ n : Nat, l = n := ⟨l.toNat, by have := hf.1.2.1; omega⟩
    obtain ⟨mn, rfl⟩ : ∃ n : Nat, m = n := ⟨m.toNat, by have := hf.1.2; omega⟩
    obtain ⟨fn, rfl⟩ : ∃ n : Nat, f = n := ⟨f.toNat, by omega⟩
    obtain ⟨tn, rfl⟩ : ∃ n : Nat, t = n := ⟨t.toNat, by omega⟩
    have e1 : ((fn : Int)).toNat = fn := rfl
    have e2 : ((tn : Int)).toNat = tn := rfl
    rw [e1, e2] at hX
    have hdat : (Kn.dict on ln mn d).datas bs = some D := by
     have hc2 : (if dfits on ln mn d then (kdict on ln mn d).datas bs else none) = some D := hD
     rw [if_pos hf] at hc2; exact hc2
    obtain ⟨hok, h40, hz, htx, hs⟩ := contB_ok hbs
    have hkv := (Kn.dict_fresh hf).1.val
    have hl := Kn.datas_size hok hdat
    obtain ⟨r, q1, q2⟩ := cut_data hkv (f := fn) (t := tn) bs 0 D hok hdat
    obtain ⟨c1, c2, c3⟩ := cut_some hkv bs 0 r hok q1
    have hrl := cut_len bs 0 r q1
    have mk := mkC_yes (bs := r) (by omega) (by omega)
    have tx := contB_texts c1 (by omega) (by omega)
    have hsl : slc D 0 fn tn = (D.drop fn).take (tn - fn) := by
     unfold slc
     rw [Nat.sub_zero]
     congr 1
    refine ⟨fn, tn, r.length, bs, renumL 0 r, textsFrom 0 r, (D.drop fn).take (tn - fn), rfl, rfl, by omega, by omega, rfl, ?_, tx, ?_, hX, renumL_length r 0, ?_, (contB_ok tx).2.2.2.2⟩
    ·show (if _ then _ else _) = _
     rw [if_pos ⟨hf, by omega, by omega, by omega⟩]
     show ((Kn.dict on ln mn d).cut fn tn 0 bs).bind mkC = _
     rw [q1]; exact mk
    ·show (if _ then _ else _) = _
     rw [if_pos hf]
     show (Kn.dict on ln mn d).datas (renumL 0 r) = _
     rw [Kn.datas_renumL, q2, hsl]
    ·rw [tchL_length, c3]
  ·rw [if_neg hc] at h'; cases h'

set_option maxHeartbeats 4000000 in
theorem lawFnCut (A : Option Addr) (n c : Nat) (bs : List UInt8) (w : World) (h : ByteRow w A n bs) (hnc : n ≤ c) :
  Calls Tryz.prog 6 #[.slice A n c] w fun e w' => e = .returned (.bool true) ∧ Below w.heap.size w w' := by
 have hle := h.le
 unfold maxLen at hle
 by_cases hn : n ≤ 1048576
 ·have gn := decide_eq_false (p := (1048576 : Int) < n) (by omega)
  have gn2 := decide_eq_false (p := 1048576 < n) (by omega)
  go_enter Tryz.func6, Tryz.ntmps6
  go_wp2_with fail
  refine (specDrawCutContainer A n c bs _ h hnc).mono ?_
  rintro e w1 ⟨o, l, m, d, s, f, t, rfl, hd, hs, hf, ht, hb1⟩
  have kb2 := KBn.start w1 24 [.int .i64 o, .int .i64 l, .int .i64 m]
  have hW2 := hb1.alloc hb1.size (.cells #[.int .i64 o, .int .i64 l, .int .i64 m] 24)
  change KBn (w1.alloc (.cells #[.int .i64 o, .int .i64 l, .int .i64 m] 24)) _ _ at kb2
  clear hb1 h
  go_upto_region 4 with (fail)
  obtain ⟨G, hG⟩ : ∃ G, w1.heap.size = G := ⟨_, rfl⟩
  obtain ⟨w2, hw2⟩ : ∃ W, w1.alloc (.cells #[.int .i64 o, .int .i64 l, .int .i64 m] 24) = W := ⟨_, rfl⟩
  rw [hw2] at kb2 hW2 ⊢
  rw [hG] at kb2 ⊢
  clear hw2 hG
  replace kb2 := Lib.hid kb2
  replace hW2 := Lib.hid hW2
  have HI := fun W => implCutContainer o l m d s f t W (by omega) (by omega)
  have HS := fun W => specCutContainer o l m d s f t W (by omega) (by omega)
  have H1 := fun W => implReadRange o l m d s f t W (by omega) (by omega)
  rcases hX : readC o l m d.data.toList (contB s) f t with _ | X
  ·rw [hX] at H1
   unfold optV at H1
   simp only [Option.getD_none, Option.isSome_none] at H1
   replace H1 := Lib.hid H1
   rcases hT : cutC o l m d.data.toList (contB s) f t with _ | x
   ·rw [hT] at HI HS
    unfold optV at HI HS
    replace HI := Lib.hid HI
    replace HS := Lib.hid HS
    replace hf := Lib.hid hf
    replace ht := Lib.hid ht
    clear hT hX
    have qkb0 := kb2.out.c 0 _ rfl
    have qkb1 := kb2.out.c 1 _ rfl
    have qkb2 := kb2.out.c 2 _ rfl
    go_wp2_with fail
    refine (HI.out _).mono ?_
    rintro e w3 ⟨rfl, hb3⟩
    have hW3 := Lib.hid (hW2.out.trans (hb3.mono hW2.out.size))
    have kb3 := Lib.hid (kb2.out.below hb3)
    clear hb3 hW2 kb2 qkb0 qkb1 qkb2
    have qkb0 := kb3.out.c 0 _ rfl
    have qkb1 := kb3.out.c 1 _ rfl
    have qkb2 := kb3.out.c 2 _ rfl
    go_wp2_with fail
    refine (HS.out _).mono ?_
    rintro e w4 ⟨rfl, hb4⟩
    have hW4 := Lib.hid (hW3.out.trans (hb4.mono hW3.out.size))
    have kb4 := Lib.hid (kb3.out.below hb4)
    clear hb4 hW3 kb3 qkb0 qkb1 qkb2
    have qkb0 := kb4.out.c 0 _ rfl
    have qkb1 := kb4.out.c 1 _ rfl
    have qkb2 := kb4.out.c 2 _ rfl
    go_wp2_with fail
    refine (H1.out _).mono ?_
    rintro e w5 ⟨rfl, hb5⟩
    have hW5 := Lib.hid (hW4.out.trans (hb5.mono hW4.out.size))
    have kb5 := Lib.hid (kb4.out.below hb5)
    clear hb5 hW4 kb4 qkb0 qkb1 qkb2
    go_wp2_with fail
    go_ret
    exact ⟨rfl, hW5.out⟩
   ·rw [hT] at HI HS
    obtain ⟨fn, tn, zx, q, rfl, rfl, ez, hz2, hq, hzq, s2⟩ := cut_size hT
    have H3 := fun W => implContainerSizeYes x q W (by omega) hq
    rw [hzq] at H3
    have wz : IntKind.i64.wrap (zx : Int) = zx := IntWalk.i64_in _ (by omega)
    unfold optV at HI HS
    simp only [Option.getD_some, Option.isSome_some] at HI HS
    replace HI := Lib.hid HI
    replace HS := Lib.hid HS
    replace H3 := Lib.hid H3
    clear hT hX hq hf ht hz2 hzq
    have qkb0 := kb2.out.c 0 _ rfl
    have qkb1 := kb2.out.c 1 _ rfl
    have qkb2 := kb2.out.c 2 _ rfl
    go_wp2_with fail
    refine (HI.out _).mono ?_
    rintro e w3 ⟨rfl, hb3⟩
    have hW3 := Lib.hid (hW2.out.trans (hb3.mono hW2.out.size))
    have kb3 := Lib.hid (kb2.out.below hb3)
    clear hb3 hW2 kb2 qkb0 qkb1 qkb2
    have qkb0 := kb3.out.c 0 _ rfl
    have qkb1 := kb3.out.c 1 _ rfl
    have qkb2 := kb3.out.c 2 _ rfl
    go_wp2_with fail
    refine (HS.out _).mono ?_
    rintro e w4 ⟨rfl, hb4⟩
    have hW4 := Lib.hid (hW3.out.trans (hb4.mono hW3.out.size))
    have kb4 := Lib.hid (kb3.out.below hb4)
    clear hb4 hW3 kb3 qkb0 qkb1 qkb2
    have qkb0 := kb4.out.c 0 _ rfl
    have qkb1 := kb4.out.c 1 _ rfl
    have qkb2 := kb4.out.c 2 _ rfl
    go_wp2_with fail
    refine (H1.out _).mono ?_
    rintro e w5 ⟨rfl, hb5⟩
    have hW5 := Lib.hid (hW4.out.trans (hb5.mono hW4.out.size))
    have kb5 := Lib.hid (kb4.out.below hb5)
    clear hb5 hW4 kb4 qkb0 qkb1 qkb2
    go_wp2_with fail
    refine (H3.out _).mono ?_
    rintro e w6 ⟨rfl, hb6⟩
    have hW6 := Lib.hid (hW5.out.trans (hb6.mono hW5.out.size))
    have kb6 := Lib.hid (kb5.out.below hb6)
    clear hb6 hW5 kb5 
    go_wp2_with fail
    go_ret
    exact ⟨rfl, hW6.out⟩
  ·rw [hX] at H1
   obtain ⟨fn, tn, n2, p, q, x, Dx, rfl, rfl, ht4, hft, hp, hT, hq, e1, e2, e3, e4, s2⟩ := cut_read hX
   rw [hp, hT] at HI HS
   have H2 := fun W => implContainerData o l m d x W (by omega) (by omega)
   rw [hq, e1] at H2
   unfold optV at HI HS H1
   simp only [Option.getD_some, Option.isSome_some] at HI HS H1 H2
   rw [e2] at H2
   have HB := Lib.hid (fun W => implContainerBlocksYes x q n2 W (by omega) hq e3)
   have HT := Lib.hid (fun W => implTouchedBlocks s fn tn p W (by omega) (by omega) (by omega) hp)
   replace HI := Lib.hid HI
   replace HS := Lib.hid HS
   replace H1 := Lib.hid H1
   replace H2 := Lib.hid H2
   replace e4 := Lib.hid e4
   clear hT hX hp hq hf ht e1 e2 e3 ht4 hft
   have qkb0 := kb2.out.c 0 _ rfl
   have qkb1 := kb2.out.c 1 _ rfl
   have qkb2 := kb2.out.c 2 _ rfl
   go_wp2_with fail
   refine (HI.out _).mono ?_
   rintro e w3 ⟨rfl, hb3⟩
   have hW3 := Lib.hid (hW2.out.trans (hb3.mono hW2.out.size))
   have kb3 := Lib.hid (kb2.out.below hb3)
   clear hb3 hW2 kb2 qkb0 qkb1 qkb2
   have qkb0 := kb3.out.c 0 _ rfl
   have qkb1 := kb3.out.c 1 _ rfl
   have qkb2 := kb3.out.c 2 _ rfl
   go_wp2_with fail
   refine (HS.out _).mono ?_
   rintro e w4 ⟨rfl, hb4⟩
   have hW4 := Lib.hid (hW3.out.trans (hb4.mono hW3.out.size))
   have kb4 := Lib.hid (kb3.out.below hb4)
   clear hb4 hW3 kb3 qkb0 qkb1 qkb2
   have qkb0 := kb4.out.c 0 _ rfl
   have qkb1 := kb4.out.c 1 _ rfl
   have qkb2 := kb4.out.c 2 _ rfl
   go_wp2_with fail
   refine (H1.out _).mono ?_
   rintro e w5 ⟨rfl, hb5⟩
   have hW5 := Lib.hid (hW4.out.trans (hb5.mono hW4.out.size))
   have kb5 := Lib.hid (kb4.out.below hb5)
   clear hb5 hW4 kb4 qkb0 qkb1 qkb2
   have qkb0 := kb5.out.c 0 _ rfl
   have qkb1 := kb5.out.c 1 _ rfl
   have qkb2 := kb5.out.c 2 _ rfl
   go_wp2_with fail
   refine (H2.out _).mono ?_
   rintro e w6 ⟨rfl, hb6⟩
   have hW6 := Lib.hid (hW5.out.trans (hb6.mono hW5.out.size))
   have kb6 := Lib.hid (kb5.out.below hb6)
   clear hb6 hW5 kb5 qkb0 qkb1 qkb2
   go_wp2_with fail
   refine (HB.out _).mono ?_
   rintro e w7 ⟨Ab, cb, rfl, _, hb7⟩
   have hW7 := Lib.hid (hW6.out.trans (hb7.mono hW6.out.size))
   have kb7 := Lib.hid (kb6.out.below hb7)
   clear hb7 hW6 kb6
   go_wp2_with fail
   refine (HT.out _).mono ?_
   rintro e w8 ⟨At, ct, nt, rfl, hnt, _, hb8⟩
   rw [e4.out] at hnt
   subst hnt
   have hW8 := Lib.hid (hW7.out.trans (hb8.mono hW7.out.size))
   clear hb8 hW7
   go_wp2_with fail
   go_ret
   exact ⟨rfl, hW8.out⟩
 ·have gn := decide_eq_true (p := (1048576 : Int) < n) (by omega)
  have gn2 := decide_eq_true (p := 1048576 < n) (by omega)
  clear h
  go_enter Tryz.func6, Tryz.ntmps6
  go_wp2_with fail
  go_ret
  exact ⟨rfl, Below.refl _ _⟩

end Go.Proofs.YthlgpgaeajfchaaGreat
