/-
 Taken out of CutSpec.
-/
import Derived.Test.YthlgpgaeajfchaaGreatQMergeP
import Derived.Test.YthlgpgaeajfchaaGreatQCutSpec

namespace Go.Proofs.YthlgpgaeajfchaaGreat
open Go.RowKit
set_option linter.unusedVariables false
set_option linter.unusedSimpArgs false
set_option maxRecDepth 100000

set_option maxHeartbeats 2000000 in
theorem specCutContainer (o l m : Int) (d s : ByteArray) (f t : Int) (w : World) (hd : d.size ≤ 1048576) (hs : s.size ≤ 1048576) :
  Calls Tryz.prog 25 #[.agg #[.int .i64 o, .int .i64 l, .int .i64 m], .string d, .string s, .int .i64 f, .int .i64 t] w fun e w' => e = .returned (optV (cutC o l m d.data.toList (contB s) f t)) ∧ Below w.heap.size w w' := by
 have hW0 := Lib.hid ((Below.refl w.heap.size w).alloc (Nat.le_refl _) (.cells #[.int .i64 o, .int .i64 l, .int .i64 m] 24))
 have kb0 := Lib.hid (KBn.start w 24 [.int .i64 o, .int .i64 l, .int .i64 m])
 rcases hbs : contB s with _ | bs
 ·have HS := Lib.hid (fun W => specL5BlocksNo s W hs hbs)
  have hA : cutC o l m d.data.toList none f t = none := rfl
  rw [hA]
  clear hbs hA
  go_enter Tryz.func25, Tryz.ntmps25
  go_wp2_with fail
  refine (HS.out _).mono ?_
  rintro e w1 ⟨A1, c1, rfl, _, hb1⟩
  have hW1 := Lib.hid (hW0.out.trans (hb1.mono hW0.out.size))
  clear hb1
  go_wp2_with fail
  go_ret2
  exact ⟨rfl, hW1.out⟩
 ·obtain ⟨n, hn⟩ : ∃ n, bs.length = n := ⟨_, rfl⟩
  have HS := Lib.hid (fun W => specL5BlocksYes s bs n W hs hbs hn)
  have hnum := contB_numbered hbs
  have hn40 := hnum.length
  rw [hn] at hn40
  have hok : ∀ b ∈ bs, b.okb := fun b hb => Blk.okb_of (hnum.of_mem hb)
  have hz := szs_le (fun b hm => hnum.of_mem hm)
  rw [hn] at hz
  by_cases hf : dfits o l m d.data.toList
  ·have HR := Lib.hid (fun W => specL5Ready o l m d true W hd (btrue hf))
   obtain ⟨on, rfl⟩ : ∃ n : Nat, o = n := ⟨o.toNat, by have := hf.1.1; omega⟩
   obtain ⟨ln, rfl⟩ : ∃ n : Nat, l = n := ⟨l.toNat, by have := hf.1.2.1; omega⟩
   obtain ⟨mn, rfl⟩ : ∃ n : Nat, m = n := ⟨m.toNat, by have := hf.1.2; omega⟩
   have HZ := fun A c W (hr : Row W W.heap.size 4 A n (cellsB bs)) => specL5Size A n c W.heap.size bs W hr (by omega) (by omega)
   obtain ⟨z, hzz⟩ : ∃ z, szs bs = z := ⟨_, rfl⟩
   rw [hzz] at HZ hz
   by_cases hrg : 0 ≤ f ∧ f ≤ t ∧ t ≤ (z : Int)
   ·have HG := Lib.hid (fun W => specL6Range f t (z : Int) true W (btrue hrg))
    obtain ⟨fn, rfl⟩ : ∃ n : Nat, f = n := ⟨f.toNat, by omega⟩
    obtain ⟨tn, rfl⟩ : ∃ n : Nat, t = n := ⟨t.toNat, by omega⟩
    have HC := fun A c W (hr : Row W W.heap.size 4 A n (cellsB bs)) => specL6Cut on ln mn fn tn d.data.toList A n c W.heap.size bs W hf hr (Nat.le_refl _) (by omega) hok (by omega) (by omega)
    have hbd : bsL d.data.toList = d := rfl
    rw [hbd] at HC
    have hA : cutC on ln mn d.data.toList (some bs) fn tn = ((Kn.dict on ln mn d.data.toList).cut fn tn 0 bs).bind mkC := by
     show (if _ then _ else _) = _
     rw [if_pos ⟨hf, by rw [hzz]; exact hrg⟩]; rfl
    rw [hA]
    have hval := (Kn.dict_fresh hf).1.val
    obtain ⟨u, hu⟩ : ∃ u, (Kn.dict on ln mn d.data.toList).cut fn tn 0 bs = u := ⟨_, rfl⟩
    rw [hu] at HC ⊢
    have HM : Hid (∀ r, u = some r → ∀ A c W, Row W W.heap.size 4 A r.length (cellsB r) → Calls Tryz.prog 67 #[.slice A r.length c] W fun e w' => e = .returned (optV (mkC r)) ∧ Below W.heap.size W w') := Lib.hid (fun r e A c W hr => by
     have hc := cut_some hval bs 0 r hok (hu.trans e)
     have hl := cut_len bs 0 r (hu.trans e)
     exact specL6Result A r.length c W.heap.size r W hr (Nat.le_refl _) (by omega) (by omega) hc.1)
    replace HZ := Lib.hid HZ
    replace HC := Lib.hid HC
    clear hbs hnum hok hf hn hbd hval hu hA hrg hzz
    go_enter Tryz.func25, Tryz.ntmps25
    go_wp2_with fail
    refine (HS.out _).mono ?_
    rintro e w1 ⟨A1, c1, rfl, ho1, hb1⟩
    have hr1 := Lib.hid (Row.of_own ho1)
    have hW1 := Lib.hid (hW0.out.trans (hb1.mono hW0.out.size))
    have kb1 := Lib.hid (kb0.out.below hb1)
    clear hb1 ho1 kb0 hW0
    have q0 := kb1.out.c 0 _ rfl
    have q1 := kb1.out.c 1 _ rfl
    have q2 := kb1.out.c 2 _ rfl
    go_wp2_with fail
    refine (HR.out _).mono ?_
    rintro e w2 ⟨rfl, hb2⟩
    have hr2 := Lib.hid (Row.more (Row.below hr1.out hb2 (Nat.le_refl _)) hb2.size)
    have hW2 := Lib.hid (hW1.out.trans (hb2.mono hW1.out.size))
    have kb2 := kb1.out.below hb2
    clear hb2 hr1 hW1 kb1 q0 q1 q2
    have q0 := kb2.c 0 _ rfl
    have q1 := kb2.c 1 _ rfl
    have q2 := kb2.c 2 _ rfl
    clear kb2
    go_wp2_with fail
    refine (HZ.out _ _ _ hr2.out).mono ?_
    rintro e w3 ⟨rfl, rfl⟩
    go_wp2_with fail
    refine (HG.out _).mono ?_
    rintro e w3 ⟨rfl, rfl⟩
    go_wp2_with fail
    refine (HC.out _ _ _ hr2.out).mono ?_
    rintro e w4 ⟨A4, n4, c4, rfl, hcut, hb4⟩
    have hW4 := Lib.hid (hW2.out.trans (hb4.mono hW2.out.size))
    clear hb4 hr2 hW2 q0 q1 q2
    rcases u with _ | r
    ·clear hcut HM
     go_wp2_with fail
     go_ret2
     exact ⟨rfl, hW4.out⟩
    ·obtain ⟨hrl, ho4⟩ := hcut r rfl
     subst hrl
     have hM4 := Lib.hid (HM.out r rfl A4 c4 w4 (Row.of_own ho4))
     obtain ⟨R, hR⟩ : ∃ R, mkC r = R := ⟨_, rfl⟩
     rw [hR] at hM4
     have hR' := Lib.hid hR
     unfold optV at hM4
     clear hcut HM ho4 hR
     go_wp2_with fail
     refine hM4.out.mono ?_
     rintro e w5 ⟨rfl, hb5⟩
     have hW5 := Lib.hid (hW4.out.trans (hb5.mono hW4.out.size))
     clear hb5 hW4 hM4
     go_wp2_with fail
     go_ret2
     exact ⟨by show _ = Ending.returned (optV (mkC r)); rw [hR'.out]; rfl, hW5.out⟩
   ·have HG := Lib.hid (fun W => specL6Range f t (z : Int) false W (bfalse hrg))
    have hA : cutC on ln mn d.data.toList (some bs) f t = none := by
     show (if _ then _ else _) = _
     rw [if_neg (fun hh => hrg (by rw [← hzz]; exact hh.2))]
    rw [hA]
    replace HZ := Lib.hid HZ
    clear hbs hnum hok hf hn hA hrg hzz
    go_enter Tryz.func25, Tryz.ntmps25
    go_wp2_with fail
    refine (HS.out _).mono ?_
    rintro e w1 ⟨A1, c1, rfl, ho1, hb1⟩
    have hr1 := Lib.hid (Row.of_own ho1)
    have hW1 := Lib.hid (hW0.out.trans (hb1.mono hW0.out.size))
    have kb1 := Lib.hid (kb0.out.below hb1)
    clear hb1 ho1 kb0 hW0
    have q0 := kb1.out.c 0 _ rfl
    have q1 := kb1.out.c 1 _ rfl
    have q2 := kb1.out.c 2 _ rfl
    go_wp2_with fail
    refine (HR.out _).mono ?_
    rintro e w2 ⟨rfl, hb2⟩
    have hr2 := Lib.hid (Row.more (Row.below hr1.out hb2 (Nat.le_refl _)) hb2.size)
    have hW2 := Lib.hid (hW1.out.trans (hb2.mono hW1.out.size))
    clear hb2 hr1 hW1 kb1 q0 q1 q2
    go_wp2_with fail
    refine (HZ.out _ _ _ hr2.out).mono ?_
    rintro e w3 ⟨rfl, rfl⟩
    go_wp2_with fail
    refine (HG.out _).mono ?_
    rintro e w3 ⟨rfl, rfl⟩
    go_wp2_with fail
    go_ret2
    exact ⟨rfl, hW2.out⟩
  ·have HR := Lib.hid (fun W => specL5Ready o l m d false W hd (bfalse hf))
   have hA : cutC o l m d.data.toList (some bs) f t = none := by
    show (if _ then _ else _) = _
    rw [if_neg (fun hh => hf hh.1)]
   rw [hA]
   clear hA hok hz hnum hbs hf hn hn40
   go_enter Tryz.func25, Tryz.ntmps25
   go_wp2_with fail
   refine (HS.out _).mono ?_
   rintro e w1 ⟨A1, c1, rfl, ho1, hb1⟩
   have hW1 := Lib.hid (hW0.out.trans (hb1.mono hW0.out.size))
   have kb1 := kb0.out.below hb1
   clear hb1 ho1 kb0 hW0
   have q0 := kb1.c 0 _ rfl
   have q1 := kb1.c 1 _ rfl
   have q2 := kb1.c 2 _ rfl
   clear kb1
   go_wp2_with fail
   refine (HR.out _).mono ?_
   rintro e w2 ⟨rfl, hb2⟩
   have hW2 := Lib.hid (hW1.out.trans (hb2.mono hW1.out.size))
   clear hb2 hW1 q0 q1 q2
   go_wp2_with fail
   go_ret2
   exact ⟨rfl, hW2.out⟩

end Go.Proofs.YthlgpgaeajfchaaGreat
