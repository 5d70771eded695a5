/-
 The walk of the law FnReplaceParts.
-/
import Derived.Test.YthlgpgaeajfchaaGreatQMergeP
import Derived.Test.YthlgpgaeajfchaaGreatQPropT
import Derived.Test.YthlgpgaeajfchaaGreatQPropR
import Derived.Test.YthlgpgaeajfchaaGreatQEdits
import Derived.Test.YthlgpgaeajfchaaGreatQJoinTake
import Derived.Test.YthlgpgaeajfchaaGreatQReplImpl
import Derived.Test.YthlgpgaeajfchaaGreatQReplSpec
import Derived.Test.YthlgpgaeajfchaaGreatQCutImpl
import Derived.Test.YthlgpgaeajfchaaGreatQEditsA
import Derived.Test.YthlgpgaeajfchaaGreatQDrawsP
import Derived.Test.YthlgpgaeajfchaaGreatQTreeMem

namespace Go.Proofs.YthlgpgaeajfchaaGreat
open Go.RowKit
set_option linter.unusedVariables false
set_option linter.unusedSimpArgs false

theorem parts_law {o l m size f t : Int} {d L : List UInt8} {s x : ByteArray} (h : replC o l m d (contB s) f t L size = some x) :
  ∃ (fn tn z : Nat) (bs : List Blk) (x1 x2 x3 : ByteArray), f = fn ∧ t = tn ∧ contB s = some bs ∧ szs bs = z ∧ cutC o l m d (some bs) 0 fn = some x1 ∧ cutC o l m d (some bs) tn z = some x2 ∧ appendC o l m d (contB x1) L size = some x3 ∧
   joinC (contB x3) (contB x2) = some x ∧ s.size ≤ 2960 ∧ x1.size ≤ 2960 ∧ x2.size ≤ 2960 ∧ x3.size ≤ 2960 := by
 obtain ⟨on, ln, mn, fn, tn, sz, bs, a, b, rfl, rfl, rfl, rfl, rfl, rfl, hbs, hR⟩ := replC_some h
 obtain ⟨k, hk⟩ : ∃ k, Kn.dict on ln mn d = k := ⟨_, rfl⟩
 have hlen := hR.len
 have hzz := hR.zz
 rw [hk] at hlen hzz
 rw [List.length_append, List.length_append] at hlen
 rw [szs_append, szs_append] at hzz
 have hft := hR.ft
 have htz := hR.tz
 have ha40 : a.length ≤ 40 := by omega
 have hb40 : b.length ≤ 40 := by omega
 have hza := hR.za
 have hzb := hR.zb
 have m1 := mkC_yes (bs := a) ha40 (by omega)
 have m2 := mkC_yes (bs := b) hb40 (by omega)
 have t1 := contB_texts hR.oka ha40 (by omega)
 have t2 := contB_texts hR.okb' hb40 (by omega)
 have oks := hR.oks
 rw [hk] at oks
 have hok3 : ∀ c ∈ a ++ k.split sz L, c.okb := fun c hc => by
  rcases List.mem_append.1 hc with h1 | h1
  ·exact hR.oka c h1
  ·exact oks c h1
 have m3 : mkC (renumL 0 a ++ k.split sz L) = some (textsFrom 0 (a ++ k.split sz L)) := by
  rw [mkC_yes (by rw [List.length_append, renumL_length]; omega) (by rw [szs_append, renumL_szs]; omega), textsFrom_app]
 have t3 := contB_texts hok3 (by rw [List.length_append]; omega) (by rw [szs_append]; omega)
 refine ⟨fn, tn, szs bs, bs, textsFrom 0 a, textsFrom 0 b, textsFrom 0 (a ++ k.split sz L), rfl, rfl, hbs, rfl, ?_, ?_, ?_, ?_, hR.ss, (contB_ok t1).2.2.2.2, (contB_ok t2).2.2.2.2, (contB_ok t3).2.2.2.2⟩
 ·show (if _ then _ else _) = _
  rw [if_pos ⟨hR.fit, by omega, by omega, by omega⟩]
  show ((Kn.dict on ln mn d).cut 0 fn 0 bs).bind mkC = _
  rw [hR.cut1]; exact m1
 ·show (if _ then _ else _) = _
  rw [if_pos ⟨hR.fit, by omega, by omega, by omega⟩]
  show ((Kn.dict on ln mn d).cut tn (szs bs) 0 bs).bind mkC = _
  rw [hR.cut2]; exact m2
 ·rw [t1, appendC_yes hR.fit hR.room, hk]; exact m3
 ·rw [t3, t2]
  show mkC (renumL 0 (a ++ k.split sz L) ++ renumL 0 b) = _
  rw [mkC_yes (by rw [List.length_append, renumL_length, renumL_length, List.length_append]; omega) (by rw [szs_append, renumL_szs, renumL_szs, szs_append]; omega), textsFrom_app, textsFrom_app2, hR.xe, hk]

end Go.Proofs.YthlgpgaeajfchaaGreat

namespace Go.Proofs.YthlgpgaeajfchaaGreat
open Go.RowKit
set_option linter.unusedVariables false
set_option linter.unusedSimpArgs false
set_option maxRecDepth 100000

set_option maxHeartbeats 4000000 in
theorem lawFnReplaceParts (A : Option Addr) (n c : Nat) (bs : List UInt8) (w : World) (h : ByteRow w A n bs) (hnc : n ≤ c) :
  Calls Tryz.prog 10 #[.slice A n c] w fun e w' => e = .returned (.bool true) ∧ Below w.heap.size w w' := by
 have hle := h.le
 unfold maxLen at hle
 by_cases hn : n ≤ 1048576
 ·have gn := decide_eq_false (p := (1048576 : Int) < n) (by omega)
  have gn2 := decide_eq_false (p := 1048576 < n) (by omega)
  go_enter Tryz.func10, Tryz.ntmps10
  go_wp2_with fail
  refine (specDrawReplaceRange A n c bs _ h hnc).mono ?_
  rintro e w1 ⟨o, l, m, d, s, f, t, U, size, rfl, hd, hs, hf, ht, hU, hsr, hb1⟩
  have kb2 := KBn.start w1 24 [.int .i64 o, .int .i64 l, .int .i64 m]
  have hW2 := hb1.alloc hb1.size (.cells #[.int .i64 o, .int .i64 l, .int .i64 m] 24)
  change KBn (w1.alloc (.cells #[.int .i64 o, .int .i64 l, .int .i64 m] 24)) _ _ at kb2
  clear hb1 h
  go_upto_region 4 with (fail)
  obtain ⟨G, hG⟩ : ∃ G, w1.heap.size = G := ⟨_, rfl⟩
  obtain ⟨w2, hw2⟩ : ∃ W, w1.alloc (.cells #[.int .i64 o, .int .i64 l, .int .i64 m] 24) = W := ⟨_, rfl⟩
  rw [hw2] at kb2 hW2 ⊢
  rw [hG] at kb2 ⊢
  clear hw2 hG
  replace kb2 := Lib.hid kb2
  replace hW2 := Lib.hid hW2
  have HI := fun W => implReplaceRange o l m d s U f t size W (by omega) (by omega) (by omega)
  have HS := fun W => specReplaceRange o l m d s U f t size W (by omega) (by omega) (by omega)
  replace hsr := Lib.hid hsr
  rcases hT : replC o l m d.data.toList (contB s) f t U.data.toList size with _ | x
  ·rw [hT] at HI HS
   unfold optV at HI HS
   replace hf := Lib.hid hf
   replace ht := Lib.hid ht
   replace HI := Lib.hid HI
   replace HS := Lib.hid HS
   clear hT
   have qkb0 := kb2.out.c 0 _ rfl
   have qkb1 := kb2.out.c 1 _ rfl
   have qkb2 := kb2.out.c 2 _ rfl
   go_wp2_with fail
   refine (HI.out _).mono ?_
   rintro e w3 ⟨rfl, hb3⟩
   have hW3 := Lib.hid (hW2.out.trans (hb3.mono hW2.out.size))
   have kb3 := Lib.hid (kb2.out.below hb3)
   clear hb3 hW2 kb2 qkb0 qkb1 qkb2
   have qkb0 := kb3.out.c 0 _ rfl
   have qkb1 := kb3.out.c 1 _ rfl
   have qkb2 := kb3.out.c 2 _ rfl
   go_wp2_with fail
   refine (HS.out _).mono ?_
   rintro e w4 ⟨rfl, hb4⟩
   have hW4 := Lib.hid (hW3.out.trans (hb4.mono hW3.out.size))
   have kb4 := Lib.hid (kb3.out.below hb4)
   clear hb4 hW3 kb3 qkb0 qkb1 qkb2
   go_wp2_with fail
   go_ret
   exact ⟨rfl, hW4.out⟩
  ·rw [hT] at HI HS
   obtain ⟨fn, tn, z, p, x1, x2, x3, rfl, rfl, hp, hz, e1, e2, e3, e4, s1, s2, s3, s4⟩ := parts_law hT
   have H1 := fun W => implCutContainer o l m d s 0 fn W (by omega) (by omega)
   have H2 := fun W => implContainerSizeYes s p W (by omega) hp
   have H3 := fun W => implCutContainer o l m d s tn z W (by omega) (by omega)
   have H4 := fun W => implAppendData o l m size d x1 U W (by omega) (by omega) (by omega)
   have H5 := fun W => implJoinContainers x3 x2 W (by omega) (by omega)
   rw [hp] at H1 H3
   rw [e1] at H1
   rw [hz] at H2
   rw [e2] at H3
   rw [e3] at H4
   rw [e4] at H5
   unfold optV at HI HS H1 H3 H4 H5
   simp only [Option.getD_some, Option.isSome_some] at HI HS H1 H3 H4 H5
   replace HI := Lib.hid HI
   replace HS := Lib.hid HS
   replace H1 := Lib.hid H1
   replace H2 := Lib.hid H2
   replace H3 := Lib.hid H3
   replace H4 := Lib.hid H4
   replace H5 := Lib.hid H5
   clear hT e1 e2 e3 e4 hp hz hf ht
   have qkb0 := kb2.out.c 0 _ rfl
   have qkb1 := kb2.out.c 1 _ rfl
   have qkb2 := kb2.out.c 2 _ rfl
   go_wp2_with fail
   refine (HI.out _).mono ?_
   rintro e w3 ⟨rfl, hb3⟩
   have hW3 := Lib.hid (hW2.out.trans (hb3.mono hW2.out.size))
   have kb3 := Lib.hid (kb2.out.below hb3)
   clear hb3 hW2 kb2 qkb0 qkb1 qkb2
   have qkb0 := kb3.out.c 0 _ rfl
   have qkb1 := kb3.out.c 1 _ rfl
   have qkb2 := kb3.out.c 2 _ rfl
   go_wp2_with fail
   refine (HS.out _).mono ?_
   rintro e w4 ⟨rfl, hb4⟩
   have hW4 := Lib.hid (hW3.out.trans (hb4.mono hW3.out.size))
   have kb4 := Lib.hid (kb3.out.below hb4)
   clear hb4 hW3 kb3 qkb0 qkb1 qkb2
   have qkb0 := kb4.out.c 0 _ rfl
   have qkb1 := kb4.out.c 1 _ rfl
   have qkb2 := kb4.out.c 2 _ rfl
   go_wp2_with fail
   refine (H1.out _).mono ?_
   rintro e w5 ⟨rfl, hb5⟩
   have hW5 := Lib.hid (hW4.out.trans (hb5.mono hW4.out.size))
   have kb5 := Lib.hid (kb4.out.below hb5)
   clear hb5 hW4 kb4 qkb0 qkb1 qkb2
   go_upto_region 9 with (fail)
   have q0 := kb5.out.c 0 _ rfl
   have q1 := kb5.out.c 1 _ rfl
   have q2 := kb5.out.c 2 _ rfl
   refine wp_region_cls (by kernel_rfl) (by kernel_rfl) ?_
   have c0 := clsCell q0
   have c1 := clsCell q1
   have c2 := clsCell q2
   repeat (go_big_quiet_step (first | (go_at_call 29; exact clsCall (H2.out _)) | (go_at_call 24; exact clsCall (H3.out _))))
   refine wpQuiet_nil ?_
   rintro w6 ⟨⟨w6, hb6⟩, rfl⟩
   clear c0 c1 c2 q0 q1 q2
   have hW6 := Lib.hid (hW5.out.trans (hb6.mono hW5.out.size))
   have kb6 := Lib.hid (kb5.out.below hb6)
   clear hb6 hW5 kb5
   have qkb0 := kb6.out.c 0 _ rfl
   have qkb1 := kb6.out.c 1 _ rfl
   have qkb2 := kb6.out.c 2 _ rfl
   go_wp2_with fail
   refine (H4.out _).mono ?_
   rintro e w7 ⟨rfl, hb7⟩
   have hW7 := Lib.hid (hW6.out.trans (hb7.mono hW6.out.size))
   have kb7 := Lib.hid (kb6.out.below hb7)
   clear hb7 hW6 kb6 qkb0 qkb1 qkb2
   go_wp2_with fail
   refine (H5.out _).mono ?_
   rintro e w8 ⟨rfl, hb8⟩
   have hW8 := Lib.hid (hW7.out.trans (hb8.mono hW7.out.size))
   have kb8 := Lib.hid (kb7.out.below hb8)
   clear hb8 hW7 kb7 
   go_wp2_with fail
   go_ret
   exact ⟨rfl, hW8.out⟩
 ·have gn := decide_eq_true (p := (1048576 : Int) < n) (by omega)
  have gn2 := decide_eq_true (p := 1048576 < n) (by omega)
  clear h
  go_enter Tryz.func10, Tryz.ntmps10
  go_wp2_with fail
  go_ret
  exact ⟨rfl, Below.refl _ _⟩

end Go.Proofs.YthlgpgaeajfchaaGreat
