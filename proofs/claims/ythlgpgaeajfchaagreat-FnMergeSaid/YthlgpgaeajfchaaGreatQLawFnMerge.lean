/-
 The walk of the law FnMerge.
-/
import Derived.Test.YthlgpgaeajfchaaGreatQPropM
import Derived.Test.YthlgpgaeajfchaaGreatQMergeP
import Derived.Test.YthlgpgaeajfchaaGreatQMergeImpl
import Derived.Test.YthlgpgaeajfchaaGreatQMergeSpec
import Derived.Test.YthlgpgaeajfchaaGreatQSoData
import Derived.Test.YthlgpgaeajfchaaGreatQPropR
import Derived.Test.YthlgpgaeajfchaaGreatQDrawsS
import Derived.Test.YthlgpgaeajfchaaGreatQTreeMem

namespace Go.Proofs.YthlgpgaeajfchaaGreat
open Go.RowKit
set_option linter.unusedVariables false
set_option linter.unusedSimpArgs false
set_option maxRecDepth 100000

set_option maxHeartbeats 1000000 in
theorem lawFnMerge (A : Option Addr) (n c : Nat) (bs : List UInt8) (w : World) (h : ByteRow w A n bs) (hnc : n ≤ c) :
  Calls Tryz.prog 4 #[.slice A n c] w fun e w' => e = .returned (.bool true) ∧ Below w.heap.size w w' := by
 have hle := h.le
 unfold maxLen at hle
 by_cases hn : n ≤ 1048576
 ·have gn := decide_eq_false (p := (1048576 : Int) < n) (by omega)
  have gn2 := decide_eq_false (p := 1048576 < n) (by omega)
  go_enter Tryz.func4, Tryz.ntmps4
  go_wp2_with fail
  refine (specDrawMergeBlocks A n c bs _ h hnc).mono ?_
  rintro e w1 ⟨o, l, m, d, s, size, rfl, hd, hs, hsr, hb1⟩
  have kb2 := KBn.start w1 24 [.int .i64 o, .int .i64 l, .int .i64 m]
  have hW2 := hb1.alloc hb1.size (.cells #[.int .i64 o, .int .i64 l, .int .i64 m] 24)
  change KBn (w1.alloc (.cells #[.int .i64 o, .int .i64 l, .int .i64 m] 24)) _ _ at kb2
  clear hb1 h
  go_upto_region 4 with (fail)
  obtain ⟨G, hG⟩ : ∃ G, w1.heap.size = G := ⟨_, rfl⟩
  obtain ⟨w2, hw2⟩ : ∃ W, w1.alloc (.cells #[.int .i64 o, .int .i64 l, .int .i64 m] 24) = W := ⟨_, rfl⟩
  rw [hw2] at kb2 hW2 ⊢
  rw [hG] at kb2 ⊢
  clear hw2 hG
  replace kb2 := Lib.hid kb2
  replace hW2 := Lib.hid hW2
  have HI := fun W => implMergeBlocks o l m d s size W (by omega) (by omega)
  have HS := fun W => specMergeBlocks o l m d s size W (by omega) (by omega)
  replace hsr := Lib.hid hsr
  rcases hT : mergeC o l m d.data.toList (contB s) size with _ | x
  ·rw [hT] at HI HS
   unfold optV at HI HS
   replace HI := Lib.hid HI
   replace HS := Lib.hid HS
   clear hT
   have qkb0 := kb2.out.c 0 _ rfl
   have qkb1 := kb2.out.c 1 _ rfl
   have qkb2 := kb2.out.c 2 _ rfl
   go_wp2_with fail
   refine (HI.out _).mono ?_
   rintro e w3 ⟨rfl, hb3⟩
   have hW3 := Lib.hid (hW2.out.trans (hb3.mono hW2.out.size))
   have kb3 := Lib.hid (kb2.out.below hb3)
   clear hb3 hW2 kb2 qkb0 qkb1 qkb2
   have qkb0 := kb3.out.c 0 _ rfl
   have qkb1 := kb3.out.c 1 _ rfl
   have qkb2 := kb3.out.c 2 _ rfl
   go_wp2_with fail
   refine (HS.out _).mono ?_
   rintro e w4 ⟨rfl, hb4⟩
   have hW4 := Lib.hid (hW3.out.trans (hb4.mono hW3.out.size))
   have kb4 := Lib.hid (kb3.out.below hb4)
   clear hb4 hW3 kb3 qkb0 qkb1 qkb2
   go_wp2_with fail
   go_ret
   exact ⟨rfl, hW4.out⟩
  ·rw [hT] at HI HS
   obtain ⟨sz, p, q, D, rfl, hs64, hp, hq, e1, e2, e3, hno, hle, h40, hok, s1, s2⟩ := merge_law hT
   obtain ⟨np, hnp⟩ : ∃ n, p.length = n := ⟨_, rfl⟩
   obtain ⟨nq', hnq⟩ : ∃ n, q.length = n := ⟨_, rfl⟩
   rw [hnp, hnq] at hle
   rw [hnp] at h40
   have HB1 := Lib.hid (fun W => implContainerBlocksYes x q nq' W (by omega) hq hnq)
   have HB2 := Lib.hid (fun W => implContainerBlocksYes s p np W (by omega) hp hnp)
   have H1 := fun W => implMergeBlocks o l m d x sz W (by omega) (by omega)
   have H2 := fun W => lawsSoData o l m d x W (by omega) (by omega)
   have H3 := fun W => lawsSoData o l m d s W (by omega) (by omega)
   rw [hq, e3] at H1
   rw [hq, e2] at H2
   rw [hp, e1] at H3
   unfold optV at HI HS H1
   simp only [Option.getD_some, Option.isSome_some] at HI HS H1 H2 H3
   obtain ⟨Y, hY⟩ : ∃ Y, bsL D = Y := ⟨_, rfl⟩
   rw [hY] at H2 H3
   have gle := decide_eq_true (p := (nq' : Int) ≤ (np : Int)) (by omega)
   have gle2 := decide_eq_true (p := nq' ≤ np) hle
   replace HI := Lib.hid HI
   replace HS := Lib.hid HS
   replace H1 := Lib.hid H1
   replace H2 := Lib.hid H2
   replace H3 := Lib.hid H3
   replace hno := Lib.hid hno
   replace hok := Lib.hid hok
   replace hnq := Lib.hid hnq
   clear hT hp hq e1 e2 e3 hY hnp
   have qkb0 := kb2.out.c 0 _ rfl
   have qkb1 := kb2.out.c 1 _ rfl
   have qkb2 := kb2.out.c 2 _ rfl
   go_wp2_with fail
   refine (HI.out _).mono ?_
   rintro e w3 ⟨rfl, hb3⟩
   have hW3 := Lib.hid (hW2.out.trans (hb3.mono hW2.out.size))
   have kb3 := Lib.hid (kb2.out.below hb3)
   clear hb3 hW2 kb2 qkb0 qkb1 qkb2
   have qkb0 := kb3.out.c 0 _ rfl
   have qkb1 := kb3.out.c 1 _ rfl
   have qkb2 := kb3.out.c 2 _ rfl
   go_wp2_with fail
   refine (HS.out _).mono ?_
   rintro e w4 ⟨rfl, hb4⟩
   have hW4 := Lib.hid (hW3.out.trans (hb4.mono hW3.out.size))
   have kb4 := Lib.hid (kb3.out.below hb4)
   clear hb4 hW3 kb3 qkb0 qkb1 qkb2
   go_wp2_with fail
   refine (HB1.out _).mono ?_
   rintro e w5 ⟨Ab, cb, rfl, hob, hb5⟩
   have hW5 := Lib.hid (hW4.out.trans (hb5.mono hW4.out.size))
   have kb5 := Lib.hid (kb4.out.below hb5)
   have hr5 := Lib.hid (Row.of_own hob)
   clear hb5 hW4 kb4 hob
   go_wp2_with fail
   refine (HB2.out _).mono ?_
   rintro e w6 ⟨Ac, cc, rfl, _, hb6⟩
   have hW6 := Lib.hid (hW5.out.trans (hb6.mono hW5.out.size))
   have kb6 := Lib.hid (kb5.out.below hb6)
   have hr6 := Lib.hid (Row.more (Row.below hr5.out hb6 (Nat.le_refl _)) hb6.size)
   clear hb6 hW5 kb5 hr5
   go_wp2_with fail
   go_loopw [15] (fun v wr => ∃ j : Nat, v = .int .i64 (j : Int) ∧ 1 ≤ j ∧ j ≤ nq' + 1 ∧ Hid (Below w6.heap.size w6 wr)) (fun v _ => nq' + 1 - (intOf v).toNat)
   case atStart => exact ⟨1, rfl, Nat.le_refl _, by omega, Lib.hid (Below.refl _ _)⟩
   case round =>
    obtain ⟨j, rfl, hj1, hj2, hbel⟩ := hrel
    by_cases hlt : j < nq'
    ·obtain ⟨k, hk⟩ : ∃ k, k + 1 = j := ⟨j - 1, by omega⟩
     have ek : (j : Int) - 1 = k := by omega
     obtain ⟨a, ha⟩ : ∃ b, q[k]? = some b := ⟨_, List.getElem?_eq_getElem (by rw [hnq.out]; omega)⟩
     obtain ⟨b, hb⟩ : ∃ b, q[j]? = some b := ⟨_, List.getElem?_eq_getElem (by rw [hnq.out]; exact hlt)⟩
     have hrb := hr6.out.below hbel.out (Nat.le_refl _)
     obtain ⟨g, off, rfl, hg, a0, a1, a2, a3⟩ := hrb.blk (num := a.num) (raw := a.raw) (size := a.size) (body := a.body) (k := k) (by omega) ha
     obtain ⟨g', off', e', hg', b0, b1, b2, b3⟩ := hrb.blk (num := b.num) (raw := b.raw) (size := b.size) (body := b.body) hlt hb
     injection e' with e'
     injection e' with e1 e2
     subst e1 e2
     have hn := NoFit_get q k a b hno.out ha (by rw [hk]; exact hb)
     have ha64 := (hok.out a (List.mem_of_getElem? ha)).2.1
     have hb64 := (hok.out b (List.mem_of_getElem? hb)).2.1
     obtain ⟨x1, hx1⟩ : ∃ x : Nat, a.size = x := ⟨_, rfl⟩
     obtain ⟨x2, hx2⟩ : ∃ x : Nat, b.size = x := ⟨_, rfl⟩
     rw [hx1] at a2 hn ha64
     rw [hx2] at b2 hn hb64
     obtain ⟨tt, htt⟩ : ∃ z : Nat, (x1 : Int) + x2 = z := ⟨x1 + x2, by omega⟩
     have wtt : IntKind.i64.wrap (tt : Int) = tt := IntWalk.i64_in _ (by omega)
     have g1 : decide ((tt : Int) ≤ (sz : Int)) = false := decide_eq_false (by omega)
     have g2 : decide (tt ≤ sz) = false := decide_eq_false (by omega)
     have i1 : (0 : Int) ≤ k := by omega
     have i2 : (k : Int) < nq' := by omega
     have i3 : (0 : Int) ≤ j := by omega
     have i4 : (j : Int) < nq' := by omega
     clear hrb ha hb hx1 hx2 hn a0 a1 a3 b0 b1 b3 hk
     go_upto_region 13 with (fail)
     go_quiet (fail)
     go_wp2_with fail
     go_roundw
     case rel => exact ⟨j + 1, by go_num, by omega, by omega, Lib.hid (below_drewN hbel.out _)⟩
     case measure => simp [intOf]; omega
    ·have hji : ¬ ((j : Int) < nq') := by omega
     have hW7 := Lib.hid (hW6.out.trans (hbel.out.mono hW6.out.size))
     have kb7 := Lib.hid (kb6.out.below hbel.out)
     clear hbel hr6
     have qkb0 := kb7.out.c 0 _ rfl
     have qkb1 := kb7.out.c 1 _ rfl
     have qkb2 := kb7.out.c 2 _ rfl
     go_wp2_with fail
     refine (H1.out _).mono ?_
     rintro e w8 ⟨rfl, hb8⟩
     have hW8 := Lib.hid (hW7.out.trans (hb8.mono hW7.out.size))
     have kb8 := Lib.hid (kb7.out.below hb8)
     clear hb8 hW7 kb7 qkb0 qkb1 qkb2
     go_upto_region 16 with (fail)
     have q0 := kb8.out.c 0 _ rfl
     have q1 := kb8.out.c 1 _ rfl
     have q2 := kb8.out.c 2 _ rfl
     refine wp_region_cls (by kernel_rfl) (by kernel_rfl) ?_
     have c0 := clsCell q0
     have c1 := clsCell q1
     have c2 := clsCell q2
     repeat (go_big_quiet_step (first | (go_at_call 18; with_reducible exact clsCall (H2.out _)) | (go_at_call 18; with_reducible exact clsCall (H3.out _))))
     refine wpQuiet_nil ?_
     rintro w9 ⟨⟨w9, hb9⟩, rfl⟩
     clear c0 c1 c2 q0 q1 q2
     have hW9 := Lib.hid (hW8.out.trans (hb9.mono hW8.out.size))
     clear hb9 hW8 kb8
     go_wp2_with fail
     go_ret
     exact ⟨rfl, hW9.out⟩
 ·have gn := decide_eq_true (p := (1048576 : Int) < n) (by omega)
  have gn2 := decide_eq_true (p := 1048576 < n) (by omega)
  clear h
  go_enter Tryz.func4, Tryz.ntmps4
  go_wp2_with fail
  go_ret
  exact ⟨rfl, Below.refl _ _⟩

end Go.Proofs.YthlgpgaeajfchaaGreat
