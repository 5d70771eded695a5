/-
 The walk of the law FnDelete.
-/
import Derived.Test.YthlgpgaeajfchaaGreatQPropN
import Derived.Test.YthlgpgaeajfchaaGreatQMergeP
import Derived.Test.YthlgpgaeajfchaaGreatQReplImpl
import Derived.Test.YthlgpgaeajfchaaGreatQReplSpec
import Derived.Test.YthlgpgaeajfchaaGreatQImplData
import Derived.Test.YthlgpgaeajfchaaGreatQPropT
import Derived.Test.YthlgpgaeajfchaaGreatQSoData
import Derived.Test.YthlgpgaeajfchaaGreatQDrawsR
import Derived.Test.YthlgpgaeajfchaaGreatQTreeMem

namespace Go.Proofs.YthlgpgaeajfchaaGreat
open Go.RowKit
set_option linter.unusedVariables false
set_option linter.unusedSimpArgs false
set_option maxRecDepth 100000

set_option maxHeartbeats 4000000 in
theorem lawFnDelete (A : Option Addr) (n c : Nat) (bs : List UInt8) (w : World) (h : ByteRow w A n bs) (hnc : n ≤ c) :
  Calls Tryz.prog 9 #[.slice A n c] w fun e w' => e = .returned (.bool true) ∧ Below w.heap.size w w' := by
 have hle := h.le
 unfold maxLen at hle
 by_cases hn : n ≤ 1048576
 ·have gn := decide_eq_false (p := (1048576 : Int) < n) (by omega)
  have gn2 := decide_eq_false (p := 1048576 < n) (by omega)
  go_enter Tryz.func9, Tryz.ntmps9
  go_wp2_with fail
  refine (specDrawDeleteRange A n c bs _ h hnc).mono ?_
  rintro e w1 ⟨o, l, m, d, s, f, t, rfl, hd, hs, hf, ht, hb1⟩
  have kb2 := KBn.start w1 24 [.int .i64 o, .int .i64 l, .int .i64 m]
  have hW2 := hb1.alloc hb1.size (.cells #[.int .i64 o, .int .i64 l, .int .i64 m] 24)
  change KBn (w1.alloc (.cells #[.int .i64 o, .int .i64 l, .int .i64 m] 24)) _ _ at kb2
  clear hb1 h
  go_upto_region 4 with (fail)
  obtain ⟨G, hG⟩ : ∃ G, w1.heap.size = G := ⟨_, rfl⟩
  obtain ⟨w2, hw2⟩ : ∃ W, w1.alloc (.cells #[.int .i64 o, .int .i64 l, .int .i64 m] 24) = W := ⟨_, rfl⟩
  rw [hw2] at kb2 hW2 ⊢
  rw [hG] at kb2 ⊢
  clear hw2 hG
  replace kb2 := Lib.hid kb2
  replace hW2 := Lib.hid hW2
  have HI := fun W => implDeleteRange o l m d s f t W (by omega) (by omega)
  have HS := fun W => specDeleteRange o l m d s f t W (by omega) (by omega)
  have H1 := fun W => implContainerData o l m d s W (by omega) (by omega)
  have hs10 : s.size ≤ 1048576 := by omega
  rcases hT : replC o l m d.data.toList (contB s) f t [] 1 with _ | x
  ·rw [hT] at HI HS
   unfold optV at HI HS
   replace HI := Lib.hid HI
   replace HS := Lib.hid HS
   rcases hD : contD o l m d.data.toList (contB s) with _ | D
   ·rw [hD] at H1
    simp only [Option.getD_none, Option.isSome_none] at H1
    replace H1 := Lib.hid H1
    replace hf := Lib.hid hf
    replace ht := Lib.hid ht
    clear hT hD
    have qkb0 := kb2.out.c 0 _ rfl
    have qkb1 := kb2.out.c 1 _ rfl
    have qkb2 := kb2.out.c 2 _ rfl
    go_wp2_with fail
    refine (HI.out _).mono ?_
    rintro e w3 ⟨rfl, hb3⟩
    have hW3 := Lib.hid (hW2.out.trans (hb3.mono hW2.out.size))
    have kb3 := Lib.hid (kb2.out.below hb3)
    clear hb3 hW2 kb2 qkb0 qkb1 qkb2
    have qkb0 := kb3.out.c 0 _ rfl
    have qkb1 := kb3.out.c 1 _ rfl
    have qkb2 := kb3.out.c 2 _ rfl
    go_wp2_with fail
    refine (HS.out _).mono ?_
    rintro e w4 ⟨rfl, hb4⟩
    have hW4 := Lib.hid (hW3.out.trans (hb4.mono hW3.out.size))
    have kb4 := Lib.hid (kb3.out.below hb4)
    clear hb4 hW3 kb3 qkb0 qkb1 qkb2
    have qkb0 := kb4.out.c 0 _ rfl
    have qkb1 := kb4.out.c 1 _ rfl
    have qkb2 := kb4.out.c 2 _ rfl
    go_wp2_with fail
    refine (H1.out _).mono ?_
    rintro e w5 ⟨rfl, hb5⟩
    have hW5 := Lib.hid (hW4.out.trans (hb5.mono hW4.out.size))
    have kb5 := Lib.hid (kb4.out.below hb5)
    clear hb5 hW4 kb4 qkb0 qkb1 qkb2
    go_wp2_with fail
    go_ret
    exact ⟨rfl, hW5.out⟩
   ·rw [hD] at H1
    simp only [Option.getD_some, Option.isSome_some] at H1
    obtain ⟨Y, hY⟩ : ∃ Y, bsL D = Y := ⟨_, rfl⟩
    obtain ⟨z, hz⟩ : ∃ z, D.length = z := ⟨_, rfl⟩
    have hYs : Y.size = z := by rw [← hY, ← hz]; simp [bsL, ByteArray.size]
    rw [hY] at H1
    replace H1 := Lib.hid H1
    by_cases hr : 0 ≤ f ∧ f ≤ t ∧ t ≤ (z : Int)
    ·have HR := Lib.hid (fun W => lawsSoRange f t (z : Int) true W (btrue hr))
     rcases hbs : contB s with _ | p
     ·rw [hbs] at hD; cases hD
     ·have h40 : p.length = 40 := Classical.byContradiction (fun h => by
       rw [hbs] at hD hT
       obtain ⟨x, hx⟩ := delete_some hbs hD (by rw [hz]; exact hr) h
       rw [hT] at hx; cases hx)
      have HB := Lib.hid (fun W => implContainerBlocksYes s p 40 W hs10 hbs h40)
      replace hf := Lib.hid hf
      replace ht := Lib.hid ht
      clear hT hD hY hz hr hbs h40
      have qkb0 := kb2.out.c 0 _ rfl
      have qkb1 := kb2.out.c 1 _ rfl
      have qkb2 := kb2.out.c 2 _ rfl
      go_wp2_with fail
      refine (HI.out _).mono ?_
      rintro e w3 ⟨rfl, hb3⟩
      have hW3 := Lib.hid (hW2.out.trans (hb3.mono hW2.out.size))
      have kb3 := Lib.hid (kb2.out.below hb3)
      clear hb3 hW2 kb2 qkb0 qkb1 qkb2
      have qkb0 := kb3.out.c 0 _ rfl
      have qkb1 := kb3.out.c 1 _ rfl
      have qkb2 := kb3.out.c 2 _ rfl
      go_wp2_with fail
      refine (HS.out _).mono ?_
      rintro e w4 ⟨rfl, hb4⟩
      have hW4 := Lib.hid (hW3.out.trans (hb4.mono hW3.out.size))
      have kb4 := Lib.hid (kb3.out.below hb4)
      clear hb4 hW3 kb3 qkb0 qkb1 qkb2
      have qkb0 := kb4.out.c 0 _ rfl
      have qkb1 := kb4.out.c 1 _ rfl
      have qkb2 := kb4.out.c 2 _ rfl
      go_wp2_with fail
      refine (H1.out _).mono ?_
      rintro e w5 ⟨rfl, hb5⟩
      have hW5 := Lib.hid (hW4.out.trans (hb5.mono hW4.out.size))
      have kb5 := Lib.hid (kb4.out.below hb5)
      clear hb5 hW4 kb4 qkb0 qkb1 qkb2
      go_wp2_with fail
      refine (HR.out _).mono ?_
      rintro e w6 ⟨rfl, rfl⟩
      go_wp2_with fail
      refine (HB.out _).mono ?_
      rintro e w6 ⟨Ab, cb, rfl, _, hb6⟩
      have hW6 := Lib.hid (hW5.out.trans (hb6.mono hW5.out.size))
      have kb6 := Lib.hid (kb5.out.below hb6)
      clear hb6 hW5 kb5
      go_upto_region 12 with (fail)
      have q0 := kb6.out.c 0 _ rfl
      have q1 := kb6.out.c 1 _ rfl
      have q2 := kb6.out.c 2 _ rfl
      refine wp_region_cls (by kernel_rfl) (by kernel_rfl) ?_
      have c0 := clsCell q0
      have c1 := clsCell q1
      have c2 := clsCell q2
      repeat (go_big_quiet_step (first | (go_at_call 18; with_reducible exact clsCall (H1.out _))))
      refine wpQuiet_nil ?_
      rintro w7 ⟨⟨w7, hb7⟩, rfl⟩
      clear c0 c1 c2 q0 q1 q2
      have hW7 := Lib.hid (hW6.out.trans (hb7.mono hW6.out.size))
      clear hb7 hW6 kb6
      go_wp2_with fail
      go_ret
      exact ⟨rfl, hW7.out⟩
    ·have HR := Lib.hid (fun W => lawsSoRange f t (z : Int) false W (bfalse hr))
     replace hf := Lib.hid hf
     replace ht := Lib.hid ht
     clear hT hD hY hz hr
     have qkb0 := kb2.out.c 0 _ rfl
     have qkb1 := kb2.out.c 1 _ rfl
     have qkb2 := kb2.out.c 2 _ rfl
     go_wp2_with fail
     refine (HI.out _).mono ?_
     rintro e w3 ⟨rfl, hb3⟩
     have hW3 := Lib.hid (hW2.out.trans (hb3.mono hW2.out.size))
     have kb3 := Lib.hid (kb2.out.below hb3)
     clear hb3 hW2 kb2 qkb0 qkb1 qkb2
     have qkb0 := kb3.out.c 0 _ rfl
     have qkb1 := kb3.out.c 1 _ rfl
     have qkb2 := kb3.out.c 2 _ rfl
     go_wp2_with fail
     refine (HS.out _).mono ?_
     rintro e w4 ⟨rfl, hb4⟩
     have hW4 := Lib.hid (hW3.out.trans (hb4.mono hW3.out.size))
     have kb4 := Lib.hid (kb3.out.below hb4)
     clear hb4 hW3 kb3 qkb0 qkb1 qkb2
     have qkb0 := kb4.out.c 0 _ rfl
     have qkb1 := kb4.out.c 1 _ rfl
     have qkb2 := kb4.out.c 2 _ rfl
     go_wp2_with fail
     refine (H1.out _).mono ?_
     rintro e w5 ⟨rfl, hb5⟩
     have hW5 := Lib.hid (hW4.out.trans (hb5.mono hW4.out.size))
     have kb5 := Lib.hid (kb4.out.below hb5)
     clear hb5 hW4 kb4 qkb0 qkb1 qkb2
     go_wp2_with fail
     refine (HR.out _).mono ?_
     rintro e w6 ⟨rfl, rfl⟩
     go_wp2_with fail
     go_ret
     exact ⟨rfl, hW5.out⟩
  ·rw [hT] at HI HS
   obtain ⟨fn, tn, z, p, q, Do, Dx, rfl, rfl, hft, htz, hz2, _, hp, hq, hzp, hzq, s1, s2, e1, e2, e3⟩ := replace_law hT
   rw [hp, e1] at H1
   have hzq' : szs q = z - (tn - fn) := hzq
   unfold optV at HI HS
   simp only [Option.getD_some, Option.isSome_some] at HI HS
   replace HI := Lib.hid HI
   replace HS := Lib.hid HS
   rcases Do with _ | D
   ·have H3 := fun W => implContainerSizeYes x q W (by omega) hq
    have H4 := fun W => implContainerSizeYes s p W (by omega) hp
    obtain ⟨zx, hzx⟩ : ∃ u, szs q = u := ⟨_, rfl⟩
    rw [hzx] at H3 hzq'
    rw [hzp] at H4
    obtain ⟨k1, hk1⟩ : ∃ u : Int, (tn : Int) - fn = u := ⟨_, rfl⟩
    have wk1 : IntKind.i64.wrap k1 = k1 := IntWalk.i64_in _ (by omega)
    have ek2 : (z : Int) - k1 = zx := by omega
    have wzx : IntKind.i64.wrap (zx : Int) = zx := IntWalk.i64_in _ (by omega)
    simp only [Option.getD_none, Option.isSome_none] at H1
    replace H1 := Lib.hid H1
    replace H3 := Lib.hid H3
    replace H4 := Lib.hid H4
    clear e1 e2 e3 hT hp hq hzx hzp hzq hzq' hf ht hft htz hz2
    have qkb0 := kb2.out.c 0 _ rfl
    have qkb1 := kb2.out.c 1 _ rfl
    have qkb2 := kb2.out.c 2 _ rfl
    go_wp2_with fail
    refine (HI.out _).mono ?_
    rintro e w3 ⟨rfl, hb3⟩
    have hW3 := Lib.hid (hW2.out.trans (hb3.mono hW2.out.size))
    have kb3 := Lib.hid (kb2.out.below hb3)
    clear hb3 hW2 kb2 qkb0 qkb1 qkb2
    have qkb0 := kb3.out.c 0 _ rfl
    have qkb1 := kb3.out.c 1 _ rfl
    have qkb2 := kb3.out.c 2 _ rfl
    go_wp2_with fail
    refine (HS.out _).mono ?_
    rintro e w4 ⟨rfl, hb4⟩
    have hW4 := Lib.hid (hW3.out.trans (hb4.mono hW3.out.size))
    have kb4 := Lib.hid (kb3.out.below hb4)
    clear hb4 hW3 kb3 qkb0 qkb1 qkb2
    have qkb0 := kb4.out.c 0 _ rfl
    have qkb1 := kb4.out.c 1 _ rfl
    have qkb2 := kb4.out.c 2 _ rfl
    go_wp2_with fail
    refine (H1.out _).mono ?_
    rintro e w5 ⟨rfl, hb5⟩
    have hW5 := Lib.hid (hW4.out.trans (hb5.mono hW4.out.size))
    have kb5 := Lib.hid (kb4.out.below hb5)
    clear hb5 hW4 kb4 qkb0 qkb1 qkb2
    go_wp2_with fail
    refine (H3.out _).mono ?_
    rintro e w6 ⟨rfl, hb6⟩
    have hW6 := Lib.hid (hW5.out.trans (hb6.mono hW5.out.size))
    have kb6 := Lib.hid (kb5.out.below hb6)
    clear hb6 hW5 kb5 
    go_wp2_with fail
    refine (H4.out _).mono ?_
    rintro e w7 ⟨rfl, hb7⟩
    have hW7 := Lib.hid (hW6.out.trans (hb7.mono hW6.out.size))
    have kb7 := Lib.hid (kb6.out.below hb7)
    clear hb7 hW6 kb6 
    go_wp2_with fail
    go_ret
    exact ⟨rfl, hW7.out⟩
   ·obtain ⟨hDl, hDx⟩ := e3 D rfl
    have H5 := fun W => lawsSoData o l m d x W (by omega) (by omega)
    rw [hq, e2, hDx] at H5
    have e0 : D.take fn ++ [] ++ D.drop tn = D.take fn ++ D.drop tn := by simp
    rw [e0] at H5
    simp only [Option.getD_some, Option.isSome_some] at H1 H5
    obtain ⟨Y, hY⟩ : ∃ Y, bsL D = Y := ⟨_, rfl⟩
    have hYs : Y.size = z := by rw [← hY, ← hDl]; simp [bsL, ByteArray.size]
    obtain ⟨Y1, hY1⟩ : ∃ y, Y.extract 0 fn = y := ⟨_, rfl⟩
    obtain ⟨Y3, hY3⟩ : ∃ y, Y.extract tn z = y := ⟨_, rfl⟩
    have b1 : Y1 = bsL (D.take fn) := by rw [← hY1, ← hY, bsL_cut]; try simp
    have b3 : Y3 = bsL (D.drop tn) := by
     rw [← hY3, ← hY, bsL_cut, List.take_of_length_le]
     rw [List.length_drop]; omega
    obtain ⟨X, hX⟩ : ∃ X, Y1 ++ Y3 = X := ⟨_, rfl⟩
    have hX2 : bsL (D.take fn ++ D.drop tn) = X := by rw [← hX, b1, b3, ← bsL_append]
    rw [hX2] at H5
    rw [hY] at H1
    have l1 : Y1.size ≤ 2000 := by rw [b1]; simp [bsL, ByteArray.size]; omega
    have l3 : Y3.size ≤ 2000 := by rw [b3]; simp [bsL, ByteArray.size]; omega
    have hc1 : Y1.size + Y3.size ≤ 100000 := by omega
    have i1 : (0 : Int) ≤ fn := by omega
    have i2 : (fn : Int) ≤ z := by omega
    have i3 : (0 : Int) ≤ tn := by omega
    have i4 : (tn : Int) ≤ z := by omega
    have HR := Lib.hid (fun W => lawsSoRange fn tn (z : Int) true W (btrue (by omega)))
    obtain ⟨n2, hn2⟩ : ∃ n, p.length = n := ⟨_, rfl⟩
    have HB := Lib.hid (fun W => implContainerBlocksYes s p n2 W hs10 hp hn2)
    replace H1 := Lib.hid H1
    replace H5 := Lib.hid H5
    clear e1 e2 e3 hT hp hq hzp hzq hzq' hf ht hft htz hz2 hDl hDx hY b1 b3 hX2 hn2 e0
    by_cases h40 : n2 = 40
    ·subst h40
     have qkb0 := kb2.out.c 0 _ rfl
     have qkb1 := kb2.out.c 1 _ rfl
     have qkb2 := kb2.out.c 2 _ rfl
     go_wp2_with fail
     refine (HI.out _).mono ?_
     rintro e w3 ⟨rfl, hb3⟩
     have hW3 := Lib.hid (hW2.out.trans (hb3.mono hW2.out.size))
     have kb3 := Lib.hid (kb2.out.below hb3)
     clear hb3 hW2 kb2 qkb0 qkb1 qkb2
     have qkb0 := kb3.out.c 0 _ rfl
     have qkb1 := kb3.out.c 1 _ rfl
     have qkb2 := kb3.out.c 2 _ rfl
     go_wp2_with fail
     refine (HS.out _).mono ?_
     rintro e w4 ⟨rfl, hb4⟩
     have hW4 := Lib.hid (hW3.out.trans (hb4.mono hW3.out.size))
     have kb4 := Lib.hid (kb3.out.below hb4)
     clear hb4 hW3 kb3 qkb0 qkb1 qkb2
     have qkb0 := kb4.out.c 0 _ rfl
     have qkb1 := kb4.out.c 1 _ rfl
     have qkb2 := kb4.out.c 2 _ rfl
     go_wp2_with fail
     refine (H1.out _).mono ?_
     rintro e w5 ⟨rfl, hb5⟩
     have hW5 := Lib.hid (hW4.out.trans (hb5.mono hW4.out.size))
     have kb5 := Lib.hid (kb4.out.below hb5)
     clear hb5 hW4 kb4 qkb0 qkb1 qkb2
     go_wp2_with fail
     refine (HR.out _).mono ?_
     rintro e w6 ⟨rfl, rfl⟩
     go_wp2_with fail
     refine (HB.out _).mono ?_
     rintro e w6 ⟨Ab, cb, rfl, _, hb6⟩
     have hW6 := Lib.hid (hW5.out.trans (hb6.mono hW5.out.size))
     have kb6 := Lib.hid (kb5.out.below hb6)
     clear hb6 hW5 kb5
     go_upto_region 12 with (fail)
     have q0 := kb6.out.c 0 _ rfl
     have q1 := kb6.out.c 1 _ rfl
     have q2 := kb6.out.c 2 _ rfl
     refine wp_region_cls (by kernel_rfl) (by kernel_rfl) ?_
     have c0 := clsCell q0
     have c1 := clsCell q1
     have c2 := clsCell q2
     repeat (go_big_quiet_step (first | (go_at_call 18; with_reducible exact clsCall (H5.out _))))
     refine wpQuiet_nil ?_
     rintro w7 ⟨⟨w7, hb7⟩, rfl⟩
     clear c0 c1 c2 q0 q1 q2
     have hW7 := Lib.hid (hW6.out.trans (hb7.mono hW6.out.size))
     clear hb7 hW6 kb6
     go_wp2_with fail
     go_ret
     exact ⟨rfl, hW7.out⟩
    ·have g40 : ((n2 : Int) == 40) = false := by rw [beq_eq_false_iff_ne]; omega
     have g40b : (n2 == 40) = false := by rw [beq_eq_false_iff_ne]; omega
     have g40c : decide ((n2 : Int) = 40) = false := decide_eq_false (by omega)
     have g40d : decide (n2 = 40) = false := decide_eq_false (by omega)
     have qkb0 := kb2.out.c 0 _ rfl
     have qkb1 := kb2.out.c 1 _ rfl
     have qkb2 := kb2.out.c 2 _ rfl
     go_wp2_with fail
     refine (HI.out _).mono ?_
     rintro e w3 ⟨rfl, hb3⟩
     have hW3 := Lib.hid (hW2.out.trans (hb3.mono hW2.out.size))
     have kb3 := Lib.hid (kb2.out.below hb3)
     clear hb3 hW2 kb2 qkb0 qkb1 qkb2
     have qkb0 := kb3.out.c 0 _ rfl
     have qkb1 := kb3.out.c 1 _ rfl
     have qkb2 := kb3.out.c 2 _ rfl
     go_wp2_with fail
     refine (HS.out _).mono ?_
     rintro e w4 ⟨rfl, hb4⟩
     have hW4 := Lib.hid (hW3.out.trans (hb4.mono hW3.out.size))
     have kb4 := Lib.hid (kb3.out.below hb4)
     clear hb4 hW3 kb3 qkb0 qkb1 qkb2
     have qkb0 := kb4.out.c 0 _ rfl
     have qkb1 := kb4.out.c 1 _ rfl
     have qkb2 := kb4.out.c 2 _ rfl
     go_wp2_with fail
     refine (H1.out _).mono ?_
     rintro e w5 ⟨rfl, hb5⟩
     have hW5 := Lib.hid (hW4.out.trans (hb5.mono hW4.out.size))
     have kb5 := Lib.hid (kb4.out.below hb5)
     clear hb5 hW4 kb4 qkb0 qkb1 qkb2
     go_wp2_with fail
     refine (HR.out _).mono ?_
     rintro e w6 ⟨rfl, rfl⟩
     go_wp2_with fail
     refine (HB.out _).mono ?_
     rintro e w6 ⟨Ab, cb, rfl, _, hb6⟩
     have hW6 := Lib.hid (hW5.out.trans (hb6.mono hW5.out.size))
     have kb6 := Lib.hid (kb5.out.below hb6)
     clear hb6 hW5 kb5
     go_upto_region 12 with (fail)
     have q0 := kb6.out.c 0 _ rfl
     have q1 := kb6.out.c 1 _ rfl
     have q2 := kb6.out.c 2 _ rfl
     refine wp_region_cls (by kernel_rfl) (by kernel_rfl) ?_
     have c0 := clsCell q0
     have c1 := clsCell q1
     have c2 := clsCell q2
     repeat (go_big_quiet_step (first | (go_at_call 18; with_reducible exact clsCall (H5.out _))))
     refine wpQuiet_nil ?_
     rintro w7 ⟨⟨w7, hb7⟩, rfl⟩
     clear c0 c1 c2 q0 q1 q2
     have hW7 := Lib.hid (hW6.out.trans (hb7.mono hW6.out.size))
     clear hb7 hW6 kb6
     go_wp2_with fail
     go_ret
     exact ⟨rfl, hW7.out⟩
 ·have gn := decide_eq_true (p := (1048576 : Int) < n) (by omega)
  have gn2 := decide_eq_true (p := 1048576 < n) (by omega)
  clear h
  go_enter Tryz.func9, Tryz.ntmps9
  go_wp2_with fail
  go_ret
  exact ⟨rfl, Below.refl _ _⟩

end Go.Proofs.YthlgpgaeajfchaaGreat
