/-
 The walk of the law FnReplace.
-/
import Derived.Test.YthlgpgaeajfchaaGreatQMergeP
import Derived.Test.YthlgpgaeajfchaaGreatQReplImpl
import Derived.Test.YthlgpgaeajfchaaGreatQReplSpec
import Derived.Test.YthlgpgaeajfchaaGreatQImplData
import Derived.Test.YthlgpgaeajfchaaGreatQPropT
import Derived.Test.YthlgpgaeajfchaaGreatQDrawsP
import Derived.Test.YthlgpgaeajfchaaGreatQTreeMem

namespace Go.Proofs.YthlgpgaeajfchaaGreat
open Go.RowKit
set_option linter.unusedVariables false
set_option linter.unusedSimpArgs false
set_option maxRecDepth 100000

set_option maxHeartbeats 4000000 in
theorem lawFnReplace (A : Option Addr) (n c : Nat) (bs : List UInt8) (w : World) (h : ByteRow w A n bs) (hnc : n ≤ c) :
  Calls Tryz.prog 7 #[.slice A n c] w fun e w' => e = .returned (.bool true) ∧ Below w.heap.size w w' := by
 have hle := h.le
 unfold maxLen at hle
 by_cases hn : n ≤ 1048576
 ·have gn := decide_eq_false (p := (1048576 : Int) < n) (by omega)
  have gn2 := decide_eq_false (p := 1048576 < n) (by omega)
  go_enter Tryz.func7, Tryz.ntmps7
  go_wp2_with fail
  refine (specDrawReplaceRange A n c bs _ h hnc).mono ?_
  rintro e w1 ⟨o, l, m, d, s, f, t, U, size, rfl, hd, hs, hf, ht, hU, hsr, hb1⟩
  have kb2 := KBn.start w1 24 [.int .i64 o, .int .i64 l, .int .i64 m]
  have hW2 := hb1.alloc hb1.size (.cells #[.int .i64 o, .int .i64 l, .int .i64 m] 24)
  change KBn (w1.alloc (.cells #[.int .i64 o, .int .i64 l, .int .i64 m] 24)) _ _ at kb2
  clear hb1 h
  go_upto_region 4 with (fail)
  obtain ⟨G, hG⟩ : ∃ G, w1.heap.size = G := ⟨_, rfl⟩
  obtain ⟨w2, hw2⟩ : ∃ W, w1.alloc (.cells #[.int .i64 o, .int .i64 l, .int .i64 m] 24) = W := ⟨_, rfl⟩
  rw [hw2] at kb2 hW2 ⊢
  rw [hG] at kb2 ⊢
  clear hw2 hG
  replace kb2 := Lib.hid kb2
  replace hW2 := Lib.hid hW2
  have HI := fun W => implReplaceRange o l m d s U f t size W (by omega) (by omega) (by omega)
  have HS := fun W => specReplaceRange o l m d s U f t size W (by omega) (by omega) (by omega)
  replace hsr := Lib.hid hsr
  rcases hT : replC o l m d.data.toList (contB s) f t U.data.toList size with _ | x
  ·rw [hT] at HI HS
   unfold optV at HI HS
   replace hf := Lib.hid hf
   replace ht := Lib.hid ht
   replace HI := Lib.hid HI
   replace HS := Lib.hid HS
   clear hT
   have qkb0 := kb2.out.c 0 _ rfl
   have qkb1 := kb2.out.c 1 _ rfl
   have qkb2 := kb2.out.c 2 _ rfl
   go_wp2_with fail
   refine (HI.out _).mono ?_
   rintro e w3 ⟨rfl, hb3⟩
   have hW3 := Lib.hid (hW2.out.trans (hb3.mono hW2.out.size))
   have kb3 := Lib.hid (kb2.out.below hb3)
   clear hb3 hW2 kb2 qkb0 qkb1 qkb2
   have qkb0 := kb3.out.c 0 _ rfl
   have qkb1 := kb3.out.c 1 _ rfl
   have qkb2 := kb3.out.c 2 _ rfl
   go_wp2_with fail
   refine (HS.out _).mono ?_
   rintro e w4 ⟨rfl, hb4⟩
   have hW4 := Lib.hid (hW3.out.trans (hb4.mono hW3.out.size))
   have kb4 := Lib.hid (kb3.out.below hb4)
   clear hb4 hW3 kb3 qkb0 qkb1 qkb2
   go_wp2_with fail
   go_ret
   exact ⟨rfl, hW4.out⟩
  ·rw [hT] at HI HS
   obtain ⟨fn, tn, z, p, q, Do, Dx, rfl, rfl, hft, htz, hz2, hL, hp, hq, hzp, hzq, s1, s2, e1, e2, e3⟩ := replace_law hT
   have hUl : U.data.toList.length = U.size := by simp
   rw [hUl] at hzq hL
   have H1 := fun W => implContainerData o l m d s W (by omega) (by omega)
   have H2 := fun W => implContainerData o l m d x W (by omega) (by omega)
   rw [hp, e1] at H1
   rw [hq, e2] at H2
   unfold optV at HI HS
   simp only [Option.getD_some, Option.isSome_some] at HI HS
   replace HI := Lib.hid HI
   replace HS := Lib.hid HS
   rcases Do with _ | D
   ·have H3 := fun W => implContainerSizeYes x q W (by omega) hq
    have H4 := fun W => implContainerSizeYes s p W (by omega) hp
    obtain ⟨b3, hb3⟩ : ∃ b, Dx.isSome = b := ⟨_, rfl⟩
    obtain ⟨Y3, hY3⟩ : ∃ Y, bsL (Dx.getD []) = Y := ⟨_, rfl⟩
    rw [hb3, hY3] at H2
    obtain ⟨zx, hzx⟩ : ∃ u, szs q = u := ⟨_, rfl⟩
    rw [hzx] at H3 hzq
    rw [hzp] at H4
    obtain ⟨ul, hul⟩ : ∃ u, U.size = u := ⟨_, rfl⟩
    rw [hul] at hzq hL
    obtain ⟨k1, hk1⟩ : ∃ u : Int, (tn : Int) - fn = u := ⟨_, rfl⟩
    have wk1 : IntKind.i64.wrap k1 = k1 := IntWalk.i64_in _ (by omega)
    obtain ⟨k2, hk2⟩ : ∃ u : Int, (z : Int) - k1 = u := ⟨_, rfl⟩
    have wk2 : IntKind.i64.wrap k2 = k2 := IntWalk.i64_in _ (by omega)
    have ek3 : k2 + (ul : Int) = zx := by omega
    have wzx : IntKind.i64.wrap (zx : Int) = zx := IntWalk.i64_in _ (by omega)
    simp only [Option.getD_none, Option.isSome_none] at H1
    replace H1 := Lib.hid H1
    replace H2 := Lib.hid H2
    replace H3 := Lib.hid H3
    replace H4 := Lib.hid H4
    clear e1 e2 e3 hT hp hq hb3 hY3 hzx hzp hzq hf ht hft htz hz2
    have qkb0 := kb2.out.c 0 _ rfl
    have qkb1 := kb2.out.c 1 _ rfl
    have qkb2 := kb2.out.c 2 _ rfl
    go_wp2_with fail
    refine (HI.out _).mono ?_
    rintro e w3 ⟨rfl, hb3⟩
    have hW3 := Lib.hid (hW2.out.trans (hb3.mono hW2.out.size))
    have kb3 := Lib.hid (kb2.out.below hb3)
    clear hb3 hW2 kb2 qkb0 qkb1 qkb2
    have qkb0 := kb3.out.c 0 _ rfl
    have qkb1 := kb3.out.c 1 _ rfl
    have qkb2 := kb3.out.c 2 _ rfl
    go_wp2_with fail
    refine (HS.out _).mono ?_
    rintro e w4 ⟨rfl, hb4⟩
    have hW4 := Lib.hid (hW3.out.trans (hb4.mono hW3.out.size))
    have kb4 := Lib.hid (kb3.out.below hb4)
    clear hb4 hW3 kb3 qkb0 qkb1 qkb2
    have qkb0 := kb4.out.c 0 _ rfl
    have qkb1 := kb4.out.c 1 _ rfl
    have qkb2 := kb4.out.c 2 _ rfl
    go_wp2_with fail
    refine (H1.out _).mono ?_
    rintro e w5 ⟨rfl, hb5⟩
    have hW5 := Lib.hid (hW4.out.trans (hb5.mono hW4.out.size))
    have kb5 := Lib.hid (kb4.out.below hb5)
    clear hb5 hW4 kb4 qkb0 qkb1 qkb2
    have qkb0 := kb5.out.c 0 _ rfl
    have qkb1 := kb5.out.c 1 _ rfl
    have qkb2 := kb5.out.c 2 _ rfl
    go_wp2_with fail
    refine (H2.out _).mono ?_
    rintro e w6 ⟨rfl, hb6⟩
    have hW6 := Lib.hid (hW5.out.trans (hb6.mono hW5.out.size))
    have kb6 := Lib.hid (kb5.out.below hb6)
    clear hb6 hW5 kb5 qkb0 qkb1 qkb2
    go_wp2_with fail
    refine (H3.out _).mono ?_
    rintro e w7 ⟨rfl, hb7⟩
    have hW7 := Lib.hid (hW6.out.trans (hb7.mono hW6.out.size))
    have kb7 := Lib.hid (kb6.out.below hb7)
    clear hb7 hW6 kb6 
    go_wp2_with fail
    refine (H4.out _).mono ?_
    rintro e w8 ⟨rfl, hb8⟩
    have hW8 := Lib.hid (hW7.out.trans (hb8.mono hW7.out.size))
    have kb8 := Lib.hid (kb7.out.below hb8)
    clear hb8 hW7 kb7 
    go_wp2_with fail
    go_ret
    exact ⟨rfl, hW8.out⟩
   ·obtain ⟨hDl, hDx⟩ := e3 D rfl
    rw [hDx] at H2
    simp only [Option.getD_some, Option.isSome_some] at H1 H2
    obtain ⟨Y, hY⟩ : ∃ Y, bsL D = Y := ⟨_, rfl⟩
    have hYs : Y.size = z := by rw [← hY, ← hDl]; simp [bsL, ByteArray.size]
    obtain ⟨Y1, hY1⟩ : ∃ y, Y.extract 0 fn = y := ⟨_, rfl⟩
    obtain ⟨Y3, hY3⟩ : ∃ y, Y.extract tn Y.size = y := ⟨_, rfl⟩
    have b1 : Y1 = bsL (D.take fn) := by rw [← hY1, ← hY, bsL_cut]; try simp
    have b3 : Y3 = bsL (D.drop tn) := by
     rw [← hY3, hYs, ← hY, bsL_cut, List.take_of_length_le]
     rw [List.length_drop]; omega
    obtain ⟨Y2, hY2⟩ : ∃ y, Y1 ++ U = y := ⟨_, rfl⟩
    have hX : bsL (D.take fn ++ U.data.toList ++ D.drop tn) = Y2 ++ Y3 := by
     rw [← hY2, b1, b3, ← bsL_append, ← bsL_append]
    obtain ⟨X, hX2⟩ : ∃ X, Y2 ++ Y3 = X := ⟨_, rfl⟩
    rw [hX, hX2] at H2
    rw [hY] at H1
    have l1 : Y1.size ≤ 2000 := by rw [b1]; simp [bsL, ByteArray.size]; omega
    have l3 : Y3.size ≤ 2000 := by rw [b3]; simp [bsL, ByteArray.size]; omega
    have l2 : Y2.size ≤ 4000 := by rw [← hY2, ByteArray.size_append]; omega
    have hc1 : Y1.size + U.size ≤ 100000 := by omega
    have hc2 : Y2.size + Y3.size ≤ 100000 := by omega
    have i1 : (0 : Int) ≤ fn := by omega
    have i2 : (fn : Int) ≤ Y.size := by omega
    have i3 : (0 : Int) ≤ tn := by omega
    have i4 : (tn : Int) ≤ Y.size := by omega
    replace H1 := Lib.hid H1
    replace H2 := Lib.hid H2
    replace hYs := Lib.hid hYs
    clear e1 e2 e3 hT hp hq hzp hzq hf ht hft htz hz2 hDl hDx hY b1 b3 hX
    have qkb0 := kb2.out.c 0 _ rfl
    have qkb1 := kb2.out.c 1 _ rfl
    have qkb2 := kb2.out.c 2 _ rfl
    go_wp2_with fail
    refine (HI.out _).mono ?_
    rintro e w3 ⟨rfl, hb3⟩
    have hW3 := Lib.hid (hW2.out.trans (hb3.mono hW2.out.size))
    have kb3 := Lib.hid (kb2.out.below hb3)
    clear hb3 hW2 kb2 qkb0 qkb1 qkb2
    have qkb0 := kb3.out.c 0 _ rfl
    have qkb1 := kb3.out.c 1 _ rfl
    have qkb2 := kb3.out.c 2 _ rfl
    go_wp2_with fail
    refine (HS.out _).mono ?_
    rintro e w4 ⟨rfl, hb4⟩
    have hW4 := Lib.hid (hW3.out.trans (hb4.mono hW3.out.size))
    have kb4 := Lib.hid (kb3.out.below hb4)
    clear hb4 hW3 kb3 qkb0 qkb1 qkb2
    have qkb0 := kb4.out.c 0 _ rfl
    have qkb1 := kb4.out.c 1 _ rfl
    have qkb2 := kb4.out.c 2 _ rfl
    go_wp2_with fail
    refine (H1.out _).mono ?_
    rintro e w5 ⟨rfl, hb5⟩
    have hW5 := Lib.hid (hW4.out.trans (hb5.mono hW4.out.size))
    have kb5 := Lib.hid (kb4.out.below hb5)
    clear hb5 hW4 kb4 qkb0 qkb1 qkb2
    have qkb0 := kb5.out.c 0 _ rfl
    have qkb1 := kb5.out.c 1 _ rfl
    have qkb2 := kb5.out.c 2 _ rfl
    go_wp2_with fail
    refine (H2.out _).mono ?_
    rintro e w6 ⟨rfl, hb6⟩
    have hW6 := Lib.hid (hW5.out.trans (hb6.mono hW5.out.size))
    have kb6 := Lib.hid (kb5.out.below hb6)
    clear hb6 hW5 kb5 qkb0 qkb1 qkb2
    go_upto_region 12 with (fail)
    go_quiet (fail)
    go_wp2_with fail
    go_ret
    exact ⟨rfl, below_drewN hW6.out _⟩
 ·have gn := decide_eq_true (p := (1048576 : Int) < n) (by omega)
  have gn2 := decide_eq_true (p := 1048576 < n) (by omega)
  clear h
  go_enter Tryz.func7, Tryz.ntmps7
  go_wp2_with fail
  go_ret
  exact ⟨rfl, Below.refl _ _⟩

end Go.Proofs.YthlgpgaeajfchaaGreat
