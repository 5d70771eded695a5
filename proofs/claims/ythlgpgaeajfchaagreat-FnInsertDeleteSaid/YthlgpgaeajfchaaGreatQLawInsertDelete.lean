/-
 The walk of the law FnInsertDelete.
-/
import Derived.Test.YthlgpgaeajfchaaGreatQMergeP
import Derived.Test.YthlgpgaeajfchaaGreatQReplImpl
import Derived.Test.YthlgpgaeajfchaaGreatQReplSpec
import Derived.Test.YthlgpgaeajfchaaGreatQCutImpl
import Derived.Test.YthlgpgaeajfchaaGreatQImplData
import Derived.Test.YthlgpgaeajfchaaGreatQPropT
import Derived.Test.YthlgpgaeajfchaaGreatQDrawsP
import Derived.Test.YthlgpgaeajfchaaGreatQTreeMem

namespace Go.Proofs.YthlgpgaeajfchaaGreat
open Go.RowKit
set_option linter.unusedVariables false
set_option linter.unusedSimpArgs false
set_option maxRecDepth 100000

set_option maxHeartbeats 4000000 in
theorem lawFnInsertDelete (A : Option Addr) (n c : Nat) (bs : List UInt8) (w : World) (h : ByteRow w A n bs) (hnc : n ≤ c) :
  Calls Tryz.prog 11 #[.slice A n c] w fun e w' => e = .returned (.bool true) ∧ Below w.heap.size w w' := by
 have hle := h.le
 unfold maxLen at hle
 by_cases hn : n ≤ 1048576
 ·have gn := decide_eq_false (p := (1048576 : Int) < n) (by omega)
  have gn2 := decide_eq_false (p := 1048576 < n) (by omega)
  go_enter Tryz.func11, Tryz.ntmps11
  go_wp2_with fail
  refine (specDrawInsertData A n c bs _ h hnc).mono ?_
  rintro e w1 ⟨o, l, m, d, s, f, U, size, rfl, hd, hs, hf, hU, hsr, hb1⟩
  have kb2 := KBn.start w1 24 [.int .i64 o, .int .i64 l, .int .i64 m]
  have hW2 := hb1.alloc hb1.size (.cells #[.int .i64 o, .int .i64 l, .int .i64 m] 24)
  change KBn (w1.alloc (.cells #[.int .i64 o, .int .i64 l, .int .i64 m] 24)) _ _ at kb2
  clear hb1 h
  go_upto_region 4 with (fail)
  obtain ⟨G, hG⟩ : ∃ G, w1.heap.size = G := ⟨_, rfl⟩
  obtain ⟨w2, hw2⟩ : ∃ W, w1.alloc (.cells #[.int .i64 o, .int .i64 l, .int .i64 m] 24) = W := ⟨_, rfl⟩
  rw [hw2] at kb2 hW2 ⊢
  rw [hG] at kb2 ⊢
  clear hw2 hG
  replace kb2 := Lib.hid kb2
  replace hW2 := Lib.hid hW2
  have HI := fun W => implInsertData o l m d s f U size W (by omega) (by omega) (by omega)
  have HS := fun W => specInsertData o l m d s f U size W (by omega) (by omega) (by omega)
  replace hsr := Lib.hid hsr
  rcases hT : replC o l m d.data.toList (contB s) f f U.data.toList size with _ | x
  ·rw [hT] at HI HS
   unfold optV at HI HS
   replace hf := Lib.hid hf
   replace HI := Lib.hid HI
   replace HS := Lib.hid HS
   clear hT
   have qkb0 := kb2.out.c 0 _ rfl
   have qkb1 := kb2.out.c 1 _ rfl
   have qkb2 := kb2.out.c 2 _ rfl
   go_wp2_with fail
   refine (HI.out _).mono ?_
   rintro e w3 ⟨rfl, hb3⟩
   have hW3 := Lib.hid (hW2.out.trans (hb3.mono hW2.out.size))
   have kb3 := Lib.hid (kb2.out.below hb3)
   clear hb3 hW2 kb2 qkb0 qkb1 qkb2
   have qkb0 := kb3.out.c 0 _ rfl
   have qkb1 := kb3.out.c 1 _ rfl
   have qkb2 := kb3.out.c 2 _ rfl
   go_wp2_with fail
   refine (HS.out _).mono ?_
   rintro e w4 ⟨rfl, hb4⟩
   have hW4 := Lib.hid (hW3.out.trans (hb4.mono hW3.out.size))
   have kb4 := Lib.hid (kb3.out.below hb4)
   clear hb4 hW3 kb3 qkb0 qkb1 qkb2
   go_wp2_with fail
   go_ret
   exact ⟨rfl, hW4.out⟩
  ·rw [hT] at HI HS
   obtain ⟨fn, p, q, ys, zs, y, z, Do, Dy, rfl, hfn, hL, hp, hq, e1, e2, hy, hz, e3, e4, e5, z1, z2, s1, s2, s3, s4⟩ := insert_law hT
   have hUl : U.data.toList.length = U.size := by simp
   rw [hUl] at e1 e2 z1 hL
   obtain ⟨ul, hul⟩ : ∃ u, U.size = u := ⟨_, rfl⟩
   rw [hul] at e1 e2 z1 hL
   obtain ⟨tn, htn⟩ : ∃ u, fn + ul = u := ⟨_, rfl⟩
   rw [htn] at e1 e2
   have etn : (fn : Int) + ul = tn := by omega
   have wtn : IntKind.i64.wrap (tn : Int) = tn := IntWalk.i64_in _ (by omega)
   have H1 := fun W => implDeleteRange o l m d x fn tn W (by omega) (by omega)
   have H2 := fun W => implCutContainer o l m d x fn tn W (by omega) (by omega)
   have H3 := fun W => implContainerData o l m d y W (by omega) (by omega)
   have H4 := fun W => implContainerData o l m d s W (by omega) (by omega)
   have H5 := fun W => implContainerSizeYes z zs W (by omega) hz
   have H6 := fun W => implContainerSizeYes y ys W (by omega) hy
   have H7 := fun W => implContainerSizeYes s p W (by omega) hp
   rw [hq] at H1 H2
   rw [e1] at H1
   rw [e2] at H2
   rw [hy, e3] at H3
   rw [hp, e4] at H4
   rw [z1] at H5
   rw [z2] at H6
   obtain ⟨sz, hsz⟩ : ∃ u, szs p = u := ⟨_, rfl⟩
   rw [hsz] at H6 H7
   unfold optV at HI HS H1 H2
   simp only [Option.getD_some, Option.isSome_some] at HI HS H1 H2
   replace HI := Lib.hid HI
   replace HS := Lib.hid HS
   replace H1 := Lib.hid H1
   replace H2 := Lib.hid H2
   replace H5 := Lib.hid H5
   replace H6 := Lib.hid H6
   replace H7 := Lib.hid H7
   clear hT e1 e2 e3 e4 hp hq hy hz hf hUl z1 z2 hsz htn
   rcases Do with _ | D
   ·simp only [Option.getD_none, Option.isSome_none] at H4
    obtain ⟨b3, hb3⟩ : ∃ b, Dy.isSome = b := ⟨_, rfl⟩
    obtain ⟨Y3, hY3⟩ : ∃ Y, bsL (Dy.getD []) = Y := ⟨_, rfl⟩
    rw [hb3, hY3] at H3
    replace H3 := Lib.hid H3
    replace H4 := Lib.hid H4
    clear e5 hb3 hY3
    have qkb0 := kb2.out.c 0 _ rfl
    have qkb1 := kb2.out.c 1 _ rfl
    have qkb2 := kb2.out.c 2 _ rfl
    go_wp2_with fail
    refine (HI.out _).mono ?_
    rintro e w3 ⟨rfl, hb3⟩
    have hW3 := Lib.hid (hW2.out.trans (hb3.mono hW2.out.size))
    have kb3 := Lib.hid (kb2.out.below hb3)
    clear hb3 hW2 kb2 qkb0 qkb1 qkb2
    have qkb0 := kb3.out.c 0 _ rfl
    have qkb1 := kb3.out.c 1 _ rfl
    have qkb2 := kb3.out.c 2 _ rfl
    go_wp2_with fail
    refine (HS.out _).mono ?_
    rintro e w4 ⟨rfl, hb4⟩
    have hW4 := Lib.hid (hW3.out.trans (hb4.mono hW3.out.size))
    have kb4 := Lib.hid (kb3.out.below hb4)
    clear hb4 hW3 kb3 qkb0 qkb1 qkb2
    have qkb0 := kb4.out.c 0 _ rfl
    have qkb1 := kb4.out.c 1 _ rfl
    have qkb2 := kb4.out.c 2 _ rfl
    go_wp2_with fail
    refine (H1.out _).mono ?_
    rintro e w5 ⟨rfl, hb5⟩
    have hW5 := Lib.hid (hW4.out.trans (hb5.mono hW4.out.size))
    have kb5 := Lib.hid (kb4.out.below hb5)
    clear hb5 hW4 kb4 qkb0 qkb1 qkb2
    have qkb0 := kb5.out.c 0 _ rfl
    have qkb1 := kb5.out.c 1 _ rfl
    have qkb2 := kb5.out.c 2 _ rfl
    go_wp2_with fail
    refine (H2.out _).mono ?_
    rintro e w6 ⟨rfl, hb6⟩
    have hW6 := Lib.hid (hW5.out.trans (hb6.mono hW5.out.size))
    have kb6 := Lib.hid (kb5.out.below hb6)
    clear hb6 hW5 kb5 qkb0 qkb1 qkb2
    have qkb0 := kb6.out.c 0 _ rfl
    have qkb1 := kb6.out.c 1 _ rfl
    have qkb2 := kb6.out.c 2 _ rfl
    go_wp2_with fail
    refine (H3.out _).mono ?_
    rintro e w7 ⟨rfl, hb7⟩
    have hW7 := Lib.hid (hW6.out.trans (hb7.mono hW6.out.size))
    have kb7 := Lib.hid (kb6.out.below hb7)
    clear hb7 hW6 kb6 qkb0 qkb1 qkb2
    have qkb0 := kb7.out.c 0 _ rfl
    have qkb1 := kb7.out.c 1 _ rfl
    have qkb2 := kb7.out.c 2 _ rfl
    go_wp2_with fail
    refine (H4.out _).mono ?_
    rintro e w8 ⟨rfl, hb8⟩
    have hW8 := Lib.hid (hW7.out.trans (hb8.mono hW7.out.size))
    have kb8 := Lib.hid (kb7.out.below hb8)
    clear hb8 hW7 kb7 qkb0 qkb1 qkb2
    go_wp2_with fail
    refine (H5.out _).mono ?_
    rintro e w9 ⟨rfl, hb9⟩
    have hW9 := Lib.hid (hW8.out.trans (hb9.mono hW8.out.size))
    have kb9 := Lib.hid (kb8.out.below hb9)
    clear hb9 hW8 kb8 
    go_wp2_with fail
    refine (H6.out _).mono ?_
    rintro e w10 ⟨rfl, hb10⟩
    have hW10 := Lib.hid (hW9.out.trans (hb10.mono hW9.out.size))
    have kb10 := Lib.hid (kb9.out.below hb10)
    clear hb10 hW9 kb9 
    go_wp2_with fail
    refine (H7.out _).mono ?_
    rintro e w11 ⟨rfl, hb11⟩
    have hW11 := Lib.hid (hW10.out.trans (hb11.mono hW10.out.size))
    have kb11 := Lib.hid (kb10.out.below hb11)
    clear hb11 hW10 kb10 
    go_wp2_with fail
    go_ret
    exact ⟨rfl, hW11.out⟩
   ·have hDy := e5 D rfl
    rw [hDy] at H3
    simp only [Option.getD_some, Option.isSome_some] at H3 H4
    obtain ⟨Y3, hY3⟩ : ∃ Y, bsL D = Y := ⟨_, rfl⟩
    rw [hY3] at H3 H4
    replace H3 := Lib.hid H3
    replace H4 := Lib.hid H4
    clear e5 hY3 hDy
    have qkb0 := kb2.out.c 0 _ rfl
    have qkb1 := kb2.out.c 1 _ rfl
    have qkb2 := kb2.out.c 2 _ rfl
    go_wp2_with fail
    refine (HI.out _).mono ?_
    rintro e w3 ⟨rfl, hb3⟩
    have hW3 := Lib.hid (hW2.out.trans (hb3.mono hW2.out.size))
    have kb3 := Lib.hid (kb2.out.below hb3)
    clear hb3 hW2 kb2 qkb0 qkb1 qkb2
    have qkb0 := kb3.out.c 0 _ rfl
    have qkb1 := kb3.out.c 1 _ rfl
    have qkb2 := kb3.out.c 2 _ rfl
    go_wp2_with fail
    refine (HS.out _).mono ?_
    rintro e w4 ⟨rfl, hb4⟩
    have hW4 := Lib.hid (hW3.out.trans (hb4.mono hW3.out.size))
    have kb4 := Lib.hid (kb3.out.below hb4)
    clear hb4 hW3 kb3 qkb0 qkb1 qkb2
    have qkb0 := kb4.out.c 0 _ rfl
    have qkb1 := kb4.out.c 1 _ rfl
    have qkb2 := kb4.out.c 2 _ rfl
    go_wp2_with fail
    refine (H1.out _).mono ?_
    rintro e w5 ⟨rfl, hb5⟩
    have hW5 := Lib.hid (hW4.out.trans (hb5.mono hW4.out.size))
    have kb5 := Lib.hid (kb4.out.below hb5)
    clear hb5 hW4 kb4 qkb0 qkb1 qkb2
    have qkb0 := kb5.out.c 0 _ rfl
    have qkb1 := kb5.out.c 1 _ rfl
    have qkb2 := kb5.out.c 2 _ rfl
    go_wp2_with fail
    refine (H2.out _).mono ?_
    rintro e w6 ⟨rfl, hb6⟩
    have hW6 := Lib.hid (hW5.out.trans (hb6.mono hW5.out.size))
    have kb6 := Lib.hid (kb5.out.below hb6)
    clear hb6 hW5 kb5 qkb0 qkb1 qkb2
    have qkb0 := kb6.out.c 0 _ rfl
    have qkb1 := kb6.out.c 1 _ rfl
    have qkb2 := kb6.out.c 2 _ rfl
    go_wp2_with fail
    refine (H3.out _).mono ?_
    rintro e w7 ⟨rfl, hb7⟩
    have hW7 := Lib.hid (hW6.out.trans (hb7.mono hW6.out.size))
    have kb7 := Lib.hid (kb6.out.below hb7)
    clear hb7 hW6 kb6 qkb0 qkb1 qkb2
    have qkb0 := kb7.out.c 0 _ rfl
    have qkb1 := kb7.out.c 1 _ rfl
    have qkb2 := kb7.out.c 2 _ rfl
    go_wp2_with fail
    refine (H4.out _).mono ?_
    rintro e w8 ⟨rfl, hb8⟩
    have hW8 := Lib.hid (hW7.out.trans (hb8.mono hW7.out.size))
    have kb8 := Lib.hid (kb7.out.below hb8)
    clear hb8 hW7 kb7 qkb0 qkb1 qkb2
    go_wp2_with fail
    refine (H5.out _).mono ?_
    rintro e w9 ⟨rfl, hb9⟩
    have hW9 := Lib.hid (hW8.out.trans (hb9.mono hW8.out.size))
    have kb9 := Lib.hid (kb8.out.below hb9)
    clear hb9 hW8 kb8 
    go_wp2_with fail
    refine (H6.out _).mono ?_
    rintro e w10 ⟨rfl, hb10⟩
    have hW10 := Lib.hid (hW9.out.trans (hb10.mono hW9.out.size))
    have kb10 := Lib.hid (kb9.out.below hb10)
    clear hb10 hW9 kb9 
    go_wp2_with fail
    refine (H7.out _).mono ?_
    rintro e w11 ⟨rfl, hb11⟩
    have hW11 := Lib.hid (hW10.out.trans (hb11.mono hW10.out.size))
    have kb11 := Lib.hid (kb10.out.below hb11)
    clear hb11 hW10 kb10 
    go_wp2_with fail
    go_ret
    exact ⟨rfl, hW11.out⟩
 ·have gn := decide_eq_true (p := (1048576 : Int) < n) (by omega)
  have gn2 := decide_eq_true (p := 1048576 < n) (by omega)
  clear h
  go_enter Tryz.func11, Tryz.ntmps11
  go_wp2_with fail
  go_ret
  exact ⟨rfl, Below.refl _ _⟩

end Go.Proofs.YthlgpgaeajfchaaGreat
