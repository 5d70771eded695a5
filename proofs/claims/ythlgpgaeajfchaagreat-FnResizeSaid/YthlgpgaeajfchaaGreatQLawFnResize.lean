/-
 The walk of the law FnResize.
-/
import Derived.Test.YthlgpgaeajfchaaGreatQPropM
import Derived.Test.YthlgpgaeajfchaaGreatQMergeP
import Derived.Test.YthlgpgaeajfchaaGreatQMakeLaw
import Derived.Test.YthlgpgaeajfchaaGreatQImplResize
import Derived.Test.YthlgpgaeajfchaaGreatQPropR
import Derived.Test.YthlgpgaeajfchaaGreatQSoData
import Derived.Test.YthlgpgaeajfchaaGreatQDrawsS
import Derived.Test.YthlgpgaeajfchaaGreatQTreeMem

namespace Go.Proofs.YthlgpgaeajfchaaGreat
open Go.RowKit
set_option linter.unusedVariables false
set_option linter.unusedSimpArgs false
set_option maxRecDepth 100000

set_option maxHeartbeats 4000000 in
theorem lawFnResize (A : Option Addr) (n c : Nat) (bs : List UInt8) (w : World) (h : ByteRow w A n bs) (hnc : n ≤ c) :
  Calls Tryz.prog 3 #[.slice A n c] w fun e w' => e = .returned (.bool true) ∧ Below w.heap.size w w' := by
 have hle := h.le
 unfold maxLen at hle
 by_cases hn : n ≤ 1048576
 ·have gn := decide_eq_false (p := (1048576 : Int) < n) (by omega)
  have gn2 := decide_eq_false (p := 1048576 < n) (by omega)
  go_enter Tryz.func3, Tryz.ntmps3
  go_wp2_with fail
  refine (specDrawResizeBlocks A n c bs _ h hnc).mono ?_
  rintro e w1 ⟨o, l, m, d, s, size, rfl, hd, hs, hsr, hb1⟩
  have kb2 := KBn.start w1 24 [.int .i64 o, .int .i64 l, .int .i64 m]
  have hW2 := hb1.alloc hb1.size (.cells #[.int .i64 o, .int .i64 l, .int .i64 m] 24)
  change KBn (w1.alloc (.cells #[.int .i64 o, .int .i64 l, .int .i64 m] 24)) _ _ at kb2
  clear hb1 h
  go_upto_region 4 with (fail)
  obtain ⟨G, hG⟩ : ∃ G, w1.heap.size = G := ⟨_, rfl⟩
  obtain ⟨w2, hw2⟩ : ∃ W, w1.alloc (.cells #[.int .i64 o, .int .i64 l, .int .i64 m] 24) = W := ⟨_, rfl⟩
  rw [hw2] at kb2 hW2 ⊢
  rw [hG] at kb2 ⊢
  clear hw2 hG
  replace kb2 := Lib.hid kb2
  replace hW2 := Lib.hid hW2
  have HI := fun W => implResizeBlocks o l m size d s W (by omega) (by omega)
  have HS := fun W => specResizeBlocks o l m size d s W (by omega) (by omega)
  replace hsr := Lib.hid hsr
  rcases hT : resizeC o l m d.data.toList (contB s) size with _ | x
  ·rw [hT] at HI HS
   unfold optV at HI HS
   replace HI := Lib.hid HI
   replace HS := Lib.hid HS
   clear hT
   have qkb0 := kb2.out.c 0 _ rfl
   have qkb1 := kb2.out.c 1 _ rfl
   have qkb2 := kb2.out.c 2 _ rfl
   go_wp2_with fail
   refine (HI.out _).mono ?_
   rintro e w3 ⟨rfl, hb3⟩
   have hW3 := Lib.hid (hW2.out.trans (hb3.mono hW2.out.size))
   have kb3 := Lib.hid (kb2.out.below hb3)
   clear hb3 hW2 kb2 qkb0 qkb1 qkb2
   have qkb0 := kb3.out.c 0 _ rfl
   have qkb1 := kb3.out.c 1 _ rfl
   have qkb2 := kb3.out.c 2 _ rfl
   go_wp2_with fail
   refine (HS.out _).mono ?_
   rintro e w4 ⟨rfl, hb4⟩
   have hW4 := Lib.hid (hW3.out.trans (hb4.mono hW3.out.size))
   have kb4 := Lib.hid (kb3.out.below hb4)
   clear hb4 hW3 kb3 qkb0 qkb1 qkb2
   go_wp2_with fail
   go_ret
   exact ⟨rfl, hW4.out⟩
  ·rw [hT] at HI HS
   obtain ⟨D, e1, e2, e3, e4, hDl, s1, s2⟩ := resize_law hT
   have hDD : (bsL D).data.toList = D := rfl
   have H1 := fun W => implContainerData o l m d s W (by omega) (by omega)
   have H2 := fun W => implResizeBlocks o l m size d x W (by omega) (by omega)
   have H3 := fun W => implMakeC o l m size d (bsL D) W (by omega) (by show (bsL D).size ≤ 4000; simp [bsL, ByteArray.size]; omega)
   have H4 := fun W => lawsSoData o l m d x W (by omega) (by omega)
   rw [e1] at H1
   rw [e3] at H2
   rw [hDD, e4] at H3
   rw [e2] at H4
   unfold optV at HI HS H2 H3
   simp only [Option.getD_some, Option.isSome_some] at HI HS H1 H2 H3 H4
   obtain ⟨DD, hD2⟩ : ∃ DD, bsL D = DD := ⟨_, rfl⟩
   rw [hD2] at H1 H3 H4
   replace HI := Lib.hid HI
   replace HS := Lib.hid HS
   replace H1 := Lib.hid H1
   replace H2 := Lib.hid H2
   replace H3 := Lib.hid H3
   replace H4 := Lib.hid H4
   clear hT e1 e2 e3 e4 hDD hDl hD2
   have qkb0 := kb2.out.c 0 _ rfl
   have qkb1 := kb2.out.c 1 _ rfl
   have qkb2 := kb2.out.c 2 _ rfl
   go_wp2_with fail
   refine (HI.out _).mono ?_
   rintro e w3 ⟨rfl, hb3⟩
   have hW3 := Lib.hid (hW2.out.trans (hb3.mono hW2.out.size))
   have kb3 := Lib.hid (kb2.out.below hb3)
   clear hb3 hW2 kb2 qkb0 qkb1 qkb2
   have qkb0 := kb3.out.c 0 _ rfl
   have qkb1 := kb3.out.c 1 _ rfl
   have qkb2 := kb3.out.c 2 _ rfl
   go_wp2_with fail
   refine (HS.out _).mono ?_
   rintro e w4 ⟨rfl, hb4⟩
   have hW4 := Lib.hid (hW3.out.trans (hb4.mono hW3.out.size))
   have kb4 := Lib.hid (kb3.out.below hb4)
   clear hb4 hW3 kb3 qkb0 qkb1 qkb2
   have qkb0 := kb4.out.c 0 _ rfl
   have qkb1 := kb4.out.c 1 _ rfl
   have qkb2 := kb4.out.c 2 _ rfl
   go_wp2_with fail
   refine (H1.out _).mono ?_
   rintro e w5 ⟨rfl, hb5⟩
   have hW5 := Lib.hid (hW4.out.trans (hb5.mono hW4.out.size))
   have kb5 := Lib.hid (kb4.out.below hb5)
   clear hb5 hW4 kb4 qkb0 qkb1 qkb2
   have qkb0 := kb5.out.c 0 _ rfl
   have qkb1 := kb5.out.c 1 _ rfl
   have qkb2 := kb5.out.c 2 _ rfl
   go_wp2_with fail
   refine (H2.out _).mono ?_
   rintro e w6 ⟨rfl, hb6⟩
   have hW6 := Lib.hid (hW5.out.trans (hb6.mono hW5.out.size))
   have kb6 := Lib.hid (kb5.out.below hb6)
   clear hb6 hW5 kb5 qkb0 qkb1 qkb2
   have qkb0 := kb6.out.c 0 _ rfl
   have qkb1 := kb6.out.c 1 _ rfl
   have qkb2 := kb6.out.c 2 _ rfl
   go_wp2_with fail
   refine (H3.out _).mono ?_
   rintro e w7 ⟨rfl, hb7⟩
   have hW7 := Lib.hid (hW6.out.trans (hb7.mono hW6.out.size))
   have kb7 := Lib.hid (kb6.out.below hb7)
   clear hb7 hW6 kb6 qkb0 qkb1 qkb2
   have qkb0 := kb7.out.c 0 _ rfl
   have qkb1 := kb7.out.c 1 _ rfl
   have qkb2 := kb7.out.c 2 _ rfl
   go_wp2_with fail
   refine (H4.out _).mono ?_
   rintro e w8 ⟨rfl, hb8⟩
   have hW8 := Lib.hid (hW7.out.trans (hb8.mono hW7.out.size))
   have kb8 := Lib.hid (kb7.out.below hb8)
   clear hb8 hW7 kb7 qkb0 qkb1 qkb2
   go_wp2_with fail
   go_ret
   exact ⟨rfl, hW8.out⟩
 ·have gn := decide_eq_true (p := (1048576 : Int) < n) (by omega)
  have gn2 := decide_eq_true (p := 1048576 < n) (by omega)
  clear h
  go_enter Tryz.func3, Tryz.ntmps3
  go_wp2_with fail
  go_ret
  exact ⟨rfl, Below.refl _ _⟩

end Go.Proofs.YthlgpgaeajfchaaGreat
