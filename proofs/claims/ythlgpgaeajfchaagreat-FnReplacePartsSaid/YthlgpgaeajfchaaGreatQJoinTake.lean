/-
 The contracts of JoinContainers, of the program and of the reference: both make the same container of the blocks of two.
-/
import Derived.Test.YthlgpgaeajfchaaGreatQMakeC
import Derived.Test.YthlgpgaeajfchaaGreatQContSpec

namespace Go.Proofs.YthlgpgaeajfchaaGreat
open Go.RowKit
set_option linter.unusedVariables false

def joinC : Option (List Blk) → Option (List Blk) → Option ByteArray
 | some x, some y => mkC (x ++ y)
 | _, _ => none

set_option maxHeartbeats 1000000 in
theorem implJoinContainers (s t : ByteArray) (w : World) (hs : s.size ≤ 1048576) (ht : t.size ≤ 1048576) :
  Calls Tryz.prog 39 #[.string s, .string t] w fun e w' => e = .returned (optV (joinC (contB s) (contB t))) ∧ Below w.heap.size w w' := by
 rcases hx : contB s with _ | x
 ·have H1 := Lib.hid (fun W => implContainerBlocksNo s W hs hx)
  rcases hy : contB t with _ | y
  ·have H2 := Lib.hid (fun W => implContainerBlocksNo t W ht hy)
   clear hx hy
   go_enter Tryz.func39, Tryz.ntmps39
   go_wp2_with fail
   refine (H1.out _).mono ?_
   rintro e w1 ⟨A1, c1, rfl, ho1, hb1⟩
   go_wp2_with fail
   refine (H2.out _).mono ?_
   rintro e w2 ⟨A2, c2, rfl, ho2, hb2⟩
   go_wp2_with fail
   go_ret2
   exact ⟨rfl, hb1.trans (hb2.mono hb1.size)⟩
  ·obtain ⟨m, hm⟩ : ∃ m, y.length = m := ⟨_, rfl⟩
   have H2 := Lib.hid (fun W => implContainerBlocksYes t y m W ht hy hm)
   clear hx hy hm
   go_enter Tryz.func39, Tryz.ntmps39
   go_wp2_with fail
   refine (H1.out _).mono ?_
   rintro e w1 ⟨A1, c1, rfl, ho1, hb1⟩
   go_wp2_with fail
   refine (H2.out _).mono ?_
   rintro e w2 ⟨A2, c2, rfl, ho2, hb2⟩
   go_wp2_with fail
   go_ret2
   exact ⟨rfl, hb1.trans (hb2.mono hb1.size)⟩
 ·obtain ⟨n, hn⟩ : ∃ n, x.length = n := ⟨_, rfl⟩
  have hnx := contB_numbered hx
  have hn40 := hnx.length
  rw [hn] at hn40
  have H1 := Lib.hid (fun W => implContainerBlocksYes s x n W hs hx hn)
  rcases hy : contB t with _ | y
  ·have H2 := Lib.hid (fun W => implContainerBlocksNo t W ht hy)
   clear hx hy hn
   go_enter Tryz.func39, Tryz.ntmps39
   go_wp2_with fail
   refine (H1.out _).mono ?_
   rintro e w1 ⟨A1, c1, rfl, ho1, hb1⟩
   go_wp2_with fail
   refine (H2.out _).mono ?_
   rintro e w2 ⟨A2, c2, rfl, ho2, hb2⟩
   go_wp2_with fail
   go_ret2
   exact ⟨rfl, hb1.trans (hb2.mono hb1.size)⟩
  ·obtain ⟨m, hm⟩ : ∃ m, y.length = m := ⟨_, rfl⟩
   have hny := contB_numbered hy
   have hm40 := hny.length
   rw [hm] at hm40
   have H2 := Lib.hid (fun W => implContainerBlocksYes t y m W ht hy hm)
   have hok : ∀ b ∈ x ++ y, b.okb := fun b hb => by
    rcases List.mem_append.1 hb with h | h
    ·exact Blk.okb_of (hnx.of_mem h)
    ·exact Blk.okb_of (hny.of_mem h)
   have hz : szs (x ++ y) ≤ 1048576 := by
    have h1 := szs_le (fun b hb => hnx.of_mem hb)
    have h2 := szs_le (fun b hb => hny.of_mem hb)
    rw [szs_append]; omega
   have HM := Lib.hid (fun A k c W h1 h2 => implMakeContainer A k c W.heap.size (x ++ y) W h1 (Nat.le_refl _) h2 hz hok)
   obtain ⟨R, hR⟩ : ∃ R, mkC (x ++ y) = R := ⟨_, rfl⟩
   have hJ : joinC (some x) (some y) = R := hR
   rw [hR] at HM
   rw [hJ]
   clear hx hy hn hm hok hz hR hJ
   go_enter Tryz.func39, Tryz.ntmps39
   go_wp2_with fail
   refine (H1.out _).mono ?_
   rintro e w1 ⟨A1, c1, rfl, ho1, hb1⟩
   go_wp2_with fail
   refine (H2.out _).mono ?_
   rintro e w2 ⟨A2, c2, rfl, ho2, hb2⟩
   have ho1 := own_below ho1 hb2 (Nat.le_refl _)
   have hr2 := Row.of_own ho2
   have hb02 := hb1.trans (hb2.mono hb1.size)
   have hz02 := hb02.size
   clear ho2 hb1 hb2 H1 H2
   go_wp2_with (first
    | (at_builtin; refine wpList_append_row _ elemBlk rfl (.tmp 26) (.tmp 27) rfl w.heap.size _ _ _ rfl ho1 _ _ m _ (cellsB y) rfl hr2 ?_ ?_ ?_ ?_ ?_))
   ·exact cellsB_oneCell y
   ·unfold maxLen; omega
   ·omega
   ·exact hz02
   ·intro v3 w3 hv3 hg3 _
    have hb03 : Below w.heap.size w w3 := hb02.grown hg3 hz02 (fun g hg => (ho1.lt g hg).1)
    rw [← cellsB_append] at hv3
    obtain ⟨A3, c3, rfl, _, _⟩ := own_form hv3
    have hz03 := hb03.size
    clear ho1 hr2 hb02 hg3
    go_wp2_with fail
    refine (HM.out A3 (n + m) c3 _ (Row.of_own hv3) (by omega)).mono ?_
    rintro e w4 ⟨rfl, hb4⟩
    go_wp2_with fail
    go_ret2
    exact ⟨rfl, hb03.trans (hb4.mono hz03)⟩

end Go.Proofs.YthlgpgaeajfchaaGreat

namespace Go.Proofs.YthlgpgaeajfchaaGreat
open Go.RowKit
set_option linter.unusedVariables false

end Go.Proofs.YthlgpgaeajfchaaGreat
