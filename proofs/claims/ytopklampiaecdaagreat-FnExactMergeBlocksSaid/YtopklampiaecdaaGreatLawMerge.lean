/-
  The walk of the law FnExactMergeBlocks.
-/
import Derived.Test.YtopklampiaecdaaGreatMergeImpl
import Derived.Test.YtopklampiaecdaaGreatMergeSpec
import Derived.Test.YtopklampiaecdaaGreatTreeMem
namespace Go.Proofs.YtopklampiaecdaaGreat
open Go.RowKit
set_option linter.unusedVariables false
set_option linter.unusedSimpArgs false
set_option maxRecDepth 100000

theorem implMergeBlocksX (o l m : Int) (d s : ByteArray) (size : Int) (w : World) (hd : d.size ≤ 1048576) (hs : s.size ≤ 1048576) (h1 : (-9223372036854775808 ≤ size ∧ size ≤ 9223372036854775807)) :
    Calls Tryz.prog 23 #[.agg #[.int .i64 o, .int .i64 l, .int .i64 m], .string d, .string s, .int .i64 size] w fun e w' => e = .returned (optV (mergeC o l m d.data.toList (contB s) size)) ∧ Below w.heap.size w w' := implMergeBlocks o l m d s size w hd hs

theorem specMergeBlocksX (o l m : Int) (d s : ByteArray) (size : Int) (w : World) (hd : d.size ≤ 1048576) (hs : s.size ≤ 1048576) (h1 : (-9223372036854775808 ≤ size ∧ size ≤ 9223372036854775807)) :
    Calls Tryz.prog 22 #[.agg #[.int .i64 o, .int .i64 l, .int .i64 m], .string d, .string s, .int .i64 size] w fun e w' => e = .returned (optV (mergeC o l m d.data.toList (contB s) size)) ∧ Below w.heap.size w w' := specMergeBlocks o l m d s size w hd hs

set_option maxHeartbeats 2000000 in
theorem lawFnExactMergeBlocks (o : Int) (ho0 : (Lit.int .i64 o).wf = true) (l : Int) (hl0 : (Lit.int .i64 l).wf = true) (m : Int) (hm0 : (Lit.int .i64 m).wf = true) (x1 : ByteArray) (hx10 : x1.size ≤ maxLen) (x2 : ByteArray) (hx20 : x2.size ≤ maxLen) (x3 : Int) (hx30 : (Lit.int .i64 x3).wf = true) (w : World) :
    Calls Tryz.prog 6 #[.agg #[.int .i64 o, .int .i64 l, .int .i64 m], .string x1, .string x2, .int .i64 x3] w fun e w' => e = .returned (.bool true) ∧ Below w.heap.size w w' := by
  unfold maxLen at hx10 hx20
  have rx3 := wf_range hx30
  clear ho0 hl0 hm0 hx30
  have hW0 := Lib.hid ((Below.refl w.heap.size w).alloc (Nat.le_refl _) (.cells #[.int .i64 o, .int .i64 l, .int .i64 m] 23))
  have kb0 := Lib.hid (KBn.start w 23 [.int .i64 o, .int .i64 l, .int .i64 m])
  by_cases hx1 : x1.size ≤ 1048576
  · have gx1 := decide_eq_false (p := (1048576 : Int) < x1.size) (by omega)
    have gx12 := decide_eq_false (p := 1048576 < x1.size) (by omega)
    by_cases hx2 : x2.size ≤ 1048576
    · have gx2 := decide_eq_false (p := (1048576 : Int) < x2.size) (by omega)
      have gx22 := decide_eq_false (p := 1048576 < x2.size) (by omega)
      have HT := Lib.hid (fun W => lawsToSetting o l m W)
      have HS := fun W => specMergeBlocksX o l m x1 x2 x3 W hx1 hx2 rx3
      have HI := fun W => implMergeBlocksX o l m x1 x2 x3 W hx1 hx2 rx3
      obtain ⟨R, hR⟩ : ∃ R, (mergeC o l m x1.data.toList (contB x2) x3) = R := ⟨_, rfl⟩
      rw [hR] at HS HI
      obtain ⟨T, hT⟩ : ∃ T, R.getD ByteArray.empty = T := ⟨_, rfl⟩
      obtain ⟨b, hb⟩ : ∃ b, R.isSome = b := ⟨_, rfl⟩
      unfold optV at HS HI
      rw [hT, hb] at HS HI
      replace HS := Lib.hid HS
      replace HI := Lib.hid HI
      clear hR hT hb
      go_enter Tryz.func6, Tryz.ntmps6
      go_wp2_with fail
      refine (HT.out _).mono ?_
      rintro e w1 ⟨rfl, hb1⟩
      have hW1 := Lib.hid (hW0.out.trans (hb1.mono hW0.out.size))
      have kb1 := Lib.hid (kb0.out.below hb1)
      clear hb1
      have q0 := kb1.out.c 0 _ rfl
      have q1 := kb1.out.c 1 _ rfl
      have q2 := kb1.out.c 2 _ rfl
      go_wp2_with fail
      refine (HS.out _).mono ?_
      rintro e w2 ⟨rfl, hb2⟩
      have hW2 := Lib.hid (hW1.out.trans (hb2.mono hW1.out.size))
      have kb2 := Lib.hid (kb1.out.below hb2)
      clear q0 q1 q2
      clear hb2
      have q0 := kb2.out.c 0 _ rfl
      have q1 := kb2.out.c 1 _ rfl
      have q2 := kb2.out.c 2 _ rfl
      go_wp2_with fail
      refine (HT.out _).mono ?_
      rintro e w3 ⟨rfl, hb3⟩
      have hW3 := Lib.hid (hW2.out.trans (hb3.mono hW2.out.size))
      have kb3 := Lib.hid (kb2.out.below hb3)
      clear q0 q1 q2
      clear hb3
      have q0 := kb3.out.c 0 _ rfl
      have q1 := kb3.out.c 1 _ rfl
      have q2 := kb3.out.c 2 _ rfl
      go_wp2_with fail
      refine (HI.out _).mono ?_
      rintro e w4 ⟨rfl, hb4⟩
      have hW4 := Lib.hid (hW3.out.trans (hb4.mono hW3.out.size))
      have kb4 := Lib.hid (kb3.out.below hb4)
      clear q0 q1 q2
      clear hb4
      have q0 := kb4.out.c 0 _ rfl
      have q1 := kb4.out.c 1 _ rfl
      have q2 := kb4.out.c 2 _ rfl
      go_wp2_with fail
      go_ret
      exact ⟨rfl, hW4.out⟩
    · have gx2 := decide_eq_true (p := (1048576 : Int) < x2.size) (by omega)
      have gx22 := decide_eq_true (p := 1048576 < x2.size) (by omega)
      go_enter Tryz.func6, Tryz.ntmps6
      go_wp2_with fail
      go_ret
      exact ⟨rfl, hW0.out⟩
  · have gx1 := decide_eq_true (p := (1048576 : Int) < x1.size) (by omega)
    have gx12 := decide_eq_true (p := 1048576 < x1.size) (by omega)
    go_enter Tryz.func6, Tryz.ntmps6
    go_wp2_with fail
    go_ret
    exact ⟨rfl, hW0.out⟩

end Go.Proofs.YtopklampiaecdaaGreat
