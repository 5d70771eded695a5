/-
  PatchContainer of both, and the walk of the law FnExactPatchContainer.
-/
import Derived.Test.YtopklampiaecdaaGreatReplImpl
import Derived.Test.YtopklampiaecdaaGreatReplSpec
import Derived.Test.YtopklampiaecdaaGreatPatchSmall
import Derived.Test.YtopklampiaecdaaGreatTreeMem
namespace Go.Proofs.YtopklampiaecdaaGreat
open Go.RowKit
set_option linter.unusedVariables false
set_option linter.unusedSimpArgs false
set_option maxRecDepth 100000

set_option maxHeartbeats 1000000 in
theorem implPatchContainer (o l m : Int) (d s : ByteArray) (f t : Int) (U : ByteArray) (size : Int) (w : World) (hd : d.size ≤ 1048576) (hs : s.size ≤ 1048576) (hU : U.size ≤ 1048576) :
    Calls Tryz.prog 35 #[.agg #[.int .i64 o, .int .i64 l, .int .i64 m], .string d, .string s, .agg #[.int .i64 f, .int .i64 t, .string U], .int .i64 size] w fun e w' => e = .returned (optV (replC o l m d.data.toList (contB s) f t U.data.toList size)) ∧ Below w.heap.size w w' := by
  have hW0 : Below w.heap.size w ((w.alloc (.cells #[.int .i64 o, .int .i64 l, .int .i64 m] 26)).alloc (.cells #[.int .i64 f, .int .i64 t, .string U] 43)) := ((Below.refl w.heap.size w).alloc (Nat.le_refl _) _).alloc (by simp) _
  have kb0 : KBn ((w.alloc (.cells #[.int .i64 o, .int .i64 l, .int .i64 m] 26)).alloc (.cells #[.int .i64 f, .int .i64 t, .string U] 43)) w.heap.size [.int .i64 o, .int .i64 l, .int .i64 m] := (KBn.start w 26 [.int .i64 o, .int .i64 l, .int .i64 m]).below ((Below.refl _ _).alloc (Nat.le_refl _) _)
  have pb0 : KBn ((w.alloc (.cells #[.int .i64 o, .int .i64 l, .int .i64 m] 26)).alloc (.cells #[.int .i64 f, .int .i64 t, .string U] 43)) (w.heap.size + 1) [.int .i64 f, .int .i64 t, .string U] := by
    have := KBn.start (w.alloc (.cells #[.int .i64 o, .int .i64 l, .int .i64 m] 26)) 43 [.int .i64 f, .int .i64 t, .string U]
    rw [World.size_alloc] at this
    exact this
  have HS := fun W => implReplaceRange o l m d s U f t size W hd hs hU
  obtain ⟨R, hR⟩ : ∃ R, (replC o l m d.data.toList (contB s) f t U.data.toList size) = R := ⟨_, rfl⟩
  rw [hR] at HS ⊢
  unfold optV at HS ⊢
  replace HS := Lib.hid HS
  clear hR
  go_enter Tryz.func35, Tryz.ntmps35
  go_upto_region 1 with (fail)
  obtain ⟨w2, hw2⟩ : ∃ W, (w.alloc (.cells #[.int .i64 o, .int .i64 l, .int .i64 m] 26)).alloc (.cells #[.int .i64 f, .int .i64 t, .string U] 43) = W := ⟨_, rfl⟩
  rw [hw2] at hW0 kb0 pb0 ⊢
  clear hw2
  replace hW0 := Lib.hid hW0
  have q0 := kb0.c 0 _ rfl
  have q1 := kb0.c 1 _ rfl
  have q2 := kb0.c 2 _ rfl
  have p0 := pb0.c 0 _ rfl
  have p1 := pb0.c 1 _ rfl
  have p2 := pb0.c 2 _ rfl
  clear kb0 pb0
  go_wp2_with fail
  refine (HS.out _).mono ?_
  rintro e w1 ⟨rfl, hb1⟩
  have hW1 := Lib.hid (hW0.out.trans (hb1.mono hW0.out.size))
  clear hb1
  go_wp2_with fail
  go_ret2
  exact ⟨rfl, hW1.out⟩

set_option maxHeartbeats 1000000 in
theorem specPatchContainer (o l m : Int) (d s : ByteArray) (f t : Int) (U : ByteArray) (size : Int) (w : World) (hd : d.size ≤ 1048576) (hs : s.size ≤ 1048576) (hU : U.size ≤ 1048576) :
    Calls Tryz.prog 33 #[.agg #[.int .i64 o, .int .i64 l, .int .i64 m], .string d, .string s, .agg #[.int .i64 f, .int .i64 t, .string U], .int .i64 size] w fun e w' => e = .returned (optV (replC o l m d.data.toList (contB s) f t U.data.toList size)) ∧ Below w.heap.size w w' := by
  have hW0 : Below w.heap.size w ((w.alloc (.cells #[.int .i64 o, .int .i64 l, .int .i64 m] 26)).alloc (.cells #[.int .i64 f, .int .i64 t, .string U] 43)) := ((Below.refl w.heap.size w).alloc (Nat.le_refl _) _).alloc (by simp) _
  have kb0 : KBn ((w.alloc (.cells #[.int .i64 o, .int .i64 l, .int .i64 m] 26)).alloc (.cells #[.int .i64 f, .int .i64 t, .string U] 43)) w.heap.size [.int .i64 o, .int .i64 l, .int .i64 m] := (KBn.start w 26 [.int .i64 o, .int .i64 l, .int .i64 m]).below ((Below.refl _ _).alloc (Nat.le_refl _) _)
  have pb0 : KBn ((w.alloc (.cells #[.int .i64 o, .int .i64 l, .int .i64 m] 26)).alloc (.cells #[.int .i64 f, .int .i64 t, .string U] 43)) (w.heap.size + 1) [.int .i64 f, .int .i64 t, .string U] := by
    have := KBn.start (w.alloc (.cells #[.int .i64 o, .int .i64 l, .int .i64 m] 26)) 43 [.int .i64 f, .int .i64 t, .string U]
    rw [World.size_alloc] at this
    exact this
  have HS := fun W => specReplaceRange o l m d s U f t size W hd hs hU
  obtain ⟨R, hR⟩ : ∃ R, (replC o l m d.data.toList (contB s) f t U.data.toList size) = R := ⟨_, rfl⟩
  rw [hR] at HS ⊢
  unfold optV at HS ⊢
  replace HS := Lib.hid HS
  clear hR
  go_enter Tryz.func33, Tryz.ntmps33
  go_upto_region 1 with (fail)
  obtain ⟨w2, hw2⟩ : ∃ W, (w.alloc (.cells #[.int .i64 o, .int .i64 l, .int .i64 m] 26)).alloc (.cells #[.int .i64 f, .int .i64 t, .string U] 43) = W := ⟨_, rfl⟩
  rw [hw2] at hW0 kb0 pb0 ⊢
  clear hw2
  replace hW0 := Lib.hid hW0
  have q0 := kb0.c 0 _ rfl
  have q1 := kb0.c 1 _ rfl
  have q2 := kb0.c 2 _ rfl
  have p0 := pb0.c 0 _ rfl
  have p1 := pb0.c 1 _ rfl
  have p2 := pb0.c 2 _ rfl
  clear kb0 pb0
  go_wp2_with fail
  refine (HS.out _).mono ?_
  rintro e w1 ⟨rfl, hb1⟩
  have hW1 := Lib.hid (hW0.out.trans (hb1.mono hW0.out.size))
  clear hb1
  go_wp2_with fail
  go_ret2
  exact ⟨rfl, hW1.out⟩

set_option maxHeartbeats 2000000 in
theorem lawFnExactPatchContainer (o : Int) (ho0 : (Lit.int .i64 o).wf = true) (l : Int) (hl0 : (Lit.int .i64 l).wf = true) (m : Int) (hm0 : (Lit.int .i64 m).wf = true) (x1 : ByteArray) (hx10 : x1.size ≤ maxLen) (x2 : ByteArray) (hx20 : x2.size ≤ maxLen) (f : Int) (hf0 : (Lit.int .i64 f).wf = true) (t : Int) (ht0 : (Lit.int .i64 t).wf = true) (U : ByteArray) (hU0 : U.size ≤ maxLen) (x4 : Int) (hx40 : (Lit.int .i64 x4).wf = true) (w : World) :
    Calls Tryz.prog 11 #[.agg #[.int .i64 o, .int .i64 l, .int .i64 m], .string x1, .string x2, .agg #[.int .i64 f, .int .i64 t, .string U], .int .i64 x4] w fun e w' => e = .returned (.bool true) ∧ Below w.heap.size w w' := by
  unfold maxLen at hx10 hx20 hU0
  clear ho0 hl0 hm0 hf0 ht0 hx40
  have hW0 : Below w.heap.size w ((w.alloc (.cells #[.int .i64 o, .int .i64 l, .int .i64 m] 23)).alloc (.cells #[.int .i64 f, .int .i64 t, .string U] 40)) := ((Below.refl w.heap.size w).alloc (Nat.le_refl _) _).alloc (by simp) _
  have kb0 : KBn ((w.alloc (.cells #[.int .i64 o, .int .i64 l, .int .i64 m] 23)).alloc (.cells #[.int .i64 f, .int .i64 t, .string U] 40)) w.heap.size [.int .i64 o, .int .i64 l, .int .i64 m] := (KBn.start w 23 [.int .i64 o, .int .i64 l, .int .i64 m]).below ((Below.refl _ _).alloc (Nat.le_refl _) _)
  have pb0 : KBn ((w.alloc (.cells #[.int .i64 o, .int .i64 l, .int .i64 m] 23)).alloc (.cells #[.int .i64 f, .int .i64 t, .string U] 40)) (w.heap.size + 1) [.int .i64 f, .int .i64 t, .string U] := by
    have := KBn.start (w.alloc (.cells #[.int .i64 o, .int .i64 l, .int .i64 m] 23)) 40 [.int .i64 f, .int .i64 t, .string U]
    rw [World.size_alloc] at this
    exact this
  by_cases hx1 : x1.size ≤ 1048576
  · have gx1 := decide_eq_false (p := (1048576 : Int) < x1.size) (by omega)
    have gx12 := decide_eq_false (p := 1048576 < x1.size) (by omega)
    by_cases hx2 : x2.size ≤ 1048576
    · have gx2 := decide_eq_false (p := (1048576 : Int) < x2.size) (by omega)
      have gx22 := decide_eq_false (p := 1048576 < x2.size) (by omega)
      by_cases hU : U.size ≤ 1048576
      · have hsz : (if (1048576 : Int) < U.size then (-1 : Int) else 1048576 - U.size) = 1048576 - U.size := by rw [if_neg (by omega)]
        have HZ := fun W => lawsSzPatch f t U 1048576 W hU0 (by omega) (by omega)
        rw [hsz] at HZ
        obtain ⟨lf, hlf⟩ : ∃ z : Int, 1048576 - (U.size : Int) = z := ⟨_, rfl⟩
        rw [hlf] at HZ
        have gl := decide_eq_false (p := lf < 0) (by omega)
        have HT := Lib.hid (fun W => lawsToSetting o l m W)
        have HP := Lib.hid (fun W => lawsToPatch f t U W)
        have HS := fun W => specPatchContainer o l m x1 x2 f t U x4 W hx1 hx2 hU
        have HI := fun W => implPatchContainer o l m x1 x2 f t U x4 W hx1 hx2 hU
        obtain ⟨R, hR⟩ : ∃ R, (replC o l m x1.data.toList (contB x2) f t U.data.toList x4) = R := ⟨_, rfl⟩
        rw [hR] at HS HI
        obtain ⟨T, hT⟩ : ∃ T, R.getD ByteArray.empty = T := ⟨_, rfl⟩
        obtain ⟨b, hb⟩ : ∃ b, R.isSome = b := ⟨_, rfl⟩
        unfold optV at HS HI
        rw [hT, hb] at HS HI
        replace HS := Lib.hid HS
        replace HI := Lib.hid HI
        replace HZ := Lib.hid HZ
        clear hR hT hb hsz hlf
        go_enter Tryz.func11, Tryz.ntmps11
        go_upto_region 1 with (fail)
        obtain ⟨w2, hw2⟩ : ∃ W, (w.alloc (.cells #[.int .i64 o, .int .i64 l, .int .i64 m] 23)).alloc (.cells #[.int .i64 f, .int .i64 t, .string U] 40) = W := ⟨_, rfl⟩
        rw [hw2] at hW0 kb0 pb0 ⊢
        clear hw2
        replace hW0 := Lib.hid hW0
        have q0 := kb0.c 0 _ rfl
        have q1 := kb0.c 1 _ rfl
        have q2 := kb0.c 2 _ rfl
        have p0 := pb0.c 0 _ rfl
        have p1 := pb0.c 1 _ rfl
        have p2 := pb0.c 2 _ rfl
        go_wp2_with fail
        refine (HZ.out _).mono ?_
        rintro e w3 ⟨rfl, hb3⟩
        have hW3 := Lib.hid (hW0.out.trans (hb3.mono hW0.out.size))
        have kb3 := kb0.below hb3
        have pb3 := pb0.below hb3
        clear hb3 kb0 pb0 hW0 q0 q1 q2 p0 p1 p2
        go_upto_region 9 with (fail)
        have q0 := kb3.c 0 _ rfl
        have q1 := kb3.c 1 _ rfl
        have q2 := kb3.c 2 _ rfl
        have p0 := pb3.c 0 _ rfl
        have p1 := pb3.c 1 _ rfl
        have p2 := pb3.c 2 _ rfl
        refine wp_region_cls (by kernel_rfl) (by kernel_rfl) ?_
        have c0 := clsCell q0
        have c1 := clsCell q1
        have c2 := clsCell q2
        have c3 := clsCell p0
        have c4 := clsCell p1
        have c5 := clsCell p2
        repeat (go_big_quiet_step (first | (go_at_call 16; exact clsCall (HT.out _)) | (go_at_call 34; exact clsCall (HP.out _)) | (go_at_call 33; exact clsCall (HS.out _))))
        refine wpQuiet_nil ?_
        rintro w4 ⟨⟨w4, hb4⟩, rfl⟩
        clear c0 c1 c2 c3 c4 c5 q0 q1 q2 p0 p1 p2
        have hW4 := Lib.hid (hW3.out.trans (hb4.mono hW3.out.size))
        have kb4 := kb3.below hb4
        have pb4 := pb3.below hb4
        clear hb4 kb3 pb3 hW3
        go_upto_region 10 with (fail)
        have q0 := kb4.c 0 _ rfl
        have q1 := kb4.c 1 _ rfl
        have q2 := kb4.c 2 _ rfl
        have p0 := pb4.c 0 _ rfl
        have p1 := pb4.c 1 _ rfl
        have p2 := pb4.c 2 _ rfl
        refine wp_region_cls (by kernel_rfl) (by kernel_rfl) ?_
        have c0 := clsCell q0
        have c1 := clsCell q1
        have c2 := clsCell q2
        have c3 := clsCell p0
        have c4 := clsCell p1
        have c5 := clsCell p2
        repeat (go_big_quiet_step (first | (go_at_call 16; exact clsCall (HT.out _)) | (go_at_call 34; exact clsCall (HP.out _)) | (go_at_call 35; exact clsCall (HI.out _))))
        refine wpQuiet_nil ?_
        rintro w5 ⟨⟨w5, hb5⟩, rfl⟩
        clear c0 c1 c2 c3 c4 c5 q0 q1 q2 p0 p1 p2
        have hW5 := Lib.hid (hW4.out.trans (hb5.mono hW4.out.size))
        clear hb5 kb4 pb4 hW4
        go_wp2_with fail
        go_ret
        exact ⟨rfl, hW5.out⟩
      · have hsz : (if (1048576 : Int) < U.size then (-1 : Int) else 1048576 - U.size) = -1 := by rw [if_pos (by omega)]
        have HZ := fun W => lawsSzPatch f t U 1048576 W hU0 (by omega) (by omega)
        rw [hsz] at HZ
        replace HZ := Lib.hid HZ
        clear hsz
        go_enter Tryz.func11, Tryz.ntmps11
        go_upto_region 1 with (fail)
        obtain ⟨w2, hw2⟩ : ∃ W, (w.alloc (.cells #[.int .i64 o, .int .i64 l, .int .i64 m] 23)).alloc (.cells #[.int .i64 f, .int .i64 t, .string U] 40) = W := ⟨_, rfl⟩
        rw [hw2] at hW0 kb0 pb0 ⊢
        clear hw2
        replace hW0 := Lib.hid hW0
        have q0 := kb0.c 0 _ rfl
        have q1 := kb0.c 1 _ rfl
        have q2 := kb0.c 2 _ rfl
        have p0 := pb0.c 0 _ rfl
        have p1 := pb0.c 1 _ rfl
        have p2 := pb0.c 2 _ rfl
        go_wp2_with fail
        refine (HZ.out _).mono ?_
        rintro e w3 ⟨rfl, hb3⟩
        have hW3 := Lib.hid (hW0.out.trans (hb3.mono hW0.out.size))
        clear hb3 kb0 pb0 hW0 q0 q1 q2 p0 p1 p2
        go_wp2_with fail
        go_ret
        exact ⟨rfl, hW3.out⟩
    · have gx2 := decide_eq_true (p := (1048576 : Int) < x2.size) (by omega)
      have gx22 := decide_eq_true (p := 1048576 < x2.size) (by omega)
      go_enter Tryz.func11, Tryz.ntmps11
      go_upto_region 1 with (fail)
      obtain ⟨w2, hw2⟩ : ∃ W, (w.alloc (.cells #[.int .i64 o, .int .i64 l, .int .i64 m] 23)).alloc (.cells #[.int .i64 f, .int .i64 t, .string U] 40) = W := ⟨_, rfl⟩
      rw [hw2] at hW0 kb0 pb0 ⊢
      clear hw2
      replace hW0 := Lib.hid hW0
      clear kb0 pb0
      go_wp2_with fail
      go_ret
      exact ⟨rfl, hW0.out⟩
  · have gx1 := decide_eq_true (p := (1048576 : Int) < x1.size) (by omega)
    have gx12 := decide_eq_true (p := 1048576 < x1.size) (by omega)
    go_enter Tryz.func11, Tryz.ntmps11
    go_upto_region 1 with (fail)
    obtain ⟨w2, hw2⟩ : ∃ W, (w.alloc (.cells #[.int .i64 o, .int .i64 l, .int .i64 m] 23)).alloc (.cells #[.int .i64 f, .int .i64 t, .string U] 40) = W := ⟨_, rfl⟩
    rw [hw2] at hW0 kb0 pb0 ⊢
    clear hw2
    replace hW0 := Lib.hid hW0
    clear kb0 pb0
    go_wp2_with fail
    go_ret
    exact ⟨rfl, hW0.out⟩

end Go.Proofs.YtopklampiaecdaaGreat
