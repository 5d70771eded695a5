/-
  The reference's InsertData and DeleteRange.
-/
import Derived.Test.YtopklampiaecdaaGreatReplSpec
import Derived.Test.YtopklampiaecdaaGreatTreeMem
namespace Go.Proofs.YtopklampiaecdaaGreat
open Go.RowKit
set_option linter.unusedVariables false
set_option linter.unusedSimpArgs false
set_option maxRecDepth 100000

set_option maxHeartbeats 1000000 in
theorem specInsertData (o l m : Int) (d s : ByteArray) (a : Int) (U : ByteArray) (size : Int) (w : World) (hd : d.size ≤ 1048576) (hs : s.size ≤ 1048576) (hU : U.size ≤ 1048576) :
    Calls Tryz.prog 30 #[.agg #[.int .i64 o, .int .i64 l, .int .i64 m], .string d, .string s, .int .i64 a, .string U, .int .i64 size] w fun e w' => e = .returned (optV (replC o l m d.data.toList (contB s) a a U.data.toList size)) ∧ Below w.heap.size w w' := by
  have hW0 := Lib.hid ((Below.refl w.heap.size w).alloc (Nat.le_refl _) (.cells #[.int .i64 o, .int .i64 l, .int .i64 m] 26))
  have kb0 := KBn.start w 26 [.int .i64 o, .int .i64 l, .int .i64 m]
  have HS := fun W => specReplaceRange o l m d s U a a size W hd hs hU
  obtain ⟨R, hR⟩ : ∃ R, (replC o l m d.data.toList (contB s) a a U.data.toList size) = R := ⟨_, rfl⟩
  have hR' : (replC o l m d.data.toList (contB s) a a U.data.toList size) = R := hR
  rw [hR'] at HS
  rw [hR]
  unfold optV at HS ⊢
  replace HS := Lib.hid HS
  clear hR hR'
  go_enter Tryz.func30, Tryz.ntmps30
  have q0 := kb0.c 0 _ rfl
  have q1 := kb0.c 1 _ rfl
  have q2 := kb0.c 2 _ rfl
  clear kb0
  go_wp2_with fail
  refine (HS.out _).mono ?_
  rintro e w1 ⟨rfl, hb1⟩
  have hW1 := Lib.hid (hW0.out.trans (hb1.mono hW0.out.size))
  clear hb1
  go_wp2_with fail
  go_ret2
  exact ⟨rfl, hW1.out⟩

set_option maxHeartbeats 1000000 in
theorem specDeleteRange (o l m : Int) (d s : ByteArray) (f t : Int) (w : World) (hd : d.size ≤ 1048576) (hs : s.size ≤ 1048576) :
    Calls Tryz.prog 28 #[.agg #[.int .i64 o, .int .i64 l, .int .i64 m], .string d, .string s, .int .i64 f, .int .i64 t] w fun e w' => e = .returned (optV (replC o l m d.data.toList (contB s) f t [] 1)) ∧ Below w.heap.size w w' := by
  have hW0 := Lib.hid ((Below.refl w.heap.size w).alloc (Nat.le_refl _) (.cells #[.int .i64 o, .int .i64 l, .int .i64 m] 26))
  have kb0 := KBn.start w 26 [.int .i64 o, .int .i64 l, .int .i64 m]
  have HS := fun W => specReplaceRange o l m d s ⟨#[]⟩ f t 1 W hd hs (Nat.zero_le _)
  obtain ⟨R, hR⟩ : ∃ R, (replC o l m d.data.toList (contB s) f t [] 1) = R := ⟨_, rfl⟩
  have hR' : (replC o l m d.data.toList (contB s) f t (ByteArray.mk #[]).data.toList 1) = R := hR
  rw [hR'] at HS
  rw [hR]
  unfold optV at HS ⊢
  replace HS := Lib.hid HS
  clear hR hR'
  go_enter Tryz.func28, Tryz.ntmps28
  have q0 := kb0.c 0 _ rfl
  have q1 := kb0.c 1 _ rfl
  have q2 := kb0.c 2 _ rfl
  clear kb0
  go_wp2_with fail
  refine (HS.out _).mono ?_
  rintro e w1 ⟨rfl, hb1⟩
  have hW1 := Lib.hid (hW0.out.trans (hb1.mono hW0.out.size))
  clear hb1
  go_wp2_with fail
  go_ret2
  exact ⟨rfl, hW1.out⟩

end Go.Proofs.YtopklampiaecdaaGreat
