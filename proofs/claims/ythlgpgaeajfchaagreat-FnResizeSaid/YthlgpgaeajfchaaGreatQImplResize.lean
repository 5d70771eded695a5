/-
 Taken out of ImplData.
-/
import Derived.Test.YthlgpgaeajfchaaGreatQImplMk
import Derived.Test.YthlgpgaeajfchaaGreatQImplData
import Derived.Test.YthlgpgaeajfchaaGreatQSpecData

namespace Go.Proofs.YthlgpgaeajfchaaGreat
open Go.RowKit
set_option linter.unusedVariables false
set_option linter.unusedSimpArgs false
set_option maxRecDepth 100000

set_option maxHeartbeats 2000000 in
theorem implResizeBlocks (o l m size : Int) (d s : ByteArray) (w : World) (hd : d.size ≤ 1048576) (hs : s.size ≤ 1048576) :
  Calls Tryz.prog 14 #[.agg #[.int .i64 o, .int .i64 l, .int .i64 m], .string d, .string s, .int .i64 size] w fun e w' => e = .returned (optV (resizeC o l m d.data.toList (contB s) size)) ∧ Below w.heap.size w w' := by
 have hW0 := Lib.hid ((Below.refl w.heap.size w).alloc (Nat.le_refl _) (.cells #[.int .i64 o, .int .i64 l, .int .i64 m] 24))
 have kb0 := Lib.hid (KBn.start w 24 [.int .i64 o, .int .i64 l, .int .i64 m])
 have HC := fun W => implContainerData o l m d s W hd hs
 unfold resizeC
 rcases hD : contD o l m d.data.toList (contB s) with _ | D
 ·simp only [hD] at HC
  replace HC := Lib.hid HC
  clear hD
  go_enter Tryz.func14, Tryz.ntmps14
  go_wp2_with fail
  refine (HC.out _).mono ?_
  rintro e w1 ⟨rfl, hb1⟩
  have hW1 := Lib.hid (hW0.out.trans (hb1.mono hW0.out.size))
  clear hb1
  go_wp2_with fail
  refine bodyPost_ret (v := .tuple #[.string ⟨#[]⟩, .bool false]) (by simp [results, Tryz.results14, go_sem]) rfl ?_
  exact ⟨rfl, hW1.out⟩
 ·simp only [hD, Option.getD_some, Option.isSome_some] at HC
  obtain ⟨hf, hDl⟩ := contD_some hD
  have HM := fun W => implMakeAny o l m size d D W hd hf hDl
  simp only
  obtain ⟨R, hR⟩ : ∃ R, (if (1 ≤ size ∧ size ≤ 64) ∧ (D.length : Int) ≤ size * 40 ∧ D.length ≤ 2000 then some (textsFrom 0 ((kdict o l m d.data.toList).split size.toNat D)) else none) = R := ⟨_, rfl⟩
  rw [hR] at HM ⊢
  obtain ⟨X, hX⟩ : ∃ X, bsL D = X := ⟨_, rfl⟩
  rw [hX] at HM HC
  unfold optV at HM ⊢
  replace HC := Lib.hid HC
  replace HM := Lib.hid HM
  clear hD hf hDl hR hX
  go_enter Tryz.func14, Tryz.ntmps14
  go_wp2_with fail
  refine (HC.out _).mono ?_
  rintro e w1 ⟨rfl, hb1⟩
  have hW1 := Lib.hid (hW0.out.trans (hb1.mono hW0.out.size))
  have kb1 := kb0.out.below hb1
  clear hb1 kb0 hW0
  have q0 := kb1.c 0 _ rfl
  have q1 := kb1.c 1 _ rfl
  have q2 := kb1.c 2 _ rfl
  clear kb1
  go_wp2_with fail
  refine (HM.out _).mono ?_
  rintro e w2 ⟨rfl, hb2⟩
  have hW2 := Lib.hid (hW1.out.trans (hb2.mono hW1.out.size))
  clear hb2 hW1 q0 q1 q2
  go_wp2_with fail
  go_ret2
  exact ⟨rfl, hW2.out⟩

end Go.Proofs.YthlgpgaeajfchaaGreat
