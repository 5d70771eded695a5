/-
 The program's ReadRange.
-/
import Derived.Test.YthlgpgaeajfchaaGreatQMergeP
import Derived.Test.YthlgpgaeajfchaaGreatQPropR
import Derived.Test.YthlgpgaeajfchaaGreatQEditP
import Derived.Test.YthlgpgaeajfchaaGreatQImplData
import Derived.Test.YthlgpgaeajfchaaGreatQTreeMem

namespace Go.Proofs.YthlgpgaeajfchaaGreat
open Go.RowKit
set_option linter.unusedVariables false
set_option linter.unusedSimpArgs false
set_option maxRecDepth 100000

def readC (o l m : Int) (d : List UInt8) (ob : Option (List Blk)) (f t : Int) : Option ByteArray :=
 match contD o l m d ob with
 | some D => if 0 ≤ f ∧ f ≤ t ∧ t ≤ (D.length : Int) then some (bsL ((D.drop f.toNat).take (t.toNat - f.toNat))) else none
 | none => none

set_option maxHeartbeats 4000000 in
theorem implReadRange (o l m : Int) (d s : ByteArray) (f t : Int) (w : World) (hd : d.size ≤ 1048576) (hs : s.size ≤ 1048576) :
  Calls Tryz.prog 28 #[.agg #[.int .i64 o, .int .i64 l, .int .i64 m], .string d, .string s, .int .i64 f, .int .i64 t] w fun e w' => e = .returned (optV (readC o l m d.data.toList (contB s) f t)) ∧ Below w.heap.size w w' := by
 have hW0 := Lib.hid ((Below.refl w.heap.size w).alloc (Nat.le_refl _) (.cells #[.int .i64 o, .int .i64 l, .int .i64 m] 24))
 have kb0 := KBn.start w 24 [.int .i64 o, .int .i64 l, .int .i64 m]
 have HS := fun W => implContainerData o l m d s W hd hs
 have q0 := kb0.c 0 _ rfl
 have q1 := kb0.c 1 _ rfl
 have q2 := kb0.c 2 _ rfl
 clear kb0
 rcases hD : contD o l m d.data.toList (contB s) with _ | D
 ·have hA : readC o l m d.data.toList (contB s) f t = none := by unfold readC; rw [hD]
  rw [hA]
  rw [hD] at HS
  simp only [Option.getD_none, Option.isSome_none] at HS
  replace HS := Lib.hid HS
  clear hA hD
  go_enter Tryz.func28, Tryz.ntmps28
  go_wp2_with fail
  refine (HS.out _).mono ?_
  rintro e w1 ⟨rfl, hb1⟩
  have hW1 := Lib.hid (hW0.out.trans (hb1.mono hW0.out.size))
  clear hb1 q0 q1 q2
  go_wp2_with fail
  go_ret2
  exact ⟨rfl, hW1.out⟩
 ·have hDl := (contD_some hD).2
  have hA : readC o l m d.data.toList (contB s) f t = if 0 ≤ f ∧ f ≤ t ∧ t ≤ (D.length : Int) then some (bsL ((D.drop f.toNat).take (t.toNat - f.toNat))) else none := by unfold readC; rw [hD]
  rw [hA]
  rw [hD] at HS
  simp only [Option.getD_some, Option.isSome_some] at HS
  obtain ⟨Y, hY⟩ : ∃ Y, bsL D = Y := ⟨_, rfl⟩
  have hYs : Y.size = D.length := by rw [← hY]; simp [bsL, ByteArray.size]
  rw [hY] at HS
  replace HS := Lib.hid HS
  obtain ⟨z, hz⟩ : ∃ z, D.length = z := ⟨_, rfl⟩
  rw [hz] at hYs hDl ⊢
  clear hA hD
  by_cases h1 : f < 0
  ·have g1 : decide (f < 0) = true := decide_eq_true h1
   rw [if_neg (by omega)]
   clear hY hz
   go_enter Tryz.func28, Tryz.ntmps28
   go_wp2_with fail
   refine (HS.out _).mono ?_
   rintro e w1 ⟨rfl, hb1⟩
   have hW1 := Lib.hid (hW0.out.trans (hb1.mono hW0.out.size))
   clear hb1 q0 q1 q2
   go_wp2_with fail
   go_ret2
   exact ⟨rfl, hW1.out⟩
  ·have g1 : decide (f < 0) = false := decide_eq_false h1
   by_cases h2 : t < f
   ·have g2 : decide (t < f) = true := decide_eq_true h2
    rw [if_neg (by omega)]
    clear hY hz
    go_enter Tryz.func28, Tryz.ntmps28
    go_wp2_with fail
    refine (HS.out _).mono ?_
    rintro e w1 ⟨rfl, hb1⟩
    have hW1 := Lib.hid (hW0.out.trans (hb1.mono hW0.out.size))
    clear hb1 q0 q1 q2
    go_wp2_with fail
    go_ret2
    exact ⟨rfl, hW1.out⟩
   ·have g2 : decide (t < f) = false := decide_eq_false h2
    by_cases h3 : (z : Int) < t
    ·have g3 : decide ((z : Int) < t) = true := decide_eq_true h3
     rw [if_neg (by omega)]
     clear hY hz
     go_enter Tryz.func28, Tryz.ntmps28
     go_wp2_with fail
     refine (HS.out _).mono ?_
     rintro e w1 ⟨rfl, hb1⟩
     have hW1 := Lib.hid (hW0.out.trans (hb1.mono hW0.out.size))
     clear hb1 q0 q1 q2
     go_wp2_with fail
     go_ret2
     exact ⟨rfl, hW1.out⟩
    ·rw [if_pos (by omega)]
     obtain ⟨fn, rfl⟩ : ∃ n : Nat, f = n := ⟨f.toNat, by omega⟩
     obtain ⟨tn, rfl⟩ : ∃ n : Nat, t = n := ⟨t.toNat, by omega⟩
     have e1 : ((fn : Int)).toNat = fn := rfl
     have e2 : ((tn : Int)).toNat = tn := rfl
     rw [e1, e2]
     have g3 : decide ((z : Int) < (tn : Int)) = false := decide_eq_false (by omega)
     have g4 : decide (z < tn) = false := decide_eq_false (by omega)
     have g5 : decide (tn < fn) = false := decide_eq_false (by omega)
     have i1 : (0 : Int) ≤ fn := by omega
     have i2 : (fn : Int) ≤ tn := by omega
     have i3 : (tn : Int) ≤ z := by omega
     obtain ⟨X, hX⟩ : ∃ X, Y.extract fn tn = X := ⟨_, rfl⟩
     have hX2 : bsL ((D.drop fn).take (tn - fn)) = X := by rw [← hX, ← hY, bsL_cut]
     rw [hX2]
     clear hY hz e1 e2 hX2
     go_enter Tryz.func28, Tryz.ntmps28
     go_wp2_with fail
     refine (HS.out _).mono ?_
     rintro e w1 ⟨rfl, hb1⟩
     have hW1 := Lib.hid (hW0.out.trans (hb1.mono hW0.out.size))
     clear hb1 q0 q1 q2
     go_wp2_with fail
     go_ret2
     exact ⟨rfl, hW1.out⟩

end Go.Proofs.YthlgpgaeajfchaaGreat
