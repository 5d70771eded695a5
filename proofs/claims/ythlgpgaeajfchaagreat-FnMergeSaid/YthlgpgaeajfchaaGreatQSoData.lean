/-
 The laws' own helpers: the data of a container, a range.
-/
import Derived.Test.YthlgpgaeajfchaaGreatQPropR
import Derived.Test.YthlgpgaeajfchaaGreatQImplData
import Derived.Test.YthlgpgaeajfchaaGreatQTreeMem

namespace Go.Proofs.YthlgpgaeajfchaaGreat
open Go.RowKit
set_option linter.unusedVariables false
set_option linter.unusedSimpArgs false
set_option maxRecDepth 100000

theorem lawsSoData (o l m : Int) (d s : ByteArray) (w : World) (hd : d.size ≤ 1048576) (hs : s.size ≤ 1048576) :
  Calls Tryz.prog 18 #[.agg #[.int .i64 o, .int .i64 l, .int .i64 m], .string d, .string s] w fun e w' => e = .returned (.string (bsL ((contD o l m d.data.toList (contB s)).getD []))) ∧ Below w.heap.size w w' := by
 have hW0 := Lib.hid ((Below.refl w.heap.size w).alloc (Nat.le_refl _) (.cells #[.int .i64 o, .int .i64 l, .int .i64 m] 24))
 have kb0 := KBn.start w 24 [.int .i64 o, .int .i64 l, .int .i64 m]
 have HS := Lib.hid (fun W => implContainerData o l m d s W hd hs)
 obtain ⟨R, hR⟩ : ∃ R, bsL ((contD o l m d.data.toList (contB s)).getD []) = R := ⟨_, rfl⟩
 have HS' : Hid (∀ W, Calls Tryz.prog 16 #[.agg #[.int .i64 o, .int .i64 l, .int .i64 m], .string d, .string s] W fun e w' => e = .returned (.tuple #[.string R, .bool (contD o l m d.data.toList (contB s)).isSome]) ∧ Below W.heap.size W w') := Lib.hid (by rw [← hR]; exact HS.out)
 rw [hR]
 clear hR HS
 go_enter Tryz.func18, Tryz.ntmps18
 have q0 := kb0.c 0 _ rfl
 have q1 := kb0.c 1 _ rfl
 have q2 := kb0.c 2 _ rfl
 clear kb0
 go_wp2_with fail
 refine (HS'.out _).mono ?_
 rintro e w1 ⟨rfl, hb1⟩
 have hW1 := Lib.hid (hW0.out.trans (hb1.mono hW0.out.size))
 clear hb1
 go_wp2_with fail
 go_ret
 exact ⟨rfl, hW1.out⟩

theorem lawsSoRange (f t n : Int) (b : Bool) (w : World) (hb : b = true ↔ 0 ≤ f ∧ f ≤ t ∧ t ≤ n) :
  Calls Tryz.prog 37 #[.int .i64 f, .int .i64 t, .int .i64 n] w fun e w' => e = .returned (.bool b) ∧ w = w' := by
 have HB := Lib.hid hb
 clear hb
 by_cases h1 : 0 ≤ f
 ·have g1 := decide_eq_true (p := (0 : Int) ≤ f) h1
  by_cases h2 : f ≤ t
  ·have g2 := decide_eq_true (p := f ≤ t) h2
   by_cases h3 : t ≤ n
   ·have g3 := decide_eq_true (p := t ≤ n) h3
    have hbt : b = true := HB.out.2 ⟨h1, h2, h3⟩
    subst hbt
    go_enter Tryz.func37, Tryz.ntmps37
    go_wp2_with fail
    go_ret
    exact ⟨rfl, rfl⟩
   ·have g3 := decide_eq_false (p := t ≤ n) h3
    have hbt : b = false := by cases b with | false => rfl | true => exact absurd (HB.out.1 rfl).2.2 h3
    subst hbt
    go_enter Tryz.func37, Tryz.ntmps37
    go_wp2_with fail
    go_ret
    exact ⟨rfl, rfl⟩
  ·have g2 := decide_eq_false (p := f ≤ t) h2
   have hbt : b = false := by cases b with | false => rfl | true => exact absurd (HB.out.1 rfl).2.1 h2
   subst hbt
   go_enter Tryz.func37, Tryz.ntmps37
   go_wp2_with fail
   go_ret
   exact ⟨rfl, rfl⟩
 ·have g1 := decide_eq_false (p := (0 : Int) ≤ f) h1
  have hbt : b = false := by cases b with | false => rfl | true => exact absurd (HB.out.1 rfl).1 h1
  subst hbt
  go_enter Tryz.func37, Tryz.ntmps37
  go_wp2_with fail
  go_ret
  exact ⟨rfl, rfl⟩

end Go.Proofs.YthlgpgaeajfchaaGreat
