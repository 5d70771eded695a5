/-
  The program's advance: what is known after a code, whose pairs are used up.
  The program's wordText: the word of a code that can follow.
-/
import Derived.Test.YthlgpgaeajfchaaGreatDoorImplKnown
import Derived.Test.YthlgpgaeajfchaaGreatDoorImplForget
import Derived.Test.YthlgpgaeajfchaaGreatDoorTreeMem

namespace Go.Proofs.YthlgpgaeajfchaaGreatDoor
open Go.RowKit
set_option linter.unusedVariables false
set_option maxRecDepth 100000

theorem Keep.more {S S' : Nat → Prop} {w w' : World} (h : Keep S w w') (hs : ∀ g, S g → S' g) : Keep S' w w' := ⟨h.os, h.tape, h.output, h.size, fun g hg hn => h.block g hg (fun e => hn (hs g e))⟩

theorem Keep.setCell {S : Nat → Prop} {w w' : World} (h : Keep S w w') {p : Addr} (hp : S p.block) (u : Value) : Keep S w (w'.setCell p u) := h.trans (Keep.of_set (S := S) hp u) (fun _ _ e => e)

theorem Keep.set6 {S : Nat → Prop} {w w' : World} {H : Nat} (h : Keep S w w') (hp : S H) (a b c d e f : Value) : Keep S w (set6 w' H a b c d e f) := by
  unfold Go.Proofs.YthlgpgaeajfchaaGreatDoor.set6
  exact (((((h.setCell hp _).setCell hp _).setCell hp _).setCell hp _).setCell hp _).setCell hp _

/-- What lies above does not count. -/
theorem App.keep {w w1 w2 : World} {v v1 : Value} (h : App w w1 v v1) (hk : Keep (fun g => w.heap.size ≤ g) w1 w2) : App w w2 v v1 := by
  refine ⟨⟨hk.os.trans h.grow.os, hk.tape.trans h.grow.tape, hk.output.trans h.grow.output, Nat.le_trans h.grow.size hk.size, fun g hg hn => ?_⟩, h.at_⟩
  exact (hk.block g (Nat.lt_of_lt_of_le hg h.grow.size) (by omega)).trans (h.grow.block g hg hn)

theorem App.of_below {w w1 : World} {v : Value} (h : Below w.heap.size w w1) : App w w1 v v := (App.refl w v).keep (Keep.of_below h)

/-- An append leads to what was there before all but the row. -/
theorem App.out {w w1 : World} {v v1 : Value} {B : Nat} (h : App w w1 v v1) (hB : B ≤ w.heap.size) (hv : ∀ g, v.ownBlock = some g → B ≤ g) : Below B w w1 := (Below.refl _ _).grown h.grow hB hv

theorem Keep.of_below2 {w w' : World} {B : Nat} (h : Below B w w') : Keep (fun g => B ≤ g) w w' := ⟨h.os, h.tape, h.output, h.size, fun g _ hg => h.block g (by omega)⟩

set_option maxHeartbeats 4000000 in
theorem implAdvanceClear (k : Kn) (A : Option Addr) (c base : Nat) (w : World) (h : k.Valid) (hown : k.Own w base A c) :
    Calls Tryz.prog 148 #[k.val A c, .int .i64 (k.clear : Int), .int .u8 0] w fun e w' => e = .returned (k.cleared.val A c) ∧ k.cleared.Own w' base A c ∧ Below w.heap.size w w' := by
  have hkeep := h.keep
  have hpw := h.pow
  have hroom := h.room
  have hlen : (k.ps.take k.base).length = k.base := by rw [List.length_take]; omega
  have hcap := hown.cap
  have HC := fun W => implClearCode k.o k.l k.m W h.sv
  have hz : 2 ^ k.l = k.clear := rfl
  rw [hz] at HC
  obtain ⟨z, hz2⟩ : ∃ z, k.clear = z := ⟨_, rfl⟩
  rw [hz2] at HC ⊢
  have hpre : Hid (∀ W, k.Own W base A c → k.cleared.Own W base A c) := Lib.hid (fun W hW => by
    have h1 := own_pre' (m := k.base) hW hkeep
    show W.ownsRow base 123 2 (.slice A (k.ps.take k.base).length c) (k.ps.take k.base).length (cellsP (k.ps.take k.base))
    rw [hlen, cellsP_take]
    exact h1)
  have hval : k.cleared.val A c = .agg #[.int .i64 (k.o : Int), .int .i64 (k.l : Int), .int .i64 (k.m : Int), .slice A k.base c, .int .i64 (k.base : Int), .int .i64 (-1)] := by
    unfold Kn.val
    show Value.agg #[.int .i64 (k.o : Int), .int .i64 (k.l : Int), .int .i64 (k.m : Int), .slice A (k.ps.take k.base).length c, .int .i64 (k.base : Int), .int .i64 (-1)] = _
    rw [hlen]
  rw [hval]
  unfold Kn.val
  obtain ⟨n, hn⟩ : ∃ n, k.ps.length = n := ⟨_, rfl⟩
  obtain ⟨b, hb⟩ : ∃ x, k.base = x := ⟨_, rfl⟩
  obtain ⟨q, hq⟩ : ∃ x, k.lastI = x := ⟨_, rfl⟩
  rw [hn, hb] at hkeep
  rw [hn] at hcap hroom
  rw [hn, hb, hq]
  have hbc : b ≤ c := by omega
  have hb1023 : b ≤ 1023 := by omega
  have hzb : z ≤ 256 := by omega
  have kb0 := (KB.start w 48 (.int .i64 (k.o : Int)) (.int .i64 (k.l : Int)) (.int .i64 (k.m : Int)) (.slice A n c) (.int .i64 (b : Int)) (.int .i64 q)).alloc (.cells #[.int .i64 0, .int .i64 0, .int .i64 0, .slice none 0 0, .int .i64 0, .int .i64 0] 48)
  have kr0 := KB.start (w.alloc (.cells #[.int .i64 (k.o : Int), .int .i64 (k.l : Int), .int .i64 (k.m : Int), .slice A n c, .int .i64 (b : Int), .int .i64 q] 48)) 48 (.int .i64 0) (.int .i64 0) (.int .i64 0) (.slice none 0 0) (.int .i64 0) (.int .i64 0)
  rw [World.size_alloc] at kr0
  have hW0 := ((Below.refl w.heap.size w).alloc (Nat.le_refl _) (.cells #[.int .i64 (k.o : Int), .int .i64 (k.l : Int), .int .i64 (k.m : Int), .slice A n c, .int .i64 (b : Int), .int .i64 q] 48)).alloc (by simp) (.cells #[.int .i64 0, .int .i64 0, .int .i64 0, .slice none 0 0, .int .i64 0, .int .i64 0] 48)
  have hown' := Lib.hid (fun (W : World) (hW : Below w.heap.size w W) => hpre.out W (hown.below hW (Nat.le_refl _)))
  replace HC := Lib.hid HC
  clear hz hz2 hpw hroom hlen hval h hown hn hb hq hpre hcap
  go_enter Tryz.func148, Tryz.ntmps148
  go_upto_region 1 with (fail)
  obtain ⟨w2, hw2⟩ : ∃ W, (w.alloc (.cells #[.int .i64 (k.o : Int), .int .i64 (k.l : Int), .int .i64 (k.m : Int), .slice A n c, .int .i64 (b : Int), .int .i64 q] 48)).alloc (.cells #[.int .i64 0, .int .i64 0, .int .i64 0, .slice none 0 0, .int .i64 0, .int .i64 0] 48) = W := ⟨_, rfl⟩
  rw [hw2] at kb0 kr0 hW0 ⊢
  clear hw2
  obtain ⟨⟨q0, q1, q2, q3, q4, q5⟩, z0, z1, z2, z3, z4, z5⟩ := kb0
  go_wp2_with fail
  refine (HC.out _).mono ?_
  rintro e w3 ⟨rfl, hb3⟩
  have hW3 := hW0.trans (hb3.mono hW0.size)
  have kb3 := KB.below ⟨⟨q0, q1, q2, q3, q4, q5⟩, z0, z1, z2, z3, z4, z5⟩ hb3
  have kr3 := kr0.below hb3
  clear q0 q1 q2 q3 q4 q5 z0 z1 z2 z3 z4 z5 hb3 kr0 hW0
  have hlt3 := kr3.lt
  have hfin := below_set6 (H := w.heap.size + 1) ((hW3.setCell (p := ⟨w.heap.size, 3, none⟩) (Nat.le_refl _) (.slice A b c)).setCell (p := ⟨w.heap.size, 5, none⟩) (Nat.le_refl _) (.int .i64 (-1))) (by omega) (.int .i64 (k.o : Int)) (.int .i64 (k.l : Int)) (.int .i64 (k.m : Int)) (.slice A b c) (.int .i64 (b : Int)) (.int .i64 (-1))
  replace hfin := Lib.hid hfin
  replace hW3 := Lib.hid hW3
  obtain ⟨⟨q0, q1, q2, q3, q4, q5⟩, z0, z1, z2, z3, z4, z5⟩ := kb3
  obtain ⟨⟨r0, r1, r2, r3, r4, r5⟩, y0, y1, y2, y3, y4, y5⟩ := kr3
  go_wp2_with fail
  refine bodyPost_ret (v := .agg #[.int .i64 (k.o : Int), .int .i64 (k.l : Int), .int .i64 (k.m : Int), .slice A b c, .int .i64 (b : Int), .int .i64 (-1)]) (by simp [results, Tryz.results148, go_sem, r0, r1, r2, r3, r4, r5]) rfl ?_
  exact ⟨rfl, hown'.out _ hfin.out, hfin.out⟩

set_option maxHeartbeats 8000000 in
theorem implAdvance (k : Kn) (A : Option Addr) (c base x y : Nat) (w : World) (h : k.Valid) (hown : k.Own w base A c) (hbase : base ≤ w.heap.size) (hx : k.can x) (hy : ((k.any x).headD 0).toNat = y) :
    Calls Tryz.prog 148 #[k.val A c, .int .i64 (x : Int), .int .u8 (y : Int)] w fun e w' => ∃ A' c', e = .returned ((k.after x).val A' c') ∧ (k.after x).Own w' base A' c' ∧ App w w' (.slice A k.ps.length c) (.slice A' (k.after x).ps.length c') := by
  have hpw := h.pow
  have hroom := h.room
  have hlen : (cellsP k.ps).length = k.ps.length * 2 := cellsP_length _
  have HC := fun W => implClearCode k.o k.l k.m W h.sv
  have hz : 2 ^ k.l = k.clear := rfl
  rw [hz] at HC
  have hxc := Kn.can_ne_clear h hx
  have hy256 : y < 256 := by rw [← hy]; exact UInt8.toNat_lt _
  obtain ⟨z, hz2⟩ : ∃ z, k.clear = z := ⟨_, rfl⟩
  rw [hz2] at HC hxc
  have e1 : ((x : Int) == (z : Int)) = false := by rw [beq_eq_false_iff_ne]; omega
  have e2 : decide ((x : Int) = (z : Int)) = false := decide_eq_false (by omega)
  have e3 : (x == z) = false := by rw [beq_eq_false_iff_ne]; omega
  have e4 : decide (x = z) = false := decide_eq_false (by omega)
  have e5 : ¬ (x : Int) = z := by omega
  rcases hgb : decide k.grows with _ | _
  · have hg : ¬ k.grows := of_decide_eq_false hgb
    have hk : k.after x = { k with last := some x } := by unfold Kn.after; rw [if_neg hg]
    rw [hk]
    have HG := fun W => implGrows k A c false W h (bfalse hg)
    have hvals : ({ k with last := some x } : Kn).val A c = .agg #[.int .i64 (k.o : Int), .int .i64 (k.l : Int), .int .i64 (k.m : Int), .slice A k.ps.length c, .int .i64 (k.base : Int), .int .i64 (x : Int)] := rfl
    have hown' : ∀ W, Below w.heap.size w W → ({ k with last := some x } : Kn).Own W base A c := fun (W : World) (hW : Below w.heap.size w W) => hown.below hW (Nat.le_refl _)
    have hpsl : ({ k with last := some x } : Kn).ps.length = k.ps.length := rfl
    obtain ⟨k2, hk2⟩ : ∃ k2 : Kn, { k with last := some x } = k2 := ⟨_, rfl⟩
    rw [hk2] at hvals hown' hpsl ⊢
    rw [hpsl]
    replace hown' := Lib.hid hown'
    unfold Kn.val at HG ⊢
    obtain ⟨n, hn⟩ : ∃ n, k.ps.length = n := ⟨_, rfl⟩
    obtain ⟨b, hb⟩ : ∃ x, k.base = x := ⟨_, rfl⟩
    obtain ⟨q, hq⟩ : ∃ x, k.lastI = x := ⟨_, rfl⟩
    rw [hn, hb, hq] at HG
    rw [hn, hb] at hvals
    rw [hn, hb, hq]
    replace hvals := Lib.hid hvals
    clear hk2 hpsl
    have kb0 := (KB.start w 48 (.int .i64 (k.o : Int)) (.int .i64 (k.l : Int)) (.int .i64 (k.m : Int)) (.slice A n c) (.int .i64 (b : Int)) (.int .i64 q)).alloc (.cells #[.int .i64 0, .int .i64 0, .int .i64 0, .slice none 0 0, .int .i64 0, .int .i64 0] 48)
    have kr0 := KB.start (w.alloc (.cells #[.int .i64 (k.o : Int), .int .i64 (k.l : Int), .int .i64 (k.m : Int), .slice A n c, .int .i64 (b : Int), .int .i64 q] 48)) 48 (.int .i64 0) (.int .i64 0) (.int .i64 0) (.slice none 0 0) (.int .i64 0) (.int .i64 0)
    rw [World.size_alloc] at kr0
    have hW0 := ((Below.refl w.heap.size w).alloc (Nat.le_refl _) (.cells #[.int .i64 (k.o : Int), .int .i64 (k.l : Int), .int .i64 (k.m : Int), .slice A n c, .int .i64 (b : Int), .int .i64 q] 48)).alloc (by simp) (.cells #[.int .i64 0, .int .i64 0, .int .i64 0, .slice none 0 0, .int .i64 0, .int .i64 0] 48)
    replace HC := Lib.hid HC
    replace HG := Lib.hid HG
    have hn' := Lib.hid hn
    clear hz hz2 hpw hroom hlen h hown hb hq hg hgb hk hxc hx hy hn
    go_enter Tryz.func148, Tryz.ntmps148
    go_upto_region 1 with (fail)
    obtain ⟨w2, hw2⟩ : ∃ W, (w.alloc (.cells #[.int .i64 (k.o : Int), .int .i64 (k.l : Int), .int .i64 (k.m : Int), .slice A n c, .int .i64 (b : Int), .int .i64 q] 48)).alloc (.cells #[.int .i64 0, .int .i64 0, .int .i64 0, .slice none 0 0, .int .i64 0, .int .i64 0] 48) = W := ⟨_, rfl⟩
    rw [hw2] at kb0 kr0 hW0 ⊢
    clear hw2
    obtain ⟨⟨q0, q1, q2, q3, q4, q5⟩, z0, z1, z2, z3, z4, z5⟩ := kb0
    go_wp2_with fail
    refine (HC.out _).mono ?_
    rintro e w3 ⟨rfl, hb3⟩
    have hW3 := Lib.hid (hW0.trans (hb3.mono hW0.size))
    have kb3 := KB.below ⟨⟨q0, q1, q2, q3, q4, q5⟩, z0, z1, z2, z3, z4, z5⟩ hb3
    have kr3 := Lib.hid (kr0.below hb3)
    clear q0 q1 q2 q3 q4 q5 z0 z1 z2 z3 z4 z5 hb3 kr0 hW0
    obtain ⟨⟨q0, q1, q2, q3, q4, q5⟩, z0, z1, z2, z3, z4, z5⟩ := kb3
    go_wp2_with fail
    refine (HG.out _).mono ?_
    rintro e w4 ⟨rfl, hb4⟩
    have hW4 := hW3.out.trans (hb4.mono hW3.out.size)
    have kb4 := KB.below ⟨⟨q0, q1, q2, q3, q4, q5⟩, z0, z1, z2, z3, z4, z5⟩ hb4
    have kr4 := kr3.out.below hb4
    clear q0 q1 q2 q3 q4 q5 z0 z1 z2 z3 z4 z5 hb4 kr3 hW3
    have hlt4 := kr4.lt
    have hfin := below_set6 (H := w.heap.size + 1) (hW4.setCell (p := ⟨w.heap.size, 5, none⟩) (Nat.le_refl _) (.int .i64 (x : Int))) (by omega) (.int .i64 (k.o : Int)) (.int .i64 (k.l : Int)) (.int .i64 (k.m : Int)) (.slice A n c) (.int .i64 (b : Int)) (.int .i64 (x : Int))
    replace hfin := Lib.hid hfin
    replace hW4 := Lib.hid hW4
    obtain ⟨⟨q0, q1, q2, q3, q4, q5⟩, z0, z1, z2, z3, z4, z5⟩ := kb4
    obtain ⟨⟨r0, r1, r2, r3, r4, r5⟩, y0, y1, y2, y3, y4, y5⟩ := kr4
    go_wp2_with fail
    refine bodyPost_ret (v := .agg #[.int .i64 (k.o : Int), .int .i64 (k.l : Int), .int .i64 (k.m : Int), .slice A n c, .int .i64 (b : Int), .int .i64 (x : Int)]) (by simp [results, Tryz.results148, go_sem, r0, r1, r2, r3, r4, r5]) rfl ?_
    exact ⟨A, c, congrArg Ending.returned hvals.out.symm, hown'.out _ hfin.out, App.of_below hfin.out⟩
  · have hg : k.grows := of_decide_eq_true hgb
    obtain ⟨qn, hqn⟩ := Option.isSome_iff_exists.1 hg.1
    have hlast : k.lastI = (qn : Int) := by unfold Kn.lastI; rw [hqn]
    have hk : k.after x = { (k.push qn y) with last := some x } := by
      unfold Kn.after
      rw [if_pos hg, hqn, hy]
      rfl
    rw [hk]
    have HG := fun W => implGrows k A c true W h (btrue hg)
    have hnb := hg.2
    unfold Kn.next at hnb
    have hval : ∀ A c, ({ (k.push qn y) with last := some x } : Kn).val A c = .agg #[.int .i64 (k.o : Int), .int .i64 (k.l : Int), .int .i64 (k.m : Int), .slice A (k.ps.length + 1) c, .int .i64 (k.base : Int), .int .i64 (x : Int)] := fun A c => by
      unfold Kn.val
      show Value.agg #[_, _, _, .slice A (k.ps ++ [(qn, y)]).length c, _, _] = _
      rw [List.length_append]
      rfl
    have hpsl : ({ (k.push qn y) with last := some x } : Kn).ps.length = k.ps.length + 1 := by show (k.ps ++ [(qn, y)]).length = _; rw [List.length_append]; rfl
    have hat : ∀ (W : World) (A' : Option Addr) (c' : Nat), W.ownsRow base 123 2 (.slice A' (k.ps.length + 1) c') (k.ps.length + 1) (cellsP k.ps ++ [.int .i64 (qn : Int), .int .i64 (y : Int)]) → ({ (k.push qn y) with last := some x } : Kn).Own W base A' c' := fun W A' c' hr => by
      show W.ownsRow base 123 2 (.slice A' (k.ps ++ [(qn, y)]).length c') (k.ps ++ [(qn, y)]).length (cellsP (k.ps ++ [(qn, y)]))
      rw [List.length_append, cellsP_append]
      exact hr
    have hown0 : w.ownsRow base 123 2 (.slice A k.ps.length c) k.ps.length (cellsP k.ps) := hown
    obtain ⟨k2, hk2⟩ : ∃ k2 : Kn, { (k.push qn y) with last := some x } = k2 := ⟨_, rfl⟩
    rw [hk2] at hpsl hat ⊢
    simp only [hk2] at hval
    clear hk2
    unfold Kn.val at HG
    rw [Kn.val_eq k]
    simp only [hpsl]
    obtain ⟨n, hn⟩ : ∃ n, k.ps.length = n := ⟨_, rfl⟩
    obtain ⟨b, hb⟩ : ∃ x, k.base = x := ⟨_, rfl⟩
    obtain ⟨xs, hxs⟩ : ∃ xs, cellsP k.ps = xs := ⟨_, rfl⟩
    rw [hn, hb, hlast] at HG
    rw [hn, hb] at hval
    rw [hn, hxs] at hat hown0
    rw [hn] at hnb
    rw [hn, hb, hlast]
    replace hval := Lib.hid hval
    replace hat := Lib.hid hat
    have hnb2 : n ≤ 1022 := by omega
    have kb0 := (KB.start w 48 (.int .i64 (k.o : Int)) (.int .i64 (k.l : Int)) (.int .i64 (k.m : Int)) (.slice A n c) (.int .i64 (b : Int)) (.int .i64 (qn : Int))).alloc (.cells #[.int .i64 0, .int .i64 0, .int .i64 0, .slice none 0 0, .int .i64 0, .int .i64 0] 48)
    have kr0 := KB.start (w.alloc (.cells #[.int .i64 (k.o : Int), .int .i64 (k.l : Int), .int .i64 (k.m : Int), .slice A n c, .int .i64 (b : Int), .int .i64 (qn : Int)] 48)) 48 (.int .i64 0) (.int .i64 0) (.int .i64 0) (.slice none 0 0) (.int .i64 0) (.int .i64 0)
    rw [World.size_alloc] at kr0
    have hW0 := ((Below.refl w.heap.size w).alloc (Nat.le_refl _) (.cells #[.int .i64 (k.o : Int), .int .i64 (k.l : Int), .int .i64 (k.m : Int), .slice A n c, .int .i64 (b : Int), .int .i64 (qn : Int)] 48)).alloc (by simp) (.cells #[.int .i64 0, .int .i64 0, .int .i64 0, .slice none 0 0, .int .i64 0, .int .i64 0] 48)
    replace HC := Lib.hid HC
    replace HG := Lib.hid HG
    clear hz hz2 hpw hroom hlen h hown hb hg hgb hk hxc hx hy hn hxs hnb hlast hqn hpsl
    have hown0' := Lib.hid hown0
    go_enter Tryz.func148, Tryz.ntmps148
    go_upto_region 1 with (fail)
    obtain ⟨w2, hw2⟩ : ∃ W, (w.alloc (.cells #[.int .i64 (k.o : Int), .int .i64 (k.l : Int), .int .i64 (k.m : Int), .slice A n c, .int .i64 (b : Int), .int .i64 (qn : Int)] 48)).alloc (.cells #[.int .i64 0, .int .i64 0, .int .i64 0, .slice none 0 0, .int .i64 0, .int .i64 0] 48) = W := ⟨_, rfl⟩
    rw [hw2] at kb0 kr0 hW0 ⊢
    clear hw2 hown0
    obtain ⟨⟨q0, q1, q2, q3, q4, q5⟩, z0, z1, z2, z3, z4, z5⟩ := kb0
    go_wp2_with fail
    refine (HC.out _).mono ?_
    rintro e w3 ⟨rfl, hb3⟩
    have hW3 := Lib.hid (hW0.trans (hb3.mono hW0.size))
    have kb3 := KB.below ⟨⟨q0, q1, q2, q3, q4, q5⟩, z0, z1, z2, z3, z4, z5⟩ hb3
    have kr3 := Lib.hid (kr0.below hb3)
    clear q0 q1 q2 q3 q4 q5 z0 z1 z2 z3 z4 z5 hb3 kr0 hW0
    obtain ⟨⟨q0, q1, q2, q3, q4, q5⟩, z0, z1, z2, z3, z4, z5⟩ := kb3
    go_wp2_with fail
    refine (HG.out _).mono ?_
    rintro e w4 ⟨rfl, hb4⟩
    have hW4 := hW3.out.trans (hb4.mono hW3.out.size)
    have kb4 := KB.below ⟨⟨q0, q1, q2, q3, q4, q5⟩, z0, z1, z2, z3, z4, z5⟩ hb4
    have kr4 := kr3.out.below hb4
    clear q0 q1 q2 q3 q4 q5 z0 z1 z2 z3 z4 z5 hb4 kr3 hW3
    have hlt4 := kr4.lt
    have hown4 := own_below hown0'.out hW4 (Nat.le_refl _)
    have hblk : ∀ g, (Value.slice A n c).ownBlock = some g → g < w.heap.size := fun g hg => (hown0'.out.lt g hg).2
    have kb4' := Lib.hid kb4
    have kr4' := Lib.hid kr4
    have hap4 := Lib.hid (App.of_below (v := .slice A n c) hW4)
    replace hblk := Lib.hid hblk
    obtain ⟨⟨q0, q1, q2, q3, q4, q5⟩, z0, z1, z2, z3, z4, z5⟩ := kb4
    clear kr4 hW4
    go_wp2_with (first
      | (at_builtin; refine wpList_append_row _ elemPair rfl (.tmp 23) (.tmp 29) rfl base _ _ _ rfl (hown4.alloc _) _ _ 1 1 [.int .i64 (qn : Int), .int .i64 (y : Int)] rfl (Row.newAt _ _ rfl _ [.int .i64 (qn : Int), .int .i64 (y : Int)] 1 2 rfl) ?_ ?_ ?_ ?_ ?_))
    · first | (intro u hu; simp at hu; rcases hu with rfl | rfl <;> rfl) | exact ⟨rfl, rfl⟩
    · unfold maxLen; omega
    · omega
    · first | omega | (simp; omega)
    · intro v5 w5 hv5 hg5 hat5
      obtain ⟨A5, c5, rfl, hc5, _⟩ := own_form hv5
      have hap5 := Lib.hid (hap4.out.step hg5 (by simpa using hat5))
      have hsz5 := hg5.size
      simp only [World.size_alloc] at hsz5
      have hne : ∀ g, (Value.slice A5 (n + 1) c5).ownBlock = some g → g ≠ w.heap.size ∧ g ≠ w.heap.size + 1 := fun g hg => by
        rcases hat5 with h1 | h1
        · rw [h1] at hg
          have := hblk.out g hg
          omega
        · rw [h1] at hg
          injection hg with hg
          omega
      have hn0 : ¬ (Value.slice A n c).ownBlock = some w.heap.size := fun e => by have := hblk.out _ e; omega
      have hn1 : ¬ (Value.slice A n c).ownBlock = some (w.heap.size + 1) := fun e => by have := hblk.out _ e; omega
      have kb5 := (kb4'.out.alloc _).grown hg5 hn0
      have kr5 := (kr4'.out.alloc _).grown hg5 hn1
      have hk6 : Keep (fun g => g = w.heap.size ∨ g = w.heap.size + 1) w5 (set6 ((w5.setCell ⟨w.heap.size, 3, none⟩ (.slice A5 (n + 1) c5)).setCell ⟨w.heap.size, 5, none⟩ (.int .i64 (x : Int))) (w.heap.size + 1) (.int .i64 (k.o : Int)) (.int .i64 (k.l : Int)) (.int .i64 (k.m : Int)) (.slice A5 (n + 1) c5) (.int .i64 (b : Int)) (.int .i64 (x : Int))) :=
        (((Keep.refl _ w5).setCell (Or.inl rfl) _).setCell (Or.inl rfl) _).set6 (Or.inr rfl) _ _ _ _ _ _
      have hv6 := Lib.hid (own_keep hv5 hk6 (fun g hg e => by have := hne g hg; omega))
      have hap6 := Lib.hid (hap5.out.keep (hk6.more (fun g e => by omega)))
      obtain ⟨⟨q0, q1, q2, q3, q4, q5⟩, z0, z1, z2, z3, z4, z5⟩ := kb5
      obtain ⟨⟨r0, r1, r2, r3, r4, r5⟩, y0, y1, y2, y3, y4, y5⟩ := kr5
      clear hv5 hg5 hat5 hne hk6 hown4 hn0 hn1
      go_wp2_with fail
      refine bodyPost_ret (v := .agg #[.int .i64 (k.o : Int), .int .i64 (k.l : Int), .int .i64 (k.m : Int), .slice A5 (n + 1) c5, .int .i64 (b : Int), .int .i64 (x : Int)]) (by simp [results, Tryz.results148, go_sem, r0, r1, r2, r3, r4, r5]) rfl ?_
      exact ⟨A5, c5, congrArg Ending.returned (hval.out A5 c5).symm, hat.out _ _ _ hv6.out, hap6.out⟩

end Go.Proofs.YthlgpgaeajfchaaGreatDoor

namespace Go.Proofs.YthlgpgaeajfchaaGreatDoor
open Go.RowKit
set_option linter.unusedVariables false
set_option maxRecDepth 100000

set_option maxHeartbeats 8000000 in
theorem implWordOld (k : Kn) (A : Option Addr) (c B x : Nat) (w : World) (h : k.Valid) (hA : k.At w B A) (hB : B ≤ w.heap.size) (hx : k.has k.ps.length x) :
    Calls Tryz.prog 149 #[k.val A c, .int .i64 (x : Int)] w fun e w' => e = .returned (.string (bsL (k.word x))) ∧ Below w.heap.size w w' := by
  have hp := h.pow
  have hfe := k.fin_eq
  have hroom := h.room
  have hwl := k.word_le x
  have hxf : x ≤ k.fin + k.ps.length := by unfold Kn.has at hx; omega
  have hxn := Kn.has_ne hx
  have HE := fun W => implEndCode k.o k.l k.m W h.sv
  have hf : 2 ^ k.l + 1 = k.fin := rfl
  rw [hf] at HE
  have HX := fun W => implNextWord k A c W h
  obtain ⟨f, hff⟩ : ∃ f, k.fin = f := ⟨_, rfl⟩
  obtain ⟨nx, hnx⟩ : ∃ f, k.next = f := ⟨_, rfl⟩
  rw [hff] at HE hxf
  rw [hnx] at HX hxn
  obtain ⟨R, hR⟩ : ∃ R, k.word x = R := ⟨_, rfl⟩
  rw [hR] at hwl ⊢
  have HV := Lib.hid h
  have HA := Lib.hid (fun (W : World) (hW : Below w.heap.size w W) => hA.below hW hB)
  have hfb : f ≤ 257 := by omega
  have hnb : k.ps.length ≤ 1023 := by omega
  have HF := Lib.hid hff
  have HS := Lib.hid hx
  have HR := Lib.hid hR
  unfold Kn.val at HX ⊢
  obtain ⟨n, hn⟩ : ∃ n, k.ps.length = n := ⟨_, rfl⟩
  obtain ⟨q, hq⟩ : ∃ q, k.lastI = q := ⟨_, rfl⟩
  rw [hn, hq] at HX
  rw [hn] at hwl hnb hxf
  rw [hn, hq]
  have e1 : ((x : Int) == (nx : Int)) = false := by rw [beq_eq_false_iff_ne]; omega
  have e2 : decide ((x : Int) = (nx : Int)) = false := decide_eq_false (by omega)
  have e3 : (x == nx) = false := by rw [beq_eq_false_iff_ne]; omega
  have e4 : decide (x = nx) = false := decide_eq_false (by omega)
  have e5 : ¬ (x : Int) = nx := by omega
  have HN := Lib.hid hn
  replace HE := Lib.hid HE
  replace HX := Lib.hid HX
  have kb0 := KB.start w 48 (.int .i64 (k.o : Int)) (.int .i64 (k.l : Int)) (.int .i64 (k.m : Int)) (.slice A n c) (.int .i64 (k.base : Int)) (.int .i64 q)
  have hW0 := (Below.refl w.heap.size w).alloc (Nat.le_refl _) (.cells #[.int .i64 (k.o : Int), .int .i64 (k.l : Int), .int .i64 (k.m : Int), .slice A n c, .int .i64 (k.base : Int), .int .i64 q] 48)
  clear hp hfe hroom hf hff hR h hA hx hn hq hxn hnx
  go_enter Tryz.func149, Tryz.ntmps149
  go_upto_region 1 with (fail)
  obtain ⟨w2, hw2⟩ : ∃ W, w.alloc (.cells #[.int .i64 (k.o : Int), .int .i64 (k.l : Int), .int .i64 (k.m : Int), .slice A n c, .int .i64 (k.base : Int), .int .i64 q] 48) = W := ⟨_, rfl⟩
  have hs2 : w2.heap.size = w.heap.size + 1 := by rw [← hw2]; simp
  rw [hw2] at kb0 hW0 ⊢
  clear hw2
  have hX := Lib.hid (fun (W : World) (hb : Below w2.heap.size w2 W) => And.intro (kb0.below hb).c (hW0.trans (hb.mono (show w.heap.size ≤ w2.heap.size by omega))))
  clear hs2
  obtain ⟨⟨q0, q1, q2, q3, q4, q5⟩, _⟩ := kb0
  clear hW0
  go_wp2_with fail
  refine (HX.out _).mono ?_
  rintro e w3 ⟨rfl, hb3⟩
  clear q0 q1 q2 q3 q4 q5
  obtain ⟨⟨q0, q1, q2, q3, q4, q5⟩, _⟩ := hX.out _ hb3
  replace hb3 := Lib.hid hb3
  go_wp2_with fail
  refine (HE.out _).mono ?_
  rintro e w4 ⟨rfl, hb4⟩
  have hb4' := Lib.hid (hb3.out.trans (hb4.mono hb3.out.size))
  clear q0 q1 q2 q3 q4 q5 hb4 hb3
  go_wp2_with fail
  go_loopw [1, 7] (fun u s wr => ∃ (y j : Nat) (bs : List UInt8), u = .int .i64 (y : Int) ∧ Hid (k.has k.ps.length y) ∧ y ≤ f + n ∧ Hid (bs.length = j) ∧ j + y ≤ n + x + 2 ∧ Hid (R = k.word y ++ bs.reverse) ∧ Hid (wr.ownsRow w2.heap.size 5 1 s j (bs.map byteV)) ∧ Hid (Below w2.heap.size w2 wr)) (fun u _ _ => (intOf u).toNat)
  case atStart => exact ⟨x, 0, [], rfl, HS, hxf, Lib.hid rfl, by omega, Lib.hid (by rw [HR.out]; simp), Lib.hid (World.ownsRow_nil _ _ _ _), hb4'⟩
  case round =>
    clear hb4'
    obtain ⟨y, j, bs, rfl, HY, hyn, HL, hj, HW, hown, hbel⟩ := hrel
    have hwz := hbel.out.size
    obtain ⟨Av, cv, rfl, _, _⟩ := own_form hown.out
    by_cases hyf : f < y
    · obtain ⟨⟨q0, q1, q2, q3, q4, q5⟩, hbw⟩ := hX.out _ hbel.out
      obtain ⟨d1, hd1⟩ : ∃ z : Nat, (y : Int) - f = z := ⟨y - f, by omega⟩
      obtain ⟨i, hi⟩ : ∃ z : Nat, (d1 : Int) - 1 = z := ⟨d1 - 1, by omega⟩
      have hyi : y = k.fin + 1 + i := by have := HF.out; omega
      have hin : i < n := by omega
      obtain ⟨⟨p, u⟩, hpu⟩ : ∃ b, k.ps[i]? = some b := ⟨_, List.getElem?_eq_getElem (by have := HN.out; omega)⟩
      have hvp := HV.out.pair i p u hpu
      have hwy := Kn.word_pair HV.out hpu
      rw [← hyi] at hwy
      have hbl := HV.out.below i p u hpu
      have hpc := HV.out.pow
      have hub : u < 256 := by omega
      have hpy : p < y := by omega
      have hA1 := HA.out _ hbw
      unfold Kn.At at hA1
      rw [HN.out] at hA1
      obtain ⟨ba, off, rfl, hbB, g0, g1⟩ := hA1.pair hin hpu
      have HVP : Hid (k.has k.ps.length p) := Lib.hid (Kn.has_more hvp.1 (by have := HN.out; omega))
      have HWY := Lib.hid hwy
      have w1k : IntKind.i64.wrap (d1 : Int) = d1 := IntWalk.i64_in _ (by omega)
      have w2k : IntKind.i64.wrap (i : Int) = i := IntWalk.i64_in _ (by omega)
      have wu : IntKind.u8.wrap (u : Int) = u := u8_in u hub
      have HE2 := Lib.hid (byteV_nat hub)
      have i0 : (0 : Int) ≤ i := by omega
      have i1 : (i : Int) < n := by omega
      have hgx : ∀ g, (Value.slice Av j cv).ownBlock = some g → w2.heap.size ≤ g ∧ g < wr.heap.size := fun g hg => hown.out.lt g hg
      have hown1 := hown.out
      replace hgx := Lib.hid hgx
      have hp0 := KBn.start wr 123 [.int .i64 (p : Int), .int .i64 (u : Int)]
      have hbel5 := hbel.out.alloc hwz (.cells #[.int .i64 (p : Int), .int .i64 (u : Int)] 123)
      have hown5 := hown1.alloc (.cells #[.int .i64 (p : Int), .int .i64 (u : Int)] 123)
      have hp0' := hp0
      replace hp0 := Lib.hid hp0
      replace hbel5 := Lib.hid hbel5
      replace hown5 := Lib.hid hown5
      clear hpu hvp hwy hbl hpc hyi hA1 hbw hown1 hp0'
      go_upto_region 8 with (fail)
      obtain ⟨g5, hg5⟩ : ∃ g5, wr.heap.size = g5 := ⟨_, rfl⟩
      obtain ⟨w5, hw5⟩ : ∃ W, wr.alloc (.cells #[.int .i64 (p : Int), .int .i64 (u : Int)] 123) = W := ⟨_, rfl⟩
      have hs5 : w5.heap.size = g5 + 1 := by rw [← hw5, World.size_alloc, hg5]
      have hown5 := hown5.out
      have hbel5 := hbel5
      rw [hw5] at hown5 hbel5 hp0 ⊢
      rw [hg5] at hp0 hgx hwz ⊢
      have p0 := hp0.out.c 0 _ rfl
      have p1 := hp0.out.c 1 _ rfl
      clear hw5 hbel hown q0 q1 q2 q3 q4 q5 g0 g1 hX HX HE
      go_wp2_with (first
        | (at_builtin; refine wpList_append_row _ elemByte rfl (.tmp 35) (.tmp 39) rfl w2.heap.size _ _ _ rfl (hown5.alloc _) _ _ 1 1 [.int .u8 (u : Int)] rfl (Row.newAt _ (g5 + 1) hs5 _ [.int .u8 (u : Int)] 1 1 rfl) ?_ ?_ ?_ ?_ ?_))
      · first | rfl | (intro z hz; simp at hz; subst hz; rfl)
      · unfold maxLen; omega
      · omega
      · first | omega | (simp; omega)
      · intro v4 w4 hv4 hg4 _
        have p0' : w4.cell? ⟨g5, 0, none⟩ = some (.int .i64 (p : Int)) := hg4.cell ((World.cell?_alloc_some _ _ _ (by rw [p0]; rfl)).trans p0) (fun e => by have := (hgx.out _ e.symm).2; have h9 : g5 < g5 := this; omega)
        have hb4 := Lib.hid ((hbel5.out.alloc (by omega) _).grown hg4 (by simp; omega) (fun g hg => (hgx.out g hg).1))
        have hv4' : Hid (w4.ownsRow w2.heap.size 5 1 v4 (j + 1) ((bs ++ [UInt8.ofNat u]).map byteV)) := Lib.hid (by rw [List.map_append, List.map_cons, List.map_nil, ← HE2.out]; exact hv4)
        clear hown5 hbel5 hg4 hv4 hgx hp0 p0 p1
        go_wp2_with fail
        go_roundw
        case rel => exact ⟨p, j + 1, bs ++ [UInt8.ofNat u], rfl, HVP, by omega, Lib.hid (by rw [List.length_append, HL.out]; rfl), by omega, Lib.hid (by rw [HW.out, HWY.out]; simp), hv4', hb4⟩
        case measure => simp [intOf]; omega
    · have hyc : y < 256 := by
        have h1 := HY.out
        have h2 := HF.out
        have h3 := k.fin_eq
        have h4 := HV.out.pow
        unfold Kn.has at h1
        omega
      have HWY : Hid (R = (bs ++ [UInt8.ofNat y]).reverse) := Lib.hid (by rw [HW.out, k.word_lit (by have := HF.out; omega)]; simp)
      have HE2 := Lib.hid (byteV_nat hyc)
      have wy : IntKind.u8.wrap (y : Int) = y := u8_in y hyc
      have hgx : ∀ g, (Value.slice Av j cv).ownBlock = some g → w2.heap.size ≤ g ∧ g < wr.heap.size := fun g hg => hown.out.lt g hg
      have hown1 := hown.out
      replace hgx := Lib.hid hgx
      have hyf2 : ¬ (f : Int) < y := by omega
      clear HY HW
      go_wp2_with (first
            | (at_builtin; refine wpList_append_row _ elemByte rfl (.tmp 43) (.tmp 46) rfl w2.heap.size _ _ _ rfl (hown1.alloc _) _ _ 1 1 [.int .u8 (y : Int)] rfl (Row.newAt _ _ rfl _ [.int .u8 (y : Int)] 1 1 rfl) ?_ ?_ ?_ ?_ ?_))
      · first | rfl | (intro z hz; simp at hz; subst hz; rfl)
      · unfold maxLen; omega
      · omega
      · first | omega | (simp; omega)
      · intro v4 w4 hv4 hg4 _
        have hb4 := Lib.hid ((hbel.out.alloc hwz _).grown hg4 (by simp; omega) (fun g hg => (hgx.out g hg).1))
        have hv4' : w4.ownsRow w2.heap.size 5 1 v4 (j + 1) ((bs ++ [UInt8.ofNat y]).map byteV) := by rw [List.map_append, List.map_cons, List.map_nil, ← HE2.out]; exact hv4
        obtain ⟨j2, hj2⟩ : ∃ j2, j + 1 = j2 := ⟨_, rfl⟩
        have hj2' : (bs ++ [UInt8.ofNat y]).length = j2 := by rw [List.length_append, HL.out]; exact hj2
        obtain ⟨b2, hb2⟩ : ∃ b2, bs ++ [UInt8.ofNat y] = b2 := ⟨_, rfl⟩
        rw [hb2] at hj2' hv4' HWY
        rw [hj2] at hv4'
        have hjb : 1 ≤ j2 ∧ j2 ≤ 5000 := by omega
        obtain ⟨A2, c2, rfl, _, _⟩ := own_form hv4'
        have HRv := Lib.hid (goReverse A2 c2 w2.heap.size j2 b2 w4 hv4' hj2' hjb.1 hjb.2)
        have hg2 : Hid (∀ g, (Value.slice A2 j2 c2).ownBlock = some g → w2.heap.size ≤ g) := Lib.hid (fun g hg => (hv4'.lt g hg).1)
        replace hj2' := Lib.hid hj2'
        clear hown1 hbel hg4 hv4 hgx HE2 hb2 wy HL hv4' hown
        go_wp2_with fail
        refine HRv.out.mono ?_
        rintro e w5 ⟨⟨v5, rfl⟩, hown5, hk5⟩
        have hRl : R.length = j2 := by rw [HWY.out, List.length_reverse]; exact hj2'.out
        rw [← HWY.out] at hown5
        have hcv := run_convert_own (n := j2) elemByte Tryz.underlying5 Tryz.underlying9 R (by rw [hRl]; exact hown5) hRl
        have hb5 : Below w2.heap.size w2 w5 := hb4.out.trans (hk5.below hb4.out.size hg2.out)
        obtain ⟨_, hfin⟩ := hX.out _ hb5
        replace hfin := Lib.hid hfin
        clear hb5 hk5 hown5 hb4 hg2
        go_wp2_with fail
        go_ret
        exact ⟨rfl, hfin.out⟩

set_option maxHeartbeats 4000000 in
theorem implWordText (k : Kn) (A : Option Addr) (c B x : Nat) (w : World) (h : k.Valid) (hA : k.At w B A) (hB : B ≤ w.heap.size) (hx : k.can x) :
    Calls Tryz.prog 149 #[k.val A c, .int .i64 (x : Int)] w fun e w' => e = .returned (.string (bsL (k.any x))) ∧ Below w.heap.size w w' := by
  rcases hx with hx | ⟨hg, hxn⟩
  · rw [Kn.any_old (Kn.has_ne hx)]
    exact implWordOld k A c B x w h hA hB hx
  · obtain ⟨q0, hq0⟩ := Option.isSome_iff_exists.1 hg.1
    have hany : k.any x = k.word q0 ++ (k.word q0).take 1 := by rw [hxn]; exact Kn.any_next hq0
    rw [hany]
    have hli : k.lastI = (q0 : Int) := Kn.lastI_nat hq0
    have HN := fun W => implNextWord k A c W h
    rw [← hxn] at HN
    have HW := fun (W : World) (hb : Below w.heap.size w W) => implWordOld k A c B q0 W h (hA.below hb hB) (Nat.le_trans hB hb.size) (h.tail q0 hq0)
    have hwl := k.word_le q0
    have hwn := k.word_ne q0
    have hps := h.room
    have hpw := h.pow
    obtain ⟨R, hR⟩ : ∃ R, k.word q0 = R := ⟨_, rfl⟩
    rw [hR] at HW hwl hwn ⊢
    have hR1 : 1 ≤ (bsL R).size := by rw [bsL_size]; cases R with
      | nil => exact absurd rfl hwn
      | cons y ys => simp
    have hsl : (bsL R).extract 0 1 = bsL (R.take 1) := bsL_take R 1
    have hadd : ∀ W, (Op.stringOp .add (bsL R) (bsL (R.take 1))).run Tryz.prog W = .ok (.string (bsL (R ++ R.take 1))) W := fun W => by
      rw [run_string_add_sum W _ _ (by rw [bsL_size, bsL_size, List.length_take]; omega), bsL_append]
    have hRs : (bsL R).size ≤ 2000 := by rw [bsL_size]; omega
    obtain ⟨T, hT⟩ : ∃ T, bsL R = T := ⟨_, rfl⟩
    rw [hT] at HW hR1 hsl hadd hRs
    obtain ⟨T1, hT1⟩ : ∃ T1, bsL (R.take 1) = T1 := ⟨_, rfl⟩
    rw [hT1] at hsl hadd
    obtain ⟨T2, hT2⟩ : ∃ T2, bsL (R ++ R.take 1) = T2 := ⟨_, rfl⟩
    rw [hT2] at hadd ⊢
    unfold Kn.val at HN HW ⊢
    obtain ⟨n, hn⟩ : ∃ n, k.ps.length = n := ⟨_, rfl⟩
    rw [hn, hli] at HN HW ⊢
    replace HN := Lib.hid HN
    replace HW := Lib.hid HW
    have kb0 := KB.start w 48 (.int .i64 (k.o : Int)) (.int .i64 (k.l : Int)) (.int .i64 (k.m : Int)) (.slice A n c) (.int .i64 (k.base : Int)) (.int .i64 (q0 : Int))
    have hW0 := (Below.refl w.heap.size w).alloc (Nat.le_refl _) (.cells #[.int .i64 (k.o : Int), .int .i64 (k.l : Int), .int .i64 (k.m : Int), .slice A n c, .int .i64 (k.base : Int), .int .i64 (q0 : Int)] 48)
    clear hli hwl hwn hps hpw hR hany hq0 h hA hn hT hT1 hT2 hxn hg
    go_enter Tryz.func149, Tryz.ntmps149
    go_upto_region 1 with (fail)
    obtain ⟨w2, hw2⟩ : ∃ W, w.alloc (.cells #[.int .i64 (k.o : Int), .int .i64 (k.l : Int), .int .i64 (k.m : Int), .slice A n c, .int .i64 (k.base : Int), .int .i64 (q0 : Int)] 48) = W := ⟨_, rfl⟩
    rw [hw2] at kb0 hW0 ⊢
    clear hw2
    have hX := Lib.hid (fun (W : World) (hb : Below w2.heap.size w2 W) => And.intro (kb0.below hb).c (hW0.trans (hb.mono hW0.size)))
    obtain ⟨⟨q0, q1, q2, q3, q4, q5⟩, _⟩ := kb0
    clear hW0
    go_wp2_with fail
    refine (HN.out _).mono ?_
    rintro e w3 ⟨rfl, hb3⟩
    clear q0 q1 q2 q3 q4 q5
    obtain ⟨⟨q0, q1, q2, q3, q4, q5⟩, hb⟩ := hX.out _ hb3
    replace hb3 := Lib.hid hb3
    have HW3 := Lib.hid (HW.out _ hb)
    clear hb
    go_wp2_with fail
    refine HW3.out.mono ?_
    rintro e w4 ⟨rfl, hb4⟩
    obtain ⟨_, hfin⟩ := hX.out _ (hb3.out.trans (hb4.mono hb3.out.size))
    replace hfin := Lib.hid hfin
    clear q0 q1 q2 q3 q4 q5 hb4 hb3
    go_wp2_with fail
    go_ret
    exact ⟨rfl, hfin.out⟩

end Go.Proofs.YthlgpgaeajfchaaGreatDoor
