/-
 A law for regions that draw their order: first operations that read or call in a class of worlds, then a tail in one forced order (an append, a store).
-/
import Derived.Test.YthlgpgaeajfchaaGreatPwWordsA
import Derived.Test.YthlgpgaeajfchaaGreatPwBlockText
import Derived.StillTail
import Derived.OrdersHeld

namespace Go.Proofs.YthlgpgaeajfchaaGreat
open Go.RowKit
set_option linter.unusedVariables false

theorem Kn.At.below {k : Kn} {w w' : World} {B C : Nat} {A : Option Addr} (h : k.At w B A) (hb : Below C w w') (hC : B ≤ C) : k.At w' B A := Row.below h hb hC

theorem bsL_size (l : List UInt8) : (bsL l).size = l.length := rfl

theorem bsL_take (l : List UInt8) (i : Nat) : (bsL l).extract 0 i = bsL (l.take i) := by
 apply ByteArray.ext
 simp

theorem bsL_drop (l : List UInt8) (i : Nat) : (bsL l).extract i l.length = bsL (l.drop i) := by
 apply ByteArray.ext
 simp
 exact List.take_of_length_le (by simp)

theorem bsL_append (a b : List UInt8) : bsL a ++ bsL b = bsL (a ++ b) := by
 apply ByteArray.ext
 simp

set_option maxHeartbeats 4000000 in
theorem specL2Any (k : Kn) (A : Option Addr) (c B x : Nat) (w : World) (h : k.Valid) (hA : k.At w B A) (hB : B ≤ w.heap.size) (hx : k.can x) :
  Calls Tryz.prog 186 #[k.val A c, .int .i64 (x : Int)] w fun e w' => e = .returned (.string (bsL (k.any x))) ∧ Below w.heap.size w w' := by
 have HN := fun W => specL2Next k A c W h
 obtain ⟨x0, hx0⟩ : ∃ z, k.next = z := ⟨_, rfl⟩
 rw [hx0] at HN
 by_cases hxx : x = x0
 ·obtain ⟨q0, hq0⟩ : ∃ q, k.last = some q := by
   rcases hx with h1 | ⟨h1, h2⟩
   ·exact absurd (hxx.trans hx0.symm) (Kn.has_ne h1)
   ·have := h1.1
    cases hl : k.last with
    | none => rw [hl] at this; cases this
    | some q => exact ⟨q, rfl⟩
  have hany : k.any x = k.word q0 ++ (k.word q0).take 1 := by rw [hxx, ← hx0]; exact Kn.any_next hq0
  rw [hany]
  have hli : k.lastI = (q0 : Int) := Kn.lastI_nat hq0
  have HW := fun (W : World) (hb : Below w.heap.size w W) => specL2Word k A c B q0 W h (hA.below hb hB) (Nat.le_trans hB hb.size) (h.tail q0 hq0)
  have hwl := k.word_le q0
  have hwn := k.word_ne q0
  have hps := h.room
  have hpw := h.pow
  obtain ⟨R, hR⟩ : ∃ R, k.word q0 = R := ⟨_, rfl⟩
  rw [hR] at HW hwl hwn ⊢
  have hR1 : 1 ≤ (bsL R).size := by rw [bsL_size]; cases R with
   | nil => exact absurd rfl hwn
   | cons y ys => simp
  have hsl : (bsL R).extract 0 1 = bsL (R.take 1) := bsL_take R 1
  have hadd : ∀ W, (Op.stringOp .add (bsL R) (bsL (R.take 1))).run Tryz.prog W = .ok (.string (bsL (R ++ R.take 1))) W := fun W => by
   rw [run_string_add_sum W _ _ (by rw [bsL_size, bsL_size, List.length_take]; omega), bsL_append]
  have hRs : (bsL R).size ≤ 2000 := by rw [bsL_size]; omega
  obtain ⟨T, hT⟩ : ∃ T, bsL R = T := ⟨_, rfl⟩
  rw [hT] at HW hR1 hsl hadd hRs
  obtain ⟨T1, hT1⟩ : ∃ T1, bsL (R.take 1) = T1 := ⟨_, rfl⟩
  rw [hT1] at hsl hadd
  obtain ⟨T2, hT2⟩ : ∃ T2, bsL (R ++ R.take 1) = T2 := ⟨_, rfl⟩
  rw [hT2] at hadd ⊢
  obtain ⟨n, hn⟩ : ∃ x, k.ps.length = x := ⟨_, rfl⟩
  obtain ⟨o, ho⟩ : ∃ x, k.o = x := ⟨_, rfl⟩
  obtain ⟨l, hl'⟩ : ∃ x, k.l = x := ⟨_, rfl⟩
  obtain ⟨m, hm⟩ : ∃ x, k.m = x := ⟨_, rfl⟩
  obtain ⟨b, hb⟩ : ∃ x, k.base = x := ⟨_, rfl⟩
  obtain ⟨q, hq⟩ : ∃ x, k.lastI = x := ⟨_, rfl⟩
  try unfold Kn.val at HN
  try rw [hn] at HN
  try rw [ho] at HN
  try rw [hl'] at HN
  try rw [hm] at HN
  try rw [hb] at HN
  try rw [hq] at HN
  try unfold Kn.val at HW
  try rw [hn] at HW
  try rw [ho] at HW
  try rw [hl'] at HW
  try rw [hm] at HW
  try rw [hb] at HW
  try rw [hq] at HW
  simp only [Kn.val, hn, ho, hl', hm, hb, hq]
  have hqq : q = (q0 : Int) := by rw [← hq, hli]
  subst hqq
  have HN := Lib.hid HN
  have HW := Lib.hid HW
  have hxz : (x : Int) = (x0 : Int) := by omega
  clear hli hwl hwn hps hpw hR hany hq0 h hA hx hx0 hn ho hl' hm hb hq hT hT1 hT2 hxx
  rw [hxz]
  go_enter Tryz.func186, Tryz.ntmps186
  go_wp2_with fail
  refine (HN.out _).mono ?_
  rintro e w1 ⟨rfl, hb1⟩
  obtain ⟨q0, q1, q2, q3, q4, q5, hbel⟩ := box6_call hb1 (Below.refl _ _)
  go_wp2_with fail
  refine (HW.out _ (((Below.refl _ _).alloc (Nat.le_refl _) _).trans (hbel.mono (by omega)))).mono ?_
  rintro e w2 ⟨rfl, hb2⟩
  have hbel2 := ((Below.refl w.heap.size w).alloc (Nat.le_refl _) _).trans ((box6_call hb2 hbel).2.2.2.2.2.2.mono (by omega))
  go_wp2_with fail
  go_ret
  exact ⟨rfl, hbel2⟩
 ·have hany : k.any x = k.word x := Kn.any_old (by omega)
  rw [hany]
  have hh : k.has k.ps.length x := by
   rcases hx with h1 | ⟨h1, h2⟩
   ·exact h1
   ·exact absurd (h2.trans hx0) hxx
  have HW := fun (W : World) (hb : Below w.heap.size w W) => specL2Word k A c B x W h (hA.below hb hB) (Nat.le_trans hB hb.size) hh
  obtain ⟨R, hR⟩ : ∃ R, k.word x = R := ⟨_, rfl⟩
  rw [hR] at HW ⊢
  obtain ⟨n, hn⟩ : ∃ x, k.ps.length = x := ⟨_, rfl⟩
  obtain ⟨o, ho⟩ : ∃ x, k.o = x := ⟨_, rfl⟩
  obtain ⟨l, hl'⟩ : ∃ x, k.l = x := ⟨_, rfl⟩
  obtain ⟨m, hm⟩ : ∃ x, k.m = x := ⟨_, rfl⟩
  obtain ⟨b, hb⟩ : ∃ x, k.base = x := ⟨_, rfl⟩
  obtain ⟨q, hq⟩ : ∃ x, k.lastI = x := ⟨_, rfl⟩
  try unfold Kn.val at HN
  try rw [hn] at HN
  try rw [ho] at HN
  try rw [hl'] at HN
  try rw [hm] at HN
  try rw [hb] at HN
  try rw [hq] at HN
  try unfold Kn.val at HW
  try rw [hn] at HW
  try rw [ho] at HW
  try rw [hl'] at HW
  try rw [hm] at HW
  try rw [hb] at HW
  try rw [hq] at HW
  simp only [Kn.val, hn, ho, hl', hm, hb, hq]
  have HN := Lib.hid HN
  have HW := Lib.hid HW
  have hxz : (x : Int) ≠ (x0 : Int) := by omega
  clear hR hany h hA hx hx0 hn ho hl' hm hb hq hxx hh
  go_enter Tryz.func186, Tryz.ntmps186
  go_wp2_with fail
  refine (HN.out _).mono ?_
  rintro e w1 ⟨rfl, hb1⟩
  obtain ⟨q0, q1, q2, q3, q4, q5, hbel⟩ := box6_call hb1 (Below.refl _ _)
  go_wp2_with fail
  refine (HW.out _ (((Below.refl _ _).alloc (Nat.le_refl _) _).trans (hbel.mono (by omega)))).mono ?_
  rintro e w2 ⟨rfl, hb2⟩
  have hbel2 := ((Below.refl w.heap.size w).alloc (Nat.le_refl _) _).trans ((box6_call hb2 hbel).2.2.2.2.2.2.mono (by omega))
  go_wp2_with fail
  go_ret
  exact ⟨rfl, hbel2⟩

theorem cell_lt {w : World} {p : Addr} {v : Value} (h : w.cell? p = some v) : p.block < w.heap.size := by
 rcases Nat.lt_or_ge p.block w.heap.size with h1 | h1
 ·exact h1
 ·unfold World.cell? at h
  rw [Array.getElem?_eq_none h1] at h
  cases h

structure Wd (S : World → Prop) where
 w : World
 h : S w

instance wdNonempty {B : Nat} {w : World} : Nonempty (Wd (Below B w)) := ⟨⟨w, Below.refl B w⟩⟩

theorem wp_region_cls {P : Program} {id : Nat} {Q : Exit → Act → World → Prop} {a : Act} {w : World} {l : List Oper} (hm : P.follows .mixedOrders = true) (hB : Region.lexB .any l.toArray = true)
  (h : wpQuiet P l.toArray (fun w' => ∃ x : Wd (Below w.heap.size w), w' = x.w) (fun a' => ∀ w', (∃ x : Wd (Below w.heap.size w), w' = x.w) → Q .normal a' w') l a) : (Code.region id l.toArray true).wp P Q a w :=
 wp_region_quiet (C := fun w' => ∃ x : Wd (Below w.heap.size w), w' = x.w) hm hB ⟨⟨_, (Below.refl _ _).drew⟩, rfl⟩ (by simpa using h)

theorem clsCell {w : World} {p : Addr} {v : Value} (h : w.cell? p = some v) : ∀ x : Wd (Below w.heap.size w), x.w.cell? p = some v := fun x => (x.h.cell (cell_lt h)).trans h

theorem clsCall {P : Program} {f : FuncId} {args : Array Value} {v : Value} {w : World} {x : Wd (Below w.heap.size w)} (h : Calls P f args x.w fun e w' => e = .returned v ∧ Below x.w.heap.size x.w w') :
  Calls P f args x.w fun e w'' => e = .returned v ∧ ∃ m : Wd (Below w.heap.size w), w'' = m.w :=
 h.mono fun _ _ ⟨he, hb⟩ => ⟨he, ⟨_, belowC hb x.h⟩, rfl⟩

theorem clsSame {P : Program} {f : FuncId} {args : Array Value} {v : Value} {w : World} {x : Wd (Below w.heap.size w)} (h : Calls P f args x.w fun e w' => e = .returned v ∧ x.w = w') :
  Calls P f args x.w fun e w'' => e = .returned v ∧ ∃ m : Wd (Below w.heap.size w), w'' = m.w :=
 h.mono fun _ _ ⟨he, hb⟩ => ⟨he, x, hb.symm⟩

theorem box3 {w wx : World} {T : TypeId} {a b c : Value} (h : Below (w.heap.size + 1) (w.alloc (.cells #[a, b, c] T)) wx) :
  wx.cell? ⟨w.heap.size, 0, none⟩ = some a ∧ wx.cell? ⟨w.heap.size, 1, none⟩ = some b ∧ wx.cell? ⟨w.heap.size, 2, none⟩ = some c ∧ Below (w.heap.size + 1) (w.alloc (.cells #[a, b, c] T)) wx := by
 have e : wx.heap[w.heap.size]? = some (.cells #[a, b, c] T (0, 0)) := (h.block _ (by omega)).trans (heap_alloc_new w _)
 refine ⟨?_, ?_, ?_, h⟩ <;> simp [World.cell?, e]

theorem box3_call {w wx wy : World} {T : TypeId} {a b c : Value} (hb : Below wx.heap.size wx wy) (h : Below (w.heap.size + 1) (w.alloc (.cells #[a, b, c] T)) wx) :
  wy.cell? ⟨w.heap.size, 0, none⟩ = some a ∧ wy.cell? ⟨w.heap.size, 1, none⟩ = some b ∧ wy.cell? ⟨w.heap.size, 2, none⟩ = some c ∧ Below (w.heap.size + 1) (w.alloc (.cells #[a, b, c] T)) wy :=
 box3 (h.trans (hb.mono (by have := h.size; simp at this; omega)))

set_option maxHeartbeats 4000000 in
theorem specL2Code (o l m n : Nat) (x : Int) (r : Bool) (w : World) (hl : l ≤ 8) (hn : n ≤ 100000) (hr : r = true ↔ (0 ≤ x ∧ x < 2 ^ l) ∨ ((2 ^ l + 1 : Nat) < x ∧ x ≤ ((2 ^ l + 1 + n : Nat) : Int))) :
  Calls Tryz.prog 189 #[.agg #[.int .i64 (o : Int), .int .i64 (l : Int), .int .i64 (m : Int)], .int .i64 x, .int .i64 (n : Int)] w fun e w' => e = .returned (.bool r) ∧ Below w.heap.size w w' := by
 have HC := fun W => specL1Clear o l m W (by omega)
 have HE := fun W => specL1End o l m W (by omega)
 unfold setV at HC
 have hc1 : 1 ≤ 2 ^ l := Nat.one_le_two_pow
 have hc8 : 2 ^ l ≤ 2 ^ 8 := Nat.pow_le_pow_right (by omega) hl
 have hcast : ((2 : Int) ^ l) = ((2 ^ l : Nat) : Int) := by simp
 rw [hcast] at hr
 obtain ⟨z, hz⟩ : ∃ z, 2 ^ l = z := ⟨_, rfl⟩
 rw [hz] at HC HE hr hc1 hc8
 obtain ⟨f, hf⟩ : ∃ f, z + 1 = f := ⟨_, rfl⟩
 rw [hf] at HE hr
 obtain ⟨d, hd⟩ : ∃ d : Nat, (z : Int) - 1 = d := ⟨z - 1, by omega⟩
 obtain ⟨f1, hf1⟩ : ∃ d : Nat, (f : Int) + 1 = d := ⟨f + 1, by omega⟩
 obtain ⟨fn, hfn⟩ : ∃ d : Nat, (f : Int) + n = d := ⟨f + n, by omega⟩
 have w1 : IntKind.i64.wrap (d : Int) = d := IntWalk.i64_in _ (by omega)
 have w2 : IntKind.i64.wrap (f1 : Int) = f1 := IntWalk.i64_in _ (by omega)
 have w3 : IntKind.i64.wrap (fn : Int) = fn := IntWalk.i64_in _ (by omega)
 have HC := Lib.hid HC
 have HE := Lib.hid HE
 by_cases h1 : 0 ≤ x ∧ x ≤ d
 ·have hrt : r = true := hr.2 (Or.inl (by omega))
  subst hrt
  have H1 := Lib.hid (fun W => specL1In x 0 d true W ⟨fun _ => h1, fun _ => rfl⟩)
  clear h1 hr hcast hz hf hl hn hc1 hc8
  go_enter Tryz.func189, Tryz.ntmps189
  go_wp2_with fail
  obtain ⟨q0, q1, q2, _⟩ := box3 (Below.refl _ (w.alloc (.cells #[.int .i64 (o : Int), .int .i64 (l : Int), .int .i64 (m : Int)] 24)))
  refine wp_region_cls (by kernel_rfl) (by kernel_rfl) ?_
  have c0 := clsCell q0
  have c1 := clsCell q1
  have c2 := clsCell q2
  repeat (go_big_quiet_step (first | (go_at_call 117; exact clsCall (HC.out _)) | (go_at_call 184; exact clsCall (HE.out _)) | (go_at_call 94; exact clsSame (H1.out _))))
  refine wpQuiet_nil ?_
  rintro w' ⟨⟨w', hB⟩, rfl⟩
  go_wp2_with fail
  go_ret
  exact ⟨rfl, ((Below.refl _ _).alloc (Nat.le_refl _) _).trans (hB.mono (by simp))⟩
 ·have hrt : r = decide ((f1 : Int) ≤ x ∧ x ≤ fn) := by
   rw [Bool.eq_iff_iff, hr, decide_eq_true_eq]
   omega
  have H1 := Lib.hid (fun W => specL1In x 0 d false W ⟨fun e => Bool.noConfusion e, fun e => absurd e h1⟩)
  have H2 := Lib.hid (fun W => specL1In x f1 fn r W (by rw [hrt, decide_eq_true_eq]))
  clear h1 hr hrt hcast hz hf hl hn hc1 hc8
  go_enter Tryz.func189, Tryz.ntmps189
  go_wp2_with fail
  obtain ⟨q0, q1, q2, _⟩ := box3 (Below.refl _ (w.alloc (.cells #[.int .i64 (o : Int), .int .i64 (l : Int), .int .i64 (m : Int)] 24)))
  refine wp_region_cls (by kernel_rfl) (by kernel_rfl) ?_
  have c0 := clsCell q0
  have c1 := clsCell q1
  have c2 := clsCell q2
  repeat (go_big_quiet_step (first | (go_at_call 117; exact clsCall (HC.out _)) | (go_at_call 184; exact clsCall (HE.out _)) | (go_at_call 94; first | with_reducible exact clsSame (H1.out _) | with_reducible exact clsSame (H2.out _))))
  refine wpQuiet_nil ?_
  rintro w' ⟨⟨w', hB⟩, rfl⟩
  go_wp2_with fail
  go_ret
  exact ⟨rfl, ((Below.refl _ _).alloc (Nat.le_refl _) _).trans (hB.mono (by simp))⟩

set_option maxHeartbeats 4000000 in
theorem specL2Follows (k : Kn) (A : Option Addr) (c x : Nat) (r : Bool) (w : World) (h : k.Valid) (hr : r = true ↔ k.can x) :
  Calls Tryz.prog 185 #[k.val A c, .int .i64 (x : Int)] w fun e w' => e = .returned (.bool r) ∧ Below w.heap.size w w' := by
 have hps := h.room
 have hpw := h.pow
 have hfe := k.fin_eq
 have hcl : 2 ^ k.l = k.clear := rfl
 have HN := fun W => specL2Next k A c W h
 by_cases h1 : k.has k.ps.length x
 ·have hrt : r = true := hr.2 (Or.inl h1)
  have HC := fun W => specL2Code k.o k.l k.m k.ps.length (x : Int) true W h.lit8 (by omega) ⟨fun _ => by
   unfold Kn.has at h1
   have hc2 : ((2 : Int) ^ k.l) = (k.clear : Int) := by rw [← hcl]; simp
   rw [hc2, hcl]
   omega, fun _ => rfl⟩
  subst hrt
  obtain ⟨n, hn⟩ : ∃ x, k.ps.length = x := ⟨_, rfl⟩
  obtain ⟨o, ho⟩ : ∃ x, k.o = x := ⟨_, rfl⟩
  obtain ⟨l, hl'⟩ : ∃ x, k.l = x := ⟨_, rfl⟩
  obtain ⟨m, hm⟩ : ∃ x, k.m = x := ⟨_, rfl⟩
  obtain ⟨b, hb⟩ : ∃ x, k.base = x := ⟨_, rfl⟩
  obtain ⟨q, hq⟩ : ∃ x, k.lastI = x := ⟨_, rfl⟩
  try unfold Kn.val at HC
  try rw [hn] at HC
  try rw [ho] at HC
  try rw [hl'] at HC
  try rw [hm] at HC
  try rw [hb] at HC
  try rw [hq] at HC
  simp only [Kn.val, hn, ho, hl', hm, hb, hq]
  have HC := Lib.hid HC
  clear hps hpw hfe hcl h1 hr h hn ho hl' hm hb hq HN
  go_enter Tryz.func185, Tryz.ntmps185
  go_wp2_with fail
  refine (HC.out _).mono ?_
  rintro e w1 ⟨rfl, hb1⟩
  obtain ⟨q0, q1, q2, q3, q4, q5, B1⟩ := box6_call hb1 (Below.refl _ _)
  go_wp2_with fail
  go_ret
  exact ⟨rfl, ((Below.refl _ _).alloc (Nat.le_refl _) _).trans (B1.mono (by simp))⟩
 ·have HC := fun W => specL2Code k.o k.l k.m k.ps.length (x : Int) false W h.lit8 (by omega) ⟨fun e => Bool.noConfusion e, fun hh => by
   exfalso
   apply h1
   unfold Kn.has
   have hc2 : ((2 : Int) ^ k.l) = (k.clear : Int) := by rw [← hcl]; simp
   rw [hc2, hcl] at hh
   omega⟩
  by_cases hg : k.grows
  ·have HG := fun W => specL2Grows k A c true W h ⟨fun _ => hg, fun _ => rfl⟩
   have hrt : r = decide ((x : Int) = (k.next : Int)) := by
    rw [Bool.eq_iff_iff, hr, decide_eq_true_eq]
    constructor
    ·rintro (hh | ⟨_, hh⟩)
     ·exact absurd hh h1
     ·omega
    ·intro hh
     exact Or.inr ⟨hg, by omega⟩
   obtain ⟨x0, hx0⟩ : ∃ z, k.next = z := ⟨_, rfl⟩
   rw [hx0] at HN hrt
   subst hrt
   obtain ⟨n, hn⟩ : ∃ x, k.ps.length = x := ⟨_, rfl⟩
   obtain ⟨o, ho⟩ : ∃ x, k.o = x := ⟨_, rfl⟩
   obtain ⟨l, hl'⟩ : ∃ x, k.l = x := ⟨_, rfl⟩
   obtain ⟨m, hm⟩ : ∃ x, k.m = x := ⟨_, rfl⟩
   obtain ⟨b, hb⟩ : ∃ x, k.base = x := ⟨_, rfl⟩
   obtain ⟨q, hq⟩ : ∃ x, k.lastI = x := ⟨_, rfl⟩
   try unfold Kn.val at HC
   try rw [hn] at HC
   try rw [ho] at HC
   try rw [hl'] at HC
   try rw [hm] at HC
   try rw [hb] at HC
   try rw [hq] at HC
   try unfold Kn.val at HN
   try rw [hn] at HN
   try rw [ho] at HN
   try rw [hl'] at HN
   try rw [hm] at HN
   try rw [hb] at HN
   try rw [hq] at HN
   try unfold Kn.val at HG
   try rw [hn] at HG
   try rw [ho] at HG
   try rw [hl'] at HG
   try rw [hm] at HG
   try rw [hb] at HG
   try rw [hq] at HG
   simp only [Kn.val, hn, ho, hl', hm, hb, hq]
   have HC := Lib.hid HC
   have HN := Lib.hid HN
   have HG := Lib.hid HG
   clear hps hpw hfe hcl h1 hr h hn ho hl' hm hb hq hx0 hg
   go_enter Tryz.func185, Tryz.ntmps185
   go_wp2_with fail
   refine (HC.out _).mono ?_
   rintro e w1 ⟨rfl, hb1⟩
   obtain ⟨q0, q1, q2, q3, q4, q5, B1⟩ := box6_call hb1 (Below.refl _ _)
   go_wp2_with fail
   refine (HG.out _).mono ?_
   rintro e w2 ⟨rfl, hb2⟩
   clear q0 q1 q2 q3 q4 q5
   obtain ⟨q0, q1, q2, q3, q4, q5, B2⟩ := box6_call hb2 (B1)
   go_wp2_with fail
   refine (HN.out _).mono ?_
   rintro e w3 ⟨rfl, hb3⟩
   clear q0 q1 q2 q3 q4 q5
   obtain ⟨q0, q1, q2, q3, q4, q5, B3⟩ := box6_call hb3 (B2)
   go_wp2_with fail
   go_ret
   exact ⟨rfl, ((Below.refl _ _).alloc (Nat.le_refl _) _).trans (B3.mono (by simp))⟩
  ·have HG := fun W => specL2Grows k A c false W h ⟨fun e => Bool.noConfusion e, fun hh => absurd hh hg⟩
   have hrt : r = false := by
    cases r with
    | false => rfl
    | true =>
     rcases hr.1 rfl with hh | ⟨hh, _⟩
     ·exact absurd hh h1
     ·exact absurd hh hg
   subst hrt
   obtain ⟨n, hn⟩ : ∃ x, k.ps.length = x := ⟨_, rfl⟩
   obtain ⟨o, ho⟩ : ∃ x, k.o = x := ⟨_, rfl⟩
   obtain ⟨l, hl'⟩ : ∃ x, k.l = x := ⟨_, rfl⟩
   obtain ⟨m, hm⟩ : ∃ x, k.m = x := ⟨_, rfl⟩
   obtain ⟨b, hb⟩ : ∃ x, k.base = x := ⟨_, rfl⟩
   obtain ⟨q, hq⟩ : ∃ x, k.lastI = x := ⟨_, rfl⟩
   try unfold Kn.val at HC
   try rw [hn] at HC
   try rw [ho] at HC
   try rw [hl'] at HC
   try rw [hm] at HC
   try rw [hb] at HC
   try rw [hq] at HC
   try unfold Kn.val at HG
   try rw [hn] at HG
   try rw [ho] at HG
   try rw [hl'] at HG
   try rw [hm] at HG
   try rw [hb] at HG
   try rw [hq] at HG
   simp only [Kn.val, hn, ho, hl', hm, hb, hq]
   have HC := Lib.hid HC
   have HG := Lib.hid HG
   clear hps hpw hfe hcl h1 hr h hn ho hl' hm hb hq hg HN
   go_enter Tryz.func185, Tryz.ntmps185
   go_wp2_with fail
   refine (HC.out _).mono ?_
   rintro e w1 ⟨rfl, hb1⟩
   obtain ⟨q0, q1, q2, q3, q4, q5, B1⟩ := box6_call hb1 (Below.refl _ _)
   go_wp2_with fail
   refine (HG.out _).mono ?_
   rintro e w2 ⟨rfl, hb2⟩
   clear q0 q1 q2 q3 q4 q5
   obtain ⟨q0, q1, q2, q3, q4, q5, B2⟩ := box6_call hb2 (B1)
   go_wp2_with fail
   go_ret
   exact ⟨rfl, ((Below.refl _ _).alloc (Nat.le_refl _) _).trans (B2.mono (by simp))⟩

theorem find_range (p : Nat → Bool) : ∀ (n s c : Nat), (List.range' s n).find? p = some c → s ≤ c ∧ c < s + n ∧ p c = true ∧ ∀ x, s ≤ x → x < c → p x = false := by
 intro n
 induction n with
 | zero => intro s c h; simp at h
 | succ n ih =>
  intro s c h
  rw [List.range'_succ, List.find?_cons] at h
  cases hp : p s with
  | true =>
   rw [hp] at h
   injection h with h
   subst h
   exact ⟨Nat.le_refl _, by omega, hp, fun x h1 h2 => by omega⟩
  | false =>
   rw [hp] at h
   obtain ⟨h1, h2, h3, h4⟩ := ih (s + 1) c h
   refine ⟨by omega, by omega, h3, fun x hx1 hx2 => ?_⟩
   by_cases hxs : x = s
   ·subst hxs; exact hp
   ·exact h4 x (by omega) hx2

theorem bsL_eq {a b : List UInt8} : ((bsL a).toList == (bsL b).toList) = decide (a = b) := by
 rw [Bool.eq_iff_iff, beq_iff_eq, decide_eq_true_eq]
 constructor
 ·intro h
  rw [ByteArray.toList_eq, ByteArray.toList_eq] at h
  exact h
 ·rintro rfl; rfl

set_option maxHeartbeats 4000000 in
theorem specL2Find (k : Kn) (A : Option Addr) (c B d : Nat) (L : List UInt8) (w : World) (h : k.Valid) (hA : k.At w B A) (hB : B ≤ w.heap.size) (hd : k.find L = some d) (hf : L.length = 1 → (L.headD 0).toNat < k.clear) (hL : L.length ≤ 100000) :
  Calls Tryz.prog 199 #[k.val A c, .string (bsL L)] w fun e w' => e = .returned (.int .i64 (d : Int)) ∧ Below w.heap.size w w' := by
 have hps := h.room
 have hpw := h.pow
 have hfe := k.fin_eq
 have hgb := Kn.great_bounds h
 have hll := h.lit8
 by_cases h1 : L.length = 1
 ·have hfd := hf h1
  unfold Kn.find at hd
  rw [if_pos ⟨h1, hfd⟩] at hd
  injection hd with hd
  obtain ⟨y, rfl⟩ : ∃ y, L = [y] := by
   cases L with
   | nil => simp at h1
   | cons y ys =>
    cases ys with
    | nil => exact ⟨y, rfl⟩
    | cons z zs => simp at h1
  have hyd : y.toNat = d := hd
  have hyc : d < k.clear := by rw [← hyd]; exact hfd
  have HC := fun W => specL1Clear k.o k.l k.m W (by omega)
  unfold setV at HC
  have hcl : 2 ^ k.l = k.clear := rfl
  rw [hcl] at HC
  obtain ⟨z, hz⟩ : ∃ z, k.clear = z := ⟨_, rfl⟩
  rw [hz] at HC hyc
  obtain ⟨U, hU⟩ : ∃ U, bsL [y] = U := ⟨_, rfl⟩
  have hUs : U.size = 1 := by rw [← hU]; rfl
  have hU0 : U[0].toNat = d := by subst hU; exact hyd
  rw [hU]
  obtain ⟨n, hn⟩ : ∃ x, k.ps.length = x := ⟨_, rfl⟩
  obtain ⟨o, ho⟩ : ∃ x, k.o = x := ⟨_, rfl⟩
  obtain ⟨l, hl'⟩ : ∃ x, k.l = x := ⟨_, rfl⟩
  obtain ⟨m, hm⟩ : ∃ x, k.m = x := ⟨_, rfl⟩
  obtain ⟨b, hb⟩ : ∃ x, k.base = x := ⟨_, rfl⟩
  obtain ⟨q, hq⟩ : ∃ x, k.lastI = x := ⟨_, rfl⟩
  try unfold Kn.val at HC
  try rw [hn] at HC
  try rw [ho] at HC
  try rw [hl'] at HC
  try rw [hm] at HC
  try rw [hb] at HC
  try rw [hq] at HC
  simp only [Kn.val, hn, ho, hl', hm, hb, hq]
  have HC := Lib.hid HC
  have hlt : ((d : Int) < (z : Int)) := by omega
  have hdb : d < 256 := by rw [← hyd]; exact y.toNat_lt
  clear hps hpw hfe hgb hll h1 hfd hd hf hyd hcl h hn ho hl' hm hb hq hA hz hU hL
  go_enter Tryz.func199, Tryz.ntmps199
  go_wp2_with fail
  obtain ⟨q0, q1, q2, q3, q4, q5, _⟩ := box6 (Below.refl _ (w.alloc (.cells #[.int .i64 (o : Int), .int .i64 (l : Int), .int .i64 (m : Int), .slice A n c, .int .i64 (b : Int), .int .i64 q] 74)))
  refine wp_region_cls (by kernel_rfl) (by kernel_rfl) ?_
  have c0 := clsCell q0
  have c1 := clsCell q1
  have c2 := clsCell q2
  repeat (go_big_quiet_step (first | (go_at_call 117; exact clsCall (HC.out _))))
  refine wpQuiet_nil ?_
  rintro w' ⟨⟨w', hB⟩, rfl⟩
  go_wp2_with fail
  go_ret
  exact ⟨rfl, ((Below.refl _ _).alloc (Nat.le_refl _) _).trans (hB.mono (by simp))⟩
 ·unfold Kn.find at hd
  rw [if_neg (fun hh => h1 hh.1)] at hd
  obtain ⟨hd1, hd2, hd3, hd4⟩ := find_range _ _ _ _ hd
  have hdL : k.any d = L := by simpa using hd3
  have hne : ∀ y, k.fin + 1 ≤ y → y < d → k.any y ≠ L := fun y hy1 hy2 => by simpa using hd4 y hy1 hy2
  have HG := fun W => specL2Greatest k A c W h
  have HE := fun W => specL1End k.o k.l k.m W (by omega)
  have HY := fun (y : Nat) (hy1 : k.fin + 1 ≤ y) (hy2 : y ≤ k.great) (W : World) (hb : Below w.heap.size w W) => specL2Any k A c B y W h (hA.below hb hB) (Nat.le_trans hB hb.size) (Kn.can_range h (by omega) hy2)
  have hfv : 2 ^ k.l + 1 = k.fin := rfl
  rw [hfv] at HE
  obtain ⟨f, hff⟩ : ∃ f, k.fin = f := ⟨_, rfl⟩
  obtain ⟨g, hg⟩ : ∃ g, k.great = g := ⟨_, rfl⟩
  rw [hff] at HE HY hd1 hd2 hne hgb
  rw [hg] at HG HY hd2 hgb
  have hfb : f ≤ 300 := by omega
  have hgb2 : g ≤ 1023 := by omega
  obtain ⟨f1, hf1⟩ : ∃ z : Nat, (f : Int) + 1 = z := ⟨f + 1, by omega⟩
  have hf1' : f + 1 = f1 := by omega
  rw [hf1'] at HY hne hd1
  have w1 : IntKind.i64.wrap (f1 : Int) = f1 := IntWalk.i64_in _ (by omega)
  have hdg : d ≤ g := by omega
  have hL1 : (((bsL L).size : Int) == 1) = false := by rw [bsL_size, beq_eq_false_iff_ne]; omega
  have hLs : (bsL L).size ≤ 100000 := hL
  obtain ⟨U, hU⟩ : ∃ U, bsL L = U := ⟨_, rfl⟩
  have hT : ∀ y, ((bsL (k.any y)).toList == U.toList) = decide (k.any y = L) := fun y => by rw [← hU]; exact bsL_eq
  rw [hU] at hL1 hLs ⊢
  have HT := Lib.hid hT
  have HNE := Lib.hid hne
  have HDL := Lib.hid hdL
  obtain ⟨n, hn⟩ : ∃ x, k.ps.length = x := ⟨_, rfl⟩
  obtain ⟨o, ho⟩ : ∃ x, k.o = x := ⟨_, rfl⟩
  obtain ⟨l, hl'⟩ : ∃ x, k.l = x := ⟨_, rfl⟩
  obtain ⟨m, hm⟩ : ∃ x, k.m = x := ⟨_, rfl⟩
  obtain ⟨b, hb⟩ : ∃ x, k.base = x := ⟨_, rfl⟩
  obtain ⟨q, hq⟩ : ∃ x, k.lastI = x := ⟨_, rfl⟩
  try unfold Kn.val at HE
  try rw [hn] at HE
  try rw [ho] at HE
  try rw [hl'] at HE
  try rw [hm] at HE
  try rw [hb] at HE
  try rw [hq] at HE
  try unfold Kn.val at HG
  try rw [hn] at HG
  try rw [ho] at HG
  try rw [hl'] at HG
  try rw [hm] at HG
  try rw [hb] at HG
  try rw [hq] at HG
  try unfold Kn.val at HY
  try rw [hn] at HY
  try rw [ho] at HY
  try rw [hl'] at HY
  try rw [hm] at HY
  try rw [hb] at HY
  try rw [hq] at HY
  simp only [Kn.val, hn, ho, hl', hm, hb, hq]
  have HE := Lib.hid HE
  have HG := Lib.hid HG
  have HY := Lib.hid HY
  clear hps hpw hfe hgb hll h1 hd hf hd2 hd3 hd4 hdL hne hfv hff hg hf1' h hn ho hl' hm hb hq hA hU hL hT
  go_enter Tryz.func199, Tryz.ntmps199
  go_wp2_with fail
  obtain ⟨q0, q1, q2, q3, q4, q5, _⟩ := box6 (Below.refl _ (w.alloc (.cells #[.int .i64 (o : Int), .int .i64 (l : Int), .int .i64 (m : Int), .slice A n c, .int .i64 (b : Int), .int .i64 q] 74)))
  refine wp_region_cls (by kernel_rfl) (by kernel_rfl) ?_
  repeat (go_big_quiet_step (fail))
  refine wpQuiet_nil ?_
  rintro w' ⟨⟨w', hB0⟩, rfl⟩
  have hB1 := hB0
  simp only [World.size_alloc] at hB1
  clear q0 q1 q2 q3 q4 q5
  obtain ⟨q0, q1, q2, q3, q4, q5, hB2⟩ := box6 hB1
  clear hB0 hB1
  go_wp2_with fail
  refine (HE.out _).mono ?_
  rintro e w2 ⟨rfl, hb2⟩
  clear q0 q1 q2 q3 q4 q5
  obtain ⟨q0, q1, q2, q3, q4, q5, hB3⟩ := box6_call hb2 hB2
  clear hB2 hb2
  go_wp2_with fail
  go_loopw [5] (fun v wr => ∃ y : Nat, v = .int .i64 (y : Int) ∧ f1 ≤ y ∧ y ≤ d ∧ Below (w.heap.size + 1) (w.alloc (.cells #[.int .i64 (o : Int), .int .i64 (l : Int), .int .i64 (m : Int), .slice A n c, .int .i64 (b : Int), .int .i64 q] 74)) wr) (fun v _ => d - (intOf v).toNat)
  case atStart => exact ⟨f1, rfl, Nat.le_refl _, hd1, hB3⟩
  case round =>
   clear q0 q1 q2 q3 q4 q5 hB3
   obtain ⟨y, rfl, hy1, hy2, hBr⟩ := hrel
   obtain ⟨q0, q1, q2, q3, q4, q5, _⟩ := box6 hBr
   go_wp2_with fail
   refine (HG.out _).mono ?_
   rintro e w3 ⟨rfl, hb3⟩
   clear q0 q1 q2 q3 q4 q5
   obtain ⟨q0, q1, q2, q3, q4, q5, hB4⟩ := box6_call hb3 hBr
   clear hb3 hBr
   have hyg : (y : Int) ≤ g := by omega
   go_wp2_with fail
   refine (HY.out y hy1 (by omega) _ (((Below.refl _ _).alloc (Nat.le_refl _) _).trans (hB4.mono (by omega)))).mono ?_
   rintro e w4 ⟨rfl, hb4⟩
   clear q0 q1 q2 q3 q4 q5
   obtain ⟨q0, q1, q2, q3, q4, q5, hB5⟩ := box6_call hb4 hB4
   clear hb4 hB4
   have ht := HT.out y
   obtain ⟨T, hTT⟩ : ∃ T, bsL (k.any y) = T := ⟨_, rfl⟩
   rw [hTT] at ht ⊢
   clear hTT
   by_cases hyd : y = d
   ·have hdl := HDL.out
    rw [hyd, hdl, decide_eq_true rfl] at ht
    have hbw := ((Below.refl w.heap.size w).alloc (Nat.le_refl _) _).trans (hB5.mono (by omega))
    go_wp2_with fail
    go_ret
    exact ⟨by first | rfl | rw [hyd], hbw⟩
   ·rw [decide_eq_false (HNE.out y hy1 (by omega))] at ht
    go_wp2_with fail
    go_roundw
    case rel => exact ⟨y + 1, by go_num, by omega, by omega, hB5⟩
    case measure => simp [intOf]; omega

def Kn.lstep (k : Kn) (L best : List UInt8) (c : Nat) : List UInt8 := if best.length < (k.any c).length ∧ (k.any c).isPrefixOf L = true then k.any c else best

def Kn.lbest (k : Kn) (L : List UInt8) (j : Nat) : List UInt8 := (List.range' (k.fin + 1) j).foldl (k.lstep L) (L.take 1)

theorem Kn.lbest_all (k : Kn) (L : List UInt8) : k.lbest L (k.great - k.fin) = k.longest L := rfl

theorem Kn.lbest_zero (k : Kn) (L : List UInt8) : k.lbest L 0 = L.take 1 := rfl

theorem Kn.lbest_succ (k : Kn) (L : List UInt8) (j : Nat) : k.lbest L (j + 1) = k.lstep L (k.lbest L j) (k.fin + 1 + j) := by
 unfold Kn.lbest
 rw [List.range'_concat, List.foldl_append]
 simp

theorem Kn.lbest_le (k : Kn) (L : List UInt8) (j : Nat) : (k.lbest L j).length ≤ k.ps.length + 3 := by
 induction j with
 | zero => rw [Kn.lbest_zero, List.length_take]; omega
 | succ j ih =>
  rw [Kn.lbest_succ]
  unfold Kn.lstep
  split
  ·exact k.any_le _
  ·exact ih

theorem isPrefixOf_take {a L : List UInt8} : a.isPrefixOf L = true ↔ a.length ≤ L.length ∧ L.take a.length = a := by
 rw [List.isPrefixOf_iff_prefix]
 constructor
 ·intro h; exact ⟨h.length_le, (List.prefix_iff_eq_take.1 h).symm⟩
 ·rintro ⟨h1, h2⟩; exact List.prefix_iff_eq_take.2 h2.symm

set_option maxHeartbeats 8000000 in
theorem specL2Longest (k : Kn) (A : Option Addr) (c B : Nat) (L : List UInt8) (w : World) (h : k.Valid) (hA : k.At w B A) (hB : B ≤ w.heap.size) (hL : 1 ≤ L.length) (hL2 : L.length ≤ 100000) :
  Calls Tryz.prog 197 #[k.val A c, .string (bsL L)] w fun e w' => e = .returned (.string (bsL (k.longest L))) ∧ Below w.heap.size w w' := by
 have hps := h.room
 have hpw := h.pow
 have hfe := k.fin_eq
 have hgb := Kn.great_bounds h
 have hll := h.lit8
 have HG := fun W => specL2Greatest k A c W h
 have HE := fun W => specL1End k.o k.l k.m W (by omega)
 have HY := fun (y : Nat) (hy1 : k.fin + 1 ≤ y) (hy2 : y ≤ k.great) (W : World) (hb : Below w.heap.size w W) => specL2Any k A c B y W h (hA.below hb hB) (Nat.le_trans hB hb.size) (Kn.can_range h (by omega) hy2)
 have hfv : 2 ^ k.l + 1 = k.fin := rfl
 rw [hfv] at HE
 have hstep := k.lbest_succ L
 have hble := k.lbest_le L
 have hb0 := k.lbest_zero L
 have hball := k.lbest_all L
 obtain ⟨bst, hbst⟩ : ∃ f, k.lbest L = f := ⟨_, rfl⟩
 obtain ⟨R, hR⟩ : ∃ R, k.longest L = R := ⟨_, rfl⟩
 rw [hbst] at hstep hble hb0 hball
 rw [hR] at hball ⊢
 obtain ⟨f, hff⟩ : ∃ f, k.fin = f := ⟨_, rfl⟩
 obtain ⟨g, hg⟩ : ∃ g, k.great = g := ⟨_, rfl⟩
 rw [hff] at HE HY hgb hstep hball
 rw [hg] at HG HY hgb hball
 have hfb : f ≤ 300 := by omega
 have hgb2 : g ≤ 1023 := by omega
 have hfg : f ≤ g := by omega
 have hnb : k.ps.length ≤ 1023 := by omega
 obtain ⟨f1, hf1⟩ : ∃ z : Nat, (f : Int) + 1 = z := ⟨f + 1, by omega⟩
 have hf1' : f + 1 = f1 := by omega
 rw [hf1'] at HY hstep
 have w1 : IntKind.i64.wrap (f1 : Int) = f1 := IntWalk.i64_in _ (by omega)
 have HS := Lib.hid hstep
 have HBL : Hid (∀ j, (bst j).length ≤ 1026) := Lib.hid fun j => by have := hble j; omega
 have HB0 := Lib.hid hb0
 have HBA := Lib.hid hball
 have HAL : Hid (∀ x, (k.any x).length ≤ 1026) := Lib.hid fun x => by have := k.any_le x; omega
 obtain ⟨any, hany⟩ : ∃ a, k.any = a := ⟨_, rfl⟩
 unfold Kn.lstep at HS
 simp only [hany] at HS HY HAL
 obtain ⟨U, hU⟩ : ∃ U, bsL L = U := ⟨_, rfl⟩
 have hUs : U.size = L.length := by rw [← hU]; rfl
 have hU1 : (1 : Int) ≤ U.size := by omega
 have hU2 : U.size ≤ 100000 := by omega
 have hsl : U.extract 0 1 = bsL (bst 0) := by rw [← hU, bsL_take, hb0]
 obtain ⟨U0, hU0⟩ : ∃ z, bsL (bst 0) = z := ⟨_, rfl⟩
 rw [hU0] at hsl
 have HUE : Hid (∀ j, U.extract 0 j = bsL (L.take j)) := Lib.hid fun j => by rw [← hU, bsL_take]
 have HUS := Lib.hid hUs
 rw [hU]
 obtain ⟨n, hn⟩ : ∃ x, k.ps.length = x := ⟨_, rfl⟩
 obtain ⟨o, ho⟩ : ∃ x, k.o = x := ⟨_, rfl⟩
 obtain ⟨l, hl'⟩ : ∃ x, k.l = x := ⟨_, rfl⟩
 obtain ⟨m, hm⟩ : ∃ x, k.m = x := ⟨_, rfl⟩
 obtain ⟨b, hb⟩ : ∃ x, k.base = x := ⟨_, rfl⟩
 obtain ⟨q, hq⟩ : ∃ x, k.lastI = x := ⟨_, rfl⟩
 try unfold Kn.val at HE
 try rw [hn] at HE
 try rw [ho] at HE
 try rw [hl'] at HE
 try rw [hm] at HE
 try rw [hb] at HE
 try rw [hq] at HE
 try unfold Kn.val at HG
 try rw [hn] at HG
 try rw [ho] at HG
 try rw [hl'] at HG
 try rw [hm] at HG
 try rw [hb] at HG
 try rw [hq] at HG
 try unfold Kn.val at HY
 try rw [hn] at HY
 try rw [ho] at HY
 try rw [hl'] at HY
 try rw [hm] at HY
 try rw [hb] at HY
 try rw [hq] at HY
 simp only [Kn.val, hn, ho, hl', hm, hb, hq]
 have HE := Lib.hid HE
 have HG := Lib.hid HG
 have HY := Lib.hid HY
 clear hps hpw hfe hgb hll hfv hff hg hf1' h hn ho hl' hm hb hq hA hU hL hstep hble hb0 hball hbst hR hany hnb hUs hL2
 go_enter Tryz.func197, Tryz.ntmps197
 go_wp2_with fail
 obtain ⟨q0, q1, q2, q3, q4, q5, _⟩ := box6 (Below.refl _ (w.alloc (.cells #[.int .i64 (o : Int), .int .i64 (l : Int), .int .i64 (m : Int), .slice A n c, .int .i64 (b : Int), .int .i64 q] 74)))
 go_wp2_with fail
 refine (HE.out _).mono ?_
 rintro e w2 ⟨rfl, hb2⟩
 clear q0 q1 q2 q3 q4 q5
 obtain ⟨q0, q1, q2, q3, q4, q5, hB3⟩ := box6_call hb2 (Below.refl _ _)
 clear hb2
 go_wp2_with fail
 go_loopw [5, 6] (fun u v wr => ∃ y : Nat, u = .string (bsL (bst (y - f1))) ∧ v = .int .i64 (y : Int) ∧ f1 ≤ y ∧ y ≤ g + 1 ∧ Below (w.heap.size + 1) (w.alloc (.cells #[.int .i64 (o : Int), .int .i64 (l : Int), .int .i64 (m : Int), .slice A n c, .int .i64 (b : Int), .int .i64 q] 74)) wr) (fun _ v _ => g + 1 - (intOf v).toNat)
 case atStart => exact ⟨f1, by rw [Nat.sub_self, hU0], rfl, Nat.le_refl _, by omega, hB3⟩
 case round =>
  clear q0 q1 q2 q3 q4 q5 hB3
  obtain ⟨y, rfl, rfl, hy1, hy2, hBr⟩ := hrel
  obtain ⟨q0, q1, q2, q3, q4, q5, _⟩ := box6 hBr
  obtain ⟨jj, hjj⟩ : ∃ z, y - f1 = z := ⟨_, rfl⟩
  rw [hjj]
  by_cases hyg : (y : Int) ≤ g
  ·have hble := HBL.out jj
   have hs := HS.out jj
   have hale := HAL.out y
   obtain ⟨lb, hlb⟩ : ∃ z, bst jj = z := ⟨_, rfl⟩
   rw [hlb] at hble hs ⊢
   rw [show f1 + jj = y by omega] at hs
   obtain ⟨V, hV⟩ : ∃ z, bsL lb = z := ⟨_, rfl⟩
   have hVs : V.size = lb.length := by rw [← hV]; rfl
   have hVb : V.size ≤ 1026 := by omega
   rw [hV]
   go_wp2_with fail
   refine (HG.out _).mono ?_
   rintro e w3 ⟨rfl, hb3⟩
   clear q0 q1 q2 q3 q4 q5
   obtain ⟨q0, q1, q2, q3, q4, q5, hB4⟩ := box6_call hb3 hBr
   clear hb3 hBr
   go_wp2_with fail
   refine (HY.out y hy1 (by omega) _ (((Below.refl _ _).alloc (Nat.le_refl _) _).trans (hB4.mono (by omega)))).mono ?_
   rintro e w4 ⟨rfl, hb4⟩
   clear q0 q1 q2 q3 q4 q5
   obtain ⟨q0, q1, q2, q3, q4, q5, hB5⟩ := box6_call hb4 hB4
   clear hb4 hB4
   obtain ⟨a, ha⟩ : ∃ z, any y = z := ⟨_, rfl⟩
   rw [ha] at hs hale ⊢
   obtain ⟨T, hT⟩ : ∃ z, bsL a = z := ⟨_, rfl⟩
   have hTs : T.size = a.length := by rw [← hT]; rfl
   have hTb : T.size ≤ 1026 := by omega
   have hnext : y + 1 - f1 = jj + 1 := by omega
   have hus := HUS.out
   rw [hT]
   by_cases c1 : (V.size : Int) < T.size
   ·by_cases c2 : (T.size : Int) ≤ U.size
    ·have hue := HUE.out T.size
     have hrel : (bsL (bst (jj + 1)) = if L.take a.length = a then T else V) := by
      rw [hs]
      by_cases hp : L.take a.length = a
      ·rw [if_pos hp, if_pos ⟨by omega, isPrefixOf_take.2 ⟨by omega, hp⟩⟩, hT]
      ·rw [if_neg hp, if_neg (fun hh => hp (isPrefixOf_take.1 hh.2).2), hV]
     have hcmp : ((bsL (L.take T.size)).toList == T.toList) = decide (L.take a.length = a) := by rw [← hT, bsL_eq, bsL_size]
     obtain ⟨E, hE⟩ : ∃ z, bsL (L.take T.size) = z := ⟨_, rfl⟩
     rw [hE] at hue hcmp
     clear hE hs hus hTs hVs hT hV ha hlb hale hble
     by_cases hp : L.take a.length = a
     ·rw [decide_eq_true hp] at hcmp
      rw [if_pos hp] at hrel
      have HRL := Lib.hid hrel
      clear hrel hp
      go_wp2_with fail
      go_roundw
      case rel => exact ⟨y + 1, by rw [hnext, HRL.out], by go_num, by omega, by omega, hB5⟩
      case measure => simp [intOf]; omega
     ·rw [decide_eq_false hp] at hcmp
      rw [if_neg hp] at hrel
      have HRL := Lib.hid hrel
      clear hrel hp
      go_wp2_with fail
      go_roundw
      case rel => exact ⟨y + 1, by rw [hnext, HRL.out], by go_num, by omega, by omega, hB5⟩
      case measure => simp [intOf]; omega
    ·have hrel : bsL (bst (jj + 1)) = V := by rw [hs, if_neg (fun hh => c2 (by have := (isPrefixOf_take.1 hh.2).1; omega)), hV]
     have HRL := Lib.hid hrel
     clear hrel hs hus hTs hVs hT hV ha hlb hale hble
     go_wp2_with fail
     go_roundw
     case rel => exact ⟨y + 1, by rw [hnext, HRL.out], by go_num, by omega, by omega, hB5⟩
     case measure => simp [intOf]; omega
   ·have hrel : bsL (bst (jj + 1)) = V := by rw [hs, if_neg (fun hh => c1 (by have := hh.1; omega)), hV]
    have HRL := Lib.hid hrel
    clear hrel hs hus hTs hVs hT hV ha hlb hale hble
    go_wp2_with fail
    go_roundw
    case rel => exact ⟨y + 1, by rw [hnext, HRL.out], by go_num, by omega, by omega, hB5⟩
    case measure => simp [intOf]; omega
  ·have hja : bst jj = R := by rw [show jj = g - f by omega, HBA.out]
   rw [hja]
   go_wp2_with fail
   refine (HG.out _).mono ?_
   rintro e w3 ⟨rfl, hb3⟩
   have hB4 := (box6_call hb3 hBr).2.2.2.2.2.2
   have hbw := ((Below.refl w.heap.size w).alloc (Nat.le_refl _) _).trans (hB4.mono (by omega))
   clear hb3 hBr q0 q1 q2 q3 q4 q5 hB4
   go_wp2_with fail
   go_ret
   exact ⟨rfl, hbw⟩

def sv (o l m : Int) : Prop := (o = 0 ∨ o = 1) ∧ (1 ≤ l ∧ l ≤ 8) ∧ (l + 2 ≤ m ∧ m ≤ 10)

instance (o l m : Int) : Decidable (sv o l m) := by unfold sv; infer_instance

theorem specL1Order (o : Int) (b : Bool) (w : World) (hb : b = true ↔ o = 0 ∨ o = 1) :
  Calls Tryz.prog 165 #[.int .i64 o] w fun e w' => e = .returned (.bool b) ∧ w = w' := by
 go_enter Tryz.func165, Tryz.ntmps165
 go_wp2
 all_goals go_ret
 all_goals refine ⟨ret_bool ?_, rfl⟩
 all_goals rw [Bool.eq_iff_iff, hb]; simp; try omega

set_option maxHeartbeats 1000000 in
theorem specSettingValid (o l m : Int) (r : Bool) (w : World) (hr : r = true ↔ sv o l m) :
  Calls Tryz.prog 132 #[.agg #[.int .i64 o, .int .i64 l, .int .i64 m]] w fun e w' => e = .returned (.bool r) ∧ Below w.heap.size w w' := by
 by_cases h1 : o = 0 ∨ o = 1
 ·by_cases h2 : 1 ≤ l ∧ l ≤ 8
  ·by_cases h3 : l + 2 ≤ m ∧ m ≤ 10
   ·have hrt : r = true := hr.2 ⟨h1, h2, h3⟩
    subst hrt
    have H1 := Lib.hid (fun W => specL1Order o true W (btrue h1))
    have H2 := Lib.hid (fun W => specL1In l 1 8 true W (btrue h2))
    have H3 := Lib.hid (fun W => specL1In m (l + 2) 10 true W (btrue h3))
    obtain ⟨h2a, h2b⟩ := h2
    clear hr h1 h3
    go_enter Tryz.func132, Tryz.ntmps132
    go_wp2_with (first | ((with_reducible refine (H1.out _).mono ?_); rintro e w1 ⟨rfl, rfl⟩) | ((with_reducible refine (H2.out _).mono ?_); rintro e w1 ⟨rfl, rfl⟩) | ((with_reducible refine (H3.out _).mono ?_); rintro e w1 ⟨rfl, rfl⟩))
    go_ret
    exact ⟨rfl, (Below.refl _ _).alloc (Nat.le_refl _) _⟩
   ·have hrt : r = false := by cases r with | false => rfl | true => exact absurd (hr.1 rfl).2.2 h3
    subst hrt
    have H1 := Lib.hid (fun W => specL1Order o true W (btrue h1))
    have H2 := Lib.hid (fun W => specL1In l 1 8 true W (btrue h2))
    have H3 := Lib.hid (fun W => specL1In m (l + 2) 10 false W (bfalse h3))
    obtain ⟨h2a, h2b⟩ := h2
    clear hr h1 h3
    go_enter Tryz.func132, Tryz.ntmps132
    go_wp2_with (first | ((with_reducible refine (H1.out _).mono ?_); rintro e w1 ⟨rfl, rfl⟩) | ((with_reducible refine (H2.out _).mono ?_); rintro e w1 ⟨rfl, rfl⟩) | ((with_reducible refine (H3.out _).mono ?_); rintro e w1 ⟨rfl, rfl⟩))
    go_ret
    exact ⟨rfl, (Below.refl _ _).alloc (Nat.le_refl _) _⟩
  ·have hrt : r = false := by cases r with | false => rfl | true => exact absurd (hr.1 rfl).2.1 h2
   subst hrt
   have H1 := Lib.hid (fun W => specL1Order o true W (btrue h1))
   have H2 := Lib.hid (fun W => specL1In l 1 8 false W (bfalse h2))
   clear hr h1 h2
   go_enter Tryz.func132, Tryz.ntmps132
   go_wp2_with (first | ((with_reducible refine (H1.out _).mono ?_); rintro e w1 ⟨rfl, rfl⟩) | ((with_reducible refine (H2.out _).mono ?_); rintro e w1 ⟨rfl, rfl⟩))
   go_ret
   exact ⟨rfl, (Below.refl _ _).alloc (Nat.le_refl _) _⟩
 ·have hrt : r = false := by cases r with | false => rfl | true => exact absurd (hr.1 rfl).1 h1
  subst hrt
  have H1 := Lib.hid (fun W => specL1Order o false W (bfalse h1))
  clear hr h1
  go_enter Tryz.func132, Tryz.ntmps132
  go_wp2_with (first | ((with_reducible refine (H1.out _).mono ?_); rintro e w1 ⟨rfl, rfl⟩))
  go_ret
  exact ⟨rfl, (Below.refl _ _).alloc (Nat.le_refl _) _⟩

def litsL (c : Nat) (l : List UInt8) : Prop := ∀ b ∈ l, b.toNat < c

instance (c : Nat) (l : List UInt8) : Decidable (litsL c l) := by unfold litsL; infer_instance

set_option maxHeartbeats 2000000 in
theorem specL1Fits (o l m : Nat) (s : ByteArray) (r : Bool) (w : World) (hl : l ≤ 8) (hs : s.size ≤ 100000) (hr : r = true ↔ litsL (2 ^ l) s.data.toList) :
  Calls Tryz.prog 133 #[.agg #[.int .i64 (o : Int), .int .i64 (l : Int), .int .i64 (m : Int)], .string s] w fun e w' => e = .returned (.bool r) ∧ Below w.heap.size w w' := by
 have HC := fun W => specL1Clear o l m W (by omega)
 unfold setV at HC
 have hc8 : 2 ^ l ≤ 2 ^ 8 := Nat.pow_le_pow_right (by omega) hl
 obtain ⟨z, hz⟩ : ∃ z, 2 ^ l = z := ⟨_, rfl⟩
 rw [hz] at HC hr hc8
 replace HC := Lib.hid HC
 replace hr := Lib.hid hr
 clear hz hl
 go_enter Tryz.func133, Tryz.ntmps133
 go_wp2_with fail
 go_loopw [5] (fun v wr => ∃ i : Nat, v = .int .i64 (i : Int) ∧ i ≤ s.size ∧ Hid (litsL z (s.data.toList.take i)) ∧ Hid (Below (w.heap.size + 1) (w.alloc (.cells #[.int .i64 (o : Int), .int .i64 (l : Int), .int .i64 (m : Int)] 24)) wr)) (fun v _ => s.size - (intOf v).toNat)
 case atStart => exact ⟨0, rfl, Nat.zero_le _, Lib.hid (fun b hb => by simp at hb), Lib.hid (Below.refl _ _)⟩
 case round =>
  obtain ⟨i, rfl, hi, hf, hbel⟩ := hrel
  obtain ⟨q0, q1, q2, _⟩ := box3 hbel.out
  by_cases h1 : i < s.size
  ·obtain ⟨x, hx⟩ : ∃ x, s[i].toNat = x := ⟨_, rfl⟩
   have hxb : x < 256 := by rw [← hx]; exact s[i].toNat_lt
   have hil : i < s.data.toList.length := by simpa using h1
   have hxl : s.data.toList[i].toNat = x := by rw [← hx]; simp [ByteArray.getElem_eq_getElem_data]
   by_cases h2 : x < z
   ·have hg : decide (z ≤ x) = false := decide_eq_false (by omega)
    have hg2 : decide ((z : Int) ≤ x) = false := decide_eq_false (by omega)
    have hf2 : Hid (litsL z (s.data.toList.take (i + 1))) := Lib.hid (by
     rw [List.take_succ_eq_append_getElem hil]
     intro b hb
     rcases List.mem_append.1 hb with h | h
     ·exact hf.out b h
     ·rw [List.mem_singleton] at h; subst h; rw [hxl]; exact h2)
    clear hxl
    go_wp2_with fail
    refine wp_region_cls (by kernel_rfl) (by kernel_rfl) ?_
    have c0 := clsCell q0
    have c1 := clsCell q1
    have c2 := clsCell q2
    repeat (go_big_quiet_step (first | (go_at_call 117; exact clsCall (HC.out _))))
    refine wpQuiet_nil ?_
    rintro w' ⟨⟨w', hB⟩, rfl⟩
    have HB := Lib.hid (hbel.out.trans (hB.mono (by have := hbel.out.size; simp at this; omega)))
    clear c0 c1 c2 q0 q1 q2
    go_wp2_with fail
    go_roundw
    case rel => exact ⟨i + 1, by go_num, by omega, hf2, HB⟩
    case measure => simp [intOf]; omega
   ·have hg : decide (z ≤ x) = true := decide_eq_true (by omega)
    have hg2 : decide ((z : Int) ≤ x) = true := decide_eq_true (by omega)
    have hrf : r = false := by
     cases r with
     | false => rfl
     | true =>
      have := hr.out.1 rfl s.data.toList[i] (List.getElem_mem hil)
      omega
    subst hrf
    clear hxl
    go_wp2_with fail
    refine wp_region_cls (by kernel_rfl) (by kernel_rfl) ?_
    have c0 := clsCell q0
    have c1 := clsCell q1
    have c2 := clsCell q2
    repeat (go_big_quiet_step (first | (go_at_call 117; exact clsCall (HC.out _))))
    refine wpQuiet_nil ?_
    rintro w' ⟨⟨w', hB⟩, rfl⟩
    go_wp2_with fail
    go_ret
    exact ⟨rfl, ((Below.refl _ _).alloc (Nat.le_refl _) _).trans ((hbel.out.trans (hB.mono (by have := hbel.out.size; simp at this; omega))).mono (by omega))⟩
  ·have hrt : r = true := hr.out.2 (by
    have := hf.out
    rw [List.take_of_length_le (by simp; omega)] at this
    exact this)
   subst hrt
   go_wp2_with fail
   go_ret
   exact ⟨rfl, ((Below.refl _ _).alloc (Nat.le_refl _) _).trans (hbel.out.mono (by omega))⟩

def dfits (o l m : Int) (d : List UInt8) : Prop := sv o l m ∧ d.length ≤ 2000 ∧ litsL (2 ^ l.toNat) d

instance (o l m : Int) (d : List UInt8) : Decidable (dfits o l m d) := by unfold dfits; infer_instance

set_option maxHeartbeats 1000000 in
theorem specDataFits (o l m : Int) (s : ByteArray) (r : Bool) (w : World) (hs : s.size ≤ 1048576) (hr : r = true ↔ dfits o l m s.data.toList) :
  Calls Tryz.prog 111 #[.agg #[.int .i64 o, .int .i64 l, .int .i64 m], .string s] w fun e w' => e = .returned (.bool r) ∧ Below w.heap.size w w' := by
 have hsz : s.data.toList.length = s.size := by simp
 by_cases h1 : sv o l m
 ·have H1 := Lib.hid (fun W => specSettingValid o l m true W (btrue h1))
  by_cases h2 : s.size ≤ 2000
  ·obtain ⟨on, hon⟩ : ∃ n : Nat, o = n := ⟨o.toNat, by have := h1.1; omega⟩
   obtain ⟨ln, hln⟩ : ∃ n : Nat, l = n := ⟨l.toNat, by have := h1.2.1; omega⟩
   obtain ⟨mn, hmn⟩ : ∃ n : Nat, m = n := ⟨m.toNat, by have := h1.2; omega⟩
   have hl8 := h1.2.1.2
   subst hon hln hmn
   have H2 := Lib.hid (fun W => specL1Fits on ln mn s r W (by omega) (by omega) (by
    rw [hr]
    unfold dfits
    rw [hsz]
    simp only [Int.toNat_natCast]
    exact ⟨fun h => h.2.2, fun h => ⟨h1, h2, h⟩⟩))
   have h2' : decide ((s.size : Int) ≤ 2000) = true := decide_eq_true (by omega)
   have h2n : decide (s.size ≤ 2000) = true := decide_eq_true h2
   clear hr h1 hl8 hsz h2 hs
   go_enter Tryz.func111, Tryz.ntmps111
   go_wp2_with fail
   refine (H1.out _).mono ?_
   rintro e w1 ⟨rfl, hb1⟩
   have hB1 := hb1.mono (show w.heap.size + 1 ≤ _ by simp)
   obtain ⟨q0, q1, q2, _⟩ := box3 hB1
   have hW1 := Lib.hid (((Below.refl _ _).alloc (Nat.le_refl _) _).trans (hB1.mono (show w.heap.size ≤ _ by omega)))
   clear hb1 hB1
   go_wp2_with fail
   refine (H2.out _).mono ?_
   rintro e w2 ⟨rfl, hb2⟩
   go_wp2_with fail
   go_ret
   exact ⟨rfl, hW1.out.trans (hb2.mono hW1.out.size)⟩
  ·have hrf : r = false := by
    cases r with
    | false => rfl
    | true => have := (hr.1 rfl).2.1; omega
   subst hrf
   have h2' : decide ((s.size : Int) ≤ 2000) = false := decide_eq_false (by omega)
   have h2n : decide (s.size ≤ 2000) = false := decide_eq_false h2
   clear hr h1 hsz
   go_enter Tryz.func111, Tryz.ntmps111
   go_wp2_with fail
   refine (H1.out _).mono ?_
   rintro e w1 ⟨rfl, hb1⟩
   have hB1 := hb1.mono (show w.heap.size + 1 ≤ _ by simp)
   have hW1 := Lib.hid (((Below.refl _ _).alloc (Nat.le_refl _) _).trans (hB1.mono (show w.heap.size ≤ _ by omega)))
   clear hb1 hB1
   go_wp2_with fail
   go_ret
   exact ⟨rfl, hW1.out⟩
 ·have hrf : r = false := by
   cases r with
   | false => rfl
   | true => exact absurd (hr.1 rfl).1 h1
  subst hrf
  have H1 := Lib.hid (fun W => specSettingValid o l m false W (bfalse h1))
  clear hr h1 hsz
  go_enter Tryz.func111, Tryz.ntmps111
  go_wp2_with fail
  refine (H1.out _).mono ?_
  rintro e w1 ⟨rfl, hb1⟩
  have hB1 := hb1.mono (show w.heap.size + 1 ≤ _ by simp)
  have hW1 := Lib.hid (((Below.refl _ _).alloc (Nat.le_refl _) _).trans (hB1.mono (show w.heap.size ≤ _ by omega)))
  clear hb1 hB1
  go_wp2_with fail
  go_ret
  exact ⟨rfl, hW1.out⟩

def bitC (c i : Nat) : UInt8 := UInt8.ofNat (48 + c / 2 ^ i % 2)

def codeL (o c w : Nat) : List UInt8 := if o = 0 then (List.range w).map (bitC c) else ((List.range w).map (bitC c)).reverse

theorem codeL_length (o c w : Nat) : (codeL o c w).length = w := by unfold codeL; split <;> simp

theorem codeL_zero (o c : Nat) : codeL o c 0 = [] := by unfold codeL; split <;> simp

theorem codeL_succ (o c w : Nat) : codeL o c (w + 1) = if o = 0 then codeL o c w ++ [bitC c w] else bitC c w :: codeL o c w := by
 unfold codeL
 split
 ·rw [range_snoc]
 ·rw [range_snoc, List.reverse_append]; rfl

set_option maxHeartbeats 4000000 in
theorem specL1Code (o c wd : Nat) (w : World) (hc : c ≤ 100000) (hw : wd ≤ 20) (ho : o ≤ 1) :
  Calls Tryz.prog 200 #[.int .i64 (o : Int), .int .i64 (c : Int), .int .i64 (wd : Int)] w fun e w' => e = .returned (.string (bsL (codeL o c wd))) ∧ Below w.heap.size w w' := by
 go_enter Tryz.func200, Tryz.ntmps200
 go_wp2_with fail
 go_loopw [7, 8] (fun u v wr => ∃ i : Nat, u = .string (bsL (codeL o c i)) ∧ v = .int .i64 (i : Int) ∧ i ≤ wd ∧ Below w.heap.size w wr) (fun _ v _ => wd - (intOf v).toNat)
 case atStart => exact ⟨0, by rw [codeL_zero], rfl, Nat.zero_le _, Below.refl _ _⟩
 case round =>
  obtain ⟨i, rfl, rfl, hi, hb⟩ := hrel
  by_cases h1 : (i : Int) < wd
  ·have i0 : (0 : Int) ≤ i := by omega
   obtain ⟨q, hq⟩ : ∃ q, c / 2 ^ i = q := ⟨_, rfl⟩
   have hqi : (c : Int) / 2 ^ i = (q : Int) := by rw [← hq]; simp
   have hqc : q ≤ c := by rw [← hq]; exact Nat.div_le_self _ _
   obtain ⟨r, hr⟩ : ∃ r, q % 2 = r := ⟨_, rfl⟩
   have hr2 : r < 2 := by omega
   have hand : bits .and .i64 (q : Int) 1 = (r : Int) := by
    have := i64_and_nat q 1 (by omega) (by omega)
    rw [Nat.and_one_is_mod, hr] at this
    exact this
   obtain ⟨x, hx⟩ : ∃ x : Nat, (48 : Int) + r = x := ⟨48 + r, by omega⟩
   have hxc : UInt8.ofNat x = bitC c i := by unfold bitC; rw [hq, hr]; congr 1; omega
   have hx2 : x < 256 := by omega
   have wu : IntKind.u64.wrap (i : Int) = i := by
    have : i < 256 := by omega
    have h : ∀ y : Fin 256, IntKind.u64.wrap ((y.val : Nat) : Int) = ((y.val : Nat) : Int) := by decide +kernel
    exact h ⟨i, this⟩
   have wx : IntKind.u8.wrap (x : Int) = x := u8_in x hx2
   have wx2 : IntKind.i64.wrap (x : Int) = x := IntWalk.i64_in _ (by omega)
   have hcv := run_one_byte (P := Tryz.prog) Tryz.underlying22 Tryz.underlying5 Tryz.underlying9 x hx2
   have hxc2 : (⟨#[UInt8.ofNat x]⟩ : ByteArray) = bsL [bitC c i] := by rw [hxc]
   rw [hxc2] at hcv
   replace hxc := Lib.hid hxc
   have hlen := codeL_length o c i
   have hsucc := codeL_succ o c i
   obtain ⟨L, hL⟩ : ∃ L, codeL o c i = L := ⟨_, rfl⟩
   rw [hL] at hlen hsucc ⊢
   clear hq hr hL hqc hr2 hxc2
   by_cases h0 : o = 0
   ·rw [if_pos h0] at hsucc
    have hadd : ∀ W, (Op.stringOp .add (bsL L) (bsL [bitC c i])).run Tryz.prog W = .ok (.string (bsL (L ++ [bitC c i]))) W := fun W => by
     rw [run_string_add_sum W _ _ (by rw [bsL_size, bsL_size, hlen]; simp; omega), bsL_append]
    obtain ⟨T, hT⟩ : ∃ T, bsL [bitC c i] = T := ⟨_, rfl⟩
    rw [hT] at hadd hcv
    replace hsucc := Lib.hid hsucc
    subst h0
    clear hT
    go_wp2_with fail
    go_roundw
    case rel => exact ⟨i + 1, by rw [hsucc.out], by go_num, by omega, hb.alloc hb.size _⟩
    case measure => simp [intOf]; omega
   ·have h0' : ((o : Int) == 0) = false := by rw [beq_eq_false_iff_ne]; omega
    rw [if_neg h0] at hsucc
    have hadd : ∀ W, (Op.stringOp .add (bsL [bitC c i]) (bsL L)).run Tryz.prog W = .ok (.string (bsL (bitC c i :: L))) W := fun W => by
     rw [run_string_add_sum W _ _ (by rw [bsL_size, bsL_size, hlen]; simp; omega), bsL_append]; rfl
    obtain ⟨T, hT⟩ : ∃ T, bsL [bitC c i] = T := ⟨_, rfl⟩
    rw [hT] at hadd hcv
    replace hsucc := Lib.hid hsucc
    clear hT h0
    go_wp2_with fail
    go_roundw
    case rel => exact ⟨i + 1, by rw [hsucc.out], by go_num, by omega, hb.alloc hb.size _⟩
    case measure => simp [intOf]; omega
  ·obtain rfl : i = wd := by omega
   go_wp2_with fail
   go_ret
   exact ⟨rfl, hb⟩

def numL (l : List UInt8) : Nat := l.foldl (fun n b => 2 * n + (b.toNat - 48)) 0

def numO (o : Nat) (l : List UInt8) : Nat := numL (if o = 0 then l.reverse else l)

def Digs (l : List UInt8) : Prop := ∀ b ∈ l, 48 ≤ b.toNat ∧ b.toNat ≤ 49

theorem numL_snoc (l : List UInt8) (b : UInt8) : numL (l ++ [b]) = 2 * numL l + (b.toNat - 48) := by
 unfold numL; rw [List.foldl_append]; rfl

theorem numL_lt : ∀ (n : Nat) (l : List UInt8), l.length = n → Digs l → numL l < 2 ^ n := by
 intro n
 induction n with
 | zero =>
  intro l hl _
  rw [List.eq_nil_of_length_eq_zero hl]
  decide
 | succ n ih =>
  intro l hl hd
  have hne : l ≠ [] := by intro h; subst h; simp at hl
  have e := List.dropLast_concat_getLast hne
  rw [← e, numL_snoc]
  have h1 := ih l.dropLast (by rw [List.length_dropLast]; omega) (fun b hb => hd b (List.dropLast_subset _ hb))
  have h2 := hd (l.getLast hne) (List.getLast_mem hne)
  rw [Nat.pow_succ]
  omega

theorem digs_take {l : List UInt8} (h : Digs l) (n : Nat) : Digs (l.take n) := fun b hb => h b (List.mem_of_mem_take hb)

theorem digs_drop {l : List UInt8} (h : Digs l) (n : Nat) : Digs (l.drop n) := fun b hb => h b (List.mem_of_mem_drop hb)

theorem digs_rev {l : List UInt8} (h : Digs l) : Digs l.reverse := fun b hb => h b (List.mem_reverse.1 hb)

theorem digs_append {a b : List UInt8} (ha : Digs a) (hb : Digs b) : Digs (a ++ b) := fun x hx => by
 rcases List.mem_append.1 hx with h | h
 ·exact ha x h
 ·exact hb x h

theorem bitC_digs (c i : Nat) : 48 ≤ (bitC c i).toNat ∧ (bitC c i).toNat ≤ 49 := by
 unfold bitC
 rw [UInt8.toNat_ofNat']
 omega

theorem codeL_digs (o c w : Nat) : Digs (codeL o c w) := by
 have h : Digs ((List.range w).map (bitC c)) := by
  intro b hb
  obtain ⟨i, _, rfl⟩ := List.mem_map.1 hb
  exact bitC_digs c i
 unfold codeL
 split
 ·exact h
 ·exact digs_rev h

set_option maxHeartbeats 1000000 in
theorem specL1Number (o : Nat) (s : ByteArray) (w : World) (ho : o ≤ 1) (hs : s.size ≤ 20) (hd : Digs s.data.toList) :
  Calls Tryz.prog 183 #[.int .i64 (o : Int), .string s] w fun e w' => e = .returned (.int .i64 (numO o s.data.toList : Int)) ∧ w = w' := by
 obtain ⟨l, hl⟩ : ∃ l, (if o = 0 then s.data.toList.reverse else s.data.toList) = l := ⟨_, rfl⟩
 have hle : numO o s.data.toList = numL l := by unfold numO; rw [hl]
 have hll : l.length = s.size := by rw [← hl]; split <;> simp
 have hld : Digs l := by rw [← hl]; split; exact digs_rev hd; exact hd
 rw [hle]
 replace hl := Lib.hid hl
 replace hd := Lib.hid hd
 replace hll := Lib.hid hll
 replace hld := Lib.hid hld
 clear hle
 go_enter Tryz.func183, Tryz.ntmps183
 go_wp2_with fail
 go_loopw [5, 6] (fun u v wr => ∃ i n : Nat, u = .int .i64 (n : Int) ∧ v = .int .i64 (i : Int) ∧ i ≤ s.size ∧ Hid (n = numL (l.take i)) ∧ wr = w) (fun _ v _ => s.size - (intOf v).toNat)
 case atStart => exact ⟨0, 0, rfl, rfl, Nat.zero_le _, Lib.hid rfl, rfl⟩
 case round =>
  obtain ⟨i, n, rfl, rfl, hi, hn, rfl⟩ := hrel
  by_cases h1 : i < s.size
  ·have hnb : n ≤ 1048576 := by
    have h2 := numL_lt i (l.take i) (by rw [List.length_take, hll.out]; omega) (digs_take hld.out i)
    have h3 : 2 ^ i ≤ 2 ^ 20 := Nat.pow_le_pow_right (by omega) (by omega)
    rw [← hn.out] at h2
    omega
   have hil : i < l.length := by rw [hll.out]; exact h1
   obtain ⟨k, hk⟩ : ∃ k, k = (if o = 0 then s.size - 1 - i else i) := ⟨_, rfl⟩
   have hks : k < s.size := by rw [hk]; split <;> omega
   obtain ⟨x, hx⟩ : ∃ x, s[k].toNat = x := ⟨_, rfl⟩
   have hxl : l[i].toNat = x := by
    rw [← hx]
    congr 1
    have hlo := hl.out
    subst hk
    by_cases h0 : o = 0
    ·rw [if_pos h0] at hlo
     subst hlo
     simp [h0, ByteArray.getElem_eq_getElem_data, List.getElem_reverse]
    ·rw [if_neg h0] at hlo
     subst hlo
     simp [h0, ByteArray.getElem_eq_getElem_data]
   have hxd := hld.out l[i] (List.getElem_mem hil)
   rw [hxl] at hxd
   have hn2 : numL (l.take (i + 1)) = 2 * n + (x - 48) := by
    rw [List.take_succ_eq_append_getElem hil, numL_snoc, ← hn.out, hxl]
   obtain ⟨m, hm⟩ : ∃ m : Nat, m = 2 * n + (x - 48) := ⟨_, rfl⟩
   have em : (2 : Int) * n + x - 48 = m := by omega
   have HN : Hid (m = numL (l.take (i + 1))) := Lib.hid (by rw [hn2, hm])
   clear hxl hn2 hm
   by_cases h0 : o = 0
   ·rw [if_pos h0] at hk
    have ek : (s.size : Int) - 1 - i = k := by omega
    subst h0
    clear hk
    go_wp2_with fail
    go_roundw
    case rel => exact ⟨i + 1, m, by go_num, by go_num, by omega, HN, trivial⟩
    case measure => simp [intOf]; omega
   ·rw [if_neg h0] at hk
    have h0' : ((o : Int) == 0) = false := by rw [beq_eq_false_iff_ne]; omega
    subst hk
    clear h0
    go_wp2_with fail
    go_roundw
    case rel => exact ⟨k + 1, m, by go_num, by go_num, by omega, HN, trivial⟩
    case measure => simp [intOf]; omega
  ·have hne : numL l = n := by
    have h2 := hn.out
    rw [List.take_of_length_le (by rw [hll.out]; omega)] at h2
    exact h2.symm
   replace hne := Lib.hid hne
   go_wp2_with fail
   go_ret
   exact ⟨ret_int (by rw [hne.out]), rfl⟩

def padL (l : List UInt8) : List UInt8 := l ++ List.replicate ((8 - l.length % 8) % 8) 48

theorem padL_digs {l : List UInt8} (h : Digs l) : Digs (padL l) := digs_append h (fun b hb => by
 have := (List.mem_replicate.1 hb).2
 subst this
 decide)

theorem padL_length (l : List UInt8) : (padL l).length = 8 * ((l.length + 7) / 8) := by
 unfold padL
 rw [List.length_append, List.length_replicate]
 omega

theorem ba_ext2 {a b : ByteArray} (h : a.data.toList = b.data.toList) : a = b := ByteArray.ext (Array.toList_inj.1 h)

theorem repB_list (b : UInt8) (n : Nat) : (repB ⟨#[b]⟩ n).data.toList = List.replicate n b := by
 induction n with
 | zero => rfl
 | succ n ih => rw [List.replicate_succ, ← ih]; rfl

set_option maxHeartbeats 1000000 in
theorem specL1Pad (l : List UInt8) (w : World) (hl : l.length ≤ 100000) :
  Calls Tryz.prog 206 #[.string (bsL l)] w fun e w' => e = .returned (.string (bsL (padL l))) ∧ w = w' := by
 obtain ⟨s, hs⟩ : ∃ s, bsL l = s := ⟨_, rfl⟩
 have hsz : s.size = l.length := by rw [← hs]; rfl
 obtain ⟨q, hq⟩ : ∃ q, s.size % 8 = q := ⟨_, rfl⟩
 have hq8 : q < 8 := by omega
 have eq : (s.size : Int) % 8 = q := by omega
 obtain ⟨p, hp⟩ : ∃ p, (8 - q) % 8 = p := ⟨_, rfl⟩
 have ep : ((8 : Int) - q) % 8 = p := by omega
 have hp8 : p < 8 := by omega
 have H := fun W => specL9Many ⟨#[48]⟩ (p : Int) W (by decide) (by omega) (by show 1 * _ ≤ _; omega)
 have e2 : (p : Int).toNat = p := by omega
 rw [e2] at H
 obtain ⟨r, hr⟩ : ∃ r, repB ⟨#[48]⟩ p = r := ⟨_, rfl⟩
 have hrl : r.data.toList = List.replicate p 48 := by rw [← hr, repB_list]
 have hrs : r.size ≤ 8 := by
  have := congrArg List.length hrl
  simp at this
  omega
 rw [hr] at H
 have hadd : ∀ W, (Op.stringOp .add s r).run Tryz.prog W = .ok (.string (s ++ r)) W := fun W => run_string_add_sum W _ _ (by omega)
 have hres : bsL (padL l) = s ++ r := by
  apply ba_ext2
  rw [ByteArray.data_append, Array.toList_append, hrl, ← hs]
  show (padL l) = _
  unfold padL
  rw [← hsz, hq, hp]
 rw [hs]
 have ep2 : (-(q : Int)) % 8 = p := by omega
 replace H := Lib.hid H
 replace hres := Lib.hid hres
 have hsl : s.size ≤ 100000 := by omega
 clear e2 hr hrl hsz hp hq hl hs
 go_enter Tryz.func206, Tryz.ntmps206
 go_wp2_with fail
 refine (H.out _).mono ?_
 rintro e w1 ⟨rfl, rfl⟩
 go_wp2_with fail
 go_ret
 exact ⟨ret_str hres.out.symm, rfl⟩

def packL (o : Nat) (l : List UInt8) : List UInt8 := (List.range ((padL l).length / 8)).map fun i => UInt8.ofNat (numO o (((padL l).drop (8 * i)).take 8))

theorem packL_length (o : Nat) (l : List UInt8) : (packL o l).length = (l.length + 7) / 8 := by
 unfold packL
 rw [List.length_map, List.length_range, padL_length]
 omega

theorem numO_lt {l : List UInt8} (o n : Nat) (h : l.length = n) (hd : Digs l) : numO o l < 2 ^ n := by
 unfold numO
 split
 ·exact numL_lt n _ (by simpa using h) (digs_rev hd)
 ·exact numL_lt n _ h hd

def packAt (o : Nat) (p : List UInt8) (i : Nat) : UInt8 := UInt8.ofNat (numO o ((p.drop (8 * i)).take 8))

theorem bsL_part (l : List UInt8) (i j : Nat) : (bsL l).extract i j = bsL ((l.drop i).take (j - i)) := by
 apply ba_ext2
 simp [ByteArray.data_extract]

set_option maxHeartbeats 2000000 in
theorem specL1Pack (o : Nat) (l : List UInt8) (w : World) (ho : o ≤ 1) (hl : l.length ≤ 50000) (hd : Digs l) :
  Calls Tryz.prog 190 #[.int .i64 (o : Int), .string (bsL l)] w fun e w' => e = .returned (.string (bsL (packL o l))) ∧ Below w.heap.size w w' := by
 have HP := fun W => specL1Pad l W (by omega)
 have hpl := padL_length l
 have hpd := padL_digs hd
 have hres : packL o l = (List.range ((padL l).length / 8)).map (packAt o (padL l)) := rfl
 obtain ⟨p, hp⟩ : ∃ p, padL l = p := ⟨_, rfl⟩
 rw [hp] at HP hpl hpd hres
 obtain ⟨m, hm⟩ : ∃ m, (l.length + 7) / 8 = m := ⟨_, rfl⟩
 have hmb : m ≤ 10000 := by omega
 rw [hm] at hpl
 have hpm : p.length / 8 = m := by omega
 rw [hpm] at hres
 obtain ⟨s, hs⟩ : ∃ s, bsL p = s := ⟨_, rfl⟩
 have hss : s.size = 8 * m := by rw [← hs, bsL_size]; exact hpl
 have ez : (s.size : Int) / 8 = m := by omega
 have hsz : s.size ≤ 100000 := by omega
 obtain ⟨sl, hsl⟩ : ∃ x, bsL l = x := ⟨_, rfl⟩
 rw [hs] at HP
 rw [hsl] at HP ⊢
 replace HP := Lib.hid HP
 replace hres := Lib.hid hres
 replace hpd := Lib.hid hpd
 replace hs := Lib.hid hs
 replace hpl := Lib.hid hpl
 replace hss := Lib.hid hss
 clear hp hpm hm hsl hl hd
 have hmk := fun W => run_make_row' (P := Tryz.prog) 22 5 (.int .u8 0) 1 Tryz.underlying22 infoByte rfl .i64 .i64 m (by omega) (by omega) W
 go_enter Tryz.func190, Tryz.ntmps190
 go_wp2_with fail
 refine (HP.out _).mono ?_
 rintro e w1 ⟨rfl, rfl⟩
 go_wp2_with fail
 clear hmk
 go_loopw [7] (fun v wr => ∃ i : Nat, v = .int .i64 (i : Int) ∧ i ≤ m ∧ Hid (wr.rowIs w.heap.size 5 m (fun j => byteV (if j < i then packAt o p j else 0))) ∧ Hid (Below w.heap.size w wr)) (fun v _ => m - (intOf v).toNat)
 case atStart => exact ⟨0, rfl, Nat.zero_le _, Lib.hid ((World.rowIs_made _ _ _ _).congr (fun i _ => by simp [byteV])), Lib.hid ((Below.refl _ _).alloc (Nat.le_refl _) _)⟩
 case round =>
  obtain ⟨i, rfl, hi, hrow, hbel⟩ := hrel
  by_cases h1 : i < m
  ·obtain ⟨j, hj⟩ : ∃ j, 8 * i = j := ⟨_, rfl⟩
   obtain ⟨j2, hj2⟩ : ∃ j2, j + 8 = j2 := ⟨_, rfl⟩
   have ej : (8 : Int) * i = j := by omega
   have ej2 : (j : Int) + 8 = j2 := by omega
   have hjs : j2 ≤ s.size := by rw [hss.out]; omega
   have hjj : j ≤ j2 := by omega
   obtain ⟨t, ht⟩ : ∃ t, s.extract j j2 = t := ⟨_, rfl⟩
   have htl : t.data.toList = (p.drop (8 * i)).take 8 := by
    rw [← ht, ← hs.out, bsL_part, hj, show j2 - j = 8 by omega]
   have htz : t.size = 8 := by
    have h2 := congrArg List.length htl
    have h3 := hpl.out
    rw [List.length_take, List.length_drop] at h2
    have h4 : t.data.toList.length = t.size := by simp
    omega
   have htd : Digs t.data.toList := by rw [htl]; exact digs_take (digs_drop hpd.out _) _
   have HN := fun W => specL1Number o t W ho (by omega) htd
   have hlt := numO_lt o 8 (l := t.data.toList) (by simpa using htz) htd
   obtain ⟨v, hv⟩ : ∃ v, numO o t.data.toList = v := ⟨_, rfl⟩
   rw [hv] at HN hlt
   have hva : packAt o p i = UInt8.ofNat v := by unfold packAt; rw [← htl, hv]
   have hvb : v < 256 := hlt
   have wv : IntKind.u8.wrap (v : Int) = v := u8_in v hvb
   have hcj := hrow.out.cell (i := i) h1
   have hfj := hrow.out.frozen i
   have hbv : byteV (packAt o p i) = .int .u8 (v : Int) := by rw [hva]; unfold byteV; rw [UInt8.toNat_ofNat']; simp; omega
   have hset := hrow.out.set i (.int .u8 (v : Int))
   have hnew : (wr.setCell ⟨w.heap.size, i, none⟩ (.int .u8 (v : Int))).rowIs w.heap.size 5 m (fun j => byteV (if j < i + 1 then packAt o p j else 0)) := by
    refine hset.congr fun q hq => ?_
    by_cases hqi : q = i
    ·subst hqi
     rw [if_pos rfl, if_pos (by omega), hbv]
    ·rw [if_neg hqi]
     by_cases h2 : q < i
     ·rw [if_pos h2, if_pos (by omega)]
     ·rw [if_neg h2, if_neg (by omega)]
   have hcz : wr.cell? ⟨w.heap.size, i, none⟩ = some (.int .u8 0) := by rw [hcj]; simp [byteV]
   have HB : Hid (Below w.heap.size w (wr.setCell ⟨w.heap.size, i, none⟩ (.int .u8 (v : Int)))) := Lib.hid (hbel.out.setCell (Nat.le_refl _) _)
   replace HN := Lib.hid HN
   replace hnew := Lib.hid hnew
   clear htl htz htd hlt hv hva hbv hset hcj hj hj2
   go_wp2_with fail
   refine (HN.out _).mono ?_
   rintro e w1 ⟨rfl, rfl⟩
   go_wp2_with fail
   go_roundw
   case rel => exact ⟨i + 1, by go_num, by omega, hnew, HB⟩
   case measure => simp [intOf]; omega
  ·obtain rfl : i = m := by omega
   have hr : wr.rowIs w.heap.size 5 i (fun j => byteV (packAt o p j)) := hrow.out.congr (fun q hq => by rw [if_pos hq])
   obtain ⟨bs, hbs⟩ : ∃ bs : List UInt8, bs = (List.range i).map (packAt o p) := ⟨_, rfl⟩
   have hbl : bs.length = i := by rw [hbs]; simp
   have hcv := run_convert_bytes_back (P := Tryz.prog) wr 22 9 5 ⟨w.heap.size, 0, none⟩ i bs Tryz.underlying22 Tryz.underlying5 Tryz.underlying9 (fun j hj => by
    rw [addr_add, Nat.zero_add, hr.cell (by omega)]
    simp [byteV, hbs])
   rw [hbl] at hcv
   have HB := Lib.hid (show bs = packL o l by rw [hres.out, hbs])
   clear hr hbs hbl h1
   go_wp2_with fail
   go_ret
   exact ⟨ret_str (by rw [← HB.out]), hbel.out⟩

def plc (o i w : Nat) : Nat := if o = 0 then i else w - 1 - i

theorem codeL_get {o c w i : Nat} (h : i < w) : (codeL o c w)[i]? = some (bitC c (plc o i w)) := by
 unfold codeL plc
 split
 ·simp [h]
 ·rw [List.getElem?_reverse (by simpa using h), List.length_map, List.length_range, List.getElem?_map, List.getElem?_range (by omega)]
  rfl

theorem codeL_take_succ {o c w i : Nat} (h : i < w) : (codeL o c w).take (i + 1) = (codeL o c w).take i ++ [bitC c (plc o i w)] := by
 have hl : i < (codeL o c w).length := by rw [codeL_length]; exact h
 rw [List.take_succ_eq_append_getElem hl]
 congr 2
 have := codeL_get (o := o) (c := c) h
 rw [List.getElem?_eq_getElem hl] at this
 injection this

theorem foldl_num : ∀ (l : List UInt8) (n : Nat), l.foldl (fun n b => 2 * n + (b.toNat - 48)) n = n * 2 ^ l.length + numL l := by
 intro l
 induction l with
 | nil => intro n; simp [numL]
 | cons b l ih2 =>
  intro n
  unfold numL
  rw [List.foldl_cons, List.foldl_cons, ih2, ih2, List.length_cons, Nat.pow_succ]
  have e1 : (2 * n + (b.toNat - 48)) * 2 ^ l.length = n * (2 ^ l.length * 2) + (b.toNat - 48) * 2 ^ l.length := by
   rw [Nat.add_mul, Nat.mul_comm 2 n, Nat.mul_assoc, Nat.mul_comm 2]
  rw [e1]
  simp only [Nat.mul_zero, Nat.zero_add]
  omega

theorem numL_cons (b : UInt8) (l : List UInt8) : numL (b :: l) = (b.toNat - 48) * 2 ^ l.length + numL l := by
 show List.foldl _ (2 * 0 + (b.toNat - 48)) l = _
 rw [foldl_num]
 simp

def part (o w : Nat) (l : List UInt8) (i : Nat) : Nat := if o = 0 then numL (l.take i).reverse else numL (l.take i) * 2 ^ (w - i)

theorem part_zero (o w : Nat) (l : List UInt8) : part o w l 0 = 0 := by unfold part; split <;> simp [numL]

theorem part_all {o w : Nat} {l : List UInt8} (h : l.length = w) : part o w l w = numO o l := by
 unfold part numO
 split
 ·rw [List.take_of_length_le (by omega)]
 ·rw [List.take_of_length_le (by omega)]; simp

theorem part_succ {o w i : Nat} {l : List UInt8} (hl : l.length = w) (h : i < w) : part o w l (i + 1) = part o w l i + ((l[i]'(by omega)).toNat - 48) * 2 ^ plc o i w := by
 unfold part plc
 rw [List.take_succ_eq_append_getElem (by omega)]
 split
 ·rw [List.reverse_append]
  show numL (l[i] :: (l.take i).reverse) = _
  rw [numL_cons, List.length_reverse, List.length_take, Nat.min_eq_left (by omega)]
  omega
 ·rw [numL_snoc, Nat.add_mul, show w - 1 - i = w - (i + 1) by omega]
  congr 1
  rw [show w - i = (w - (i + 1)) + 1 by omega, Nat.pow_succ]
  rw [Nat.mul_comm 2, Nat.mul_assoc, Nat.mul_comm 2]

theorem part_pad {o w : Nat} {l : List UInt8} (hl : l.length = w) {m : Nat} (hz : ∀ (i : Nat) (b : UInt8), m ≤ i → l[i]? = some b → b = 48) : ∀ n, m ≤ n → n ≤ w → part o w l n = part o w l m := by
 intro n
 induction n with
 | zero =>
  intro h1 h2
  obtain rfl : m = 0 := by omega
  rfl
 | succ n ih =>
  intro h1 h2
  by_cases h : m = n + 1
  ·rw [h]
  ·have h3 : n < w := by omega
   have h4 := hz n _ (by omega) (List.getElem?_eq_getElem (by omega))
   have h5 : (48 : UInt8).toNat - 48 = 0 := rfl
   rw [part_succ hl h3, ih (by omega) (by omega), h4, h5, Nat.zero_mul]
   rfl

theorem part_lt {o w i : Nat} {l : List UInt8} (hl : l.length = w) (hd : Digs l) (h : i ≤ w) : part o w l i < 2 ^ w := by
 unfold part
 split
 ·have h1 := numL_lt i (l.take i).reverse (by rw [List.length_reverse, List.length_take]; omega) (digs_rev (digs_take hd i))
  have h2 : 2 ^ i ≤ 2 ^ w := Nat.pow_le_pow_right (by omega) h
  omega
 ·have h1 := numL_lt i (l.take i) (by rw [List.length_take]; omega) (digs_take hd i)
  have h2 : 2 ^ w = 2 ^ i * 2 ^ (w - i) := by rw [← Nat.pow_add]; congr 1; omega
  rw [h2]
  exact Nat.mul_lt_mul_of_pos_right h1 (Nat.two_pow_pos _)

theorem packAt_part {o : Nat} {l : List UInt8} (h : Digs l) {i : Nat} (hi : i < (l.length + 7) / 8) :
  numO o (((padL l).drop (8 * i)).take 8) = part o 8 (((padL l).drop (8 * i)).take 8) (min 8 (l.length - 8 * i)) := by
 have hp := padL_length l
 have hlen : (((padL l).drop (8 * i)).take 8).length = 8 := by rw [List.length_take, List.length_drop]; omega
 rw [← part_all hlen]
 refine part_pad hlen ?_ 8 (by omega) (Nat.le_refl _)
 intro j b hj hb
 rw [List.getElem?_take] at hb
 split at hb
 ·rw [List.getElem?_drop] at hb
  unfold padL at hb
  rw [List.getElem?_append_right (by omega)] at hb
  exact List.eq_of_mem_replicate (List.mem_of_getElem? hb)
 ·cases hb

theorem pad_digit {l : List UInt8} {i j : Nat} (h : j < min 8 (l.length - 8 * i)) : (((padL l).drop (8 * i)).take 8)[j]? = l[8 * i + j]? := by
 rw [List.getElem?_take, if_pos (by omega), List.getElem?_drop]
 unfold padL
 rw [List.getElem?_append_left (by omega)]

section
variable {P : Program} {ops : Array Oper} {md : Region.Mode} {C : World → Prop}

def headAny (P : Program) (md : Region.Mode) (ops : Array Oper) (C : World → Prop) (n : Nat) (L : Array Bool → Act → Prop) : Nat → Array Bool → Act → Prop
 | 0, listed, a => L listed a
 | f + 1, listed, a => Region.ready md ops listed ≠ [] ∧ ∀ i ∈ Region.ready md ops listed, i < n ∧ qOp P ops C i (headAny P md ops C n L f (listed.setIfInBounds i true)) a

theorem headAny_any {n g : Nat} {L : Array Bool → Act → Prop} {Q : Exit → Act → World → Prop} (hL : ∀ listed a w, C w → L listed a → wpAny P md ops Q g listed a w) :
  ∀ (f : Nat) (listed : Array Bool) (a : Act) (w : World), C w → headAny P md ops C n L f listed a → wpAny P md ops Q (f + g) listed a w := by
 intro f
 induction f with
 | zero => intro listed a w hw h; rw [Nat.zero_add]; exact hL _ _ _ hw h
 | succ f ih =>
  intro listed a w hw h
  rw [show f + 1 + g = (f + g) + 1 by omega]
  exact ⟨fun h0 => absurd h0 h.1, fun i hi => wpOp_of_qOp hw (fun a' w' hw' h' => ih _ a' w' hw' h') (h.2 i hi).2⟩

theorem headAny_first {n i : Nat} {oi : Oper} {v : Value} {L : Array Bool → Act → Prop} (hi : ops[i]? = some oi) (hsel : ∀ (j : Nat) (o : Oper) cs b, ops[j]? = some o → o.op ≠ .select cs b)
  (hs : Region.sinkB md ops n = true) (hc : Region.chainB md ops n = true) (hn : n < ops.size) (hin : i < n)
  (hdone : ∀ listed a, L listed a → ∀ j ∈ Region.ready md ops listed, n ≤ j) :
  ∀ (f : Nat) (listed : Array Bool) (a : Act), HeadInv md ops n listed →
   (∀ j oj, ops[j]? = some oj → j ≠ i → listed.getD j true = false → (∀ e ∈ oj.after, Region.binds md e = true → e.on ≠ i) → oi.apart ops oj = true) →
   i ∈ Region.ready md ops listed → YieldsIn P ops C oi v a →
   headAny P md ops C n L f (listed.setIfInBounds i true) (a.put oi.dst v) → headAny P md ops C n L (f + 1) listed a := by
 intro f
 induction f with
 | zero =>
  intro listed a inv _ hr hy H
  have hun := (mem_ready.1 hr).1
  refine ⟨fun h => (by rw [h] at hr; cases hr), fun j hj => ?_⟩
  have hjn : j < n := by
   rcases Nat.lt_or_ge j n with h | h
   ·exact h
   ·exact absurd hj (tail_waits hs hc hn inv _ i rfl hin hun j h)
  refine ⟨hjn, ?_⟩
  by_cases hji : j = i
  ·subst hji; exact hy.qOp hi H
  ·have := hdone _ _ H j (ready_mono hj hji)
   omega
 | succ f ih =>
  intro listed a inv hfree hr hy H
  have hun := (mem_ready.1 hr).1
  refine ⟨fun h => (by rw [h] at hr; cases hr), fun j hj => ?_⟩
  have hjn : j < n := by
   rcases Nat.lt_or_ge j n with h | h
   ·exact h
   ·exact absurd hj (tail_waits hs hc hn inv _ i rfl hin hun j h)
  refine ⟨hjn, ?_⟩
  by_cases hji : j = i
  ·subst hji; exact hy.qOp hi H
  ·have h1 := (H.2 j (ready_mono hj hji)).2
   obtain ⟨hjun, oj, hoj, hall⟩ := mem_ready.1 hj
   have hnot : ∀ e ∈ oj.after, Region.binds md e = true → e.on ≠ i := fun e he hb heq => by
    have h2 := hall e he hb
    rw [heq, getD_both hun] at h2
    cases h2
   have h2 := qOp_put hoj (hfree j oj hoj hji hjun hnot) (fun cs b => hsel i oi cs b hi) (fun cs b => hsel j oj cs b hoj) hy h1
   have hfree' : ∀ k ok, ops[k]? = some ok → k ≠ i → (listed.setIfInBounds j true).getD k true = false →
     (∀ e ∈ ok.after, Region.binds md e = true → e.on ≠ i) → oi.apart ops ok = true := fun k ok hk hki hu hno => by
    refine hfree k ok hk hki ?_ hno
    by_cases hjk : j = k
    ·subst hjk; exact hjun
    ·rw [getD_set_ne true hjk] at hu; exact hu
   refine qOp_mono (fun a' h3 => ih (listed.setIfInBounds j true) a' (inv.set hj hjn) hfree' (ready_mono hr (Ne.symm hji)) h3.1 ?_) h2
   rw [Array.setIfInBounds_comm _ _ hji]
   exact h3.2

theorem headAny_lex {n g : Nat} {Lq : Act → Prop} (hsel : Region.noSelect ops = true) (hs : Region.sinkB md ops n = true) (hc : Region.chainB md ops n = true) (hn : n < ops.size) :
  ∀ (l : List Oper) (k : Nat) (listed : Array Bool) (a : Act), (∀ j, j < l.length → l[j]? = ops[k + j]?) → k + l.length = n → HeadInv md ops n listed →
  Region.lexHead md ops g l.length k listed = true → wpQuiet P ops C Lq l a →
  headAny P md ops C n (fun listed' a' => Region.seqB md ops g n listed' = true ∧ Lq a') l.length listed a := by
 intro l
 induction l with
 | nil =>
  intro k listed a _ hk _ hB h
  obtain rfl : k = n := by simpa using hk
  exact ⟨by simpa [Region.lexHead] using hB, h⟩
 | cons o l ih =>
  intro k listed a hl hk inv hB h
  have h0 : ops[k]? = some o := by simpa using (hl 0 (by simp)).symm
  simp only [List.length_cons, Region.lexHead, Bool.and_eq_true] at hB
  obtain ⟨⟨hr, hf⟩, hB'⟩ := hB
  have hkn : k < n := by simp only [List.length_cons] at hk; omega
  have hr' : k ∈ Region.ready md ops listed := by simpa using hr
  have hst : qOp P ops C k (wpQuiet P ops C Lq l) a := by unfold qOp; simp only [h0]; exact h
  obtain ⟨v, hy, hK⟩ := yieldsIn_of_qOp h0 hst
  refine headAny_first h0 (Region.noSelect_spec hsel) hs hc hn hkn (fun listed' a' hL => seqB_ready hL.1) l.length listed a inv (Region.free_spec h0 hf) hr' hy
   (ih (k + 1) _ _ (fun j hj => ?_) (by simp only [List.length_cons] at hk; omega) (inv.set hr' hkn) hB' hK)
  have := hl (j + 1) (by simp only [List.length_cons]; omega)
  simpa [Nat.add_assoc, Nat.add_comm 1 j] using this

theorem wp_region_quiet_tail {id : Nat} {Q : Exit → Act → World → Prop} {a : Act} {w : World} {l : List Oper} (n : Nat) (hm : P.follows .mixedOrders = true) (hB : Region.lexTailB .any l.toArray n = true) (hC : C w.drew)
  (h : wpQuiet P l.toArray C (fun a' => ∀ w', C w' → wpList P l.toArray Q (l.drop n) a' w') (l.take n) a) : (Code.region id l.toArray true).wp P Q a w := by
 simp only [Region.lexTailB, Bool.and_eq_true, decide_eq_true_eq] at hB
 obtain ⟨⟨⟨⟨hsel, hn⟩, hs⟩, hc⟩, hlex⟩ := hB
 have hn' : n < l.length := by simpa using hn
 have htl : (l.take n).length = n := by rw [List.length_take]; omega
 have hdl : (l.drop n).length = l.toArray.size - n := by simp
 have inv0 : HeadInv .any l.toArray n (Array.replicate l.toArray.size false) :=
  ⟨by simp, fun j oj _ hl => (by rw [getD_replicate_false] at hl; cases hl), fun t _ ht => getD_in (by simpa using ht) (getD_replicate_false _ _)⟩
 have H := headAny_lex (md := .any) (g := l.toArray.size - n) hsel hs hc hn (l.take n) 0 _ a (fun j hj => by
  have hj' : j < n := by rw [htl] at hj; exact hj
  simp [hj']) (by simpa using htl) inv0 (by rw [htl]; exact hlex) h
 refine wp_region_any hm ?_
 have := headAny_any (Q := Q) (g := l.toArray.size - n) (fun listed a' w' hw' hL => by
  have := wpAny_of_seq (md := .any) (Q' := Q) (l.drop n) n listed a' w' (fun j => by simp [List.getElem?_drop]) (by rw [hdl]; exact hL.1) (hL.2 w' hw')
  rwa [hdl] at this) _ _ _ _ hC H
 rw [htl, show n + (l.toArray.size - n) = l.toArray.size by omega] at this
 exact this
end

theorem wp_region_cls_tail {P : Program} {id : Nat} {Q : Exit → Act → World → Prop} {a : Act} {w : World} {l : List Oper} (n : Nat) (hm : P.follows .mixedOrders = true) (hB : Region.lexTailB .any l.toArray n = true)
  (h : wpQuiet P l.toArray (fun w' => ∃ x : Wd (Below w.heap.size w), w' = x.w) (fun a' => ∀ w', (∃ x : Wd (Below w.heap.size w), w' = x.w) → wpList P l.toArray Q (l.drop n) a' w') (l.take n) a) : (Code.region id l.toArray true).wp P Q a w :=
 wp_region_quiet_tail (C := fun w' => ∃ x : Wd (Below w.heap.size w), w' = x.w) n hm hB ⟨⟨_, (Below.refl _ _).drew⟩, rfl⟩ h

section
variable {P : Program} {ops : Array Oper} {Q : Exit → Act → World → Prop} {md : Region.Mode} {S : World → Prop}

def waitB (md : Region.Mode) (ops : Array Oper) (n : Nat) : Bool :=
 Region.noSelect ops && decide (n < ops.size) && (List.range ops.size).all fun t => decide (t < n) || (List.range n).all fun i => Region.waitsFor md ops t i

def heldAny (P : Program) (md : Region.Mode) (ops : Array Oper) (Q : Exit → Act → World → Prop) (S : World → Prop) (n : Nat) (L : Array Bool → Act → World → Prop) : Nat → Array Bool → Act → World → Prop
 | 0, listed, a, w => (∀ j ∈ Region.ready md ops listed, n ≤ j) ∧ L listed a w
 | f + 1, listed, a, w => Region.ready md ops listed ≠ [] ∧ ∀ i ∈ Region.ready md ops listed, i < n ∧ wpOp P ops Q i (fun a' w' => S w' ∧ heldAny P md ops Q S n L f (listed.setIfInBounds i true) a' w') a w

theorem heldAny_any {n g : Nat} {L : Array Bool → Act → World → Prop} (hL : ∀ listed a w, L listed a w → wpAny P md ops Q g listed a w) :
  ∀ (f : Nat) (listed : Array Bool) (a : Act) (w : World), heldAny P md ops Q S n L f listed a w → wpAny P md ops Q (f + g) listed a w := by
 intro f
 induction f with
 | zero => intro listed a w h; rw [Nat.zero_add]; exact hL _ _ _ h.2
 | succ f ih =>
  intro listed a w h
  rw [show f + 1 + g = (f + g) + 1 by omega]
  exact ⟨fun h0 => absurd h0 h.1, fun i hi => wpOp_mono (fun a' w' h' => ih _ a' w' h'.2) (h.2 i hi).2⟩

theorem waitB_ready {n i : Nat} {listed : Array Bool} (hB : waitB md ops n = true) (hi : i < n) (hun : listed.getD i true = false) {t : Nat} (ht : t ∈ Region.ready md ops listed) : t < n := by
 simp only [waitB, Bool.and_eq_true, decide_eq_true_eq] at hB
 obtain ⟨_, ot, hot, hall⟩ := mem_ready.1 ht
 have htl : t < ops.size := (Array.getElem?_eq_some_iff.1 hot).1
 have h1 := List.all_eq_true.1 hB.2 t (List.mem_range.2 htl)
 simp only [Bool.or_eq_true, decide_eq_true_eq] at h1
 rcases h1 with h1 | h1
 ·exact h1
 ·exfalso
  have h2 := List.all_eq_true.1 h1 i (List.mem_range.2 hi)
  obtain ⟨o', ho', e, he, hb, hon⟩ := Region.waitsFor_spec h2
  obtain rfl : o' = ot := Option.some.inj (ho'.symm.trans hot)
  have h3 := hall e he hb
  rw [hon, getD_both hun] at h3
  cases h3

theorem heldAny_first {n i : Nat} {oi : Oper} {v : Value} {L : Array Bool → Act → World → Prop} (hi : ops[i]? = some oi) (hsel : ∀ (j : Nat) (o : Oper) cs b, ops[j]? = some o → o.op ≠ .select cs b)
  (hB : waitB md ops n = true) (hin : i < n) (hQ : ∀ c a w, Q (.panic c) (a.put oi.dst v) w → Q (.panic c) a w) :
  ∀ (f : Nat) (listed : Array Bool) (a : Act) (w : World),
   (∀ j oj, ops[j]? = some oj → j ≠ i → listed.getD j true = false → (∀ e ∈ oj.after, Region.binds md e = true → e.on ≠ i) → oi.apart ops oj = true) →
   i ∈ Region.ready md ops listed → YieldsIf P ops S oi v a → S w →
   heldAny P md ops Q S n L f (listed.setIfInBounds i true) (a.put oi.dst v) w → heldAny P md ops Q S n L (f + 1) listed a w := by
 intro f
 induction f with
 | zero =>
  intro listed a w _ hr hy hS H
  have hun := (mem_ready.1 hr).1
  refine ⟨fun h => (by rw [h] at hr; cases hr), fun j hj => ?_⟩
  have hjn := waitB_ready hB hin hun hj
  refine ⟨hjn, ?_⟩
  by_cases hji : j = i
  ·subst hji; exact hy.wpOp hi hS ⟨hS, H⟩
  ·have := H.1 j (ready_mono hj hji)
   omega
 | succ f ih =>
  intro listed a w hfree hr hy hS H
  have hun := (mem_ready.1 hr).1
  refine ⟨fun h => (by rw [h] at hr; cases hr), fun j hj => ?_⟩
  have hjn := waitB_ready hB hin hun hj
  refine ⟨hjn, ?_⟩
  by_cases hji : j = i
  ·subst hji; exact hy.wpOp hi hS ⟨hS, H⟩
  ·have h1 := (H.2 j (ready_mono hj hji)).2
   obtain ⟨hjun, oj, hoj, hall⟩ := mem_ready.1 hj
   have hnot : ∀ e ∈ oj.after, Region.binds md e = true → e.on ≠ i := fun e he hb heq => by
    have h2 := hall e he hb
    rw [heq, getD_both hun] at h2
    cases h2
   have h2 := wpOp_putIf hoj (hfree j oj hoj hji hjun hnot) (fun cs b => hsel i oi cs b hi) (fun cs b => hsel j oj cs b hoj) hQ hy h1
   have hfree' : ∀ k ok, ops[k]? = some ok → k ≠ i → (listed.setIfInBounds j true).getD k true = false →
     (∀ e ∈ ok.after, Region.binds md e = true → e.on ≠ i) → oi.apart ops ok = true := fun k ok hk hki hu hno => by
    refine hfree k ok hk hki ?_ hno
    by_cases hjk : j = k
    ·subst hjk; exact hjun
    ·rw [getD_set_ne true hjk] at hu; exact hu
   refine wpOp_mono (fun a' w' h3 => ⟨h3.2.1, ih (listed.setIfInBounds j true) a' w' hfree' (ready_mono hr (Ne.symm hji)) h3.1 h3.2.1 ?_⟩) h2
   rw [Array.setIfInBounds_comm _ _ hji]
   exact h3.2.2

theorem heldAny_take {n i : Nat} {oi : Oper} {v : Value} {f : Nat} {L : Array Bool → Act → World → Prop} {listed : Array Bool} {a : Act} {w : World} (hi : ops[i]? = some oi) (hB : waitB md ops n = true) (hin : decide (i < n) = true)
  (hf : Region.free md ops listed i = true) (hr : (Region.ready md ops listed).contains i = true) (hQ : ∀ c a w, Q (.panic c) (a.put oi.dst v) w → Q (.panic c) a w) (hy : YieldsIf P ops S oi v a) (hS : S w)
  (h : heldAny P md ops Q S n L f (listed.setIfInBounds i true) (a.put oi.dst v) w) : heldAny P md ops Q S n L (f + 1) listed a w := by
 have hB' := hB
 simp only [waitB, Bool.and_eq_true, decide_eq_true_eq] at hB'
 exact heldAny_first hi (Region.noSelect_spec hB'.1.1) hB (of_decide_eq_true hin) hQ f listed a w (Region.free_spec hi hf) (by simpa using hr) hy hS h

theorem heldAny_one {n i : Nat} {o : Oper} {f : Nat} {L : Array Bool → Act → World → Prop} {listed : Array Bool} {a : Act} {w : World} (ho : ops[i]? = some o) (hr : Region.ready md ops listed = [i]) (hin : decide (i < n) = true)
  (h : ∀ K : Act → World → Prop, Hid (∀ a' w', S w' → (S w' → heldAny P md ops Q S n L f (listed.setIfInBounds i true) a' w') → K a' w') → if Region.wanted o (yielded ops a.tmps) = true then Oper.wp P o a w K Q else K (a.put o.dst undef) w) :
  heldAny P md ops Q S n L (f + 1) listed a w := by
 refine ⟨by rw [hr]; simp, fun j hj => ?_⟩
 rw [hr] at hj
 obtain rfl : j = i := by simpa using hj
 exact ⟨of_decide_eq_true hin, wpOp_step ho (fun K' hK => h K' (Lib.hid (fun a' w' hS hW => hK a' w' ⟨hS, hW hS⟩)))⟩

theorem heldAny_done {n : Nat} {L : Array Bool → Act → World → Prop} {listed : Array Bool} {a : Act} {w : World} (hr : (Region.ready md ops listed).all (fun j => decide (n ≤ j)) = true) (h : L listed a w) : heldAny P md ops Q S n L 0 listed a w :=
 ⟨fun j hj => of_decide_eq_true (List.all_eq_true.1 hr j hj), h⟩

end

theorem wp_region_held_tail {P : Program} {id : Nat} {Q : Exit → Act → World → Prop} {S : World → Prop} {a : Act} {w : World} {l : List Oper} (n : Nat) (hm : P.follows .mixedOrders = true) (hn : decide (n ≤ l.toArray.size) = true) (hS : S w.drew)
  (h : S w.drew → heldAny P .any l.toArray Q S n (fun listed a' w' => Region.seqB .any l.toArray (l.drop n).length n listed = true ∧ wpList P l.toArray Q (l.drop n) a' w') n (Array.replicate l.toArray.size false) a w.drew) : (Code.region id l.toArray true).wp P Q a w := by
 refine wp_region_any hm ?_
 have hn' : n ≤ l.length := by simpa using of_decide_eq_true hn
 have := heldAny_any (g := (l.drop n).length) (fun listed a' w' hL => wpAny_of_seq (md := .any) (Q' := Q) (l.drop n) n listed a' w' (fun j => by simp [List.getElem?_drop]) hL.1 hL.2) _ _ _ _ (h hS)
 rw [show n + (l.drop n).length = l.toArray.size by simp; omega] at this
 exact this

end Go.Proofs.YthlgpgaeajfchaaGreat

