/-
  The reference's l2Any, l2Code and l2Follows.
-/
import Derived.Test.YthfckbfllodcjaaWordsB
namespace Go.Proofs.Ythfckbfllodcjaa
open Go.RowKit
set_option linter.unusedVariables false

theorem Kn.At.below {k : Kn} {w w' : World} {B C : Nat} {A : Option Addr} (h : k.At w B A) (hb : Below C w w') (hC : B ≤ C) : k.At w' B A := Row.below h hb hC

theorem bsL_size (l : List UInt8) : (bsL l).size = l.length := rfl

theorem bsL_take (l : List UInt8) (i : Nat) : (bsL l).extract 0 i = bsL (l.take i) := by
  apply ByteArray.ext
  simp

theorem bsL_drop (l : List UInt8) (i : Nat) : (bsL l).extract i l.length = bsL (l.drop i) := by
  apply ByteArray.ext
  simp
  exact List.take_of_length_le (by simp)

theorem bsL_append (a b : List UInt8) : bsL a ++ bsL b = bsL (a ++ b) := by
  apply ByteArray.ext
  simp

set_option maxHeartbeats 4000000 in
theorem specL2Any (k : Kn) (A : Option Addr) (c B x : Nat) (w : World) (h : k.Valid) (hA : k.At w B A) (hB : B ≤ w.heap.size) (hx : k.can x) :
    Calls Try.prog 86 #[k.val A c, .int .i64 (x : Int)] w fun e w' => e = .returned (.string (bsL (k.any x))) ∧ Below w.heap.size w w' := by
  have HN := fun W => specL2Next k A c W h
  obtain ⟨x0, hx0⟩ : ∃ z, k.next = z := ⟨_, rfl⟩
  rw [hx0] at HN
  by_cases hxx : x = x0
  · obtain ⟨q0, hq0⟩ : ∃ q, k.last = some q := by
      rcases hx with h1 | ⟨h1, h2⟩
      · exact absurd (hxx.trans hx0.symm) (Kn.has_ne h1)
      · have := h1.1
        cases hl : k.last with
        | none => rw [hl] at this; cases this
        | some q => exact ⟨q, rfl⟩
    have hany : k.any x = k.word q0 ++ (k.word q0).take 1 := by rw [hxx, ← hx0]; exact Kn.any_next hq0
    rw [hany]
    have hli : k.lastI = (q0 : Int) := Kn.lastI_nat hq0
    have HW := fun (W : World) (hb : Below w.heap.size w W) => specL2Word k A c B q0 W h (hA.below hb hB) (Nat.le_trans hB hb.size) (h.tail q0 hq0)
    have hwl := k.word_le q0
    have hwn := k.word_ne q0
    have hps := h.room
    have hpw := h.pow
    obtain ⟨R, hR⟩ : ∃ R, k.word q0 = R := ⟨_, rfl⟩
    rw [hR] at HW hwl hwn ⊢
    have hR1 : 1 ≤ (bsL R).size := by rw [bsL_size]; cases R with
      | nil => exact absurd rfl hwn
      | cons y ys => simp
    have hsl : (bsL R).extract 0 1 = bsL (R.take 1) := bsL_take R 1
    have hadd : ∀ W, (Op.stringOp .add (bsL R) (bsL (R.take 1))).run Try.prog W = .ok (.string (bsL (R ++ R.take 1))) W := fun W => by
      rw [run_string_add_sum W _ _ (by rw [bsL_size, bsL_size, List.length_take]; omega), bsL_append]
    have hRs : (bsL R).size ≤ 2000 := by rw [bsL_size]; omega
    obtain ⟨T, hT⟩ : ∃ T, bsL R = T := ⟨_, rfl⟩
    rw [hT] at HW hR1 hsl hadd hRs
    obtain ⟨T1, hT1⟩ : ∃ T1, bsL (R.take 1) = T1 := ⟨_, rfl⟩
    rw [hT1] at hsl hadd
    obtain ⟨T2, hT2⟩ : ∃ T2, bsL (R ++ R.take 1) = T2 := ⟨_, rfl⟩
    rw [hT2] at hadd ⊢
    obtain ⟨n, hn⟩ : ∃ x, k.ps.length = x := ⟨_, rfl⟩
    obtain ⟨o, ho⟩ : ∃ x, k.o = x := ⟨_, rfl⟩
    obtain ⟨l, hl'⟩ : ∃ x, k.l = x := ⟨_, rfl⟩
    obtain ⟨m, hm⟩ : ∃ x, k.m = x := ⟨_, rfl⟩
    obtain ⟨b, hb⟩ : ∃ x, k.base = x := ⟨_, rfl⟩
    obtain ⟨q, hq⟩ : ∃ x, k.lastI = x := ⟨_, rfl⟩
    try unfold Kn.val at HN
    try rw [hn] at HN
    try rw [ho] at HN
    try rw [hl'] at HN
    try rw [hm] at HN
    try rw [hb] at HN
    try rw [hq] at HN
    try unfold Kn.val at HW
    try rw [hn] at HW
    try rw [ho] at HW
    try rw [hl'] at HW
    try rw [hm] at HW
    try rw [hb] at HW
    try rw [hq] at HW
    simp only [Kn.val, hn, ho, hl', hm, hb, hq]
    have hqq : q = (q0 : Int) := by rw [← hq, hli]
    subst hqq
    have HN := Lib.hid HN
    have HW := Lib.hid HW
    have hxz : (x : Int) = (x0 : Int) := by omega
    clear hli hwl hwn hps hpw hR hany hq0 h hA hx hx0 hn ho hl' hm hb hq hT hT1 hT2 hxx
    rw [hxz]
    go_enter Try.func86, Try.ntmps86
    go_wp2_with fail
    refine (HN.out _).mono ?_
    rintro e w1 ⟨rfl, hb1⟩
    obtain ⟨q0, q1, q2, q3, q4, q5, hbel⟩ := box6_call hb1 (Below.refl _ _)
    go_wp2_with fail
    refine (HW.out _ (((Below.refl _ _).alloc (Nat.le_refl _) _).trans (hbel.mono (by omega)))).mono ?_
    rintro e w2 ⟨rfl, hb2⟩
    have hbel2 := ((Below.refl w.heap.size w).alloc (Nat.le_refl _) _).trans ((box6_call hb2 hbel).2.2.2.2.2.2.mono (by omega))
    go_wp2_with fail
    go_ret
    exact ⟨rfl, hbel2⟩
  · have hany : k.any x = k.word x := Kn.any_old (by omega)
    rw [hany]
    have hh : k.has k.ps.length x := by
      rcases hx with h1 | ⟨h1, h2⟩
      · exact h1
      · exact absurd (h2.trans hx0) hxx
    have HW := fun (W : World) (hb : Below w.heap.size w W) => specL2Word k A c B x W h (hA.below hb hB) (Nat.le_trans hB hb.size) hh
    obtain ⟨R, hR⟩ : ∃ R, k.word x = R := ⟨_, rfl⟩
    rw [hR] at HW ⊢
    obtain ⟨n, hn⟩ : ∃ x, k.ps.length = x := ⟨_, rfl⟩
    obtain ⟨o, ho⟩ : ∃ x, k.o = x := ⟨_, rfl⟩
    obtain ⟨l, hl'⟩ : ∃ x, k.l = x := ⟨_, rfl⟩
    obtain ⟨m, hm⟩ : ∃ x, k.m = x := ⟨_, rfl⟩
    obtain ⟨b, hb⟩ : ∃ x, k.base = x := ⟨_, rfl⟩
    obtain ⟨q, hq⟩ : ∃ x, k.lastI = x := ⟨_, rfl⟩
    try unfold Kn.val at HN
    try rw [hn] at HN
    try rw [ho] at HN
    try rw [hl'] at HN
    try rw [hm] at HN
    try rw [hb] at HN
    try rw [hq] at HN
    try unfold Kn.val at HW
    try rw [hn] at HW
    try rw [ho] at HW
    try rw [hl'] at HW
    try rw [hm] at HW
    try rw [hb] at HW
    try rw [hq] at HW
    simp only [Kn.val, hn, ho, hl', hm, hb, hq]
    have HN := Lib.hid HN
    have HW := Lib.hid HW
    have hxz : (x : Int) ≠ (x0 : Int) := by omega
    clear hR hany h hA hx hx0 hn ho hl' hm hb hq hxx hh
    go_enter Try.func86, Try.ntmps86
    go_wp2_with fail
    refine (HN.out _).mono ?_
    rintro e w1 ⟨rfl, hb1⟩
    obtain ⟨q0, q1, q2, q3, q4, q5, hbel⟩ := box6_call hb1 (Below.refl _ _)
    go_wp2_with fail
    refine (HW.out _ (((Below.refl _ _).alloc (Nat.le_refl _) _).trans (hbel.mono (by omega)))).mono ?_
    rintro e w2 ⟨rfl, hb2⟩
    have hbel2 := ((Below.refl w.heap.size w).alloc (Nat.le_refl _) _).trans ((box6_call hb2 hbel).2.2.2.2.2.2.mono (by omega))
    go_wp2_with fail
    go_ret
    exact ⟨rfl, hbel2⟩

theorem cell_lt {w : World} {p : Addr} {v : Value} (h : w.cell? p = some v) : p.block < w.heap.size := by
  rcases Nat.lt_or_ge p.block w.heap.size with h1 | h1
  · exact h1
  · unfold World.cell? at h
    rw [Array.getElem?_eq_none h1] at h
    cases h

/-- A world of a class. -/
structure Wd (S : World → Prop) where
  w : World
  h : S w

instance wdNonempty {B : Nat} {w : World} : Nonempty (Wd (Below B w)) := ⟨⟨w, Below.refl B w⟩⟩

/-- A region that draws its order, reads and calls: walked once, in a class of worlds: those that keep what lies before. -/
theorem wp_region_cls {P : Program} {id : Nat} {Q : Exit → Act → World → Prop} {a : Act} {w : World} {l : List Oper} (hm : P.follows .mixedOrders = true) (hB : Region.lexB .any l.toArray = true)
    (h : wpQuiet P l.toArray (fun w' => ∃ x : Wd (Below w.heap.size w), w' = x.w) (fun a' => ∀ w', (∃ x : Wd (Below w.heap.size w), w' = x.w) → Q .normal a' w') l a) : (Code.region id l.toArray true).wp P Q a w :=
  wp_region_quiet (C := fun w' => ∃ x : Wd (Below w.heap.size w), w' = x.w) hm hB ⟨⟨_, (Below.refl _ _).drew⟩, rfl⟩ (by simpa using h)

theorem clsCell {w : World} {p : Addr} {v : Value} (h : w.cell? p = some v) : ∀ x : Wd (Below w.heap.size w), x.w.cell? p = some v := fun x => (x.h.cell (cell_lt h)).trans h

theorem clsCall {P : Program} {f : FuncId} {args : Array Value} {v : Value} {w : World} {x : Wd (Below w.heap.size w)} (h : Calls P f args x.w fun e w' => e = .returned v ∧ Below x.w.heap.size x.w w') :
    Calls P f args x.w fun e w'' => e = .returned v ∧ ∃ m : Wd (Below w.heap.size w), w'' = m.w :=
  h.mono fun _ _ ⟨he, hb⟩ => ⟨he, ⟨_, belowC hb x.h⟩, rfl⟩

theorem clsSame {P : Program} {f : FuncId} {args : Array Value} {v : Value} {w : World} {x : Wd (Below w.heap.size w)} (h : Calls P f args x.w fun e w' => e = .returned v ∧ x.w = w') :
    Calls P f args x.w fun e w'' => e = .returned v ∧ ∃ m : Wd (Below w.heap.size w), w'' = m.w :=
  h.mono fun _ _ ⟨he, hb⟩ => ⟨he, x, hb.symm⟩

theorem box3 {w wx : World} {T : TypeId} {a b c : Value} (h : Below (w.heap.size + 1) (w.alloc (.cells #[a, b, c] T)) wx) :
    wx.cell? ⟨w.heap.size, 0, none⟩ = some a ∧ wx.cell? ⟨w.heap.size, 1, none⟩ = some b ∧ wx.cell? ⟨w.heap.size, 2, none⟩ = some c ∧ Below (w.heap.size + 1) (w.alloc (.cells #[a, b, c] T)) wx := by
  have e : wx.heap[w.heap.size]? = some (.cells #[a, b, c] T (0, 0)) := (h.block _ (by omega)).trans (heap_alloc_new w _)
  refine ⟨?_, ?_, ?_, h⟩ <;> simp [World.cell?, e]

theorem box3_call {w wx wy : World} {T : TypeId} {a b c : Value} (hb : Below wx.heap.size wx wy) (h : Below (w.heap.size + 1) (w.alloc (.cells #[a, b, c] T)) wx) :
    wy.cell? ⟨w.heap.size, 0, none⟩ = some a ∧ wy.cell? ⟨w.heap.size, 1, none⟩ = some b ∧ wy.cell? ⟨w.heap.size, 2, none⟩ = some c ∧ Below (w.heap.size + 1) (w.alloc (.cells #[a, b, c] T)) wy :=
  box3 (h.trans (hb.mono (by have := h.size; simp at this; omega)))

set_option maxHeartbeats 4000000 in
theorem specL2Code (o l m n : Nat) (x : Int) (r : Bool) (w : World) (hl : l ≤ 8) (hn : n ≤ 100000) (hr : r = true ↔ (0 ≤ x ∧ x < 2 ^ l) ∨ ((2 ^ l + 1 : Nat) < x ∧ x ≤ ((2 ^ l + 1 + n : Nat) : Int))) :
    Calls Try.prog 72 #[.agg #[.int .i64 (o : Int), .int .i64 (l : Int), .int .i64 (m : Int)], .int .i64 x, .int .i64 (n : Int)] w fun e w' => e = .returned (.bool r) ∧ Below w.heap.size w w' := by
  have HC := fun W => specL1Clear o l m W (by omega)
  have HE := fun W => specL1End o l m W (by omega)
  unfold setV at HC
  have hc1 : 1 ≤ 2 ^ l := Nat.one_le_two_pow
  have hc8 : 2 ^ l ≤ 2 ^ 8 := Nat.pow_le_pow_right (by omega) hl
  have hcast : ((2 : Int) ^ l) = ((2 ^ l : Nat) : Int) := by simp
  rw [hcast] at hr
  obtain ⟨z, hz⟩ : ∃ z, 2 ^ l = z := ⟨_, rfl⟩
  rw [hz] at HC HE hr hc1 hc8
  obtain ⟨f, hf⟩ : ∃ f, z + 1 = f := ⟨_, rfl⟩
  rw [hf] at HE hr
  obtain ⟨d, hd⟩ : ∃ d : Nat, (z : Int) - 1 = d := ⟨z - 1, by omega⟩
  obtain ⟨f1, hf1⟩ : ∃ d : Nat, (f : Int) + 1 = d := ⟨f + 1, by omega⟩
  obtain ⟨fn, hfn⟩ : ∃ d : Nat, (f : Int) + n = d := ⟨f + n, by omega⟩
  have w1 : IntKind.i64.wrap (d : Int) = d := IntWalk.i64_in _ (by omega)
  have w2 : IntKind.i64.wrap (f1 : Int) = f1 := IntWalk.i64_in _ (by omega)
  have w3 : IntKind.i64.wrap (fn : Int) = fn := IntWalk.i64_in _ (by omega)
  have HC := Lib.hid HC
  have HE := Lib.hid HE
  by_cases h1 : 0 ≤ x ∧ x ≤ d
  · have hrt : r = true := hr.2 (Or.inl (by omega))
    subst hrt
    have H1 := Lib.hid (fun W => specL1In x 0 d true W ⟨fun _ => h1, fun _ => rfl⟩)
    clear h1 hr hcast hz hf hl hn hc1 hc8
    go_enter Try.func72, Try.ntmps72
    go_wp2_with fail
    obtain ⟨q0, q1, q2, _⟩ := box3 (Below.refl _ (w.alloc (.cells #[.int .i64 (o : Int), .int .i64 (l : Int), .int .i64 (m : Int)] 38)))
    refine wp_region_cls (by kernel_rfl) (by kernel_rfl) ?_
    have c0 := clsCell q0
    have c1 := clsCell q1
    have c2 := clsCell q2
    repeat (go_big_quiet_step (first | (go_at_call 47; exact clsCall (HC.out _)) | (go_at_call 71; exact clsCall (HE.out _)) | (go_at_call 26; exact clsSame (H1.out _))))
    refine wpQuiet_nil ?_
    rintro w' ⟨⟨w', hB⟩, rfl⟩
    go_wp2_with fail
    go_ret
    exact ⟨rfl, ((Below.refl _ _).alloc (Nat.le_refl _) _).trans (hB.mono (by simp))⟩
  · have hrt : r = decide ((f1 : Int) ≤ x ∧ x ≤ fn) := by
      rw [Bool.eq_iff_iff, hr, decide_eq_true_eq]
      omega
    have H1 := Lib.hid (fun W => specL1In x 0 d false W ⟨fun e => Bool.noConfusion e, fun e => absurd e h1⟩)
    have H2 := Lib.hid (fun W => specL1In x f1 fn r W (by rw [hrt, decide_eq_true_eq]))
    clear h1 hr hrt hcast hz hf hl hn hc1 hc8
    go_enter Try.func72, Try.ntmps72
    go_wp2_with fail
    obtain ⟨q0, q1, q2, _⟩ := box3 (Below.refl _ (w.alloc (.cells #[.int .i64 (o : Int), .int .i64 (l : Int), .int .i64 (m : Int)] 38)))
    refine wp_region_cls (by kernel_rfl) (by kernel_rfl) ?_
    have c0 := clsCell q0
    have c1 := clsCell q1
    have c2 := clsCell q2
    repeat (go_big_quiet_step (first | (go_at_call 47; exact clsCall (HC.out _)) | (go_at_call 71; exact clsCall (HE.out _)) | (go_at_call 26; first | with_reducible exact clsSame (H1.out _) | with_reducible exact clsSame (H2.out _))))
    refine wpQuiet_nil ?_
    rintro w' ⟨⟨w', hB⟩, rfl⟩
    go_wp2_with fail
    go_ret
    exact ⟨rfl, ((Below.refl _ _).alloc (Nat.le_refl _) _).trans (hB.mono (by simp))⟩

end Go.Proofs.Ythfckbfllodcjaa
