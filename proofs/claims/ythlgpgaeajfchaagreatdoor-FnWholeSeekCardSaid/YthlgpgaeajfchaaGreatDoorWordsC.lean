/-
  The reference's l2Any, l2Code and l2Follows.
  The reference's l2Follows, l2Find and l2Longest.
  The reference's l2Find and l2Longest.
-/
import Derived.Test.YthlgpgaeajfchaaGreatDoorWordsA

namespace Go.Proofs.YthlgpgaeajfchaaGreatDoor
open Go.RowKit
set_option linter.unusedVariables false

theorem Kn.At.below {k : Kn} {w w' : World} {B C : Nat} {A : Option Addr} (h : k.At w B A) (hb : Below C w w') (hC : B ≤ C) : k.At w' B A := Row.below h hb hC

theorem bsL_size (l : List UInt8) : (bsL l).size = l.length := rfl

theorem bsL_take (l : List UInt8) (i : Nat) : (bsL l).extract 0 i = bsL (l.take i) := by
  apply ByteArray.ext
  simp

theorem bsL_drop (l : List UInt8) (i : Nat) : (bsL l).extract i l.length = bsL (l.drop i) := by
  apply ByteArray.ext
  simp
  exact List.take_of_length_le (by simp)

theorem bsL_append (a b : List UInt8) : bsL a ++ bsL b = bsL (a ++ b) := by
  apply ByteArray.ext
  simp

set_option maxHeartbeats 4000000 in
theorem specL2Any (k : Kn) (A : Option Addr) (c B x : Nat) (w : World) (h : k.Valid) (hA : k.At w B A) (hB : B ≤ w.heap.size) (hx : k.can x) :
    Calls Tryz.prog 179 #[k.val A c, .int .i64 (x : Int)] w fun e w' => e = .returned (.string (bsL (k.any x))) ∧ Below w.heap.size w w' := by
  have HN := fun W => specL2Next k A c W h
  obtain ⟨x0, hx0⟩ : ∃ z, k.next = z := ⟨_, rfl⟩
  rw [hx0] at HN
  by_cases hxx : x = x0
  · obtain ⟨q0, hq0⟩ : ∃ q, k.last = some q := by
      rcases hx with h1 | ⟨h1, h2⟩
      · exact absurd (hxx.trans hx0.symm) (Kn.has_ne h1)
      · have := h1.1
        cases hl : k.last with
        | none => rw [hl] at this; cases this
        | some q => exact ⟨q, rfl⟩
    have hany : k.any x = k.word q0 ++ (k.word q0).take 1 := by rw [hxx, ← hx0]; exact Kn.any_next hq0
    rw [hany]
    have hli : k.lastI = (q0 : Int) := Kn.lastI_nat hq0
    have HW := fun (W : World) (hb : Below w.heap.size w W) => specL2Word k A c B q0 W h (hA.below hb hB) (Nat.le_trans hB hb.size) (h.tail q0 hq0)
    have hwl := k.word_le q0
    have hwn := k.word_ne q0
    have hps := h.room
    have hpw := h.pow
    obtain ⟨R, hR⟩ : ∃ R, k.word q0 = R := ⟨_, rfl⟩
    rw [hR] at HW hwl hwn ⊢
    have hR1 : 1 ≤ (bsL R).size := by rw [bsL_size]; cases R with
      | nil => exact absurd rfl hwn
      | cons y ys => simp
    have hsl : (bsL R).extract 0 1 = bsL (R.take 1) := bsL_take R 1
    have hadd : ∀ W, (Op.stringOp .add (bsL R) (bsL (R.take 1))).run Tryz.prog W = .ok (.string (bsL (R ++ R.take 1))) W := fun W => by
      rw [run_string_add_sum W _ _ (by rw [bsL_size, bsL_size, List.length_take]; omega), bsL_append]
    have hRs : (bsL R).size ≤ 2000 := by rw [bsL_size]; omega
    obtain ⟨T, hT⟩ : ∃ T, bsL R = T := ⟨_, rfl⟩
    rw [hT] at HW hR1 hsl hadd hRs
    obtain ⟨T1, hT1⟩ : ∃ T1, bsL (R.take 1) = T1 := ⟨_, rfl⟩
    rw [hT1] at hsl hadd
    obtain ⟨T2, hT2⟩ : ∃ T2, bsL (R ++ R.take 1) = T2 := ⟨_, rfl⟩
    rw [hT2] at hadd ⊢
    obtain ⟨n, hn⟩ : ∃ x, k.ps.length = x := ⟨_, rfl⟩
    obtain ⟨o, ho⟩ : ∃ x, k.o = x := ⟨_, rfl⟩
    obtain ⟨l, hl'⟩ : ∃ x, k.l = x := ⟨_, rfl⟩
    obtain ⟨m, hm⟩ : ∃ x, k.m = x := ⟨_, rfl⟩
    obtain ⟨b, hb⟩ : ∃ x, k.base = x := ⟨_, rfl⟩
    obtain ⟨q, hq⟩ : ∃ x, k.lastI = x := ⟨_, rfl⟩
    try unfold Kn.val at HN
    try rw [hn] at HN
    try rw [ho] at HN
    try rw [hl'] at HN
    try rw [hm] at HN
    try rw [hb] at HN
    try rw [hq] at HN
    try unfold Kn.val at HW
    try rw [hn] at HW
    try rw [ho] at HW
    try rw [hl'] at HW
    try rw [hm] at HW
    try rw [hb] at HW
    try rw [hq] at HW
    simp only [Kn.val, hn, ho, hl', hm, hb, hq]
    have hqq : q = (q0 : Int) := by rw [← hq, hli]
    subst hqq
    have HN := Lib.hid HN
    have HW := Lib.hid HW
    have hxz : (x : Int) = (x0 : Int) := by omega
    clear hli hwl hwn hps hpw hR hany hq0 h hA hx hx0 hn ho hl' hm hb hq hT hT1 hT2 hxx
    rw [hxz]
    go_enter Tryz.func179, Tryz.ntmps179
    go_wp2_with fail
    refine (HN.out _).mono ?_
    rintro e w1 ⟨rfl, hb1⟩
    obtain ⟨q0, q1, q2, q3, q4, q5, hbel⟩ := box6_call hb1 (Below.refl _ _)
    go_wp2_with fail
    refine (HW.out _ (((Below.refl _ _).alloc (Nat.le_refl _) _).trans (hbel.mono (by omega)))).mono ?_
    rintro e w2 ⟨rfl, hb2⟩
    have hbel2 := ((Below.refl w.heap.size w).alloc (Nat.le_refl _) _).trans ((box6_call hb2 hbel).2.2.2.2.2.2.mono (by omega))
    go_wp2_with fail
    go_ret
    exact ⟨rfl, hbel2⟩
  · have hany : k.any x = k.word x := Kn.any_old (by omega)
    rw [hany]
    have hh : k.has k.ps.length x := by
      rcases hx with h1 | ⟨h1, h2⟩
      · exact h1
      · exact absurd (h2.trans hx0) hxx
    have HW := fun (W : World) (hb : Below w.heap.size w W) => specL2Word k A c B x W h (hA.below hb hB) (Nat.le_trans hB hb.size) hh
    obtain ⟨R, hR⟩ : ∃ R, k.word x = R := ⟨_, rfl⟩
    rw [hR] at HW ⊢
    obtain ⟨n, hn⟩ : ∃ x, k.ps.length = x := ⟨_, rfl⟩
    obtain ⟨o, ho⟩ : ∃ x, k.o = x := ⟨_, rfl⟩
    obtain ⟨l, hl'⟩ : ∃ x, k.l = x := ⟨_, rfl⟩
    obtain ⟨m, hm⟩ : ∃ x, k.m = x := ⟨_, rfl⟩
    obtain ⟨b, hb⟩ : ∃ x, k.base = x := ⟨_, rfl⟩
    obtain ⟨q, hq⟩ : ∃ x, k.lastI = x := ⟨_, rfl⟩
    try unfold Kn.val at HN
    try rw [hn] at HN
    try rw [ho] at HN
    try rw [hl'] at HN
    try rw [hm] at HN
    try rw [hb] at HN
    try rw [hq] at HN
    try unfold Kn.val at HW
    try rw [hn] at HW
    try rw [ho] at HW
    try rw [hl'] at HW
    try rw [hm] at HW
    try rw [hb] at HW
    try rw [hq] at HW
    simp only [Kn.val, hn, ho, hl', hm, hb, hq]
    have HN := Lib.hid HN
    have HW := Lib.hid HW
    have hxz : (x : Int) ≠ (x0 : Int) := by omega
    clear hR hany h hA hx hx0 hn ho hl' hm hb hq hxx hh
    go_enter Tryz.func179, Tryz.ntmps179
    go_wp2_with fail
    refine (HN.out _).mono ?_
    rintro e w1 ⟨rfl, hb1⟩
    obtain ⟨q0, q1, q2, q3, q4, q5, hbel⟩ := box6_call hb1 (Below.refl _ _)
    go_wp2_with fail
    refine (HW.out _ (((Below.refl _ _).alloc (Nat.le_refl _) _).trans (hbel.mono (by omega)))).mono ?_
    rintro e w2 ⟨rfl, hb2⟩
    have hbel2 := ((Below.refl w.heap.size w).alloc (Nat.le_refl _) _).trans ((box6_call hb2 hbel).2.2.2.2.2.2.mono (by omega))
    go_wp2_with fail
    go_ret
    exact ⟨rfl, hbel2⟩

theorem cell_lt {w : World} {p : Addr} {v : Value} (h : w.cell? p = some v) : p.block < w.heap.size := by
  rcases Nat.lt_or_ge p.block w.heap.size with h1 | h1
  · exact h1
  · unfold World.cell? at h
    rw [Array.getElem?_eq_none h1] at h
    cases h

/-- A world of a class. -/
structure Wd (S : World → Prop) where
  w : World
  h : S w

instance wdNonempty {B : Nat} {w : World} : Nonempty (Wd (Below B w)) := ⟨⟨w, Below.refl B w⟩⟩

/-- A region that draws its order, reads and calls: walked once, in a class of worlds: those that keep what lies before. -/
theorem wp_region_cls {P : Program} {id : Nat} {Q : Exit → Act → World → Prop} {a : Act} {w : World} {l : List Oper} (hm : P.follows .mixedOrders = true) (hB : Region.lexB .any l.toArray = true)
    (h : wpQuiet P l.toArray (fun w' => ∃ x : Wd (Below w.heap.size w), w' = x.w) (fun a' => ∀ w', (∃ x : Wd (Below w.heap.size w), w' = x.w) → Q .normal a' w') l a) : (Code.region id l.toArray true).wp P Q a w :=
  wp_region_quiet (C := fun w' => ∃ x : Wd (Below w.heap.size w), w' = x.w) hm hB ⟨⟨_, (Below.refl _ _).drew⟩, rfl⟩ (by simpa using h)

theorem clsCell {w : World} {p : Addr} {v : Value} (h : w.cell? p = some v) : ∀ x : Wd (Below w.heap.size w), x.w.cell? p = some v := fun x => (x.h.cell (cell_lt h)).trans h

theorem clsCall {P : Program} {f : FuncId} {args : Array Value} {v : Value} {w : World} {x : Wd (Below w.heap.size w)} (h : Calls P f args x.w fun e w' => e = .returned v ∧ Below x.w.heap.size x.w w') :
    Calls P f args x.w fun e w'' => e = .returned v ∧ ∃ m : Wd (Below w.heap.size w), w'' = m.w :=
  h.mono fun _ _ ⟨he, hb⟩ => ⟨he, ⟨_, belowC hb x.h⟩, rfl⟩

theorem clsSame {P : Program} {f : FuncId} {args : Array Value} {v : Value} {w : World} {x : Wd (Below w.heap.size w)} (h : Calls P f args x.w fun e w' => e = .returned v ∧ x.w = w') :
    Calls P f args x.w fun e w'' => e = .returned v ∧ ∃ m : Wd (Below w.heap.size w), w'' = m.w :=
  h.mono fun _ _ ⟨he, hb⟩ => ⟨he, x, hb.symm⟩

theorem box3 {w wx : World} {T : TypeId} {a b c : Value} (h : Below (w.heap.size + 1) (w.alloc (.cells #[a, b, c] T)) wx) :
    wx.cell? ⟨w.heap.size, 0, none⟩ = some a ∧ wx.cell? ⟨w.heap.size, 1, none⟩ = some b ∧ wx.cell? ⟨w.heap.size, 2, none⟩ = some c ∧ Below (w.heap.size + 1) (w.alloc (.cells #[a, b, c] T)) wx := by
  have e : wx.heap[w.heap.size]? = some (.cells #[a, b, c] T (0, 0)) := (h.block _ (by omega)).trans (heap_alloc_new w _)
  refine ⟨?_, ?_, ?_, h⟩ <;> simp [World.cell?, e]

theorem box3_call {w wx wy : World} {T : TypeId} {a b c : Value} (hb : Below wx.heap.size wx wy) (h : Below (w.heap.size + 1) (w.alloc (.cells #[a, b, c] T)) wx) :
    wy.cell? ⟨w.heap.size, 0, none⟩ = some a ∧ wy.cell? ⟨w.heap.size, 1, none⟩ = some b ∧ wy.cell? ⟨w.heap.size, 2, none⟩ = some c ∧ Below (w.heap.size + 1) (w.alloc (.cells #[a, b, c] T)) wy :=
  box3 (h.trans (hb.mono (by have := h.size; simp at this; omega)))

set_option maxHeartbeats 4000000 in
theorem specL2Code (o l m n : Nat) (x : Int) (r : Bool) (w : World) (hl : l ≤ 8) (hn : n ≤ 100000) (hr : r = true ↔ (0 ≤ x ∧ x < 2 ^ l) ∨ ((2 ^ l + 1 : Nat) < x ∧ x ≤ ((2 ^ l + 1 + n : Nat) : Int))) :
    Calls Tryz.prog 157 #[.agg #[.int .i64 (o : Int), .int .i64 (l : Int), .int .i64 (m : Int)], .int .i64 x, .int .i64 (n : Int)] w fun e w' => e = .returned (.bool r) ∧ Below w.heap.size w w' := by
  have HC := fun W => specL1Clear o l m W (by omega)
  have HE := fun W => specL1End o l m W (by omega)
  unfold setV at HC
  have hc1 : 1 ≤ 2 ^ l := Nat.one_le_two_pow
  have hc8 : 2 ^ l ≤ 2 ^ 8 := Nat.pow_le_pow_right (by omega) hl
  have hcast : ((2 : Int) ^ l) = ((2 ^ l : Nat) : Int) := by simp
  rw [hcast] at hr
  obtain ⟨z, hz⟩ : ∃ z, 2 ^ l = z := ⟨_, rfl⟩
  rw [hz] at HC HE hr hc1 hc8
  obtain ⟨f, hf⟩ : ∃ f, z + 1 = f := ⟨_, rfl⟩
  rw [hf] at HE hr
  obtain ⟨d, hd⟩ : ∃ d : Nat, (z : Int) - 1 = d := ⟨z - 1, by omega⟩
  obtain ⟨f1, hf1⟩ : ∃ d : Nat, (f : Int) + 1 = d := ⟨f + 1, by omega⟩
  obtain ⟨fn, hfn⟩ : ∃ d : Nat, (f : Int) + n = d := ⟨f + n, by omega⟩
  have w1 : IntKind.i64.wrap (d : Int) = d := IntWalk.i64_in _ (by omega)
  have w2 : IntKind.i64.wrap (f1 : Int) = f1 := IntWalk.i64_in _ (by omega)
  have w3 : IntKind.i64.wrap (fn : Int) = fn := IntWalk.i64_in _ (by omega)
  have HC := Lib.hid HC
  have HE := Lib.hid HE
  by_cases h1 : 0 ≤ x ∧ x ≤ d
  · have hrt : r = true := hr.2 (Or.inl (by omega))
    subst hrt
    have H1 := Lib.hid (fun W => specL1In x 0 d true W ⟨fun _ => h1, fun _ => rfl⟩)
    clear h1 hr hcast hz hf hl hn hc1 hc8
    go_enter Tryz.func157, Tryz.ntmps157
    go_wp2_with fail
    obtain ⟨q0, q1, q2, _⟩ := box3 (Below.refl _ (w.alloc (.cells #[.int .i64 (o : Int), .int .i64 (l : Int), .int .i64 (m : Int)] 24)))
    refine wp_region_cls (by kernel_rfl) (by kernel_rfl) ?_
    have c0 := clsCell q0
    have c1 := clsCell q1
    have c2 := clsCell q2
    repeat (go_big_quiet_step (first | (go_at_call 62; exact clsCall (HC.out _)) | (go_at_call 156; exact clsCall (HE.out _)) | (go_at_call 24; exact clsSame (H1.out _))))
    refine wpQuiet_nil ?_
    rintro w' ⟨⟨w', hB⟩, rfl⟩
    go_wp2_with fail
    go_ret
    exact ⟨rfl, ((Below.refl _ _).alloc (Nat.le_refl _) _).trans (hB.mono (by simp))⟩
  · have hrt : r = decide ((f1 : Int) ≤ x ∧ x ≤ fn) := by
      rw [Bool.eq_iff_iff, hr, decide_eq_true_eq]
      omega
    have H1 := Lib.hid (fun W => specL1In x 0 d false W ⟨fun e => Bool.noConfusion e, fun e => absurd e h1⟩)
    have H2 := Lib.hid (fun W => specL1In x f1 fn r W (by rw [hrt, decide_eq_true_eq]))
    clear h1 hr hrt hcast hz hf hl hn hc1 hc8
    go_enter Tryz.func157, Tryz.ntmps157
    go_wp2_with fail
    obtain ⟨q0, q1, q2, _⟩ := box3 (Below.refl _ (w.alloc (.cells #[.int .i64 (o : Int), .int .i64 (l : Int), .int .i64 (m : Int)] 24)))
    refine wp_region_cls (by kernel_rfl) (by kernel_rfl) ?_
    have c0 := clsCell q0
    have c1 := clsCell q1
    have c2 := clsCell q2
    repeat (go_big_quiet_step (first | (go_at_call 62; exact clsCall (HC.out _)) | (go_at_call 156; exact clsCall (HE.out _)) | (go_at_call 24; first | with_reducible exact clsSame (H1.out _) | with_reducible exact clsSame (H2.out _))))
    refine wpQuiet_nil ?_
    rintro w' ⟨⟨w', hB⟩, rfl⟩
    go_wp2_with fail
    go_ret
    exact ⟨rfl, ((Below.refl _ _).alloc (Nat.le_refl _) _).trans (hB.mono (by simp))⟩

end Go.Proofs.YthlgpgaeajfchaaGreatDoor

namespace Go.Proofs.YthlgpgaeajfchaaGreatDoor
open Go.RowKit
set_option linter.unusedVariables false

set_option maxHeartbeats 4000000 in
theorem specL2Follows (k : Kn) (A : Option Addr) (c x : Nat) (r : Bool) (w : World) (h : k.Valid) (hr : r = true ↔ k.can x) :
    Calls Tryz.prog 183 #[k.val A c, .int .i64 (x : Int)] w fun e w' => e = .returned (.bool r) ∧ Below w.heap.size w w' := by
  have hps := h.room
  have hpw := h.pow
  have hfe := k.fin_eq
  have hcl : 2 ^ k.l = k.clear := rfl
  have HN := fun W => specL2Next k A c W h
  by_cases h1 : k.has k.ps.length x
  · have hrt : r = true := hr.2 (Or.inl h1)
    have HC := fun W => specL2Code k.o k.l k.m k.ps.length (x : Int) true W h.lit8 (by omega) ⟨fun _ => by
      unfold Kn.has at h1
      have hc2 : ((2 : Int) ^ k.l) = (k.clear : Int) := by rw [← hcl]; simp
      rw [hc2, hcl]
      omega, fun _ => rfl⟩
    subst hrt
    obtain ⟨n, hn⟩ : ∃ x, k.ps.length = x := ⟨_, rfl⟩
    obtain ⟨o, ho⟩ : ∃ x, k.o = x := ⟨_, rfl⟩
    obtain ⟨l, hl'⟩ : ∃ x, k.l = x := ⟨_, rfl⟩
    obtain ⟨m, hm⟩ : ∃ x, k.m = x := ⟨_, rfl⟩
    obtain ⟨b, hb⟩ : ∃ x, k.base = x := ⟨_, rfl⟩
    obtain ⟨q, hq⟩ : ∃ x, k.lastI = x := ⟨_, rfl⟩
    try unfold Kn.val at HC
    try rw [hn] at HC
    try rw [ho] at HC
    try rw [hl'] at HC
    try rw [hm] at HC
    try rw [hb] at HC
    try rw [hq] at HC
    simp only [Kn.val, hn, ho, hl', hm, hb, hq]
    have HC := Lib.hid HC
    clear hps hpw hfe hcl h1 hr h hn ho hl' hm hb hq HN
    go_enter Tryz.func183, Tryz.ntmps183
    go_wp2_with fail
    refine (HC.out _).mono ?_
    rintro e w1 ⟨rfl, hb1⟩
    obtain ⟨q0, q1, q2, q3, q4, q5, B1⟩ := box6_call hb1 (Below.refl _ _)
    go_wp2_with fail
    go_ret
    exact ⟨rfl, ((Below.refl _ _).alloc (Nat.le_refl _) _).trans (B1.mono (by simp))⟩
  · have HC := fun W => specL2Code k.o k.l k.m k.ps.length (x : Int) false W h.lit8 (by omega) ⟨fun e => Bool.noConfusion e, fun hh => by
      exfalso
      apply h1
      unfold Kn.has
      have hc2 : ((2 : Int) ^ k.l) = (k.clear : Int) := by rw [← hcl]; simp
      rw [hc2, hcl] at hh
      omega⟩
    by_cases hg : k.grows
    · have HG := fun W => specL2Grows k A c true W h ⟨fun _ => hg, fun _ => rfl⟩
      have hrt : r = decide ((x : Int) = (k.next : Int)) := by
        rw [Bool.eq_iff_iff, hr, decide_eq_true_eq]
        constructor
        · rintro (hh | ⟨_, hh⟩)
          · exact absurd hh h1
          · omega
        · intro hh
          exact Or.inr ⟨hg, by omega⟩
      obtain ⟨x0, hx0⟩ : ∃ z, k.next = z := ⟨_, rfl⟩
      rw [hx0] at HN hrt
      subst hrt
      obtain ⟨n, hn⟩ : ∃ x, k.ps.length = x := ⟨_, rfl⟩
      obtain ⟨o, ho⟩ : ∃ x, k.o = x := ⟨_, rfl⟩
      obtain ⟨l, hl'⟩ : ∃ x, k.l = x := ⟨_, rfl⟩
      obtain ⟨m, hm⟩ : ∃ x, k.m = x := ⟨_, rfl⟩
      obtain ⟨b, hb⟩ : ∃ x, k.base = x := ⟨_, rfl⟩
      obtain ⟨q, hq⟩ : ∃ x, k.lastI = x := ⟨_, rfl⟩
      try unfold Kn.val at HC
      try rw [hn] at HC
      try rw [ho] at HC
      try rw [hl'] at HC
      try rw [hm] at HC
      try rw [hb] at HC
      try rw [hq] at HC
      try unfold Kn.val at HN
      try rw [hn] at HN
      try rw [ho] at HN
      try rw [hl'] at HN
      try rw [hm] at HN
      try rw [hb] at HN
      try rw [hq] at HN
      try unfold Kn.val at HG
      try rw [hn] at HG
      try rw [ho] at HG
      try rw [hl'] at HG
      try rw [hm] at HG
      try rw [hb] at HG
      try rw [hq] at HG
      simp only [Kn.val, hn, ho, hl', hm, hb, hq]
      have HC := Lib.hid HC
      have HN := Lib.hid HN
      have HG := Lib.hid HG
      clear hps hpw hfe hcl h1 hr h hn ho hl' hm hb hq hx0 hg
      go_enter Tryz.func183, Tryz.ntmps183
      go_wp2_with fail
      refine (HC.out _).mono ?_
      rintro e w1 ⟨rfl, hb1⟩
      obtain ⟨q0, q1, q2, q3, q4, q5, B1⟩ := box6_call hb1 (Below.refl _ _)
      go_wp2_with fail
      refine (HG.out _).mono ?_
      rintro e w2 ⟨rfl, hb2⟩
      clear q0 q1 q2 q3 q4 q5
      obtain ⟨q0, q1, q2, q3, q4, q5, B2⟩ := box6_call hb2 (B1)
      go_wp2_with fail
      refine (HN.out _).mono ?_
      rintro e w3 ⟨rfl, hb3⟩
      clear q0 q1 q2 q3 q4 q5
      obtain ⟨q0, q1, q2, q3, q4, q5, B3⟩ := box6_call hb3 (B2)
      go_wp2_with fail
      go_ret
      exact ⟨rfl, ((Below.refl _ _).alloc (Nat.le_refl _) _).trans (B3.mono (by simp))⟩
    · have HG := fun W => specL2Grows k A c false W h ⟨fun e => Bool.noConfusion e, fun hh => absurd hh hg⟩
      have hrt : r = false := by
        cases r with
        | false => rfl
        | true =>
          rcases hr.1 rfl with hh | ⟨hh, _⟩
          · exact absurd hh h1
          · exact absurd hh hg
      subst hrt
      obtain ⟨n, hn⟩ : ∃ x, k.ps.length = x := ⟨_, rfl⟩
      obtain ⟨o, ho⟩ : ∃ x, k.o = x := ⟨_, rfl⟩
      obtain ⟨l, hl'⟩ : ∃ x, k.l = x := ⟨_, rfl⟩
      obtain ⟨m, hm⟩ : ∃ x, k.m = x := ⟨_, rfl⟩
      obtain ⟨b, hb⟩ : ∃ x, k.base = x := ⟨_, rfl⟩
      obtain ⟨q, hq⟩ : ∃ x, k.lastI = x := ⟨_, rfl⟩
      try unfold Kn.val at HC
      try rw [hn] at HC
      try rw [ho] at HC
      try rw [hl'] at HC
      try rw [hm] at HC
      try rw [hb] at HC
      try rw [hq] at HC
      try unfold Kn.val at HG
      try rw [hn] at HG
      try rw [ho] at HG
      try rw [hl'] at HG
      try rw [hm] at HG
      try rw [hb] at HG
      try rw [hq] at HG
      simp only [Kn.val, hn, ho, hl', hm, hb, hq]
      have HC := Lib.hid HC
      have HG := Lib.hid HG
      clear hps hpw hfe hcl h1 hr h hn ho hl' hm hb hq hg HN
      go_enter Tryz.func183, Tryz.ntmps183
      go_wp2_with fail
      refine (HC.out _).mono ?_
      rintro e w1 ⟨rfl, hb1⟩
      obtain ⟨q0, q1, q2, q3, q4, q5, B1⟩ := box6_call hb1 (Below.refl _ _)
      go_wp2_with fail
      refine (HG.out _).mono ?_
      rintro e w2 ⟨rfl, hb2⟩
      clear q0 q1 q2 q3 q4 q5
      obtain ⟨q0, q1, q2, q3, q4, q5, B2⟩ := box6_call hb2 (B1)
      go_wp2_with fail
      go_ret
      exact ⟨rfl, ((Below.refl _ _).alloc (Nat.le_refl _) _).trans (B2.mono (by simp))⟩

end Go.Proofs.YthlgpgaeajfchaaGreatDoor

namespace Go.Proofs.YthlgpgaeajfchaaGreatDoor
open Go.RowKit
set_option linter.unusedVariables false

theorem find_range (p : Nat → Bool) : ∀ (n s c : Nat), (List.range' s n).find? p = some c → s ≤ c ∧ c < s + n ∧ p c = true ∧ ∀ x, s ≤ x → x < c → p x = false := by
  intro n
  induction n with
  | zero => intro s c h; simp at h
  | succ n ih =>
    intro s c h
    rw [List.range'_succ, List.find?_cons] at h
    cases hp : p s with
    | true =>
      rw [hp] at h
      injection h with h
      subst h
      exact ⟨Nat.le_refl _, by omega, hp, fun x h1 h2 => by omega⟩
    | false =>
      rw [hp] at h
      obtain ⟨h1, h2, h3, h4⟩ := ih (s + 1) c h
      refine ⟨by omega, by omega, h3, fun x hx1 hx2 => ?_⟩
      by_cases hxs : x = s
      · subst hxs; exact hp
      · exact h4 x (by omega) hx2

theorem bsL_eq {a b : List UInt8} : ((bsL a).toList == (bsL b).toList) = decide (a = b) := by
  rw [Bool.eq_iff_iff, beq_iff_eq, decide_eq_true_eq]
  constructor
  · intro h
    rw [ByteArray.toList_eq, ByteArray.toList_eq] at h
    exact h
  · rintro rfl; rfl

set_option maxHeartbeats 4000000 in
theorem specL2Find (k : Kn) (A : Option Addr) (c B d : Nat) (L : List UInt8) (w : World) (h : k.Valid) (hA : k.At w B A) (hB : B ≤ w.heap.size) (hd : k.find L = some d) (hf : L.length = 1 → (L.headD 0).toNat < k.clear) (hL : L.length ≤ 100000) :
    Calls Tryz.prog 171 #[k.val A c, .string (bsL L)] w fun e w' => e = .returned (.int .i64 (d : Int)) ∧ Below w.heap.size w w' := by
  have hps := h.room
  have hpw := h.pow
  have hfe := k.fin_eq
  have hgb := Kn.great_bounds h
  have hll := h.lit8
  by_cases h1 : L.length = 1
  · have hfd := hf h1
    unfold Kn.find at hd
    rw [if_pos ⟨h1, hfd⟩] at hd
    injection hd with hd
    obtain ⟨y, rfl⟩ : ∃ y, L = [y] := by
      cases L with
      | nil => simp at h1
      | cons y ys =>
        cases ys with
        | nil => exact ⟨y, rfl⟩
        | cons z zs => simp at h1
    have hyd : y.toNat = d := hd
    have hyc : d < k.clear := by rw [← hyd]; exact hfd
    have HC := fun W => specL1Clear k.o k.l k.m W (by omega)
    unfold setV at HC
    have hcl : 2 ^ k.l = k.clear := rfl
    rw [hcl] at HC
    obtain ⟨z, hz⟩ : ∃ z, k.clear = z := ⟨_, rfl⟩
    rw [hz] at HC hyc
    obtain ⟨U, hU⟩ : ∃ U, bsL [y] = U := ⟨_, rfl⟩
    have hUs : U.size = 1 := by rw [← hU]; rfl
    have hU0 : U[0].toNat = d := by subst hU; exact hyd
    rw [hU]
    obtain ⟨n, hn⟩ : ∃ x, k.ps.length = x := ⟨_, rfl⟩
    obtain ⟨o, ho⟩ : ∃ x, k.o = x := ⟨_, rfl⟩
    obtain ⟨l, hl'⟩ : ∃ x, k.l = x := ⟨_, rfl⟩
    obtain ⟨m, hm⟩ : ∃ x, k.m = x := ⟨_, rfl⟩
    obtain ⟨b, hb⟩ : ∃ x, k.base = x := ⟨_, rfl⟩
    obtain ⟨q, hq⟩ : ∃ x, k.lastI = x := ⟨_, rfl⟩
    try unfold Kn.val at HC
    try rw [hn] at HC
    try rw [ho] at HC
    try rw [hl'] at HC
    try rw [hm] at HC
    try rw [hb] at HC
    try rw [hq] at HC
    simp only [Kn.val, hn, ho, hl', hm, hb, hq]
    have HC := Lib.hid HC
    have hlt : ((d : Int) < (z : Int)) := by omega
    have hdb : d < 256 := by rw [← hyd]; exact y.toNat_lt
    clear hps hpw hfe hgb hll h1 hfd hd hf hyd hcl h hn ho hl' hm hb hq hA hz hU hL
    go_enter Tryz.func171, Tryz.ntmps171
    go_wp2_with fail
    obtain ⟨q0, q1, q2, q3, q4, q5, _⟩ := box6 (Below.refl _ (w.alloc (.cells #[.int .i64 (o : Int), .int .i64 (l : Int), .int .i64 (m : Int), .slice A n c, .int .i64 (b : Int), .int .i64 q] 48)))
    refine wp_region_cls (by kernel_rfl) (by kernel_rfl) ?_
    have c0 := clsCell q0
    have c1 := clsCell q1
    have c2 := clsCell q2
    repeat (go_big_quiet_step (first | (go_at_call 62; exact clsCall (HC.out _))))
    refine wpQuiet_nil ?_
    rintro w' ⟨⟨w', hB⟩, rfl⟩
    go_wp2_with fail
    go_ret
    exact ⟨rfl, ((Below.refl _ _).alloc (Nat.le_refl _) _).trans (hB.mono (by simp))⟩
  · unfold Kn.find at hd
    rw [if_neg (fun hh => h1 hh.1)] at hd
    obtain ⟨hd1, hd2, hd3, hd4⟩ := find_range _ _ _ _ hd
    have hdL : k.any d = L := by simpa using hd3
    have hne : ∀ y, k.fin + 1 ≤ y → y < d → k.any y ≠ L := fun y hy1 hy2 => by simpa using hd4 y hy1 hy2
    have HG := fun W => specL2Greatest k A c W h
    have HE := fun W => specL1End k.o k.l k.m W (by omega)
    have HY := fun (y : Nat) (hy1 : k.fin + 1 ≤ y) (hy2 : y ≤ k.great) (W : World) (hb : Below w.heap.size w W) => specL2Any k A c B y W h (hA.below hb hB) (Nat.le_trans hB hb.size) (Kn.can_range h (by omega) hy2)
    have hfv : 2 ^ k.l + 1 = k.fin := rfl
    rw [hfv] at HE
    obtain ⟨f, hff⟩ : ∃ f, k.fin = f := ⟨_, rfl⟩
    obtain ⟨g, hg⟩ : ∃ g, k.great = g := ⟨_, rfl⟩
    rw [hff] at HE HY hd1 hd2 hne hgb
    rw [hg] at HG HY hd2 hgb
    have hfb : f ≤ 300 := by omega
    have hgb2 : g ≤ 1023 := by omega
    obtain ⟨f1, hf1⟩ : ∃ z : Nat, (f : Int) + 1 = z := ⟨f + 1, by omega⟩
    have hf1' : f + 1 = f1 := by omega
    rw [hf1'] at HY hne hd1
    have w1 : IntKind.i64.wrap (f1 : Int) = f1 := IntWalk.i64_in _ (by omega)
    have hdg : d ≤ g := by omega
    have hL1 : (((bsL L).size : Int) == 1) = false := by rw [bsL_size, beq_eq_false_iff_ne]; omega
    have hLs : (bsL L).size ≤ 100000 := hL
    obtain ⟨U, hU⟩ : ∃ U, bsL L = U := ⟨_, rfl⟩
    have hT : ∀ y, ((bsL (k.any y)).toList == U.toList) = decide (k.any y = L) := fun y => by rw [← hU]; exact bsL_eq
    rw [hU] at hL1 hLs ⊢
    have HT := Lib.hid hT
    have HNE := Lib.hid hne
    have HDL := Lib.hid hdL
    obtain ⟨n, hn⟩ : ∃ x, k.ps.length = x := ⟨_, rfl⟩
    obtain ⟨o, ho⟩ : ∃ x, k.o = x := ⟨_, rfl⟩
    obtain ⟨l, hl'⟩ : ∃ x, k.l = x := ⟨_, rfl⟩
    obtain ⟨m, hm⟩ : ∃ x, k.m = x := ⟨_, rfl⟩
    obtain ⟨b, hb⟩ : ∃ x, k.base = x := ⟨_, rfl⟩
    obtain ⟨q, hq⟩ : ∃ x, k.lastI = x := ⟨_, rfl⟩
    try unfold Kn.val at HE
    try rw [hn] at HE
    try rw [ho] at HE
    try rw [hl'] at HE
    try rw [hm] at HE
    try rw [hb] at HE
    try rw [hq] at HE
    try unfold Kn.val at HG
    try rw [hn] at HG
    try rw [ho] at HG
    try rw [hl'] at HG
    try rw [hm] at HG
    try rw [hb] at HG
    try rw [hq] at HG
    try unfold Kn.val at HY
    try rw [hn] at HY
    try rw [ho] at HY
    try rw [hl'] at HY
    try rw [hm] at HY
    try rw [hb] at HY
    try rw [hq] at HY
    simp only [Kn.val, hn, ho, hl', hm, hb, hq]
    have HE := Lib.hid HE
    have HG := Lib.hid HG
    have HY := Lib.hid HY
    clear hps hpw hfe hgb hll h1 hd hf hd2 hd3 hd4 hdL hne hfv hff hg hf1' h hn ho hl' hm hb hq hA hU hL hT
    go_enter Tryz.func171, Tryz.ntmps171
    go_wp2_with fail
    obtain ⟨q0, q1, q2, q3, q4, q5, _⟩ := box6 (Below.refl _ (w.alloc (.cells #[.int .i64 (o : Int), .int .i64 (l : Int), .int .i64 (m : Int), .slice A n c, .int .i64 (b : Int), .int .i64 q] 48)))
    refine wp_region_cls (by kernel_rfl) (by kernel_rfl) ?_
    repeat (go_big_quiet_step (fail))
    refine wpQuiet_nil ?_
    rintro w' ⟨⟨w', hB0⟩, rfl⟩
    have hB1 := hB0
    simp only [World.size_alloc] at hB1
    clear q0 q1 q2 q3 q4 q5
    obtain ⟨q0, q1, q2, q3, q4, q5, hB2⟩ := box6 hB1
    clear hB0 hB1
    go_wp2_with fail
    refine (HE.out _).mono ?_
    rintro e w2 ⟨rfl, hb2⟩
    clear q0 q1 q2 q3 q4 q5
    obtain ⟨q0, q1, q2, q3, q4, q5, hB3⟩ := box6_call hb2 hB2
    clear hB2 hb2
    go_wp2_with fail
    go_loopw [5] (fun v wr => ∃ y : Nat, v = .int .i64 (y : Int) ∧ f1 ≤ y ∧ y ≤ d ∧ Below (w.heap.size + 1) (w.alloc (.cells #[.int .i64 (o : Int), .int .i64 (l : Int), .int .i64 (m : Int), .slice A n c, .int .i64 (b : Int), .int .i64 q] 48)) wr) (fun v _ => d - (intOf v).toNat)
    case atStart => exact ⟨f1, rfl, Nat.le_refl _, hd1, hB3⟩
    case round =>
      clear q0 q1 q2 q3 q4 q5 hB3
      obtain ⟨y, rfl, hy1, hy2, hBr⟩ := hrel
      obtain ⟨q0, q1, q2, q3, q4, q5, _⟩ := box6 hBr
      go_wp2_with fail
      refine (HG.out _).mono ?_
      rintro e w3 ⟨rfl, hb3⟩
      clear q0 q1 q2 q3 q4 q5
      obtain ⟨q0, q1, q2, q3, q4, q5, hB4⟩ := box6_call hb3 hBr
      clear hb3 hBr
      have hyg : (y : Int) ≤ g := by omega
      go_wp2_with fail
      refine (HY.out y hy1 (by omega) _ (((Below.refl _ _).alloc (Nat.le_refl _) _).trans (hB4.mono (by omega)))).mono ?_
      rintro e w4 ⟨rfl, hb4⟩
      clear q0 q1 q2 q3 q4 q5
      obtain ⟨q0, q1, q2, q3, q4, q5, hB5⟩ := box6_call hb4 hB4
      clear hb4 hB4
      have ht := HT.out y
      obtain ⟨T, hTT⟩ : ∃ T, bsL (k.any y) = T := ⟨_, rfl⟩
      rw [hTT] at ht ⊢
      clear hTT
      by_cases hyd : y = d
      · have hdl := HDL.out
        rw [hyd, hdl, decide_eq_true rfl] at ht
        have hbw := ((Below.refl w.heap.size w).alloc (Nat.le_refl _) _).trans (hB5.mono (by omega))
        go_wp2_with fail
        go_ret
        exact ⟨by first | rfl | rw [hyd], hbw⟩
      · rw [decide_eq_false (HNE.out y hy1 (by omega))] at ht
        go_wp2_with fail
        go_roundw
        case rel => exact ⟨y + 1, by go_num, by omega, by omega, hB5⟩
        case measure => simp [intOf]; omega

/-- One code of the search for the longest word. -/
def Kn.lstep (k : Kn) (L best : List UInt8) (c : Nat) : List UInt8 := if best.length < (k.any c).length ∧ (k.any c).isPrefixOf L = true then k.any c else best

def Kn.lbest (k : Kn) (L : List UInt8) (j : Nat) : List UInt8 := (List.range' (k.fin + 1) j).foldl (k.lstep L) (L.take 1)

theorem Kn.lbest_all (k : Kn) (L : List UInt8) : k.lbest L (k.great - k.fin) = k.longest L := rfl

theorem Kn.lbest_zero (k : Kn) (L : List UInt8) : k.lbest L 0 = L.take 1 := rfl

theorem Kn.lbest_succ (k : Kn) (L : List UInt8) (j : Nat) : k.lbest L (j + 1) = k.lstep L (k.lbest L j) (k.fin + 1 + j) := by
  unfold Kn.lbest
  rw [List.range'_concat, List.foldl_append]
  simp

theorem Kn.lbest_le (k : Kn) (L : List UInt8) (j : Nat) : (k.lbest L j).length ≤ k.ps.length + 3 := by
  induction j with
  | zero => rw [Kn.lbest_zero, List.length_take]; omega
  | succ j ih =>
    rw [Kn.lbest_succ]
    unfold Kn.lstep
    split
    · exact k.any_le _
    · exact ih

theorem isPrefixOf_take {a L : List UInt8} : a.isPrefixOf L = true ↔ a.length ≤ L.length ∧ L.take a.length = a := by
  rw [List.isPrefixOf_iff_prefix]
  constructor
  · intro h; exact ⟨h.length_le, (List.prefix_iff_eq_take.1 h).symm⟩
  · rintro ⟨h1, h2⟩; exact List.prefix_iff_eq_take.2 h2.symm

set_option maxHeartbeats 8000000 in
theorem specL2Longest (k : Kn) (A : Option Addr) (c B : Nat) (L : List UInt8) (w : World) (h : k.Valid) (hA : k.At w B A) (hB : B ≤ w.heap.size) (hL : 1 ≤ L.length) (hL2 : L.length ≤ 100000) :
    Calls Tryz.prog 169 #[k.val A c, .string (bsL L)] w fun e w' => e = .returned (.string (bsL (k.longest L))) ∧ Below w.heap.size w w' := by
  have hps := h.room
  have hpw := h.pow
  have hfe := k.fin_eq
  have hgb := Kn.great_bounds h
  have hll := h.lit8
  have HG := fun W => specL2Greatest k A c W h
  have HE := fun W => specL1End k.o k.l k.m W (by omega)
  have HY := fun (y : Nat) (hy1 : k.fin + 1 ≤ y) (hy2 : y ≤ k.great) (W : World) (hb : Below w.heap.size w W) => specL2Any k A c B y W h (hA.below hb hB) (Nat.le_trans hB hb.size) (Kn.can_range h (by omega) hy2)
  have hfv : 2 ^ k.l + 1 = k.fin := rfl
  rw [hfv] at HE
  have hstep := k.lbest_succ L
  have hble := k.lbest_le L
  have hb0 := k.lbest_zero L
  have hball := k.lbest_all L
  obtain ⟨bst, hbst⟩ : ∃ f, k.lbest L = f := ⟨_, rfl⟩
  obtain ⟨R, hR⟩ : ∃ R, k.longest L = R := ⟨_, rfl⟩
  rw [hbst] at hstep hble hb0 hball
  rw [hR] at hball ⊢
  obtain ⟨f, hff⟩ : ∃ f, k.fin = f := ⟨_, rfl⟩
  obtain ⟨g, hg⟩ : ∃ g, k.great = g := ⟨_, rfl⟩
  rw [hff] at HE HY hgb hstep hball
  rw [hg] at HG HY hgb hball
  have hfb : f ≤ 300 := by omega
  have hgb2 : g ≤ 1023 := by omega
  have hfg : f ≤ g := by omega
  have hnb : k.ps.length ≤ 1023 := by omega
  obtain ⟨f1, hf1⟩ : ∃ z : Nat, (f : Int) + 1 = z := ⟨f + 1, by omega⟩
  have hf1' : f + 1 = f1 := by omega
  rw [hf1'] at HY hstep
  have w1 : IntKind.i64.wrap (f1 : Int) = f1 := IntWalk.i64_in _ (by omega)
  have HS := Lib.hid hstep
  have HBL : Hid (∀ j, (bst j).length ≤ 1026) := Lib.hid fun j => by have := hble j; omega
  have HB0 := Lib.hid hb0
  have HBA := Lib.hid hball
  have HAL : Hid (∀ x, (k.any x).length ≤ 1026) := Lib.hid fun x => by have := k.any_le x; omega
  obtain ⟨any, hany⟩ : ∃ a, k.any = a := ⟨_, rfl⟩
  unfold Kn.lstep at HS
  simp only [hany] at HS HY HAL
  obtain ⟨U, hU⟩ : ∃ U, bsL L = U := ⟨_, rfl⟩
  have hUs : U.size = L.length := by rw [← hU]; rfl
  have hU1 : (1 : Int) ≤ U.size := by omega
  have hU2 : U.size ≤ 100000 := by omega
  have hsl : U.extract 0 1 = bsL (bst 0) := by rw [← hU, bsL_take, hb0]
  obtain ⟨U0, hU0⟩ : ∃ z, bsL (bst 0) = z := ⟨_, rfl⟩
  rw [hU0] at hsl
  have HUE : Hid (∀ j, U.extract 0 j = bsL (L.take j)) := Lib.hid fun j => by rw [← hU, bsL_take]
  have HUS := Lib.hid hUs
  rw [hU]
  obtain ⟨n, hn⟩ : ∃ x, k.ps.length = x := ⟨_, rfl⟩
  obtain ⟨o, ho⟩ : ∃ x, k.o = x := ⟨_, rfl⟩
  obtain ⟨l, hl'⟩ : ∃ x, k.l = x := ⟨_, rfl⟩
  obtain ⟨m, hm⟩ : ∃ x, k.m = x := ⟨_, rfl⟩
  obtain ⟨b, hb⟩ : ∃ x, k.base = x := ⟨_, rfl⟩
  obtain ⟨q, hq⟩ : ∃ x, k.lastI = x := ⟨_, rfl⟩
  try unfold Kn.val at HE
  try rw [hn] at HE
  try rw [ho] at HE
  try rw [hl'] at HE
  try rw [hm] at HE
  try rw [hb] at HE
  try rw [hq] at HE
  try unfold Kn.val at HG
  try rw [hn] at HG
  try rw [ho] at HG
  try rw [hl'] at HG
  try rw [hm] at HG
  try rw [hb] at HG
  try rw [hq] at HG
  try unfold Kn.val at HY
  try rw [hn] at HY
  try rw [ho] at HY
  try rw [hl'] at HY
  try rw [hm] at HY
  try rw [hb] at HY
  try rw [hq] at HY
  simp only [Kn.val, hn, ho, hl', hm, hb, hq]
  have HE := Lib.hid HE
  have HG := Lib.hid HG
  have HY := Lib.hid HY
  clear hps hpw hfe hgb hll hfv hff hg hf1' h hn ho hl' hm hb hq hA hU hL hstep hble hb0 hball hbst hR hany hnb hUs hL2
  go_enter Tryz.func169, Tryz.ntmps169
  go_wp2_with fail
  obtain ⟨q0, q1, q2, q3, q4, q5, _⟩ := box6 (Below.refl _ (w.alloc (.cells #[.int .i64 (o : Int), .int .i64 (l : Int), .int .i64 (m : Int), .slice A n c, .int .i64 (b : Int), .int .i64 q] 48)))
  go_wp2_with fail
  refine (HE.out _).mono ?_
  rintro e w2 ⟨rfl, hb2⟩
  clear q0 q1 q2 q3 q4 q5
  obtain ⟨q0, q1, q2, q3, q4, q5, hB3⟩ := box6_call hb2 (Below.refl _ _)
  clear hb2
  go_wp2_with fail
  go_loopw [5, 6] (fun u v wr => ∃ y : Nat, u = .string (bsL (bst (y - f1))) ∧ v = .int .i64 (y : Int) ∧ f1 ≤ y ∧ y ≤ g + 1 ∧ Below (w.heap.size + 1) (w.alloc (.cells #[.int .i64 (o : Int), .int .i64 (l : Int), .int .i64 (m : Int), .slice A n c, .int .i64 (b : Int), .int .i64 q] 48)) wr) (fun _ v _ => g + 1 - (intOf v).toNat)
  case atStart => exact ⟨f1, by rw [Nat.sub_self, hU0], rfl, Nat.le_refl _, by omega, hB3⟩
  case round =>
    clear q0 q1 q2 q3 q4 q5 hB3
    obtain ⟨y, rfl, rfl, hy1, hy2, hBr⟩ := hrel
    obtain ⟨q0, q1, q2, q3, q4, q5, _⟩ := box6 hBr
    obtain ⟨jj, hjj⟩ : ∃ z, y - f1 = z := ⟨_, rfl⟩
    rw [hjj]
    by_cases hyg : (y : Int) ≤ g
    · have hble := HBL.out jj
      have hs := HS.out jj
      have hale := HAL.out y
      obtain ⟨lb, hlb⟩ : ∃ z, bst jj = z := ⟨_, rfl⟩
      rw [hlb] at hble hs ⊢
      rw [show f1 + jj = y by omega] at hs
      obtain ⟨V, hV⟩ : ∃ z, bsL lb = z := ⟨_, rfl⟩
      have hVs : V.size = lb.length := by rw [← hV]; rfl
      have hVb : V.size ≤ 1026 := by omega
      rw [hV]
      go_wp2_with fail
      refine (HG.out _).mono ?_
      rintro e w3 ⟨rfl, hb3⟩
      clear q0 q1 q2 q3 q4 q5
      obtain ⟨q0, q1, q2, q3, q4, q5, hB4⟩ := box6_call hb3 hBr
      clear hb3 hBr
      go_wp2_with fail
      refine (HY.out y hy1 (by omega) _ (((Below.refl _ _).alloc (Nat.le_refl _) _).trans (hB4.mono (by omega)))).mono ?_
      rintro e w4 ⟨rfl, hb4⟩
      clear q0 q1 q2 q3 q4 q5
      obtain ⟨q0, q1, q2, q3, q4, q5, hB5⟩ := box6_call hb4 hB4
      clear hb4 hB4
      obtain ⟨a, ha⟩ : ∃ z, any y = z := ⟨_, rfl⟩
      rw [ha] at hs hale ⊢
      obtain ⟨T, hT⟩ : ∃ z, bsL a = z := ⟨_, rfl⟩
      have hTs : T.size = a.length := by rw [← hT]; rfl
      have hTb : T.size ≤ 1026 := by omega
      have hnext : y + 1 - f1 = jj + 1 := by omega
      have hus := HUS.out
      rw [hT]
      by_cases c1 : (V.size : Int) < T.size
      · by_cases c2 : (T.size : Int) ≤ U.size
        · have hue := HUE.out T.size
          have hrel : (bsL (bst (jj + 1)) = if L.take a.length = a then T else V) := by
            rw [hs]
            by_cases hp : L.take a.length = a
            · rw [if_pos hp, if_pos ⟨by omega, isPrefixOf_take.2 ⟨by omega, hp⟩⟩, hT]
            · rw [if_neg hp, if_neg (fun hh => hp (isPrefixOf_take.1 hh.2).2), hV]
          have hcmp : ((bsL (L.take T.size)).toList == T.toList) = decide (L.take a.length = a) := by rw [← hT, bsL_eq, bsL_size]
          obtain ⟨E, hE⟩ : ∃ z, bsL (L.take T.size) = z := ⟨_, rfl⟩
          rw [hE] at hue hcmp
          clear hE hs hus hTs hVs hT hV ha hlb hale hble
          by_cases hp : L.take a.length = a
          · rw [decide_eq_true hp] at hcmp
            rw [if_pos hp] at hrel
            have HRL := Lib.hid hrel
            clear hrel hp
            go_wp2_with fail
            go_roundw
            case rel => exact ⟨y + 1, by rw [hnext, HRL.out], by go_num, by omega, by omega, hB5⟩
            case measure => simp [intOf]; omega
          · rw [decide_eq_false hp] at hcmp
            rw [if_neg hp] at hrel
            have HRL := Lib.hid hrel
            clear hrel hp
            go_wp2_with fail
            go_roundw
            case rel => exact ⟨y + 1, by rw [hnext, HRL.out], by go_num, by omega, by omega, hB5⟩
            case measure => simp [intOf]; omega
        · have hrel : bsL (bst (jj + 1)) = V := by rw [hs, if_neg (fun hh => c2 (by have := (isPrefixOf_take.1 hh.2).1; omega)), hV]
          have HRL := Lib.hid hrel
          clear hrel hs hus hTs hVs hT hV ha hlb hale hble
          go_wp2_with fail
          go_roundw
          case rel => exact ⟨y + 1, by rw [hnext, HRL.out], by go_num, by omega, by omega, hB5⟩
          case measure => simp [intOf]; omega
      · have hrel : bsL (bst (jj + 1)) = V := by rw [hs, if_neg (fun hh => c1 (by have := hh.1; omega)), hV]
        have HRL := Lib.hid hrel
        clear hrel hs hus hTs hVs hT hV ha hlb hale hble
        go_wp2_with fail
        go_roundw
        case rel => exact ⟨y + 1, by rw [hnext, HRL.out], by go_num, by omega, by omega, hB5⟩
        case measure => simp [intOf]; omega
    · have hja : bst jj = R := by rw [show jj = g - f by omega, HBA.out]
      rw [hja]
      go_wp2_with fail
      refine (HG.out _).mono ?_
      rintro e w3 ⟨rfl, hb3⟩
      have hB4 := (box6_call hb3 hBr).2.2.2.2.2.2
      have hbw := ((Below.refl w.heap.size w).alloc (Nat.le_refl _) _).trans (hB4.mono (by omega))
      clear hb3 hBr q0 q1 q2 q3 q4 q5 hB4
      go_wp2_with fail
      go_ret
      exact ⟨rfl, hbw⟩

end Go.Proofs.YthlgpgaeajfchaaGreatDoor
