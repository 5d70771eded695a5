/-
  The reference's l2Step; what is known lies apart from other memory; a box that holds what is known.
  What is known lies apart from other memory; a box that holds what is known; the reference's l2Greedy.
-/
import Derived.Test.YtopklampiaecdaaGreatWordsF
import Derived.Test.YtopklampiaecdaaGreatKn

namespace Go.Proofs.YtopklampiaecdaaGreat
open Go.RowKit
set_option linter.unusedVariables false

theorem Kn.Own.at {k : Kn} {w : World} {base : Nat} {A : Option Addr} {c : Nat} (h : k.Own w base A c) : k.At w w.heap.size A := Row.of_own h

theorem Kn.Own.cap {k : Kn} {w : World} {base : Nat} {A : Option Addr} {c : Nat} (h : k.Own w base A c) : k.ps.length ≤ c := by
  obtain ⟨A', c', e, h1, _⟩ := own_form h
  injection e with e1 e2 e3
  omega

theorem Kn.Own.below {k : Kn} {w w' : World} {base C : Nat} {A : Option Addr} {c : Nat} (h : k.Own w base A c) (hb : Below C w w') (hC : w.heap.size ≤ C) : k.Own w' base A c := own_below h hb hC

set_option maxHeartbeats 4000000 in
theorem specL2Step (k : Kn) (A : Option Addr) (c B x : Nat) (w : World) (h : k.Valid) (hA : k.At w B A) (hB : B ≤ w.heap.size) (hc : k.ps.length ≤ c) (hx : k.goes x) :
    Calls Tryz.prog 129 #[k.val A c, .int .i64 (x : Int)] w fun e w' => ∃ A' c', e = .returned ((k.step x).val A' c') ∧ (k.step x).Own w' w.heap.size A' c' ∧ Below w.heap.size w w' := by
  have hpw := h.pow
  have hl8 := h.lit8
  have HC := fun W => specL1Clear k.o k.l k.m W (by omega)
  unfold setV at HC
  have hcl : 2 ^ k.l = k.clear := rfl
  rw [hcl] at HC
  have HD := fun (W : World) (hb : Below w.heap.size w W) => specL2Cleared k A c B W h (hA.below hb hB) (Nat.le_trans hB hb.size) hc
  have HF := fun (hxc : k.can x) (W : World) (hb : Below w.heap.size w W) => specL2After k A c B x W h (hA.below hb hB) (Nat.le_trans hB hb.size) hxc
  have hlk := k.like_step x
  by_cases hxx : x = k.clear
  · have hst : k.step x = k.cleared := by rw [hxx]; exact k.step_clear
    rw [hst] at hlk ⊢
    obtain ⟨D, hD⟩ : ∃ D, k.cleared = D := ⟨_, rfl⟩
    rw [hD] at HD hlk ⊢
    have hv : ∀ A' c', D.val A' c' = .agg #[.int .i64 (k.o : Int), .int .i64 (k.l : Int), .int .i64 (k.m : Int), .slice A' D.ps.length c', .int .i64 (k.base : Int), .int .i64 D.lastI] := fun A' c' => by unfold Kn.val; rw [hlk.o, hlk.l, hlk.m, hlk.base]
    obtain ⟨V, hV⟩ : ∃ V : Option Addr → Nat → Value, D.val = V := ⟨_, rfl⟩
    rw [hV] at HD hv ⊢
    rw [hxx]
    obtain ⟨z, hz⟩ : ∃ z, k.clear = z := ⟨_, rfl⟩
    rw [hz] at HC ⊢
    obtain ⟨dn, hdn⟩ : ∃ dn, D.ps.length = dn := ⟨_, rfl⟩
    obtain ⟨dq, hdq⟩ : ∃ dq, D.lastI = dq := ⟨_, rfl⟩
    simp only [hdn, hdq] at hv
    obtain ⟨n, hn⟩ : ∃ x, k.ps.length = x := ⟨_, rfl⟩
    obtain ⟨o, ho⟩ : ∃ x, k.o = x := ⟨_, rfl⟩
    obtain ⟨l, hl'⟩ : ∃ x, k.l = x := ⟨_, rfl⟩
    obtain ⟨m, hm⟩ : ∃ x, k.m = x := ⟨_, rfl⟩
    obtain ⟨b, hb⟩ : ∃ x, k.base = x := ⟨_, rfl⟩
    obtain ⟨q, hq⟩ : ∃ x, k.lastI = x := ⟨_, rfl⟩
    try unfold Kn.val at HC
    try rw [hn] at HC
    try rw [ho] at HC
    try rw [hl'] at HC
    try rw [hm] at HC
    try rw [hb] at HC
    try rw [hq] at HC
    try unfold Kn.val at HD
    try rw [hn] at HD
    try rw [ho] at HD
    try rw [hl'] at HD
    try rw [hm] at HD
    try rw [hb] at HD
    try rw [hq] at HD
    try unfold Kn.val at hv
    try rw [hn] at hv
    try rw [ho] at hv
    try rw [hl'] at hv
    try rw [hm] at hv
    try rw [hb] at hv
    try rw [hq] at hv
    simp only [Kn.val, hn, ho, hl', hm, hb, hq]
    replace HC := Lib.hid HC
    replace HD := Lib.hid HD
    replace hv := Lib.hid hv
    clear hpw hl8 hcl HF hxx hst hz hD hV hdn hdq hlk h hA hn ho hl' hm hb hq hc
    go_enter Tryz.func129, Tryz.ntmps129
    go_wp2_with fail
    refine (HC.out _).mono ?_
    rintro e w1 ⟨rfl, hb1⟩
    have hb2 : Below (w.heap.size + 2) ((w.alloc (.cells #[.int .i64 (o : Int), .int .i64 (l : Int), .int .i64 (m : Int), .slice A n c, .int .i64 (b : Int), .int .i64 q] 64)).alloc (.cells #[.int .i64 0, .int .i64 0, .int .i64 0, .slice none 0 0, .int .i64 0, .int .i64 0] 64)) w1 := hb1.mono (by simp)
    obtain ⟨q0, q1, q2, q3, q4, q5, hB1⟩ := box6 (((Below.refl _ _).alloc (by simp) _).trans (hb2.mono (by omega)))
    have hB0 := ((Below.refl w.heap.size w).alloc (Nat.le_refl _) _).trans (hB1.mono (by omega))
    clear hb1
    go_wp2_with fail
    refine (HD.out _ hB0).mono ?_
    rintro e w2 ⟨A2, c2, rfl, hown, hb3⟩
    have hs1 := hb2.size
    simp only [World.size_alloc] at hs1
    have hb4 := hb2.trans (hb3.mono (by omega))
    obtain ⟨⟨r0, r1, r2, r3, r4, r5⟩, z0, z1, z2, z3, z4, z5⟩ := two6 (w := w) (by simp) hb4
    have hr := ret6 hb4 (own_base hown (by omega)) (.int .i64 (o : Int)) (.int .i64 (l : Int)) (.int .i64 (m : Int)) (.slice A2 dn c2) (.int .i64 (b : Int)) (.int .i64 dq)
    have hv2 := hv.out A2 c2
    rw [hv2]
    have hr0 : Below w.heap.size w (set6 w2 (w.heap.size + 1) (.int .i64 (o : Int)) (.int .i64 (l : Int)) (.int .i64 (m : Int)) (.slice A2 dn c2) (.int .i64 (b : Int)) (.int .i64 dq)) := hr.2
    have hr1 : D.Own (set6 w2 (w.heap.size + 1) (.int .i64 (o : Int)) (.int .i64 (l : Int)) (.int .i64 (m : Int)) (.slice A2 dn c2) (.int .i64 (b : Int)) (.int .i64 dq)) (w.heap.size + 2) A2 c2 := hr.1
    have HR := Lib.hid (And.intro hr0 hr1)
    have HV2 := Lib.hid hv2
    clear hr hr0 hr1 hb4 hb3 hown hB0 hB1 hb2 q0 q1 q2 q3 q4 q5 hv2
    go_wp2_with fail
    refine bodyPost_ret (v := .agg #[.int .i64 (o : Int), .int .i64 (l : Int), .int .i64 (m : Int), .slice A2 dn c2, .int .i64 (b : Int), .int .i64 dq]) (by simp [results, Tryz.results129, go_sem, r0, r1, r2, r3, r4, r5]) rfl ?_
    exact ⟨A2, c2, congrArg Ending.returned HV2.out.symm, own_base HR.out.2 (by omega), HR.out.1⟩
  · have hxc : k.can x := by
      rcases hx with h1 | h1
      · exact absurd h1 hxx
      · exact h1
    have hst : k.step x = k.after x := Kn.step_can h hxc
    replace HF := HF hxc
    rw [hst] at hlk ⊢
    obtain ⟨D, hD⟩ : ∃ D, k.after x = D := ⟨_, rfl⟩
    rw [hD] at HF hlk ⊢
    have hv : ∀ A' c', D.val A' c' = .agg #[.int .i64 (k.o : Int), .int .i64 (k.l : Int), .int .i64 (k.m : Int), .slice A' D.ps.length c', .int .i64 (k.base : Int), .int .i64 D.lastI] := fun A' c' => by unfold Kn.val; rw [hlk.o, hlk.l, hlk.m, hlk.base]
    obtain ⟨V, hV⟩ : ∃ V : Option Addr → Nat → Value, D.val = V := ⟨_, rfl⟩
    rw [hV] at HF hv ⊢
    obtain ⟨z, hz⟩ : ∃ z, k.clear = z := ⟨_, rfl⟩
    rw [hz] at HC hxx
    have hxz : (x : Int) ≠ (z : Int) := by omega
    obtain ⟨dn, hdn⟩ : ∃ dn, D.ps.length = dn := ⟨_, rfl⟩
    obtain ⟨dq, hdq⟩ : ∃ dq, D.lastI = dq := ⟨_, rfl⟩
    simp only [hdn, hdq] at hv
    obtain ⟨n, hn⟩ : ∃ x, k.ps.length = x := ⟨_, rfl⟩
    obtain ⟨o, ho⟩ : ∃ x, k.o = x := ⟨_, rfl⟩
    obtain ⟨l, hl'⟩ : ∃ x, k.l = x := ⟨_, rfl⟩
    obtain ⟨m, hm⟩ : ∃ x, k.m = x := ⟨_, rfl⟩
    obtain ⟨b, hb⟩ : ∃ x, k.base = x := ⟨_, rfl⟩
    obtain ⟨q, hq⟩ : ∃ x, k.lastI = x := ⟨_, rfl⟩
    try unfold Kn.val at HC
    try rw [hn] at HC
    try rw [ho] at HC
    try rw [hl'] at HC
    try rw [hm] at HC
    try rw [hb] at HC
    try rw [hq] at HC
    try unfold Kn.val at HF
    try rw [hn] at HF
    try rw [ho] at HF
    try rw [hl'] at HF
    try rw [hm] at HF
    try rw [hb] at HF
    try rw [hq] at HF
    try unfold Kn.val at hv
    try rw [hn] at hv
    try rw [ho] at hv
    try rw [hl'] at hv
    try rw [hm] at hv
    try rw [hb] at hv
    try rw [hq] at hv
    simp only [Kn.val, hn, ho, hl', hm, hb, hq]
    replace HC := Lib.hid HC
    replace HF := Lib.hid HF
    replace hv := Lib.hid hv
    clear hpw hl8 hcl HD hxx hxc hst hz hD hV hdn hdq hlk h hA hn ho hl' hm hb hq hc
    go_enter Tryz.func129, Tryz.ntmps129
    go_wp2_with fail
    refine (HC.out _).mono ?_
    rintro e w1 ⟨rfl, hb1⟩
    have hb2 : Below (w.heap.size + 2) ((w.alloc (.cells #[.int .i64 (o : Int), .int .i64 (l : Int), .int .i64 (m : Int), .slice A n c, .int .i64 (b : Int), .int .i64 q] 64)).alloc (.cells #[.int .i64 0, .int .i64 0, .int .i64 0, .slice none 0 0, .int .i64 0, .int .i64 0] 64)) w1 := hb1.mono (by simp)
    obtain ⟨q0, q1, q2, q3, q4, q5, hB1⟩ := box6 (((Below.refl _ _).alloc (by simp) _).trans (hb2.mono (by omega)))
    have hB0 := ((Below.refl w.heap.size w).alloc (Nat.le_refl _) _).trans (hB1.mono (by omega))
    clear hb1
    go_wp2_with fail
    refine (HF.out _ hB0).mono ?_
    rintro e w2 ⟨A2, c2, rfl, hown, hb3⟩
    have hs1 := hb2.size
    simp only [World.size_alloc] at hs1
    have hb4 := hb2.trans (hb3.mono (by omega))
    obtain ⟨⟨r0, r1, r2, r3, r4, r5⟩, z0, z1, z2, z3, z4, z5⟩ := two6 (w := w) (by simp) hb4
    have hr := ret6 hb4 (own_base hown (by omega)) (.int .i64 (o : Int)) (.int .i64 (l : Int)) (.int .i64 (m : Int)) (.slice A2 dn c2) (.int .i64 (b : Int)) (.int .i64 dq)
    have hv2 := hv.out A2 c2
    rw [hv2]
    have hr0 : Below w.heap.size w (set6 w2 (w.heap.size + 1) (.int .i64 (o : Int)) (.int .i64 (l : Int)) (.int .i64 (m : Int)) (.slice A2 dn c2) (.int .i64 (b : Int)) (.int .i64 dq)) := hr.2
    have hr1 : D.Own (set6 w2 (w.heap.size + 1) (.int .i64 (o : Int)) (.int .i64 (l : Int)) (.int .i64 (m : Int)) (.slice A2 dn c2) (.int .i64 (b : Int)) (.int .i64 dq)) (w.heap.size + 2) A2 c2 := hr.1
    have HR := Lib.hid (And.intro hr0 hr1)
    have HV2 := Lib.hid hv2
    clear hr hr0 hr1 hb4 hb3 hown hB0 hB1 hb2 q0 q1 q2 q3 q4 q5 hv2
    go_wp2_with fail
    refine bodyPost_ret (v := .agg #[.int .i64 (o : Int), .int .i64 (l : Int), .int .i64 (m : Int), .slice A2 dn c2, .int .i64 (b : Int), .int .i64 dq]) (by simp [results, Tryz.results129, go_sem, r0, r1, r2, r3, r4, r5]) rfl ?_
    exact ⟨A2, c2, congrArg Ending.returned HV2.out.symm, own_base HR.out.2 (by omega), HR.out.1⟩

end Go.Proofs.YtopklampiaecdaaGreat

namespace Go.Proofs.YtopklampiaecdaaGreat
open Go.RowKit
set_option linter.unusedVariables false

/-- What is known lies in memory, neither in block H nor in the row of the value v. -/
structure Kn.Lies (k : Kn) (w : World) (A : Option Addr) (H : Nat) (v : Value) : Prop where
  row : k.At w w.heap.size A
  ne : 0 < k.ps.length → ∀ b off, A = some ⟨b, off, none⟩ → b ≠ H ∧ v.ownBlock ≠ some b

theorem Kn.Lies.below {k : Kn} {w w' : World} {A : Option Addr} {H : Nat} {v : Value} (h : k.Lies w A H v) (hb : Below w.heap.size w w') : k.Lies w' A H v :=
  ⟨(Row.below h.row hb (Nat.le_refl _)).more hb.size, h.ne⟩

theorem Kn.Lies.setH {k : Kn} {w : World} {A : Option Addr} {H : Nat} {v : Value} (h : k.Lies w A H v) {p : Addr} (hp : p.block = H) (u : Value) : k.Lies (w.setCell p u) A H v := by
  refine ⟨⟨h.row.1, fun hn => ?_⟩, h.ne⟩
  obtain ⟨b, off, e, hb, hc⟩ := h.row.2 hn
  refine ⟨b, off, e, by simpa [World.setCell] using hb, fun j x hx => ?_⟩
  have := (h.ne hn b off e).1
  exact (World.cell?_setCell_other _ _ _ _ (fun e2 => by subst e2; exact this hp)).trans (hc j x hx)

theorem Kn.Lies.alloc {k : Kn} {w : World} {A : Option Addr} {H : Nat} {v : Value} (h : k.Lies w A H v) (o : Obj) : k.Lies (w.alloc o) A H v :=
  h.below ((Below.refl _ _).alloc (Nat.le_refl _) o)

/-- Behind an append onto the row of the value v. -/
theorem Kn.Lies.grown {k : Kn} {w w' : World} {A : Option Addr} {H : Nat} {v v' : Value} (h : k.Lies w A H v) (hg : w.grownBy w' v.ownBlock) (hat : v'.ownBlock = v.ownBlock ∨ v'.ownBlock = some w.heap.size) : k.Lies w' A H v' := by
  refine ⟨⟨h.row.1, fun hn => ?_⟩, fun hn b off e => ?_⟩
  · obtain ⟨b, off, e, hb, hc⟩ := h.row.2 hn
    refine ⟨b, off, e, Nat.lt_of_lt_of_le hb hg.size, fun j x hx => hg.cell (hc j x hx) (fun e2 => (h.ne hn b off e).2 e2.symm)⟩
  · obtain ⟨b', off', e', hb', _⟩ := h.row.2 hn
    rw [e] at e'
    injection e' with e'
    injection e' with e1 e2
    subst e1
    refine ⟨(h.ne hn b off e).1, fun e3 => ?_⟩
    rcases hat with e4 | e4
    · exact (h.ne hn b off e).2 (e4.symm.trans e3)
    · rw [e3] at e4; injection e4 with e4; omega

/-- Behind an append onto the row of another value. -/
theorem Kn.Lies.grownO {k : Kn} {w w' : World} {A : Option Addr} {H : Nat} {v v2 : Value} (h : k.Lies w A H v) (hg : w.grownBy w' v.ownBlock) (h2 : k.Lies w A H v2) : k.Lies w' A H v2 := by
  refine ⟨⟨h.row.1, fun hn => ?_⟩, h2.ne⟩
  obtain ⟨b, off, e, hb, hc⟩ := h.row.2 hn
  exact ⟨b, off, e, Nat.lt_of_lt_of_le hb hg.size, fun j x hx => hg.cell (hc j x hx) (fun e2 => (h.ne hn b off e).2 e2.symm)⟩

theorem Kn.Lies.of_own {k : Kn} {w : World} {base : Nat} {A : Option Addr} {c H : Nat} {v : Value} (h : k.Own w base A c) (hH : H < base) (hv : ∀ g, v.ownBlock = some g → g < base) : k.Lies w A H v := by
  refine ⟨h.at, fun hn b off e => ?_⟩
  subst e
  obtain ⟨A', c', e, _, _⟩ := own_form h
  have hl : base ≤ b := by
    rcases h.2 with ⟨h0, h1⟩ | ⟨g, cap, cur, hv, hb, hg, _⟩
    · omega
    · injection hv with e1 e2 e3
      injection e1 with e1
      injection e1 with e1
      omega
  exact ⟨by omega, fun e3 => by have := hv _ e3; omega⟩

theorem Kn.Lies.of_at {k : Kn} {w : World} {A : Option Addr} {B H : Nat} {v : Value} (h : k.At w B A) (hB : B ≤ w.heap.size) (hH : B ≤ H) (hv : ∀ g, v.ownBlock = some g → B ≤ g) : k.Lies w A H v := by
  refine ⟨Row.more h hB, fun hn b off e => ?_⟩
  obtain ⟨b', off', e', hb', _⟩ := h.2 hn
  rw [e] at e'
  injection e' with e'
  injection e' with e1 e2
  subst e1
  exact ⟨by omega, fun e3 => by have := hv _ e3; omega⟩

theorem Kn.Lies.other {k : Kn} {w : World} {A : Option Addr} {H : Nat} {v v2 : Value} (h : k.Lies w A H v) (hv : ∀ g, v2.ownBlock = some g → w.heap.size ≤ g) : k.Lies w A H v2 := by
  refine ⟨h.row, fun hn b off e => ⟨(h.ne hn b off e).1, fun e3 => ?_⟩⟩
  obtain ⟨b', off', e', hb', _⟩ := h.row.2 hn
  rw [e] at e'
  injection e' with e'
  injection e' with e1 e2
  subst e1
  have := hv _ e3
  omega

/-- A box of six cells that can be written. -/
structure KB (w : World) (H : Nat) (a b c d e f : Value) : Prop where
  c : w.cell? ⟨H, 0, none⟩ = some a ∧ w.cell? ⟨H, 1, none⟩ = some b ∧ w.cell? ⟨H, 2, none⟩ = some c ∧ w.cell? ⟨H, 3, none⟩ = some d ∧ w.cell? ⟨H, 4, none⟩ = some e ∧ w.cell? ⟨H, 5, none⟩ = some f
  f : w.frozen? ⟨H, 0, none⟩ = false ∧ w.frozen? ⟨H, 1, none⟩ = false ∧ w.frozen? ⟨H, 2, none⟩ = false ∧ w.frozen? ⟨H, 3, none⟩ = false ∧ w.frozen? ⟨H, 4, none⟩ = false ∧ w.frozen? ⟨H, 5, none⟩ = false

section
variable {w w' : World} {H : Nat} {a b c d e f : Value}

theorem KB.start (w : World) (T : TypeId) (a b c d e f : Value) : KB (w.alloc (.cells #[a, b, c, d, e, f] T)) w.heap.size a b c d e f :=
  let g := two6 (w := w) (w0 := w) (T := T) rfl (Below.refl _ _)
  ⟨g.1, g.2⟩

theorem KB.lt (h : KB w H a b c d e f) : H < w.heap.size := cell_lt h.c.1

theorem KB.below (h : KB w H a b c d e f) (hb : Below w.heap.size w w') : KB w' H a b c d e f := by
  have hlt := h.lt
  obtain ⟨⟨c0, c1, c2, c3, c4, c5⟩, f0, f1, f2, f3, f4, f5⟩ := h
  have hc : ∀ j, w'.cell? ⟨H, j, none⟩ = w.cell? ⟨H, j, none⟩ := fun j => hb.cell (p := ⟨H, j, none⟩) hlt
  have hf : ∀ j, w'.frozen? ⟨H, j, none⟩ = w.frozen? ⟨H, j, none⟩ := fun j => hb.frozen (p := ⟨H, j, none⟩) hlt
  exact ⟨⟨(hc 0).trans c0, (hc 1).trans c1, (hc 2).trans c2, (hc 3).trans c3, (hc 4).trans c4, (hc 5).trans c5⟩, (hf 0).trans f0, (hf 1).trans f1, (hf 2).trans f2, (hf 3).trans f3, (hf 4).trans f4, (hf 5).trans f5⟩

theorem KB.alloc (h : KB w H a b c d e f) (o : Obj) : KB (w.alloc o) H a b c d e f := h.below ((Below.refl _ _).alloc (Nat.le_refl _) o)

theorem KB.grown {row : Option Nat} (h : KB w H a b c d e f) (hg : w.grownBy w' row) (hne : row ≠ some H) : KB w' H a b c d e f := by
  have g := grown6 hg h.c h.f hne
  exact ⟨g.1, g.2⟩

theorem KB.set (h : KB w H a b c d e f) (a' b' c' d' e' f' : Value) : KB (set6 w H a' b' c' d' e' f') H a' b' c' d' e' f' := by
  obtain ⟨⟨c0, c1, c2, c3, c4, c5⟩, f0, f1, f2, f3, f4, f5⟩ := h
  unfold set6
  refine ⟨⟨?_, ?_, ?_, ?_, ?_, ?_⟩, ?_, ?_, ?_, ?_, ?_, ?_⟩
  · simp [go_sem, c0]
  · simp [go_sem, c1]
  · simp [go_sem, c2]
  · simp [go_sem, c3]
  · simp [go_sem, c4]
  · simp [go_sem, c5]
  · simp [World.frozen?_setCell, f0]
  · simp [World.frozen?_setCell, f1]
  · simp [World.frozen?_setCell, f2]
  · simp [World.frozen?_setCell, f3]
  · simp [World.frozen?_setCell, f4]
  · simp [World.frozen?_setCell, f5]

theorem own_set6 {base : Nat} {t : TypeId} {size n : Nat} {v : Value} {xs : List Value} (h : w.ownsRow base t size v n xs) (hH : H < base) (a b c d e f : Value) : (set6 w H a b c d e f).ownsRow base t size v n xs := by
  unfold set6
  exact ownsRow_setCell_below (ownsRow_setCell_below (ownsRow_setCell_below (ownsRow_setCell_below (ownsRow_setCell_below (ownsRow_setCell_below h hH _) hH _) hH _) hH _) hH _) hH _

theorem lies_set6 {k : Kn} {A : Option Addr} {v : Value} (h : k.Lies w A H v) (a b c d e f : Value) : k.Lies (set6 w H a b c d e f) A H v := by
  unfold set6
  exact (((((h.setH rfl _).setH rfl _).setH rfl _).setH rfl _).setH rfl _).setH rfl _

theorem below_set6 {B : Nat} {w0 : World} (h : Below B w0 w) (hH : B ≤ H) (a b c d e f : Value) : Below B w0 (set6 w H a b c d e f) := by
  unfold set6
  exact (((((h.setCell hH _).setCell hH _).setCell hH _).setCell hH _).setCell hH _).setCell hH _

theorem size_set6 (a b c d e f : Value) : (set6 w H a b c d e f).heap.size = w.heap.size := by
  unfold set6
  simp [World.setCell]

end

/-- Codes as numbers. -/
def natV (x : Nat) : Value := .int .i64 (x : Int)

/-- The size of a string value. -/
def szOf : Value → Nat
  | .string s => s.size
  | _ => 0

end Go.Proofs.YtopklampiaecdaaGreat
