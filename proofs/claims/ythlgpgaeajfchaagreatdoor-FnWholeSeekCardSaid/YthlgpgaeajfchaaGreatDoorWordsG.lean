/-
  The reference's l2Step; what is known lies apart from other memory; a box that holds what is known.
  What is known lies apart from other memory; a box that holds what is known; the reference's l2Greedy.
  The reference's l2Greedy.
-/
import Derived.Test.YthlgpgaeajfchaaGreatDoorWordsF
import Derived.Test.YthlgpgaeajfchaaGreatDoorKn

namespace Go.Proofs.YthlgpgaeajfchaaGreatDoor
open Go.RowKit
set_option linter.unusedVariables false

theorem Kn.Own.at {k : Kn} {w : World} {base : Nat} {A : Option Addr} {c : Nat} (h : k.Own w base A c) : k.At w w.heap.size A := Row.of_own h

theorem Kn.Own.cap {k : Kn} {w : World} {base : Nat} {A : Option Addr} {c : Nat} (h : k.Own w base A c) : k.ps.length ≤ c := by
  obtain ⟨A', c', e, h1, _⟩ := own_form h
  injection e with e1 e2 e3
  omega

theorem Kn.Own.below {k : Kn} {w w' : World} {base C : Nat} {A : Option Addr} {c : Nat} (h : k.Own w base A c) (hb : Below C w w') (hC : w.heap.size ≤ C) : k.Own w' base A c := own_below h hb hC

set_option maxHeartbeats 4000000 in
theorem specL2Step (k : Kn) (A : Option Addr) (c B x : Nat) (w : World) (h : k.Valid) (hA : k.At w B A) (hB : B ≤ w.heap.size) (hc : k.ps.length ≤ c) (hx : k.goes x) :
    Calls Tryz.prog 184 #[k.val A c, .int .i64 (x : Int)] w fun e w' => ∃ A' c', e = .returned ((k.step x).val A' c') ∧ (k.step x).Own w' w.heap.size A' c' ∧ Below w.heap.size w w' := by
  have hpw := h.pow
  have hl8 := h.lit8
  have HC := fun W => specL1Clear k.o k.l k.m W (by omega)
  unfold setV at HC
  have hcl : 2 ^ k.l = k.clear := rfl
  rw [hcl] at HC
  have HD := fun (W : World) (hb : Below w.heap.size w W) => specL2Cleared k A c B W h (hA.below hb hB) (Nat.le_trans hB hb.size) hc
  have HF := fun (hxc : k.can x) (W : World) (hb : Below w.heap.size w W) => specL2After k A c B x W h (hA.below hb hB) (Nat.le_trans hB hb.size) hxc
  have hlk := k.like_step x
  by_cases hxx : x = k.clear
  · have hst : k.step x = k.cleared := by rw [hxx]; exact k.step_clear
    rw [hst] at hlk ⊢
    obtain ⟨D, hD⟩ : ∃ D, k.cleared = D := ⟨_, rfl⟩
    rw [hD] at HD hlk ⊢
    have hv : ∀ A' c', D.val A' c' = .agg #[.int .i64 (k.o : Int), .int .i64 (k.l : Int), .int .i64 (k.m : Int), .slice A' D.ps.length c', .int .i64 (k.base : Int), .int .i64 D.lastI] := fun A' c' => by unfold Kn.val; rw [hlk.o, hlk.l, hlk.m, hlk.base]
    obtain ⟨V, hV⟩ : ∃ V : Option Addr → Nat → Value, D.val = V := ⟨_, rfl⟩
    rw [hV] at HD hv ⊢
    rw [hxx]
    obtain ⟨z, hz⟩ : ∃ z, k.clear = z := ⟨_, rfl⟩
    rw [hz] at HC ⊢
    obtain ⟨dn, hdn⟩ : ∃ dn, D.ps.length = dn := ⟨_, rfl⟩
    obtain ⟨dq, hdq⟩ : ∃ dq, D.lastI = dq := ⟨_, rfl⟩
    simp only [hdn, hdq] at hv
    obtain ⟨n, hn⟩ : ∃ x, k.ps.length = x := ⟨_, rfl⟩
    obtain ⟨o, ho⟩ : ∃ x, k.o = x := ⟨_, rfl⟩
    obtain ⟨l, hl'⟩ : ∃ x, k.l = x := ⟨_, rfl⟩
    obtain ⟨m, hm⟩ : ∃ x, k.m = x := ⟨_, rfl⟩
    obtain ⟨b, hb⟩ : ∃ x, k.base = x := ⟨_, rfl⟩
    obtain ⟨q, hq⟩ : ∃ x, k.lastI = x := ⟨_, rfl⟩
    try unfold Kn.val at HC
    try rw [hn] at HC
    try rw [ho] at HC
    try rw [hl'] at HC
    try rw [hm] at HC
    try rw [hb] at HC
    try rw [hq] at HC
    try unfold Kn.val at HD
    try rw [hn] at HD
    try rw [ho] at HD
    try rw [hl'] at HD
    try rw [hm] at HD
    try rw [hb] at HD
    try rw [hq] at HD
    try unfold Kn.val at hv
    try rw [hn] at hv
    try rw [ho] at hv
    try rw [hl'] at hv
    try rw [hm] at hv
    try rw [hb] at hv
    try rw [hq] at hv
    simp only [Kn.val, hn, ho, hl', hm, hb, hq]
    replace HC := Lib.hid HC
    replace HD := Lib.hid HD
    replace hv := Lib.hid hv
    clear hpw hl8 hcl HF hxx hst hz hD hV hdn hdq hlk h hA hn ho hl' hm hb hq hc
    go_enter Tryz.func184, Tryz.ntmps184
    go_wp2_with fail
    refine (HC.out _).mono ?_
    rintro e w1 ⟨rfl, hb1⟩
    have hb2 : Below (w.heap.size + 2) ((w.alloc (.cells #[.int .i64 (o : Int), .int .i64 (l : Int), .int .i64 (m : Int), .slice A n c, .int .i64 (b : Int), .int .i64 q] 48)).alloc (.cells #[.int .i64 0, .int .i64 0, .int .i64 0, .slice none 0 0, .int .i64 0, .int .i64 0] 48)) w1 := hb1.mono (by simp)
    obtain ⟨q0, q1, q2, q3, q4, q5, hB1⟩ := box6 (((Below.refl _ _).alloc (by simp) _).trans (hb2.mono (by omega)))
    have hB0 := ((Below.refl w.heap.size w).alloc (Nat.le_refl _) _).trans (hB1.mono (by omega))
    clear hb1
    go_wp2_with fail
    refine (HD.out _ hB0).mono ?_
    rintro e w2 ⟨A2, c2, rfl, hown, hb3⟩
    have hs1 := hb2.size
    simp only [World.size_alloc] at hs1
    have hb4 := hb2.trans (hb3.mono (by omega))
    obtain ⟨⟨r0, r1, r2, r3, r4, r5⟩, z0, z1, z2, z3, z4, z5⟩ := two6 (w := w) (by simp) hb4
    have hr := ret6 hb4 (own_base hown (by omega)) (.int .i64 (o : Int)) (.int .i64 (l : Int)) (.int .i64 (m : Int)) (.slice A2 dn c2) (.int .i64 (b : Int)) (.int .i64 dq)
    have hv2 := hv.out A2 c2
    rw [hv2]
    have hr0 : Below w.heap.size w (set6 w2 (w.heap.size + 1) (.int .i64 (o : Int)) (.int .i64 (l : Int)) (.int .i64 (m : Int)) (.slice A2 dn c2) (.int .i64 (b : Int)) (.int .i64 dq)) := hr.2
    have hr1 : D.Own (set6 w2 (w.heap.size + 1) (.int .i64 (o : Int)) (.int .i64 (l : Int)) (.int .i64 (m : Int)) (.slice A2 dn c2) (.int .i64 (b : Int)) (.int .i64 dq)) (w.heap.size + 2) A2 c2 := hr.1
    have HR := Lib.hid (And.intro hr0 hr1)
    have HV2 := Lib.hid hv2
    clear hr hr0 hr1 hb4 hb3 hown hB0 hB1 hb2 q0 q1 q2 q3 q4 q5 hv2
    go_wp2_with fail
    refine bodyPost_ret (v := .agg #[.int .i64 (o : Int), .int .i64 (l : Int), .int .i64 (m : Int), .slice A2 dn c2, .int .i64 (b : Int), .int .i64 dq]) (by simp [results, Tryz.results184, go_sem, r0, r1, r2, r3, r4, r5]) rfl ?_
    exact ⟨A2, c2, congrArg Ending.returned HV2.out.symm, own_base HR.out.2 (by omega), HR.out.1⟩
  · have hxc : k.can x := by
      rcases hx with h1 | h1
      · exact absurd h1 hxx
      · exact h1
    have hst : k.step x = k.after x := Kn.step_can h hxc
    replace HF := HF hxc
    rw [hst] at hlk ⊢
    obtain ⟨D, hD⟩ : ∃ D, k.after x = D := ⟨_, rfl⟩
    rw [hD] at HF hlk ⊢
    have hv : ∀ A' c', D.val A' c' = .agg #[.int .i64 (k.o : Int), .int .i64 (k.l : Int), .int .i64 (k.m : Int), .slice A' D.ps.length c', .int .i64 (k.base : Int), .int .i64 D.lastI] := fun A' c' => by unfold Kn.val; rw [hlk.o, hlk.l, hlk.m, hlk.base]
    obtain ⟨V, hV⟩ : ∃ V : Option Addr → Nat → Value, D.val = V := ⟨_, rfl⟩
    rw [hV] at HF hv ⊢
    obtain ⟨z, hz⟩ : ∃ z, k.clear = z := ⟨_, rfl⟩
    rw [hz] at HC hxx
    have hxz : (x : Int) ≠ (z : Int) := by omega
    obtain ⟨dn, hdn⟩ : ∃ dn, D.ps.length = dn := ⟨_, rfl⟩
    obtain ⟨dq, hdq⟩ : ∃ dq, D.lastI = dq := ⟨_, rfl⟩
    simp only [hdn, hdq] at hv
    obtain ⟨n, hn⟩ : ∃ x, k.ps.length = x := ⟨_, rfl⟩
    obtain ⟨o, ho⟩ : ∃ x, k.o = x := ⟨_, rfl⟩
    obtain ⟨l, hl'⟩ : ∃ x, k.l = x := ⟨_, rfl⟩
    obtain ⟨m, hm⟩ : ∃ x, k.m = x := ⟨_, rfl⟩
    obtain ⟨b, hb⟩ : ∃ x, k.base = x := ⟨_, rfl⟩
    obtain ⟨q, hq⟩ : ∃ x, k.lastI = x := ⟨_, rfl⟩
    try unfold Kn.val at HC
    try rw [hn] at HC
    try rw [ho] at HC
    try rw [hl'] at HC
    try rw [hm] at HC
    try rw [hb] at HC
    try rw [hq] at HC
    try unfold Kn.val at HF
    try rw [hn] at HF
    try rw [ho] at HF
    try rw [hl'] at HF
    try rw [hm] at HF
    try rw [hb] at HF
    try rw [hq] at HF
    try unfold Kn.val at hv
    try rw [hn] at hv
    try rw [ho] at hv
    try rw [hl'] at hv
    try rw [hm] at hv
    try rw [hb] at hv
    try rw [hq] at hv
    simp only [Kn.val, hn, ho, hl', hm, hb, hq]
    replace HC := Lib.hid HC
    replace HF := Lib.hid HF
    replace hv := Lib.hid hv
    clear hpw hl8 hcl HD hxx hxc hst hz hD hV hdn hdq hlk h hA hn ho hl' hm hb hq hc
    go_enter Tryz.func184, Tryz.ntmps184
    go_wp2_with fail
    refine (HC.out _).mono ?_
    rintro e w1 ⟨rfl, hb1⟩
    have hb2 : Below (w.heap.size + 2) ((w.alloc (.cells #[.int .i64 (o : Int), .int .i64 (l : Int), .int .i64 (m : Int), .slice A n c, .int .i64 (b : Int), .int .i64 q] 48)).alloc (.cells #[.int .i64 0, .int .i64 0, .int .i64 0, .slice none 0 0, .int .i64 0, .int .i64 0] 48)) w1 := hb1.mono (by simp)
    obtain ⟨q0, q1, q2, q3, q4, q5, hB1⟩ := box6 (((Below.refl _ _).alloc (by simp) _).trans (hb2.mono (by omega)))
    have hB0 := ((Below.refl w.heap.size w).alloc (Nat.le_refl _) _).trans (hB1.mono (by omega))
    clear hb1
    go_wp2_with fail
    refine (HF.out _ hB0).mono ?_
    rintro e w2 ⟨A2, c2, rfl, hown, hb3⟩
    have hs1 := hb2.size
    simp only [World.size_alloc] at hs1
    have hb4 := hb2.trans (hb3.mono (by omega))
    obtain ⟨⟨r0, r1, r2, r3, r4, r5⟩, z0, z1, z2, z3, z4, z5⟩ := two6 (w := w) (by simp) hb4
    have hr := ret6 hb4 (own_base hown (by omega)) (.int .i64 (o : Int)) (.int .i64 (l : Int)) (.int .i64 (m : Int)) (.slice A2 dn c2) (.int .i64 (b : Int)) (.int .i64 dq)
    have hv2 := hv.out A2 c2
    rw [hv2]
    have hr0 : Below w.heap.size w (set6 w2 (w.heap.size + 1) (.int .i64 (o : Int)) (.int .i64 (l : Int)) (.int .i64 (m : Int)) (.slice A2 dn c2) (.int .i64 (b : Int)) (.int .i64 dq)) := hr.2
    have hr1 : D.Own (set6 w2 (w.heap.size + 1) (.int .i64 (o : Int)) (.int .i64 (l : Int)) (.int .i64 (m : Int)) (.slice A2 dn c2) (.int .i64 (b : Int)) (.int .i64 dq)) (w.heap.size + 2) A2 c2 := hr.1
    have HR := Lib.hid (And.intro hr0 hr1)
    have HV2 := Lib.hid hv2
    clear hr hr0 hr1 hb4 hb3 hown hB0 hB1 hb2 q0 q1 q2 q3 q4 q5 hv2
    go_wp2_with fail
    refine bodyPost_ret (v := .agg #[.int .i64 (o : Int), .int .i64 (l : Int), .int .i64 (m : Int), .slice A2 dn c2, .int .i64 (b : Int), .int .i64 dq]) (by simp [results, Tryz.results184, go_sem, r0, r1, r2, r3, r4, r5]) rfl ?_
    exact ⟨A2, c2, congrArg Ending.returned HV2.out.symm, own_base HR.out.2 (by omega), HR.out.1⟩

end Go.Proofs.YthlgpgaeajfchaaGreatDoor

namespace Go.Proofs.YthlgpgaeajfchaaGreatDoor
open Go.RowKit
set_option linter.unusedVariables false

/-- What is known lies in memory, neither in block H nor in the row of the value v. -/
structure Kn.Lies (k : Kn) (w : World) (A : Option Addr) (H : Nat) (v : Value) : Prop where
  row : k.At w w.heap.size A
  ne : 0 < k.ps.length → ∀ b off, A = some ⟨b, off, none⟩ → b ≠ H ∧ v.ownBlock ≠ some b

theorem Kn.Lies.below {k : Kn} {w w' : World} {A : Option Addr} {H : Nat} {v : Value} (h : k.Lies w A H v) (hb : Below w.heap.size w w') : k.Lies w' A H v :=
  ⟨(Row.below h.row hb (Nat.le_refl _)).more hb.size, h.ne⟩

theorem Kn.Lies.setH {k : Kn} {w : World} {A : Option Addr} {H : Nat} {v : Value} (h : k.Lies w A H v) {p : Addr} (hp : p.block = H) (u : Value) : k.Lies (w.setCell p u) A H v := by
  refine ⟨⟨h.row.1, fun hn => ?_⟩, h.ne⟩
  obtain ⟨b, off, e, hb, hc⟩ := h.row.2 hn
  refine ⟨b, off, e, by simpa [World.setCell] using hb, fun j x hx => ?_⟩
  have := (h.ne hn b off e).1
  exact (World.cell?_setCell_other _ _ _ _ (fun e2 => by subst e2; exact this hp)).trans (hc j x hx)

theorem Kn.Lies.alloc {k : Kn} {w : World} {A : Option Addr} {H : Nat} {v : Value} (h : k.Lies w A H v) (o : Obj) : k.Lies (w.alloc o) A H v :=
  h.below ((Below.refl _ _).alloc (Nat.le_refl _) o)

/-- Behind an append onto the row of the value v. -/
theorem Kn.Lies.grown {k : Kn} {w w' : World} {A : Option Addr} {H : Nat} {v v' : Value} (h : k.Lies w A H v) (hg : w.grownBy w' v.ownBlock) (hat : v'.ownBlock = v.ownBlock ∨ v'.ownBlock = some w.heap.size) : k.Lies w' A H v' := by
  refine ⟨⟨h.row.1, fun hn => ?_⟩, fun hn b off e => ?_⟩
  · obtain ⟨b, off, e, hb, hc⟩ := h.row.2 hn
    refine ⟨b, off, e, Nat.lt_of_lt_of_le hb hg.size, fun j x hx => hg.cell (hc j x hx) (fun e2 => (h.ne hn b off e).2 e2.symm)⟩
  · obtain ⟨b', off', e', hb', _⟩ := h.row.2 hn
    rw [e] at e'
    injection e' with e'
    injection e' with e1 e2
    subst e1
    refine ⟨(h.ne hn b off e).1, fun e3 => ?_⟩
    rcases hat with e4 | e4
    · exact (h.ne hn b off e).2 (e4.symm.trans e3)
    · rw [e3] at e4; injection e4 with e4; omega

/-- Behind an append onto the row of another value. -/
theorem Kn.Lies.grownO {k : Kn} {w w' : World} {A : Option Addr} {H : Nat} {v v2 : Value} (h : k.Lies w A H v) (hg : w.grownBy w' v.ownBlock) (h2 : k.Lies w A H v2) : k.Lies w' A H v2 := by
  refine ⟨⟨h.row.1, fun hn => ?_⟩, h2.ne⟩
  obtain ⟨b, off, e, hb, hc⟩ := h.row.2 hn
  exact ⟨b, off, e, Nat.lt_of_lt_of_le hb hg.size, fun j x hx => hg.cell (hc j x hx) (fun e2 => (h.ne hn b off e).2 e2.symm)⟩

theorem Kn.Lies.of_own {k : Kn} {w : World} {base : Nat} {A : Option Addr} {c H : Nat} {v : Value} (h : k.Own w base A c) (hH : H < base) (hv : ∀ g, v.ownBlock = some g → g < base) : k.Lies w A H v := by
  refine ⟨h.at, fun hn b off e => ?_⟩
  subst e
  obtain ⟨A', c', e, _, _⟩ := own_form h
  have hl : base ≤ b := by
    rcases h.2 with ⟨h0, h1⟩ | ⟨g, cap, cur, hv, hb, hg, _⟩
    · omega
    · injection hv with e1 e2 e3
      injection e1 with e1
      injection e1 with e1
      omega
  exact ⟨by omega, fun e3 => by have := hv _ e3; omega⟩

theorem Kn.Lies.of_at {k : Kn} {w : World} {A : Option Addr} {B H : Nat} {v : Value} (h : k.At w B A) (hB : B ≤ w.heap.size) (hH : B ≤ H) (hv : ∀ g, v.ownBlock = some g → B ≤ g) : k.Lies w A H v := by
  refine ⟨Row.more h hB, fun hn b off e => ?_⟩
  obtain ⟨b', off', e', hb', _⟩ := h.2 hn
  rw [e] at e'
  injection e' with e'
  injection e' with e1 e2
  subst e1
  exact ⟨by omega, fun e3 => by have := hv _ e3; omega⟩

theorem Kn.Lies.other {k : Kn} {w : World} {A : Option Addr} {H : Nat} {v v2 : Value} (h : k.Lies w A H v) (hv : ∀ g, v2.ownBlock = some g → w.heap.size ≤ g) : k.Lies w A H v2 := by
  refine ⟨h.row, fun hn b off e => ⟨(h.ne hn b off e).1, fun e3 => ?_⟩⟩
  obtain ⟨b', off', e', hb', _⟩ := h.row.2 hn
  rw [e] at e'
  injection e' with e'
  injection e' with e1 e2
  subst e1
  have := hv _ e3
  omega

/-- A box of six cells that can be written. -/
structure KB (w : World) (H : Nat) (a b c d e f : Value) : Prop where
  c : w.cell? ⟨H, 0, none⟩ = some a ∧ w.cell? ⟨H, 1, none⟩ = some b ∧ w.cell? ⟨H, 2, none⟩ = some c ∧ w.cell? ⟨H, 3, none⟩ = some d ∧ w.cell? ⟨H, 4, none⟩ = some e ∧ w.cell? ⟨H, 5, none⟩ = some f
  f : w.frozen? ⟨H, 0, none⟩ = false ∧ w.frozen? ⟨H, 1, none⟩ = false ∧ w.frozen? ⟨H, 2, none⟩ = false ∧ w.frozen? ⟨H, 3, none⟩ = false ∧ w.frozen? ⟨H, 4, none⟩ = false ∧ w.frozen? ⟨H, 5, none⟩ = false

section
variable {w w' : World} {H : Nat} {a b c d e f : Value}

theorem KB.start (w : World) (T : TypeId) (a b c d e f : Value) : KB (w.alloc (.cells #[a, b, c, d, e, f] T)) w.heap.size a b c d e f :=
  let g := two6 (w := w) (w0 := w) (T := T) rfl (Below.refl _ _)
  ⟨g.1, g.2⟩

theorem KB.lt (h : KB w H a b c d e f) : H < w.heap.size := cell_lt h.c.1

theorem KB.below (h : KB w H a b c d e f) (hb : Below w.heap.size w w') : KB w' H a b c d e f := by
  have hlt := h.lt
  obtain ⟨⟨c0, c1, c2, c3, c4, c5⟩, f0, f1, f2, f3, f4, f5⟩ := h
  have hc : ∀ j, w'.cell? ⟨H, j, none⟩ = w.cell? ⟨H, j, none⟩ := fun j => hb.cell (p := ⟨H, j, none⟩) hlt
  have hf : ∀ j, w'.frozen? ⟨H, j, none⟩ = w.frozen? ⟨H, j, none⟩ := fun j => hb.frozen (p := ⟨H, j, none⟩) hlt
  exact ⟨⟨(hc 0).trans c0, (hc 1).trans c1, (hc 2).trans c2, (hc 3).trans c3, (hc 4).trans c4, (hc 5).trans c5⟩, (hf 0).trans f0, (hf 1).trans f1, (hf 2).trans f2, (hf 3).trans f3, (hf 4).trans f4, (hf 5).trans f5⟩

theorem KB.alloc (h : KB w H a b c d e f) (o : Obj) : KB (w.alloc o) H a b c d e f := h.below ((Below.refl _ _).alloc (Nat.le_refl _) o)

theorem KB.grown {row : Option Nat} (h : KB w H a b c d e f) (hg : w.grownBy w' row) (hne : row ≠ some H) : KB w' H a b c d e f := by
  have g := grown6 hg h.c h.f hne
  exact ⟨g.1, g.2⟩

theorem KB.set (h : KB w H a b c d e f) (a' b' c' d' e' f' : Value) : KB (set6 w H a' b' c' d' e' f') H a' b' c' d' e' f' := by
  obtain ⟨⟨c0, c1, c2, c3, c4, c5⟩, f0, f1, f2, f3, f4, f5⟩ := h
  unfold set6
  refine ⟨⟨?_, ?_, ?_, ?_, ?_, ?_⟩, ?_, ?_, ?_, ?_, ?_, ?_⟩
  · simp [go_sem, c0]
  · simp [go_sem, c1]
  · simp [go_sem, c2]
  · simp [go_sem, c3]
  · simp [go_sem, c4]
  · simp [go_sem, c5]
  · simp [World.frozen?_setCell, f0]
  · simp [World.frozen?_setCell, f1]
  · simp [World.frozen?_setCell, f2]
  · simp [World.frozen?_setCell, f3]
  · simp [World.frozen?_setCell, f4]
  · simp [World.frozen?_setCell, f5]

theorem own_set6 {base : Nat} {t : TypeId} {size n : Nat} {v : Value} {xs : List Value} (h : w.ownsRow base t size v n xs) (hH : H < base) (a b c d e f : Value) : (set6 w H a b c d e f).ownsRow base t size v n xs := by
  unfold set6
  exact ownsRow_setCell_below (ownsRow_setCell_below (ownsRow_setCell_below (ownsRow_setCell_below (ownsRow_setCell_below (ownsRow_setCell_below h hH _) hH _) hH _) hH _) hH _) hH _

theorem lies_set6 {k : Kn} {A : Option Addr} {v : Value} (h : k.Lies w A H v) (a b c d e f : Value) : k.Lies (set6 w H a b c d e f) A H v := by
  unfold set6
  exact (((((h.setH rfl _).setH rfl _).setH rfl _).setH rfl _).setH rfl _).setH rfl _

theorem below_set6 {B : Nat} {w0 : World} (h : Below B w0 w) (hH : B ≤ H) (a b c d e f : Value) : Below B w0 (set6 w H a b c d e f) := by
  unfold set6
  exact (((((h.setCell hH _).setCell hH _).setCell hH _).setCell hH _).setCell hH _).setCell hH _

theorem size_set6 (a b c d e f : Value) : (set6 w H a b c d e f).heap.size = w.heap.size := by
  unfold set6
  simp [World.setCell]

end

/-- Codes as numbers. -/
def natV (x : Nat) : Value := .int .i64 (x : Int)

/-- The size of a string value. -/
def szOf : Value → Nat
  | .string s => s.size
  | _ => 0

end Go.Proofs.YthlgpgaeajfchaaGreatDoor

namespace Go.Proofs.YthlgpgaeajfchaaGreatDoor
open Go.RowKit
set_option linter.unusedVariables false

/-- The state of l2Greedy's loop. -/
structure Gr (k : Kn) (L : List UInt8) (w0 : World) (H : Nat) (k' : Kn) (A : Option Addr) (c : Nat) (d : List UInt8) (cs : List Nat) (v : Value) (w : World) : Prop where
  val : k'.Valid
  like : k.Like k'
  fit : k'.fits d
  box : KB w H (.int .i64 (k.o : Int)) (.int .i64 (k.l : Int)) (.int .i64 (k.m : Int)) (.slice A k'.ps.length c) (.int .i64 (k.base : Int)) (.int .i64 k'.lastI)
  lies : k'.Lies w A H v
  cap : k'.ps.length ≤ c
  own : w.ownsRow (H + 1) 3 1 v cs.length (cs.map natV)
  bel : Below H w0 w
  sem : ∃ f, d.length ≤ f ∧ k.greedy L = cs ++ greedyF f k' d
  len : d.length ≤ L.length

theorem Kn.Like.val {k k' : Kn} (h : k.Like k') (A : Option Addr) (c : Nat) : k'.val A c = .agg #[.int .i64 (k.o : Int), .int .i64 (k.l : Int), .int .i64 (k.m : Int), .slice A k'.ps.length c, .int .i64 (k.base : Int), .int .i64 k'.lastI] := by
  unfold Kn.val; rw [h.o, h.l, h.m, h.base]

theorem Kn.val_eq (k : Kn) (A : Option Addr) (c : Nat) : k.val A c = .agg #[.int .i64 (k.o : Int), .int .i64 (k.l : Int), .int .i64 (k.m : Int), .slice A k.ps.length c, .int .i64 (k.base : Int), .int .i64 k.lastI] := rfl

theorem kb_lt' {k : Kn} {L : List UInt8} {w0 : World} {H : Nat} {k' : Kn} {A : Option Addr} {c : Nat} {d : List UInt8} {cs : List Nat} {v : Value} {w : World} (h : Gr k L w0 H k' A c d cs v w) : H < w.heap.size := h.box.lt

set_option maxHeartbeats 8000000 in
theorem specL2Greedy (k : Kn) (A : Option Addr) (c B : Nat) (L : List UInt8) (w : World) (h : k.Valid) (hA : k.At w B A) (hB : B ≤ w.heap.size) (hc : k.ps.length ≤ c) (hf : k.fits L) (hL : L.length ≤ 2000) :
    Calls Tryz.prog 160 #[k.val A c, .string (bsL L)] w fun e w' => ∃ A' c', e = .returned (.slice A' (k.greedy L).length c') ∧ w'.ownsRow w.heap.size 3 1 (.slice A' (k.greedy L).length c') (k.greedy L).length ((k.greedy L).map natV) ∧ Below w.heap.size w w' := by
  have hpw := h.pow
  have hl8 := h.lit8
  have hm10 := h.most10
  have HC := fun W => specL1Clear k.o k.l k.m W (by omega)
  unfold setV at HC
  have hcl : 2 ^ k.l = k.clear := rfl
  rw [hcl] at HC
  have HE := fun W => specL1End k.o k.l k.m W (by omega)
  have hfe : 2 ^ k.l + 1 = k.fin := rfl
  rw [hfe] at HE
  have HT := fun W => specL1Last k.o k.l k.m W (by omega)
  have hte : 2 ^ k.m - 1 = k.top := rfl
  rw [hte] at HT
  have HD := fun (W : World) (hb : Below w.heap.size w W) => specL2Cleared k A c B W h (hA.below hb hB) (Nat.le_trans hB hb.size) hc
  simp only [Kn.val_eq k A c] at HD
  have hgs := (Kn.greedy_spec h hf).2.2
  replace HC := Lib.hid HC
  replace HE := Lib.hid HE
  replace HT := Lib.hid HT
  replace HD := Lib.hid HD
  replace h := Lib.hid h
  replace hf := Lib.hid hf
  rw [Kn.val_eq]
  clear hl8 hm10 hcl hfe hte hA
  go_enter Tryz.func160, Tryz.ntmps160
  go_wp2_with fail
  refine (HC.out _).mono ?_
  rintro e w1 ⟨rfl, hb1⟩
  have kb1 := (KB.start w 48 _ _ _ _ _ _).below hb1
  have hB1 : Below w.heap.size w w1 := ((Below.refl _ _).alloc (Nat.le_refl _) _).trans (hb1.mono (by simp))
  have hs1 := kb1.lt
  have kb2 := kb1.alloc (.cells #[.int .i64 (k.clear : Int)] 3)
  have hv2 := World.ownsRow_lit (base := w.heap.size + 1) (size := 1) (e := 3) w1 #[.int .i64 (k.clear : Int)] 1 (by omega) (by unfold maxLen; omega) (by simp)
  have kb2c := kb2
  obtain ⟨⟨q0, q1, q2, q3, q4, q5⟩, z0, z1, z2, z3, z4, z5⟩ := kb2c
  clear hb1
  go_wp2_with fail
  refine (HD.out _ (hB1.alloc (by omega) _)).mono ?_
  rintro e w3 ⟨A2, c2, rfl, hown, hb3⟩
  have kb3 := kb2.below hb3
  have hv3 := own_below hv2 hb3 (Nat.le_refl _)
  have hB3 := (hB1.alloc (by omega) (.cells #[.int .i64 (k.clear : Int)] 3)).trans (hb3.mono (by simp; omega))
  have hl3 : k.cleared.Lies w3 A2 w.heap.size (.slice (some ⟨w1.heap.size, 0, none⟩) 1 1) := Kn.Lies.of_own hown (by simp; omega) (fun g hg => by simp [Value.ownBlock] at hg; simp; omega)
  have hcp := hown.cap
  have GR : Hid (Gr k L w w.heap.size k.cleared A2 c2 L [k.clear] (.slice (some ⟨w1.heap.size, 0, none⟩) 1 1) (set6 w3 w.heap.size (.int .i64 (k.o : Int)) (.int .i64 (k.l : Int)) (.int .i64 (k.m : Int)) (.slice A2 k.cleared.ps.length c2) (.int .i64 (k.base : Int)) (.int .i64 k.cleared.lastI))) :=
    Lib.hid ⟨Kn.cleared_valid h.out, k.like_cleared, k.like_cleared.fits hf.out, kb3.set _ _ _ _ _ _, lies_set6 hl3 _ _ _ _ _ _, hcp, own_set6 hv3 (by omega) _ _ _ _ _ _, below_set6 hB3 (Nat.le_refl _) _ _ _ _ _ _, ⟨L.length, Nat.le_refl _, rfl⟩, Nat.le_refl _⟩
  have kb3c := kb3
  clear q0 q1 q2 q3 q4 q5 z0 z1 z2 z3 z4 z5
  obtain ⟨⟨q0, q1, q2, q3, q4, q5⟩, z0, z1, z2, z3, z4, z5⟩ := kb3c
  rw [k.like_cleared.val]
  clear kb1 kb2 kb3 hv2 hv3 hB1 hB3 hl3 hcp hown hb3 HD
  go_wp2_with fail
  go_loopw [1, 5] (fun u v wr => ∃ (k' : Kn) (A' : Option Addr) (c' : Nat) (d : List UInt8) (cs : List Nat) (Av : Option Addr) (cv : Nat), u = .string (bsL d) ∧ v = .slice Av cs.length cv ∧ Hid (Gr k L w w.heap.size k' A' c' d cs v wr)) (fun u _ _ => szOf u)
  case atStart => exact ⟨k.cleared, A2, c2, L, [k.clear], _, _, rfl, rfl, GR⟩
  case round =>
    clear GR q0 q1 q2 q3 q4 q5 z0 z1 z2 z3 z4 z5
    obtain ⟨k', A', c', d, cs, Av, cv, rfl, rfl, hgr⟩ := hrel
    have hlen : cs.length ≤ 4002 := by
      obtain ⟨f, _, hs⟩ := hgr.out.sem
      have := congrArg List.length hs
      rw [List.length_append] at this
      omega
    have hdl := hgr.out.len
    have kbc := hgr.out.box
    obtain ⟨⟨q0, q1, q2, q3, q4, q5⟩, z0, z1, z2, z3, z4, z5⟩ := kbc
    have hcmp : d.isEmpty = decide (d = []) := by cases d <;> rfl
    have hsz := kb_lt' hgr.out
    by_cases hd : d = []
    · have hfin : k.greedy L = cs ++ [k.fin] := by
        obtain ⟨f, _, hs⟩ := hgr.out.sem
        rw [hs, hd]
        cases f with
        | zero => rw [greedyF]; rw [hgr.out.like.fin]
        | succ f => rw [greedyF, if_pos rfl]; rw [hgr.out.like.fin]
      rw [decide_eq_true hd] at hcmp
      replace hfin := Lib.hid hfin
      clear hd
      go_wp2_with fail
      refine (HE.out _).mono ?_
      rintro e w4 ⟨rfl, hb4⟩
      have hown := own_below hgr.out.own hb4 (Nat.le_refl _)
      have hbel := hgr.out.bel.trans (hb4.mono (by omega))
      have hs4 := hb4.size
      clear q0 q1 q2 q3 q4 q5 z0 z1 z2 z3 z4 z5 hb4
      go_wp2_with (first
            | (at_builtin; refine wpList_append_row _ elemInt rfl (.tmp 59) (.tmp 63) rfl (w.heap.size + 1) _ _ _ rfl (hown.alloc _) _ _ 1 1 [natV k.fin] rfl (Row.newAt _ _ rfl _ [natV k.fin] 1 1 rfl) ?_ ?_ ?_ ?_ ?_))
      · intro z hz; simp at hz; subst hz; rfl
      · unfold maxLen; omega
      · omega
      · simp; omega
      · intro v5 w5 hv5 hg5 hat5
        have hb5 := (hbel.alloc (by omega) _).grown hg5 (by simp; omega) (fun g hg => by have := (hown.lt g hg).1; omega)
        obtain ⟨A5, c5, rfl, _, _⟩ := own_form hv5
        have hl : (k.greedy L).length = cs.length + 1 := by rw [hfin.out]; simp
        have hm : (k.greedy L).map natV = cs.map natV ++ [natV k.fin] := by rw [hfin.out]; simp
        go_wp2_with fail
        go_ret
        refine ⟨A5, c5, by rw [hl]; rfl, ?_, hb5⟩
        rw [hl, hm]
        exact own_base hv5 (by omega)
    · rw [decide_eq_false hd] at hcmp
      obtain ⟨x, e1, e2, e3, e4, e5, e6, e7⟩ := Kn.longest_take hgr.out.val hd hgr.out.fit
      have H1 := specL2Longest k' A' c' wr.heap.size d wr hgr.out.val hgr.out.lies.row (Nat.le_refl _) (by omega) (by omega)
      have hsem := hgr.out.sem
      obtain ⟨Wl, hWl⟩ : ∃ W, k'.longest d = W := ⟨_, rfl⟩
      rw [hgr.out.like.val, hWl] at H1
      have hxb : x ≤ 1023 := by
        have := Kn.can_great hgr.out.val e2
        have := Kn.great_bounds hgr.out.val
        have := hgr.out.val.pow
        have := k'.fin_eq
        omega
      have hstep : ∃ f0, d.length ≤ f0 + 1 ∧ k.greedy L = cs ++ (if d.drop Wl.length ≠ [] ∧ (k'.after x).top < (k'.after x).next ∧ (k'.after x).base < (k'.after x).ps.length then x :: (k'.after x).clear :: greedyF f0 (k'.after x).cleared (d.drop Wl.length) else x :: greedyF f0 (k'.after x) (d.drop Wl.length)) := by
        obtain ⟨f, hf1, hs⟩ := hsem
        cases f with
        | zero => exact absurd (List.eq_nil_of_length_eq_zero (by omega)) hd
        | succ f =>
          refine ⟨f, hf1, ?_⟩
          rw [hs, greedyF, if_neg hd, e1, hWl]
          rfl
      rw [hWl] at e1 e3 e4 e5 e6 e7
      have hdrop : (bsL d).extract Wl.length d.length = bsL (d.drop Wl.length) := bsL_drop d Wl.length
      have hdsz : (bsL d).size = d.length := rfl
      have hrl : (d.drop Wl.length).length + Wl.length = d.length := by rw [List.length_drop]; omega
      obtain ⟨R, hR⟩ : ∃ R, d.drop Wl.length = R := ⟨_, rfl⟩
      rw [hR] at hstep hdrop hrl
      replace H1 := Lib.hid H1
      replace hstep := Lib.hid hstep
      replace e1 := Lib.hid e1
      replace e2 := Lib.hid e2
      replace e7 := Lib.hid e7
      clear hsem hWl e3 e4
      go_wp2_with fail
      refine H1.out.mono ?_
      rintro e w4 ⟨rfl, hb4⟩
      have kb4 := hgr.out.box.below hb4
      have lies4 := hgr.out.lies.below hb4
      have own4 := own_below hgr.out.own hb4 (Nat.le_refl _)
      have bel4 := hgr.out.bel.trans (hb4.mono (by omega))
      have H2 := specL2Find k' A' c' w4.heap.size x Wl w4 hgr.out.val lies4.row (Nat.le_refl _) e1.out e7.out (by omega)
      rw [hgr.out.like.val] at H2
      replace H2 := Lib.hid H2
      clear q0 q1 q2 q3 q4 q5 z0 z1 z2 z3 z4 z5 hb4 H1
      have kbc := kb4
      obtain ⟨⟨q0, q1, q2, q3, q4, q5⟩, z0, z1, z2, z3, z4, z5⟩ := kbc
      have hsz4 := kb4.lt
      go_wp2_with fail
      refine H2.out.mono ?_
      rintro e w5 ⟨rfl, hb5⟩
      have kb5 := kb4.below hb5
      have lies5 := lies4.below hb5
      have own5 := own_below own4 hb5 (Nat.le_refl _)
      have bel5 := bel4.trans (hb5.mono (by omega))
      have hsz5 := kb5.lt
      clear q0 q1 q2 q3 q4 q5 z0 z1 z2 z3 z4 z5 hb5 H2 kb4 lies4 own4 bel4
      go_wp2_with (first
            | (at_builtin; refine wpList_append_row _ elemInt rfl (.tmp 22) (.tmp 24) rfl (w.heap.size + 1) _ _ _ rfl (own5.alloc _) _ _ 1 1 [natV x] rfl (Row.newAt _ _ rfl _ [natV x] 1 1 rfl) ?_ ?_ ?_ ?_ ?_))
      · intro z hz; simp at hz; subst hz; rfl
      · unfold maxLen; omega
      · omega
      · simp; omega
      · intro v6 w6 hv6 hg6 hat6
        obtain ⟨A6, c6, rfl, _, _⟩ := own_form hv6
        have hog : ∀ g, (Value.slice Av cs.length cv).ownBlock = some g → w.heap.size + 1 ≤ g := fun g hg => (own5.lt g hg).1
        have kb6 := (kb5.alloc (.cells #[.int .i64 (x : Int)] 3)).grown hg6 (fun e => by have := hog _ e; omega)
        have lies6 := (lies5.alloc (.cells #[.int .i64 (x : Int)] 3)).grown hg6 (by rw [World.size_alloc]; exact hat6)
        have bel6 := (bel5.alloc (by omega) (.cells #[.int .i64 (x : Int)] 3)).grown hg6 (by simp; omega) (fun g hg => by have := hog _ hg; omega)
        have hsz6 := kb6.lt
        have H3 := specL2After k' A' c' w6.heap.size x w6 hgr.out.val lies6.row (Nat.le_refl _) e2.out
        rw [hgr.out.like.val] at H3
        replace H3 := Lib.hid H3
        have kbc := kb6
        obtain ⟨⟨q0, q1, q2, q3, q4, q5⟩, z0, z1, z2, z3, z4, z5⟩ := kbc
        clear kb5 lies5 own5 bel5 hg6 hat6
        go_wp2_with fail
        refine H3.out.mono ?_
        rintro e w7 ⟨A7, c7, rfl, hown7, hb7⟩
        have like2 := hgr.out.like.trans (k'.like_after x)
        have val2 := Kn.after_valid hgr.out.val e2.out
        have fit2 : (k'.after x).fits R := by rw [← hR]; exact (k'.like_after x).fits (fits_drop hgr.out.fit _)
        obtain ⟨k2, hk2⟩ : ∃ k2, k'.after x = k2 := ⟨_, rfl⟩
        rw [hk2] at hown7 like2 val2 fit2 hstep ⊢
        rw [like2.val]
        have kb7 := kb6.below hb7
        have own7 := own_below hv6 hb7 (Nat.le_refl _)
        have bel7 := bel6.trans (hb7.mono (by omega))
        have hsz7 := kb7.lt
        have lies7 : k2.Lies w7 A7 w.heap.size (.slice A6 (cs.length + 1) c6) := Kn.Lies.of_own hown7 hsz6 (fun g hg => (hv6.lt g hg).2)
        have cap7 := hown7.cap
        have kb8 := kb7.set (.int .i64 (k.o : Int)) (.int .i64 (k.l : Int)) (.int .i64 (k.m : Int)) (.slice A7 k2.ps.length c7) (.int .i64 (k.base : Int)) (.int .i64 k2.lastI)
        have own8 := own_set6 (H := w.heap.size) own7 (by omega) (.int .i64 (k.o : Int)) (.int .i64 (k.l : Int)) (.int .i64 (k.m : Int)) (.slice A7 k2.ps.length c7) (.int .i64 (k.base : Int)) (.int .i64 k2.lastI)
        have lies8 := lies_set6 lies7 (.int .i64 (k.o : Int)) (.int .i64 (k.l : Int)) (.int .i64 (k.m : Int)) (.slice A7 k2.ps.length c7) (.int .i64 (k.base : Int)) (.int .i64 k2.lastI)
        have bel8 := below_set6 (H := w.heap.size) bel7 (Nat.le_refl _) (.int .i64 (k.o : Int)) (.int .i64 (k.l : Int)) (.int .i64 (k.m : Int)) (.slice A7 k2.ps.length c7) (.int .i64 (k.base : Int)) (.int .i64 k2.lastI)
        clear q0 q1 q2 q3 q4 q5 z0 z1 z2 z3 z4 z5
        have kbc := kb7
        obtain ⟨⟨q0, q1, q2, q3, q4, q5⟩, z0, z1, z2, z3, z4, z5⟩ := kbc
        obtain ⟨w8, hw8⟩ : ∃ W, set6 w7 w.heap.size (.int .i64 (k.o : Int)) (.int .i64 (k.l : Int)) (.int .i64 (k.m : Int)) (.slice A7 k2.ps.length c7) (.int .i64 (k.base : Int)) (.int .i64 k2.lastI) = W := ⟨_, rfl⟩
        rw [hw8] at kb8 own8 lies8 bel8
        unfold set6 at hw8
        clear kb6 lies6 bel6 hown7 hb7 kb7 own7 bel7 lies7 H3 hv6 hk2
        have t1 : (0 : Int) ≤ (bsL Wl).size := by omega
        have t2 : ((bsL Wl).size : Int) ≤ (bsL d).size := by rw [bsL_size, bsL_size]; omega
        go_upto_region 9 with (fail)
        clear q0 q1 q2 q3 q4 q5 z0 z1 z2 z3 z4 z5 hw8
        have HN := fun W => specL2Next k2 A7 c7 W val2
        simp only [like2.val] at HN
        replace HN := Lib.hid HN
        have et := like2.top
        have eb := like2.base
        obtain ⟨g, hg⟩ : ∃ g, decide (R ≠ [] ∧ k2.top < k2.next ∧ k2.base < k2.ps.length) = g := ⟨_, rfl⟩
        rw [et, eb] at hg
        have hsz8 := kb8.lt
        have kbc := kb8
        obtain ⟨⟨q0, q1, q2, q3, q4, q5⟩, z0, z1, z2, z3, z4, z5⟩ := kbc
        go_cut [50] (fun v wx => v = .bool g ∧ Below w8.heap.size w8 wx)
        case first =>
          by_cases p1 : R = []
          · have hg' : g = false := by rw [← hg]; exact decide_eq_false (fun hh => hh.1 p1)
            have hR0 : R.isEmpty = true := by rw [p1]; rfl
            subst hg'
            clear hg p1
            refine wp_region_cls (by kernel_rfl) (by kernel_rfl) ?_
            have cc0 := clsCell q0
            have cc1 := clsCell q1
            have cc2 := clsCell q2
            have cc3 := clsCell q3
            have cc4 := clsCell q4
            have cc5 := clsCell q5
            repeat (go_big_quiet_step (first | (go_at_call 176; exact clsCall (HN.out _)) | (go_at_call 155; exact clsCall (HT.out _))))
            refine wpQuiet_nil ?_
            rintro w' ⟨⟨w', hB9⟩, rfl⟩
            go_wp2_with fail
            go_meet
            exact ⟨rfl, hB9⟩
          · have hR0 : R.isEmpty = false := by cases R with
              | nil => exact absurd rfl p1
              | cons y ys => rfl
            by_cases p2 : k.top < k2.next
            · have p2i : ((k.top : Int) < (k2.next : Int)) := by omega
              by_cases p3 : k.base < k2.ps.length
              · have p3i : ((k.base : Int) < (k2.ps.length : Int)) := by omega
                have hg' : g = true := by rw [← hg]; exact decide_eq_true ⟨p1, p2, p3⟩
                subst hg'
                clear hg p1 p2 p3
                refine wp_region_cls (by kernel_rfl) (by kernel_rfl) ?_
                have cc0 := clsCell q0
                have cc1 := clsCell q1
                have cc2 := clsCell q2
                have cc3 := clsCell q3
                have cc4 := clsCell q4
                have cc5 := clsCell q5
                repeat (go_big_quiet_step (first | (go_at_call 176; exact clsCall (HN.out _)) | (go_at_call 155; exact clsCall (HT.out _))))
                refine wpQuiet_nil ?_
                rintro w' ⟨⟨w', hB9⟩, rfl⟩
                go_wp2_with fail
                go_meet
                exact ⟨rfl, hB9⟩
              · have p3i : ¬ ((k.base : Int) < (k2.ps.length : Int)) := by omega
                have hg' : g = false := by rw [← hg]; exact decide_eq_false (fun hh => p3 hh.2.2)
                subst hg'
                clear hg p1 p2 p3
                refine wp_region_cls (by kernel_rfl) (by kernel_rfl) ?_
                have cc0 := clsCell q0
                have cc1 := clsCell q1
                have cc2 := clsCell q2
                have cc3 := clsCell q3
                have cc4 := clsCell q4
                have cc5 := clsCell q5
                repeat (go_big_quiet_step (first | (go_at_call 176; exact clsCall (HN.out _)) | (go_at_call 155; exact clsCall (HT.out _))))
                refine wpQuiet_nil ?_
                rintro w' ⟨⟨w', hB9⟩, rfl⟩
                go_wp2_with fail
                go_meet
                exact ⟨rfl, hB9⟩
            · have p2i : ¬ ((k.top : Int) < (k2.next : Int)) := by omega
              have hg' : g = false := by rw [← hg]; exact decide_eq_false (fun hh => p2 hh.2.1)
              subst hg'
              clear hg p1 p2
              refine wp_region_cls (by kernel_rfl) (by kernel_rfl) ?_
              have cc0 := clsCell q0
              have cc1 := clsCell q1
              have cc2 := clsCell q2
              have cc3 := clsCell q3
              have cc4 := clsCell q4
              have cc5 := clsCell q5
              repeat (go_big_quiet_step (first | (go_at_call 176; exact clsCall (HN.out _)) | (go_at_call 155; exact clsCall (HT.out _))))
              refine wpQuiet_nil ?_
              rintro w' ⟨⟨w', hB9⟩, rfl⟩
              go_wp2_with fail
              go_meet
              exact ⟨rfl, hB9⟩
        case rest =>
          obtain ⟨rfl, hb9⟩ := hcut
          have kb9 := kb8.below hb9
          have lies9 := lies8.below hb9
          have own9 := own_below own8 hb9 (Nat.le_refl _)
          have bel9 := bel8.trans (hb9.mono (by omega))
          have hsz9 := kb9.lt
          clear q0 q1 q2 q3 q4 q5 z0 z1 z2 z3 z4 z5 hb9 kb8 lies8 own8 bel8 hsz8
          obtain ⟨f0, hf0, hs⟩ := hstep.out
          rw [et, eb] at hs
          have hR1 : R.length ≤ f0 := by omega
          have hRL : R.length ≤ L.length := by omega
          have hRd : Hid (R.length < d.length) := Lib.hid (by omega)
          replace hR1 := Lib.hid hR1
          replace hRL := Lib.hid hRL
          clear hf0 hrl hdsz e5 e6 hdl hcmp hdrop t1 t2
          cases g with
          | false =>
            rw [if_neg (of_decide_eq_false hg)] at hs
            have hl1 : (cs ++ [x]).length = cs.length + 1 := by simp
            have hm1 : (cs ++ [x]).map natV = cs.map natV ++ [natV x] := by simp
            have GR : Hid (Gr k L w w.heap.size k2 A7 c7 R (cs ++ [x]) (.slice A6 (cs.length + 1) c6) wc) := Lib.hid ⟨val2, like2, fit2, kb9, lies9, cap7, by rw [hl1, hm1]; exact own9, bel9, ⟨f0, hR1.out, by rw [hs]; simp⟩, hRL.out⟩
            clear hg hs own9 lies9 kb9 bel9 hm1
            go_wp2_with fail
            go_roundw
            case rel => exact ⟨k2, A7, c7, R, cs ++ [x], A6, c6, rfl, by rw [hl1], GR⟩
            case measure => simp only [szOf]; exact hRd.out
          | true =>
            have hgp := of_decide_eq_true hg
            rw [if_pos hgp, like2.clear] at hs
            have hcl2 : (cs ++ [x, k.clear]).length = cs.length + 1 + 1 := by simp
            have hm1 : (cs ++ [x, k.clear]).map natV = cs.map natV ++ [natV x, natV k.clear] := by simp
            have hfit3 := k2.like_cleared.fits fit2
            have hlen2 : cs.length + 1 ≤ 4003 := by omega
            have kbc := kb9
            obtain ⟨⟨q0, q1, q2, q3, q4, q5⟩, z0, z1, z2, z3, z4, z5⟩ := kbc
            clear hg hgp
            go_wp2_with fail
            refine (HC.out _).mono ?_
            rintro e wa ⟨rfl, hba⟩
            have kba := kb9.below hba
            have liesa := lies9.below hba
            have owna := own_below own9 hba (Nat.le_refl _)
            have bela := bel9.trans (hba.mono (by omega))
            have hsza := kba.lt
            clear q0 q1 q2 q3 q4 q5 z0 z1 z2 z3 z4 z5 hba kb9 lies9 own9 bel9
            go_wp2_with (first
              | (at_builtin; refine wpList_append_row _ elemInt rfl (.tmp 51) (.tmp 55) rfl (w.heap.size + 1) _ _ _ rfl (owna.alloc _) _ _ 1 1 [natV k.clear] rfl (Row.newAt _ _ rfl _ [natV k.clear] 1 1 rfl) ?_ ?_ ?_ ?_ ?_))
            · intro z hz; simp at hz; subst hz; rfl
            · unfold maxLen; omega
            · omega
            · simp; omega
            · intro vb wb hvb hgb hatb
              obtain ⟨Ab, cb, rfl, _, _⟩ := own_form hvb
              have hog : ∀ g, (Value.slice A6 (cs.length + 1) c6).ownBlock = some g → w.heap.size + 1 ≤ g := fun g hg => (owna.lt g hg).1
              have kbb := (kba.alloc (.cells #[.int .i64 (k.clear : Int)] 3)).grown hgb (fun e => by have := hog _ e; omega)
              have liesb := (liesa.alloc (.cells #[.int .i64 (k.clear : Int)] 3)).grown hgb (by rw [World.size_alloc]; exact hatb)
              have belb := (bela.alloc (by omega) (.cells #[.int .i64 (k.clear : Int)] 3)).grown hgb (by simp; omega) (fun g hg => by have := hog _ hg; omega)
              have hszb := kbb.lt
              have H4 := specL2Cleared k2 A7 c7 wb.heap.size wb val2 liesb.row (Nat.le_refl _) cap7
              rw [like2.val] at H4
              replace H4 := Lib.hid H4
              have kbc := kbb
              obtain ⟨⟨q0, q1, q2, q3, q4, q5⟩, z0, z1, z2, z3, z4, z5⟩ := kbc
              clear kba liesa owna bela hgb hatb
              go_wp2_with fail
              refine H4.out.mono ?_
              rintro e wd ⟨Ad, cd, rfl, hownd, hbd⟩
              have like3 := like2.trans k2.like_cleared
              rw [like3.val]
              have kbd := kbb.below hbd
              have ownd := own_below hvb hbd (Nat.le_refl _)
              have beld := belb.trans (hbd.mono (by omega))
              have liesd : k2.cleared.Lies wd Ad w.heap.size (.slice Ab (cs.length + 1 + 1) cb) := Kn.Lies.of_own hownd hszb (fun g hg => (hvb.lt g hg).2)
              have capd := hownd.cap
              have GR : Hid (Gr k L w w.heap.size k2.cleared Ad cd R (cs ++ [x, k.clear]) (.slice Ab (cs.length + 1 + 1) cb) (set6 wd w.heap.size (.int .i64 (k.o : Int)) (.int .i64 (k.l : Int)) (.int .i64 (k.m : Int)) (.slice Ad k2.cleared.ps.length cd) (.int .i64 (k.base : Int)) (.int .i64 k2.cleared.lastI))) :=
                Lib.hid ⟨Kn.cleared_valid val2, like3, hfit3, kbd.set _ _ _ _ _ _, lies_set6 liesd _ _ _ _ _ _, capd, by rw [hcl2, hm1]; exact own_set6 (H := w.heap.size) ownd (Nat.lt_succ_self _) _ _ _ _ _ _, below_set6 beld (Nat.le_refl _) _ _ _ _ _ _, ⟨f0, hR1.out, by rw [hs]; simp⟩, hRL.out⟩
              clear q0 q1 q2 q3 q4 q5 z0 z1 z2 z3 z4 z5
              obtain ⟨⟨q0, q1, q2, q3, q4, q5⟩, z0, z1, z2, z3, z4, z5⟩ := kbd
              clear kbb liesb belb hownd hbd ownd beld liesd capd hs hvb hm1
              go_wp2_with fail
              go_roundw
              case rel => exact ⟨k2.cleared, Ad, cd, R, cs ++ [x, k.clear], Ab, cb, rfl, by rw [hcl2], GR⟩
              case measure => simp only [szOf]; exact hRd.out

end Go.Proofs.YthlgpgaeajfchaaGreatDoor
