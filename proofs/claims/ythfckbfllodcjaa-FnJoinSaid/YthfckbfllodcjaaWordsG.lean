/-
  The reference's l2Step; what is known lies apart from other memory; a box that holds what is known.
-/
import Derived.Test.YthfckbfllodcjaaWordsF
import Derived.Test.YthfckbfllodcjaaKnThree
namespace Go.Proofs.Ythfckbfllodcjaa
open Go.RowKit
set_option linter.unusedVariables false

theorem Kn.Own.at {k : Kn} {w : World} {base : Nat} {A : Option Addr} {c : Nat} (h : k.Own w base A c) : k.At w w.heap.size A := Row.of_own h

theorem Kn.Own.cap {k : Kn} {w : World} {base : Nat} {A : Option Addr} {c : Nat} (h : k.Own w base A c) : k.ps.length ≤ c := by
  obtain ⟨A', c', e, h1, _⟩ := own_form h
  injection e with e1 e2 e3
  omega

theorem Kn.Own.below {k : Kn} {w w' : World} {base C : Nat} {A : Option Addr} {c : Nat} (h : k.Own w base A c) (hb : Below C w w') (hC : w.heap.size ≤ C) : k.Own w' base A c := own_below h hb hC

set_option maxHeartbeats 4000000 in
theorem specL2Step (k : Kn) (A : Option Addr) (c B x : Nat) (w : World) (h : k.Valid) (hA : k.At w B A) (hB : B ≤ w.heap.size) (hc : k.ps.length ≤ c) (hx : k.goes x) :
    Calls Try.prog 91 #[k.val A c, .int .i64 (x : Int)] w fun e w' => ∃ A' c', e = .returned ((k.step x).val A' c') ∧ (k.step x).Own w' w.heap.size A' c' ∧ Below w.heap.size w w' := by
  have hpw := h.pow
  have hl8 := h.lit8
  have HC := fun W => specL1Clear k.o k.l k.m W (by omega)
  unfold setV at HC
  have hcl : 2 ^ k.l = k.clear := rfl
  rw [hcl] at HC
  have HD := fun (W : World) (hb : Below w.heap.size w W) => specL2Cleared k A c B W h (hA.below hb hB) (Nat.le_trans hB hb.size) hc
  have HF := fun (hxc : k.can x) (W : World) (hb : Below w.heap.size w W) => specL2After k A c B x W h (hA.below hb hB) (Nat.le_trans hB hb.size) hxc
  have hlk := k.like_step x
  by_cases hxx : x = k.clear
  · have hst : k.step x = k.cleared := by rw [hxx]; exact k.step_clear
    rw [hst] at hlk ⊢
    obtain ⟨D, hD⟩ : ∃ D, k.cleared = D := ⟨_, rfl⟩
    rw [hD] at HD hlk ⊢
    have hv : ∀ A' c', D.val A' c' = .agg #[.int .i64 (k.o : Int), .int .i64 (k.l : Int), .int .i64 (k.m : Int), .slice A' D.ps.length c', .int .i64 (k.base : Int), .int .i64 D.lastI] := fun A' c' => by unfold Kn.val; rw [hlk.o, hlk.l, hlk.m, hlk.base]
    obtain ⟨V, hV⟩ : ∃ V : Option Addr → Nat → Value, D.val = V := ⟨_, rfl⟩
    rw [hV] at HD hv ⊢
    rw [hxx]
    obtain ⟨z, hz⟩ : ∃ z, k.clear = z := ⟨_, rfl⟩
    rw [hz] at HC ⊢
    obtain ⟨dn, hdn⟩ : ∃ dn, D.ps.length = dn := ⟨_, rfl⟩
    obtain ⟨dq, hdq⟩ : ∃ dq, D.lastI = dq := ⟨_, rfl⟩
    simp only [hdn, hdq] at hv
    obtain ⟨n, hn⟩ : ∃ x, k.ps.length = x := ⟨_, rfl⟩
    obtain ⟨o, ho⟩ : ∃ x, k.o = x := ⟨_, rfl⟩
    obtain ⟨l, hl'⟩ : ∃ x, k.l = x := ⟨_, rfl⟩
    obtain ⟨m, hm⟩ : ∃ x, k.m = x := ⟨_, rfl⟩
    obtain ⟨b, hb⟩ : ∃ x, k.base = x := ⟨_, rfl⟩
    obtain ⟨q, hq⟩ : ∃ x, k.lastI = x := ⟨_, rfl⟩
    try unfold Kn.val at HC
    try rw [hn] at HC
    try rw [ho] at HC
    try rw [hl'] at HC
    try rw [hm] at HC
    try rw [hb] at HC
    try rw [hq] at HC
    try unfold Kn.val at HD
    try rw [hn] at HD
    try rw [ho] at HD
    try rw [hl'] at HD
    try rw [hm] at HD
    try rw [hb] at HD
    try rw [hq] at HD
    try unfold Kn.val at hv
    try rw [hn] at hv
    try rw [ho] at hv
    try rw [hl'] at hv
    try rw [hm] at hv
    try rw [hb] at hv
    try rw [hq] at hv
    simp only [Kn.val, hn, ho, hl', hm, hb, hq]
    replace HC := Lib.hid HC
    replace HD := Lib.hid HD
    replace hv := Lib.hid hv
    clear hpw hl8 hcl HF hxx hst hz hD hV hdn hdq hlk h hA hn ho hl' hm hb hq hc
    go_enter Try.func91, Try.ntmps91
    go_wp2_with fail
    refine (HC.out _).mono ?_
    rintro e w1 ⟨rfl, hb1⟩
    have hb2 : Below (w.heap.size + 2) ((w.alloc (.cells #[.int .i64 (o : Int), .int .i64 (l : Int), .int .i64 (m : Int), .slice A n c, .int .i64 (b : Int), .int .i64 q] 91)).alloc (.cells #[.int .i64 0, .int .i64 0, .int .i64 0, .slice none 0 0, .int .i64 0, .int .i64 0] 91)) w1 := hb1.mono (by simp)
    obtain ⟨q0, q1, q2, q3, q4, q5, hB1⟩ := box6 (((Below.refl _ _).alloc (by simp) _).trans (hb2.mono (by omega)))
    have hB0 := ((Below.refl w.heap.size w).alloc (Nat.le_refl _) _).trans (hB1.mono (by omega))
    clear hb1
    go_wp2_with fail
    refine (HD.out _ hB0).mono ?_
    rintro e w2 ⟨A2, c2, rfl, hown, hb3⟩
    have hs1 := hb2.size
    simp only [World.size_alloc] at hs1
    have hb4 := hb2.trans (hb3.mono (by omega))
    obtain ⟨⟨r0, r1, r2, r3, r4, r5⟩, z0, z1, z2, z3, z4, z5⟩ := two6 (w := w) (by simp) hb4
    have hr := ret6 hb4 (own_base hown (by omega)) (.int .i64 (o : Int)) (.int .i64 (l : Int)) (.int .i64 (m : Int)) (.slice A2 dn c2) (.int .i64 (b : Int)) (.int .i64 dq)
    have hv2 := hv.out A2 c2
    rw [hv2]
    have hr0 : Below w.heap.size w (set6 w2 (w.heap.size + 1) (.int .i64 (o : Int)) (.int .i64 (l : Int)) (.int .i64 (m : Int)) (.slice A2 dn c2) (.int .i64 (b : Int)) (.int .i64 dq)) := hr.2
    have hr1 : D.Own (set6 w2 (w.heap.size + 1) (.int .i64 (o : Int)) (.int .i64 (l : Int)) (.int .i64 (m : Int)) (.slice A2 dn c2) (.int .i64 (b : Int)) (.int .i64 dq)) (w.heap.size + 2) A2 c2 := hr.1
    have HR := Lib.hid (And.intro hr0 hr1)
    have HV2 := Lib.hid hv2
    clear hr hr0 hr1 hb4 hb3 hown hB0 hB1 hb2 q0 q1 q2 q3 q4 q5 hv2
    go_wp2_with fail
    refine bodyPost_ret (v := .agg #[.int .i64 (o : Int), .int .i64 (l : Int), .int .i64 (m : Int), .slice A2 dn c2, .int .i64 (b : Int), .int .i64 dq]) (by simp [results, Try.results91, go_sem, r0, r1, r2, r3, r4, r5]) rfl ?_
    exact ⟨A2, c2, congrArg Ending.returned HV2.out.symm, own_base HR.out.2 (by omega), HR.out.1⟩
  · have hxc : k.can x := by
      rcases hx with h1 | h1
      · exact absurd h1 hxx
      · exact h1
    have hst : k.step x = k.after x := Kn.step_can h hxc
    replace HF := HF hxc
    rw [hst] at hlk ⊢
    obtain ⟨D, hD⟩ : ∃ D, k.after x = D := ⟨_, rfl⟩
    rw [hD] at HF hlk ⊢
    have hv : ∀ A' c', D.val A' c' = .agg #[.int .i64 (k.o : Int), .int .i64 (k.l : Int), .int .i64 (k.m : Int), .slice A' D.ps.length c', .int .i64 (k.base : Int), .int .i64 D.lastI] := fun A' c' => by unfold Kn.val; rw [hlk.o, hlk.l, hlk.m, hlk.base]
    obtain ⟨V, hV⟩ : ∃ V : Option Addr → Nat → Value, D.val = V := ⟨_, rfl⟩
    rw [hV] at HF hv ⊢
    obtain ⟨z, hz⟩ : ∃ z, k.clear = z := ⟨_, rfl⟩
    rw [hz] at HC hxx
    have hxz : (x : Int) ≠ (z : Int) := by omega
    obtain ⟨dn, hdn⟩ : ∃ dn, D.ps.length = dn := ⟨_, rfl⟩
    obtain ⟨dq, hdq⟩ : ∃ dq, D.lastI = dq := ⟨_, rfl⟩
    simp only [hdn, hdq] at hv
    obtain ⟨n, hn⟩ : ∃ x, k.ps.length = x := ⟨_, rfl⟩
    obtain ⟨o, ho⟩ : ∃ x, k.o = x := ⟨_, rfl⟩
    obtain ⟨l, hl'⟩ : ∃ x, k.l = x := ⟨_, rfl⟩
    obtain ⟨m, hm⟩ : ∃ x, k.m = x := ⟨_, rfl⟩
    obtain ⟨b, hb⟩ : ∃ x, k.base = x := ⟨_, rfl⟩
    obtain ⟨q, hq⟩ : ∃ x, k.lastI = x := ⟨_, rfl⟩
    try unfold Kn.val at HC
    try rw [hn] at HC
    try rw [ho] at HC
    try rw [hl'] at HC
    try rw [hm] at HC
    try rw [hb] at HC
    try rw [hq] at HC
    try unfold Kn.val at HF
    try rw [hn] at HF
    try rw [ho] at HF
    try rw [hl'] at HF
    try rw [hm] at HF
    try rw [hb] at HF
    try rw [hq] at HF
    try unfold Kn.val at hv
    try rw [hn] at hv
    try rw [ho] at hv
    try rw [hl'] at hv
    try rw [hm] at hv
    try rw [hb] at hv
    try rw [hq] at hv
    simp only [Kn.val, hn, ho, hl', hm, hb, hq]
    replace HC := Lib.hid HC
    replace HF := Lib.hid HF
    replace hv := Lib.hid hv
    clear hpw hl8 hcl HD hxx hxc hst hz hD hV hdn hdq hlk h hA hn ho hl' hm hb hq hc
    go_enter Try.func91, Try.ntmps91
    go_wp2_with fail
    refine (HC.out _).mono ?_
    rintro e w1 ⟨rfl, hb1⟩
    have hb2 : Below (w.heap.size + 2) ((w.alloc (.cells #[.int .i64 (o : Int), .int .i64 (l : Int), .int .i64 (m : Int), .slice A n c, .int .i64 (b : Int), .int .i64 q] 91)).alloc (.cells #[.int .i64 0, .int .i64 0, .int .i64 0, .slice none 0 0, .int .i64 0, .int .i64 0] 91)) w1 := hb1.mono (by simp)
    obtain ⟨q0, q1, q2, q3, q4, q5, hB1⟩ := box6 (((Below.refl _ _).alloc (by simp) _).trans (hb2.mono (by omega)))
    have hB0 := ((Below.refl w.heap.size w).alloc (Nat.le_refl _) _).trans (hB1.mono (by omega))
    clear hb1
    go_wp2_with fail
    refine (HF.out _ hB0).mono ?_
    rintro e w2 ⟨A2, c2, rfl, hown, hb3⟩
    have hs1 := hb2.size
    simp only [World.size_alloc] at hs1
    have hb4 := hb2.trans (hb3.mono (by omega))
    obtain ⟨⟨r0, r1, r2, r3, r4, r5⟩, z0, z1, z2, z3, z4, z5⟩ := two6 (w := w) (by simp) hb4
    have hr := ret6 hb4 (own_base hown (by omega)) (.int .i64 (o : Int)) (.int .i64 (l : Int)) (.int .i64 (m : Int)) (.slice A2 dn c2) (.int .i64 (b : Int)) (.int .i64 dq)
    have hv2 := hv.out A2 c2
    rw [hv2]
    have hr0 : Below w.heap.size w (set6 w2 (w.heap.size + 1) (.int .i64 (o : Int)) (.int .i64 (l : Int)) (.int .i64 (m : Int)) (.slice A2 dn c2) (.int .i64 (b : Int)) (.int .i64 dq)) := hr.2
    have hr1 : D.Own (set6 w2 (w.heap.size + 1) (.int .i64 (o : Int)) (.int .i64 (l : Int)) (.int .i64 (m : Int)) (.slice A2 dn c2) (.int .i64 (b : Int)) (.int .i64 dq)) (w.heap.size + 2) A2 c2 := hr.1
    have HR := Lib.hid (And.intro hr0 hr1)
    have HV2 := Lib.hid hv2
    clear hr hr0 hr1 hb4 hb3 hown hB0 hB1 hb2 q0 q1 q2 q3 q4 q5 hv2
    go_wp2_with fail
    refine bodyPost_ret (v := .agg #[.int .i64 (o : Int), .int .i64 (l : Int), .int .i64 (m : Int), .slice A2 dn c2, .int .i64 (b : Int), .int .i64 dq]) (by simp [results, Try.results91, go_sem, r0, r1, r2, r3, r4, r5]) rfl ?_
    exact ⟨A2, c2, congrArg Ending.returned HV2.out.symm, own_base HR.out.2 (by omega), HR.out.1⟩

end Go.Proofs.Ythfckbfllodcjaa
