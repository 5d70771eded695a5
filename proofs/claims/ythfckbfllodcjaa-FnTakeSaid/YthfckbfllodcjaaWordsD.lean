/-
  The reference's l2Follows, l2Find and l2Longest.
-/
import Derived.Test.YthfckbfllodcjaaWordsC
namespace Go.Proofs.Ythfckbfllodcjaa
open Go.RowKit
set_option linter.unusedVariables false

set_option maxHeartbeats 4000000 in
theorem specL2Follows (k : Kn) (A : Option Addr) (c x : Nat) (r : Bool) (w : World) (h : k.Valid) (hr : r = true ↔ k.can x) :
    Calls Try.prog 90 #[k.val A c, .int .i64 (x : Int)] w fun e w' => e = .returned (.bool r) ∧ Below w.heap.size w w' := by
  have hps := h.room
  have hpw := h.pow
  have hfe := k.fin_eq
  have hcl : 2 ^ k.l = k.clear := rfl
  have HN := fun W => specL2Next k A c W h
  by_cases h1 : k.has k.ps.length x
  · have hrt : r = true := hr.2 (Or.inl h1)
    have HC := fun W => specL2Code k.o k.l k.m k.ps.length (x : Int) true W h.lit8 (by omega) ⟨fun _ => by
      unfold Kn.has at h1
      have hc2 : ((2 : Int) ^ k.l) = (k.clear : Int) := by rw [← hcl]; simp
      rw [hc2, hcl]
      omega, fun _ => rfl⟩
    subst hrt
    obtain ⟨n, hn⟩ : ∃ x, k.ps.length = x := ⟨_, rfl⟩
    obtain ⟨o, ho⟩ : ∃ x, k.o = x := ⟨_, rfl⟩
    obtain ⟨l, hl'⟩ : ∃ x, k.l = x := ⟨_, rfl⟩
    obtain ⟨m, hm⟩ : ∃ x, k.m = x := ⟨_, rfl⟩
    obtain ⟨b, hb⟩ : ∃ x, k.base = x := ⟨_, rfl⟩
    obtain ⟨q, hq⟩ : ∃ x, k.lastI = x := ⟨_, rfl⟩
    try unfold Kn.val at HC
    try rw [hn] at HC
    try rw [ho] at HC
    try rw [hl'] at HC
    try rw [hm] at HC
    try rw [hb] at HC
    try rw [hq] at HC
    simp only [Kn.val, hn, ho, hl', hm, hb, hq]
    have HC := Lib.hid HC
    clear hps hpw hfe hcl h1 hr h hn ho hl' hm hb hq HN
    go_enter Try.func90, Try.ntmps90
    go_wp2_with fail
    refine (HC.out _).mono ?_
    rintro e w1 ⟨rfl, hb1⟩
    obtain ⟨q0, q1, q2, q3, q4, q5, B1⟩ := box6_call hb1 (Below.refl _ _)
    go_wp2_with fail
    go_ret
    exact ⟨rfl, ((Below.refl _ _).alloc (Nat.le_refl _) _).trans (B1.mono (by simp))⟩
  · have HC := fun W => specL2Code k.o k.l k.m k.ps.length (x : Int) false W h.lit8 (by omega) ⟨fun e => Bool.noConfusion e, fun hh => by
      exfalso
      apply h1
      unfold Kn.has
      have hc2 : ((2 : Int) ^ k.l) = (k.clear : Int) := by rw [← hcl]; simp
      rw [hc2, hcl] at hh
      omega⟩
    by_cases hg : k.grows
    · have HG := fun W => specL2Grows k A c true W h ⟨fun _ => hg, fun _ => rfl⟩
      have hrt : r = decide ((x : Int) = (k.next : Int)) := by
        rw [Bool.eq_iff_iff, hr, decide_eq_true_eq]
        constructor
        · rintro (hh | ⟨_, hh⟩)
          · exact absurd hh h1
          · omega
        · intro hh
          exact Or.inr ⟨hg, by omega⟩
      obtain ⟨x0, hx0⟩ : ∃ z, k.next = z := ⟨_, rfl⟩
      rw [hx0] at HN hrt
      subst hrt
      obtain ⟨n, hn⟩ : ∃ x, k.ps.length = x := ⟨_, rfl⟩
      obtain ⟨o, ho⟩ : ∃ x, k.o = x := ⟨_, rfl⟩
      obtain ⟨l, hl'⟩ : ∃ x, k.l = x := ⟨_, rfl⟩
      obtain ⟨m, hm⟩ : ∃ x, k.m = x := ⟨_, rfl⟩
      obtain ⟨b, hb⟩ : ∃ x, k.base = x := ⟨_, rfl⟩
      obtain ⟨q, hq⟩ : ∃ x, k.lastI = x := ⟨_, rfl⟩
      try unfold Kn.val at HC
      try rw [hn] at HC
      try rw [ho] at HC
      try rw [hl'] at HC
      try rw [hm] at HC
      try rw [hb] at HC
      try rw [hq] at HC
      try unfold Kn.val at HN
      try rw [hn] at HN
      try rw [ho] at HN
      try rw [hl'] at HN
      try rw [hm] at HN
      try rw [hb] at HN
      try rw [hq] at HN
      try unfold Kn.val at HG
      try rw [hn] at HG
      try rw [ho] at HG
      try rw [hl'] at HG
      try rw [hm] at HG
      try rw [hb] at HG
      try rw [hq] at HG
      simp only [Kn.val, hn, ho, hl', hm, hb, hq]
      have HC := Lib.hid HC
      have HN := Lib.hid HN
      have HG := Lib.hid HG
      clear hps hpw hfe hcl h1 hr h hn ho hl' hm hb hq hx0 hg
      go_enter Try.func90, Try.ntmps90
      go_wp2_with fail
      refine (HC.out _).mono ?_
      rintro e w1 ⟨rfl, hb1⟩
      obtain ⟨q0, q1, q2, q3, q4, q5, B1⟩ := box6_call hb1 (Below.refl _ _)
      go_wp2_with fail
      refine (HG.out _).mono ?_
      rintro e w2 ⟨rfl, hb2⟩
      clear q0 q1 q2 q3 q4 q5
      obtain ⟨q0, q1, q2, q3, q4, q5, B2⟩ := box6_call hb2 (B1)
      go_wp2_with fail
      refine (HN.out _).mono ?_
      rintro e w3 ⟨rfl, hb3⟩
      clear q0 q1 q2 q3 q4 q5
      obtain ⟨q0, q1, q2, q3, q4, q5, B3⟩ := box6_call hb3 (B2)
      go_wp2_with fail
      go_ret
      exact ⟨rfl, ((Below.refl _ _).alloc (Nat.le_refl _) _).trans (B3.mono (by simp))⟩
    · have HG := fun W => specL2Grows k A c false W h ⟨fun e => Bool.noConfusion e, fun hh => absurd hh hg⟩
      have hrt : r = false := by
        cases r with
        | false => rfl
        | true =>
          rcases hr.1 rfl with hh | ⟨hh, _⟩
          · exact absurd hh h1
          · exact absurd hh hg
      subst hrt
      obtain ⟨n, hn⟩ : ∃ x, k.ps.length = x := ⟨_, rfl⟩
      obtain ⟨o, ho⟩ : ∃ x, k.o = x := ⟨_, rfl⟩
      obtain ⟨l, hl'⟩ : ∃ x, k.l = x := ⟨_, rfl⟩
      obtain ⟨m, hm⟩ : ∃ x, k.m = x := ⟨_, rfl⟩
      obtain ⟨b, hb⟩ : ∃ x, k.base = x := ⟨_, rfl⟩
      obtain ⟨q, hq⟩ : ∃ x, k.lastI = x := ⟨_, rfl⟩
      try unfold Kn.val at HC
      try rw [hn] at HC
      try rw [ho] at HC
      try rw [hl'] at HC
      try rw [hm] at HC
      try rw [hb] at HC
      try rw [hq] at HC
      try unfold Kn.val at HG
      try rw [hn] at HG
      try rw [ho] at HG
      try rw [hl'] at HG
      try rw [hm] at HG
      try rw [hb] at HG
      try rw [hq] at HG
      simp only [Kn.val, hn, ho, hl', hm, hb, hq]
      have HC := Lib.hid HC
      have HG := Lib.hid HG
      clear hps hpw hfe hcl h1 hr h hn ho hl' hm hb hq hg HN
      go_enter Try.func90, Try.ntmps90
      go_wp2_with fail
      refine (HC.out _).mono ?_
      rintro e w1 ⟨rfl, hb1⟩
      obtain ⟨q0, q1, q2, q3, q4, q5, B1⟩ := box6_call hb1 (Below.refl _ _)
      go_wp2_with fail
      refine (HG.out _).mono ?_
      rintro e w2 ⟨rfl, hb2⟩
      clear q0 q1 q2 q3 q4 q5
      obtain ⟨q0, q1, q2, q3, q4, q5, B2⟩ := box6_call hb2 (B1)
      go_wp2_with fail
      go_ret
      exact ⟨rfl, ((Below.refl _ _).alloc (Nat.le_refl _) _).trans (B2.mono (by simp))⟩

end Go.Proofs.Ythfckbfllodcjaa
