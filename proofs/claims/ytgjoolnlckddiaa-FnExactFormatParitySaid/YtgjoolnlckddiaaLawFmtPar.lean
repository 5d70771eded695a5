/-
  The walk of the law FnExactFormatParity: it returns true for all arguments, because both functions write the same text.
-/
import Derived.Test.YtgjoolnlckddiaaFmtPar
namespace Go.Proofs.Ytgjoolnlckddiaa
open Go.RowKit
set_option linter.unusedVariables false

set_option maxHeartbeats 2000000 in
theorem lawFnExactFormatParity (A : Option Addr) (n c : Nat) (ss : List ByteArray) (w : World) (h : StrRow w A n ss) :
    Calls Try.prog 3 #[.slice A n c] w fun e w' => e = .returned (.bool true) ∧ Below w.heap.size w w' := by
  have hlen := h.len
  have HLEN := Lib.hid hlen
  have HS := fun A n c Q W h1 h2 h3 h4 h5 => specFormatParity A n c Q ss W h1 h2 h3 h4 h5
  have HI := fun A n c Q W h1 h2 h3 h4 h5 => implFormatParity A n c Q ss W h1 h2 h3 h4 h5
  obtain ⟨t, ht⟩ : ∃ t, fmtPar ss = t := ⟨_, rfl⟩
  rw [ht] at HS HI
  have HS := Lib.hid HS
  have HI := Lib.hid HI
  clear ht hlen
  go_enter Try.func3, Try.ntmps3
  go_wp2_with fail
  refine (lawsSzStringS A n c ss _ _ h (by omega) (by omega)).mono ?_
  rintro e w0 ⟨rfl, r, rfl, hr⟩
  rcases hr with hr | ⟨hr, htot⟩
  · go_wp2_with fail
    go_ret
    exact ⟨rfl, Below.refl _ _⟩
  · have hr0 : 0 ≤ r := by omega
    have hn : n ≤ 1048576 := by omega
    have hnl : ss.length ≤ 1048576 := by rw [HLEN.out]; exact hn
    have hss : ∀ s ∈ ss, s.size ≤ 1048576 := fun s hs => by have := sumSz_mem hs; omega
    clear hr
    go_wp2_with fail
    refine (lawsToStringS A n c ss _ h hn).mono ?_
    rintro e w1 ⟨A1, c1, rfl, hown1, hb1⟩
    go_wp2_with fail
    refine (HS.out A1 ss.length c1 w1.heap.size _ rfl hnl (Row.of_own hown1) (Nat.le_refl _) hss).mono ?_
    rintro e w2 ⟨rfl, hb2⟩
    have hb02 := hb1.trans (hb2.mono hb1.size)
    clear hown1 hb1 hb2
    go_wp2_with fail
    refine (lawsToStringS A n c ss _ (h.below hb02) hn).mono ?_
    rintro e w3 ⟨A3, c3, rfl, hown3, hb3⟩
    have hb03 := hb02.trans (hb3.mono hb02.size)
    go_wp2_with fail
    refine (HI.out A3 ss.length c3 w3.heap.size _ rfl hnl (Row.of_own hown3) (Nat.le_refl _) hss).mono ?_
    rintro e w4 ⟨rfl, hb4⟩
    have hb04 := hb03.trans (hb4.mono hb03.size)
    have hown3 := own_below hown3 hb4 (Nat.le_refl _)
    clear hb4 hb3 hb02 hb03
    go_wp2_with fail
    refine (lawsToStringS A n c ss _ (h.below hb04) hn).mono ?_
    rintro e w6 ⟨A6, c6, rfl, hown6, hb6⟩
    have hb06 := hb04.trans (hb6.mono hb04.size)
    have hown3 := own_below hown3 hb6 (Nat.le_refl _)
    go_wp2_with fail
    refine (lawsEqStringS A3 A6 ss.length c3 c6 _ _ ss _ rfl hnl (Row.of_own hown3) (Row.of_own hown6)).mono ?_
    rintro e w7 ⟨rfl, hd7⟩
    go_wp2_with fail
    go_ret
    exact ⟨rfl, hb06.trans (hd7.below _)⟩

end Go.Proofs.Ytgjoolnlckddiaa
