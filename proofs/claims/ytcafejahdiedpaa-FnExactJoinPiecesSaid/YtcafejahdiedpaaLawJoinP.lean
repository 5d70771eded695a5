/-
  The walk of the law FnExactJoinPieces: it returns true for all arguments, because both functions return the same data.
-/
import Derived.Test.YtcafejahdiedpaaJoinP
import Derived.Test.YtcafejahdiedpaaPcLaw
namespace Go.Proofs.Ytcafejahdiedpaa
open Go.RowKit
set_option linter.unusedVariables false

set_option maxHeartbeats 2000000 in
theorem lawFnExactJoinPieces (A : Option Addr) (n c : Nat) (ps : List Pc) (count : Int) (wf : (Lit.int .i64 count).wf = true) (size : Int) (wz : (Lit.int .i64 size).wf = true) (filler : Int) (wff : (Lit.int .i64 filler).wf = true) (w : World) (h : PcRow w A n ps) :
    Calls Try.prog 9 #[.slice A n c, .int .i64 count, .int .i64 size, .int .i64 filler] w fun e w' => e = .returned (.bool true) ∧ Below w.heap.size w w' := by
  obtain ⟨hcl, hch⟩ : -9223372036854775808 ≤ count ∧ count ≤ 9223372036854775807 := by simpa [Lit.wf, IntKind.min, IntKind.max, IntKind.signed, IntKind.bits] using wf
  obtain ⟨hfl, hfh⟩ : -9223372036854775808 ≤ filler ∧ filler ≤ 9223372036854775807 := by simpa [Lit.wf, IntKind.min, IntKind.max, IntKind.signed, IntKind.bits] using wff
  have hwf := h.each
  have hlen := h.len
  have HLEN := Lib.hid hlen
  have HS := fun A n c B W h1 h2 h3 => specJoinPieces A n c B ps count size filler W h1 h2 h3 hwf hcl hch hfl hfh
  have HI := fun A n c B W h1 h2 h3 => implJoinPieces A n c B ps count size filler W h1 h2 h3 hwf hfl hfh
  obtain ⟨⟨t, r⟩, hr⟩ : ∃ p, joinP ps count size filler = p := ⟨_, rfl⟩
  rw [hr] at HS HI
  simp only at HS HI
  have HS := Lib.hid HS
  have HI := Lib.hid HI
  clear hr hlen hwf wf wz wff hcl hch hfl hfh
  go_enter Try.func9, Try.ntmps9
  go_wp2_with fail
  refine (lawsSzPieceS A n c ps _ _ h (by omega) (by omega)).mono ?_
  rintro e w0 ⟨hb0, r', rfl, hr'⟩
  rcases hr' with hr' | ⟨hr', htot⟩
  · go_wp2_with fail
    go_ret
    exact ⟨rfl, hb0⟩
  · have hr0 : 0 ≤ r' := by omega
    have hn : n ≤ 1048576 := by omega
    have hnl : ps.length ≤ 1048576 := by rw [HLEN.out]; exact hn
    clear hr'
    go_wp2_with fail
    refine (lawsToPieceS A n c ps _ (h.below hb0) hn).mono ?_
    rintro e w1 ⟨A1, c1, rfl, hown1, hb1⟩
    have hb01 := hb0.trans (hb1.mono hb0.size)
    go_wp2_with fail
    refine (HS.out A1 ps.length c1 w1.heap.size _ (Row.of_own hown1) (Nat.le_refl _) hnl).mono ?_
    rintro e w2 ⟨rfl, hb2⟩
    have hb02 := hb01.trans (hb2.mono hb01.size)
    clear hown1 hb1 hb2 hb01
    go_wp2_with fail
    refine (lawsToPieceS A n c ps _ (h.below hb02) hn).mono ?_
    rintro e w3 ⟨A3, c3, rfl, hown3, hb3⟩
    have hb03 := hb02.trans (hb3.mono hb02.size)
    go_wp2_with fail
    refine (HI.out A3 ps.length c3 w3.heap.size _ (Row.of_own hown3) (Nat.le_refl _) hnl).mono ?_
    rintro e w4 ⟨rfl, hb4⟩
    have hb04 := hb03.trans (hb4.mono hb03.size)
    have hown3 := own_below hown3 hb4 (Nat.le_refl _)
    clear hb4 hb3 hb02 hb03
    go_wp2_with fail
    refine (lawsToPieceS A n c ps _ (h.below hb04) hn).mono ?_
    rintro e w6 ⟨A6, c6, rfl, hown6, hb6⟩
    have hb06 := hb04.trans (hb6.mono hb04.size)
    have hown3 := own_below hown3 hb6 (Nat.le_refl _)
    go_wp2_with fail
    refine (lawsEqPieceS A3 A6 ps.length c3 c6 ps _ hnl (Row.of_own hown3) (Row.of_own hown6)).mono ?_
    rintro e w7 ⟨rfl, hb7⟩
    go_wp2_with fail
    go_ret
    exact ⟨rfl, hb06.trans (hb7.mono hb06.size)⟩

end Go.Proofs.Ytcafejahdiedpaa
