/-
  The walk of the law FnExactLostNumbers: it returns true for all arguments, because both functions return the same numbers, in new memory.
-/
import Derived.Test.YtjbicmlilgimlaaLostImpl
namespace Go.Proofs.Ytjbicmlilgimlaa
open Go.RowKit
set_option linter.unusedVariables false

theorem lostOf_length (ps : List Pc) (count : Int) : (lostOf ps count).length ≤ 40 := by
  unfold lostOf
  split
  · rename_i h
    have := lostI_length ps count.toNat
    have := h.2.1
    omega
  · simp

/-- A slice that is owned lies in another block than one that was made later. -/
theorem own_ne {w w' : World} {base base' size size' n n' : Nat} {e e' : TypeId} {v v' : Value} {xs xs' : List Value} (h : w.ownsRow base e size v n xs) (h' : w'.ownsRow base' e' size' v' n' xs') (hb : w.heap.size ≤ base') :
    v.ownBlock = none ∨ v.ownBlock ≠ v'.ownBlock := by
  rcases hv : v.ownBlock with _ | g
  · exact .inl rfl
  · refine .inr fun e => ?_
    have h1 := (h.lt g hv).2
    have h2 := (h'.lt g e.symm).1
    omega

theorem own_ne' {w w' : World} {base base' size size' n n' : Nat} {e e' : TypeId} {v v' : Value} {xs xs' : List Value} (h : w.ownsRow base e size v n xs) (h' : w'.ownsRow base' e' size' v' n' xs') (hb : w.heap.size ≤ base') :
    v'.ownBlock = none ∨ v'.ownBlock ≠ v.ownBlock := by
  rcases hv : v'.ownBlock with _ | g
  · exact .inl rfl
  · refine .inr fun e => ?_
    have h1 := (h'.lt g hv).1
    have h2 := (h.lt g e.symm).2
    omega

set_option maxHeartbeats 4000000 in
theorem lawFnExactLostNumbers (A : Option Addr) (n c : Nat) (ps : List Pc) (count : Int) (wf : (Lit.int .i64 count).wf = true) (w : World) (h : PcRow w A n ps) :
    Calls Try.prog 9 #[.slice A n c, .int .i64 count] w fun e w' => e = .returned (.bool true) ∧ Below w.heap.size w w' := by
  obtain ⟨hcl, hch⟩ : -9223372036854775808 ≤ count ∧ count ≤ 9223372036854775807 := by simpa [Lit.wf, IntKind.min, IntKind.max, IntKind.signed, IntKind.bits] using wf
  have hwf := h.each
  have hlen := h.len
  have HLEN := Lib.hid hlen
  have hzl := lostOf_length ps count
  obtain ⟨zs, hzs⟩ : ∃ zs, lostOf ps count = zs := ⟨_, rfl⟩
  have HS := fun A n c B W h1 h2 h3 => specLostNumbers A n c B ps count W h1 h2 h3 hwf hcl hch
  have HI := fun A n c B W h1 h2 h3 => implLostNumbers A n c B ps count W h1 h2 h3 hwf hcl hch
  rw [hzs] at HS HI hzl
  have HS := Lib.hid HS
  have HI := Lib.hid HI
  clear hzs hlen hwf wf
  go_enter Try.func9, Try.ntmps9
  go_wp2_with fail
  refine (lawsSzPieceS A n c ps _ _ h (by omega) (by omega)).mono ?_
  rintro e w0 ⟨hb0, r, rfl, hr⟩
  rcases hr with hr | ⟨hr, htot⟩
  · go_wp2_with fail
    go_ret
    exact ⟨rfl, hb0⟩
  · have hr0 : 0 ≤ r := by omega
    have hn : n ≤ 1048576 := by omega
    have hnl : ps.length ≤ 1048576 := by rw [HLEN.out]; exact hn
    clear hr
    go_wp2_with fail
    refine (lawsToPieceS A n c ps _ (h.below hb0) hn).mono ?_
    rintro e w1 ⟨A1, c1, rfl, hown1, hb1⟩
    have hb01 := hb0.trans (hb1.mono hb0.size)
    go_wp2_with fail
    refine (HS.out A1 ps.length c1 w1.heap.size _ (Row.of_own hown1) (Nat.le_refl _) hnl).mono ?_
    rintro e w2 ⟨A2, c2, rfl, hown2, hb2⟩
    have hb02 := hb01.trans (hb2.mono hb01.size)
    clear hown1 hb1 hb2 hb01
    go_wp2_with fail
    refine (lawsToPieceS A n c ps _ (h.below hb02) hn).mono ?_
    rintro e w3 ⟨A3, c3, rfl, hown3, hb3⟩
    have hb03 := hb02.trans (hb3.mono hb02.size)
    have hne23 := own_ne hown2 hown3 (Nat.le_refl _)
    have hb2l := fun g hg => (hown2.lt g hg).1
    have hown2 := own_below hown2 hb3 (Nat.le_refl _)
    have hle12 := Nat.le_trans hb0.size (Nat.le_refl _)
    go_wp2_with fail
    refine (HI.out A3 ps.length c3 w3.heap.size _ (Row.of_own hown3) (Nat.le_refl _) hnl).mono ?_
    rintro e w4 ⟨A4, c4, rfl, hown4, hb4⟩
    have hb04 := hb03.trans (hb4.mono hb03.size)
    have hne24 := own_ne hown2 hown4 (Nat.le_refl _)
    have hne43 := own_ne' hown3 hown4 (Nat.le_refl _)
    have hown2 := own_below hown2 hb4 (Nat.le_refl _)
    have hown3 := own_below hown3 hb4 (Nat.le_refl _)
    go_wp2_with fail
    refine (lawsEqIntS A4 A2 zs.length c4 c2 w4.heap.size w4.heap.size zs _ rfl (by omega) (Row.of_own hown4) (Row.of_own hown2)).mono ?_
    rintro e w5 ⟨rfl, hd5⟩
    have hb5 := hd5.below w4.heap.size
    have hb05 := hb04.trans (hd5.below _)
    have hown2 := own_below hown2 hb5 (Nat.le_refl _)
    have hown3 := own_below hown3 hb5 (Nat.le_refl _)
    have hown4 := own_below hown4 hb5 (Nat.le_refl _)
    clear hd5 hb5 hb4 hb3
    go_wp2_with fail
    refine (lawsToPieceS A n c ps _ (h.below hb05) hn).mono ?_
    rintro e w6 ⟨A6, c6, rfl, hown6, hb6⟩
    have hb06 := hb05.trans (hb6.mono hb05.size)
    have hown2 := own_below hown2 hb6 (Nat.le_refl _)
    have hown3 := own_below hown3 hb6 (Nat.le_refl _)
    have hown4 := own_below hown4 hb6 (Nat.le_refl _)
    go_wp2_with fail
    refine (lawsEqPieceS A3 A6 ps.length c3 c6 ps _ hnl (Row.of_own hown3) (Row.of_own hown6)).mono ?_
    rintro e w7 ⟨rfl, hb7⟩
    have hb07 := hb06.trans (hb7.mono hb06.size)
    have hown2 := own_below hown2 hb7 (Nat.le_refl _)
    have hown3 := own_below hown3 hb7 (Nat.le_refl _)
    have hown4 := own_below hown4 hb7 (Nat.le_refl _)
    clear hown6 hb6 hb7
    go_wp2_with fail
    refine (lawsMarkPieceS _ A3 ps.length c3 ps _ hnl hown3).mono ?_
    rintro e w8 ⟨rfl, hg8⟩
    have hb08 : Below w.heap.size w w8 := hb07.grown hg8 hb07.size (fun g hg => Nat.le_trans hb02.size (hown3.lt g hg).1)
    have hown2 := hown2.kept hg8 hne23
    have hown4 := hown4.kept hg8 hne43
    clear hg8 hown3
    go_wp2_with fail
    refine (lawsEqIntS A4 A2 zs.length c4 c2 w8.heap.size w8.heap.size zs _ rfl (by omega) (Row.of_own hown4) (Row.of_own hown2)).mono ?_
    rintro e w9 ⟨rfl, hd9⟩
    have hb9 := hd9.below w8.heap.size
    have hb09 := hb08.trans (hd9.below _)
    have hown2 := own_below hown2 hb9 (Nat.le_refl _)
    have hown4 := own_below hown4 hb9 (Nat.le_refl _)
    clear hd9 hb9
    go_wp2_with fail
    refine (lawsMarkIntS _ A4 zs.length c4 zs 1 _ rfl (by omega) (by omega) (by omega) hown4).mono ?_
    rintro e w10 ⟨rfl, hownm, hg10⟩
    have hb010 : Below w.heap.size w w10 := hb09.grown hg10 hb09.size (fun g hg => Nat.le_trans hb03.size (hown4.lt g hg).1)
    have hown2 := hown2.kept hg10 hne24
    clear hg10 hown4
    go_wp2_with fail
    refine (lawsHeldIntS A4 zs.length c4 _ 1 _ (by omega) (by omega) (by omega) (Row.of_own hownm)).mono ?_
    rintro e w11 ⟨rfl, rfl⟩
    go_wp2_with fail
    refine (lawsToPieceS A n c ps _ (h.below hb010) hn).mono ?_
    rintro e w12 ⟨A12, c12, rfl, hown12, hb12⟩
    have hb012 := hb010.trans (hb12.mono hb010.size)
    have hown2 := own_below hown2 hb12 (Nat.le_refl _)
    have hownm := own_below hownm hb12 (Nat.le_refl _)
    go_wp2_with fail
    refine (HI.out A12 ps.length c12 w12.heap.size _ (Row.of_own hown12) (Nat.le_refl _) hnl).mono ?_
    rintro e w13 ⟨A13, c13, rfl, hown13, hb13⟩
    have hb013 := hb012.trans (hb13.mono hb012.size)
    have hown2 := own_below hown2 hb13 (Nat.le_refl _)
    have hownm := own_below hownm hb13 (Nat.le_refl _)
    clear hown12 hb12 hb13
    go_wp2_with fail
    refine (lawsEqIntS A13 A2 zs.length c13 c2 w13.heap.size w13.heap.size zs _ rfl (by omega) (Row.of_own hown13) (Row.of_own hown2)).mono ?_
    rintro e w14 ⟨rfl, hd14⟩
    have hb014 := hb013.trans (hd14.below _)
    have hownm := own_below hownm (hd14.below w13.heap.size) (Nat.le_refl _)
    go_wp2_with fail
    refine (lawsHeldIntS A4 zs.length c4 _ 1 _ (by omega) (by omega) (by omega) (Row.of_own hownm)).mono ?_
    rintro e w15 ⟨rfl, rfl⟩
    go_wp2_with fail
    go_ret
    exact ⟨rfl, hb014⟩

end Go.Proofs.Ytjbicmlilgimlaa
