/-
  Draws for JoinContainers and TakeBlocks.
-/
import Derived.Test.YthfckbfllodcjaaDrawBad
import Derived.Test.YthfckbfllodcjaaContSpec
namespace Go.Proofs.Ythfckbfllodcjaa
open Go.RowKit
set_option linter.unusedVariables false

/-- Two drawn strings. -/
def TwoS (M : Nat) (w : World) (e : Ending) (w' : World) : Prop := ∃ s t : ByteArray, e = .returned (.tuple #[.string s, .string t]) ∧ s.size ≤ M ∧ t.size ≤ M ∧ Below w.heap.size w w'

set_option maxHeartbeats 4000000 in
theorem specDrawJoinContainers (A : Option Addr) (n c : Nat) (bs : List UInt8) (w : World) (h : ByteRow w A n bs) (hnc : n ≤ c) :
    Calls Try.prog 5 #[.slice A n c] w (TwoS 10000 w) := by
  go_enter Try.func5, Try.ntmps5
  go_wp2_with fail
  refine (specL9Open A n c bs _ h hnc).mono ?_
  rintro e w1 ⟨rfl, hrd, hb1⟩
  have hz1 := hb1.size
  have hglt := hrd.lt
  obtain ⟨g, hg⟩ : ∃ g, w.heap.size = g := ⟨_, rfl⟩
  rw [hg] at hrd hb1 hz1 hglt
  rw [hg]
  replace hg := Lib.hid hg
  replace hb1 := Lib.hid hb1
  go_wp2_with fail
  refine (specL5Some g 0 _ hrd (by omega)).mono ?_
  rintro e w2 ⟨o, l, m, d, s, rfl, ho, hl1, hl8, hlm, hm, hd, hs, hd2⟩
  have hz2 := hd2.size
  have HW := Lib.hid (fun (n P : Nat) (W : World) (h1 : RdAt W g P) (h2 : P ≤ 700000) (h3 : n ≤ 500) => specL5Wild g P o l m n W h1 h2 hl1 hl8 h3)
  obtain ⟨b, hb⟩ : ∃ b, w2.heap.size = b := ⟨_, rfl⟩
  have hset : SetAt (w2.alloc (.cells #[.int .i64 (o : Int), .int .i64 (l : Int), .int .i64 (m : Int)] 38)) b o l m := by subst hb; exact heap_alloc_new w2 _
  have hbg : b ≠ g := by omega
  have hdA := hd2.alloc (.cells #[.int .i64 (o : Int), .int .i64 (l : Int), .int .i64 (m : Int)] 38)
  have D1 : Hid (Dr g (0 + 2000) w1 (w2.alloc (.cells #[.int .i64 (o : Int), .int .i64 (l : Int), .int .i64 (m : Int)] 38)).drew) := Lib.hid hdA.drew
  have T1 : Hid (SetAt (w2.alloc (.cells #[.int .i64 (o : Int), .int .i64 (l : Int), .int .i64 (m : Int)] 38)).drew b o l m) := Lib.hid hset
  have S1 := Lib.hid T1.out.cells
  clear hset hdA hd2 hrd
  go_wp2_with fail
  go_region_held3 (fun w' => w'.cell? ⟨b, 0, none⟩ = some (.int .i64 (o : Int)) ∧ w'.cell? ⟨b, 1, none⟩ = some (.int .i64 (l : Int)) ∧ w'.cell? ⟨b, 2, none⟩ = some (.int .i64 (m : Int))) (first | with_reducible exact S1.out | with_reducible exact S2.out | with_reducible exact S3.out | with_reducible exact S4.out) (first
    | (go_at_call 16; refine (HW.out 40 2000 _ (D1.out.rd.more (by omega)) (by omega) (by omega)).mono ?_; rintro e w3 ⟨t, rfl, ht, hd3⟩; have S2 := Lib.hid (T1.out.dr hd3 hbg).cells; have T2 := Lib.hid (T1.out.dr hd3 hbg); have D2 := Lib.hid (D1.out.trans hd3); clear hd3)
    | (go_at_call 17; refine (specPick g (2000 + 1100) 20 _ D2.out.rd (by omega) (by omega) (by omega)).mono ?_; rintro e w4 ⟨r, rfl, hr, _, hd4⟩; have T3 := Lib.hid (T2.out.dr hd4 hbg); have S3 := Lib.hid T3.out.cells; have D3 := Lib.hid (D2.out.trans hd4); obtain ⟨r2, hr2⟩ : ∃ r2 : Nat, (1 : Int) + r = r2 := ⟨1 + r, by omega⟩; have wr2 : IntKind.i64.wrap (r2 : Int) = r2 := IntWalk.i64_in _ (by omega); clear hd4 hr)
    | (go_at_call 15; refine (specMakeAny o l m r2 d t _ (by omega) (by omega)).mono ?_; rintro e w5 ⟨u, bb, rfl, hu, hb5⟩; have T4 := Lib.hid (T3.out.below hb5 (Nat.le_refl _)); have S4 := Lib.hid T4.out.cells; have D4 := Lib.hid (D3.out.then_below hb5); clear hb5))
  go_wp2_with fail
  refine (specL5Bad g 4000 s _ (D4.out.rd.more (by omega)) (by omega) (by omega)).mono ?_
  rintro e w6 ⟨s2, rfl, hs2, hd6⟩
  have D6 := Lib.hid (D4.out.trans hd6)
  clear hd6
  go_wp2_with fail
  refine (specL5Bad g 4010 u _ D6.out.rd (by omega) (by omega)).mono ?_
  rintro e w7 ⟨u2, rfl, hu2, hd7⟩
  have D7 := Lib.hid (D6.out.trans hd7)
  clear hd7
  go_wp2_with fail
  go_returns
  exact ⟨_, _, rfl, by omega, by omega, by rw [hg.out]; exact hb1.out.trans (D7.out.below (Nat.le_refl _) hglt)⟩

/-- A drawn string and two numbers. -/
def StrTwoInt (M : Nat) (w : World) (e : Ending) (w' : World) : Prop := ∃ (s : ByteArray) (a b : Int), e = .returned (.tuple #[.string s, .int .i64 a, .int .i64 b]) ∧ s.size ≤ M ∧ (-9223372036854775808 ≤ a ∧ a ≤ 9223372036854775807) ∧ (-9223372036854775808 ≤ b ∧ b ≤ 9223372036854775807) ∧ Below w.heap.size w w'

theorem specContainerBlocks (s : ByteArray) (w : World) (hs : s.size ≤ 1048576) :
    Calls Try.prog 24 #[.string s] w (BlksPost w (contB s)) := by
  obtain ⟨R, hR⟩ : ∃ R, contB s = R := ⟨_, rfl⟩
  have H := specL5Blocks s w hs
  rw [hR] at H ⊢
  go_enter Try.func24, Try.ntmps24
  go_wp2_with fail
  refine H.mono ?_
  rintro e w1 ⟨A, c, rfl, ho, hb⟩
  go_wp2_with fail
  go_returns
  exact ⟨A, c, rfl, ho, hb⟩

theorem wrap_range (x : Int) : -9223372036854775808 ≤ wrap64 x ∧ wrap64 x ≤ 9223372036854775807 := by
  unfold wrap64
  omega

set_option maxHeartbeats 4000000 in
theorem specDrawTakeBlocks (A : Option Addr) (n c : Nat) (bs : List UInt8) (w : World) (h : ByteRow w A n bs) (hnc : n ≤ c) :
    Calls Try.prog 11 #[.slice A n c] w (StrTwoInt 10000 w) := by
  go_enter Try.func11, Try.ntmps11
  go_wp2_with fail
  refine (specL9Open A n c bs _ h hnc).mono ?_
  rintro e w1 ⟨rfl, hrd, hb1⟩
  have hz1 := hb1.size
  have hglt := hrd.lt
  obtain ⟨g, hg⟩ : ∃ g, w.heap.size = g := ⟨_, rfl⟩
  rw [hg] at hrd hb1 hz1 hglt
  rw [hg]
  replace hg := Lib.hid hg
  replace hb1 := Lib.hid hb1
  go_wp2_with fail
  refine (specL5Some g 0 _ hrd (by omega)).mono ?_
  rintro e w2 ⟨o, l, m, d, s, rfl, ho, hl1, hl8, hlm, hm, hd, hs, hd2⟩
  have hz2 := hd2.size
  have hdA := Lib.hid (hd2.alloc (.cells #[.int .i64 (o : Int), .int .i64 (l : Int), .int .i64 (m : Int)] 38))
  have hcs : ((contB s).getD []).length ≤ 40 := by
    cases hc : contB s with
    | none => exact Nat.zero_le _
    | some x => exact (contB_numbered hc).length
  have H := fun W => specContainerBlocks s W (by omega)
  obtain ⟨R, hR⟩ : ∃ R, contB s = R := ⟨_, rfl⟩
  rw [hR] at hcs H
  unfold BlksPost at H
  obtain ⟨q, hq⟩ : ∃ q, (R.getD []).length = q := ⟨_, rfl⟩
  obtain ⟨bl, hbl⟩ : ∃ q, R.isSome = q := ⟨_, rfl⟩
  rw [hq, hbl] at H
  rw [hq] at hcs
  replace H := Lib.hid H
  clear hR hq hbl hd2 hrd
  go_wp2_with fail
  refine (H.out _).mono ?_
  rintro e w3 ⟨A3, c3, rfl, _, hb3⟩
  have D3 := Lib.hid (hdA.out.then_below hb3)
  clear hb3
  go_wp2_with fail
  refine (specL5RangeB g 2000 q _ (D3.out.rd.more (by omega)) (by omega) (by omega)).mono ?_
  rintro e w4 ⟨f, t, rfl, hf, ht, hd4⟩
  have D4 := Lib.hid (D3.out.trans hd4)
  replace hf := Lib.hid hf
  replace ht := Lib.hid ht
  have hw := Lib.hid (wrap_range (t - f))
  clear hd4
  go_wp2_with fail
  refine (specL5Bad g 2004 s _ D4.out.rd (by omega) (by omega)).mono ?_
  rintro e w5 ⟨s2, rfl, hs2, hd5⟩
  have D5 := Lib.hid (D4.out.trans hd5)
  clear hd5
  go_wp2_with fail
  go_returns
  exact ⟨_, _, _, rfl, by omega, hf.out, hw.out, by rw [hg.out]; exact hb1.out.trans (D5.out.below (Nat.le_refl _) hglt)⟩

end Go.Proofs.Ythfckbfllodcjaa
