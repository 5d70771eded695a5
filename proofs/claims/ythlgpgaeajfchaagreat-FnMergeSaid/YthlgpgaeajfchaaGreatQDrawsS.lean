/-
 The draws of ResizeBlocks and MergeBlocks.
-/
import Derived.Test.YthlgpgaeajfchaaGreatQDrawCont
import Derived.Deep.RegionHeld3

namespace Go.Proofs.YthlgpgaeajfchaaGreat
open Go.RowKit
set_option linter.unusedVariables false
set_option linter.unusedSimpArgs false
set_option maxRecDepth 100000

set_option maxHeartbeats 4000000 in
theorem specDrawContainerData (A : Option Addr) (n c : Nat) (bs : List UInt8) (w : World) (h : ByteRow w A n bs) (hnc : n ≤ c) :
  Calls Tryz.prog 50 #[.slice A n c] w (SetSS w) := by
 have hrow : ByteRow (w.alloc (.cells #[.int .i64 0, .int .i64 0, .int .i64 0] 24)) A n bs := h.below2 ((Below.refl _ _).alloc (Nat.le_refl _) _)
 have hW0 : Below w.heap.size w (w.alloc (.cells #[.int .i64 0, .int .i64 0, .int .i64 0] 24)) := (Below.refl w.heap.size w).alloc (Nat.le_refl _) _
 have zb0 := KBn.start w 24 [.int .i64 0, .int .i64 0, .int .i64 0]
 have hz0 : (w.alloc (.cells #[.int .i64 0, .int .i64 0, .int .i64 0] 24)).heap.size = w.heap.size + 1 := World.size_alloc ..
 go_enter Tryz.func50, Tryz.ntmps50
 go_upto_region 1 with (fail)
 obtain ⟨H, hH⟩ : ∃ H, w.heap.size = H := ⟨_, rfl⟩
 obtain ⟨w0, hw0⟩ : ∃ W, w.alloc (.cells #[.int .i64 0, .int .i64 0, .int .i64 0] 24) = W := ⟨_, rfl⟩
 change KBn (w.alloc (.cells #[.int .i64 0, .int .i64 0, .int .i64 0] 24)) _ _ at zb0
 rw [hw0] at hrow hW0 zb0 hz0 ⊢
 rw [hH] at zb0 hz0 ⊢
 clear hw0 h
 go_wp2_with fail
 refine (specL9Open A n c bs _ hrow hnc).mono ?_
 rintro e w1 ⟨rfl, hrd, hb1⟩
 have zb1 := zb0.below hb1
 have hW1 := hW0.trans (hb1.mono hW0.size)
 obtain ⟨g, hg⟩ : ∃ g, w0.heap.size = g := ⟨_, rfl⟩
 rw [hg] at hrd ⊢
 have hHg : H ≠ g := by omega
 have hwg : w.heap.size ≤ g := by omega
 have hwH : w.heap.size ≤ H := by omega
 have hglt := hrd.lt
 replace hW1 := Lib.hid hW1
 clear hb1 zb0 hW0 hrow hg hz0 hH
 go_wp2_with fail
 refine (specL5Some g 0 _ hrd (by omega)).mono ?_
 rintro e w2 ⟨o, l, m, d, s, rfl, ho, hl1, hl8, hlm, hm, hd, hs, hd2⟩
 have zb2 := (zb1.dr hd2 hHg).alloc (.cells #[.int .i64 (o : Int), .int .i64 (l : Int), .int .i64 (m : Int)] 24)
 have sb2 := KBn.start w2 24 [.int .i64 (o : Int), .int .i64 (l : Int), .int .i64 (m : Int)]
 change KBn (w2.alloc (.cells #[.int .i64 (o : Int), .int .i64 (l : Int), .int .i64 (m : Int)] 24)) _ _ at sb2
 have D2 := hd2.alloc (.cells #[.int .i64 (o : Int), .int .i64 (l : Int), .int .i64 (m : Int)] 24)
 have hbg' : w2.heap.size ≠ g := by have := hd2.size; omega
 clear hd2 hrd zb1
 go_upto_region 3 with (fail)
 obtain ⟨b, hb⟩ : ∃ b, w2.heap.size = b := ⟨_, rfl⟩
 obtain ⟨w3, hw3⟩ : ∃ W, w2.alloc (.cells #[.int .i64 (o : Int), .int .i64 (l : Int), .int .i64 (m : Int)] 24) = W := ⟨_, rfl⟩
 rw [hw3] at zb2 sb2 D2 ⊢
 rw [hb] at sb2 hbg' ⊢
 clear hw3 hb
 have zb3 := Lib.hid zb2
 have sb3 := Lib.hid sb2
 have D3 := Lib.hid D2
 clear zb2 sb2 D2
 go_wp2_with fail
 refine (specPick g 2000 12 _ (D3.out.rd.more (by omega)) (by omega) (by omega) (by omega)).mono ?_
 rintro e w4 ⟨r, rfl, _, _, hd4⟩
 have zb4 := Lib.hid (zb3.out.dr hd4 hHg)
 have sb4 := Lib.hid (sb3.out.dr hd4 hbg')
 have D4 := Lib.hid (D3.out.trans hd4)
 clear hd4 zb3 sb3 D3
 by_cases h0 : r = 0
 ·subst h0
  have HD := fun (n P : Nat) (W : World) (h1 : RdAt W g P) (h2 : P ≤ 800000) (h3 : n ≤ 5000) => specL1Data g P o l m n W h1 h2 hl1 hl8 h3
  unfold setV at HD
  have q0 := sb4.out.c 0 _ rfl
  have q1 := sb4.out.c 1 _ rfl
  have q2 := sb4.out.c 2 _ rfl
  go_wp2_with fail
  refine (HD 8 2001 _ (D4.out.rd.more (by omega)) (by omega) (by omega)).mono ?_
  rintro e w5 ⟨d2, rfl, hd2s, hd5⟩
  have zb5 := Lib.hid (zb4.out.dr hd5 hHg)
  have sb5 := Lib.hid (sb4.out.dr hd5 hbg')
  have D5 := Lib.hid (D4.out.trans hd5)
  clear q0 q1 q2
  clear hd5 zb4 sb4 D4
  have q0 := sb5.out.c 0 _ rfl
  have q1 := sb5.out.c 1 _ rfl
  have q2 := sb5.out.c 2 _ rfl
  go_wp2_with fail
  refine (specL1Bad g 3000 o l m _ (D5.out.rd.more (by omega)) (by omega) hl8).mono ?_
  rintro e w6 ⟨o2, l2, m2, rfl, hd6⟩
  have zb6 := Lib.hid (zb5.out.dr hd6 hHg)
  have sb6 := Lib.hid (sb5.out.dr hd6 hbg')
  have D6 := Lib.hid (D5.out.trans hd6)
  clear q0 q1 q2
  clear hd6 zb5 sb5 D5
  go_wp2_with fail
  refine (specL5Bad g 3002 s _ (D6.out.rd.more (by omega)) (by omega) (by omega)).mono ?_
  rintro e w7 ⟨s2, rfl, hs2, hd7⟩
  have zb7 := Lib.hid (zb6.out.dr hd7 hHg)
  have sb7 := Lib.hid (sb6.out.dr hd7 hbg')
  have D7 := Lib.hid (D6.out.trans hd7)
  clear hd7 zb6 sb6 D6
  have zz := zb7.out
  have r0 := zz.c 0 _ rfl
  have r1 := zz.c 1 _ rfl
  have r2 := zz.c 2 _ rfl
  have y0 := zz.f 0 _ rfl
  have y1 := zz.f 1 _ rfl
  have y2 := zz.f 2 _ rfl
  have hfin := Lib.hid (below_set3 (hW1.out.trans (D7.out.below (C := w.heap.size) hwg hglt)) hwH (.int .i64 o2) (.int .i64 l2) (.int .i64 m2))
  clear zz zb7 sb7 D7
  go_wp2_with fail
  refine bodyPost_ret (v := .tuple #[.agg #[.int .i64 o2, .int .i64 l2, .int .i64 m2], .string d2, .string s2]) (by simp [results, Tryz.results50, go_sem, r0, r1, r2]) rfl ?_
  exact ⟨_, _, _, _, _, rfl, by omega, by omega, hfin.out⟩
 ·have q0 := sb4.out.c 0 _ rfl
  have q1 := sb4.out.c 1 _ rfl
  have q2 := sb4.out.c 2 _ rfl
  go_wp2_with fail
  refine (specL1Bad g 3000 o l m _ (D4.out.rd.more (by omega)) (by omega) hl8).mono ?_
  rintro e w5 ⟨o2, l2, m2, rfl, hd5⟩
  have zb5 := Lib.hid (zb4.out.dr hd5 hHg)
  have sb5 := Lib.hid (sb4.out.dr hd5 hbg')
  have D5 := Lib.hid (D4.out.trans hd5)
  clear q0 q1 q2
  clear hd5 zb4 sb4 D4
  go_wp2_with fail
  refine (specL5Bad g 3002 s _ (D5.out.rd.more (by omega)) (by omega) (by omega)).mono ?_
  rintro e w6 ⟨s2, rfl, hs2, hd6⟩
  have zb6 := Lib.hid (zb5.out.dr hd6 hHg)
  have sb6 := Lib.hid (sb5.out.dr hd6 hbg')
  have D6 := Lib.hid (D5.out.trans hd6)
  clear hd6 zb5 sb5 D5
  have zz := zb6.out
  have r0 := zz.c 0 _ rfl
  have r1 := zz.c 1 _ rfl
  have r2 := zz.c 2 _ rfl
  have y0 := zz.f 0 _ rfl
  have y1 := zz.f 1 _ rfl
  have y2 := zz.f 2 _ rfl
  have hfin := Lib.hid (below_set3 (hW1.out.trans (D6.out.below (C := w.heap.size) hwg hglt)) hwH (.int .i64 o2) (.int .i64 l2) (.int .i64 m2))
  clear zz zb6 sb6 D6
  go_wp2_with fail
  refine bodyPost_ret (v := .tuple #[.agg #[.int .i64 o2, .int .i64 l2, .int .i64 m2], .string d, .string s2]) (by simp [results, Tryz.results50, go_sem, r0, r1, r2]) rfl ?_
  exact ⟨_, _, _, _, _, rfl, by omega, by omega, hfin.out⟩

end Go.Proofs.YthlgpgaeajfchaaGreat

namespace Go.Proofs.YthlgpgaeajfchaaGreat
open Go.RowKit
set_option linter.unusedVariables false
set_option linter.unusedSimpArgs false
set_option maxRecDepth 100000

theorem KBn.three {w : World} {H b : Nat} {a0 a1 a2 : Value} (h : KBn w b [a0, a1, a2]) (hne : H ≠ b) (x y z : Value) :
  (((w.setCell ⟨H, 0, none⟩ x).setCell ⟨H, 1, none⟩ y).setCell ⟨H, 2, none⟩ z).cell? ⟨b, 0, none⟩ = some a0 ∧ (((w.setCell ⟨H, 0, none⟩ x).setCell ⟨H, 1, none⟩ y).setCell ⟨H, 2, none⟩ z).cell? ⟨b, 1, none⟩ = some a1 ∧ (((w.setCell ⟨H, 0, none⟩ x).setCell ⟨H, 1, none⟩ y).setCell ⟨H, 2, none⟩ z).cell? ⟨b, 2, none⟩ = some a2 := by
 have hc : ∀ (W : World) (j i : Nat) (u : Value), (W.setCell ⟨H, i, none⟩ u).cell? ⟨b, j, none⟩ = W.cell? ⟨b, j, none⟩ := fun W j i u => World.cell?_setCell_other _ _ _ _ (by intro e; injection e; omega)
 simp only [hc]
 exact ⟨h.c 0 _ rfl, h.c 1 _ rfl, h.c 2 _ rfl⟩

set_option maxHeartbeats 4000000 in
theorem specDrawResizeBlocks (A : Option Addr) (n c : Nat) (bs : List UInt8) (w : World) (h : ByteRow w A n bs) (hnc : n ≤ c) :
  Calls Tryz.prog 13 #[.slice A n c] w (SetSSI w) := by
 have hrow : ByteRow (w.alloc (.cells #[.int .i64 0, .int .i64 0, .int .i64 0] 24)) A n bs := h.below2 ((Below.refl _ _).alloc (Nat.le_refl _) _)
 have hW0 : Below w.heap.size w (w.alloc (.cells #[.int .i64 0, .int .i64 0, .int .i64 0] 24)) := (Below.refl w.heap.size w).alloc (Nat.le_refl _) _
 have zb0 := KBn.start w 24 [.int .i64 0, .int .i64 0, .int .i64 0]
 go_enter Tryz.func13, Tryz.ntmps13
 go_upto_region 1 with (fail)
 obtain ⟨H, hH⟩ : ∃ H, w.heap.size = H := ⟨_, rfl⟩
 obtain ⟨w0, hw0⟩ : ∃ W, w.alloc (.cells #[.int .i64 0, .int .i64 0, .int .i64 0] 24) = W := ⟨_, rfl⟩
 change KBn (w.alloc (.cells #[.int .i64 0, .int .i64 0, .int .i64 0] 24)) _ _ at zb0
 rw [hw0] at hrow hW0 zb0 ⊢
 have hwH : w.heap.size ≤ H := by omega
 rw [hH] at zb0 ⊢
 clear hw0 h hH
 go_wp2_with fail
 refine (specDrawContainerData A n c bs _ hrow hnc).mono ?_
 rintro e w1 ⟨o2, l2, m2, d, s, rfl, hd, hs, hb1⟩
 have sbx := KBn.start w1 24 [.int .i64 o2, .int .i64 l2, .int .i64 m2]
 change KBn (w1.alloc (.cells #[.int .i64 o2, .int .i64 l2, .int .i64 m2] 24)) _ _ at sbx
 have zb2 := (zb0.below hb1).alloc (.cells #[.int .i64 o2, .int .i64 l2, .int .i64 m2] 24)
 have hWx := (hW0.trans (hb1.mono hW0.size)).alloc (hW0.trans (hb1.mono hW0.size)).size (.cells #[.int .i64 o2, .int .i64 l2, .int .i64 m2] 24)
 have hHb : H < w1.heap.size := (zb0.below hb1).lt
 have hrow2 := (hrow.below2 hb1).below2 ((Below.refl _ _).alloc (Nat.le_refl _) (.cells #[.int .i64 o2, .int .i64 l2, .int .i64 m2] 24))
 go_upto_region 2 with (fail)
 obtain ⟨b, hb⟩ : ∃ b, w1.heap.size = b := ⟨_, rfl⟩
 obtain ⟨w3, hw3⟩ : ∃ W, w1.alloc (.cells #[.int .i64 o2, .int .i64 l2, .int .i64 m2] 24) = W := ⟨_, rfl⟩
 rw [hw3] at sbx zb2 hWx hrow2 ⊢
 rw [hb] at sbx hHb ⊢
 clear hw3 hb hb1 zb0 hW0 hrow
 go_wp2_with fail
 refine (specL9Open A n c bs _ hrow2 hnc).mono ?_
 rintro e w4 ⟨rfl, hrd, hb4⟩
 have zb4 := Lib.hid (zb2.below hb4)
 have sb4 := Lib.hid (sbx.below hb4)
 have hW4 := Lib.hid (hWx.trans (hb4.mono hWx.size))
 have hgs : w.heap.size ≤ w3.heap.size := hWx.size
 have hlb := sbx.lt
 have hlz := zb2.lt
 obtain ⟨g, hg⟩ : ∃ g, w3.heap.size = g := ⟨_, rfl⟩
 rw [hg] at hrd hgs hlb hlz ⊢
 clear hg hb4 sbx zb2 hWx hrow2
 have hHg : H ≠ g := by omega
 have hbg : b ≠ g := by omega
 have hglt := hrd.lt
 have hD0 : Hid (Dr g 0 w4 w4.drew) := Lib.hid (Dr.refl hrd).drew
 have sb4' := Lib.hid sb4.out.drew1
 have zb4' := Lib.hid zb4.out.drew1
 have S1 := Lib.hid (And.intro (sb4'.out.c 0 _ rfl) (And.intro (sb4'.out.c 1 _ rfl) (sb4'.out.c 2 _ rfl)))
 have hHb' : H ≠ b := by omega
 go_upto_region 3 with (fail)
 go_region_held3 (fun w' => w'.cell? ⟨b, 0, none⟩ = some (.int .i64 o2) ∧ w'.cell? ⟨b, 1, none⟩ = some (.int .i64 l2) ∧ w'.cell? ⟨b, 2, none⟩ = some (.int .i64 m2)) (first | with_reducible exact S1.out | with_reducible exact S2.out | with_reducible exact S3.out _ _ _) (first
  | (go_at_call 52; refine (specL6Size g 0 _ hD0.out.rd (by omega)).mono ?_; rintro e w5 ⟨z, rfl, hz, hd5⟩; have sb5 := Lib.hid (sb4'.out.dr hd5 hbg); have zz := Lib.hid (zb4'.out.dr hd5 hHg); have S2 := Lib.hid (And.intro (sb5.out.c 0 _ rfl) (And.intro (sb5.out.c 1 _ rfl) (sb5.out.c 2 _ rfl))); have S3 := Lib.hid (fun x y v => sb5.out.three hHb' x y v); have r0 := zz.out.c 0 _ rfl; have r1 := zz.out.c 1 _ rfl; have r2 := zz.out.c 2 _ rfl; have y0 := zz.out.f 0 _ rfl; have y1 := zz.out.f 1 _ rfl; have y2 := zz.out.f 2 _ rfl; have D5 := Lib.hid (hD0.out.trans hd5); clear hd5))
 have hfin := Lib.hid (below_set3 (hW4.out.trans (D5.out.below (C := w.heap.size) hgs hglt)) hwH (.int .i64 o2) (.int .i64 l2) (.int .i64 m2))
 replace hz := Lib.hid hz
 go_wp2_with fail
 refine bodyPost_ret (v := .tuple #[.agg #[.int .i64 o2, .int .i64 l2, .int .i64 m2], .string d, .string s, .int .i64 z]) (by simp [results, Tryz.results13, go_sem, r0, r1, r2]) rfl ?_
 exact ⟨_, _, _, _, _, _, rfl, hd, hs, hz.out, hfin.out⟩

set_option maxHeartbeats 1000000 in
theorem specDrawMergeBlocks (A : Option Addr) (n c : Nat) (bs : List UInt8) (w : World) (h : ByteRow w A n bs) (hnc : n ≤ c) :
  Calls Tryz.prog 19 #[.slice A n c] w (SetSSI w) := by
 have hrow : ByteRow (w.alloc (.cells #[.int .i64 0, .int .i64 0, .int .i64 0] 24)) A n bs := h.below2 ((Below.refl _ _).alloc (Nat.le_refl _) _)
 have hW0 : Below w.heap.size w (w.alloc (.cells #[.int .i64 0, .int .i64 0, .int .i64 0] 24)) := (Below.refl w.heap.size w).alloc (Nat.le_refl _) _
 have zb0 := KBn.start w 24 [.int .i64 0, .int .i64 0, .int .i64 0]
 go_enter Tryz.func19, Tryz.ntmps19
 go_upto_region 1 with (fail)
 obtain ⟨H, hH⟩ : ∃ H, w.heap.size = H := ⟨_, rfl⟩
 obtain ⟨w0, hw0⟩ : ∃ W, w.alloc (.cells #[.int .i64 0, .int .i64 0, .int .i64 0] 24) = W := ⟨_, rfl⟩
 change KBn (w.alloc (.cells #[.int .i64 0, .int .i64 0, .int .i64 0] 24)) _ _ at zb0
 rw [hw0] at hrow hW0 zb0 ⊢
 have hwH : w.heap.size ≤ H := by omega
 rw [hH] at zb0 ⊢
 clear hw0 h hH
 go_wp2_with fail
 refine (specDrawResizeBlocks A n c bs _ hrow hnc).mono ?_
 rintro e w1 ⟨o2, l2, m2, d, s, z, rfl, hd, hs, hz, hb1⟩
 have zz := zb0.below hb1
 have r0 := zz.c 0 _ rfl
 have r1 := zz.c 1 _ rfl
 have r2 := zz.c 2 _ rfl
 have y0 := zz.f 0 _ rfl
 have y1 := zz.f 1 _ rfl
 have y2 := zz.f 2 _ rfl
 have hfin := Lib.hid (below_set3 (hW0.trans (hb1.mono hW0.size)) hwH (.int .i64 o2) (.int .i64 l2) (.int .i64 m2))
 clear zz zb0 hb1 hW0 hrow
 replace hz := Lib.hid hz
 go_wp2_with fail
 refine bodyPost_ret (v := .tuple #[.agg #[.int .i64 o2, .int .i64 l2, .int .i64 m2], .string d, .string s, .int .i64 z]) (by simp [results, Tryz.results19, go_sem, r0, r1, r2]) rfl ?_
 exact ⟨_, _, _, _, _, _, rfl, hd, hs, hz.out, hfin.out⟩

end Go.Proofs.YthlgpgaeajfchaaGreat
