/-
 The draws of replaced ranges.
-/
import Derived.Test.YthlgpgaeajfchaaGreatQDrawsR

namespace Go.Proofs.YthlgpgaeajfchaaGreat
open Go.RowKit
set_option linter.unusedVariables false
set_option linter.unusedSimpArgs false
set_option maxRecDepth 100000

set_option maxHeartbeats 4000000 in
theorem specDrawReplaceRange (A : Option Addr) (n c : Nat) (bs : List UInt8) (w : World) (h : ByteRow w A n bs) (hnc : n ≤ c) :
  Calls Tryz.prog 30 #[.slice A n c] w (SetRep w) := by
 have hrow : ByteRow (w.alloc (.cells #[.int .i64 0, .int .i64 0, .int .i64 0] 24)) A n bs := h.below2 ((Below.refl _ _).alloc (Nat.le_refl _) _)
 have hW0 : Below w.heap.size w (w.alloc (.cells #[.int .i64 0, .int .i64 0, .int .i64 0] 24)) := (Below.refl w.heap.size w).alloc (Nat.le_refl _) _
 have zb0 := KBn.start w 24 [.int .i64 0, .int .i64 0, .int .i64 0]
 have hz0 : (w.alloc (.cells #[.int .i64 0, .int .i64 0, .int .i64 0] 24)).heap.size = w.heap.size + 1 := World.size_alloc ..
 go_enter Tryz.func30, Tryz.ntmps30
 go_upto_region 1 with (fail)
 obtain ⟨H, hH⟩ : ∃ H, w.heap.size = H := ⟨_, rfl⟩
 obtain ⟨w0, hw0⟩ : ∃ W, w.alloc (.cells #[.int .i64 0, .int .i64 0, .int .i64 0] 24) = W := ⟨_, rfl⟩
 change KBn (w.alloc (.cells #[.int .i64 0, .int .i64 0, .int .i64 0] 24)) _ _ at zb0
 rw [hw0] at hrow hW0 zb0 hz0 ⊢
 rw [hH] at zb0 hz0 ⊢
 clear hw0 h
 go_wp2_with fail
 refine (specL9Open A n c bs _ hrow hnc).mono ?_
 rintro e w1 ⟨rfl, hrd, hb1⟩
 have zb1 := zb0.below hb1
 have hW1 := hW0.trans (hb1.mono hW0.size)
 obtain ⟨g, hg⟩ : ∃ g, w0.heap.size = g := ⟨_, rfl⟩
 rw [hg] at hrd ⊢
 have hHg : H ≠ g := by omega
 have hwg : w.heap.size ≤ g := by omega
 have hwH : w.heap.size ≤ H := by omega
 have hglt := hrd.lt
 replace hW1 := Lib.hid hW1
 clear hb1 zb0 hW0 hrow hg hz0 hH
 go_wp2_with fail
 refine (specL5Some g 0 _ hrd (by omega)).mono ?_
 rintro e w2 ⟨o, l, m, d, s, rfl, ho, hl1, hl8, hlm, hm, hd, hs, hd2⟩
 have zb2 := (zb1.dr hd2 hHg).alloc (.cells #[.int .i64 (o : Int), .int .i64 (l : Int), .int .i64 (m : Int)] 24)
 have sb2 := KBn.start w2 24 [.int .i64 (o : Int), .int .i64 (l : Int), .int .i64 (m : Int)]
 change KBn (w2.alloc (.cells #[.int .i64 (o : Int), .int .i64 (l : Int), .int .i64 (m : Int)] 24)) _ _ at sb2
 have D2 := hd2.alloc (.cells #[.int .i64 (o : Int), .int .i64 (l : Int), .int .i64 (m : Int)] 24)
 have hbg' : w2.heap.size ≠ g := by have := hd2.size; omega
 clear hd2 hrd zb1
 go_upto_region 3 with (fail)
 obtain ⟨b, hb⟩ : ∃ b, w2.heap.size = b := ⟨_, rfl⟩
 obtain ⟨w3, hw3⟩ : ∃ W, w2.alloc (.cells #[.int .i64 (o : Int), .int .i64 (l : Int), .int .i64 (m : Int)] 24) = W := ⟨_, rfl⟩
 rw [hw3] at zb2 sb2 D2 ⊢
 rw [hb] at sb2 hbg' ⊢
 clear hw3 hb
 have zb3 := Lib.hid zb2
 have sb3 := Lib.hid sb2
 have D3 := Lib.hid D2
 clear zb2 sb2 D2
 have hCz := sizeI_le (s := s)
 have HCS := fun W => specContainerSize s W (by omega)
 obtain ⟨cz, hcz⟩ : ∃ z, sizeI (contB s) = z := ⟨_, rfl⟩
 rw [hcz] at HCS hCz
 replace HCS := Lib.hid HCS
 clear hcz
 go_wp2_with fail
 refine (HCS.out _).mono ?_
 rintro e w4 ⟨rfl, hb4⟩
 have zb4 := Lib.hid (zb3.out.below hb4)
 have sb4 := Lib.hid (sb3.out.below hb4)
 have D4 := Lib.hid (D3.out.then_below hb4)
 clear hb4 zb3 sb3 D3
 go_wp2_with fail
 refine (specL5RangeC g 2000 cz _ (D4.out.rd.more (by omega)) (by omega) hCz).mono ?_
 rintro e w5 ⟨f, t, rfl, hf, ht, hd5⟩
 have zb5 := Lib.hid (zb4.out.dr hd5 hHg)
 have sb5 := Lib.hid (sb4.out.dr hd5 hbg')
 have D5 := Lib.hid (D4.out.trans hd5)
 replace hf := Lib.hid hf
 replace ht := Lib.hid ht
 clear hd5 zb4 sb4 D4
 have q0 := sb5.out.c 0 _ rfl
 have q1 := sb5.out.c 1 _ rfl
 have q2 := sb5.out.c 2 _ rfl
 go_wp2_with fail
 refine (specL5Wild g 2010 o l m 20 _ (D5.out.rd.more (by omega)) (by omega) hl1 hl8 (by omega)).mono ?_
 rintro e w6 ⟨dat, rfl, hdat, hd6⟩
 have zb6 := Lib.hid (zb5.out.dr hd6 hHg)
 have sb6 := Lib.hid (sb5.out.dr hd6 hbg')
 have D6 := Lib.hid (D5.out.trans hd6)
 clear q0 q1 q2
 clear hd6 zb5 sb5 D5
 have q0 := sb6.out.c 0 _ rfl
 have q1 := sb6.out.c 1 _ rfl
 have q2 := sb6.out.c 2 _ rfl
 go_wp2_with fail
 refine (specL1Bad g 3200 o l m _ (D6.out.rd.more (by omega)) (by omega) hl8).mono ?_
 rintro e w7 ⟨o2, l2, m2, rfl, hd7⟩
 have zb7 := Lib.hid (zb6.out.dr hd7 hHg)
 have sb7 := Lib.hid (sb6.out.dr hd7 hbg')
 have D7 := Lib.hid (D6.out.trans hd7)
 clear q0 q1 q2
 clear hd7 zb6 sb6 D6
 go_wp2_with fail
 refine (specL5Bad g 3210 s _ (D7.out.rd.more (by omega)) (by omega) (by omega)).mono ?_
 rintro e w8 ⟨s2, rfl, hs2, hd8⟩
 have zb8 := Lib.hid (zb7.out.dr hd8 hHg)
 have sb8 := Lib.hid (sb7.out.dr hd8 hbg')
 have D8 := Lib.hid (D7.out.trans hd8)
 clear hd8 zb7 sb7 D7
 go_wp2_with fail
 refine (specL6Size g 3220 _ (D8.out.rd.more (by omega)) (by omega)).mono ?_
 rintro e w9 ⟨z, rfl, hz, hd9⟩
 have zb9 := Lib.hid (zb8.out.dr hd9 hHg)
 have sb9 := Lib.hid (sb8.out.dr hd9 hbg')
 have D9 := Lib.hid (D8.out.trans hd9)
 replace hz := Lib.hid hz
 clear hd9 zb8 sb8 D8
 have zz := zb9.out
 have r0 := zz.c 0 _ rfl
 have r1 := zz.c 1 _ rfl
 have r2 := zz.c 2 _ rfl
 have y0 := zz.f 0 _ rfl
 have y1 := zz.f 1 _ rfl
 have y2 := zz.f 2 _ rfl
 have hfin := Lib.hid (below_set3 (hW1.out.trans (D9.out.below (C := w.heap.size) hwg hglt)) hwH (.int .i64 o2) (.int .i64 l2) (.int .i64 m2))
 clear zz zb9 sb9 D9
 go_wp2_with fail
 refine bodyPost_ret (v := .tuple #[.agg #[.int .i64 o2, .int .i64 l2, .int .i64 m2], .string d, .string s2, .int .i64 f, .int .i64 t, .string dat, .int .i64 z]) (by simp [results, Tryz.results30, go_sem, r0, r1, r2]) rfl ?_
 exact ⟨_, _, _, _, _, _, _, _, _, rfl, by omega, by omega, hf.out, ht.out, by omega, hz.out, hfin.out⟩

def SetIns (w : World) (e : Ending) (w' : World) : Prop := ∃ (o l m : Int) (d s : ByteArray) (a : Int) (t : ByteArray) (z : Int), e = .returned (.tuple #[.agg #[.int .i64 o, .int .i64 l, .int .i64 m], .string d, .string s, .int .i64 a, .string t, .int .i64 z]) ∧ d.size ≤ 1000 ∧ s.size ≤ 10000 ∧ (-9223372036854775808 ≤ a ∧ a ≤ 9223372036854775807) ∧ t.size ≤ 10000 ∧ (-9223372036854775808 ≤ z ∧ z ≤ 9223372036854775807) ∧ Below w.heap.size w w'

set_option maxHeartbeats 1000000 in
theorem specDrawInsertData (A : Option Addr) (n c : Nat) (bs : List UInt8) (w : World) (h : ByteRow w A n bs) (hnc : n ≤ c) :
  Calls Tryz.prog 40 #[.slice A n c] w (SetIns w) := by
 have hrow : ByteRow (w.alloc (.cells #[.int .i64 0, .int .i64 0, .int .i64 0] 24)) A n bs := h.below2 ((Below.refl _ _).alloc (Nat.le_refl _) _)
 have hW0 : Below w.heap.size w (w.alloc (.cells #[.int .i64 0, .int .i64 0, .int .i64 0] 24)) := (Below.refl w.heap.size w).alloc (Nat.le_refl _) _
 have zb0 := KBn.start w 24 [.int .i64 0, .int .i64 0, .int .i64 0]
 go_enter Tryz.func40, Tryz.ntmps40
 go_upto_region 1 with (fail)
 obtain ⟨H, hH⟩ : ∃ H, w.heap.size = H := ⟨_, rfl⟩
 obtain ⟨w0, hw0⟩ : ∃ W, w.alloc (.cells #[.int .i64 0, .int .i64 0, .int .i64 0] 24) = W := ⟨_, rfl⟩
 change KBn (w.alloc (.cells #[.int .i64 0, .int .i64 0, .int .i64 0] 24)) _ _ at zb0
 rw [hw0] at hrow hW0 zb0 ⊢
 have hwH : w.heap.size ≤ H := by omega
 rw [hH] at zb0 ⊢
 clear hw0 h hH
 go_wp2_with fail
 refine (specDrawReplaceRange A n c bs _ hrow hnc).mono ?_
 rintro e w1 ⟨o2, l2, m2, d, s, f, t, dat, z, rfl, hd, hs, hf, ht, hdat, hz, hb1⟩
 have sbx := KBn.start w1 24 [.int .i64 o2, .int .i64 l2, .int .i64 m2]
 change KBn (w1.alloc (.cells #[.int .i64 o2, .int .i64 l2, .int .i64 m2] 24)) _ _ at sbx
 have zz := (zb0.below hb1).alloc (.cells #[.int .i64 o2, .int .i64 l2, .int .i64 m2] 24)
 have hWx := (hW0.trans (hb1.mono hW0.size)).alloc (hW0.trans (hb1.mono hW0.size)).size (.cells #[.int .i64 o2, .int .i64 l2, .int .i64 m2] 24)
 have hHb : H < w1.heap.size := (zb0.below hb1).lt
 replace hf := Lib.hid hf
 replace ht := Lib.hid ht
 replace hz := Lib.hid hz
 go_upto_region 2 with (fail)
 obtain ⟨b, hb⟩ : ∃ b, w1.heap.size = b := ⟨_, rfl⟩
 obtain ⟨w3, hw3⟩ : ∃ W, w1.alloc (.cells #[.int .i64 o2, .int .i64 l2, .int .i64 m2] 24) = W := ⟨_, rfl⟩
 rw [hw3] at sbx zz hWx ⊢
 rw [hb] at sbx hHb ⊢
 clear hw3 hb
 have q0 := sbx.c 0 _ rfl
 have q1 := sbx.c 1 _ rfl
 have q2 := sbx.c 2 _ rfl
 have r0 := zz.c 0 _ rfl
 have r1 := zz.c 1 _ rfl
 have r2 := zz.c 2 _ rfl
 have y0 := zz.f 0 _ rfl
 have y1 := zz.f 1 _ rfl
 have y2 := zz.f 2 _ rfl
 have hfin := Lib.hid (below_set3 hWx hwH (.int .i64 o2) (.int .i64 l2) (.int .i64 m2))
 clear zz zb0 hb1 hW0 hrow hWx sbx
 go_wp2_with fail
 refine bodyPost_ret (v := .tuple #[.agg #[.int .i64 o2, .int .i64 l2, .int .i64 m2], .string d, .string s, .int .i64 f, .string dat, .int .i64 z]) (by simp [results, Tryz.results40, go_sem, r0, r1, r2]) rfl ?_
 exact ⟨_, _, _, _, _, _, _, _, rfl, hd, hs, hf.out, hdat, hz.out, hfin.out⟩

end Go.Proofs.YthlgpgaeajfchaaGreat
