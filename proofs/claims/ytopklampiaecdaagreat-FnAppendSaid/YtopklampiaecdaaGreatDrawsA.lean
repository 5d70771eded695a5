/-
  The draw of AppendData.
-/
import Derived.Test.YtopklampiaecdaaGreatDrawsE
namespace Go.Proofs.YtopklampiaecdaaGreat
open Go.RowKit
set_option linter.unusedVariables false
set_option linter.unusedSimpArgs false
set_option maxRecDepth 100000

set_option maxHeartbeats 4000000 in
theorem specDrawAppendData (A : Option Addr) (n c : Nat) (bs : List UInt8) (w : World) (h : ByteRow w A n bs) (hnc : n ≤ c) :
    Calls Tryz.prog 39 #[.slice A n c] w (SetSSSI w) := by
  have hrow : ByteRow (w.alloc (.cells #[.int .i64 0, .int .i64 0, .int .i64 0] 26)) A n bs := h.below2 ((Below.refl _ _).alloc (Nat.le_refl _) _)
  have hW0 : Below w.heap.size w (w.alloc (.cells #[.int .i64 0, .int .i64 0, .int .i64 0] 26)) := (Below.refl w.heap.size w).alloc (Nat.le_refl _) _
  have zb0 := KBn.start w 26 [.int .i64 0, .int .i64 0, .int .i64 0]
  have hz0 : (w.alloc (.cells #[.int .i64 0, .int .i64 0, .int .i64 0] 26)).heap.size = w.heap.size + 1 := World.size_alloc ..
  go_enter Tryz.func39, Tryz.ntmps39
  go_upto_region 1 with (fail)
  obtain ⟨H, hH⟩ : ∃ H, w.heap.size = H := ⟨_, rfl⟩
  obtain ⟨w0, hw0⟩ : ∃ W, w.alloc (.cells #[.int .i64 0, .int .i64 0, .int .i64 0] 26) = W := ⟨_, rfl⟩
  change KBn (w.alloc (.cells #[.int .i64 0, .int .i64 0, .int .i64 0] 26)) _ _ at zb0
  rw [hw0] at hrow hW0 zb0 hz0 ⊢
  rw [hH] at zb0 hz0 ⊢
  clear hw0 h
  go_wp2_with fail
  refine (specL9Open A n c bs _ hrow hnc).mono ?_
  rintro e w1 ⟨rfl, hrd, hb1⟩
  have zb1 := zb0.below hb1
  have hW1 := hW0.trans (hb1.mono hW0.size)
  obtain ⟨g, hg⟩ : ∃ g, w0.heap.size = g := ⟨_, rfl⟩
  rw [hg] at hrd ⊢
  have hHg : H ≠ g := by omega
  have hwg : w.heap.size ≤ g := by omega
  have hwH : w.heap.size ≤ H := by omega
  have hglt := hrd.lt
  replace hW1 := Lib.hid hW1
  clear hb1 zb0 hW0 hrow hg hz0 hH
  go_wp2_with fail
  refine (specL5Some g 0 _ hrd (by omega)).mono ?_
  rintro e w2 ⟨o, l, m, d, s, rfl, ho, hl1, hl8, hlm, hm, hd, hs, hd2⟩
  have zb2 := (zb1.dr hd2 hHg).alloc (.cells #[.int .i64 (o : Int), .int .i64 (l : Int), .int .i64 (m : Int)] 26)
  have sb2 := KBn.start w2 26 [.int .i64 (o : Int), .int .i64 (l : Int), .int .i64 (m : Int)]
  change KBn (w2.alloc (.cells #[.int .i64 (o : Int), .int .i64 (l : Int), .int .i64 (m : Int)] 26)) _ _ at sb2
  have D2 := hd2.alloc (.cells #[.int .i64 (o : Int), .int .i64 (l : Int), .int .i64 (m : Int)] 26)
  have hbg' : w2.heap.size ≠ g := by have := hd2.size; omega
  clear hd2 hrd zb1
  go_upto_region 3 with (fail)
  obtain ⟨b, hb⟩ : ∃ b, w2.heap.size = b := ⟨_, rfl⟩
  obtain ⟨w3, hw3⟩ : ∃ W, w2.alloc (.cells #[.int .i64 (o : Int), .int .i64 (l : Int), .int .i64 (m : Int)] 26) = W := ⟨_, rfl⟩
  rw [hw3] at zb2 sb2 D2 ⊢
  rw [hb] at sb2 hbg' ⊢
  clear hw3 hb
  have zb3 := Lib.hid zb2
  have sb3 := Lib.hid sb2
  have D3 := Lib.hid D2
  clear zb2 sb2 D2
  have q0 := sb3.out.c 0 _ rfl
  have q1 := sb3.out.c 1 _ rfl
  have q2 := sb3.out.c 2 _ rfl
  go_wp2_with fail
  refine (specL5Wild g 2000 o l m 30 _ (D3.out.rd.more (by omega)) (by omega) hl1 hl8 (by omega)).mono ?_
  rintro e w4 ⟨dat, rfl, hdat, hd4⟩
  have zb4 := Lib.hid (zb3.out.dr hd4 hHg)
  have sb4 := Lib.hid (sb3.out.dr hd4 hbg')
  have D4 := Lib.hid (D3.out.trans hd4)
  clear q0 q1 q2
  clear hd4 zb3 sb3 D3
  have hcv0 := fun W a h => run_one_byte (P := Tryz.prog) Tryz.underlying46 Tryz.underlying5 Tryz.underlying9 0 (by omega) W a h
  simp only [Int.cast_ofNat_Int] at hcv0
  go_wp2_with fail
  refine (specPick g 3100 24 _ (D4.out.rd.more (by omega)) (by omega) (by omega) (by omega)).mono ?_
  rintro e w5 ⟨r, rfl, _, _, hd5⟩
  have zb5 := Lib.hid (zb4.out.dr hd5 hHg)
  have sb5 := Lib.hid (sb4.out.dr hd5 hbg')
  have D5 := Lib.hid (D4.out.trans hd5)
  clear hd5 zb4 sb4 D4
  go_upto_if 25 with (fail)
  go_cut [11] (fun v wx => ∃ t : ByteArray, v = .string t ∧ t.size ≤ 2001 ∧ Hid (Dr g 3200 w1 wx ∧ KBn wx H [.int .i64 0, .int .i64 0, .int .i64 0] ∧ KBn wx b [.int .i64 (o : Int), .int .i64 (l : Int), .int .i64 (m : Int)]))
  case first =>
    by_cases h0 : r = 0
    · subst h0
      have hgltw := D5.out.rd.lt
      have HH := Lib.hid (D5.out.more (P' := 3101) (by omega))
      go_wp2_with fail
      go_region_with (first
        | (go_at_call 72; refine (specNum g 3101 _ [2000, 2001, 600] 3 3 _ (by first | exact (HH.out.rd.alloc _).alloc _ | exact HH.out.rd.alloc _) (by omega) rfl (by omega) (by omega) (by intro j z hz; first | exact new_cell _ _ (by solve | (simp; done) | (simp; omega)) _ ([2000, 2001, 600].map (Value.int .i64)) j _ (by rw [List.getElem?_map, hz]; rfl) | exact new_cell2 _ _ (by solve | (simp; done) | (simp; omega)) _ ([2000, 2001, 600].map (Value.int .i64)) _ j _ (by rw [List.getElem?_map, hz]; rfl)) (by first | omega | (simp; omega)) (by solve | (simp; done) | (simp; omega))).mono ?_; rintro e wn ⟨z, hz, rfl, hdn⟩; (first
            | have hbc : wn.cell? ⟨w5.heap.size, 0, none⟩ = some (.int .u8 0) := hdn.cell _ 0 (.int .u8 0) (by first | exact new_cell _ _ (by solve | (simp; done) | (simp; omega)) _ [.int .u8 0] 0 _ rfl | exact new_cell2 _ _ (by solve | (simp; done) | (simp; omega)) _ [.int .u8 0] _ 0 _ rfl) (by solve | (simp; done) | (simp; omega)) (by omega)
            | have hbc : wn.cell? ⟨w5.heap.size + 1, 0, none⟩ = some (.int .u8 0) := hdn.cell _ 0 (.int .u8 0) (by first | exact new_cell _ _ (by solve | (simp; done) | (simp; omega)) _ [.int .u8 0] 0 _ rfl | exact new_cell2 _ _ (by solve | (simp; done) | (simp; omega)) _ [.int .u8 0] _ 0 _ rfl) (by solve | (simp; done) | (simp; omega)) (by omega)
            | skip))
        | (go_at_call 79; refine (specL9Many ⟨#[UInt8.ofNat 0]⟩ _ _ (by show 1 ≤ 1048576; omega) (by simp at hz; omega) (by show 1 * _ ≤ _; simp at hz; omega)).mono ?_; rintro e wm ⟨rfl, rfl⟩))
      all_goals
        go_wp2_with fail
        go_meet
        refine ⟨_, rfl, by rw [repB_size]; show 1 * _ ≤ _; simp at hz; omega, Lib.hid ?_⟩
        first
          | exact ⟨(((HH.out.alloc _).alloc _).drew.trans hdn).more (by omega), ((zb5.out.alloc _).alloc _).drew1.dr hdn hHg, ((sb5.out.alloc _).alloc _).drew1.dr hdn hbg'⟩
          | exact ⟨(((HH.out.alloc _).drew.trans hdn).alloc _).more (by omega), ((zb5.out.alloc _).drew1.dr hdn hHg).alloc _, ((sb5.out.alloc _).drew1.dr hdn hbg').alloc _⟩
    · have hfc := Lib.hid (And.intro (D5.out.more (P' := 3200) (by omega)) (And.intro zb5.out sb5.out))
      clear zb5 sb5 D5
      go_wp2_with fail
      go_meet
      exact ⟨_, rfl, by omega, hfc⟩
  case rest =>
    obtain ⟨t, rfl, ht, hfc⟩ := hcut
    clear zb5 sb5 D5
    have D6 := Lib.hid hfc.out.1
    have zb6 := Lib.hid hfc.out.2.1
    have sb6 := Lib.hid hfc.out.2.2
    clear hfc
    have q0 := sb6.out.c 0 _ rfl
    have q1 := sb6.out.c 1 _ rfl
    have q2 := sb6.out.c 2 _ rfl
    go_wp2_with fail
    refine (specL1Bad g 3200 o l m _ (D6.out.rd.more (by omega)) (by omega) hl8).mono ?_
    rintro e w7 ⟨o2, l2, m2, rfl, hd7⟩
    have zb7 := Lib.hid (zb6.out.dr hd7 hHg)
    have sb7 := Lib.hid (sb6.out.dr hd7 hbg')
    have D7 := Lib.hid (D6.out.trans hd7)
    clear q0 q1 q2
    clear hd7 zb6 sb6 D6
    go_wp2_with fail
    refine (specL5Bad g 3210 s _ (D7.out.rd.more (by omega)) (by omega) (by omega)).mono ?_
    rintro e w8 ⟨s2, rfl, hs2, hd8⟩
    have zb8 := Lib.hid (zb7.out.dr hd8 hHg)
    have sb8 := Lib.hid (sb7.out.dr hd8 hbg')
    have D8 := Lib.hid (D7.out.trans hd8)
    clear hd8 zb7 sb7 D7
    go_wp2_with fail
    refine (specL6Size g 3220 _ (D8.out.rd.more (by omega)) (by omega)).mono ?_
    rintro e w9 ⟨z, rfl, hz, hd9⟩
    have zb9 := Lib.hid (zb8.out.dr hd9 hHg)
    have sb9 := Lib.hid (sb8.out.dr hd9 hbg')
    have D9 := Lib.hid (D8.out.trans hd9)
    replace hz := Lib.hid hz
    clear hd9 zb8 sb8 D8
    have zz := zb9.out
    have r0 := zz.c 0 _ rfl
    have r1 := zz.c 1 _ rfl
    have r2 := zz.c 2 _ rfl
    have y0 := zz.f 0 _ rfl
    have y1 := zz.f 1 _ rfl
    have y2 := zz.f 2 _ rfl
    have hfin := Lib.hid (below_set3 (hW1.out.trans (D9.out.below (C := w.heap.size) hwg hglt)) hwH (.int .i64 o2) (.int .i64 l2) (.int .i64 m2))
    clear zz zb9 sb9 D9
    go_wp2_with fail
    refine bodyPost_ret (v := .tuple #[.agg #[.int .i64 o2, .int .i64 l2, .int .i64 m2], .string d, .string s2, .string t, .int .i64 z]) (by simp [results, Tryz.results39, go_sem, r0, r1, r2]) rfl ?_
    exact ⟨_, _, _, _, _, _, _, rfl, by omega, by omega, by omega, hz.out, hfin.out⟩

end Go.Proofs.YtopklampiaecdaaGreat
