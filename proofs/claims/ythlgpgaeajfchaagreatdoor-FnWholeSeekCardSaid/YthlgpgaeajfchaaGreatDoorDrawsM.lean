/-
  The draw of MakeContainer.
-/
import Derived.Test.YthlgpgaeajfchaaGreatDoorDrawsE
namespace Go.Proofs.YthlgpgaeajfchaaGreatDoor
open Go.RowKit
set_option linter.unusedVariables false
set_option linter.unusedSimpArgs false
set_option maxRecDepth 100000

set_option maxHeartbeats 4000000 in
theorem specDrawMakeContainer (A : Option Addr) (n c : Nat) (bs : List UInt8) (w : World) (h : ByteRow w A n bs) (hnc : n ≤ c) :
    Calls Tryz.prog 4 #[.slice A n c] w (SetMk w) := by
  have hrow : ByteRow (w.alloc (.cells #[.int .i64 0, .int .i64 0, .int .i64 0] 24)) A n bs := h.below2 ((Below.refl _ _).alloc (Nat.le_refl _) _)
  have hW0 : Below w.heap.size w (w.alloc (.cells #[.int .i64 0, .int .i64 0, .int .i64 0] 24)) := (Below.refl w.heap.size w).alloc (Nat.le_refl _) _
  have zb0 := KBn.start w 24 [.int .i64 0, .int .i64 0, .int .i64 0]
  have hz0 : (w.alloc (.cells #[.int .i64 0, .int .i64 0, .int .i64 0] 24)).heap.size = w.heap.size + 1 := World.size_alloc ..
  go_enter Tryz.func4, Tryz.ntmps4
  go_upto_region 1 with (fail)
  obtain ⟨H, hH⟩ : ∃ H, w.heap.size = H := ⟨_, rfl⟩
  obtain ⟨w0, hw0⟩ : ∃ W, w.alloc (.cells #[.int .i64 0, .int .i64 0, .int .i64 0] 24) = W := ⟨_, rfl⟩
  change KBn (w.alloc (.cells #[.int .i64 0, .int .i64 0, .int .i64 0] 24)) _ _ at zb0
  rw [hw0] at hrow hW0 zb0 hz0 ⊢
  rw [hH] at zb0 hz0 ⊢
  clear hw0 h
  go_wp2_with fail
  refine (specL9Open A n c bs _ hrow hnc).mono ?_
  rintro e w1 ⟨rfl, hrd, hb1⟩
  have zb1 := zb0.below hb1
  have hW1 := hW0.trans (hb1.mono hW0.size)
  obtain ⟨g, hg⟩ : ∃ g, w0.heap.size = g := ⟨_, rfl⟩
  rw [hg] at hrd ⊢
  have hHg : H ≠ g := by omega
  have hwg : w.heap.size ≤ g := by omega
  have hwH : w.heap.size ≤ H := by omega
  have hglt := hrd.lt
  replace hW1 := Lib.hid hW1
  clear hb1 zb0 hW0 hrow hg hz0 hH
  go_wp2_with fail
  refine (specL5Setup g 0 _ hrd (by omega)).mono ?_
  rintro e w2 ⟨o, l, m, d, rfl, ho, hl1, hl8, hlm, hm, hd, hd2⟩
  have zb2 := (zb1.dr hd2 hHg).alloc (.cells #[.int .i64 (o : Int), .int .i64 (l : Int), .int .i64 (m : Int)] 24)
  have sb2 := KBn.start w2 24 [.int .i64 (o : Int), .int .i64 (l : Int), .int .i64 (m : Int)]
  change KBn (w2.alloc (.cells #[.int .i64 (o : Int), .int .i64 (l : Int), .int .i64 (m : Int)] 24)) _ _ at sb2
  have D2 := hd2.alloc (.cells #[.int .i64 (o : Int), .int .i64 (l : Int), .int .i64 (m : Int)] 24)
  have hbg' : w2.heap.size ≠ g := by have := hd2.size; omega
  clear hd2 hrd zb1
  go_upto_region 3 with (fail)
  obtain ⟨b, hb⟩ : ∃ b, w2.heap.size = b := ⟨_, rfl⟩
  obtain ⟨w3, hw3⟩ : ∃ W, w2.alloc (.cells #[.int .i64 (o : Int), .int .i64 (l : Int), .int .i64 (m : Int)] 24) = W := ⟨_, rfl⟩
  rw [hw3] at zb2 sb2 D2 ⊢
  rw [hb] at sb2 hbg' ⊢
  clear hw3 hb
  have zb3 := Lib.hid zb2
  have sb3 := Lib.hid sb2
  have D3 := Lib.hid D2
  clear zb2 sb2 D2
  have q0 := sb3.out.c 0 _ rfl
  have q1 := sb3.out.c 1 _ rfl
  have q2 := sb3.out.c 2 _ rfl
  go_wp2_with fail
  refine (specL5Wild g 100 o l m 60 _ (D3.out.rd.more (by omega)) (by omega) hl1 hl8 (by omega)).mono ?_
  rintro e w4 ⟨dat, rfl, hdat, hd4⟩
  have zb4 := Lib.hid (zb3.out.dr hd4 hHg)
  have sb4 := Lib.hid (sb3.out.dr hd4 hbg')
  have D4 := Lib.hid (D3.out.trans hd4)
  clear q0 q1 q2
  clear hd4 zb3 sb3 D3
  go_wp2_with fail
  refine (specPick g 1200 24 _ (D4.out.rd.more (by omega)) (by omega) (by omega) (by omega)).mono ?_
  rintro e w5 ⟨r, rfl, hr, _, hd5⟩
  have zb5 := Lib.hid (zb4.out.dr hd5 hHg)
  have sb5 := Lib.hid (sb4.out.dr hd5 hbg')
  have D5 := Lib.hid (D4.out.trans hd5)
  have hr2 := hr (by omega)
  clear hd5 zb4 sb4 D4
  obtain ⟨r2, hr2'⟩ : ∃ r2 : Nat, (2 : Int) + r = r2 := ⟨2 + r, by omega⟩
  have wr2 : IntKind.i64.wrap (r2 : Int) = r2 := IntWalk.i64_in _ (by omega)
  have hr3 : r2 ≤ 30 := by omega
  clear hr
  go_wp2_with fail
  refine (specPick g 1201 16 _ (D5.out.rd.more (by omega)) (by omega) (by omega) (by omega)).mono ?_
  rintro e w6 ⟨r6, rfl, _, _, hd6⟩
  have zb6 := Lib.hid (zb5.out.dr hd6 hHg)
  have sb6 := Lib.hid (sb5.out.dr hd6 hbg')
  have D6 := Lib.hid (D5.out.trans hd6)
  clear hd6 zb5 sb5 D5
  go_upto_if 26 with (fail)
  go_cut [10] (fun v wx => ∃ z : Int, v = .int .i64 z ∧ (-9223372036854775808 ≤ z ∧ z ≤ 9223372036854775807) ∧ Hid (Dr g 1300 w1 wx ∧ KBn wx H [.int .i64 0, .int .i64 0, .int .i64 0] ∧ KBn wx b [.int .i64 (o : Int), .int .i64 (l : Int), .int .i64 (m : Int)]))
  case first =>
    by_cases h0 : r6 = 0
    · subst h0
      have hglt6 := D6.out.rd.lt
      go_wp2_with fail
      refine (specNum g 1202 w6.heap.size [0, 1, 64, 65, -1] 5 5 _ ((D6.out.rd.more (by omega)).alloc _) (by omega) rfl (by omega) (by omega) ?_ (by omega) (by simp)).mono ?_
      · intro j z hz
        exact new_cell _ _ rfl _ ([0, 1, 64, 65, -1].map (Value.int .i64)) j _ (by rw [List.getElem?_map, hz]; rfl)
      · rintro e w7 ⟨z, hz, rfl, hd7⟩
        have hzr : -9223372036854775808 ≤ z ∧ z ≤ 9223372036854775807 := by
          simp at hz
          rcases hz with rfl | rfl | rfl | rfl | rfl <;> omega
        have hfc := Lib.hid (And.intro (((D6.out.alloc _).trans hd7).more (P' := 1300) (by omega)) (And.intro ((zb6.out.alloc _).dr hd7 hHg) ((sb6.out.alloc _).dr hd7 hbg')))
        replace hzr := Lib.hid hzr
        clear hz hd7 zb6 sb6 D6
        go_wp2_with fail
        go_meet
        exact ⟨z, rfl, hzr.out, hfc⟩
    · have hfc := Lib.hid (And.intro (D6.out.more (P' := 1300) (by omega)) (And.intro zb6.out sb6.out))
      clear zb6 sb6 D6
      go_wp2_with fail
      go_meet
      exact ⟨_, rfl, by omega, hfc⟩
  case rest =>
    obtain ⟨z, rfl, hz, hfc⟩ := hcut
    clear zb6 sb6 D6 wr2 hr2'
    have D6 := Lib.hid hfc.out.1
    have zb6 := Lib.hid hfc.out.2.1
    have sb6 := Lib.hid hfc.out.2.2
    replace hz := Lib.hid hz
    clear hfc
    have q0 := sb6.out.c 0 _ rfl
    have q1 := sb6.out.c 1 _ rfl
    have q2 := sb6.out.c 2 _ rfl
    go_wp2_with fail
    refine (specL1Bad g 1300 o l m _ (D6.out.rd.more (by omega)) (by omega) hl8).mono ?_
    rintro e w7 ⟨o2, l2, m2, rfl, hd7⟩
    have zb7 := Lib.hid (zb6.out.dr hd7 hHg)
    have sb7 := Lib.hid (sb6.out.dr hd7 hbg')
    have D7 := Lib.hid (D6.out.trans hd7)
    clear q0 q1 q2
    clear hd7 zb6 sb6 D6
    have zz := zb7.out
    have r0 := zz.c 0 _ rfl
    have r1 := zz.c 1 _ rfl
    have r2 := zz.c 2 _ rfl
    have y0 := zz.f 0 _ rfl
    have y1 := zz.f 1 _ rfl
    have y2 := zz.f 2 _ rfl
    have hfin := Lib.hid (below_set3 (hW1.out.trans (D7.out.below (C := w.heap.size) hwg hglt)) hwH (.int .i64 o2) (.int .i64 l2) (.int .i64 m2))
    clear zz zb7 sb7 D7
    go_wp2_with fail
    refine bodyPost_ret (v := .tuple #[.agg #[.int .i64 o2, .int .i64 l2, .int .i64 m2], .string d, .string dat, .int .i64 z]) (by simp [results, Tryz.results4, go_sem, r0, r1, r2]) rfl ?_
    exact ⟨_, _, _, _, _, _, rfl, by omega, by omega, hz.out, hfin.out⟩

end Go.Proofs.YthlgpgaeajfchaaGreatDoor
