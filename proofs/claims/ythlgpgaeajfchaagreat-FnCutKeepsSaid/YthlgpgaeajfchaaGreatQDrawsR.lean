/-
 The draws of ranges of a container.
-/
import Derived.Test.YthlgpgaeajfchaaGreatQDrawCont

namespace Go.Proofs.YthlgpgaeajfchaaGreat
open Go.RowKit
set_option linter.unusedVariables false
set_option linter.unusedSimpArgs false
set_option maxRecDepth 100000

theorem conts_szs2 {s : ByteArray} {bs : List Blk} (hc : contB s = some bs) : szs bs ≤ 2560 := by
 have h1 := szs_le (fun b hm => (contB_numbered hc).of_mem hm)
 have h2 := (contB_numbered hc).length
 omega

set_option maxHeartbeats 4000000 in
theorem specL5RangeC (g P : Nat) (z : Int) (w : World) (h : RdAt w g P) (hP : P ≤ 700000) (hz5 : -1 ≤ z ∧ z ≤ 5000) :
  Calls Tryz.prog 77 #[.pointer (some ⟨g, 0, none⟩), .int .i64 z] w (RangeB g (P + 4) w) := by
 have hg := h.lt
 obtain ⟨n, hmx⟩ : ∃ n : Nat, max z 0 = (n : Int) := ⟨z.toNat, by omega⟩
 have hn : n ≤ 5000 := by omega
 obtain ⟨z1, hz1⟩ : ∃ x : Int, z + 1 = x := ⟨_, rfl⟩
 have wz1 : IntKind.i64.wrap z1 = z1 := IntWalk.i64_in _ (by omega)
 obtain ⟨n1, hn1⟩ : ∃ x : Nat, (n : Int) + 1 = x := ⟨n + 1, by omega⟩
 go_enter Tryz.func77, Tryz.ntmps77
 go_wp2_with fail
 refine (specPick g P n1 _ h (by omega) (by omega) (by omega)).mono ?_
 rintro e w1 ⟨r, rfl, hr, _, hd1⟩
 have hrn : r ≤ n := by omega
 obtain ⟨m, hm⟩ : ∃ x : Nat, (n : Int) - r = x := ⟨n - r, by omega⟩
 obtain ⟨m1, hm1⟩ : ∃ x : Nat, (m : Int) + 1 = x := ⟨m + 1, by omega⟩
 clear hr
 go_wp2_with fail
 refine (specPick g (P + 1) m1 _ hd1.rd (by omega) (by omega) (by omega)).mono ?_
 rintro e w2 ⟨r2, rfl, hr2, _, hd2⟩
 obtain ⟨k, hk⟩ : ∃ x : Nat, (r : Int) + r2 = x := ⟨r + r2, by omega⟩
 have hkb : k ≤ 6000 := by omega
 have hd2' := hd1.trans hd2
 have hz2 := hd2'.size
 clear hr2 hd1 hd2
 go_wp2_with fail
 refine (specPick g (P + 2) 20 _ hd2'.rd (by omega) (by omega) (by omega)).mono ?_
 rintro e w3 ⟨c, rfl, hc, _, hd3⟩
 have hd3' := hd2'.trans hd3
 have hz3 := hd3'.size
 clear hc hd2' hd3
 by_cases c0 : c = 0
 ·subst c0
  go_wp2_with fail
  refine (specNum g (P + 3) w3.heap.size [-1, 9223372036854775807] 2 2 _ (hd3'.rd.alloc _) (by omega) rfl (by omega) (by omega) (fun j z hz => new_cell _ _ rfl _ ([-1, 9223372036854775807].map (Value.int .i64)) j _ (by rw [List.getElem?_map, hz]; rfl)) (by omega) (by simp)).mono ?_
  rintro e w4 ⟨z, hz, rfl, hd4⟩
  have hz' := Lib.hid (in3 hz)
  clear hz
  go_wp2_with fail
  go_returns
  exact ⟨_, _, rfl, by rcases hz'.out with rfl | rfl <;> omega, by omega, ((hd3'.alloc _).trans hd4).more (by omega)⟩
 ·by_cases c1 : c = 1
  ·subst c1
   go_wp2_with fail
   refine (specNum g (P + 3) w3.heap.size [-1, z1, 9223372036854775807] 3 3 _ (hd3'.rd.alloc _) (by omega) rfl (by omega) (by omega) (fun j z hz => new_cell _ _ rfl _ ([-1, z1, 9223372036854775807].map (Value.int .i64)) j _ (by rw [List.getElem?_map, hz]; rfl)) (by omega) (by simp)).mono ?_
   rintro e w4 ⟨z, hz, rfl, hd4⟩
   have hz' := Lib.hid (in4 hz)
   clear hz
   go_wp2_with fail
   go_returns
   exact ⟨_, _, rfl, by omega, by rcases hz'.out with rfl | rfl | rfl <;> omega, ((hd3'.alloc _).trans hd4).more (by omega)⟩
  ·by_cases c2 : c = 2
   ·subst c2
    go_wp2_with fail
    go_returns
    exact ⟨_, _, rfl, by omega, by omega, hd3'.more (by omega)⟩
   ·go_wp2_with fail
    go_returns
    exact ⟨_, _, rfl, by omega, by omega, hd3'.more (by omega)⟩

def sizeI : Option (List Blk) → Int
 | some bs => (szs bs : Int)
 | none => -1

theorem sizeI_le {s : ByteArray} : -1 ≤ sizeI (contB s) ∧ sizeI (contB s) ≤ 5000 := by
 rcases h : contB s with _ | bs
 ·exact ⟨Int.le_refl _, by decide⟩
 ·have := conts_szs2 h
  show -1 ≤ (szs bs : Int) ∧ (szs bs : Int) ≤ 5000
  omega

theorem specContainerSize (s : ByteArray) (w : World) (hs : s.size ≤ 1048576) :
  Calls Tryz.prog 78 #[.string s] w fun e w' => e = .returned (.int .i64 (sizeI (contB s))) ∧ Below w.heap.size w w' := by
 rcases h : contB s with _ | bs
 ·have H1 := Lib.hid (fun W => specL5BlocksNo s W hs h)
  have hA : sizeI none = -1 := rfl
  rw [hA]
  clear h hA
  go_enter Tryz.func78, Tryz.ntmps78
  go_wp2_with fail
  refine (H1.out _).mono ?_
  rintro e w1 ⟨A1, c1, rfl, _, hb1⟩
  go_wp2_with fail
  go_ret
  exact ⟨rfl, hb1⟩
 ·have hz := conts_szs2 h
  have h40 := (contB_numbered h).length
  obtain ⟨n, hn⟩ : ∃ n, bs.length = n := ⟨_, rfl⟩
  have H1 := Lib.hid (fun W => specL5BlocksYes s bs n W hs h hn)
  have HZ := fun A c W (hr : Row W W.heap.size 4 A n (cellsB bs)) => specL5Size A n c W.heap.size bs W hr (by omega) (by omega)
  have hA : sizeI (some bs) = (szs bs : Int) := rfl
  rw [hA]
  obtain ⟨z, hzz⟩ : ∃ z, szs bs = z := ⟨_, rfl⟩
  rw [hzz] at HZ ⊢
  replace HZ := Lib.hid HZ
  clear h hA hzz hz hn h40
  go_enter Tryz.func78, Tryz.ntmps78
  go_wp2_with fail
  refine (H1.out _).mono ?_
  rintro e w1 ⟨A1, c1, rfl, ho1, hb1⟩
  have hr := Lib.hid (Row.of_own ho1)
  clear ho1
  go_wp2_with fail
  refine (HZ.out _ _ _ hr.out).mono ?_
  rintro e w2 ⟨rfl, rfl⟩
  go_wp2_with fail
  go_ret
  exact ⟨rfl, hb1⟩

set_option maxHeartbeats 4000000 in
theorem specDrawReadRange (A : Option Addr) (n c : Nat) (bs : List UInt8) (w : World) (h : ByteRow w A n bs) (hnc : n ≤ c) :
  Calls Tryz.prog 70 #[.slice A n c] w (SetSSII w) := by
 have hrow : ByteRow (w.alloc (.cells #[.int .i64 0, .int .i64 0, .int .i64 0] 24)) A n bs := h.below2 ((Below.refl _ _).alloc (Nat.le_refl _) _)
 have hW0 : Below w.heap.size w (w.alloc (.cells #[.int .i64 0, .int .i64 0, .int .i64 0] 24)) := (Below.refl w.heap.size w).alloc (Nat.le_refl _) _
 have zb0 := KBn.start w 24 [.int .i64 0, .int .i64 0, .int .i64 0]
 have hz0 : (w.alloc (.cells #[.int .i64 0, .int .i64 0, .int .i64 0] 24)).heap.size = w.heap.size + 1 := World.size_alloc ..
 go_enter Tryz.func70, Tryz.ntmps70
 go_upto_region 1 with (fail)
 obtain ⟨H, hH⟩ : ∃ H, w.heap.size = H := ⟨_, rfl⟩
 obtain ⟨w0, hw0⟩ : ∃ W, w.alloc (.cells #[.int .i64 0, .int .i64 0, .int .i64 0] 24) = W := ⟨_, rfl⟩
 change KBn (w.alloc (.cells #[.int .i64 0, .int .i64 0, .int .i64 0] 24)) _ _ at zb0
 rw [hw0] at hrow hW0 zb0 hz0 ⊢
 rw [hH] at zb0 hz0 ⊢
 clear hw0 h
 go_wp2_with fail
 refine (specL9Open A n c bs _ hrow hnc).mono ?_
 rintro e w1 ⟨rfl, hrd, hb1⟩
 have zb1 := zb0.below hb1
 have hW1 := hW0.trans (hb1.mono hW0.size)
 obtain ⟨g, hg⟩ : ∃ g, w0.heap.size = g := ⟨_, rfl⟩
 rw [hg] at hrd ⊢
 have hHg : H ≠ g := by omega
 have hwg : w.heap.size ≤ g := by omega
 have hwH : w.heap.size ≤ H := by omega
 have hglt := hrd.lt
 replace hW1 := Lib.hid hW1
 clear hb1 zb0 hW0 hrow hg hz0 hH
 go_wp2_with fail
 refine (specL5Some g 0 _ hrd (by omega)).mono ?_
 rintro e w2 ⟨o, l, m, d, s, rfl, ho, hl1, hl8, hlm, hm, hd, hs, hd2⟩
 have zb2 := (zb1.dr hd2 hHg).alloc (.cells #[.int .i64 (o : Int), .int .i64 (l : Int), .int .i64 (m : Int)] 24)
 have sb2 := KBn.start w2 24 [.int .i64 (o : Int), .int .i64 (l : Int), .int .i64 (m : Int)]
 change KBn (w2.alloc (.cells #[.int .i64 (o : Int), .int .i64 (l : Int), .int .i64 (m : Int)] 24)) _ _ at sb2
 have D2 := hd2.alloc (.cells #[.int .i64 (o : Int), .int .i64 (l : Int), .int .i64 (m : Int)] 24)
 have hbg' : w2.heap.size ≠ g := by have := hd2.size; omega
 clear hd2 hrd zb1
 go_upto_region 3 with (fail)
 obtain ⟨b, hb⟩ : ∃ b, w2.heap.size = b := ⟨_, rfl⟩
 obtain ⟨w3, hw3⟩ : ∃ W, w2.alloc (.cells #[.int .i64 (o : Int), .int .i64 (l : Int), .int .i64 (m : Int)] 24) = W := ⟨_, rfl⟩
 rw [hw3] at zb2 sb2 D2 ⊢
 rw [hb] at sb2 hbg' ⊢
 clear hw3 hb
 have zb3 := Lib.hid zb2
 have sb3 := Lib.hid sb2
 have D3 := Lib.hid D2
 clear zb2 sb2 D2
 have hCz := sizeI_le (s := s)
 have HCS := fun W => specContainerSize s W (by omega)
 obtain ⟨cz, hcz⟩ : ∃ z, sizeI (contB s) = z := ⟨_, rfl⟩
 rw [hcz] at HCS hCz
 replace HCS := Lib.hid HCS
 clear hcz
 go_wp2_with fail
 refine (HCS.out _).mono ?_
 rintro e w4 ⟨rfl, hb4⟩
 have zb4 := Lib.hid (zb3.out.below hb4)
 have sb4 := Lib.hid (sb3.out.below hb4)
 have D4 := Lib.hid (D3.out.then_below hb4)
 clear hb4 zb3 sb3 D3
 go_wp2_with fail
 refine (specL5RangeC g 2000 cz _ (D4.out.rd.more (by omega)) (by omega) hCz).mono ?_
 rintro e w5 ⟨f, t, rfl, hf, ht, hd5⟩
 have zb5 := Lib.hid (zb4.out.dr hd5 hHg)
 have sb5 := Lib.hid (sb4.out.dr hd5 hbg')
 have D5 := Lib.hid (D4.out.trans hd5)
 replace hf := Lib.hid hf
 replace ht := Lib.hid ht
 clear hd5 zb4 sb4 D4
 have q0 := sb5.out.c 0 _ rfl
 have q1 := sb5.out.c 1 _ rfl
 have q2 := sb5.out.c 2 _ rfl
 go_wp2_with fail
 refine (specL1Bad g 2010 o l m _ (D5.out.rd.more (by omega)) (by omega) hl8).mono ?_
 rintro e w6 ⟨o2, l2, m2, rfl, hd6⟩
 have zb6 := Lib.hid (zb5.out.dr hd6 hHg)
 have sb6 := Lib.hid (sb5.out.dr hd6 hbg')
 have D6 := Lib.hid (D5.out.trans hd6)
 clear q0 q1 q2
 clear hd6 zb5 sb5 D5
 go_wp2_with fail
 refine (specL5Bad g 2020 s _ (D6.out.rd.more (by omega)) (by omega) (by omega)).mono ?_
 rintro e w7 ⟨s2, rfl, hs2, hd7⟩
 have zb7 := Lib.hid (zb6.out.dr hd7 hHg)
 have sb7 := Lib.hid (sb6.out.dr hd7 hbg')
 have D7 := Lib.hid (D6.out.trans hd7)
 clear hd7 zb6 sb6 D6
 have zz := zb7.out
 have r0 := zz.c 0 _ rfl
 have r1 := zz.c 1 _ rfl
 have r2 := zz.c 2 _ rfl
 have y0 := zz.f 0 _ rfl
 have y1 := zz.f 1 _ rfl
 have y2 := zz.f 2 _ rfl
 have hfin := Lib.hid (below_set3 (hW1.out.trans (D7.out.below (C := w.heap.size) hwg hglt)) hwH (.int .i64 o2) (.int .i64 l2) (.int .i64 m2))
 clear zz zb7 sb7 D7
 go_wp2_with fail
 refine bodyPost_ret (v := .tuple #[.agg #[.int .i64 o2, .int .i64 l2, .int .i64 m2], .string d, .string s2, .int .i64 f, .int .i64 t]) (by simp [results, Tryz.results70, go_sem, r0, r1, r2]) rfl ?_
 exact ⟨_, _, _, _, _, _, _, rfl, by omega, by omega, hf.out, ht.out, hfin.out⟩

set_option maxHeartbeats 1000000 in
theorem specDrawCutContainer (A : Option Addr) (n c : Nat) (bs : List UInt8) (w : World) (h : ByteRow w A n bs) (hnc : n ≤ c) :
  Calls Tryz.prog 23 #[.slice A n c] w (SetSSII w) := by
 have hrow : ByteRow (w.alloc (.cells #[.int .i64 0, .int .i64 0, .int .i64 0] 24)) A n bs := h.below2 ((Below.refl _ _).alloc (Nat.le_refl _) _)
 have hW0 : Below w.heap.size w (w.alloc (.cells #[.int .i64 0, .int .i64 0, .int .i64 0] 24)) := (Below.refl w.heap.size w).alloc (Nat.le_refl _) _
 have zb0 := KBn.start w 24 [.int .i64 0, .int .i64 0, .int .i64 0]
 go_enter Tryz.func23, Tryz.ntmps23
 go_upto_region 1 with (fail)
 obtain ⟨H, hH⟩ : ∃ H, w.heap.size = H := ⟨_, rfl⟩
 obtain ⟨w0, hw0⟩ : ∃ W, w.alloc (.cells #[.int .i64 0, .int .i64 0, .int .i64 0] 24) = W := ⟨_, rfl⟩
 change KBn (w.alloc (.cells #[.int .i64 0, .int .i64 0, .int .i64 0] 24)) _ _ at zb0
 rw [hw0] at hrow hW0 zb0 ⊢
 have hwH : w.heap.size ≤ H := by omega
 rw [hH] at zb0 ⊢
 clear hw0 h hH
 go_wp2_with fail
 refine (specDrawReadRange A n c bs _ hrow hnc).mono ?_
 rintro e w1 ⟨o2, l2, m2, d, s, f, t, rfl, hd, hs, hf, ht, hb1⟩
 have zz := zb0.below hb1
 have r0 := zz.c 0 _ rfl
 have r1 := zz.c 1 _ rfl
 have r2 := zz.c 2 _ rfl
 have y0 := zz.f 0 _ rfl
 have y1 := zz.f 1 _ rfl
 have y2 := zz.f 2 _ rfl
 have hfin := Lib.hid (below_set3 (hW0.trans (hb1.mono hW0.size)) hwH (.int .i64 o2) (.int .i64 l2) (.int .i64 m2))
 clear zz zb0 hb1 hW0 hrow
 replace hf := Lib.hid hf
 replace ht := Lib.hid ht
 go_wp2_with fail
 refine bodyPost_ret (v := .tuple #[.agg #[.int .i64 o2, .int .i64 l2, .int .i64 m2], .string d, .string s, .int .i64 f, .int .i64 t]) (by simp [results, Tryz.results23, go_sem, r0, r1, r2]) rfl ?_
 exact ⟨_, _, _, _, _, _, _, rfl, hd, hs, hf.out, ht.out, hfin.out⟩

set_option maxHeartbeats 1000000 in
theorem specDrawDeleteRange (A : Option Addr) (n c : Nat) (bs : List UInt8) (w : World) (h : ByteRow w A n bs) (hnc : n ≤ c) :
  Calls Tryz.prog 34 #[.slice A n c] w (SetSSII w) := by
 have hrow : ByteRow (w.alloc (.cells #[.int .i64 0, .int .i64 0, .int .i64 0] 24)) A n bs := h.below2 ((Below.refl _ _).alloc (Nat.le_refl _) _)
 have hW0 : Below w.heap.size w (w.alloc (.cells #[.int .i64 0, .int .i64 0, .int .i64 0] 24)) := (Below.refl w.heap.size w).alloc (Nat.le_refl _) _
 have zb0 := KBn.start w 24 [.int .i64 0, .int .i64 0, .int .i64 0]
 go_enter Tryz.func34, Tryz.ntmps34
 go_upto_region 1 with (fail)
 obtain ⟨H, hH⟩ : ∃ H, w.heap.size = H := ⟨_, rfl⟩
 obtain ⟨w0, hw0⟩ : ∃ W, w.alloc (.cells #[.int .i64 0, .int .i64 0, .int .i64 0] 24) = W := ⟨_, rfl⟩
 change KBn (w.alloc (.cells #[.int .i64 0, .int .i64 0, .int .i64 0] 24)) _ _ at zb0
 rw [hw0] at hrow hW0 zb0 ⊢
 have hwH : w.heap.size ≤ H := by omega
 rw [hH] at zb0 ⊢
 clear hw0 h hH
 go_wp2_with fail
 refine (specDrawReadRange A n c bs _ hrow hnc).mono ?_
 rintro e w1 ⟨o2, l2, m2, d, s, f, t, rfl, hd, hs, hf, ht, hb1⟩
 have zz := zb0.below hb1
 have r0 := zz.c 0 _ rfl
 have r1 := zz.c 1 _ rfl
 have r2 := zz.c 2 _ rfl
 have y0 := zz.f 0 _ rfl
 have y1 := zz.f 1 _ rfl
 have y2 := zz.f 2 _ rfl
 have hfin := Lib.hid (below_set3 (hW0.trans (hb1.mono hW0.size)) hwH (.int .i64 o2) (.int .i64 l2) (.int .i64 m2))
 clear zz zb0 hb1 hW0 hrow
 replace hf := Lib.hid hf
 replace ht := Lib.hid ht
 go_wp2_with fail
 refine bodyPost_ret (v := .tuple #[.agg #[.int .i64 o2, .int .i64 l2, .int .i64 m2], .string d, .string s, .int .i64 f, .int .i64 t]) (by simp [results, Tryz.results34, go_sem, r0, r1, r2]) rfl ?_
 exact ⟨_, _, _, _, _, _, _, rfl, hd, hs, hf.out, ht.out, hfin.out⟩

end Go.Proofs.YthlgpgaeajfchaaGreat
