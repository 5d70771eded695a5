/-
  More draws: a number out of a list, settings, data of few symbols, wild data.
-/
import Derived.Test.YtopklampiaecdaaGreatDraw
import Derived.Test.YtopklampiaecdaaGreatBase
import Derived.Deep.DeepCutAuto
import Derived.Deep.CutBlock
namespace Go.Proofs.YtopklampiaecdaaGreat
open Go.RowKit
set_option linter.unusedVariables false

/-- A number out of a list. -/
def NumPost (g P : Nat) (zs : List Int) (w : World) (e : Ending) (w' : World) : Prop := ∃ z ∈ zs, e = .returned (.int .i64 z) ∧ Dr g P w w'

set_option maxHeartbeats 1000000 in
theorem specNum (g P b : Nat) (zs : List Int) (n c : Nat) (w : World) (h : RdAt w g P) (hP : P ≤ 900000) (hzl : zs.length = n) (hn0 : 0 < n) (hn : n ≤ 100)
    (hcell : ∀ j z, zs[j]? = some z → w.cell? ⟨b, j, none⟩ = some (.int .i64 z)) (hgb : g < b) (hb : b < w.heap.size) :
    Calls Tryz.prog 72 #[.pointer (some ⟨g, 0, none⟩), .slice (some ⟨b, 0, none⟩) n c] w (NumPost g (P + 1) zs w) := by
  have HC := Lib.hid hcell
  have HZ := Lib.hid hzl
  clear hcell hzl
  go_enter Tryz.func72, Tryz.ntmps72
  go_wp2_with fail
  refine (specPick g P n _ h (by omega) (by omega) (by omega)).mono ?_
  rintro e w1 ⟨r, rfl, hr1, _, hd1⟩
  have hr : r < zs.length := by have := HZ.out; omega
  obtain ⟨z, hz⟩ : ∃ z, zs[r]? = some z := ⟨_, List.getElem?_eq_getElem hr⟩
  have hc := HC.out r z hz
  have hc1 : w1.cell? ⟨b, r, none⟩ = some (.int .i64 z) := by
    exact (World.cell?_of_block (hd1.only.block b hb (fun e => by injection e with e; omega))).trans hc
  have hrn : r < n := by have := HZ.out; omega
  have i1 : (0 : Int) ≤ r := by omega
  have i2 : (r : Int) < n := by omega
  have HM := Lib.hid (List.mem_of_getElem? hz)
  clear hr1 hc hz hr
  go_wp2_with fail
  go_ret
  exact ⟨z, HM.out, rfl, hd1⟩

theorem two_pow_wrap (n : Nat) (hn : n ≤ 16) : wrap64 ((2 : Int) ^ n) = ((2 ^ n : Nat) : Int) := by
  have h : ∀ k : Fin 17, wrap64 ((2 : Int) ^ k.val) = ((2 ^ k.val : Nat) : Int) := by decide +kernel
  exact h ⟨n, by omega⟩

theorem specL1Two (n : Nat) (w : World) (hn : n ≤ 16) :
    Calls Tryz.prog 160 #[.int .i64 (n : Int)] w fun e w' => e = .returned (.int .i64 ((2 ^ n : Nat) : Int)) ∧ w = w' := by
  go_enter Tryz.func160, Tryz.ntmps160
  have e := two_pow_wrap n hn
  go_wp2_with fail
  go_ret
  exact ⟨by rw [← e]; rfl, rfl⟩

/-- A setting as a value. -/
def setV (o l m : Nat) : Value := .agg #[.int .i64 (o : Int), .int .i64 (l : Int), .int .i64 (m : Int)]

set_option maxHeartbeats 1000000 in
theorem specL1Clear (o l m : Nat) (w : World) (hl : l ≤ 16) :
    Calls Tryz.prog 126 #[setV o l m] w fun e w' => e = .returned (.int .i64 ((2 ^ l : Nat) : Int)) ∧ Below w.heap.size w w' := by
  unfold setV
  go_enter Tryz.func126, Tryz.ntmps126
  go_wp2_with fail
  refine (specL1Two l _ hl).mono ?_
  rintro e w1 ⟨rfl, rfl⟩
  go_wp2_with fail
  go_ret
  exact ⟨rfl, (Below.refl _ _).alloc (Nat.le_refl _) _⟩

/-- A drawn setting. -/
def SetPost (g P : Nat) (w : World) (e : Ending) (w' : World) : Prop := ∃ o l m : Nat, e = .returned (setV o l m) ∧ o < 2 ∧ 1 ≤ l ∧ l ≤ 8 ∧ l + 2 ≤ m ∧ m ≤ 10 ∧ Dr g P w w'

theorem new_cell (w : World) (H : Nat) (hH : w.heap.size = H) (e : TypeId) (cs : List Value) (j : Nat) (u : Value) (hu : cs[j]? = some u) : (w.alloc (.cells cs.toArray e)).cell? ⟨H, j, none⟩ = some u := by
  subst hH
  have h := Row.newAt w _ rfl e cs cs.length 1 (by omega)
  have hlt : j < cs.length := (List.getElem?_eq_some_iff.1 hu).1
  obtain ⟨b, off, e1, _, hc⟩ := h.2 (by omega)
  injection e1 with e1
  injection e1 with e1 e2
  subst e1 e2
  have := hc j u hu
  rwa [Nat.zero_add] at this

/-- A store into memory of the call's own behind draws. -/
theorem Dr.set {w w1 : World} {g P : Nat} (h : Dr g P w w1) {b j : Nat} (hb : w.heap.size ≤ b) (hg : g < w.heap.size) (v : Value) : Dr g P w (w1.setCell ⟨b, j, none⟩ v) :=
  h.grown (row := some b) (only_setCell (World.grownBy.refl _ _) rfl _) (fun i e => by injection e with e; omega) hg

/-- A block other than the source's stays. -/
theorem Dr.block {w w1 : World} {g P b : Nat} {o : Obj} (h : Dr g P w w1) (hb : w.heap[b]? = some o) (hne : b ≠ g) : w1.heap[b]? = some o :=
  (h.only.block b (Array.getElem?_eq_some_iff.1 hb).1 (fun e => by injection e with e; exact hne e)).trans hb

set_option maxHeartbeats 4000000 in
theorem specL1Some (g P : Nat) (w : World) (h : RdAt w g P) (hP : P ≤ 800000) :
    Calls Tryz.prog 105 #[.pointer (some ⟨g, 0, none⟩)] w (SetPost g (P + 5) w) := by
  have hg := h.lt
  go_enter Tryz.func105, Tryz.ntmps105
  go_wp2_with fail
  refine (specNum g P (w.heap.size + 1) [2, 3, 2, 1, 8, 5] 6 6 _ ((h.alloc _).alloc _) (by omega) rfl (by omega) (by omega) ?_ (by omega) (by simp)).mono ?_
  · intro j z hz
    exact new_cell _ _ (by simp) _ ([2, 3, 2, 1, 8, 5].map (Value.int .i64)) j _ (by rw [List.getElem?_map, hz]; rfl)
  · rintro e w1 ⟨z, hz, rfl, hd1⟩
    obtain ⟨l, rfl, hl1, hl8⟩ : ∃ l : Nat, z = l ∧ 1 ≤ l ∧ l ≤ 8 := by
      simp at hz
      rcases hz with rfl | rfl | rfl | rfl | rfl | rfl
      · exact ⟨2, rfl, by omega, by omega⟩
      · exact ⟨3, rfl, by omega, by omega⟩
      · exact ⟨2, rfl, by omega, by omega⟩
      · exact ⟨1, rfl, by omega, by omega⟩
      · exact ⟨8, rfl, by omega, by omega⟩
      · exact ⟨5, rfl, by omega, by omega⟩
    have hblk : w1.heap[w.heap.size]? = some (.cells #[.int .i64 0, .int .i64 0, .int .i64 0] 26 (0, 0)) := by
      refine hd1.block ?_ (by omega)
      rw [heap_alloc_old _ _ (by simp)]
      exact heap_alloc_new w _
    have hdr1 : Dr g (P + 1) w w1 := ⟨hd1.rd, only_then ((World.grownBy_alloc w _ (some g)).trans (World.grownBy_alloc _ _ (some g))) hd1.only (fun j e => Or.inr e)⟩
    have hz1 := hdr1.size
    clear hz hd1
    obtain ⟨q1, hq1⟩ : ∃ q : Nat, (10 : Int) - l = q := ⟨10 - l, by omega⟩
    obtain ⟨q2, hq2⟩ : ∃ q : Nat, (q1 : Int) - 1 = q := ⟨q1 - 1, by omega⟩
    obtain ⟨l2, hl2⟩ : ∃ q : Nat, (l : Int) + 2 = q := ⟨l + 2, by omega⟩
    go_wp2_with fail
    refine (specPick g (P + 1) q2 _ hdr1.rd (by omega) (by omega) (by omega)).mono ?_
    rintro e w2 ⟨r, rfl, hr1, _, hd2⟩
    have hblk2 := hd2.block hblk (by omega)
    have hdr2 := hdr1.trans hd2
    obtain ⟨m1, hm1⟩ : ∃ q : Nat, (l2 : Int) + r = q := ⟨l2 + r, by omega⟩
    have hr : r < q2 := by omega
    have hz2 := hdr2.size
    clear hblk hdr1 hd2 hr1
    go_wp2_with fail
    refine (specPick g (P + 2) 2 _ hdr2.rd (by omega) (by omega) (by omega)).mono ?_
    rintro e w3 ⟨r2, rfl, hr2, _, hd3⟩
    have hblk3 := hd3.block hblk2 (by omega)
    have hdr3 := hdr2.trans hd3
    have hz3 := hdr3.size
    clear hblk2 hdr2 hd3
    by_cases h0 : r2 = 0
    · subst h0
      go_wp2_with fail
      refine (specPick g (P + 3) 2 _ hdr3.rd (by omega) (by omega) (by omega)).mono ?_
      rintro e w4 ⟨r4, rfl, hr4, _, hd4⟩
      have hblk4 := hd4.block hblk3 (by omega)
      have hdr4 := hdr3.trans hd4
      have hz4 := hdr4.size
      obtain ⟨m2, hm2⟩ : ∃ q : Nat, (l2 : Int) + r4 = q := ⟨l2 + r4, by omega⟩
      clear hblk3 hdr3 hd4
      by_cases h10 : m2 ≤ 10
      · have h10' : (m2 : Int) ≤ 10 := by omega
        go_wp2_with fail
        refine (specPick g (P + 4) 2 _ hdr4.rd (by omega) (by omega) (by omega)).mono ?_
        rintro e w5 ⟨r5, rfl, hr5, _, hd5⟩
        have hblk5 := hd5.block hblk4 (by omega)
        have hdr5 := hdr4.trans hd5
        have hz5 := hdr5.size
        have c0 : w5.cell? ⟨w.heap.size, 0, none⟩ = some (.int .i64 0) := by simp [World.cell?, hblk5]
        have c1 : w5.cell? ⟨w.heap.size, 1, none⟩ = some (.int .i64 0) := by simp [World.cell?, hblk5]
        have c2 : w5.cell? ⟨w.heap.size, 2, none⟩ = some (.int .i64 0) := by simp [World.cell?, hblk5]
        have hfr : ∀ o, w5.frozen? ⟨w.heap.size, o, none⟩ = false := fun o => by simp [World.frozen?, hblk5]
        clear hblk4 hdr4 hd5 hblk5
        go_wp2_with fail
        refine bodyPost_ret (v := setV r5 l m2) (by simp [results, Tryz.results105, go_sem, setV, c0, c1, c2]) rfl ?_
        exact ⟨r5, l, m2, rfl, by omega, by omega, by omega, by omega, by omega, (((hdr5.set (Nat.le_refl _) hg _).set (Nat.le_refl _) hg _).set (Nat.le_refl _) hg _).more (by omega)⟩
      · obtain rfl : m2 = 11 := by omega
        go_wp2_with fail
        refine (specPick g (P + 4) 2 _ hdr4.rd (by omega) (by omega) (by omega)).mono ?_
        rintro e w5 ⟨r5, rfl, hr5, _, hd5⟩
        have hblk5 := hd5.block hblk4 (by omega)
        have hdr5 := hdr4.trans hd5
        have hz5 := hdr5.size
        have c0 : w5.cell? ⟨w.heap.size, 0, none⟩ = some (.int .i64 0) := by simp [World.cell?, hblk5]
        have c1 : w5.cell? ⟨w.heap.size, 1, none⟩ = some (.int .i64 0) := by simp [World.cell?, hblk5]
        have c2 : w5.cell? ⟨w.heap.size, 2, none⟩ = some (.int .i64 0) := by simp [World.cell?, hblk5]
        have hfr : ∀ o, w5.frozen? ⟨w.heap.size, o, none⟩ = false := fun o => by simp [World.frozen?, hblk5]
        clear hblk4 hdr4 hd5 hblk5
        go_wp2_with fail
        refine bodyPost_ret (v := setV r5 l 10) (by simp [results, Tryz.results105, go_sem, setV, c0, c1, c2]) rfl ?_
        exact ⟨r5, l, 10, rfl, by omega, by omega, by omega, by omega, by omega, (((hdr5.set (Nat.le_refl _) hg _).set (Nat.le_refl _) hg _).set (Nat.le_refl _) hg _).more (by omega)⟩
    · go_wp2_with fail
      refine (specPick g (P + 3) 2 _ hdr3.rd (by omega) (by omega) (by omega)).mono ?_
      rintro e w5 ⟨r5, rfl, hr5, _, hd5⟩
      have hblk5 := hd5.block hblk3 (by omega)
      have hdr5 := hdr3.trans hd5
      have hz5 := hdr5.size
      have c0 : w5.cell? ⟨w.heap.size, 0, none⟩ = some (.int .i64 0) := by simp [World.cell?, hblk5]
      have c1 : w5.cell? ⟨w.heap.size, 1, none⟩ = some (.int .i64 0) := by simp [World.cell?, hblk5]
      have c2 : w5.cell? ⟨w.heap.size, 2, none⟩ = some (.int .i64 0) := by simp [World.cell?, hblk5]
      have hfr : ∀ o, w5.frozen? ⟨w.heap.size, o, none⟩ = false := fun o => by simp [World.frozen?, hblk5]
      clear hblk3 hdr3 hd5 hblk5
      go_wp2_with fail
      refine bodyPost_ret (v := setV r5 l m1) (by simp [results, Tryz.results105, go_sem, setV, c0, c1, c2]) rfl ?_
      exact ⟨r5, l, m1, rfl, by omega, by omega, by omega, by omega, by omega, (((hdr5.set (Nat.le_refl _) hg _).set (Nat.le_refl _) hg _).set (Nat.le_refl _) hg _).more (by omega)⟩

/-- A setting in a cell block. -/
def SetAt (w : World) (b o l m : Nat) : Prop := w.heap[b]? = some (.cells #[.int .i64 (o : Int), .int .i64 (l : Int), .int .i64 (m : Int)] 26 (0, 0))

theorem SetAt.cells {w : World} {b o l m : Nat} (h : SetAt w b o l m) : w.cell? ⟨b, 0, none⟩ = some (.int .i64 (o : Int)) ∧ w.cell? ⟨b, 1, none⟩ = some (.int .i64 (l : Int)) ∧ w.cell? ⟨b, 2, none⟩ = some (.int .i64 (m : Int)) := by
  refine ⟨?_, ?_, ?_⟩ <;> simp [World.cell?, show w.heap[b]? = _ from h]

theorem SetAt.lt {w : World} {b o l m : Nat} (h : SetAt w b o l m) : b < w.heap.size := (Array.getElem?_eq_some_iff.1 h).1

theorem SetAt.below {w w' : World} {b o l m C : Nat} (h : SetAt w b o l m) (hb : Below C w w') (hC : w.heap.size ≤ C) : SetAt w' b o l m :=
  (hb.block b (by have := h.lt; omega)).trans h

theorem SetAt.dr {w w' : World} {b o l m g P : Nat} (h : SetAt w b o l m) (hd : Dr g P w w') (hne : b ≠ g) : SetAt w' b o l m := hd.block h hne

theorem SetAt.alloc {w : World} {b o l m : Nat} (h : SetAt w b o l m) (x : Obj) : SetAt (w.alloc x) b o l m := h.below ((Below.refl _ _).alloc (Nat.le_refl _) x) (Nat.le_refl _)

theorem u8_in (x : Nat) (hx : x < 256) : IntKind.u8.wrap (x : Int) = x := by simp [IntKind.wrap, IntKind.signed, IntKind.bits]; omega

set_option maxHeartbeats 4000000 in
theorem specL1Data (g P o l m n : Nat) (w : World) (h : RdAt w g P) (hP : P ≤ 800000) (hl1 : 1 ≤ l) (hl : l ≤ 8) (hn : n ≤ 5000) :
    Calls Tryz.prog 107 #[.pointer (some ⟨g, 0, none⟩), setV o l m, .int .i64 (n : Int)] w (DrawStr g (P + 4 + 2 * n) n w) := by
  obtain ⟨i0, hi0, hz0, hz1, hz2⟩ := info_parts infoByte
  have hmk := fun W => run_make_rowN (P := Tryz.prog) 46 5 i0 _ Tryz.underlying46 hi0 hz0 .i64 .i64 0 n (Nat.zero_le _) (by rw [hz2]; omega) (by omega) W
  obtain ⟨cs, hcs⟩ : ∃ cs, madeCells (Value.int .u8 0).cells (n * i0.size) = cs := ⟨_, rfl⟩
  have hcsz : cs.size = n * 1 := by rw [← hcs, hz1]; simp [madeCells]
  rw [hcs, Int.natCast_zero] at hmk
  obtain ⟨wb, hwb⟩ : ∃ wb, w.alloc (.cells #[.int .i64 (o : Int), .int .i64 (l : Int), .int .i64 (m : Int)] 26) = wb := ⟨_, rfl⟩
  have hwz : wb.heap.size = w.heap.size + 1 := by rw [← hwb]; simp
  have HO := Lib.hid (own_made wb cs n (w.heap.size + 1) 1 5 (by omega) (by unfold maxLen; omega) hcsz)
  have hblk : (wb.alloc (.cells cs 5)).heap[w.heap.size]? = some (.cells #[.int .i64 (o : Int), .int .i64 (l : Int), .int .i64 (m : Int)] 26 (0, 0)) := by
    rw [heap_alloc_old _ _ (by omega), ← hwb]
    exact heap_alloc_new w _
  obtain ⟨n1, hn1⟩ : ∃ k, n + 1 = k := ⟨_, rfl⟩
  have en1 : (n : Int) + 1 = n1 := by omega
  have hg := h.lt
  have HN1 := Lib.hid hn1
  have hn1b : n1 ≤ 5001 := by omega
  have hrd0 : RdAt (wb.alloc (.cells cs 5)) g P := by rw [← hwb]; exact (h.alloc _).alloc _
  have hg0 : w.grownBy (wb.alloc (.cells cs 5)) (some g) := by rw [← hwb]; exact (World.grownBy_alloc w _ (some g)).trans (World.grownBy_alloc _ _ (some g))
  obtain ⟨wc, hwc⟩ : ∃ wc, wb.alloc (.cells cs 5) = wc := ⟨_, rfl⟩
  have hwcz : wc.heap.size = w.heap.size + 2 := by rw [← hwc]; simp; omega
  rw [hwc] at HO hblk hrd0 hg0
  have hmk' := hmk wb
  rw [hwc] at hmk'
  clear hcs hcsz hi0 hz0 hz1 hz2 hn1 hmk h
  unfold setV
  go_enter Tryz.func107, Tryz.ntmps107
  obtain ⟨C, hC⟩ : ∃ C, 2 ^ l = C := ⟨_, rfl⟩
  have hC2 : 2 ≤ C ∧ C ≤ 256 := by
    rw [← hC]
    have h1 : 2 ^ 1 ≤ 2 ^ l := Nat.pow_le_pow_right (by omega) hl1
    have h2 : 2 ^ l ≤ 2 ^ 8 := Nat.pow_le_pow_right (by omega) hl
    omega
  have HCL := fun W => specL1Clear o l m W (by omega)
  rw [hC] at HCL
  unfold setV at HCL
  have HCL := Lib.hid HCL
  have hset : SetAt wc w.heap.size o l m := hblk
  have hdr0 : Dr g P w wc := ⟨hrd0, hg0⟩
  obtain ⟨q0, q1, q2⟩ := hset.cells
  clear hC hblk hrd0 hg0
  go_wp2_with fail
  clear hmk' q0 q1 q2
  refine (HCL.out _).mono ?_
  rintro e w1 ⟨rfl, hb1⟩
  have hset1 := hset.below hb1 (Nat.le_refl _)
  have hdr1 := hdr0.then_below hb1
  have hown1 := own_below HO.out hb1 (Nat.le_refl _)
  have hz1 := hdr1.size
  have hzz := hb1.size
  clear hset hdr0 HO hb1
  go_wp2_with fail
  refine (specNum g P w1.heap.size [2, 3, (C : Int), 1] 4 4 _ (hdr1.rd.alloc _) (by omega) rfl (by omega) (by omega) ?_ (by omega) (by simp)).mono ?_
  · intro j z hz
    exact new_cell _ _ rfl _ ([2, 3, (C : Int), 1].map (Value.int .i64)) j _ (by rw [List.getElem?_map, hz]; rfl)
  rintro e w2 ⟨z, hz, rfl, hd2⟩
  obtain ⟨zn, rfl, hzn⟩ : ∃ k : Nat, z = k ∧ 1 ≤ k := by
    simp at hz
    rcases hz with rfl | rfl | rfl | rfl
    · exact ⟨2, rfl, by omega⟩
    · exact ⟨3, rfl, by omega⟩
    · exact ⟨C, rfl, by omega⟩
    · exact ⟨1, rfl, by omega⟩
  have hset2 := (hset1.alloc _).dr hd2 (by omega)
  have hown2 := own_drawn_kept (hown1.alloc _) hd2 (by omega)
  have hdr2 := (hdr1.alloc _).trans hd2
  have hz2 := hdr2.size
  obtain ⟨q0, q1, q2⟩ := hset2.cells
  clear hset1 hown1 hdr1 hd2 hz
  go_upto_region 3 with fail
  go_cut [8] (fun v wx => ∃ pt : Nat, v = .int .i64 pt ∧ 1 ≤ pt ∧ pt ≤ 256 ∧ wx.ownsRow (w.heap.size + 1) 5 1 (.slice (some ⟨wb.heap.size, 0, none⟩) 0 n) 0 [] ∧ Dr g (P + 1) w wx)
  case first =>
    go_wp2_with fail
    refine (HCL.out _).mono ?_
    rintro e w3 ⟨rfl, hb3⟩
    have hdr3 := hdr2.then_below hb3
    have hown3 := own_below hown2 hb3 (Nat.le_refl _)
    clear hset2 hdr2 hown2 hb3
    by_cases hm : zn ≤ C
    · have hm' : (zn : Int) ≤ C := by omega
      go_wp2_with fail
      go_meet
      exact ⟨zn, rfl, hzn, by omega, hown3, hdr3⟩
    · have hm' : (C : Int) < zn := by omega
      go_wp2_with fail
      go_meet
      exact ⟨C, rfl, by omega, by omega, hown3, hdr3⟩
  case rest =>
    obtain ⟨pt, rfl, hp1, hp2, hown, hdr⟩ := hcut
    clear hset2 hown2 hdr2 q0 q1 q2 HCL hz2
    have hz1' := hdr.size
    go_wp2_with fail
    refine (specPick g (P + 1) 7 _ hdr.rd (by omega) (by omega) (by omega)).mono ?_
    rintro e w3 ⟨r3, rfl, hr3, _, hd3⟩
    have hown3 := own_drawn_kept hown hd3 (by omega)
    have hdr3 := hdr.trans hd3
    obtain ⟨pd, hpd⟩ : ∃ k : Nat, (1 : Int) + r3 = k := ⟨1 + r3, by omega⟩
    have hpd1 : 1 ≤ pd := by omega
    have hpd7 : pd ≤ 7 := by omega
    have hz3 := hdr3.size
    clear hown hdr hd3 hr3
    go_wp2_with fail
    refine (specPick g (P + 2) 4 _ hdr3.rd (by omega) (by omega) (by omega)).mono ?_
    rintro e w4 ⟨md, rfl, hr4, _, hd4⟩
    have hown4 := own_drawn_kept hown3 hd4 (by omega)
    have hdr4 := hdr3.trans hd4
    have hmd : md < 4 := by omega
    have hz4 := hdr4.size
    clear hown3 hdr3 hd4 hr4 hpd
    go_wp2_with fail
    refine (specPick g (P + 3) n1 _ hdr4.rd (by omega) (by omega) (by omega)).mono ?_
    rintro e w5 ⟨r, rfl, hr5, _, hd5⟩
    have hown5 := own_drawn_kept hown4 hd5 (by omega)
    have hdr5 := hdr4.trans hd5
    have hrn : r ≤ n := by have := HN1.out; omega
    have hz5 := hdr5.size
    clear hown4 hdr4 hd5 hr5 en1
    go_wp2_with fail
    go_loopw [7, 11] (fun v i wr => ∃ (k j : Nat) (bs : List UInt8), i = .int .i64 k ∧ j + k = r ∧ Hid (bs.length = j) ∧ wr.ownsRow (w.heap.size + 1) 5 1 v j (bs.map byteV) ∧ Dr g (P + 4 + 2 * j) w wr) (fun _ i _ => (intOf i).toNat)
    case atStart => exact ⟨r, 0, [], rfl, by omega, Lib.hid rfl, by rw [hwz] at hown5; exact hown5, hdr5.more (by omega)⟩
    case round =>
      obtain ⟨k, j, bs, rfl, hjk, HL, hown, hdr⟩ := hrel
      have hdz := hdr.size
      obtain ⟨Av, cv, rfl, _, _⟩ := own_form hown
      by_cases hk : 0 < k
      · go_wp2_with fail
        refine (specPick g (P + 4 + 2 * j) 256 _ hdr.rd (by omega) (by omega) (by omega)).mono ?_
        rintro e w6 ⟨x, rfl, hx1, _, hd6⟩
        obtain ⟨y, hy⟩ : ∃ y, x % pt = y := ⟨_, rfl⟩
        have hy1 : y < 256 := by rw [← hy]; exact Nat.lt_of_lt_of_le (Nat.mod_lt _ (by omega)) hp2
        have ey : (x : Int) % (pt : Int) = y := by omega
        have wy := u8_in y hy1
        have hown6 := own_drawn_kept hown hd6 (by omega)
        have hdr6 := hdr.trans hd6
        have hz6 := hdr6.size
        clear hown hdr hd6 hx1 hy
        go_upto_block 2 with fail
        go_cut [12] (fun v wx => ∃ z : Nat, v = .int .u8 z ∧ z < 256 ∧ wx.ownsRow (w.heap.size + 1) 5 1 (.slice Av j cv) j (bs.map byteV) ∧ Dr g (P + 4 + 2 * (j + 1)) w wx)
        case first =>
          by_cases hm0 : md = 0
          · subst hm0
            by_cases hj : 0 < j
            · go_wp2_with fail
              refine (specPick g (P + 4 + 2 * j + 1) 4 _ hdr6.rd (by omega) (by omega) (by omega)).mono ?_
              rintro e w7 ⟨q, rfl, hq, _, hd7⟩
              have hown7 := own_drawn_kept hown6 hd7 (by omega)
              have hdr7 := (hdr6.trans hd7).more (show P + 4 + 2 * j + 1 + 1 ≤ P + 4 + 2 * (j + 1) by omega)
              clear hown6 hdr6 hd7 hq
              by_cases hq0 : 0 < q
              · obtain ⟨b, off, rfl, _, hc⟩ := (Row.of_own hown7).2 hj
                obtain ⟨a, ha⟩ : ∃ a : Nat, (j : Int) - 1 = a := ⟨j - 1, by omega⟩
                have hal : a < bs.length := by have := HL.out; omega
                have hcell : w7.cell? ⟨b, off + a, none⟩ = some (.int .u8 ((bs[a].toNat : Nat) : Int)) := hc a _ (by simp [byteV, hal])
                have hz : bs[a].toNat < 256 := UInt8.toNat_lt _
                obtain ⟨z, hze⟩ : ∃ z, bs[a].toNat = z := ⟨_, rfl⟩
                rw [hze] at hcell hz
                have i1 : (0 : Int) ≤ a := by omega
                have i2 : (a : Int) < j := by omega
                have HK := Lib.hid (And.intro hown7 hdr7)
                clear hc hze hown7 hdr7
                go_wp2_with fail
                go_meet
                exact ⟨z, rfl, hz, HK.out.1, HK.out.2⟩
              · go_wp2_with fail
                go_meet
                exact ⟨y, rfl, hy1, hown7, hdr7⟩
            · have hdr7 := hdr6.more (show P + 4 + 2 * j + 1 ≤ P + 4 + 2 * (j + 1) by omega)
              clear hdr6
              go_wp2_with fail
              go_meet
              exact ⟨y, rfl, hy1, hown6, hdr7⟩
          · by_cases hm1 : md = 1
            · subst hm1
              by_cases hj : pd ≤ j
              · go_wp2_with fail
                refine (specPick g (P + 4 + 2 * j + 1) 10 _ hdr6.rd (by omega) (by omega) (by omega)).mono ?_
                rintro e w7 ⟨q, rfl, hq, _, hd7⟩
                have hown7 := own_drawn_kept hown6 hd7 (by omega)
                have hdr7 := (hdr6.trans hd7).more (show P + 4 + 2 * j + 1 + 1 ≤ P + 4 + 2 * (j + 1) by omega)
                clear hown6 hdr6 hd7 hq
                by_cases hq0 : 0 < q
                · obtain ⟨b, off, rfl, _, hc⟩ := (Row.of_own hown7).2 (by omega)
                  obtain ⟨a, ha⟩ : ∃ a : Nat, (j : Int) - pd = a := ⟨j - pd, by omega⟩
                  have hal : a < bs.length := by have := HL.out; omega
                  have hcell : w7.cell? ⟨b, off + a, none⟩ = some (.int .u8 ((bs[a].toNat : Nat) : Int)) := hc a _ (by simp [byteV, hal])
                  have hz : bs[a].toNat < 256 := UInt8.toNat_lt _
                  obtain ⟨z, hze⟩ : ∃ z, bs[a].toNat = z := ⟨_, rfl⟩
                  rw [hze] at hcell hz
                  have i1 : (0 : Int) ≤ a := by omega
                  have i2 : (a : Int) < j := by omega
                  have HK := Lib.hid (And.intro hown7 hdr7)
                  clear hc hze hown7 hdr7
                  go_wp2_with fail
                  go_meet
                  exact ⟨z, rfl, hz, HK.out.1, HK.out.2⟩
                · go_wp2_with fail
                  go_meet
                  exact ⟨y, rfl, hy1, hown7, hdr7⟩
              · have hdr7 := hdr6.more (show P + 4 + 2 * j + 1 ≤ P + 4 + 2 * (j + 1) by omega)
                clear hdr6
                go_wp2_with fail
                go_meet
                exact ⟨y, rfl, hy1, hown6, hdr7⟩
            · have hdr7 := hdr6.more (show P + 4 + 2 * j + 1 ≤ P + 4 + 2 * (j + 1) by omega)
              clear hdr6
              go_wp2_with fail
              go_meet
              exact ⟨y, rfl, hy1, hown6, hdr7⟩
        case rest =>
          obtain ⟨z, rfl, hz, hown7, hdr7⟩ := hcut
          clear hown6 hdr6 ey wy
          have ebv := byteV_cell z hz
          have HE := Lib.hid ebv
          have hz7 := hdr7.size
          clear ebv
          go_wp2_with (first
            | (at_builtin; refine wpList_append_row _ elemByte rfl (.tmp 82) (.tmp 84) rfl (w.heap.size + 1) _ _ _ rfl (hown7.alloc _) _ _ 1 1 [.int .u8 (z : Int)] rfl (Row.newAt _ _ rfl _ [.int .u8 (z : Int)] 1 1 rfl) ?_ ?_ ?_ ?_ ?_))
          · intro u hu; simp at hu; subst hu; rfl
          · unfold maxLen; omega
          · omega
          · simp; omega
          · intro v4 w4 hv4 hg4 _
            have hdr8 := (hdr7.alloc _).grown hg4 (fun g' hg' => by have := (hown7.lt g' hg').1; omega) hg
            have hv4' : w4.ownsRow (w.heap.size + 1) 5 1 v4 (j + 1) ((bs ++ [UInt8.ofNat z]).map byteV) := by rw [List.map_append, List.map_cons, List.map_nil, ← HE.out]; exact hv4
            obtain ⟨k', rfl⟩ : ∃ k', k = k' + 1 := ⟨k - 1, by omega⟩
            clear hown7 hdr7 hg4 hv4
            go_wp2_with fail
            go_roundw
            case rel => exact ⟨k', j + 1, bs ++ [UInt8.ofNat z], by go_num, by omega, Lib.hid (by rw [List.length_append, HL.out]; rfl), hv4', hdr8⟩
            case measure => simp [intOf]
      · obtain rfl : k = 0 := by omega
        have hcv := run_convert_own (n := j) elemByte Tryz.underlying5 Tryz.underlying9 bs (by rw [HL.out]; exact hown) HL.out
        go_wp2_with fail
        go_ret
        exact ⟨_, rfl, by show bs.toArray.size ≤ n; have := HL.out; simp; omega, hdr.more (by omega)⟩

end Go.Proofs.YtopklampiaecdaaGreat
