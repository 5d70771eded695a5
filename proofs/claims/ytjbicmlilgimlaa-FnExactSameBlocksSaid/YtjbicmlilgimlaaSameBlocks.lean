/-
  The contract of SameBlocks of the program: how many blocks two containers share at their beginnings and at their ends.
-/
import Derived.Test.YtjbicmlilgimlaaSame
import Derived.Deep.RegionHeld3
import Derived.Deep.DeepCutAuto
import Derived.Deep.CutBlock
import Derived.Lib.MinMax
namespace Go.Proofs.Ytjbicmlilgimlaa
open Go.RowKit
set_option linter.unusedVariables false
attribute [local go_sem ↓] Go.wp_at_zero Go.wp_at_succ

/-- From k on, the first index at which p does not hold, or n. -/
def scan (p : Nat → Bool) (n k : Nat) : Nat := if k < n then if p k then scan p n (k + 1) else k else k
termination_by n - k

theorem scan_yes {p : Nat → Bool} {n k : Nat} (h : k < n) (hp : p k = true) : scan p n k = scan p n (k + 1) := by rw [scan, if_pos h, if_pos hp]

theorem scan_no {p : Nat → Bool} {n k : Nat} (h : k < n) (hp : p k = false) : scan p n k = k := by rw [scan, if_pos h, hp]; rfl

theorem scan_end {p : Nat → Bool} {n k : Nat} (h : n ≤ k) : scan p n k = k := by rw [scan, if_neg (by omega)]

theorem scan_le {p : Nat → Bool} {n k : Nat} (h : k ≤ n) : scan p n k ≤ n := by
  by_cases hk : k < n
  · by_cases hp : p k = true
    · rw [scan_yes hk hp]; exact scan_le (by omega)
    · rw [scan_no hk (by simpa using hp)]; exact h
  · rw [scan_end (by omega)]; exact h
termination_by n - k

/-- Block i of a list. -/
def blkAt (l : List Blk) (i : Nat) : Blk := l.getD i ⟨0, false, 0, ByteArray.empty⟩

theorem blkAt_of {l : List Blk} {i : Nat} {b : Blk} (h : l[i]? = some b) : blkAt l i = b := by unfold blkAt; rw [List.getD_eq_getElem?_getD, h]; rfl

/-- Whether the blocks at an index are the same. -/
def sameUp (x y : List Blk) (i : Nat) : Bool := decide (SameB (blkAt x i) (blkAt y i))

/-- Whether the blocks at an index from the end are the same. -/
def sameDown (x y : List Blk) (i : Nat) : Bool := decide (SameB (blkAt x (x.length - 1 - i)) (blkAt y (y.length - 1 - i)))

/-- How many blocks two lists share at their beginnings. -/
def upN (x y : List Blk) : Nat := scan (sameUp x y) (min x.length y.length) 0

/-- And at their ends, behind those. -/
def downN (x y : List Blk) : Nat := scan (sameDown x y) (min x.length y.length - upN x y) 0

/-- What SameBlocks returns. -/
def sameBlks : Option (List Blk) → Option (List Blk) → Int
  | some x, some y => ((upN x y + downN x y : Nat) : Int)
  | _, _ => -1

/-- Eight cells of two blocks, in a world that has kept what was. -/
theorem at8 {w0 wx : World} {b o b' o' : Nat} {u0 u1 u2 u3 v0 v1 v2 v3 : Value} (hb : b < w0.heap.size) (hb' : b' < w0.heap.size)
    (h0 : w0.cell? ⟨b, o, none⟩ = some u0) (h1 : w0.cell? ⟨b, o + 1, none⟩ = some u1) (h2 : w0.cell? ⟨b, o + 2, none⟩ = some u2) (h3 : w0.cell? ⟨b, o + 3, none⟩ = some u3)
    (k0 : w0.cell? ⟨b', o', none⟩ = some v0) (k1 : w0.cell? ⟨b', o' + 1, none⟩ = some v1) (k2 : w0.cell? ⟨b', o' + 2, none⟩ = some v2) (k3 : w0.cell? ⟨b', o' + 3, none⟩ = some v3)
    (h : Below w0.heap.size w0 wx) :
    wx.cell? ⟨b, o, none⟩ = some u0 ∧ wx.cell? ⟨b, o + 1, none⟩ = some u1 ∧ wx.cell? ⟨b, o + 2, none⟩ = some u2 ∧ wx.cell? ⟨b, o + 3, none⟩ = some u3 ∧
    wx.cell? ⟨b', o', none⟩ = some v0 ∧ wx.cell? ⟨b', o' + 1, none⟩ = some v1 ∧ wx.cell? ⟨b', o' + 2, none⟩ = some v2 ∧ wx.cell? ⟨b', o' + 3, none⟩ = some v3 ∧ Below w0.heap.size w0 wx :=
  ⟨(h.cell (p := ⟨b, o, none⟩) hb).trans h0, (h.cell (p := ⟨b, o + 1, none⟩) hb).trans h1, (h.cell (p := ⟨b, o + 2, none⟩) hb).trans h2, (h.cell (p := ⟨b, o + 3, none⟩) hb).trans h3,
    (h.cell (p := ⟨b', o', none⟩) hb').trans k0, (h.cell (p := ⟨b', o' + 1, none⟩) hb').trans k1, (h.cell (p := ⟨b', o' + 2, none⟩) hb').trans k2, (h.cell (p := ⟨b', o' + 3, none⟩) hb').trans k3, h⟩

set_option maxHeartbeats 4000000 in
theorem implSameBlocks (s t : ByteArray) (w : World) (hs : s.size ≤ 1048576) (ht : t.size ≤ 1048576) :
    Calls Try.prog 43 #[.string s, .string t] w fun e w' => e = .returned (.int .i64 (sameBlks (contB s) (contB t))) ∧ Below w.heap.size w w' := by
  rcases hx : contB s with _ | x
  · have H1 := Lib.hid (fun W => implContainerBlocksNo s W hs hx)
    rcases hy : contB t with _ | y
    · have H2 := Lib.hid (fun W => implContainerBlocksNo t W ht hy)
      clear hx hy
      go_enter Try.func43, Try.ntmps43
      go_wp2_with fail
      refine (H1.out _).mono ?_
      rintro e w1 ⟨A1, c1, rfl, ho1, hb1⟩
      go_wp2_with fail
      refine (H2.out _).mono ?_
      rintro e w2 ⟨A2, c2, rfl, ho2, hb2⟩
      go_wp2_with fail
      go_ret
      exact ⟨rfl, hb1.trans (hb2.mono hb1.size)⟩
    · obtain ⟨m, hm⟩ : ∃ m, y.length = m := ⟨_, rfl⟩
      have H2 := Lib.hid (fun W => implContainerBlocksYes t y m W ht hy hm)
      clear hx hy hm
      go_enter Try.func43, Try.ntmps43
      go_wp2_with fail
      refine (H1.out _).mono ?_
      rintro e w1 ⟨A1, c1, rfl, ho1, hb1⟩
      go_wp2_with fail
      refine (H2.out _).mono ?_
      rintro e w2 ⟨A2, c2, rfl, ho2, hb2⟩
      go_wp2_with fail
      go_ret
      exact ⟨rfl, hb1.trans (hb2.mono hb1.size)⟩
  · obtain ⟨n, hn⟩ : ∃ n, x.length = n := ⟨_, rfl⟩
    have hn40 := (contB_numbered hx).length
    rw [hn] at hn40
    have H1 := Lib.hid (fun W => implContainerBlocksYes s x n W hs hx hn)
    rcases hy : contB t with _ | y
    · have H2 := Lib.hid (fun W => implContainerBlocksNo t W ht hy)
      clear hx hy hn
      go_enter Try.func43, Try.ntmps43
      go_wp2_with fail
      refine (H1.out _).mono ?_
      rintro e w1 ⟨A1, c1, rfl, ho1, hb1⟩
      go_wp2_with fail
      refine (H2.out _).mono ?_
      rintro e w2 ⟨A2, c2, rfl, ho2, hb2⟩
      go_wp2_with fail
      go_ret
      exact ⟨rfl, hb1.trans (hb2.mono hb1.size)⟩
    · obtain ⟨m, hm⟩ : ∃ m, y.length = m := ⟨_, rfl⟩
      have hm40 := (contB_numbered hy).length
      rw [hm] at hm40
      have H2 := Lib.hid (fun W => implContainerBlocksYes t y m W ht hy hm)
      obtain ⟨l, hl⟩ : ∃ l, min n m = l := ⟨_, rfl⟩
      have hln : l ≤ n := by omega
      have hlm : l ≤ m := by omega
      have hR : sameBlks (some x) (some y) = ((upN x y + downN x y : Nat) : Int) := rfl
      obtain ⟨u, hu⟩ : ∃ u, upN x y = u := ⟨_, rfl⟩
      obtain ⟨d, hd⟩ : ∃ d, downN x y = d := ⟨_, rfl⟩
      rw [hu, hd] at hR
      rw [hR]
      unfold upN at hu
      unfold downN upN at hd
      rw [hu] at hd
      rw [hn, hm, hl] at hu hd
      have hul : u ≤ l := by rw [← hu]; exact scan_le (Nat.zero_le _)
      have hdl : d ≤ l - u := by rw [← hd]; exact scan_le (Nat.zero_le _)
      have hmin : min (n : Int) m = l := by omega
      have HU := Lib.hid hu
      have HD := Lib.hid hd
      have HN := Lib.hid hn
      have HM := Lib.hid hm
      clear hx hy hn hm hR hu hd hl
      go_enter Try.func43, Try.ntmps43
      go_wp2_with fail
      refine (H1.out _).mono ?_
      rintro e w1 ⟨A1, c1, rfl, ho1, hb1⟩
      go_wp2_with fail
      refine (H2.out _).mono ?_
      rintro e w2 ⟨A2, c2, rfl, ho2, hb2⟩
      have hr1 := (Row.of_own ho1).below hb2 (Nat.le_refl _)
      have hr1 := hr1.more hb2.size
      have hr2 := Row.of_own ho2
      have hb02 := hb1.trans (hb2.mono hb1.size)
      clear ho1 ho2 hb1 hb2 H1 H2
      go_upto_block 0 with (fail)
      go_cut [10] (fun v wx => v = .int .i64 u ∧ Below w2.heap.size w2 wx)
      case first =>
        go_wp2_with fail
        go_loopw [10] (fun v wr => ∃ k : Nat, k ≤ l ∧ v = .int .i64 k ∧ Hid (scan (sameUp x y) l k = u) ∧ Below w2.heap.size w2 wr) (fun v _ => l - (intOf v).toNat)
        case atStart => exact ⟨0, Nat.zero_le _, rfl, HU, Below.refl _ _⟩
        case round =>
          obtain ⟨k, hk, rfl, HK, hbel⟩ := hrel
          have hwz := hbel.size
          by_cases hlt : k < l
          · obtain ⟨⟨n1, r1, z1, b1⟩, hx1⟩ : ∃ b, x[k]? = some b := ⟨_, List.getElem?_eq_getElem (by rw [HN.out]; omega)⟩
            obtain ⟨⟨n2, r2, z2, b2⟩, hy1⟩ : ∃ b, y[k]? = some b := ⟨_, List.getElem?_eq_getElem (by rw [HM.out]; omega)⟩
            obtain ⟨g, off, rfl, hg, p0, p1, p2, p3⟩ := ((hr1.below hbel (Nat.le_refl _)).more hwz).blk (by omega) hx1
            obtain ⟨g', off', rfl, hg', q0, q1, q2, q3⟩ := ((hr2.below hbel (Nat.le_refl _)).more hwz).blk (by omega) hy1
            have hS : sameUp x y k = decide (SameB ⟨n1, r1, z1, b1⟩ ⟨n2, r2, z2, b2⟩) := by unfold sameUp; rw [blkAt_of hx1, blkAt_of hy1]
            obtain ⟨r, hr⟩ : ∃ r, decide (SameB ⟨n1, r1, z1, b1⟩ ⟨n2, r2, z2, b2⟩) = r := ⟨_, rfl⟩
            have HC := Lib.hid (fun W => implSameBlock n1 z1 n2 z2 r1 r2 b1 b2 r W (by rw [← hr]; simp))
            rw [hr] at hS
            have i1 : (0 : Int) ≤ k := by omega
            have i2 : (k : Int) < n := by omega
            have i3 : (k : Int) < m := by omega
            have HE : Hid ((r = true → scan (sameUp x y) l (k + 1) = u) ∧ (r = false → k = u)) := ⟨fun h => by rw [← HK.out, scan_yes hlt (hS.trans h)], fun h => by rw [← HK.out, scan_no hlt (hS.trans h)]⟩
            clear hr hx1 hy1 hr1 hr2 hS
            cases r
            · go_wp2_with fail
              go_region_held3 (fun w' => w'.cell? ⟨g, off + k * 4, none⟩ = some (.int .i64 n1) ∧ w'.cell? ⟨g, off + k * 4 + 1, none⟩ = some (.bool r1) ∧ w'.cell? ⟨g, off + k * 4 + 2, none⟩ = some (.int .i64 z1) ∧ w'.cell? ⟨g, off + k * 4 + 3, none⟩ = some (.string b1) ∧
                  w'.cell? ⟨g', off' + k * 4, none⟩ = some (.int .i64 n2) ∧ w'.cell? ⟨g', off' + k * 4 + 1, none⟩ = some (.bool r2) ∧ w'.cell? ⟨g', off' + k * 4 + 2, none⟩ = some (.int .i64 z2) ∧ w'.cell? ⟨g', off' + k * 4 + 3, none⟩ = some (.string b2) ∧ Below wr.heap.size wr w')
                (first | exact at8 hg hg' p0 p1 p2 p3 q0 q1 q2 q3 (Below.refl _ _).drew | (go_split_ands; exact at8 hg hg' p0 p1 p2 p3 q0 q1 q2 q3 (below_call (by assumption) (by assumption))))
                (first | (go_at_call 73; refine (HC.out _).mono ?_; rintro e w' ⟨rfl, hb⟩))
              go_split_ands
              have hB : Below wr.heap.size wr w' := by assumption
              go_wp2_with fail
              go_meet
              exact ⟨by rw [HE.out.2 (by simp)], hbel.trans (hB.mono hwz)⟩
            · go_wp2_with fail
              go_region_held3 (fun w' => w'.cell? ⟨g, off + k * 4, none⟩ = some (.int .i64 n1) ∧ w'.cell? ⟨g, off + k * 4 + 1, none⟩ = some (.bool r1) ∧ w'.cell? ⟨g, off + k * 4 + 2, none⟩ = some (.int .i64 z1) ∧ w'.cell? ⟨g, off + k * 4 + 3, none⟩ = some (.string b1) ∧
                  w'.cell? ⟨g', off' + k * 4, none⟩ = some (.int .i64 n2) ∧ w'.cell? ⟨g', off' + k * 4 + 1, none⟩ = some (.bool r2) ∧ w'.cell? ⟨g', off' + k * 4 + 2, none⟩ = some (.int .i64 z2) ∧ w'.cell? ⟨g', off' + k * 4 + 3, none⟩ = some (.string b2) ∧ Below wr.heap.size wr w')
                (first | exact at8 hg hg' p0 p1 p2 p3 q0 q1 q2 q3 (Below.refl _ _).drew | (go_split_ands; exact at8 hg hg' p0 p1 p2 p3 q0 q1 q2 q3 (below_call (by assumption) (by assumption))))
                (first | (go_at_call 73; refine (HC.out _).mono ?_; rintro e w' ⟨rfl, hb⟩))
              go_split_ands
              have hB : Below wr.heap.size wr w' := by assumption
              go_wp2_with fail
              go_roundw
              case rel => exact ⟨k + 1, by omega, by go_num, Lib.hid (HE.out.1 (by simp)), hbel.trans (hB.mono hwz)⟩
              case measure => simp [intOf]; omega
          · obtain rfl : k = l := by omega
            have HE := Lib.hid (show k = u by rw [← HK.out, scan_end (Nat.le_refl _)])
            have hd0 : decide ((k : Int) < k) = false := by simp
            go_wp2_with fail
            go_quiet (fail)
            go_wp2_with fail
            go_meet
            exact ⟨by rw [HE.out], hbel.trans ((Drawn.of _ _).below _)⟩
      case rest =>
        obtain ⟨rfl, hbel3⟩ := hcut
        have hz3 := hbel3.size
        go_wp2_with fail
        go_loopw [11] (fun v wr => ∃ k : Nat, k ≤ l - u ∧ v = .int .i64 k ∧ Hid (scan (sameDown x y) (l - u) k = d) ∧ Below w2.heap.size w2 wr) (fun v _ => l - (intOf v).toNat)
        case atStart => exact ⟨0, Nat.zero_le _, rfl, HD, hbel3⟩
        case round =>
          obtain ⟨k, hk, rfl, HK, hbel⟩ := hrel
          have hwz := hbel.size
          obtain ⟨uk, huk⟩ : ∃ uk, u + k = uk := ⟨_, rfl⟩
          have euk : (u : Int) + k = uk := by omega
          have wuk : IntKind.i64.wrap (uk : Int) = uk := IntWalk.i64_in _ (by omega)
          by_cases hlt : k < l - u
          · obtain ⟨i, hi⟩ : ∃ i, n - 1 - k = i := ⟨_, rfl⟩
            obtain ⟨j, hj⟩ : ∃ j, m - 1 - k = j := ⟨_, rfl⟩
            obtain ⟨i', hi'⟩ : ∃ i, n - 1 = i := ⟨_, rfl⟩
            obtain ⟨j', hj'⟩ : ∃ j, m - 1 = j := ⟨_, rfl⟩
            have ei' : (n : Int) - 1 = i' := by omega
            have ej' : (m : Int) - 1 = j' := by omega
            have ei : (i' : Int) - k = i := by omega
            have ej : (j' : Int) - k = j := by omega
            have wi' : IntKind.i64.wrap (i' : Int) = i' := IntWalk.i64_in _ (by omega)
            have wj' : IntKind.i64.wrap (j' : Int) = j' := IntWalk.i64_in _ (by omega)
            have wi : IntKind.i64.wrap (i : Int) = i := IntWalk.i64_in _ (by omega)
            have wj : IntKind.i64.wrap (j : Int) = j := IntWalk.i64_in _ (by omega)
            obtain ⟨⟨n1, r1, z1, b1⟩, hx1⟩ : ∃ b, x[i]? = some b := ⟨_, List.getElem?_eq_getElem (by rw [HN.out]; omega)⟩
            obtain ⟨⟨n2, r2, z2, b2⟩, hy1⟩ : ∃ b, y[j]? = some b := ⟨_, List.getElem?_eq_getElem (by rw [HM.out]; omega)⟩
            obtain ⟨g, off, rfl, hg, p0, p1, p2, p3⟩ := ((hr1.below hbel (Nat.le_refl _)).more hwz).blk (by omega) hx1
            obtain ⟨g', off', rfl, hg', q0, q1, q2, q3⟩ := ((hr2.below hbel (Nat.le_refl _)).more hwz).blk (by omega) hy1
            have hS : sameDown x y k = decide (SameB ⟨n1, r1, z1, b1⟩ ⟨n2, r2, z2, b2⟩) := by unfold sameDown; rw [HN.out, HM.out, hi, hj, blkAt_of hx1, blkAt_of hy1]
            obtain ⟨r, hr⟩ : ∃ r, decide (SameB ⟨n1, r1, z1, b1⟩ ⟨n2, r2, z2, b2⟩) = r := ⟨_, rfl⟩
            have HC := Lib.hid (fun W => implSameBlock n1 z1 n2 z2 r1 r2 b1 b2 r W (by rw [← hr]; simp))
            rw [hr] at hS
            have i1 : (0 : Int) ≤ i := by omega
            have i2 : (i : Int) < n := by omega
            have j1 : (0 : Int) ≤ j := by omega
            have j2 : (j : Int) < m := by omega
            have hlu : (uk : Int) < l := by omega
            have hmz : l - (k + 1) < l - k := by omega
            have HE : Hid ((r = true → scan (sameDown x y) (l - u) (k + 1) = d) ∧ (r = false → k = d)) := ⟨fun h => by rw [← HK.out, scan_yes hlt (hS.trans h)], fun h => by rw [← HK.out, scan_no hlt (hS.trans h)]⟩
            have hk1 : k + 1 ≤ l - u := by omega
            clear hr hx1 hy1 hr1 hr2 hS huk hi hj hi' hj'
            cases r
            · go_wp2_with fail
              go_region_held3 (fun w' => w'.cell? ⟨g, off + i * 4, none⟩ = some (.int .i64 n1) ∧ w'.cell? ⟨g, off + i * 4 + 1, none⟩ = some (.bool r1) ∧ w'.cell? ⟨g, off + i * 4 + 2, none⟩ = some (.int .i64 z1) ∧ w'.cell? ⟨g, off + i * 4 + 3, none⟩ = some (.string b1) ∧
                  w'.cell? ⟨g', off' + j * 4, none⟩ = some (.int .i64 n2) ∧ w'.cell? ⟨g', off' + j * 4 + 1, none⟩ = some (.bool r2) ∧ w'.cell? ⟨g', off' + j * 4 + 2, none⟩ = some (.int .i64 z2) ∧ w'.cell? ⟨g', off' + j * 4 + 3, none⟩ = some (.string b2) ∧ Below wr.heap.size wr w')
                (first | exact at8 hg hg' p0 p1 p2 p3 q0 q1 q2 q3 (Below.refl _ _).drew | (go_split_ands; exact at8 hg hg' p0 p1 p2 p3 q0 q1 q2 q3 (below_call (by assumption) (by assumption))))
                (first | (go_at_call 73; refine (HC.out _).mono ?_; rintro e w' ⟨rfl, hb⟩))
              go_split_ands
              have hB : Below wr.heap.size wr w' := by assumption
              clear euk wuk ei' ej' ei ej wi' wj' wi wj
              go_wp2_with fail
              go_ret
              exact ⟨ret_int (by rw [HE.out.2 (by simp)]; omega), hb02.trans ((hbel.trans (hB.mono hwz)).mono hb02.size)⟩
            · go_wp2_with fail
              go_region_held3 (fun w' => w'.cell? ⟨g, off + i * 4, none⟩ = some (.int .i64 n1) ∧ w'.cell? ⟨g, off + i * 4 + 1, none⟩ = some (.bool r1) ∧ w'.cell? ⟨g, off + i * 4 + 2, none⟩ = some (.int .i64 z1) ∧ w'.cell? ⟨g, off + i * 4 + 3, none⟩ = some (.string b1) ∧
                  w'.cell? ⟨g', off' + j * 4, none⟩ = some (.int .i64 n2) ∧ w'.cell? ⟨g', off' + j * 4 + 1, none⟩ = some (.bool r2) ∧ w'.cell? ⟨g', off' + j * 4 + 2, none⟩ = some (.int .i64 z2) ∧ w'.cell? ⟨g', off' + j * 4 + 3, none⟩ = some (.string b2) ∧ Below wr.heap.size wr w')
                (first | exact at8 hg hg' p0 p1 p2 p3 q0 q1 q2 q3 (Below.refl _ _).drew | (go_split_ands; exact at8 hg hg' p0 p1 p2 p3 q0 q1 q2 q3 (below_call (by assumption) (by assumption))))
                (first | (go_at_call 73; refine (HC.out _).mono ?_; rintro e w' ⟨rfl, hb⟩))
              go_split_ands
              have hB : Below wr.heap.size wr w' := by assumption
              clear euk wuk ei' ej' ei ej wi' wj' wi wj
              go_wp2_with fail
              go_roundw
              case rel => exact ⟨k + 1, hk1, by go_num, Lib.hid (HE.out.1 (by simp)), hbel.trans (hB.mono hwz)⟩
              case measure => simp [intOf]; omega
          · have HE := Lib.hid (show k = d by rw [← HK.out, scan_end (by omega)])
            have hd0 : decide ((uk : Int) < l) = false := by simp; omega
            have hd1 : decide (uk < l) = false := by simp; omega
            clear huk
            go_wp2_with fail
            go_quiet (fail)
            clear euk wuk
            go_wp2_with fail
            go_ret
            exact ⟨ret_int (by rw [HE.out]; omega), hb02.trans ((hbel.trans ((Drawn.of _ _).below _)).mono hb02.size)⟩

end Go.Proofs.Ytjbicmlilgimlaa
