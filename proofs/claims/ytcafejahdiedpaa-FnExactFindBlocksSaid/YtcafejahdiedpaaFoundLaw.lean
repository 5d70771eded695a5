/-
  The law's own helpers for slices of found blocks: eqFoundS, markFoundS, heldFoundS.
-/
import Derived.Test.YtcafejahdiedpaaFound
import Derived.Test.YtcafejahdiedpaaMark
namespace Go.Proofs.Ytcafejahdiedpaa
open Go.RowKit
set_option linter.unusedVariables false

theorem lawsEqBlock (b : Blk) (w : World) :
    Calls Try.prog 89 #[.agg #[.int .i64 b.num, .bool b.raw, .int .i64 b.size, .string b.body], .agg #[.int .i64 b.num, .bool b.raw, .int .i64 b.size, .string b.body]] w fun e w' => e = .returned (.bool true) ∧ Below w.heap.size w w' := by
  go_enter Try.func89, Try.ntmps89
  go_wp2
  go_ret
  exact ⟨rfl, by go_grown⟩

theorem lawsEqFound (pos num size : Nat) (raw : Bool) (body : ByteArray) (w : World) :
    Calls Try.prog 51 #[.agg #[.int .i64 pos, .int .i64 num, .bool raw, .int .i64 size, .string body], .agg #[.int .i64 pos, .int .i64 num, .bool raw, .int .i64 size, .string body]] w fun e w' => e = .returned (.bool true) ∧ Below w.heap.size w w' := by
  have HB := Lib.hid (fun W => lawsEqBlock ⟨num, raw, size, body⟩ W)
  go_enter Try.func51, Try.ntmps51
  go_wp2_with fail
  refine (HB.out _).mono ?_
  rintro e w1 ⟨rfl, hb1⟩
  have hb : Below w.heap.size w w1 := (((Below.refl w.heap.size w).alloc (Nat.le_refl _) _).alloc (by simp) _).trans (hb1.mono (by simp; omega))
  go_wp2_with fail
  go_ret
  exact ⟨rfl, hb⟩

theorem at5f {w0 wx : World} {b o b' o' : Nat} {u0 u1 u2 u3 u4 v0 v1 v2 v3 v4 : Value} (hb : b < w0.heap.size) (hb' : b' < w0.heap.size)
    (h : w0.cell? ⟨b, o, none⟩ = some u0 ∧ w0.cell? ⟨b, o + 1, none⟩ = some u1 ∧ w0.cell? ⟨b, o + 2, none⟩ = some u2 ∧ w0.cell? ⟨b, o + 3, none⟩ = some u3 ∧ w0.cell? ⟨b, o + 4, none⟩ = some u4)
    (h' : w0.cell? ⟨b', o', none⟩ = some v0 ∧ w0.cell? ⟨b', o' + 1, none⟩ = some v1 ∧ w0.cell? ⟨b', o' + 2, none⟩ = some v2 ∧ w0.cell? ⟨b', o' + 3, none⟩ = some v3 ∧ w0.cell? ⟨b', o' + 4, none⟩ = some v4)
    (k : Below w0.heap.size w0 wx) :
    wx.cell? ⟨b, o, none⟩ = some u0 ∧ wx.cell? ⟨b, o + 1, none⟩ = some u1 ∧ wx.cell? ⟨b, o + 2, none⟩ = some u2 ∧ wx.cell? ⟨b, o + 3, none⟩ = some u3 ∧ wx.cell? ⟨b, o + 4, none⟩ = some u4 ∧
      wx.cell? ⟨b', o', none⟩ = some v0 ∧ wx.cell? ⟨b', o' + 1, none⟩ = some v1 ∧ wx.cell? ⟨b', o' + 2, none⟩ = some v2 ∧ wx.cell? ⟨b', o' + 3, none⟩ = some v3 ∧ wx.cell? ⟨b', o' + 4, none⟩ = some v4 ∧ Below w0.heap.size w0 wx := by
  obtain ⟨h0, h1, h2, h3, h4⟩ := h
  obtain ⟨k0, k1, k2, k3, k4⟩ := h'
  exact ⟨(k.cell (p := ⟨b, o, none⟩) hb).trans h0, (k.cell (p := ⟨b, o + 1, none⟩) hb).trans h1, (k.cell (p := ⟨b, o + 2, none⟩) hb).trans h2, (k.cell (p := ⟨b, o + 3, none⟩) hb).trans h3, (k.cell (p := ⟨b, o + 4, none⟩) hb).trans h4,
    (k.cell (p := ⟨b', o', none⟩) hb').trans k0, (k.cell (p := ⟨b', o' + 1, none⟩) hb').trans k1, (k.cell (p := ⟨b', o' + 2, none⟩) hb').trans k2, (k.cell (p := ⟨b', o' + 3, none⟩) hb').trans k3, (k.cell (p := ⟨b', o' + 4, none⟩) hb').trans k4, k⟩

set_option maxHeartbeats 1000000 in
/-- eqFoundS at two slices that hold the same found blocks. -/
theorem lawsEqFoundS (A B : Option Addr) (n c d : Nat) (fs : List Fnd) (w : World) (hn : n ≤ 1048576) (h1 : Row w w.heap.size 5 A n (cellsF fs)) (h2 : Row w w.heap.size 5 B n (cellsF fs)) :
    Calls Try.prog 16 #[.slice A n c, .slice B n d] w fun e w' => e = .returned (.bool true) ∧ Below w.heap.size w w' := by
  have hlen := h1.len5
  go_enter Try.func16, Try.ntmps16
  go_wp2_with fail
  go_loopw [5] (fun i wr => ∃ k : Nat, k ≤ n ∧ i = .int .i64 k ∧ Below w.heap.size w wr) (fun i _ => n - (intOf i).toNat)
  case atStart => exact ⟨0, Nat.zero_le _, rfl, Below.refl _ _⟩
  case round =>
    obtain ⟨k, hk, rfl, hbel⟩ := hrel
    have hwz := hbel.size
    by_cases hlt : k < n
    · obtain ⟨⟨pos, num, raw, size, body⟩, hp⟩ : ∃ p, fs[k]? = some p := ⟨_, List.getElem?_eq_getElem (by omega)⟩
      obtain ⟨g, off, rfl, hg, p0, p1, p2, p3, p4⟩ := ((h1.below hbel (Nat.le_refl _)).more hwz).fnd hlt hp
      obtain ⟨g', off', rfl, hg', q0, q1, q2, q3, q4⟩ := ((h2.below hbel (Nat.le_refl _)).more hwz).fnd hlt hp
      have i1 : (0 : Int) ≤ k := by omega
      have i2 : (k : Int) < n := by omega
      clear hp hlen h1 h2
      go_wp2_with fail
      go_region_held3 (fun w' => w'.cell? ⟨g, off + k * 5, none⟩ = some (.int .i64 pos) ∧ w'.cell? ⟨g, off + k * 5 + 1, none⟩ = some (.int .i64 num) ∧ w'.cell? ⟨g, off + k * 5 + 2, none⟩ = some (.bool raw) ∧ w'.cell? ⟨g, off + k * 5 + 3, none⟩ = some (.int .i64 size) ∧ w'.cell? ⟨g, off + k * 5 + 4, none⟩ = some (.string body) ∧
          w'.cell? ⟨g', off' + k * 5, none⟩ = some (.int .i64 pos) ∧ w'.cell? ⟨g', off' + k * 5 + 1, none⟩ = some (.int .i64 num) ∧ w'.cell? ⟨g', off' + k * 5 + 2, none⟩ = some (.bool raw) ∧ w'.cell? ⟨g', off' + k * 5 + 3, none⟩ = some (.int .i64 size) ∧ w'.cell? ⟨g', off' + k * 5 + 4, none⟩ = some (.string body) ∧ Below wr.heap.size wr w')
        (first | exact at5f hg hg' ⟨p0, p1, p2, p3, p4⟩ ⟨q0, q1, q2, q3, q4⟩ (Below.refl _ _).drew | (go_split_ands; exact at5f hg hg' ⟨p0, p1, p2, p3, p4⟩ ⟨q0, q1, q2, q3, q4⟩ (below_call' (by assumption) (by assumption))))
        (first | (go_at_call 51; refine (lawsEqFound pos num size raw body _).mono ?_; rintro e w' ⟨rfl, hb⟩))
      go_split_ands
      have hB : Below wr.heap.size wr w' := by assumption
      go_wp2_with fail
      go_roundw
      case rel => exact ⟨k + 1, by omega, by go_num, hbel.trans (hB.mono hwz)⟩
      case measure => simp [intOf]; omega
    · clear hlen
      go_wp2_with fail
      go_ret
      exact ⟨rfl, hbel⟩

/-- A found block out of marks. -/
def mkFnd (j : Nat) : Fnd := ⟨1 + 5 * j, ⟨2 + 5 * j, (3 + 5 * j) % 3 == 0, 4 + 5 * j, mtx (5 + 5 * j)⟩⟩

def marksF (n : Nat) : List Fnd := (List.range n).map mkFnd

theorem marksF_succ (n : Nat) : marksF (n + 1) = marksF n ++ [mkFnd n] := by simp [marksF, List.range_succ]

theorem marksF_length (n : Nat) : (marksF n).length = n := by simp [marksF]

theorem marksF_get {n k : Nat} (h : k < n) : (marksF n)[k]? = some (mkFnd k) := by simp [marksF, h]

theorem take_set5 {ys : List Value} {j : Nat} {a b c d e : Value} {zs : List Value} (hl : j * 5 + 5 ≤ ys.length) (hz : ys.take (j * 5) = zs) :
    (((((ys.set (j * 5) a).set (j * 5 + 1) b).set (j * 5 + 2) c).set (j * 5 + 3) d).set (j * 5 + 4) e).take ((j + 1) * 5) = zs ++ [a, b, c, d, e] := by
  have hzl : zs.length = j * 5 := by rw [← hz, List.length_take]; omega
  subst hz
  apply List.ext_getElem?
  intro i
  rw [List.getElem?_take]
  simp only [List.getElem?_set, List.length_set]
  by_cases h1 : i < j * 5
  · rw [if_pos (by omega), if_neg (by omega), if_neg (by omega), if_neg (by omega), if_neg (by omega), if_neg (by omega), List.getElem?_append_left (by omega), List.getElem?_take, if_pos h1]
  · rw [List.getElem?_append_right (by omega), hzl]
    by_cases h2 : i < j * 5 + 5
    · rw [if_pos (by omega)]
      obtain rfl | rfl | rfl | rfl | rfl : i = j * 5 ∨ i = j * 5 + 1 ∨ i = j * 5 + 2 ∨ i = j * 5 + 3 ∨ i = j * 5 + 4 := by omega
      · simp; omega
      · simp; omega
      · simp; omega
      · simp; omega
      · simp; omega
    · rw [if_neg (by omega), List.getElem?_eq_none (by simp; omega)]

set_option maxHeartbeats 4000000 in
theorem lawsMarkFoundS (base : Nat) (A : Option Addr) (n c : Nat) (zs : List Value) (w : World) (hn : n ≤ 1048576) (h : w.ownsRow base 70 5 (.slice A n c) n zs) :
    Calls Try.prog 17 #[.slice A n c, .int .i64 1] w fun e w' => e = .returned (.int .i64 ((1 + 5 * n : Nat) : Int)) ∧ w'.ownsRow base 70 5 (.slice A n c) n (cellsF (marksF n)) ∧ w.grownBy w' (Value.slice A n c).ownBlock := by
  rcases Nat.eq_zero_or_pos n with h0 | h0
  · subst h0
    have hz : zs = [] := List.eq_nil_of_length_eq_zero (by have := h.1; omega)
    subst hz
    go_enter Try.func17, Try.ntmps17
    go_wp2_with fail
    go_loopw [1, 5] (fun v i wr => v = .int .i64 1 ∧ i = .int .i64 0 ∧ w = wr) (fun _ _ _ => 0)
    case atStart => exact ⟨rfl, rfl, rfl⟩
    case round =>
      obtain ⟨rfl, rfl, rfl⟩ := hrel
      go_wp2_with fail
      go_ret
      exact ⟨rfl, h, World.grownBy.refl _ _⟩
  · obtain ⟨g, rfl, hbg, hglt⟩ := own_addr h h0
    go_enter Try.func17, Try.ntmps17
    go_wp2_with fail
    go_loopw [1, 5] (fun v i wr => ∃ j : Nat, j ≤ n ∧ i = .int .i64 j ∧ v = .int .i64 ((1 + 5 * j : Nat) : Int) ∧ (∃ ys : List Value, wr.ownsRow base 70 5 (.slice (some ⟨g, 0, none⟩) n c) n ys ∧ ys.take (j * 5) = cellsF (marksF j)) ∧ w.grownBy wr (some g)) (fun _ i _ => n - (intOf i).toNat)
    case atStart => exact ⟨0, Nat.zero_le _, rfl, rfl, ⟨_, h, by simp [marksF, cellsF]⟩, World.grownBy.refl _ _⟩
    case round =>
      obtain ⟨j, hj, rfl, rfl, ⟨ys, hown, hys⟩, hgr⟩ := hrel
      have hgs := hgr.size
      by_cases hlt2 : j < n
      · have hyl : ys.length = n * 5 := by have := hown.1; omega
        obtain ⟨o, ho⟩ : ∃ o, j * 5 = o := ⟨_, rfl⟩
        have hol : o + 5 ≤ ys.length := by omega
        obtain ⟨m, hm⟩ : ∃ m, 1 + 5 * j = m := ⟨_, rfl⟩
        have hm2 : m ≤ 6000000 := by omega
        rw [hm]
        obtain ⟨m1, hm1⟩ : ∃ x, m + 1 = x := ⟨_, rfl⟩
        obtain ⟨m2, hm2'⟩ : ∃ x, m1 + 1 = x := ⟨_, rfl⟩
        obtain ⟨m3, hm3⟩ : ∃ x, m2 + 1 = x := ⟨_, rfl⟩
        obtain ⟨m4, hm4⟩ : ∃ x, m3 + 1 = x := ⟨_, rfl⟩
        obtain ⟨m5, hm5⟩ : ∃ x, m4 + 1 = x := ⟨_, rfl⟩
        have e1 : (m : Int) + 1 = m1 := by omega
        have e2 : (m1 : Int) + 1 = m2 := by omega
        have e3 : (m2 : Int) + 1 = m3 := by omega
        have e4 : (m3 : Int) + 1 = m4 := by omega
        have e5 : (m4 : Int) + 1 = m5 := by omega
        have b1 : m1 ≤ 6000001 := by omega
        have b2 : m2 ≤ 6000002 := by omega
        have b3 : m3 ≤ 6000003 := by omega
        have b4 : m4 ≤ 6000004 := by omega
        have b40 : 0 < m4 := by omega
        obtain ⟨r, hr⟩ : ∃ r, (m2 % 3 == 0) = r := ⟨_, rfl⟩
        have er : ((m2 : Int) % 3 == 0) = r := by rw [← hr, Bool.eq_iff_iff]; simp; omega
        obtain ⟨T, hT⟩ : ∃ T, mtx m4 = T := ⟨_, rfl⟩
        have HMT := Lib.hid (fun W => hT ▸ lawsMarkTextX m4 W b40 (by omega))
        have hmk : mkFnd j = ⟨m, ⟨m1, r, m3, T⟩⟩ := by
          unfold mkFnd
          rw [← hT, ← hr, show 1 + 5 * j = m by omega, show 2 + 5 * j = m1 by omega, show 3 + 5 * j = m2 by omega, show 4 + 5 * j = m3 by omega, show 5 + 5 * j = m4 by omega]
        have HM5 := Lib.hid (show m5 = 1 + 5 * (j + 1) by omega)
        have hnew : ((((((ys.set o (.int .i64 m)).set (o + 1) (.int .i64 m1)).set (o + 1 + 1) (.bool r)).set (o + 1 + 2) (.int .i64 m3)).set (o + 1 + 3) (.string T)).take ((j + 1) * 5)) = cellsF (marksF (j + 1)) := by
          subst ho
          refine (take_set5 (by omega) hys).trans ?_
          rw [marksF_succ, cellsF_append, cellsF_one, hmk]; rfl
        have HN := Lib.hid hnew
        have cellOf : ∀ i, i < ys.length → ∃ y, wr.cell? ⟨g, i, none⟩ = some y := fun i hi => ⟨ys[i], by rw [hown.cellAt i (by omega)]; exact List.getElem?_eq_getElem hi⟩
        obtain ⟨y0, hc0⟩ := cellOf o (by omega)
        obtain ⟨y1, hc1⟩ := cellOf (o + 1) (by omega)
        obtain ⟨y2, hc2⟩ := cellOf (o + 1 + 1) (by omega)
        obtain ⟨y3, hc3⟩ := cellOf (o + 1 + 2) (by omega)
        have hf0 := hown.frozenAt o
        have hf1 := hown.frozenAt (o + 1)
        have hf2 := hown.frozenAt (o + 1 + 1)
        have hf3 := hown.frozenAt (o + 1 + 2)
        have s3 := ((((((((hown.stored o (.int .i64 m)).1).stored (o + 1) (.int .i64 m1)).1).stored (o + 1 + 1) (.bool r)).1).stored (o + 1 + 2) (.int .i64 m3)).1)
        have g3 := only_setCell (p := ⟨g, o + 1 + 2, none⟩) (only_setCell (p := ⟨g, o + 1 + 1, none⟩) (only_setCell (p := ⟨g, o + 1, none⟩) (only_setCell (p := ⟨g, o, none⟩) hgr rfl (.int .i64 m)) rfl (.int .i64 m1)) rfl (.bool r)) rfl (.int .i64 m3)
        have hl3 : ((((ys.set o (.int .i64 m)).set (o + 1) (.int .i64 m1)).set (o + 1 + 1) (.bool r)).set (o + 1 + 2) (.int .i64 m3)).length = ys.length := by simp
        obtain ⟨ys3, hys3⟩ : ∃ y, (((ys.set o (.int .i64 m)).set (o + 1) (.int .i64 m1)).set (o + 1 + 1) (.bool r)).set (o + 1 + 2) (.int .i64 m3) = y := ⟨_, rfl⟩
        rw [hys3] at s3 hl3 HN
        obtain ⟨W3, hW3⟩ : ∃ W3, ((((wr.setCell ⟨g, o, none⟩ (.int .i64 m)).setCell ⟨g, o + 1, none⟩ (.int .i64 m1)).setCell ⟨g, o + 1 + 1, none⟩ (.bool r)).setCell ⟨g, o + 1 + 2, none⟩ (.int .i64 m3)) = W3 := ⟨_, rfl⟩
        rw [hW3] at s3 g3
        clear cellOf hr hT hmk hnew hys hown hys3 hm hm1 hm2' hm3 hm4 hm5 hyl hgr hgs
        go_wp2_with fail
        clear hc0 hc1 hc2 hc3 hf0 hf1 hf2 hf3 hW3
        refine (HMT.out _).mono ?_
        rintro e w2 ⟨rfl, hb2⟩
        have s4 := own_below s3 hb2 (Nat.le_refl _)
        have g4 := only_below g3 hb2
        have hc4 : w2.cell? ⟨g, o + 1 + 3, none⟩ = some (ys3[o + 1 + 3]'(by omega)) := by rw [s4.cellAt (o + 1 + 3) (by omega)]; exact List.getElem?_eq_getElem _
        have hf4 := s4.frozenAt (o + 1 + 3)
        obtain ⟨y4, hy4⟩ : ∃ y, ys3[o + 1 + 3]'(by omega) = y := ⟨_, rfl⟩
        rw [hy4] at hc4
        have s5 := (s4.stored (o + 1 + 3) (.string T)).1
        have g5 := only_setCell (p := ⟨g, o + 1 + 3, none⟩) g4 rfl (.string T)
        have hol5 : j * 5 + 5 ≤ ys3.length := by omega
        clear hy4 s3 s4 g3 g4 hb2 hl3
        go_wp2_with fail
        go_roundw
        case rel => exact ⟨j + 1, by omega, by go_num, by rw [← HM5.out], ⟨_, s5, HN.out⟩, g5⟩
        case measure => simp [intOf]; omega
      · obtain rfl : j = n := by omega
        have hyl : ys.length = j * 5 := by have := hown.1; omega
        rw [List.take_of_length_le (by omega)] at hys
        subst hys
        clear hyl
        go_wp2_with fail
        go_ret
        exact ⟨rfl, hown, hgr⟩

set_option maxHeartbeats 4000000 in
theorem lawsHeldFoundS (A : Option Addr) (n c Q : Nat) (w : World) (hn : n ≤ 1048576) (h : Row w Q 5 A n (cellsF (marksF n))) (hQ : Q ≤ w.heap.size) :
    Calls Try.prog 18 #[.slice A n c, .int .i64 1] w fun e w' => e = .returned (.int .i64 ((1 + 5 * n : Nat) : Int)) ∧ Below w.heap.size w w' := by
  go_enter Try.func18, Try.ntmps18
  go_wp2_with fail
  go_loopw [1, 5] (fun v i wr => ∃ j : Nat, j ≤ n ∧ i = .int .i64 j ∧ v = .int .i64 ((1 + 5 * j : Nat) : Int) ∧ Below w.heap.size w wr) (fun _ i _ => n - (intOf i).toNat)
  case atStart => exact ⟨0, Nat.zero_le _, rfl, rfl, Below.refl _ _⟩
  case round =>
    obtain ⟨j, hj, rfl, rfl, hbel⟩ := hrel
    have hwz := hbel.size
    by_cases hlt : j < n
    · obtain ⟨m, hm⟩ : ∃ m, 1 + 5 * j = m := ⟨_, rfl⟩
      rw [hm]
      obtain ⟨m1, hm1⟩ : ∃ x, m + 1 = x := ⟨_, rfl⟩
      obtain ⟨m2, hm2'⟩ : ∃ x, m1 + 1 = x := ⟨_, rfl⟩
      obtain ⟨m3, hm3⟩ : ∃ x, m2 + 1 = x := ⟨_, rfl⟩
      obtain ⟨m4, hm4⟩ : ∃ x, m3 + 1 = x := ⟨_, rfl⟩
      obtain ⟨m5, hm5⟩ : ∃ x, m4 + 1 = x := ⟨_, rfl⟩
      have e1 : (m : Int) + 1 = m1 := by omega
      have e2 : (m1 : Int) + 1 = m2 := by omega
      have e3 : (m2 : Int) + 1 = m3 := by omega
      have e4 : (m3 : Int) + 1 = m4 := by omega
      have e5 : (m4 : Int) + 1 = m5 := by omega
      have b0 : m ≤ 6000000 := by omega
      have b1 : m1 ≤ 6000001 := by omega
      have b2 : m2 ≤ 6000002 := by omega
      have b3 : m3 ≤ 6000003 := by omega
      have b4 : m4 ≤ 6000004 := by omega
      have b40 : 0 < m4 := by omega
      obtain ⟨r, hr⟩ : ∃ r, (m2 % 3 == 0) = r := ⟨_, rfl⟩
      have er : ((m2 : Int) % 3 == 0) = r := by rw [← hr, Bool.eq_iff_iff]; simp; omega
      obtain ⟨T, hT⟩ : ∃ T, mtx m4 = T := ⟨_, rfl⟩
      have HMT := Lib.hid (fun W => hT ▸ lawsMarkTextX m4 W b40 (by omega))
      have hmk : mkFnd j = ⟨m, ⟨m1, r, m3, T⟩⟩ := by
        unfold mkFnd
        rw [← hT, ← hr, show 1 + 5 * j = m by omega, show 2 + 5 * j = m1 by omega, show 3 + 5 * j = m2 by omega, show 4 + 5 * j = m3 by omega, show 5 + 5 * j = m4 by omega]
      have HM5 := Lib.hid (show m5 = 1 + 5 * (j + 1) by omega)
      obtain ⟨b, off, rfl, hb, p0, p1, p2, p3, p4⟩ := (h.below hbel hQ).fnd hlt ((marksF_get hlt).trans (congrArg some hmk))
      have p2' : wr.cell? ⟨b, off + j * 5 + 1 + 1, none⟩ = some (.bool r) := p2
      have p3' : wr.cell? ⟨b, off + j * 5 + 1 + 2, none⟩ = some (.int .i64 m3) := p3
      have p4' : wr.cell? ⟨b, off + j * 5 + 1 + 3, none⟩ = some (.string T) := p4
      have i1 : (0 : Int) ≤ j := by omega
      have i2 : (j : Int) < n := by omega
      have hbw : b < wr.heap.size := by omega
      clear hr hT hmk hm hm1 hm2' hm3 hm4 hm5 p2 p3 p4 h
      go_wp2_with fail
      go_region_held3 (fun w' => w'.cell? ⟨b, off + j * 5 + 1 + 3, none⟩ = some (.string T) ∧ Below wr.heap.size wr w')
        (first | exact held1 hbw p4' (Below.refl _ _).drew | (go_split_ands; exact held1 hbw p4' (below_call' (by assumption) (by assumption))))
        (first | (go_at_call 52; refine (HMT.out _).mono ?_; rintro e w' ⟨rfl, hb⟩))
      go_split_ands
      have hB : Below wr.heap.size wr w' := by assumption
      go_wp2_with fail
      go_roundw
      case rel => exact ⟨j + 1, by omega, by go_num, by rw [← HM5.out], hbel.trans (hB.mono hwz)⟩
      case measure => simp [intOf]; omega
    · obtain rfl : j = n := by omega
      go_wp2_with fail
      go_ret
      exact ⟨rfl, hbel⟩

end Go.Proofs.Ytcafejahdiedpaa
