/-
  The law's own helpers for slices of pieces: toPieceS, eqPieceS, markText, markPieceS.
-/
import Derived.Test.YtcafejahdiedpaaPieces
import Derived.Test.YtcafejahdiedpaaInts
import Derived.Test.YtcafejahdiedpaaBlockText
namespace Go.Proofs.Ytcafejahdiedpaa
open Go.RowKit
set_option linter.unusedVariables false
attribute [local go_sem ↓] Go.wp_at_zero Go.wp_at_succ

theorem infoPc : (Try.prog.info? 95).map (fun i => (i.zero, i.size, i.bytes)) = some (some (.agg #[.int .i64 0, .string ByteArray.empty]), 2, 24) := by kernel_rfl

theorem elemPc : Elem Try.prog 48 95 (.agg #[.int .i64 0, .string ByteArray.empty]) 2 24 := ⟨Try.underlying48, infoPc, rfl, by decide⟩

set_option maxHeartbeats 400000 in
theorem lawsToPiece (num : Int) (data : ByteArray) (w : World) :
    Calls Try.prog 67 #[.agg #[.int .i64 num, .string data]] w fun e w' => e = .returned (.agg #[.int .i64 num, .string data]) ∧ Below w.heap.size w w' := by
  go_enter Try.func67, Try.ntmps67
  go_wp2
  refine bodyPost_ret (v := .agg #[.int .i64 num, .string data]) (by simp [results, Try.results67, go_sem]) rfl ⟨rfl, ?_⟩
  go_grown

set_option maxHeartbeats 400000 in
theorem lawsEqPiece (num : Int) (data : ByteArray) (w : World) :
    Calls Try.prog 71 #[.agg #[.int .i64 num, .string data], .agg #[.int .i64 num, .string data]] w fun e w' => e = .returned (.bool true) ∧ Below w.heap.size w w' := by
  go_enter Try.func71, Try.ntmps71
  go_wp2
  go_ret
  exact ⟨rfl, by go_grown⟩

/-- What toPieceS returns: new memory that holds the same pieces. -/
def NewPcs (w : World) (ps : List Pc) (e : Ending) (w' : World) : Prop :=
  ∃ A c, e = .returned (.slice A ps.length c) ∧ w'.ownsRow w.heap.size 95 2 (.slice A ps.length c) ps.length (cellsP ps) ∧ Below w.heap.size w w'

set_option maxHeartbeats 1000000 in
theorem lawsToPieceS (A : Option Addr) (n c : Nat) (ps : List Pc) (w : World) (h : PcRow w A n ps) (hn : n ≤ 1048576) :
    Calls Try.prog 36 #[.slice A n c] w (NewPcs w ps) := by
  obtain ⟨i0, hi0, hz0, hz1, hz2⟩ := info_parts infoPc
  have hmk := fun W => run_make_rowN (P := Try.prog) 48 95 i0 _ Try.underlying48 hi0 hz0 .i64 .i64 n n (Nat.le_refl _) (by rw [hz2]; omega) (by omega) W
  rw [hz1] at hmk
  obtain ⟨cs, hcs⟩ : ∃ cs, madeCells (Value.agg #[.int .i64 0, .string ByteArray.empty]).cells (n * 2) = cs := ⟨_, rfl⟩
  have hcsz : cs.size = n * 2 := by rw [← hcs]; simp [madeCells]
  rw [hcs] at hmk
  have hown0 := World.ownsRow_lit (base := w.heap.size) (size := 2) (e := 95) w cs n (Nat.le_refl _) h.le hcsz
  have HO := Lib.hid hown0
  clear hown0 hcs hcsz hi0 hz0 hz1 hz2
  go_enter Try.func36, Try.ntmps36
  go_wp2_with fail
  go_loopw [4] (fun i wr => ∃ k : Nat, k ≤ n ∧ i = .int .i64 k ∧ (∃ ys, wr.ownsRow w.heap.size 95 2 (.slice (some ⟨w.heap.size, 0, none⟩) n n) n ys ∧ ys.take (k * 2) = cellsP (ps.take k)) ∧ Below w.heap.size w wr) (fun i _ => n - (intOf i).toNat)
  case atStart => exact ⟨0, Nat.zero_le _, rfl, ⟨_, HO.out, by simp [cellsP]⟩, (Below.refl _ _).alloc (Nat.le_refl _) _⟩
  case round =>
    clear hmk
    obtain ⟨k, hk, rfl, ⟨ys, hown, hys⟩, hbel⟩ := hrel
    have hlen := h.len
    have hwz := hbel.size
    by_cases hlt : k < n
    · obtain ⟨⟨num, data⟩, hp⟩ : ∃ p, ps[k]? = some p := ⟨_, List.getElem?_eq_getElem (by omega)⟩
      obtain ⟨b, off, rfl, hb, g0, g1⟩ := (h.below hbel).row.pc hlt hp
      have HL := Lib.hid hlen
      have HP := Lib.hid hp
      have HY := Lib.hid hys
      clear hlen hp hys
      go_wp2_with fail
      refine (lawsToPiece num data _).mono ?_
      rintro e w1 ⟨rfl, hb1⟩
      have hown1 := own_below hown hb1 (Nat.le_refl _)
      have hbel1 := hbel.trans (hb1.mono hwz)
      have hyl : ys.length = n * 2 := by have := hown1.1; omega
      have hc0 : w1.cell? ⟨w.heap.size, k * 2, none⟩ = some (ys[k * 2]'(by omega)) := by rw [hown1.cellAt (k * 2) (by omega)]; exact List.getElem?_eq_getElem _
      have hc1 : w1.cell? ⟨w.heap.size, k * 2 + 1, none⟩ = some (ys[k * 2 + 1]'(by omega)) := by rw [hown1.cellAt (k * 2 + 1) (by omega)]; exact List.getElem?_eq_getElem _
      have hf0 := hown1.frozenAt (k * 2)
      have hf1 := hown1.frozenAt (k * 2 + 1)
      obtain ⟨y0, hy0⟩ : ∃ y, ys[k * 2]'(by omega) = y := ⟨_, rfl⟩
      obtain ⟨y1, hy1⟩ : ∃ y, ys[k * 2 + 1]'(by omega) = y := ⟨_, rfl⟩
      rw [hy0] at hc0
      rw [hy1] at hc1
      have hs1 := (hown1.stored (k * 2) (.int .i64 num)).1
      have hs2 := (hs1.stored (k * 2 + 1) (.string data)).1
      have hnew : ((ys.set (k * 2) (.int .i64 num)).set (k * 2 + 1) (.string data)).take ((k + 1) * 2) = cellsP (ps.take (k + 1)) := by
        obtain ⟨hkl, hpk⟩ := List.getElem?_eq_some_iff.1 HP.out
        rw [show (k + 1) * 2 = k * 2 + 1 + 1 from by omega, List.take_succ_eq_append_getElem (by simp; omega), List.take_succ_eq_append_getElem (by simp; omega),
          List.take_set_of_le (by omega), List.take_set_of_le (by omega), HY.out, List.take_succ_eq_append_getElem hkl, cellsP_append, hpk]
        simp [cellsP, pcCells]
      have HS := Lib.hid hs2
      have HN := Lib.hid hnew
      have HBB := Lib.hid ((hbel1.setCell (p := ⟨w.heap.size, k * 2, none⟩) (Nat.le_refl _) (.int .i64 num)).setCell (p := ⟨w.heap.size, k * 2 + 1, none⟩) (Nat.le_refl _) (.string data))
      clear hy0 hy1 hs1 hs2 hnew hown hown1 hb1 hbel hbel1 hyl
      go_wp2_with fail
      go_roundw
      case rel => exact ⟨k + 1, by omega, by go_num, ⟨_, HS.out, HN.out⟩, HBB.out⟩
      case measure => simp [intOf]; omega
    · obtain rfl : k = n := by omega
      have hyl : ys.length = k * 2 := by have := hown.1; omega
      rw [List.take_of_length_le (by omega), List.take_of_length_le (by omega)] at hys
      subst hys
      have HL := Lib.hid hlen
      clear hlen hyl
      go_wp2_with fail
      go_ret
      exact ⟨some ⟨w.heap.size, 0, none⟩, k, by rw [HL.out]; rfl, by rw [HL.out]; exact hown, hbel⟩

theorem at4p {w0 wx : World} {b o b' o' : Nat} {u0 u1 v0 v1 : Value} (hb : b < w0.heap.size) (hb' : b' < w0.heap.size)
    (h0 : w0.cell? ⟨b, o, none⟩ = some u0) (h1 : w0.cell? ⟨b, o + 1, none⟩ = some u1) (k0 : w0.cell? ⟨b', o', none⟩ = some v0) (k1 : w0.cell? ⟨b', o' + 1, none⟩ = some v1) (h : Below w0.heap.size w0 wx) :
    wx.cell? ⟨b, o, none⟩ = some u0 ∧ wx.cell? ⟨b, o + 1, none⟩ = some u1 ∧ wx.cell? ⟨b', o', none⟩ = some v0 ∧ wx.cell? ⟨b', o' + 1, none⟩ = some v1 ∧ Below w0.heap.size w0 wx :=
  ⟨(h.cell (p := ⟨b, o, none⟩) hb).trans h0, (h.cell (p := ⟨b, o + 1, none⟩) hb).trans h1, (h.cell (p := ⟨b', o', none⟩) hb').trans k0, (h.cell (p := ⟨b', o' + 1, none⟩) hb').trans k1, h⟩

set_option maxHeartbeats 1000000 in
/-- eqPieceS at two slices that hold the same pieces. -/
theorem lawsEqPieceS (A B : Option Addr) (n c d : Nat) (ps : List Pc) (w : World) (hn : n ≤ 1048576) (h1 : Row w w.heap.size 2 A n (cellsP ps)) (h2 : Row w w.heap.size 2 B n (cellsP ps)) :
    Calls Try.prog 38 #[.slice A n c, .slice B n d] w fun e w' => e = .returned (.bool true) ∧ Below w.heap.size w w' := by
  have hlen := h1.len2
  go_enter Try.func38, Try.ntmps38
  go_wp2_with fail
  go_loopw [5] (fun i wr => ∃ k : Nat, k ≤ n ∧ i = .int .i64 k ∧ Below w.heap.size w wr) (fun i _ => n - (intOf i).toNat)
  case atStart => exact ⟨0, Nat.zero_le _, rfl, Below.refl _ _⟩
  case round =>
    obtain ⟨k, hk, rfl, hbel⟩ := hrel
    have hwz := hbel.size
    by_cases hlt : k < n
    · obtain ⟨⟨num, data⟩, hp⟩ : ∃ p, ps[k]? = some p := ⟨_, List.getElem?_eq_getElem (by omega)⟩
      obtain ⟨g, off, rfl, hg, p0, p1⟩ := ((h1.below hbel (Nat.le_refl _)).more hwz).pc hlt hp
      obtain ⟨g', off', rfl, hg', q0, q1⟩ := ((h2.below hbel (Nat.le_refl _)).more hwz).pc hlt hp
      have i1 : (0 : Int) ≤ k := by omega
      have i2 : (k : Int) < n := by omega
      clear hp hlen h1 h2
      go_wp2_with fail
      go_region_held3 (fun w' => w'.cell? ⟨g, off + k * 2, none⟩ = some (.int .i64 num) ∧ w'.cell? ⟨g, off + k * 2 + 1, none⟩ = some (.string data) ∧
          w'.cell? ⟨g', off' + k * 2, none⟩ = some (.int .i64 num) ∧ w'.cell? ⟨g', off' + k * 2 + 1, none⟩ = some (.string data) ∧ Below wr.heap.size wr w')
        (first | exact at4p hg hg' p0 p1 q0 q1 (Below.refl _ _).drew | (go_split_ands; exact at4p hg hg' p0 p1 q0 q1 (below_call (by assumption) (by assumption))))
        (first | (go_at_call 71; refine (lawsEqPiece num data _).mono ?_; rintro e w' ⟨rfl, hb⟩))
      go_split_ands
      have hB : Below wr.heap.size wr w' := by assumption
      go_wp2_with fail
      go_roundw
      case rel => exact ⟨k + 1, by omega, by go_num, hbel.trans (hB.mono hwz)⟩
      case measure => simp [intOf]; omega
    · clear hlen
      go_wp2_with fail
      go_ret
      exact ⟨rfl, hbel⟩

/-- A text that is not too long. -/
def SomeText (m : Nat) (w : World) (e : Ending) (w' : World) : Prop := ∃ t : ByteArray, t.size ≤ m ∧ e = .returned (.string t) ∧ Below w.heap.size w w'

set_option maxHeartbeats 1000000 in
theorem lawsMarkText (k : Int) (w : World) (h0 : 0 ≤ k) (h1 : k ≤ 4194304) :
    Calls Try.prog 52 #[.int .i64 k] w (SomeText 4194308 w) := by
  by_cases hk : k ≤ 0
  · go_enter Try.func52, Try.ntmps52
    go_wp2
    go_ret
    exact ⟨_, by decide, rfl, Below.refl _ _⟩
  · obtain ⟨m, rfl⟩ := Int.eq_ofNat_of_zero_le h0
    go_enter Try.func52, Try.ntmps52
    go_wp2_with fail
    go_loopw [0, 3] (fun v o wr => ∃ (j : Nat) (t : ByteArray), v = .int .i64 j ∧ o = .string t ∧ t.size + j ≤ 4194304 ∧ Below w.heap.size w wr) (fun v _ _ => (intOf v).toNat)
    case atStart => exact ⟨m, ByteArray.empty, rfl, rfl, by show 0 + m ≤ _; omega, Below.refl _ _⟩
    case round =>
      obtain ⟨j, t, rfl, rfl, ht, hbel⟩ := hrel
      have hwz := hbel.size
      by_cases hj : 0 < j
      · have hcv := run_one_byte (P := Try.prog) Try.underlying52 Try.underlying5 Try.underlying9 (48 + j % 10) (by omega)
        have hadd : ∀ W, (Op.stringOp .add ⟨#[UInt8.ofNat (48 + j % 10)]⟩ t).run Try.prog W = .ok (.string (⟨#[UInt8.ofNat (48 + j % 10)]⟩ ++ t)) W := fun W => run_string_add_sum W _ _ (by show 1 + t.size ≤ _; omega)
        go_wp2
        go_roundw
        case rel => exact ⟨j / 10, _, by go_num, rfl, by rw [ByteArray.size_append]; show 1 + t.size + j / 10 ≤ _; omega, hbel.alloc hwz _⟩
        case measure => simp [intOf]; omega
      · have hadd : ∀ W, (Op.stringOp .add ⟨#[109]⟩ t).run Try.prog W = .ok (.string (⟨#[109]⟩ ++ t)) W := fun W => run_string_add_sum W _ _ (by show 1 + t.size ≤ _; omega)
        have hsz : (⟨#[109]⟩ ++ t : ByteArray).size = 1 + t.size := by rw [ByteArray.size_append]; rfl
        have HS := Lib.hid hsz
        clear hsz
        obtain rfl : j = 0 := by omega
        go_wp2
        go_ret
        exact ⟨_, by rw [HS.out]; omega, rfl, hbel⟩

end Go.Proofs.Ytcafejahdiedpaa
