/-
  The law's own marks for strings: markText, with its value; markStringS, heldStringS.
-/
import Derived.Test.YtcafejahdiedpaaInts
import Derived.Test.YtcafejahdiedpaaTexts
import Derived.Deep.RegionHeld3
namespace Go.Proofs.Ytcafejahdiedpaa
open Go.RowKit
set_option linter.unusedVariables false

/-- The digits of a number ahead of a text. -/
def mtxGo (k : Nat) (t : ByteArray) : ByteArray := if k = 0 then t else mtxGo (k / 10) (⟨#[48 + UInt8.ofNat (k % 10)]⟩ ++ t)

/-- The mark of a number. -/
def mtx (k : Nat) : ByteArray := ⟨#[109]⟩ ++ mtxGo k ByteArray.empty

theorem mtxGo_zero (t : ByteArray) : mtxGo 0 t = t := by rw [mtxGo, if_pos rfl]

theorem mtxGo_next {k : Nat} (h : 0 < k) (t : ByteArray) : mtxGo k t = mtxGo (k / 10) (⟨#[48 + UInt8.ofNat (k % 10)]⟩ ++ t) := by rw [mtxGo, if_neg (by omega)]

theorem mtxGo_size {k : Nat} : ∀ (t : ByteArray), (mtxGo k t).size ≤ k + t.size := by
  induction k using Nat.strongRecOn with
  | ind k ih =>
    intro t
    by_cases hk : k = 0
    · subst hk; rw [mtxGo_zero]; omega
    · rw [mtxGo_next (by omega)]
      have := ih (k / 10) (by omega) (⟨#[48 + UInt8.ofNat (k % 10)]⟩ ++ t)
      have hs : (⟨#[48 + UInt8.ofNat (k % 10)]⟩ ++ t : ByteArray).size = 1 + t.size := by rw [ByteArray.size_append]; rfl
      omega

theorem mtx_size (k : Nat) : (mtx k).size ≤ k + 1 := by
  unfold mtx
  rw [ByteArray.size_append]
  have := mtxGo_size (k := k) ByteArray.empty
  show 1 + _ ≤ _
  have h0 : ByteArray.empty.size = 0 := rfl
  omega

set_option maxHeartbeats 1000000 in
theorem lawsMarkTextX (k : Nat) (w : World) (h0 : 0 < k) (h1 : k ≤ 8388608) :
    Calls Try.prog 52 #[.int .i64 k] w fun e w' => e = .returned (.string (mtx k)) ∧ Below w.heap.size w w' := by
  obtain ⟨R, hR⟩ : ∃ R, mtxGo k ByteArray.empty = R := ⟨_, rfl⟩
  have hX : mtx k = ⟨#[109]⟩ ++ R := by unfold mtx; rw [hR]
  rw [hX]
  have hRs : R.size ≤ 8388608 := by
    rw [← hR]
    have := mtxGo_size (k := k) ByteArray.empty
    have h0 : ByteArray.empty.size = 0 := rfl
    omega
  have HR := Lib.hid hR
  clear hX hR
  go_enter Try.func52, Try.ntmps52
  go_wp2_with fail
  go_loopw [0, 3] (fun v o wr => ∃ (j : Nat) (t : ByteArray), v = .int .i64 j ∧ o = .string t ∧ t.size + j ≤ 8388608 ∧ Hid (mtxGo j t = R) ∧ Below w.heap.size w wr) (fun v _ _ => (intOf v).toNat)
  case atStart => exact ⟨k, ByteArray.empty, rfl, rfl, by show 0 + k ≤ _; omega, HR, Below.refl _ _⟩
  case round =>
    obtain ⟨j, t, rfl, rfl, ht, HK, hbel⟩ := hrel
    have hwz := hbel.size
    by_cases hj : 0 < j
    · have hcv := run_one_byte (P := Try.prog) Try.underlying52 Try.underlying5 Try.underlying9 (48 + j % 10) (by omega)
      have hadd : ∀ W, (Op.stringOp .add ⟨#[UInt8.ofNat (48 + j % 10)]⟩ t).run Try.prog W = .ok (.string (⟨#[UInt8.ofNat (48 + j % 10)]⟩ ++ t)) W := fun W => run_string_add_sum W _ _ (by show 1 + t.size ≤ _; omega)
      have hnx := mtxGo_next hj t
      rw [HK.out] at hnx
      have HN := Lib.hid hnx
      clear hnx
      go_wp2
      go_roundw
      case rel => exact ⟨j / 10, _, by go_num, rfl, by rw [ByteArray.size_append]; show 1 + t.size + j / 10 ≤ _; omega, Lib.hid HN.out.symm, hbel.alloc hwz _⟩
      case measure => simp [intOf]; omega
    · obtain rfl : j = 0 := by omega
      have htR : t = R := by rw [← HK.out, mtxGo_zero]
      subst htR
      have hadd : ∀ W, (Op.stringOp .add ⟨#[109]⟩ t).run Try.prog W = .ok (.string (⟨#[109]⟩ ++ t)) W := fun W => run_string_add_sum W _ _ (by show 1 + t.size ≤ _; omega)
      go_wp2
      go_ret
      exact ⟨rfl, hbel⟩

/-- The marks of n strings, from k on. -/
def marksS (k n : Nat) : List ByteArray := (List.range n).map fun i => mtx (k + i)

theorem marksS_length (k n : Nat) : (marksS k n).length = n := by simp [marksS]

set_option maxHeartbeats 1000000 in
theorem lawsMarkStringS (base : Nat) (A : Option Addr) (n c : Nat) (zs : List Value) (w : World) (hn : n ≤ 1048576)
    (h : w.ownsRow base 9 1 (.slice A n c) n zs) :
    Calls Try.prog 32 #[.slice A n c, .int .i64 1] w fun e w' => e = .returned (.int .i64 ((1 + n : Nat) : Int)) ∧ w'.ownsRow base 9 1 (.slice A n c) n ((marksS 1 n).map .string) ∧ w.grownBy w' (Value.slice A n c).ownBlock := by
  rcases Nat.eq_zero_or_pos n with h0 | h0
  · subst h0
    have hz : zs = [] := List.eq_nil_of_length_eq_zero (by have := h.1; omega)
    subst hz
    go_enter Try.func32, Try.ntmps32
    go_wp2_with fail
    go_loopw [1, 5] (fun v i wr => v = .int .i64 1 ∧ i = .int .i64 0 ∧ w = wr) (fun _ _ _ => 0)
    case atStart => exact ⟨rfl, rfl, rfl⟩
    case round =>
      obtain ⟨rfl, rfl, rfl⟩ := hrel
      go_wp2_with fail
      go_ret
      exact ⟨rfl, h, World.grownBy.refl _ _⟩
  · obtain ⟨g, rfl, hbg, hlt⟩ := own_addr h h0
    go_enter Try.func32, Try.ntmps32
    go_wp2_with fail
    go_loopw [1, 5] (fun v i wr => ∃ j : Nat, j ≤ n ∧ i = .int .i64 j ∧ v = .int .i64 ((1 + j : Nat) : Int) ∧ (∃ ys : List Value, wr.ownsRow base 9 1 (.slice (some ⟨g, 0, none⟩) n c) n ys ∧ ys.take j = (marksS 1 j).map .string) ∧ w.grownBy wr (some g)) (fun _ i _ => n - (intOf i).toNat)
    case atStart => exact ⟨0, Nat.zero_le _, rfl, rfl, ⟨_, h, by simp [marksS]⟩, World.grownBy.refl _ _⟩
    case round =>
      obtain ⟨j, hj, rfl, rfl, ⟨ys, hown, hys⟩, hgr⟩ := hrel
      by_cases hlt2 : j < n
      · obtain ⟨m, hm⟩ : ∃ m, 1 + j = m := ⟨_, rfl⟩
        have hm2 : m ≤ 1048577 := by omega
        have hm0 : 0 < m := by omega
        rw [hm]
        have HM := Lib.hid hm
        clear hm
        go_wp2_with fail
        refine (lawsMarkTextX m _ hm0 (by omega)).mono ?_
        rintro e w2 ⟨rfl, hb2⟩
        have hown2 := own_below hown hb2 (Nat.le_refl _)
        have hgr2 := only_below hgr hb2
        have hyl : ys.length = n := by have := hown2.1; omega
        have hcell : w2.cell? ⟨g, j, none⟩ = some (ys[j]'(by omega)) := by rw [hown2.cellAt j (by omega)]; exact List.getElem?_eq_getElem _
        have hfr := hown2.frozenAt j
        obtain ⟨y, hy⟩ : ∃ y, ys[j]'(by omega) = y := ⟨_, rfl⟩
        rw [hy] at hcell
        obtain ⟨T, hT⟩ : ∃ T, mtx m = T := ⟨_, rfl⟩
        rw [hT]
        have hset := (hown2.stored j (.string T)).1
        have hnew : (ys.set j (.string T)).take (j + 1) = (marksS 1 (j + 1)).map .string := by
          rw [List.take_succ_eq_append_getElem (by simp; omega), List.take_set_of_le (by omega), hys]
          simp [marksS, List.range_succ, HM.out, hT]
        have HS := Lib.hid hset
        have HN := Lib.hid hnew
        clear hy hset hnew hown hown2 hys hT hgr hb2
        go_wp2_with fail
        go_roundw
        case rel => exact ⟨j + 1, by omega, by go_num, by rw [← Nat.add_assoc, HM.out]; go_num, ⟨_, HS.out, HN.out⟩, only_setCell hgr2 rfl _⟩
        case measure => simp [intOf]; omega
      · obtain rfl : j = n := by omega
        have hyl : ys.length = j := by have := hown.1; omega
        rw [List.take_of_length_le (by omega)] at hys
        subst hys
        clear hyl
        go_wp2_with fail
        go_ret
        exact ⟨rfl, hown, hgr⟩

theorem below_call' {w wx wy : World} (hb : Below wx.heap.size wx wy) (h : Below w.heap.size w wx) : Below w.heap.size w wy := h.trans (hb.mono h.size)

theorem held1 {w0 wx : World} {b o : Nat} {u : Value} (hb : b < w0.heap.size) (h0 : w0.cell? ⟨b, o, none⟩ = some u) (h : Below w0.heap.size w0 wx) : wx.cell? ⟨b, o, none⟩ = some u ∧ Below w0.heap.size w0 wx :=
  ⟨(h.cell (p := ⟨b, o, none⟩) hb).trans h0, h⟩

theorem toList_inj' {a b : ByteArray} : a.toList = b.toList ↔ a = b := ⟨fun h => by
  rw [ByteArray.toList_eq, ByteArray.toList_eq] at h
  exact ByteArray.ext (Array.toList_inj.1 h), fun h => by rw [h]⟩

set_option maxHeartbeats 1000000 in
theorem lawsHeldStringS (A : Option Addr) (n c Q : Nat) (w : World) (hn : n ≤ 1048576) (h : Row w Q 1 A n ((marksS 1 n).map .string)) (hQ : Q ≤ w.heap.size) :
    Calls Try.prog 33 #[.slice A n c, .int .i64 1] w fun e w' => e = .returned (.int .i64 ((1 + n : Nat) : Int)) ∧ Below w.heap.size w w' := by
  go_enter Try.func33, Try.ntmps33
  go_wp2_with fail
  go_loopw [1, 5] (fun v i wr => ∃ j : Nat, j ≤ n ∧ i = .int .i64 j ∧ v = .int .i64 ((1 + j : Nat) : Int) ∧ Below w.heap.size w wr) (fun _ i _ => n - (intOf i).toNat)
  case atStart => exact ⟨0, Nat.zero_le _, rfl, rfl, Below.refl _ _⟩
  case round =>
    obtain ⟨j, hj, rfl, rfl, hbel⟩ := hrel
    have hwz := hbel.size
    by_cases hlt : j < n
    · obtain ⟨m, hm⟩ : ∃ m, 1 + j = m := ⟨_, rfl⟩
      have hm2 : m ≤ 1048577 := by omega
      have hm0 : 0 < m := by omega
      obtain ⟨b, off, rfl, hbl, hc⟩ := h.2 (by omega)
      have hcell : wr.cell? ⟨b, off + j, none⟩ = some (.string (mtx m)) := (hbel.cell (p := ⟨b, off + j, none⟩) (by show b < _; omega)).trans (hc j _ (by simp [marksS, hlt, hm]))
      obtain ⟨T, hT⟩ : ∃ T, mtx m = T := ⟨_, rfl⟩
      have HMT := fun W => lawsMarkTextX m W hm0 (by omega)
      rw [hT] at hcell HMT
      have HMT := Lib.hid HMT
      rw [hm]
      have HM := Lib.hid hm
      have i1 : (0 : Int) ≤ j := by omega
      have i2 : (j : Int) < n := by omega
      clear hc h hm hT
      have hbw : b < wr.heap.size := by omega
      go_wp2_with fail
      go_region_held3 (fun w' => w'.cell? ⟨b, off + j, none⟩ = some (.string T) ∧ Below wr.heap.size wr w')
        (first | exact held1 hbw hcell (Below.refl _ _).drew | (go_split_ands; exact held1 hbw hcell (below_call' (by assumption) (by assumption))))
        (first | (go_at_call 52; refine (HMT.out _).mono ?_; rintro e w' ⟨rfl, hb⟩))
      go_split_ands
      have hB : Below wr.heap.size wr w' := by assumption
      go_wp2_with fail
      go_roundw
      case rel => exact ⟨j + 1, by omega, by go_num, by rw [← Nat.add_assoc, HM.out]; go_num, hbel.trans (hB.mono hwz)⟩
      case measure => simp [intOf]; omega
    · obtain rfl : j = n := by omega
      go_wp2_with fail
      go_ret
      exact ⟨rfl, hbel⟩

end Go.Proofs.Ytcafejahdiedpaa
