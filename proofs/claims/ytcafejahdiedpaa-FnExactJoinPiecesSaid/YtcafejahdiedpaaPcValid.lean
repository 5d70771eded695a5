/-
  The contracts of piecesValid and l7Pieces: whether a list are pieces of a count.
-/
import Derived.Test.YtcafejahdiedpaaPieces
import Derived.Test.YtcafejahdiedpaaBlockText
namespace Go.Proofs.Ytcafejahdiedpaa
open Go.RowKit
set_option linter.unusedVariables false
attribute [local go_sem ↓] Go.wp_at_zero Go.wp_at_succ

/-- Whether the numbers of pieces ascend from a number on, up to a limit, and their data has a length of blocks. -/
def pcScan (lim : Int) : Int → List Pc → Bool
  | _, [] => true
  | b, p :: ps => if 0 ≤ p.num ∧ p.num ≤ lim ∧ b < p.num ∧ 1 ≤ p.data.size ∧ p.data.size ≤ 64 then pcScan lim p.num ps else false

/-- That a list are pieces of a count. -/
def pcOk (ps : List Pc) (count : Int) : Prop := 0 ≤ count ∧ count ≤ 40 ∧ pcScan (count - 1) (-1) ps = true

theorem pcScan_drop {lim b : Int} {ps : List Pc} {k : Nat} {p : Pc} (h : ps[k]? = some p) : ps.drop k = p :: ps.drop (k + 1) := by
  obtain ⟨hk, hp⟩ := List.getElem?_eq_some_iff.1 h
  rw [List.drop_eq_getElem_cons hk, hp]

theorem pcScan_yes {lim b : Int} {ps : List Pc} {k : Nat} {num : Int} {data : ByteArray} (h : ps[k]? = some ⟨num, data⟩) (hc : 0 ≤ num ∧ num ≤ lim ∧ b < num ∧ 1 ≤ data.size ∧ data.size ≤ 64) :
    pcScan lim b (ps.drop k) = pcScan lim num (ps.drop (k + 1)) := by
  rw [pcScan_drop (lim := lim) (b := b) h]; simp only [pcScan]; rw [if_pos hc]

theorem pcScan_no {lim b : Int} {ps : List Pc} {k : Nat} {num : Int} {data : ByteArray} (h : ps[k]? = some ⟨num, data⟩) (hc : ¬ (0 ≤ num ∧ num ≤ lim ∧ b < num ∧ 1 ≤ data.size ∧ data.size ≤ 64)) :
    pcScan lim b (ps.drop k) = false := by
  rw [pcScan_drop (lim := lim) (b := b) h]; simp only [pcScan]; rw [if_neg hc]

theorem pcScan_end {lim b : Int} {ps : List Pc} {k : Nat} (h : ps.length ≤ k) : pcScan lim b (ps.drop k) = true := by
  rw [List.drop_eq_nil_of_le h]; rfl

theorem implSizeValid' (n : Int) (b : Bool) (w : World) (hb : b = true ↔ 1 ≤ n ∧ n ≤ 64) :
    Calls Try.prog 69 #[.int .i64 n] w fun e w' => e = .returned (.bool b) ∧ w = w' := by
  have HB := Lib.hid hb
  clear hb
  go_enter Try.func69, Try.ntmps69
  go_wp2
  all_goals go_ret
  all_goals refine ⟨ret_bool ?_, rfl⟩
  all_goals rw [Bool.eq_iff_iff, HB.out]; simp; try omega

set_option maxHeartbeats 1000000 in
theorem implPiecesValid (A : Option Addr) (n c B : Nat) (ps : List Pc) (count : Int) (r : Bool) (w : World) (h : Row w B 2 A n (cellsP ps)) (hB : B ≤ w.heap.size) (hn : n ≤ 1048576)
    (hw : ∀ p ∈ ps, p.wf) (hr : r = true ↔ pcOk ps count) :
    Calls Try.prog 68 #[.slice A n c, .int .i64 count] w fun e w' => e = .returned (.bool r) ∧ Below w.heap.size w w' := by
  have hlen := h.len2
  by_cases hc : 0 ≤ count ∧ count ≤ 40
  · obtain ⟨hc0, hc1⟩ := hc
    obtain ⟨R, hR⟩ : ∃ R, pcScan (count - 1) (-1) ps = R := ⟨_, rfl⟩
    have hrR : r = R := by
      rw [Bool.eq_iff_iff, hr]; unfold pcOk; rw [hR]
      exact ⟨fun h => h.2.2, fun h => ⟨hc0, hc1, h⟩⟩
    subst hrR
    have HR := Lib.hid hR
    clear hr hR
    go_enter Try.func68, Try.ntmps68
    go_wp2_with fail
    go_loopw [5, 16] (fun v i wr => ∃ (k : Nat) (b : Int), k ≤ n ∧ i = .int .i64 k ∧ v = .int .i64 b ∧ -1 ≤ b ∧ b < 40 ∧ Hid (pcScan (count - 1) b (ps.drop k) = r) ∧ Below w.heap.size w wr) (fun _ i _ => n - (intOf i).toNat)
    case atStart => exact ⟨0, -1, Nat.zero_le _, rfl, rfl, by omega, by omega, HR, Below.refl _ _⟩
    case round =>
      obtain ⟨k, b, hk, rfl, rfl, hb0, hb1, HK, hbel⟩ := hrel
      have hwz := hbel.size
      by_cases hlt : k < n
      · obtain ⟨⟨num, data⟩, hp⟩ : ∃ p, ps[k]? = some p := ⟨_, List.getElem?_eq_getElem (by omega)⟩
        obtain ⟨g, off, rfl, hg, p0, p1⟩ := ((h.below hbel hB).more (Nat.le_refl _)).pc hlt hp
        obtain ⟨w1, w2, w3⟩ := hw _ (List.mem_of_getElem? hp)
        unfold maxLen at w3
        simp only at w1 w2 w3
        have hy := pcScan_yes (lim := count - 1) (b := b) hp
        have hno := pcScan_no (lim := count - 1) (b := b) hp
        rw [HK.out] at hy hno
        have HP := Lib.hid hp
        have HL := Lib.hid hlen
        clear hp hlen h hw
        by_cases c1 : num ≤ b
        · have HX := Lib.hid (hno (by omega))
          clear hy hno
          go_wp2_with fail
          go_ret
          exact ⟨ret_bool HX.out.symm, hbel.alloc hwz _⟩
        · by_cases c2 : num < count
          · obtain ⟨q, hq⟩ : ∃ q, decide (1 ≤ (data.size : Int) ∧ (data.size : Int) ≤ 64) = q := ⟨_, rfl⟩
            have HQ := Lib.hid (fun W => implSizeValid' (data.size : Int) q W (by rw [← hq]; simp))
            cases q
            · have HX := Lib.hid (hno (by simp at hq; omega))
              clear hy hno hq
              go_wp2_with fail
              refine (HQ.out _).mono ?_
              rintro e w' ⟨rfl, rfl⟩
              go_wp2_with fail
              go_ret
              exact ⟨ret_bool HX.out.symm, hbel.alloc hwz _⟩
            · have HX := Lib.hid (hy (by simp at hq; omega))
              clear hy hno hq
              go_wp2_with fail
              refine (HQ.out _).mono ?_
              rintro e w' ⟨rfl, rfl⟩
              go_wp2_with fail
              go_roundw
              case rel => exact ⟨k + 1, num, by omega, by go_num, rfl, by omega, by omega, Lib.hid HX.out.symm, hbel.alloc hwz _⟩
              case measure => simp [intOf]; omega
          · have HX := Lib.hid (hno (by omega))
            clear hy hno
            go_wp2_with fail
            go_ret
            exact ⟨ret_bool HX.out.symm, hbel.alloc hwz _⟩
      · have HX := Lib.hid (HK.out.symm.trans (pcScan_end (by omega)))
        clear hlen
        go_wp2_with fail
        go_ret
        exact ⟨ret_bool HX.out.symm, hbel⟩
  · have hrf : r = false := by
      rw [Bool.eq_false_iff, Ne, hr]
      exact fun h => hc ⟨h.1, h.2.1⟩
    subst hrf
    clear hr
    go_enter Try.func68, Try.ntmps68
    by_cases c0 : count < 0
    · go_wp2_with fail
      go_ret
      exact ⟨rfl, Below.refl _ _⟩
    · have c1 : 40 < count := by omega
      go_wp2_with fail
      go_ret
      exact ⟨rfl, Below.refl _ _⟩

set_option maxHeartbeats 4000000 in
theorem specL7Pieces (A : Option Addr) (n c B : Nat) (ps : List Pc) (count : Int) (r : Bool) (w : World) (h : Row w B 2 A n (cellsP ps)) (hB : B ≤ w.heap.size) (hn : n ≤ 1048576)
    (hw : ∀ p ∈ ps, p.wf) (hcl : -9223372036854775808 ≤ count) (hch : count ≤ 9223372036854775807) (hr : r = true ↔ pcOk ps count) :
    Calls Try.prog 64 #[.slice A n c, .int .i64 count] w fun e w' => e = .returned (.bool r) ∧ Drawn w w' := by
  have hlen := h.len2
  obtain ⟨lim, hlim⟩ : ∃ lim, IntKind.i64.wrap (count - 1) = lim := ⟨_, rfl⟩
  have hlim2 : 0 ≤ count → lim = count - 1 := fun h0 => by rw [← hlim]; exact IntWalk.i64_in _ (by omega)
  obtain ⟨R, hR⟩ : ∃ R, pcScan lim (-1) ps = R := ⟨_, rfl⟩
  obtain ⟨q0, hq0⟩ : ∃ q, decide (0 ≤ count ∧ count ≤ 40) = q := ⟨_, rfl⟩
  have HC0 := Lib.hid (fun W => specL1In count 0 40 q0 W (by rw [← hq0]; simp))
  have hrR : r = (R && q0) := by
    rw [Bool.eq_iff_iff, hr, Bool.and_eq_true, ← hq0, ← hR, decide_eq_true_eq]; unfold pcOk
    constructor
    · rintro ⟨h1, h2, h3⟩
      rw [hlim2 h1]; exact ⟨h3, h1, h2⟩
    · rintro ⟨h3, h1, h2⟩
      rw [hlim2 h1] at h3; exact ⟨h1, h2, h3⟩
  have HRR := Lib.hid hrR
  have HR := Lib.hid hR
  clear hr hR hrR hq0 hlim2
  go_enter Try.func64, Try.ntmps64
  go_wp2_with fail
  go_loopw [5] (fun i wr => ∃ (k : Nat) (b : Int), k ≤ n ∧ i = .int .i64 k ∧ Hid ((k = 0 ∧ b = -1) ∨ (0 < k ∧ ∃ data, ps[k - 1]? = some ⟨b, data⟩)) ∧ Hid (pcScan lim b (ps.drop k) = R) ∧ Drawn w wr) (fun i _ => n - (intOf i).toNat)
  case atStart => exact ⟨0, -1, Nat.zero_le _, rfl, Lib.hid (Or.inl ⟨rfl, rfl⟩), HR, Drawn.refl _⟩
  case round =>
    obtain ⟨k, b, hk, rfl, HB, HK, hd⟩ := hrel
    by_cases hlt : k < n
    · obtain ⟨⟨num, data⟩, hp⟩ : ∃ p, ps[k]? = some p := ⟨_, List.getElem?_eq_getElem (by omega)⟩
      have hrow := h.drawn hd
      obtain ⟨g, off, hA, hg, p0, p1⟩ := hrow.pc hlt hp
      obtain ⟨w1, w2, w3⟩ := hw _ (List.mem_of_getElem? hp)
      unfold maxLen at w3
      simp only at w1 w2 w3
      have hy := pcScan_yes (lim := lim) (b := b) hp
      have hno := pcScan_no (lim := lim) (b := b) hp
      rw [HK.out] at hy hno
      have i1 : (0 : Int) ≤ k := by omega
      have i2 : (k : Int) < n := by omega
      obtain ⟨q1, hq1⟩ : ∃ q, decide (0 ≤ num ∧ num ≤ lim) = q := ⟨_, rfl⟩
      have HC1 := Lib.hid (fun W => specL1In num 0 lim q1 W (by rw [← hq1]; simp))
      obtain ⟨q2, hq2⟩ : ∃ q, decide (1 ≤ (data.size : Int) ∧ (data.size : Int) ≤ 64) = q := ⟨_, rfl⟩
      have HC2 := Lib.hid (fun W => specL1In (data.size : Int) 1 64 q2 W (by rw [← hq2]; simp))
      have HP := Lib.hid hp
      have HL := Lib.hid hlen
      subst hA
      clear hp hlen h hw
      cases q1
      · have HX := Lib.hid (hno (by simp at hq1; omega))
        have HF := Lib.hid (show r = false by rw [HRR.out, HX.out]; rfl)
        clear hy hno hq1 hq2 hrow
        go_wp2_with fail
        go_quiet ((first | (go_at_call_of 44 (Value.int .i64 num); exact Calls.quiet_of_same ((HC1.out _).mono fun _ _ hh => ⟨hh.1, hh.2.symm⟩)) | (go_at_call_of 44 (Value.int .i64 (data.size : Int)); exact Calls.quiet_of_same ((HC2.out _).mono fun _ _ hh => ⟨hh.1, hh.2.symm⟩))))
        go_wp2_with fail
        go_ret
        exact ⟨ret_bool HF.out.symm, hd.more _⟩
      · have hc1 : 0 ≤ num ∧ num ≤ lim := by simpa using hq1
        clear hq1
        rcases HB.out with ⟨hk0, hb0⟩ | ⟨hk0, data', hp'⟩
        · have hz1 : decide ((0 : Int) < (k : Int)) = false := by simp; omega
          have hz2 : decide (0 < k) = false := by simp; omega
          subst hb0
          clear hk0
          cases q2
          · have HX := Lib.hid (hno (by simp at hq2; omega))
            have HF := Lib.hid (show r = false by rw [HRR.out, HX.out]; rfl)
            clear hy hno hq2 hrow hc1
            go_wp2_with fail
            go_quiet ((first | (go_at_call_of 44 (Value.int .i64 num); exact Calls.quiet_of_same ((HC1.out _).mono fun _ _ hh => ⟨hh.1, hh.2.symm⟩)) | (go_at_call_of 44 (Value.int .i64 (data.size : Int)); exact Calls.quiet_of_same ((HC2.out _).mono fun _ _ hh => ⟨hh.1, hh.2.symm⟩))))
            go_wp2_with fail
            go_ret
            exact ⟨ret_bool HF.out.symm, hd.more _⟩
          · have HX := Lib.hid (hy (by simp at hq2; omega))
            clear hy hno hq2 hrow hc1
            go_wp2_with fail
            go_quiet ((first | (go_at_call_of 44 (Value.int .i64 num); exact Calls.quiet_of_same ((HC1.out _).mono fun _ _ hh => ⟨hh.1, hh.2.symm⟩)) | (go_at_call_of 44 (Value.int .i64 (data.size : Int)); exact Calls.quiet_of_same ((HC2.out _).mono fun _ _ hh => ⟨hh.1, hh.2.symm⟩))))
            go_wp2_with fail
            go_roundw
            case rel => exact ⟨k + 1, num, by omega, by go_num, Lib.hid (Or.inr ⟨by omega, data, HP.out⟩), Lib.hid HX.out.symm, hd.more _⟩
            case measure => simp [intOf]; omega
        · obtain ⟨k1, hk1⟩ : ∃ k1, k - 1 = k1 := ⟨_, rfl⟩
          rw [hk1] at hp'
          have hz1 : (0 : Int) < (k : Int) := by omega
          have ek1 : (k : Int) - 1 = k1 := by omega
          have wk1 : IntKind.i64.wrap (k1 : Int) = k1 := IntWalk.i64_in _ (by omega)
          have j1 : (0 : Int) ≤ k1 := by omega
          have j2 : (k1 : Int) < n := by omega
          obtain ⟨g', off', hA', hg', p2, p3⟩ := hrow.pc (k := k1) (by omega) hp'
          simp only [Option.some.injEq, Addr.mk.injEq, and_true] at hA'
          obtain ⟨rfl, rfl⟩ := hA'
          clear hk1 hp' hrow
          by_cases c3 : num ≤ b
          · have HX := Lib.hid (hno (by omega))
            have HF := Lib.hid (show r = false by rw [HRR.out, HX.out]; rfl)
            have hd3 : decide (num ≤ b) = true := by simpa using c3
            clear hy hno hq2 hc1
            go_wp2_with fail
            go_quiet ((first | (go_at_call_of 44 (Value.int .i64 num); exact Calls.quiet_of_same ((HC1.out _).mono fun _ _ hh => ⟨hh.1, hh.2.symm⟩)) | (go_at_call_of 44 (Value.int .i64 (data.size : Int)); exact Calls.quiet_of_same ((HC2.out _).mono fun _ _ hh => ⟨hh.1, hh.2.symm⟩))))
            clear ek1 wk1
            go_wp2_with fail
            go_ret
            exact ⟨ret_bool HF.out.symm, hd.more _⟩
          · have hd3 : decide (num ≤ b) = false := by simpa using c3
            cases q2
            · have HX := Lib.hid (hno (by simp at hq2; omega))
              have HF := Lib.hid (show r = false by rw [HRR.out, HX.out]; rfl)
              clear hy hno hq2 hc1
              go_wp2_with fail
              go_quiet ((first | (go_at_call_of 44 (Value.int .i64 num); exact Calls.quiet_of_same ((HC1.out _).mono fun _ _ hh => ⟨hh.1, hh.2.symm⟩)) | (go_at_call_of 44 (Value.int .i64 (data.size : Int)); exact Calls.quiet_of_same ((HC2.out _).mono fun _ _ hh => ⟨hh.1, hh.2.symm⟩))))
              clear ek1 wk1
              go_wp2_with fail
              go_ret
              exact ⟨ret_bool HF.out.symm, hd.more _⟩
            · have HX := Lib.hid (hy (by simp at hq2; omega))
              clear hy hno hq2 hc1
              go_wp2_with fail
              go_quiet ((first | (go_at_call_of 44 (Value.int .i64 num); exact Calls.quiet_of_same ((HC1.out _).mono fun _ _ hh => ⟨hh.1, hh.2.symm⟩)) | (go_at_call_of 44 (Value.int .i64 (data.size : Int)); exact Calls.quiet_of_same ((HC2.out _).mono fun _ _ hh => ⟨hh.1, hh.2.symm⟩))))
              clear ek1 wk1
              go_wp2_with fail
              go_roundw
              case rel => exact ⟨k + 1, num, by omega, by go_num, Lib.hid (Or.inr ⟨by omega, data, HP.out⟩), Lib.hid HX.out.symm, hd.more _⟩
              case measure => simp [intOf]; omega
    · have HX := Lib.hid (HK.out.symm.trans (pcScan_end (by omega)))
      have HF := Lib.hid (show r = q0 by rw [HRR.out, HX.out]; rfl)
      clear hlen
      go_wp2_with fail
      refine (HC0.out _).mono ?_
      rintro e w' ⟨rfl, rfl⟩
      go_wp2_with fail
      go_ret
      exact ⟨ret_bool HF.out.symm, hd⟩

end Go.Proofs.Ytcafejahdiedpaa
