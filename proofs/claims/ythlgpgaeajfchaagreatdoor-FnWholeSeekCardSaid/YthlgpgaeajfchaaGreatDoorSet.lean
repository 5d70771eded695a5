/-
  The reference's l1Order, SettingValid, l1Fits and DataFits.
-/
import Derived.Test.YthlgpgaeajfchaaGreatDoorWordsC
namespace Go.Proofs.YthlgpgaeajfchaaGreatDoor
open Go.RowKit
set_option linter.unusedVariables false

/-- A valid setting. -/
def sv (o l m : Int) : Prop := (o = 0 ∨ o = 1) ∧ (1 ≤ l ∧ l ≤ 8) ∧ (l + 2 ≤ m ∧ m ≤ 10)

instance (o l m : Int) : Decidable (sv o l m) := by unfold sv; infer_instance

theorem specL1Order (o : Int) (b : Bool) (w : World) (hb : b = true ↔ o = 0 ∨ o = 1) :
    Calls Tryz.prog 100 #[.int .i64 o] w fun e w' => e = .returned (.bool b) ∧ w = w' := by
  go_enter Tryz.func100, Tryz.ntmps100
  go_wp2
  all_goals go_ret
  all_goals refine ⟨ret_bool ?_, rfl⟩
  all_goals rw [Bool.eq_iff_iff, hb]; simp; try omega

set_option maxHeartbeats 1000000 in
theorem specSettingValid (o l m : Int) (r : Bool) (w : World) (hr : r = true ↔ sv o l m) :
    Calls Tryz.prog 70 #[.agg #[.int .i64 o, .int .i64 l, .int .i64 m]] w fun e w' => e = .returned (.bool r) ∧ Below w.heap.size w w' := by
  by_cases h1 : o = 0 ∨ o = 1
  · by_cases h2 : 1 ≤ l ∧ l ≤ 8
    · by_cases h3 : l + 2 ≤ m ∧ m ≤ 10
      · have hrt : r = true := hr.2 ⟨h1, h2, h3⟩
        subst hrt
        have H1 := Lib.hid (fun W => specL1Order o true W (btrue h1))
        have H2 := Lib.hid (fun W => specL1In l 1 8 true W (btrue h2))
        have H3 := Lib.hid (fun W => specL1In m (l + 2) 10 true W (btrue h3))
        obtain ⟨h2a, h2b⟩ := h2
        clear hr h1 h3
        go_enter Tryz.func70, Tryz.ntmps70
        go_wp2_with (first | ((with_reducible refine (H1.out _).mono ?_); rintro e w1 ⟨rfl, rfl⟩) | ((with_reducible refine (H2.out _).mono ?_); rintro e w1 ⟨rfl, rfl⟩) | ((with_reducible refine (H3.out _).mono ?_); rintro e w1 ⟨rfl, rfl⟩))
        go_ret
        exact ⟨rfl, (Below.refl _ _).alloc (Nat.le_refl _) _⟩
      · have hrt : r = false := by cases r with | false => rfl | true => exact absurd (hr.1 rfl).2.2 h3
        subst hrt
        have H1 := Lib.hid (fun W => specL1Order o true W (btrue h1))
        have H2 := Lib.hid (fun W => specL1In l 1 8 true W (btrue h2))
        have H3 := Lib.hid (fun W => specL1In m (l + 2) 10 false W (bfalse h3))
        obtain ⟨h2a, h2b⟩ := h2
        clear hr h1 h3
        go_enter Tryz.func70, Tryz.ntmps70
        go_wp2_with (first | ((with_reducible refine (H1.out _).mono ?_); rintro e w1 ⟨rfl, rfl⟩) | ((with_reducible refine (H2.out _).mono ?_); rintro e w1 ⟨rfl, rfl⟩) | ((with_reducible refine (H3.out _).mono ?_); rintro e w1 ⟨rfl, rfl⟩))
        go_ret
        exact ⟨rfl, (Below.refl _ _).alloc (Nat.le_refl _) _⟩
    · have hrt : r = false := by cases r with | false => rfl | true => exact absurd (hr.1 rfl).2.1 h2
      subst hrt
      have H1 := Lib.hid (fun W => specL1Order o true W (btrue h1))
      have H2 := Lib.hid (fun W => specL1In l 1 8 false W (bfalse h2))
      clear hr h1 h2
      go_enter Tryz.func70, Tryz.ntmps70
      go_wp2_with (first | ((with_reducible refine (H1.out _).mono ?_); rintro e w1 ⟨rfl, rfl⟩) | ((with_reducible refine (H2.out _).mono ?_); rintro e w1 ⟨rfl, rfl⟩))
      go_ret
      exact ⟨rfl, (Below.refl _ _).alloc (Nat.le_refl _) _⟩
  · have hrt : r = false := by cases r with | false => rfl | true => exact absurd (hr.1 rfl).1 h1
    subst hrt
    have H1 := Lib.hid (fun W => specL1Order o false W (bfalse h1))
    clear hr h1
    go_enter Tryz.func70, Tryz.ntmps70
    go_wp2_with (first | ((with_reducible refine (H1.out _).mono ?_); rintro e w1 ⟨rfl, rfl⟩))
    go_ret
    exact ⟨rfl, (Below.refl _ _).alloc (Nat.le_refl _) _⟩

/-- All bytes are literals. -/
def litsL (c : Nat) (l : List UInt8) : Prop := ∀ b ∈ l, b.toNat < c

instance (c : Nat) (l : List UInt8) : Decidable (litsL c l) := by unfold litsL; infer_instance

set_option maxHeartbeats 2000000 in
theorem specL1Fits (o l m : Nat) (s : ByteArray) (r : Bool) (w : World) (hl : l ≤ 8) (hs : s.size ≤ 100000) (hr : r = true ↔ litsL (2 ^ l) s.data.toList) :
    Calls Tryz.prog 71 #[.agg #[.int .i64 (o : Int), .int .i64 (l : Int), .int .i64 (m : Int)], .string s] w fun e w' => e = .returned (.bool r) ∧ Below w.heap.size w w' := by
  have HC := fun W => specL1Clear o l m W (by omega)
  unfold setV at HC
  have hc8 : 2 ^ l ≤ 2 ^ 8 := Nat.pow_le_pow_right (by omega) hl
  obtain ⟨z, hz⟩ : ∃ z, 2 ^ l = z := ⟨_, rfl⟩
  rw [hz] at HC hr hc8
  replace HC := Lib.hid HC
  replace hr := Lib.hid hr
  clear hz hl
  go_enter Tryz.func71, Tryz.ntmps71
  go_wp2_with fail
  go_loopw [5] (fun v wr => ∃ i : Nat, v = .int .i64 (i : Int) ∧ i ≤ s.size ∧ Hid (litsL z (s.data.toList.take i)) ∧ Hid (Below (w.heap.size + 1) (w.alloc (.cells #[.int .i64 (o : Int), .int .i64 (l : Int), .int .i64 (m : Int)] 24)) wr)) (fun v _ => s.size - (intOf v).toNat)
  case atStart => exact ⟨0, rfl, Nat.zero_le _, Lib.hid (fun b hb => by simp at hb), Lib.hid (Below.refl _ _)⟩
  case round =>
    obtain ⟨i, rfl, hi, hf, hbel⟩ := hrel
    obtain ⟨q0, q1, q2, _⟩ := box3 hbel.out
    by_cases h1 : i < s.size
    · obtain ⟨x, hx⟩ : ∃ x, s[i].toNat = x := ⟨_, rfl⟩
      have hxb : x < 256 := by rw [← hx]; exact s[i].toNat_lt
      have hil : i < s.data.toList.length := by simpa using h1
      have hxl : s.data.toList[i].toNat = x := by rw [← hx]; simp [ByteArray.getElem_eq_getElem_data]
      by_cases h2 : x < z
      · have hg : decide (z ≤ x) = false := decide_eq_false (by omega)
        have hg2 : decide ((z : Int) ≤ x) = false := decide_eq_false (by omega)
        have hf2 : Hid (litsL z (s.data.toList.take (i + 1))) := Lib.hid (by
          rw [List.take_succ_eq_append_getElem hil]
          intro b hb
          rcases List.mem_append.1 hb with h | h
          · exact hf.out b h
          · rw [List.mem_singleton] at h; subst h; rw [hxl]; exact h2)
        clear hxl
        go_wp2_with fail
        refine wp_region_cls (by kernel_rfl) (by kernel_rfl) ?_
        have c0 := clsCell q0
        have c1 := clsCell q1
        have c2 := clsCell q2
        repeat (go_big_quiet_step (first | (go_at_call 62; exact clsCall (HC.out _))))
        refine wpQuiet_nil ?_
        rintro w' ⟨⟨w', hB⟩, rfl⟩
        have HB := Lib.hid (hbel.out.trans (hB.mono (by have := hbel.out.size; simp at this; omega)))
        clear c0 c1 c2 q0 q1 q2
        go_wp2_with fail
        go_roundw
        case rel => exact ⟨i + 1, by go_num, by omega, hf2, HB⟩
        case measure => simp [intOf]; omega
      · have hg : decide (z ≤ x) = true := decide_eq_true (by omega)
        have hg2 : decide ((z : Int) ≤ x) = true := decide_eq_true (by omega)
        have hrf : r = false := by
          cases r with
          | false => rfl
          | true =>
            have := hr.out.1 rfl s.data.toList[i] (List.getElem_mem hil)
            omega
        subst hrf
        clear hxl
        go_wp2_with fail
        refine wp_region_cls (by kernel_rfl) (by kernel_rfl) ?_
        have c0 := clsCell q0
        have c1 := clsCell q1
        have c2 := clsCell q2
        repeat (go_big_quiet_step (first | (go_at_call 62; exact clsCall (HC.out _))))
        refine wpQuiet_nil ?_
        rintro w' ⟨⟨w', hB⟩, rfl⟩
        go_wp2_with fail
        go_ret
        exact ⟨rfl, ((Below.refl _ _).alloc (Nat.le_refl _) _).trans ((hbel.out.trans (hB.mono (by have := hbel.out.size; simp at this; omega))).mono (by omega))⟩
    · have hrt : r = true := hr.out.2 (by
        have := hf.out
        rw [List.take_of_length_le (by simp; omega)] at this
        exact this)
      subst hrt
      go_wp2_with fail
      go_ret
      exact ⟨rfl, ((Below.refl _ _).alloc (Nat.le_refl _) _).trans (hbel.out.mono (by omega))⟩

/-- Data that fits a setting. -/
def dfits (o l m : Int) (d : List UInt8) : Prop := sv o l m ∧ d.length ≤ 2000 ∧ litsL (2 ^ l.toNat) d

instance (o l m : Int) (d : List UInt8) : Decidable (dfits o l m d) := by unfold dfits; infer_instance

set_option maxHeartbeats 1000000 in
theorem specDataFits (o l m : Int) (s : ByteArray) (r : Bool) (w : World) (hs : s.size ≤ 1048576) (hr : r = true ↔ dfits o l m s.data.toList) :
    Calls Tryz.prog 49 #[.agg #[.int .i64 o, .int .i64 l, .int .i64 m], .string s] w fun e w' => e = .returned (.bool r) ∧ Below w.heap.size w w' := by
  have hsz : s.data.toList.length = s.size := by simp
  by_cases h1 : sv o l m
  · have H1 := Lib.hid (fun W => specSettingValid o l m true W (btrue h1))
    by_cases h2 : s.size ≤ 2000
    · obtain ⟨on, hon⟩ : ∃ n : Nat, o = n := ⟨o.toNat, by have := h1.1; omega⟩
      obtain ⟨ln, hln⟩ : ∃ n : Nat, l = n := ⟨l.toNat, by have := h1.2.1; omega⟩
      obtain ⟨mn, hmn⟩ : ∃ n : Nat, m = n := ⟨m.toNat, by have := h1.2; omega⟩
      have hl8 := h1.2.1.2
      subst hon hln hmn
      have H2 := Lib.hid (fun W => specL1Fits on ln mn s r W (by omega) (by omega) (by
        rw [hr]
        unfold dfits
        rw [hsz]
        simp only [Int.toNat_natCast]
        exact ⟨fun h => h.2.2, fun h => ⟨h1, h2, h⟩⟩))
      have h2' : decide ((s.size : Int) ≤ 2000) = true := decide_eq_true (by omega)
      have h2n : decide (s.size ≤ 2000) = true := decide_eq_true h2
      clear hr h1 hl8 hsz h2 hs
      go_enter Tryz.func49, Tryz.ntmps49
      go_wp2_with fail
      refine (H1.out _).mono ?_
      rintro e w1 ⟨rfl, hb1⟩
      have hB1 := hb1.mono (show w.heap.size + 1 ≤ _ by simp)
      obtain ⟨q0, q1, q2, _⟩ := box3 hB1
      have hW1 := Lib.hid (((Below.refl _ _).alloc (Nat.le_refl _) _).trans (hB1.mono (show w.heap.size ≤ _ by omega)))
      clear hb1 hB1
      go_wp2_with fail
      refine (H2.out _).mono ?_
      rintro e w2 ⟨rfl, hb2⟩
      go_wp2_with fail
      go_ret
      exact ⟨rfl, hW1.out.trans (hb2.mono hW1.out.size)⟩
    · have hrf : r = false := by
        cases r with
        | false => rfl
        | true => have := (hr.1 rfl).2.1; omega
      subst hrf
      have h2' : decide ((s.size : Int) ≤ 2000) = false := decide_eq_false (by omega)
      have h2n : decide (s.size ≤ 2000) = false := decide_eq_false h2
      clear hr h1 hsz
      go_enter Tryz.func49, Tryz.ntmps49
      go_wp2_with fail
      refine (H1.out _).mono ?_
      rintro e w1 ⟨rfl, hb1⟩
      have hB1 := hb1.mono (show w.heap.size + 1 ≤ _ by simp)
      have hW1 := Lib.hid (((Below.refl _ _).alloc (Nat.le_refl _) _).trans (hB1.mono (show w.heap.size ≤ _ by omega)))
      clear hb1 hB1
      go_wp2_with fail
      go_ret
      exact ⟨rfl, hW1.out⟩
  · have hrf : r = false := by
      cases r with
      | false => rfl
      | true => exact absurd (hr.1 rfl).1 h1
    subst hrf
    have H1 := Lib.hid (fun W => specSettingValid o l m false W (bfalse h1))
    clear hr h1 hsz
    go_enter Tryz.func49, Tryz.ntmps49
    go_wp2_with fail
    refine (H1.out _).mono ?_
    rintro e w1 ⟨rfl, hb1⟩
    have hB1 := hb1.mono (show w.heap.size + 1 ≤ _ by simp)
    have hW1 := Lib.hid (((Below.refl _ _).alloc (Nat.le_refl _) _).trans (hB1.mono (show w.heap.size ≤ _ by omega)))
    clear hb1 hB1
    go_wp2_with fail
    go_ret
    exact ⟨rfl, hW1.out⟩

end Go.Proofs.YthlgpgaeajfchaaGreatDoor
