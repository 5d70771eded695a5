/-
  The program's small functions: orders, settings, codes, digits of numbers, bits in bytes.
  The program's bits in bytes: bitsNumber, packBytes, BitsValid, PackBits.
-/
import Derived.Test.YthlgpgaeajfchaaGreatDoorSet
import Derived.Test.YthlgpgaeajfchaaGreatDoorBits
import Derived.Test.YthlgpgaeajfchaaGreatDoorShelf

namespace Go.Proofs.YthlgpgaeajfchaaGreatDoor
open Go.RowKit
set_option linter.unusedVariables false

theorem implOrderValid (o : Int) (b : Bool) (w : World) (hb : b = true ↔ o = 0 ∨ o = 1) :
    Calls Tryz.prog 87 #[.int .i64 o] w fun e w' => e = .returned (.bool b) ∧ w = w' := by
  go_enter Tryz.func87, Tryz.ntmps87
  go_wp2
  all_goals go_ret
  all_goals refine ⟨ret_bool ?_, rfl⟩
  all_goals rw [Bool.eq_iff_iff, hb]; simp; try omega

set_option maxHeartbeats 2000000 in
theorem implSettingValid (o l m : Int) (r : Bool) (w : World) (hr : r = true ↔ sv o l m) :
    Calls Tryz.prog 63 #[.agg #[.int .i64 o, .int .i64 l, .int .i64 m]] w fun e w' => e = .returned (.bool r) ∧ Below w.heap.size w w' := by
  by_cases h1 : o = 0 ∨ o = 1
  · have H1 := Lib.hid (fun W => implOrderValid o true W (btrue h1))
    by_cases h2 : 1 ≤ l
    · by_cases h3 : l ≤ 8
      · have hrv : r = decide (l + 2 ≤ m ∧ m ≤ 10) := by
          rw [Bool.eq_iff_iff, hr, decide_eq_true_eq]
          unfold sv
          exact ⟨fun h => h.2.2, fun h => ⟨h1, ⟨h2, h3⟩, h⟩⟩
        by_cases h4 : l + 2 ≤ m
        · have hr2 : r = decide (m ≤ 10) := by rw [hrv]; simp [h4]
          subst hr2
          clear hr h1 hrv
          go_enter Tryz.func63, Tryz.ntmps63
          go_wp2_with fail
          refine (H1.out _).mono ?_
          rintro e w1 ⟨rfl, rfl⟩
          go_wp2_with fail
          go_ret
          exact ⟨rfl, (Below.refl _ _).alloc (Nat.le_refl _) _⟩
        · have hr2 : r = false := by rw [hrv]; simp [h4]
          subst hr2
          have h4' : m < l + 2 := by omega
          clear hr h1 hrv h4
          go_enter Tryz.func63, Tryz.ntmps63
          go_wp2_with fail
          refine (H1.out _).mono ?_
          rintro e w1 ⟨rfl, rfl⟩
          go_wp2_with fail
          go_ret
          exact ⟨rfl, (Below.refl _ _).alloc (Nat.le_refl _) _⟩
      · have hr2 : r = false := by cases r with | false => rfl | true => exact absurd (hr.1 rfl).2.1.2 h3
        subst hr2
        have h3' : 8 < l := by omega
        clear hr h1 h3
        go_enter Tryz.func63, Tryz.ntmps63
        go_wp2_with fail
        refine (H1.out _).mono ?_
        rintro e w1 ⟨rfl, rfl⟩
        go_wp2_with fail
        go_ret
        exact ⟨rfl, (Below.refl _ _).alloc (Nat.le_refl _) _⟩
    · have hr2 : r = false := by cases r with | false => rfl | true => exact absurd (hr.1 rfl).2.1.1 h2
      subst hr2
      have h2' : l < 1 := by omega
      clear hr h1 h2
      go_enter Tryz.func63, Tryz.ntmps63
      go_wp2_with fail
      refine (H1.out _).mono ?_
      rintro e w1 ⟨rfl, rfl⟩
      go_wp2_with fail
      go_ret
      exact ⟨rfl, (Below.refl _ _).alloc (Nat.le_refl _) _⟩
  · have H1 := Lib.hid (fun W => implOrderValid o false W (bfalse h1))
    have hr2 : r = false := by cases r with | false => rfl | true => exact absurd (hr.1 rfl).1 h1
    subst hr2
    clear hr h1
    go_enter Tryz.func63, Tryz.ntmps63
    go_wp2_with fail
    refine (H1.out _).mono ?_
    rintro e w1 ⟨rfl, rfl⟩
    go_wp2_with fail
    go_ret
    exact ⟨rfl, (Below.refl _ _).alloc (Nat.le_refl _) _⟩

theorem implClearCode (o l m : Nat) (w : World) (h : sv o l m) :
    Calls Tryz.prog 91 #[.agg #[.int .i64 (o : Int), .int .i64 (l : Int), .int .i64 (m : Int)]] w fun e w' => e = .returned (.int .i64 ((2 ^ l : Nat) : Int)) ∧ Below w.heap.size w w' := by
  have H := Lib.hid (fun W => implSettingValid o l m true W (btrue h))
  have hl8 := h.2.1.2
  have e := two_pow_wrap l (by omega)
  obtain ⟨z, hz⟩ : ∃ z, 2 ^ l = z := ⟨_, rfl⟩
  rw [hz] at e ⊢
  clear h hz
  go_enter Tryz.func91, Tryz.ntmps91
  go_wp2_with fail
  refine (H.out _).mono ?_
  rintro e w1 ⟨rfl, hb1⟩
  obtain ⟨q0, q1, q2, hB⟩ := box3 (hb1.mono (by simp))
  clear hb1
  go_wp2_with fail
  go_ret
  exact ⟨ret_int (by assumption), ((Below.refl _ _).alloc (Nat.le_refl _) _).trans (hB.mono (by omega))⟩

theorem implEndCode (o l m : Nat) (w : World) (h : sv o l m) :
    Calls Tryz.prog 89 #[.agg #[.int .i64 (o : Int), .int .i64 (l : Int), .int .i64 (m : Int)]] w fun e w' => e = .returned (.int .i64 ((2 ^ l + 1 : Nat) : Int)) ∧ Below w.heap.size w w' := by
  have H := Lib.hid (fun W => implSettingValid o l m true W (btrue h))
  have hl8 := h.2.1.2
  have e := two_pow_wrap l (by omega)
  have hzb : 2 ^ l ≤ 2 ^ 8 := Nat.pow_le_pow_right (by omega) (by omega)
  obtain ⟨z, hz⟩ : ∃ z, 2 ^ l = z := ⟨_, rfl⟩
  rw [hz] at e hzb ⊢
  obtain ⟨z1, hz1⟩ : ∃ x : Nat, (z : Int) + 1 = x := ⟨z + 1, by omega⟩
  have hr : ((z + 1 : Nat) : Int) = z1 := by omega
  rw [hr]
  clear h hz hr
  go_enter Tryz.func89, Tryz.ntmps89
  go_wp2_with fail
  refine (H.out _).mono ?_
  rintro e w1 ⟨rfl, hb1⟩
  obtain ⟨q0, q1, q2, hB⟩ := box3 (hb1.mono (by simp))
  clear hb1
  go_wp2_with fail
  go_ret
  exact ⟨rfl, ((Below.refl _ _).alloc (Nat.le_refl _) _).trans (hB.mono (by omega))⟩

theorem implLastCode (o l m : Nat) (w : World) (h : sv o l m) :
    Calls Tryz.prog 88 #[.agg #[.int .i64 (o : Int), .int .i64 (l : Int), .int .i64 (m : Int)]] w fun e w' => e = .returned (.int .i64 ((2 ^ m - 1 : Nat) : Int)) ∧ Below w.heap.size w w' := by
  have H := Lib.hid (fun W => implSettingValid o l m true W (btrue h))
  have hm10 := h.2.2.2
  have e := two_pow_wrap m (by omega)
  have hzb : 2 ^ m ≤ 2 ^ 10 := Nat.pow_le_pow_right (by omega) (by omega)
  have hz1' : 1 ≤ 2 ^ m := Nat.one_le_two_pow
  obtain ⟨z, hz⟩ : ∃ z, 2 ^ m = z := ⟨_, rfl⟩
  rw [hz] at e hzb hz1' ⊢
  obtain ⟨z1, hz1⟩ : ∃ x : Nat, (z : Int) - 1 = x := ⟨z - 1, by omega⟩
  have hr : ((z - 1 : Nat) : Int) = z1 := by omega
  rw [hr]
  clear h hz hr
  go_enter Tryz.func88, Tryz.ntmps88
  go_wp2_with fail
  refine (H.out _).mono ?_
  rintro e w1 ⟨rfl, hb1⟩
  obtain ⟨q0, q1, q2, hB⟩ := box3 (hb1.mono (by simp))
  clear hb1
  go_wp2_with fail
  go_ret
  exact ⟨rfl, ((Below.refl _ _).alloc (Nat.le_refl _) _).trans (hB.mono (by omega))⟩

theorem implPlace (o i wd : Nat) (w : World) (ho : o ≤ 1) (hi : i < wd) (hw : wd ≤ 16) :
    Calls Tryz.prog 151 #[.int .i64 (o : Int), .int .i64 (i : Int), .int .i64 (wd : Int)] w fun e w' => e = .returned (.int .i64 ((2 ^ plc o i wd : Nat) : Int)) ∧ w = w' := by
  by_cases h0 : o = 0
  · subst h0
    have hp : plc 0 i wd = i := rfl
    have e := two_pow_wrap i (by omega)
    rw [hp]
    obtain ⟨z, hz⟩ : ∃ z, 2 ^ i = z := ⟨_, rfl⟩
    rw [hz] at e ⊢
    clear hz hp
    go_enter Tryz.func151, Tryz.ntmps151
    go_wp2_with fail
    go_ret
    exact ⟨ret_int (by assumption), rfl⟩
  · obtain rfl : o = 1 := by omega
    have hp : plc 1 i wd = wd - 1 - i := rfl
    rw [hp]
    obtain ⟨j, hj⟩ : ∃ j, wd - 1 - i = j := ⟨_, rfl⟩
    rw [hj]
    have ej : (wd : Int) - 1 - i = j := by omega
    have e := two_pow_wrap j (by omega)
    obtain ⟨z, hz⟩ : ∃ z, 2 ^ j = z := ⟨_, rfl⟩
    rw [hz] at e ⊢
    have j0 : (0 : Int) ≤ j := by omega
    clear hz hp hj
    go_enter Tryz.func151, Tryz.ntmps151
    go_wp2_with fail
    go_ret
    exact ⟨ret_int (by assumption), rfl⟩

theorem and_pow (n i : Nat) : n &&& 2 ^ i = n / 2 ^ i % 2 * 2 ^ i := by
  have h1 : n.testBit i = decide (n / 2 ^ i % 2 = 1) := Nat.testBit_eq_decide_div_mod_eq
  rcases Nat.mod_two_eq_zero_or_one (n / 2 ^ i) with h | h
  · rw [h] at h1
    rw [h, Nat.zero_mul]
    apply Nat.eq_of_testBit_eq
    intro j
    rw [Nat.testBit_and, Nat.testBit_two_pow, Nat.zero_testBit]
    by_cases hj : i = j
    · subst hj; rw [h1]; rfl
    · simp [hj]
  · rw [h] at h1
    rw [h, Nat.one_mul]
    apply Nat.eq_of_testBit_eq
    intro j
    rw [Nat.testBit_and, Nat.testBit_two_pow]
    by_cases hj : i = j
    · subst hj; rw [h1]; rfl
    · simp [hj]

theorem pow_16 {i : Nat} (h : i ≤ 16) : 1 ≤ 2 ^ i ∧ 2 ^ i ≤ 65536 := by
  refine ⟨Nat.one_le_two_pow, ?_⟩
  have := Nat.pow_le_pow_right (n := 2) (by omega) h
  omega

/-- Where an append of bytes onto a row leads. -/
structure App (w w' : World) (v v' : Value) : Prop where
  grow : w.grownBy w' v.ownBlock
  at_ : v'.ownBlock = v.ownBlock ∨ ∃ g, v'.ownBlock = some g ∧ w.heap.size ≤ g

theorem App.refl (w : World) (v : Value) : App w w v v := ⟨World.grownBy.refl _ _, Or.inl rfl⟩

theorem App.step {w w1 w2 : World} {v v1 v2 : Value} {o : Obj} (h : App w w1 v v1) (hg : (w1.alloc o).grownBy w2 v1.ownBlock) (hat : v2.ownBlock = v1.ownBlock ∨ v2.ownBlock = some (w1.heap.size + 1)) : App w w2 v v2 := by
  have hs := h.grow.size
  have hg1 : w.grownBy (w1.alloc o) v.ownBlock := h.grow.trans (World.grownBy_alloc w1 o _)
  refine ⟨only_then hg1 hg (fun j e => ?_), ?_⟩
  · rcases h.at_ with h1 | ⟨g, h1, h2⟩
    · exact Or.inr (by rw [← h1]; exact e)
    · rw [h1] at e; injection e with e; exact Or.inl (by omega)
  · rcases hat with h1 | h1
    · rw [h1]; exact h.at_
    · exact Or.inr ⟨_, h1, by omega⟩

theorem App.trans {w w1 w2 : World} {v v1 v2 : Value} (h : App w w1 v v1) (k : App w1 w2 v1 v2) : App w w2 v v2 := by
  have hs := h.grow.size
  refine ⟨only_then h.grow k.grow (fun j e => ?_), ?_⟩
  · rcases h.at_ with h1 | ⟨g, h1, h2⟩
    · exact Or.inr (by rw [← h1]; exact e)
    · rw [h1] at e; injection e with e; exact Or.inl (by omega)
  · rcases k.at_ with h1 | ⟨g, h1, h2⟩
    · rw [h1]; exact h.at_
    · exact Or.inr ⟨g, h1, by omega⟩

theorem App.below {w w' : World} {v' : Value} (h : App w w' (.slice none 0 0) v') : Below w.heap.size w w' :=
  (Below.refl _ _).grown h.grow (Nat.le_refl _) (fun g hg => by cases hg)

theorem digit_of {q : Nat} (h : q % 2 = 1) : UInt8.ofNat (48 + q % 2) = 49 := by rw [h]; rfl

theorem digit_not {q : Nat} (h : q % 2 = 0) : UInt8.ofNat (48 + q % 2) = 48 := by rw [h]; rfl

set_option maxHeartbeats 4000000 in
theorem implAppendBits (A : Option Addr) (cc base o c wd : Nat) (xs : List UInt8) (w : World) (hown : w.ownsRow base 5 1 (.slice A xs.length cc) xs.length (xs.map byteV)) (hbase : base ≤ w.heap.size) (hx : xs.length ≤ 100000) (ho : o ≤ 1) (hw : wd ≤ 16) (hc : c ≤ 65535) :
    Calls Tryz.prog 129 #[.slice A xs.length cc, .int .i64 (o : Int), .int .i64 (c : Int), .int .i64 (wd : Int)] w fun e w' => ∃ A' c', e = .returned (.slice A' (xs.length + wd) c') ∧ w'.ownsRow base 5 1 (.slice A' (xs.length + wd) c') (xs.length + wd) ((xs ++ codeL o c wd).map byteV) ∧ App w w' (.slice A xs.length cc) (.slice A' (xs.length + wd) c') := by
  obtain ⟨n, hn⟩ : ∃ n, xs.length = n := ⟨_, rfl⟩
  rw [hn] at hown hx ⊢
  replace hown := Lib.hid hown
  replace hn := Lib.hid hn
  go_enter Tryz.func129, Tryz.ntmps129
  go_wp2_with fail
  go_loopw [0, 12] (fun u v wr => ∃ (i : Nat) (A1 : Option Addr) (c1 : Nat), u = .slice A1 (n + i) c1 ∧ v = .int .i64 (i : Int) ∧ i ≤ wd ∧ Hid (wr.ownsRow base 5 1 (.slice A1 (n + i) c1) (n + i) ((xs ++ (codeL o c wd).take i).map byteV)) ∧ Hid (App w wr (.slice A n cc) (.slice A1 (n + i) c1))) (fun _ v _ => wd - (intOf v).toNat)
  case atStart => exact ⟨0, A, cc, rfl, rfl, Nat.zero_le _, Lib.hid (by rw [List.take_zero, List.append_nil]; exact hown.out), Lib.hid (App.refl _ _)⟩
  case round =>
    obtain ⟨i, A1, c1, rfl, rfl, hi, hr, hap⟩ := hrel
    have hsz := hap.out.grow.size
    by_cases h1 : i < wd
    · have h1i : (i : Int) < wd := by omega
      have HP := Lib.hid (fun W => implPlace o i wd W ho h1 hw)
      have hts := codeL_take_succ (o := o) (c := c) h1
      obtain ⟨j, hj⟩ : ∃ j, plc o i wd = j := ⟨_, rfl⟩
      have hjb : j ≤ 16 := by rw [← hj]; unfold plc; split <;> omega
      rw [hj] at HP hts
      have hpb := pow_16 hjb
      have hand := and_pow c j
      obtain ⟨q, hq⟩ : ∃ q, c / 2 ^ j = q := ⟨_, rfl⟩
      have hbit : bitC c j = UInt8.ofNat (48 + q % 2) := by unfold bitC; rw [hq]
      rw [hq] at hand
      obtain ⟨p, hp⟩ : ∃ p, 2 ^ j = p := ⟨_, rfl⟩
      rw [hp] at HP hand hpb
      have hand2 : bits .and .i64 (c : Int) (p : Int) = ((q % 2 * p : Nat) : Int) := by rw [← hand]; exact i64_and_nat c p (by omega) (by omega)
      obtain ⟨m, hm⟩ : ∃ m, n + i = m := ⟨_, rfl⟩
      rw [hm] at hr hap ⊢
      have hmb : m ≤ 100016 := by omega
      have hr' := hr.out
      rcases Nat.mod_two_eq_zero_or_one q with h2 | h2
      · have hv : q % 2 * p = 0 := by rw [h2, Nat.zero_mul]
        rw [hv] at hand2
        have hbv : bitC c j = 48 := by rw [hbit, digit_not h2]
        rw [hbv] at hts
        have hres : Hid ((xs ++ (codeL o c wd).take (i + 1)).map byteV = (xs ++ (codeL o c wd).take i).map byteV ++ [.int .u8 48]) := Lib.hid (by rw [hts]; simp [byteV])
        clear hj hand hq hp hbit hv h2 hts hbv
        go_wp2_with fail
        refine (HP.out _).mono ?_
        rintro e w1 ⟨rfl, rfl⟩
        go_wp2_with (first
            | (at_builtin; refine wpList_append_row _ elemByte rfl (.tmp 22) (.tmp 24) rfl base _ _ _ rfl (hr'.alloc _) _ _ 1 1 [.int .u8 48] rfl (Row.newAt _ _ rfl _ [.int .u8 48] 1 1 rfl) ?_ ?_ ?_ ?_ ?_))
        · intro z hz; simp at hz; subst hz; rfl
        · unfold maxLen; omega
        · omega
        · simp; omega
        · intro v4 w4 hv4 hg4 hat4
          obtain ⟨A4, c4, rfl, _, _⟩ := own_form hv4
          have hap4 := Lib.hid (hap.out.step hg4 hat4)
          have hv4' : Hid (w4.ownsRow base 5 1 (.slice A4 (n + (i + 1)) c4) (n + (i + 1)) ((xs ++ (codeL o c wd).take (i + 1)).map byteV)) := Lib.hid (by rw [hres.out, show n + (i + 1) = m + 1 by omega]; simpa using hv4)
          have hap4' : Hid (App w w4 (.slice A n cc) (.slice A4 (n + (i + 1)) c4)) := Lib.hid (by rw [show n + (i + 1) = m + 1 by omega]; exact hap4.out)
          have em : m + 1 = n + (i + 1) := by omega
          clear hv4 hg4 hat4 hr' hap4
          go_wp2_with fail
          go_roundw
          case rel => exact ⟨i + 1, A4, c4, by rw [em], by go_num, by omega, hv4', hap4'⟩
          case measure => simp [intOf]; omega
      · have hv : q % 2 * p = p := by rw [h2, Nat.one_mul]
        rw [hv] at hand2
        have hbv : bitC c j = 49 := by rw [hbit, digit_of h2]
        rw [hbv] at hts
        have hres : Hid ((xs ++ (codeL o c wd).take (i + 1)).map byteV = (xs ++ (codeL o c wd).take i).map byteV ++ [.int .u8 49]) := Lib.hid (by rw [hts]; simp [byteV])
        have hp0 : ((p : Int) != 0) = true := by rw [bne_iff_ne]; omega
        clear hj hand hq hp hbit hv h2 hts hbv
        go_wp2_with fail
        refine (HP.out _).mono ?_
        rintro e w1 ⟨rfl, rfl⟩
        go_wp2_with (first
            | (at_builtin; refine wpList_append_row _ elemByte rfl (.tmp 22) (.tmp 24) rfl base _ _ _ rfl (hr'.alloc _) _ _ 1 1 [.int .u8 49] rfl (Row.newAt _ _ rfl _ [.int .u8 49] 1 1 rfl) ?_ ?_ ?_ ?_ ?_))
        · intro z hz; simp at hz; subst hz; rfl
        · unfold maxLen; omega
        · omega
        · simp; omega
        · intro v4 w4 hv4 hg4 hat4
          obtain ⟨A4, c4, rfl, _, _⟩ := own_form hv4
          have hap4 := Lib.hid (hap.out.step hg4 hat4)
          have hv4' : Hid (w4.ownsRow base 5 1 (.slice A4 (n + (i + 1)) c4) (n + (i + 1)) ((xs ++ (codeL o c wd).take (i + 1)).map byteV)) := Lib.hid (by rw [hres.out, show n + (i + 1) = m + 1 by omega]; simpa using hv4)
          have hap4' : Hid (App w w4 (.slice A n cc) (.slice A4 (n + (i + 1)) c4)) := Lib.hid (by rw [show n + (i + 1) = m + 1 by omega]; exact hap4.out)
          have em : m + 1 = n + (i + 1) := by omega
          clear hv4 hg4 hat4 hr' hap4
          go_wp2_with fail
          go_roundw
          case rel => exact ⟨i + 1, A4, c4, by rw [em], by go_num, by omega, hv4', hap4'⟩
          case measure => simp [intOf]; omega
    · obtain rfl : i = wd := by omega
      have hfull : (codeL o c i).take i = codeL o c i := List.take_of_length_le (by rw [codeL_length]; omega)
      rw [hfull] at hr
      go_wp2_with fail
      go_ret
      exact ⟨A1, c1, rfl, hr.out, hap.out⟩

end Go.Proofs.YthlgpgaeajfchaaGreatDoor

namespace Go.Proofs.YthlgpgaeajfchaaGreatDoor
open Go.RowKit
set_option linter.unusedVariables false

theorem dig49 {b : UInt8} {x : Nat} (hx : b.toNat = x) (hd : 48 ≤ x ∧ x ≤ 49) : (x = 49 ∧ b.toNat - 48 = 1) ∨ (x = 48 ∧ b.toNat - 48 = 0) := by omega

set_option maxHeartbeats 4000000 in
theorem implBitsNumber (o : Nat) (s : ByteArray) (w : World) (ho : o ≤ 1) (hs : s.size ≤ 16) (hd : Digs s.data.toList) :
    Calls Tryz.prog 146 #[.int .i64 (o : Int), .string s] w fun e w' => e = .returned (.int .i64 (numO o s.data.toList : Int)) ∧ w = w' := by
  obtain ⟨l, hl⟩ : ∃ l, s.data.toList = l := ⟨_, rfl⟩
  have hll : l.length = s.size := by rw [← hl]; simp
  rw [hl] at hd ⊢
  obtain ⟨wd, hwd⟩ : ∃ wd, s.size = wd := ⟨_, rfl⟩
  rw [hwd] at hll hs
  have hall := part_all (o := o) hll
  replace hl := Lib.hid hl
  replace hd := Lib.hid hd
  replace hll := Lib.hid hll
  replace hall := Lib.hid hall
  go_enter Tryz.func146, Tryz.ntmps146
  go_wp2_with fail
  go_loopw [5, 9] (fun u v wr => ∃ i n : Nat, u = .int .i64 (n : Int) ∧ v = .int .i64 (i : Int) ∧ i ≤ wd ∧ Hid (n = part o wd l i) ∧ wr = w) (fun _ v _ => wd - (intOf v).toNat)
  case atStart => exact ⟨0, 0, rfl, rfl, Nat.zero_le _, Lib.hid (part_zero _ _ _).symm, rfl⟩
  case round =>
    obtain ⟨i, n, rfl, rfl, hi, hn, rfl⟩ := hrel
    by_cases h1 : i < wd
    · have h1i : (i : Int) < wd := by omega
      have his : i < s.size := by omega
      have hil : i < l.length := by rw [hll.out]; exact h1
      obtain ⟨x, hx⟩ : ∃ x, s[i].toNat = x := ⟨_, rfl⟩
      have hxl : l[i].toNat = x := by
        rw [← hx]
        have h2 := hl.out
        subst h2
        simp [ByteArray.getElem_eq_getElem_data]
      have hxd := hd.out l[i] (List.getElem_mem hil)
      rw [hxl] at hxd
      have hstep := part_succ (o := o) hll.out h1
      rw [← hn.out, hxl] at hstep
      have hlt := part_lt (o := o) (i := i) hll.out hd.out (by omega)
      rw [← hn.out] at hlt
      have hw16 := (pow_16 (i := wd) (by omega)).2
      have HP := Lib.hid (fun W => implPlace o i wd W ho h1 hs)
      have hj : plc o i wd ≤ 16 := by unfold plc; split <;> omega
      have hpb := pow_16 hj
      obtain ⟨p, hp⟩ : ∃ p, 2 ^ plc o i wd = p := ⟨_, rfl⟩
      rw [hp] at HP hstep hpb
      by_cases h49 : x = 49
      · subst h49
        obtain ⟨m, hm⟩ : ∃ m : Nat, (n : Int) + p = m := ⟨n + p, by omega⟩
        have HN : Hid (m = part o wd l (i + 1)) := Lib.hid (by rw [hstep]; omega)
        have hmb : m ≤ 200000 := by omega
        clear hstep hxl hp hlt hj
        go_wp2_with fail
        refine (HP.out _).mono ?_
        rintro e w1 ⟨rfl, rfl⟩
        go_wp2_with fail
        go_roundw
        case rel => exact ⟨i + 1, m, rfl, by go_num, by omega, HN, trivial⟩
        case measure => simp [intOf]; omega
      · obtain rfl : x = 48 := by omega
        have HN : Hid (n = part o wd l (i + 1)) := Lib.hid (by rw [hstep]; omega)
        clear hstep hxl hp hlt hj h49
        go_wp2_with fail
        go_roundw
        case rel => exact ⟨i + 1, n, rfl, by go_num, by omega, HN, trivial⟩
        case measure => simp [intOf]; omega
    · obtain rfl : i = wd := by omega
      have hr : n = numO o l := by rw [hn.out, hall.out]
      replace hr := Lib.hid hr
      go_wp2_with fail
      go_ret
      exact ⟨ret_int (by rw [hr.out]), rfl⟩

set_option maxHeartbeats 2000000 in
theorem implBitsValid (s : ByteArray) (w : World) (hs : s.size ≤ 32000) (hd : Digs s.data.toList) :
    Calls Tryz.prog 152 #[.string s] w fun e w' => e = .returned (.bool true) ∧ w = w' := by
  replace hd := Lib.hid hd
  go_enter Tryz.func152, Tryz.ntmps152
  go_wp2_with fail
  go_loopw [9] (fun v wr => ∃ i : Nat, v = .int .i64 (i : Int) ∧ i ≤ s.size ∧ wr = w) (fun v _ => s.size - (intOf v).toNat)
  case atStart => exact ⟨0, rfl, Nat.zero_le _, rfl⟩
  case round =>
    obtain ⟨i, rfl, hi, rfl⟩ := hrel
    by_cases h1 : i < s.size
    · obtain ⟨x, hx⟩ : ∃ x, s[i].toNat = x := ⟨_, rfl⟩
      have hxd := hd.out s[i] (by
        have : s[i] = s.data.toList[i]'(by simpa using h1) := by simp [ByteArray.getElem_eq_getElem_data]
        rw [this]; exact List.getElem_mem _)
      rw [hx] at hxd
      by_cases h49 : x = 49
      · subst h49
        go_wp2_with fail
        go_roundw
        case rel => exact ⟨i + 1, by go_num, by omega, trivial⟩
        case measure => simp [intOf]; omega
      · obtain rfl : x = 48 := by omega
        clear h49
        go_wp2_with fail
        go_roundw
        case rel => exact ⟨i + 1, by go_num, by omega, trivial⟩
        case measure => simp [intOf]; omega
    · obtain rfl : i = s.size := by omega
      go_wp2_with fail
      go_ret
      exact ⟨rfl, rfl⟩

/-- The digits of byte i. -/
def chunk (l : List UInt8) (i : Nat) : List UInt8 := ((padL l).drop (8 * i)).take 8

theorem chunk_len {l : List UInt8} {i : Nat} (h : 8 * i < l.length) : (chunk l i).length = 8 := by
  unfold chunk
  rw [List.length_take, List.length_drop, padL_length]
  omega

theorem chunk_digs {l : List UInt8} (h : Digs l) (i : Nat) : Digs (chunk l i) := digs_take (digs_drop (padL_digs h) _) _

theorem chunk_get {l : List UInt8} {i j : Nat} (h : j < min 8 (l.length - 8 * i)) (hj : j < (chunk l i).length) : (chunk l i)[j] = l[8 * i + j]'(by omega) := by
  have h1 := pad_digit h
  rw [List.getElem?_eq_getElem (by omega : 8 * i + j < l.length)] at h1
  have h2 : (chunk l i)[j]? = some (l[8 * i + j]'(by omega)) := h1
  rw [List.getElem?_eq_getElem hj] at h2
  injection h2

theorem packL_take {o : Nat} {l : List UInt8} (hd : Digs l) {i : Nat} (h : 8 * i < l.length) : (packL o l).take (i + 1) = (packL o l).take i ++ [UInt8.ofNat (part o 8 (chunk l i) (min 8 (l.length - 8 * i)))] := by
  have hl : i < (packL o l).length := by rw [packL_length]; omega
  rw [List.take_succ_eq_append_getElem hl]
  congr 2
  have := packAt_part (o := o) hd (i := i) (by omega)
  have h2 : (packL o l)[i]? = some (UInt8.ofNat (numO o (((padL l).drop (8 * i)).take 8))) := by
    unfold packL
    rw [List.getElem?_map, List.getElem?_range (by rw [padL_length]; omega)]
    rfl
  rw [List.getElem?_eq_getElem hl] at h2
  injection h2 with h2
  rw [h2, this]
  rfl

set_option maxHeartbeats 8000000 in
theorem implPackBytes (o : Nat) (s : ByteArray) (w : World) (ho : o ≤ 1) (hs : s.size ≤ 50000) (hd : Digs s.data.toList) :
    Calls Tryz.prog 153 #[.int .i64 (o : Int), .string s] w fun e w' => e = .returned (.string (bsL (packL o s.data.toList))) ∧ Below w.heap.size w w' := by
  obtain ⟨l, hl⟩ : ∃ l, s.data.toList = l := ⟨_, rfl⟩
  have hll : l.length = s.size := by rw [← hl]; simp
  rw [hl] at hd ⊢
  obtain ⟨n, hn⟩ : ∃ n, s.size = n := ⟨_, rfl⟩
  rw [hn] at hll hs
  replace hl := Lib.hid hl
  replace hd := Lib.hid hd
  replace hll := Lib.hid hll
  have hH : Hid (packL o l = packL o l) := Lib.hid rfl
  go_enter Tryz.func153, Tryz.ntmps153
  go_wp2_with fail
  go_loopw [5, 6] (fun u v wr => ∃ (k a : Nat) (A1 : Option Addr) (c1 : Nat), u = .slice A1 k c1 ∧ v = .int .i64 (a : Int) ∧ Hid (a = 8 * k) ∧ k ≤ n ∧ a ≤ n + 7 ∧ Hid (wr.ownsRow w.heap.size 5 1 (.slice A1 k c1) k (((packL o l).take k).map byteV)) ∧ Hid (App w wr (.slice none 0 0) (.slice A1 k c1))) (fun _ v _ => n + 7 - (intOf v).toNat)
  case atStart => exact ⟨0, 0, none, 0, rfl, rfl, Lib.hid rfl, by omega, by omega, Lib.hid (by rw [List.take_zero]; exact World.ownsRow_nil _ _ _ _), Lib.hid (App.refl _ _)⟩
  case round =>
    obtain ⟨k, a, A1, c1, rfl, rfl, ha, hkn, han, hr, hap⟩ := hrel
    have hsz := hap.out.grow.size
    by_cases h1 : a < n
    · have h1i : (a : Int) < n := by omega
      have hcl : (chunk l k).length = 8 := chunk_len (by have := ha.out; rw [hll.out]; omega)
      have htk := packL_take (o := o) hd.out (i := k) (by have := ha.out; rw [hll.out]; omega)
      rw [hll.out, ← ha.out] at htk
      obtain ⟨q, hq⟩ : ∃ q, min 8 (n - a) = q := ⟨_, rfl⟩
      have hqi : min (8 : Int) ((n : Int) - a) = q := by omega
      rw [hq] at htk
      have hq8 : q ≤ 8 := by omega
      have hqn : q ≤ n - a := by omega
      have hcd := Lib.hid (chunk_digs hd.out k)
      have hcg : Hid (∀ (j : Nat) (hj : j < q), (chunk l k)[j]'(by omega) = l[a + j]'(by rw [hll.out]; omega)) := Lib.hid (fun j hj => by
        have ha' := ha.out
        have := chunk_get (l := l) (i := k) (j := j) (by rw [hll.out]; omega) (by omega)
        rw [this]
        congr 1
        omega)
      obtain ⟨T, hT⟩ : ∃ T, chunk l k = T := ⟨_, rfl⟩
      have hTl : T.length = 8 := by rw [← hT]; exact hcl
      replace hcd : Hid (Digs T) := Lib.hid (by rw [← hT]; exact hcd.out)
      replace hcg : Hid (∀ (j : Nat) (hj : j < q), T[j]'(by omega) = l[a + j]'(by rw [hll.out]; omega)) := Lib.hid (fun j hj => by
        subst hT; exact hcg.out j hj)
      rw [hT] at htk
      replace htk := Lib.hid htk
      replace hTl := Lib.hid hTl
      clear hcl hT hq
      go_wp2_with fail
      go_loopw [7, 20] (fun u v wq => ∃ j m : Nat, u = .int .i64 (m : Int) ∧ v = .int .i64 (j : Int) ∧ j ≤ q ∧ Hid (m = part o 8 T j) ∧ wq = wr) (fun _ v _ => q - (intOf v).toNat)
      case atStart => exact ⟨0, 0, rfl, rfl, Nat.zero_le _, Lib.hid (part_zero _ _ _).symm, rfl⟩
      case round =>
        obtain ⟨j, m, rfl, rfl, hj, hm, rfl⟩ := hrel
        have hlt := part_lt (o := o) (i := j) hTl.out hcd.out (by omega)
        rw [← hm.out] at hlt
        by_cases h2 : j < q
        · have h2i : (j : Int) < q := by omega
          obtain ⟨p, hp⟩ : ∃ p : Nat, (a : Int) + j = p := ⟨a + j, by omega⟩
          have hpn : p < s.size := by omega
          obtain ⟨x, hx⟩ : ∃ x, s[p].toNat = x := ⟨_, rfl⟩
          have hxl : (T[j]'(by rw [hTl.out]; omega)).toNat = x := by
            rw [hcg.out j h2, ← hx]
            have h3 := hl.out
            subst h3
            have : p = a + j := by omega
            subst this
            simp [ByteArray.getElem_eq_getElem_data]
          have hxd := hcd.out (T[j]'(by rw [hTl.out]; omega)) (List.getElem_mem _)
          rw [hxl] at hxd
          have hstep := part_succ (o := o) hTl.out (i := j) (by omega)
          rw [← hm.out, hxl] at hstep
          have HP := Lib.hid (fun W => implPlace o j 8 W ho (by omega) (by omega))
          have hjb : plc o j 8 ≤ 16 := by unfold plc; split <;> omega
          have hpb := pow_16 hjb
          obtain ⟨y, hy⟩ : ∃ y, 2 ^ plc o j 8 = y := ⟨_, rfl⟩
          rw [hy] at HP hstep hpb
          by_cases h49 : x = 49
          · subst h49
            obtain ⟨m2, hm2⟩ : ∃ z : Nat, (m : Int) + y = z := ⟨m + y, by omega⟩
            have HN : Hid (m2 = part o 8 T (j + 1)) := Lib.hid (by rw [hstep]; omega)
            have hmb : m2 ≤ 200000 := by omega
            clear hstep hxl hy hlt hjb
            go_wp2_with fail
            refine (HP.out _).mono ?_
            rintro e w1 ⟨rfl, rfl⟩
            go_wp2_with fail
            go_roundw
            case rel => exact ⟨j + 1, m2, rfl, by go_num, by omega, HN, trivial⟩
            case measure => simp [intOf]; omega
          · obtain rfl : x = 48 := by omega
            have HN : Hid (m = part o 8 T (j + 1)) := Lib.hid (by rw [hstep]; omega)
            clear hstep hxl hy hlt hjb h49
            go_wp2_with fail
            go_roundw
            case rel => exact ⟨j + 1, m, rfl, by go_num, by omega, HN, trivial⟩
            case measure => simp [intOf]; omega
        · obtain rfl : j = q := by omega
          have hm256 : m < 256 := by omega
          have wx : IntKind.u8.wrap (m : Int) = m := u8_in m hm256
          have hbv : byteV (UInt8.ofNat m) = .int .u8 (m : Int) := by unfold byteV; rw [UInt8.toNat_ofNat', Nat.mod_eq_of_lt (by omega)]
          have hres : Hid (((packL o l).take (k + 1)).map byteV = ((packL o l).take k).map byteV ++ [.int .u8 m]) := Lib.hid (by rw [htk.out, ← hm.out, List.map_append, ← hbv]; rfl)
          have hr' := hr.out
          clear hbv
          go_wp2_with (first
            | (at_builtin; refine wpList_append_row _ elemByte rfl (.tmp 35) (.tmp 38) rfl w.heap.size _ _ _ rfl (hr'.alloc _) _ _ 1 1 [.int .u8 m] rfl (Row.newAt _ _ rfl _ [.int .u8 m] 1 1 rfl) ?_ ?_ ?_ ?_ ?_))
          · intro z hz; simp at hz; subst hz; rfl
          · unfold maxLen; omega
          · omega
          · simp; omega
          · intro v4 w4 hv4 hg4 hat4
            obtain ⟨A4, c4, rfl, _, _⟩ := own_form hv4
            have hap4 := Lib.hid (hap.out.step hg4 hat4)
            have hv4' : Hid (w4.ownsRow w.heap.size 5 1 (.slice A4 (k + 1) c4) (k + 1) (((packL o l).take (k + 1)).map byteV)) := Lib.hid (by rw [hres.out]; simpa using hv4)
            clear hv4 hg4 hat4 hr'
            go_wp2_with fail
            go_roundw
            case rel => exact ⟨k + 1, a + 8, A4, c4, rfl, by go_num, Lib.hid (by have := ha.out; omega), by have := ha.out; omega, by omega, hv4', hap4⟩
            case measure => simp [intOf]; omega
    · have hkl : (packL o l).length = k := by have := ha.out; rw [packL_length, hll.out]; omega
      have hfull : (packL o l).take k = packL o l := List.take_of_length_le (by omega)
      rw [hfull] at hr
      clear hfull hH
      obtain ⟨R, hR⟩ : ∃ R, packL o l = R := ⟨_, rfl⟩
      rw [hR] at hr hkl
      replace hR := Lib.hid hR
      have hcv := run_convert_own (n := k) elemByte Tryz.underlying5 Tryz.underlying9 R (by rw [hkl]; exact hr.out) hkl
      go_wp2_with fail
      go_ret
      exact ⟨ret_str (by rw [hR.out]), hap.out.below⟩

end Go.Proofs.YthlgpgaeajfchaaGreatDoor
