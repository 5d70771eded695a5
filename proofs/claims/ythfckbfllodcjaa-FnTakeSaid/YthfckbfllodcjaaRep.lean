/-
  A string repeated: l9Many of the reference.
-/
import Derived.Test.YthfckbfllodcjaaSmall
import Derived.Lib.Repeat
namespace Go.Proofs.Ythfckbfllodcjaa
open Go.RowKit
set_option linter.unusedVariables false

/-- A string n times. -/
def repB (s : ByteArray) : Nat → ByteArray
  | 0 => ByteArray.empty
  | n + 1 => s ++ repB s n

theorem repB_two (s : ByteArray) (n : Nat) : repB (s ++ s) n = repB s (2 * n) := by
  induction n with
  | zero => rfl
  | succ n ih =>
    rw [show 2 * (n + 1) = 2 * n + 1 + 1 from by omega]
    simp only [repB]
    rw [ih, ByteArray.append_assoc]

theorem repB_odd (s : ByteArray) {n : Nat} (h : n % 2 = 1) : s ++ repB (s ++ s) (n / 2) = repB s n := by
  rw [repB_two]
  obtain ⟨k, rfl⟩ : ∃ k, n = 2 * k + 1 := ⟨n / 2, by omega⟩
  rw [show (2 * k + 1) / 2 = k from by omega]
  rfl

theorem repB_even (s : ByteArray) {n : Nat} (h : n % 2 = 0) : repB (s ++ s) (n / 2) = repB s n := by
  rw [repB_two, show 2 * (n / 2) = n from by omega]

theorem repB_size (s : ByteArray) (n : Nat) : (repB s n).size = s.size * n := by
  induction n with
  | zero => rfl
  | succ n ih => simp only [repB, ByteArray.size_append, ih]; rw [Nat.mul_succ]; omega

/-- What l9Many has still to do. -/
def ManyAt (M : Nat) (R : ByteArray) (n : Nat) (s out : ByteArray) : Prop := out ++ repB s n = R ∧ s.size * n ≤ M ∧ out.size + s.size * n = R.size ∧ s.size ≤ 2 * M + 1048576

theorem many_start {s : ByteArray} {n : Nat} (hs : s.size ≤ 1048576) : ManyAt (s.size * n) (repB s n) n s ByteArray.empty :=
  ⟨by simp, Nat.le_refl _, by rw [repB_size]; show 0 + _ = _; omega, by omega⟩

theorem many_size {M n : Nat} {R s out : ByteArray} (h : ManyAt M R n s out) (hn : 0 < n) : s.size ≤ M := by
  have h1 : s.size * 1 ≤ s.size * n := Nat.mul_le_mul_left _ hn
  have := h.2.1
  omega

theorem many_odd {M n : Nat} {R s out : ByteArray} (h : ManyAt M R n s out) (hn : 0 < n) (ho : n % 2 = 1) : ManyAt M R (n / 2) (s ++ s) (out ++ s) := by
  have hz := many_size h hn
  obtain ⟨h1, h2, h3, h4⟩ := h
  have e : (s ++ s).size * (n / 2) + s.size = s.size * n := by
    rw [ByteArray.size_append, ← Nat.two_mul, Nat.mul_comm 2, Nat.mul_assoc, ← Nat.mul_succ]
    congr 1; omega
  refine ⟨by rw [ByteArray.append_assoc, repB_odd s ho]; exact h1, by omega, by rw [ByteArray.size_append]; omega, by rw [ByteArray.size_append]; omega⟩

theorem many_even {M n : Nat} {R s out : ByteArray} (h : ManyAt M R n s out) (hn : 0 < n) (ho : n % 2 = 0) : ManyAt M R (n / 2) (s ++ s) out := by
  have hz := many_size h hn
  obtain ⟨h1, h2, h3, h4⟩ := h
  have e : (s ++ s).size * (n / 2) = s.size * n := by
    rw [ByteArray.size_append, ← Nat.two_mul, Nat.mul_comm 2, Nat.mul_assoc]
    congr 1; omega
  refine ⟨by rw [repB_even s ho]; exact h1, by omega, by omega, by rw [ByteArray.size_append]; omega⟩

theorem many_end {M : Nat} {R s out : ByteArray} (h : ManyAt M R 0 s out) : out = R := by
  have := h.1
  simpa [repB] using this

theorem repL_data (s : ByteArray) (n : Nat) : (repB s n).data.toList = Lib.repeatL s.data.toList n := by
  induction n with
  | zero => rfl
  | succ n ih => simp only [repB, Lib.repeatL, ByteArray.data_append, Array.toList_append, ih]

theorem repL_eq (s : ByteArray) (n : Nat) : (⟨(Lib.repeatL s.data.toList n).toArray⟩ : ByteArray) = repB s n := by
  apply ByteArray.ext
  rw [← repL_data]

set_option maxHeartbeats 1000000 in
theorem specL9Many (s : ByteArray) (n : Int) (w : World) (hs : s.size ≤ 1048576) (hn1 : n ≤ 9223372036854775807) (hM : s.size * n.toNat ≤ 1073741824) :
    Calls Try.prog 88 #[.string s, .int .i64 n] w fun e w' => e = .returned (.string (repB s n.toNat)) ∧ w = w' := by
  obtain ⟨R, hR⟩ : ∃ R, repB s n.toNat = R := ⟨_, rfl⟩
  have H0 := many_start (s := s) (n := n.toNat) hs
  rw [hR] at H0 ⊢
  obtain ⟨M, hMe⟩ : ∃ M, s.size * n.toNat = M := ⟨_, rfl⟩
  rw [hMe] at H0 hM
  have hRz : R.size = M := by rw [← hR, repB_size, hMe]
  have HR := Lib.hid hRz
  have H1 := Lib.hid H0
  clear hR hMe hRz H0
  by_cases h0 : 0 ≤ n
  · obtain ⟨m, rfl⟩ := Int.eq_ofNat_of_zero_le h0
    have hm : m ≤ 9223372036854775807 := by omega
    rw [Int.toNat_natCast] at H1
    clear h0 hn1
    go_enter Try.func88, Try.ntmps88
    go_wp2_with fail
    go_loop [0, 1, 5] (fun v i o => ∃ (t : ByteArray) (k : Nat) (u : ByteArray), v = .string t ∧ i = .int .i64 k ∧ o = .string u ∧ k ≤ m ∧ Hid (ManyAt M R k t u)) (fun _ i _ => (intOf i).toNat)
    case atStart => exact ⟨s, m, ByteArray.empty, rfl, rfl, rfl, Nat.le_refl _, H1⟩
    case round =>
      obtain ⟨t, k, u, rfl, rfl, rfl, hkm, HK⟩ := hrel
      by_cases hk : 0 < k
      · have hz := many_size HK.out hk
        have hu : u.size ≤ M := by have := HK.out.2.2.1; rw [HR.out] at this; omega
        have hadd1 : ∀ W, (Op.stringOp .add u t).run Try.prog W = .ok (.string (u ++ t)) W := fun W => run_string_add_sum W _ _ (by omega)
        have hadd2 : ∀ W, (Op.stringOp .add t t).run Try.prog W = .ok (.string (t ++ t)) W := fun W => run_string_add_sum W _ _ (by omega)
        rcases Nat.mod_two_eq_zero_or_one k with ho | ho
        · have HX := Lib.hid (many_even HK.out hk ho)
          have e1 : (((k : Int) % 2) == 1) = false := by rw [beq_eq_false_iff_ne]; omega
          clear ho
          go_wp2_with fail
          go_round
          case rel => exact ⟨t ++ t, k / 2, u, rfl, by go_num, rfl, by omega, HX⟩
          case measure => simp [intOf]; omega
        · have HX := Lib.hid (many_odd HK.out hk ho)
          have e1 : (((k : Int) % 2) == 1) = true := by rw [beq_iff_eq]; omega
          clear ho
          go_wp2_with fail
          go_round
          case rel => exact ⟨t ++ t, k / 2, u ++ t, rfl, by go_num, rfl, by omega, HX⟩
          case measure => simp [intOf]; omega
      · obtain rfl : k = 0 := by omega
        have hu := many_end HK.out
        have HU := Lib.hid hu
        clear hu
        go_wp2_with fail
        go_ret
        exact ⟨ret_str HU.out, rfl⟩
  · have hn0 : n.toNat = 0 := by omega
    rw [hn0] at H1
    have hu := many_end H1.out
    have HU := Lib.hid hu
    clear hu hn0 H1
    go_enter Try.func88, Try.ntmps88
    go_wp2_with fail
    refine wp_loop_rounds 1 ?_
    rw [rounds_succ]
    go_wp2_with fail
    go_ret
    exact ⟨ret_str HU.out, rfl⟩

end Go.Proofs.Ythfckbfllodcjaa
