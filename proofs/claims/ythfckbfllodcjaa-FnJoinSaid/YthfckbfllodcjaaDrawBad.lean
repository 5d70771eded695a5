/-
  Draws of containers, turned into bytes that are sometimes none: l5Bad; l5Range with bounds.
-/
import Derived.Test.YthfckbfllodcjaaDrawCont
namespace Go.Proofs.Ythfckbfllodcjaa
open Go.RowKit
set_option linter.unusedVariables false

theorem u8_xor_lt (a b : Nat) (ha : a < 256) (hb : b < 256) : ∃ c : Nat, c < 256 ∧ bits .xor .u8 (a : Int) (b : Int) = (c : Int) := by
  have h1 : a ^^^ b < 2 ^ 8 := Nat.xor_lt_two_pow (by omega) (by omega)
  refine ⟨a ^^^ b, by omega, ?_⟩
  show IntKind.u8.wrap ((BitVec.ofInt 8 (a : Int) ^^^ BitVec.ofInt 8 (b : Int)).toNat : Int) = _
  have e : ∀ x : Nat, x < 256 → (BitVec.ofInt 8 (x : Int)).toNat = x := fun x hx => by simp; omega
  rw [BitVec.toNat_xor, e a ha, e b hb]
  exact u8_in _ h1

theorem u64_in (r : Nat) (h : r < 256) : IntKind.u64.wrap (r : Int) = r := by
  have h : ∀ y : Fin 256, IntKind.u64.wrap ((y.val : Nat) : Int) = ((y.val : Nat) : Int) := by decide +kernel
  exact h ⟨r, by assumption⟩

theorem pow8 (r : Nat) (h : r < 8) : 2 ^ r < 256 := by
  have := Nat.pow_lt_pow_right (a := 2) (by omega) h
  omega

theorem shl8 (r : Nat) (h : r < 8) : IntKind.u8.wrap ((2 : Int) ^ r) = ((2 ^ r : Nat) : Int) := by
  have h2 : ∀ k : Fin 8, IntKind.u8.wrap ((2 : Int) ^ k.val) = ((2 ^ k.val : Nat) : Int) := by decide +kernel
  exact h2 ⟨r, h⟩

set_option maxRecDepth 100000 in
set_option maxHeartbeats 8000000 in
theorem specL5Bad (g P : Nat) (s : ByteArray) (w : World) (h : RdAt w g P) (hP : P ≤ 600000) (hs : s.size ≤ 100000) :
    Calls Try.prog 18 #[.pointer (some ⟨g, 0, none⟩), .string s] w (DrawStr g (P + 10) (2 * s.size + 10) w) := by
  have hg := h.lt
  obtain ⟨n1, hn1⟩ : ∃ x : Nat, (s.size : Int) + 1 = x := ⟨s.size + 1, by omega⟩
  go_enter Try.func18, Try.ntmps18
  go_wp2_with fail
  refine (specPick g P n1 _ h (by omega) (by omega) (by omega)).mono ?_
  rintro e w1 ⟨k, rfl, hk, _, hd1⟩
  have hks : k ≤ s.size := by omega
  have hd1' := Lib.hid hd1
  clear hk hd1 h
  go_wp2_with fail
  refine (specPick g (P + 1) 24 _ hd1'.out.rd (by omega) (by omega) (by omega)).mono ?_
  rintro e w2 ⟨c, rfl, hc, _, hd2⟩
  have hd2' := Lib.hid (hd1'.out.trans hd2)
  have hz2 := hd2'.out.size
  clear hc hd2 hd1'
  have k0 : (0 : Int) ≤ k := by omega
  have k1 : (k : Int) ≤ s.size := by omega
  by_cases h0 : c = 0
  · subst h0
    go_wp2_with fail
    go_ret
    exact ⟨_, rfl, by rw [ByteArray.size_extract]; omega, hd2'.out.more (by omega)⟩
  by_cases h1 : c = 1
  · subst h1
    go_wp2_with fail
    obtain ⟨x, hx⟩ : ∃ x, s.extract 0 k = x := ⟨_, rfl⟩
    obtain ⟨y, hy⟩ : ∃ y, s.extract k s.size = y := ⟨_, rfl⟩
    have hxs : x.size ≤ s.size := by rw [← hx, ByteArray.size_extract]; omega
    have hys : y.size ≤ s.size := by rw [← hy, ByteArray.size_extract]; omega
    have D2 : Hid (Dr g (P + 2) w w2.drew) := Lib.hid hd2'.out.drew
    go_region_with (first | (go_at_call 31; refine (specL1Bytes g (P + 2) 2 _ D2.out.rd (by omega) (by omega)).mono ?_; rintro e w3 ⟨u, rfl, hu, hd3⟩; have D3 := Lib.hid (D2.out.trans hd3); have ha1 : ∀ W, (Op.stringOp .add x u).run Try.prog W = .ok (.string (x ++ u)) W := (fun W => run_string_add_sum W _ _ (by omega)); have ha2 : ∀ W, (Op.stringOp .add (x ++ u) y).run Try.prog W = .ok (.string (x ++ u ++ y)) W := (fun W => run_string_add_sum W _ _ (by rw [ByteArray.size_append]; omega)); clear hd3))
    all_goals (go_wp2_with fail)
    all_goals (go_ret)
    all_goals (exact ⟨_, rfl, by rw [ByteArray.size_append, ByteArray.size_append]; omega, D3.out.more (by omega)⟩)
  by_cases h2 : c = 2
  · subst h2
    by_cases hlt : k < s.size
    · have hlt2 : (k : Int) < s.size := by omega
      obtain ⟨x0, hx0⟩ : ∃ x0, s[k].toNat = x0 := ⟨_, rfl⟩
      have hx0b : x0 < 256 := by rw [← hx0]; exact s[k].toNat_lt
      go_wp2_with fail
      obtain ⟨x, hx⟩ : ∃ x, s.extract 0 k = x := ⟨_, rfl⟩
      obtain ⟨k2, hk2⟩ : ∃ k2 : Nat, (k : Int) + 1 = k2 := ⟨k + 1, by omega⟩
      have wk2 : IntKind.i64.wrap (k2 : Int) = k2 := IntWalk.i64_in _ (by omega)
      have k20 : (0 : Int) ≤ k2 := by omega
      have k21 : (k2 : Int) ≤ s.size := by omega
      obtain ⟨y, hy⟩ : ∃ y, s.extract k2 s.size = y := ⟨_, rfl⟩
      have hxs : x.size ≤ s.size := by rw [← hx, ByteArray.size_extract]; omega
      have hys : y.size ≤ s.size := by rw [← hy, ByteArray.size_extract]; omega
      have D2 : Hid (Dr g (P + 2) w w2.drew) := Lib.hid hd2'.out.drew
      have D3' : Hid (Dr g (P + 2) w w2) := Lib.hid hd2'.out
      go_region_with (first | (go_at_call 17; refine (specPick g (P + 2) 8 _ D2.out.rd (by omega) (by omega) (by omega)).mono ?_; rintro e w3 ⟨r, rfl, hr, _, hd3⟩; have D3 := Lib.hid (D2.out.trans hd3); have hz3 := D3.out.size; have hr8 : r < 8 := (by omega); have wu : IntKind.u64.wrap (r : Int) = r := u64_in r (by omega); have hsh := shl8 r hr8; obtain ⟨p, hp, hpb⟩ : ∃ p, 2 ^ r = p ∧ p < 256 := ⟨2 ^ r, rfl, pow8 r hr8⟩; rw [hp] at hsh; obtain ⟨c, hc, hxr⟩ := u8_xor_lt x0 p hx0b hpb; have hcv := (fun W a h => run_one_byte (P := Try.prog) Try.underlying22 Try.underlying5 Try.underlying9 c hc W a h); have ha1 : ∀ W, (Op.stringOp .add x ⟨#[UInt8.ofNat c]⟩).run Try.prog W = .ok (.string (x ++ ⟨#[UInt8.ofNat c]⟩)) W := (fun W => run_string_add_sum W _ _ (by show x.size + 1 ≤ _; omega)); have ha2 : ∀ W, (Op.stringOp .add (x ++ ⟨#[UInt8.ofNat c]⟩) y).run Try.prog W = .ok (.string (x ++ ⟨#[UInt8.ofNat c]⟩ ++ y)) W := (fun W => run_string_add_sum W _ _ (by rw [ByteArray.size_append]; show x.size + 1 + _ ≤ _; omega)); clear hd3 hr hp))
      all_goals (go_wp2_with fail)
      all_goals (go_ret)
      all_goals (exact ⟨_, rfl, by rw [ByteArray.size_append, ByteArray.size_append]; show x.size + 1 + _ ≤ _; omega, (D3.out.alloc _).more (by omega)⟩)
    · have hlt2 : decide (k < s.size) = false := decide_eq_false hlt
      go_wp2_with fail
      go_ret
      exact ⟨_, rfl, by omega, hd2'.out.more (by omega)⟩
  by_cases h3 : c = 3
  · subst h3
    have hadd : ∀ W, (Op.stringOp .add s s).run Try.prog W = .ok (.string (s ++ s)) W := fun W => run_string_add_sum W _ _ (by omega)
    go_wp2_with fail
    go_ret
    exact ⟨_, rfl, by rw [ByteArray.size_append]; omega, hd2'.out.more (by omega)⟩
  · go_wp2_with fail
    go_ret
    exact ⟨_, rfl, by omega, hd2'.out.more (by omega)⟩

/-- A drawn range. -/
def RangeB (g P : Nat) (w : World) (e : Ending) (w' : World) : Prop := ∃ f t : Int, e = .returned (.tuple #[.int .i64 f, .int .i64 t]) ∧ (-9223372036854775808 ≤ f ∧ f ≤ 9223372036854775807) ∧ (-9223372036854775808 ≤ t ∧ t ≤ 9223372036854775807) ∧ Dr g P w w'

theorem in3 {z a b : Int} (h : z ∈ [a, b]) : z = a ∨ z = b := by simpa using h

theorem in4 {z a b c : Int} (h : z ∈ [a, b, c]) : z = a ∨ z = b ∨ z = c := by simpa using h

set_option maxHeartbeats 4000000 in
theorem specL5RangeB (g P n : Nat) (w : World) (h : RdAt w g P) (hP : P ≤ 700000) (hn : n ≤ 5000) :
    Calls Try.prog 25 #[.pointer (some ⟨g, 0, none⟩), .int .i64 (n : Int)] w (RangeB g (P + 4) w) := by
  have hg := h.lt
  have i0 : (0 : Int) ≤ n := by omega
  obtain ⟨n1, hn1⟩ : ∃ x : Nat, (n : Int) + 1 = x := ⟨n + 1, by omega⟩
  go_enter Try.func25, Try.ntmps25
  go_wp2_with fail
  refine (specPick g P n1 _ h (by omega) (by omega) (by omega)).mono ?_
  rintro e w1 ⟨r, rfl, hr, _, hd1⟩
  have hrn : r ≤ n := by omega
  obtain ⟨m, hm⟩ : ∃ x : Nat, (n : Int) - r = x := ⟨n - r, by omega⟩
  obtain ⟨m1, hm1⟩ : ∃ x : Nat, (m : Int) + 1 = x := ⟨m + 1, by omega⟩
  clear hr
  go_wp2_with fail
  refine (specPick g (P + 1) m1 _ hd1.rd (by omega) (by omega) (by omega)).mono ?_
  rintro e w2 ⟨r2, rfl, hr2, _, hd2⟩
  obtain ⟨k, hk⟩ : ∃ x : Nat, (r : Int) + r2 = x := ⟨r + r2, by omega⟩
  have hkb : k ≤ 6000 := by omega
  have hd2' := hd1.trans hd2
  have hz2 := hd2'.size
  clear hr2 hd1 hd2
  go_wp2_with fail
  refine (specPick g (P + 2) 20 _ hd2'.rd (by omega) (by omega) (by omega)).mono ?_
  rintro e w3 ⟨c, rfl, hc, _, hd3⟩
  have hd3' := hd2'.trans hd3
  have hz3 := hd3'.size
  clear hc hd2' hd3
  by_cases c0 : c = 0
  · subst c0
    go_wp2_with fail
    refine (specNum g (P + 3) w3.heap.size [-1, 9223372036854775807] 2 2 _ (hd3'.rd.alloc _) (by omega) rfl (by omega) (by omega) (fun j z hz => new_cell _ _ rfl _ ([-1, 9223372036854775807].map (Value.int .i64)) j _ (by rw [List.getElem?_map, hz]; rfl)) (by omega) (by simp)).mono ?_
    rintro e w4 ⟨z, hz, rfl, hd4⟩
    have hz' := Lib.hid (in3 hz)
    clear hz
    go_wp2_with fail
    go_returns
    exact ⟨_, _, rfl, by rcases hz'.out with rfl | rfl <;> omega, by omega, ((hd3'.alloc _).trans hd4).more (by omega)⟩
  · by_cases c1 : c = 1
    · subst c1
      go_wp2_with fail
      refine (specNum g (P + 3) w3.heap.size [-1, (n1 : Int), 9223372036854775807] 3 3 _ (hd3'.rd.alloc _) (by omega) rfl (by omega) (by omega) (fun j z hz => new_cell _ _ rfl _ ([-1, (n1 : Int), 9223372036854775807].map (Value.int .i64)) j _ (by rw [List.getElem?_map, hz]; rfl)) (by omega) (by simp)).mono ?_
      rintro e w4 ⟨z, hz, rfl, hd4⟩
      have hz' := Lib.hid (in4 hz)
      clear hz
      go_wp2_with fail
      go_returns
      exact ⟨_, _, rfl, by omega, by rcases hz'.out with rfl | rfl | rfl <;> omega, ((hd3'.alloc _).trans hd4).more (by omega)⟩
    · by_cases c2 : c = 2
      · subst c2
        go_wp2_with fail
        go_returns
        exact ⟨_, _, rfl, by omega, by omega, hd3'.more (by omega)⟩
      · go_wp2_with fail
        go_returns
        exact ⟨_, _, rfl, by omega, by omega, hd3'.more (by omega)⟩

end Go.Proofs.Ythfckbfllodcjaa
