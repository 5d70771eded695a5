/-
  The contracts of the functions that write numbers as two bytes and read them: impl.twoBytes, impl.numberAt, spec.l4Two, spec.l5Pair.
-/
import Derived.Test.YthfckbfllodcjaaMem
import Derived.Laws.BitsLemmas
namespace Go.Proofs.Ythfckbfllodcjaa
open Go.RowKit
set_option linter.unusedVariables false

/-- A number, modulo 65536, in two bytes, the one of higher value first. -/
def two (n : Nat) : ByteArray := ⟨#[UInt8.ofNat (n / 256), UInt8.ofNat n]⟩

/-- 'string([]byte{x, y})', of the two bytes of a number. -/
theorem run_two {P : Program} {src dst e : TypeId} (hs : P.underlying src = some (.slice e)) (he : P.underlying e = some (.int .u8)) (hd : P.underlying dst = some .string) (n : Nat) (w : World) :
    (convert src dst (.slice (some ⟨w.heap.size, 0, none⟩) 2 2)).run P (w.alloc (.cells #[.int .u8 ((n : Int) / 256 % 256), .int .u8 ((n : Int) % 256)] e)) =
      .ok (.string (two n)) (w.alloc (.cells #[.int .u8 ((n : Int) / 256 % 256), .int .u8 ((n : Int) % 256)] e)) := by
  refine run_convert_bytes_back (P := P) _ src dst e ⟨w.heap.size, 0, none⟩ 2 [UInt8.ofNat (n / 256), UInt8.ofNat n] hs he hd (fun j hj => ?_)
  rw [addr_add, Nat.zero_add, World.cell?_alloc_mark]
  match j, hj with
  | 0, _ => simp
  | 1, _ => simp

set_option maxRecDepth 20000 in
theorem implTwoBytes (n : Nat) (w : World) (hn : n ≤ 1048576) :
    Calls Try.prog 48 #[.int .i64 n] w fun e w' => e = .returned (.string (two n)) ∧ Below w.heap.size w w' := by
  have hcv := run_two (P := Try.prog) Try.underlying22 Try.underlying5 Try.underlying9 n w
  go_enter Try.func48, Try.ntmps48
  go_wp2
  go_ret
  exact ⟨rfl, (Below.refl _ _).alloc (Nat.le_refl _) _⟩

set_option maxRecDepth 20000 in
theorem specL4Two (n : Nat) (w : World) (hn : n ≤ 1048576) :
    Calls Try.prog 56 #[.int .i64 n] w fun e w' => e = .returned (.string (two n)) ∧ Below w.heap.size w w' := by
  have hcv := run_two (P := Try.prog) Try.underlying22 Try.underlying5 Try.underlying9 n w
  go_enter Try.func56, Try.ntmps56
  go_wp2
  go_ret
  exact ⟨rfl, (Below.refl _ _).alloc (Nat.le_refl _) _⟩

theorem ofInt_i64 (a : Nat) (ha : a < 9223372036854775808) : (BitVec.ofInt 64 (a : Int)).toNat = a := by
  rw [BitVec.ofInt_natCast, BitVec.toNat_ofNat]; exact Nat.mod_eq_of_lt (by omega)

theorem i64_and_nat (a b : Nat) (ha : a < 9223372036854775808) (hb : b < 9223372036854775808) : bits .and .i64 (a : Int) (b : Int) = ((a &&& b : Nat) : Int) := by
  have hx : a &&& b < 2 ^ 63 := Nat.and_lt_two_pow _ (by omega)
  show IntKind.i64.wrap ((BitVec.ofInt 64 (a : Int) &&& BitVec.ofInt 64 (b : Int)).toNat : Int) = _
  rw [BitVec.toNat_and, ofInt_i64 a ha, ofInt_i64 b hb, IntKind.wrap_i64]
  omega

theorem i64_or_nat (a b : Nat) (ha : a < 9223372036854775808) (hb : b < 9223372036854775808) : bits .or .i64 (a : Int) (b : Int) = ((a ||| b : Nat) : Int) := by
  have hx : a ||| b < 2 ^ 63 := Nat.or_lt_two_pow (by omega) (by omega)
  show IntKind.i64.wrap ((BitVec.ofInt 64 (a : Int) ||| BitVec.ofInt 64 (b : Int)).toNat : Int) = _
  rw [BitVec.toNat_or, ofInt_i64 a ha, ofInt_i64 b hb, IntKind.wrap_i64]
  omega

theorem shift_or (x y : Nat) (hy : y < 256) : (x * 256 ||| y) = 256 * x + y := by
  have h := Nat.two_pow_add_eq_or_of_lt (i := 8) (b := y) (by omega) x
  rw [Nat.mul_comm x 256]
  exact h.symm

theorem or_i64 (x y : Nat) (hx : x < 256) (hy : y < 256) : bits .or .i64 ((x : Int) * 256) (y : Int) = 256 * (x : Int) + y := by
  have h : ((x : Int) * 256) = ((x * 256 : Nat) : Int) := by omega
  rw [h, i64_or_nat _ _ (by omega) (by omega), shift_or x y hy]
  omega

theorem specL5Pair (s : ByteArray) (w : World) (hs : s.size ≤ 1048576) (hi : 1 < s.size) :
    Calls Try.prog 50 #[.string s] w fun e w' => e = .returned (.int .i64 (256 * ((bAt s 0).toNat : Int) + ((bAt s 1).toNat : Int))) ∧ Drawn w w' := by
  have hi0 : 0 < s.size := by omega
  rw [bAt_lt hi0, bAt_lt hi]
  obtain ⟨x, hx⟩ : ∃ x, s[0].toNat = x := ⟨_, rfl⟩
  obtain ⟨y, hy⟩ : ∃ y, s[1].toNat = y := ⟨_, rfl⟩
  have hx1 : x < 256 := by rw [← hx]; exact UInt8.toNat_lt _
  have hy1 : y < 256 := by rw [← hy]; exact UInt8.toNat_lt _
  have ex : IntKind.i64.wrap (x : Int) = x := IntWalk.i64_in _ (by omega)
  have ey : IntKind.i64.wrap (y : Int) = y := IntWalk.i64_in _ (by omega)
  have ez : IntKind.i64.wrap (256 * (x : Int)) = 256 * (x : Int) := IntWalk.i64_in _ (by omega)
  have es : IntKind.i64.wrap (256 * (x : Int) + (y : Int)) = 256 * (x : Int) + (y : Int) := IntWalk.i64_in _ (by omega)
  go_enter Try.func50, Try.ntmps50
  go_wp2
  go_quiet (fail)
  clear ex ey ez es
  go_wp2
  go_ret
  exact ⟨by rw [hx, hy]; rfl, Drawn.of _ _⟩

theorem implNumberAt (s : ByteArray) (i : Nat) (a : Int) (w : World) (ha : a = i) (hs : s.size ≤ 1048576) (hi : i + 1 < s.size) :
    Calls Try.prog 38 #[.string s, .int .i64 a] w fun e w' => e = .returned (.int .i64 (256 * ((bAt s i).toNat : Int) + ((bAt s (i + 1)).toNat : Int))) ∧ Drawn w w' := by
  subst ha
  have hi0 : i < s.size := by omega
  obtain ⟨j, hj⟩ : ∃ j, i + 1 = j := ⟨_, rfl⟩
  rw [hj]
  have hj0 : j < s.size := by omega
  rw [bAt_lt hi0, bAt_lt hj0]
  obtain ⟨x, hx⟩ : ∃ x, s[i].toNat = x := ⟨_, rfl⟩
  obtain ⟨y, hy⟩ : ∃ y, s[j].toNat = y := ⟨_, rfl⟩
  have hx1 : x < 256 := by rw [← hx]; exact UInt8.toNat_lt _
  have hy1 : y < 256 := by rw [← hy]; exact UInt8.toNat_lt _
  have hor := or_i64 x y hx1 hy1
  have e1 : IntKind.i64.wrap (↑i + 1) = (j : Int) := by rw [IntWalk.i64_in _ (by omega)]; omega
  have ex : IntKind.i64.wrap (x : Int) = x := IntWalk.i64_in _ (by omega)
  have ey : IntKind.i64.wrap (y : Int) = y := IntWalk.i64_in _ (by omega)
  have ez : IntKind.i64.wrap ((x : Int) * 256) = (x : Int) * 256 := IntWalk.i64_in _ (by omega)
  clear hj
  go_enter Try.func38, Try.ntmps38
  go_wp2
  go_quiet (fail)
  clear e1 ex ey ez
  go_wp2
  go_ret
  exact ⟨by rw [hx, hy]; rfl, Drawn.of _ _⟩

theorem implNumberAtD (s : ByteArray) (i : Nat) (a : Int) (w : World) (ha : a = i) (hs : s.size ≤ 1048576) (hi : i + 1 < s.size) :
    Calls Try.prog 38 #[.string s, .int .i64 a] w fun e w' => e = .returned (.int .i64 (256 * ((bAt s i).toNat : Int) + ((bAt s (i + 1)).toNat : Int))) ∧ w.drew = w' := by
  subst ha
  have hi0 : i < s.size := by omega
  obtain ⟨j, hj⟩ : ∃ j, i + 1 = j := ⟨_, rfl⟩
  rw [hj]
  have hj0 : j < s.size := by omega
  rw [bAt_lt hi0, bAt_lt hj0]
  obtain ⟨x, hx⟩ : ∃ x, s[i].toNat = x := ⟨_, rfl⟩
  obtain ⟨y, hy⟩ : ∃ y, s[j].toNat = y := ⟨_, rfl⟩
  have hx1 : x < 256 := by rw [← hx]; exact UInt8.toNat_lt _
  have hy1 : y < 256 := by rw [← hy]; exact UInt8.toNat_lt _
  have hor := or_i64 x y hx1 hy1
  have e1 : IntKind.i64.wrap (↑i + 1) = (j : Int) := by rw [IntWalk.i64_in _ (by omega)]; omega
  have ex : IntKind.i64.wrap (x : Int) = x := IntWalk.i64_in _ (by omega)
  have ey : IntKind.i64.wrap (y : Int) = y := IntWalk.i64_in _ (by omega)
  have ez : IntKind.i64.wrap ((x : Int) * 256) = (x : Int) * 256 := IntWalk.i64_in _ (by omega)
  clear hj
  go_enter Try.func38, Try.ntmps38
  go_wp2
  go_region
  clear e1 ex ey ez
  go_wp2
  go_ret
  exact ⟨by rw [hx, hy]; rfl, rfl⟩

theorem specL5PairD (s : ByteArray) (w : World) (hs : s.size ≤ 1048576) (hi : 1 < s.size) :
    Calls Try.prog 50 #[.string s] w fun e w' => e = .returned (.int .i64 (256 * ((bAt s 0).toNat : Int) + ((bAt s 1).toNat : Int))) ∧ w.drew = w' := by
  have hi0 : 0 < s.size := by omega
  rw [bAt_lt hi0, bAt_lt hi]
  obtain ⟨x, hx⟩ : ∃ x, s[0].toNat = x := ⟨_, rfl⟩
  obtain ⟨y, hy⟩ : ∃ y, s[1].toNat = y := ⟨_, rfl⟩
  have hx1 : x < 256 := by rw [← hx]; exact UInt8.toNat_lt _
  have hy1 : y < 256 := by rw [← hy]; exact UInt8.toNat_lt _
  have ex : IntKind.i64.wrap (x : Int) = x := IntWalk.i64_in _ (by omega)
  have ey : IntKind.i64.wrap (y : Int) = y := IntWalk.i64_in _ (by omega)
  have ez : IntKind.i64.wrap (256 * (x : Int)) = 256 * (x : Int) := IntWalk.i64_in _ (by omega)
  have es : IntKind.i64.wrap (256 * (x : Int) + (y : Int)) = 256 * (x : Int) + (y : Int) := IntWalk.i64_in _ (by omega)
  go_enter Try.func50, Try.ntmps50
  go_wp2
  go_region
  clear ex ey ez es
  go_wp2
  go_ret
  exact ⟨by rw [hx, hy]; rfl, rfl⟩

end Go.Proofs.Ythfckbfllodcjaa
