/-
  The contracts of ChangeByte, DropBytes, RepeatBytes and of the small tests that they call.
-/
import Derived.Test.YtbdoidcknlbenaaBase
import Derived.BigRegion
namespace Go.Proofs.Ytbdoidcknlbenaa
open Go.RowKit
set_option linter.unusedVariables false

theorem btrue {p : Prop} (h : p) : (true = true ↔ p) := ⟨fun _ => h, fun _ => rfl⟩
theorem bfalse {p : Prop} (h : ¬ p) : (false = true ↔ p) := ⟨(fun e => by cases e), fun e => absurd e h⟩

theorem specL7Most (s : ByteArray) (b : Bool) (w : World) (hs : s.size ≤ 1048576) (hb : b = true ↔ s.size ≤ 8000) :
    Calls Try.prog 23 #[.string s] w fun e w' => e = .returned (.bool b) ∧ w = w' := by
  go_enter Try.func23, Try.ntmps23
  go_wp2
  go_ret
  refine ⟨ret_bool ?_, rfl⟩
  rw [Bool.eq_iff_iff, hb]; simp; omega
theorem specL1In (n low high : Int) (b : Bool) (w : World) (hb : b = true ↔ low ≤ n ∧ n ≤ high) :
    Calls Try.prog 24 #[.int .i64 n, .int .i64 low, .int .i64 high] w fun e w' => e = .returned (.bool b) ∧ w = w' := by
  go_enter Try.func24, Try.ntmps24
  go_wp2
  all_goals go_ret
  all_goals refine ⟨ret_bool ?_, rfl⟩
  all_goals rw [Bool.eq_iff_iff, hb]; simp; try omega
theorem implRangeValid (s : ByteArray) (at_ n : Int) (b : Bool) (w : World) (hs : s.size ≤ 1048576) (ha : -9223372036854775808 ≤ at_ ∧ at_ ≤ 9223372036854775807)
    (hb : b = true ↔ s.size ≤ 8000 ∧ 0 ≤ at_ ∧ 0 ≤ n ∧ at_ + n ≤ s.size) :
    Calls Try.prog 25 #[.string s, .int .i64 at_, .int .i64 n] w fun e w' => e = .returned (.bool b) ∧ w = w' := by
  have HB := Lib.hid hb
  clear hb
  go_enter Try.func25, Try.ntmps25
  go_wp2
  all_goals go_ret
  all_goals refine ⟨ret_bool ?_, rfl⟩
  all_goals rw [Bool.eq_iff_iff, HB.out]; simp; try omega

/-- 'string([]byte{x})': a slice of one byte as a string. -/
theorem run_one_byte {P : Program} {src dst e : TypeId} (hs : P.underlying src = some (.slice e)) (he : P.underlying e = some (.int .u8)) (hd : P.underlying dst = some .string) (x : Nat) (hx : x < 256)
    (W : World) (a : Addr) (hc : W.cell? a = some (.int .u8 (x : Int))) : (convert src dst (.slice (some a) 1 1)).run P W = .ok (.string ⟨#[UInt8.ofNat x]⟩) W := by
  have := run_convert_bytes_back (P := P) W src dst e a 1 [UInt8.ofNat x] hs he hd (fun j hj => by
    have : j = 0 := by simpa using hj
    subst this
    simp [Addr.add, hc, Nat.mod_eq_of_lt hx])
  simpa using this

theorem ret_sb {a : ByteArray} {b : Bool} {o : ByteArray × Bool} (h : o = (a, b)) : Ending.returned (.tuple #[.string a, .bool b]) = .returned (.tuple #[.string o.1, .bool o.2]) := by rw [h]

/-- What ChangeByte returns. -/
def chg (s : ByteArray) (at_ v : Int) : ByteArray × Bool :=
  if s.size ≤ 8000 ∧ 0 ≤ at_ ∧ at_ < s.size ∧ 0 ≤ v ∧ v ≤ 255 then (s.extract 0 at_.toNat ++ ⟨#[UInt8.ofNat v.toNat]⟩ ++ s.extract (at_.toNat + 1) s.size, true) else (ByteArray.empty, false)

theorem chg_yes (s : ByteArray) (k x : Nat) (h : s.size ≤ 8000) (hk : k < s.size) (hx : x ≤ 255) : chg s k x = (s.extract 0 k ++ ⟨#[UInt8.ofNat x]⟩ ++ s.extract (k + 1) s.size, true) := by
  unfold chg; rw [if_pos (by omega)]; simp
theorem chg_no (s : ByteArray) (at_ v : Int) (h : ¬ (s.size ≤ 8000 ∧ 0 ≤ at_ ∧ at_ < s.size ∧ 0 ≤ v ∧ v ≤ 255)) : chg s at_ v = (ByteArray.empty, false) := by
  unfold chg; rw [if_neg h]

set_option maxHeartbeats 400000 in
theorem specChangeByte (s : ByteArray) (at_ v : Int) (w : World) (hs : s.size ≤ 1048576) (hlo : -9223372036854775808 ≤ at_) (hhi : at_ ≤ 9223372036854775807) :
    Calls Try.prog 13 #[.string s, .int .i64 at_, .int .i64 v] w fun e w' => e = .returned (.tuple #[.string (chg s at_ v).1, .bool (chg s at_ v).2]) ∧ Below w.heap.size w w' := by
  by_cases h1 : s.size ≤ 8000
  · by_cases h2 : 0 ≤ at_ ∧ at_ < s.size
    · by_cases h3 : 0 ≤ v ∧ v ≤ 255
      · obtain ⟨k, rfl⟩ := Int.eq_ofNat_of_zero_le h2.1
        obtain ⟨x, rfl⟩ := Int.eq_ofNat_of_zero_le h3.1
        have HC := Lib.hid (chg_yes s k x h1 (by omega) (by omega))
        go_enter Try.func13, Try.ntmps13
        go_wp2_with fail
        refine (specL7Most s true _ (by omega) (btrue (by omega))).mono ?_
        rintro e w' ⟨rfl, rfl⟩
        go_wp2_with fail
        refine (specL1In _ _ _ true _ (btrue (by omega))).mono ?_
        rintro e w' ⟨rfl, rfl⟩
        go_wp2_with fail
        refine (specL1In _ _ _ true _ (btrue (by omega))).mono ?_
        rintro e w' ⟨rfl, rfl⟩
        go_wp2_with fail
        have hx : x < 256 := by omega
        have hk : k ≤ s.size := by omega
        have hcv := run_one_byte (P := Try.prog) Try.underlying36 Try.underlying5 Try.underlying9 x hx
        go_region
        go_wp2
        go_ret2
        exact ⟨ret_sb HC.out, by repeat (first | exact Below.refl _ _ | apply Below.drew | refine Below.alloc ?_ (by simp) _)⟩
      · have HC := Lib.hid (chg_no s at_ v (by omega))
        go_enter Try.func13, Try.ntmps13
        go_wp2_with fail
        refine (specL7Most s true _ (by omega) (btrue (by omega))).mono ?_
        rintro e w' ⟨rfl, rfl⟩
        go_wp2_with fail
        refine (specL1In _ _ _ true _ (btrue (by omega))).mono ?_
        rintro e w' ⟨rfl, rfl⟩
        go_wp2_with fail
        refine (specL1In _ _ _ false _ (bfalse (by omega))).mono ?_
        rintro e w' ⟨rfl, rfl⟩
        go_wp2_with fail
        go_ret2
        exact ⟨ret_sb HC.out, Below.refl _ _⟩
    · have HC := Lib.hid (chg_no s at_ v (by omega))
      go_enter Try.func13, Try.ntmps13
      go_wp2_with fail
      refine (specL7Most s true _ (by omega) (btrue (by omega))).mono ?_
      rintro e w' ⟨rfl, rfl⟩
      go_wp2_with fail
      refine (specL1In _ _ _ false _ (bfalse (by omega))).mono ?_
      rintro e w' ⟨rfl, rfl⟩
      go_wp2_with fail
      go_ret2
      exact ⟨ret_sb HC.out, Below.refl _ _⟩
  · have HC := Lib.hid (chg_no s at_ v (by omega))
    go_enter Try.func13, Try.ntmps13
    go_wp2_with fail
    refine (specL7Most s false _ (by omega) (bfalse (by omega))).mono ?_
    rintro e w' ⟨rfl, rfl⟩
    go_wp2_with fail
    go_ret2
    exact ⟨ret_sb HC.out, Below.refl _ _⟩

set_option maxHeartbeats 400000 in
theorem implChangeByte (s : ByteArray) (at_ v : Int) (w : World) (hs : s.size ≤ 1048576) (hlo : -9223372036854775808 ≤ at_) (hhi : at_ ≤ 9223372036854775807) :
    Calls Try.prog 14 #[.string s, .int .i64 at_, .int .i64 v] w fun e w' => e = .returned (.tuple #[.string (chg s at_ v).1, .bool (chg s at_ v).2]) ∧ Below w.heap.size w w' := by
  by_cases h1 : s.size ≤ 8000 ∧ 0 ≤ at_ ∧ at_ < s.size
  · by_cases h3 : 0 ≤ v ∧ v ≤ 255
    · obtain ⟨k, rfl⟩ := Int.eq_ofNat_of_zero_le h1.2.1
      obtain ⟨x, rfl⟩ := Int.eq_ofNat_of_zero_le h3.1
      have HC := Lib.hid (chg_yes s k x h1.1 (by omega) (by omega))
      go_enter Try.func14, Try.ntmps14
      go_wp2_with fail
      refine (implRangeValid s _ _ true _ hs ⟨hlo, hhi⟩ (btrue (by omega))).mono ?_
      rintro e w' ⟨rfl, rfl⟩
      go_wp2_with fail
      have hx : x < 256 := by omega
      have hk : k ≤ s.size := by omega
      have hcv := run_one_byte (P := Try.prog) Try.underlying36 Try.underlying5 Try.underlying9 x hx
      go_region
      go_wp2
      go_ret2
      exact ⟨ret_sb HC.out, by repeat (first | exact Below.refl _ _ | apply Below.drew | refine Below.alloc ?_ (by simp) _)⟩
    · have HC := Lib.hid (chg_no s at_ v (by omega))
      go_enter Try.func14, Try.ntmps14
      go_wp2_with fail
      refine (implRangeValid s _ _ true _ hs ⟨hlo, hhi⟩ (btrue (by omega))).mono ?_
      rintro e w' ⟨rfl, rfl⟩
      go_wp2_with fail
      all_goals go_ret2
      all_goals exact ⟨ret_sb HC.out, Below.refl _ _⟩
  · have HC := Lib.hid (chg_no s at_ v (by omega))
    go_enter Try.func14, Try.ntmps14
    go_wp2_with fail
    refine (implRangeValid s _ _ false _ hs ⟨hlo, hhi⟩ (bfalse (by omega))).mono ?_
    rintro e w' ⟨rfl, rfl⟩
    go_wp2_with fail
    go_ret2
    exact ⟨ret_sb HC.out, Below.refl _ _⟩

/-- What DropBytes returns. -/
def drp (s : ByteArray) (at_ n : Int) : ByteArray × Bool :=
  if s.size ≤ 8000 ∧ 0 ≤ at_ ∧ 0 ≤ n ∧ at_ + n ≤ s.size then (s.extract 0 at_.toNat ++ s.extract (at_.toNat + n.toNat) s.size, true) else (ByteArray.empty, false)
theorem drp_yes (s : ByteArray) (k n : Nat) (h : s.size ≤ 8000) (hk : k + n ≤ s.size) : drp s k n = (s.extract 0 k ++ s.extract (k + n) s.size, true) := by
  unfold drp; rw [if_pos (by omega)]; simp
theorem drp_no (s : ByteArray) (at_ n : Int) (h : ¬ (s.size ≤ 8000 ∧ 0 ≤ at_ ∧ 0 ≤ n ∧ at_ + n ≤ s.size)) : drp s at_ n = (ByteArray.empty, false) := by
  unfold drp; rw [if_neg h]

/-- What RepeatBytes returns. -/
def rpt (s : ByteArray) (at_ n : Int) : ByteArray × Bool :=
  if s.size ≤ 8000 ∧ 0 ≤ at_ ∧ 0 ≤ n ∧ at_ + n ≤ s.size ∧ s.size + n ≤ 8000 then (s.extract 0 (at_.toNat + n.toNat) ++ s.extract at_.toNat s.size, true) else (ByteArray.empty, false)
theorem rpt_yes (s : ByteArray) (k n : Nat) (h : s.size ≤ 8000) (hk : k + n ≤ s.size) (hn : s.size + n ≤ 8000) : rpt s k n = (s.extract 0 (k + n) ++ s.extract k s.size, true) := by
  unfold rpt; rw [if_pos (by omega)]; simp
theorem rpt_no (s : ByteArray) (at_ n : Int) (h : ¬ (s.size ≤ 8000 ∧ 0 ≤ at_ ∧ 0 ≤ n ∧ at_ + n ≤ s.size ∧ s.size + n ≤ 8000)) : rpt s at_ n = (ByteArray.empty, false) := by
  unfold rpt; rw [if_neg h]

set_option maxHeartbeats 400000 in
theorem specL7Span (s : ByteArray) (at_ n : Int) (b : Bool) (w : World) (hs : s.size ≤ 1048576) (hlo : -9223372036854775808 ≤ at_) (hhi : at_ ≤ 9223372036854775807)
    (hb : b = true ↔ s.size ≤ 8000 ∧ 0 ≤ at_ ∧ 0 ≤ n ∧ at_ + n ≤ s.size) :
    Calls Try.prog 26 #[.string s, .int .i64 at_, .int .i64 n] w fun e w' => e = .returned (.bool b) ∧ w = w' := by
  have HB := Lib.hid hb
  clear hb
  by_cases h1 : s.size ≤ 8000
  · by_cases h2 : 0 ≤ at_ ∧ at_ ≤ s.size
    · obtain ⟨r, hr⟩ : ∃ r : Bool, r = true ↔ 0 ≤ n ∧ n ≤ s.size - at_ := ⟨decide (0 ≤ n ∧ n ≤ s.size - at_), by simp⟩
      have HR := Lib.hid hr
      clear hr
      go_enter Try.func26, Try.ntmps26
      go_wp2_with fail
      refine (specL7Most s true _ (by omega) (btrue (by omega))).mono ?_
      rintro e w' ⟨rfl, rfl⟩
      go_wp2_with fail
      refine (specL1In _ _ _ true _ (btrue (by omega))).mono ?_
      rintro e w' ⟨rfl, rfl⟩
      go_wp2_with fail
      refine (specL1In _ _ _ r _ HR.out).mono ?_
      rintro e w' ⟨rfl, rfl⟩
      go_wp2_with fail
      go_ret
      refine ⟨ret_bool ?_, rfl⟩
      rw [Bool.eq_iff_iff, HB.out]; simp [HR.out]; omega
    · go_enter Try.func26, Try.ntmps26
      go_wp2_with fail
      refine (specL7Most s true _ (by omega) (btrue (by omega))).mono ?_
      rintro e w' ⟨rfl, rfl⟩
      go_wp2_with fail
      refine (specL1In _ _ _ false _ (bfalse (by omega))).mono ?_
      rintro e w' ⟨rfl, rfl⟩
      go_wp2_with fail
      go_ret
      refine ⟨ret_bool ?_, rfl⟩
      rw [Bool.eq_iff_iff, HB.out]; simp; omega
  · go_enter Try.func26, Try.ntmps26
    go_wp2_with fail
    refine (specL7Most s false _ (by omega) (bfalse (by omega))).mono ?_
    rintro e w' ⟨rfl, rfl⟩
    go_wp2_with fail
    go_ret
    refine ⟨ret_bool ?_, rfl⟩
    rw [Bool.eq_iff_iff, HB.out]; simp; omega

set_option maxHeartbeats 400000 in
theorem specDropBytes (s : ByteArray) (at_ n : Int) (w : World) (hs : s.size ≤ 1048576) (hlo : -9223372036854775808 ≤ at_) (hhi : at_ ≤ 9223372036854775807) :
    Calls Try.prog 15 #[.string s, .int .i64 at_, .int .i64 n] w fun e w' => e = .returned (.tuple #[.string (drp s at_ n).1, .bool (drp s at_ n).2]) ∧ Below w.heap.size w w' := by
  by_cases h1 : s.size ≤ 8000 ∧ 0 ≤ at_ ∧ 0 ≤ n ∧ at_ + n ≤ s.size
  · obtain ⟨k, rfl⟩ := Int.eq_ofNat_of_zero_le h1.2.1
    obtain ⟨m, rfl⟩ := Int.eq_ofNat_of_zero_le h1.2.2.1
    have HC := Lib.hid (drp_yes s k m h1.1 (by omega))
    have hk : k ≤ s.size := by omega
    have hkm : k + m ≤ s.size := by omega
    go_enter Try.func15, Try.ntmps15
    go_wp2_with fail
    refine (specL7Span s _ _ true _ hs hlo hhi (btrue (by omega))).mono ?_
    rintro e w' ⟨rfl, rfl⟩
    go_wp2_with fail
    have e1 : IntKind.i64.wrap (↑k + ↑m) = ((k + m : Nat) : Int) := by rw [IntWalk.i64_in _ (by omega)]; omega
    go_quiet (fail)
    clear e1
    go_wp2
    go_ret2
    exact ⟨ret_sb HC.out, below_drewN (Below.refl _ _) _⟩
  · have HC := Lib.hid (drp_no s at_ n (by omega))
    go_enter Try.func15, Try.ntmps15
    go_wp2_with fail
    refine (specL7Span s _ _ false _ hs hlo hhi (bfalse (by omega))).mono ?_
    rintro e w' ⟨rfl, rfl⟩
    go_wp2_with fail
    go_ret2
    exact ⟨ret_sb HC.out, Below.refl _ _⟩

set_option maxHeartbeats 400000 in
theorem implDropBytes (s : ByteArray) (at_ n : Int) (w : World) (hs : s.size ≤ 1048576) (hlo : -9223372036854775808 ≤ at_) (hhi : at_ ≤ 9223372036854775807) :
    Calls Try.prog 16 #[.string s, .int .i64 at_, .int .i64 n] w fun e w' => e = .returned (.tuple #[.string (drp s at_ n).1, .bool (drp s at_ n).2]) ∧ Below w.heap.size w w' := by
  by_cases h1 : s.size ≤ 8000 ∧ 0 ≤ at_ ∧ 0 ≤ n ∧ at_ + n ≤ s.size
  · obtain ⟨k, rfl⟩ := Int.eq_ofNat_of_zero_le h1.2.1
    obtain ⟨m, rfl⟩ := Int.eq_ofNat_of_zero_le h1.2.2.1
    have HC := Lib.hid (drp_yes s k m h1.1 (by omega))
    have hk : k ≤ s.size := by omega
    have hkm : k + m ≤ s.size := by omega
    go_enter Try.func16, Try.ntmps16
    go_wp2_with fail
    refine (implRangeValid s _ _ true _ hs ⟨hlo, hhi⟩ (btrue (by omega))).mono ?_
    rintro e w' ⟨rfl, rfl⟩
    go_wp2_with fail
    have e1 : IntKind.i64.wrap (↑k + ↑m) = ((k + m : Nat) : Int) := by rw [IntWalk.i64_in _ (by omega)]; omega
    go_quiet (fail)
    clear e1
    go_wp2
    go_ret2
    exact ⟨ret_sb HC.out, below_drewN (Below.refl _ _) _⟩
  · have HC := Lib.hid (drp_no s at_ n (by omega))
    go_enter Try.func16, Try.ntmps16
    go_wp2_with fail
    refine (implRangeValid s _ _ false _ hs ⟨hlo, hhi⟩ (bfalse (by omega))).mono ?_
    rintro e w' ⟨rfl, rfl⟩
    go_wp2_with fail
    go_ret2
    exact ⟨ret_sb HC.out, Below.refl _ _⟩

set_option maxHeartbeats 400000 in
theorem specRepeatBytes (s : ByteArray) (at_ n : Int) (w : World) (hs : s.size ≤ 1048576) (hlo : -9223372036854775808 ≤ at_) (hhi : at_ ≤ 9223372036854775807) :
    Calls Try.prog 17 #[.string s, .int .i64 at_, .int .i64 n] w fun e w' => e = .returned (.tuple #[.string (rpt s at_ n).1, .bool (rpt s at_ n).2]) ∧ Below w.heap.size w w' := by
  by_cases h1 : s.size ≤ 8000 ∧ 0 ≤ at_ ∧ 0 ≤ n ∧ at_ + n ≤ s.size
  · by_cases h2 : s.size + n ≤ 8000
    · obtain ⟨k, rfl⟩ := Int.eq_ofNat_of_zero_le h1.2.1
      obtain ⟨m, rfl⟩ := Int.eq_ofNat_of_zero_le h1.2.2.1
      have HC := Lib.hid (rpt_yes s k m h1.1 (by omega) (by omega))
      have hk : k ≤ s.size := by omega
      have hkm : k + m ≤ s.size := by omega
      go_enter Try.func17, Try.ntmps17
      go_wp2_with fail
      refine (specL7Span s _ _ true _ hs hlo hhi (btrue (by omega))).mono ?_
      rintro e w' ⟨rfl, rfl⟩
      go_wp2_with fail
      have e1 : IntKind.i64.wrap (↑k + ↑m) = ((k + m : Nat) : Int) := by rw [IntWalk.i64_in _ (by omega)]; omega
      go_quiet (fail)
      clear e1
      go_wp2
      go_ret2
      exact ⟨ret_sb HC.out, below_drewN (Below.refl _ _) _⟩
    · have HC := Lib.hid (rpt_no s at_ n (by omega))
      go_enter Try.func17, Try.ntmps17
      go_wp2_with fail
      refine (specL7Span s _ _ true _ hs hlo hhi (btrue (by omega))).mono ?_
      rintro e w' ⟨rfl, rfl⟩
      go_wp2_with fail
      go_ret2
      exact ⟨ret_sb HC.out, Below.refl _ _⟩
  · have HC := Lib.hid (rpt_no s at_ n (by omega))
    go_enter Try.func17, Try.ntmps17
    go_wp2_with fail
    refine (specL7Span s _ _ false _ hs hlo hhi (bfalse (by omega))).mono ?_
    rintro e w' ⟨rfl, rfl⟩
    go_wp2_with fail
    go_ret2
    exact ⟨ret_sb HC.out, Below.refl _ _⟩

set_option maxHeartbeats 400000 in
theorem implRepeatBytes (s : ByteArray) (at_ n : Int) (w : World) (hs : s.size ≤ 1048576) (hlo : -9223372036854775808 ≤ at_) (hhi : at_ ≤ 9223372036854775807) :
    Calls Try.prog 18 #[.string s, .int .i64 at_, .int .i64 n] w fun e w' => e = .returned (.tuple #[.string (rpt s at_ n).1, .bool (rpt s at_ n).2]) ∧ Below w.heap.size w w' := by
  by_cases h1 : s.size ≤ 8000 ∧ 0 ≤ at_ ∧ 0 ≤ n ∧ at_ + n ≤ s.size
  · by_cases h2 : s.size + n ≤ 8000
    · obtain ⟨k, rfl⟩ := Int.eq_ofNat_of_zero_le h1.2.1
      obtain ⟨m, rfl⟩ := Int.eq_ofNat_of_zero_le h1.2.2.1
      have HC := Lib.hid (rpt_yes s k m h1.1 (by omega) (by omega))
      have hk : k ≤ s.size := by omega
      have hkm : k + m ≤ s.size := by omega
      go_enter Try.func18, Try.ntmps18
      go_wp2_with fail
      refine (implRangeValid s _ _ true _ hs ⟨hlo, hhi⟩ (btrue (by omega))).mono ?_
      rintro e w' ⟨rfl, rfl⟩
      go_wp2_with fail
      have e1 : IntKind.i64.wrap (↑k + ↑m) = ((k + m : Nat) : Int) := by rw [IntWalk.i64_in _ (by omega)]; omega
      go_quiet (fail)
      clear e1
      go_wp2
      go_ret2
      exact ⟨ret_sb HC.out, below_drewN (Below.refl _ _) _⟩
    · have HC := Lib.hid (rpt_no s at_ n (by omega))
      go_enter Try.func18, Try.ntmps18
      go_wp2_with fail
      refine (implRangeValid s _ _ true _ hs ⟨hlo, hhi⟩ (btrue (by omega))).mono ?_
      rintro e w' ⟨rfl, rfl⟩
      go_wp2_with fail
      go_ret2
      exact ⟨ret_sb HC.out, Below.refl _ _⟩
  · have HC := Lib.hid (rpt_no s at_ n (by omega))
    go_enter Try.func18, Try.ntmps18
    go_wp2_with fail
    refine (implRangeValid s _ _ false _ hs ⟨hlo, hhi⟩ (bfalse (by omega))).mono ?_
    rintro e w' ⟨rfl, rfl⟩
    go_wp2_with fail
    go_ret2
    exact ⟨ret_sb HC.out, Below.refl _ _⟩
end Go.Proofs.Ytbdoidcknlbenaa
