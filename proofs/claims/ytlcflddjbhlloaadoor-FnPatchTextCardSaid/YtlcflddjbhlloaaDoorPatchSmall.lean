/-
  The contracts of the small functions on patches: patchFits, ApplyPatch, InvertPatch, and those of the reference and of the law's own helpers.
-/
import Derived.Test.YtlcflddjbhlloaaDoorSmall
import Derived.Handy
namespace Go.Proofs.YtlcflddjbhlloaaDoor
open Go.RowKit
set_option linter.unusedVariables false

/-- That a patch can be applied to data of a size. -/
def pfits (n : Nat) (f t : Int) (d : Nat) : Prop := n ≤ 2000 ∧ 0 ≤ f ∧ f ≤ t ∧ t ≤ n ∧ d ≤ 2000 ∧ n - (t - f) + d ≤ 2000

instance (n : Nat) (f t : Int) (d : Nat) : Decidable (pfits n f t d) := by unfold pfits; infer_instance

theorem implPatchFits (s : ByteArray) (f t : Int) (d : ByteArray) (b : Bool) (w : World) (hs : s.size ≤ 1048576) (hd : d.size ≤ 1048576) (hb : b = true ↔ pfits s.size f t d.size) :
    Calls Tryd.prog 37 #[.string s, .agg #[.int .i64 f, .int .i64 t, .string d]] w fun e w' => e = .returned (.bool b) ∧ Below w.heap.size w w' := by
  have HB := Lib.hid hb
  clear hb
  go_enter Tryd.func37, Tryd.ntmps37
  go_wp2
  all_goals go_ret
  all_goals refine ⟨ret_bool ?_, (Below.refl _ _).alloc (Nat.le_refl _) _⟩
  all_goals rw [Bool.eq_iff_iff, HB.out]; unfold pfits; simp; try omega

theorem specL6Range (f t n : Int) (b : Bool) (w : World) (hb : b = true ↔ 0 ≤ f ∧ f ≤ t ∧ t ≤ n) :
    Calls Tryd.prog 58 #[.int .i64 f, .int .i64 t, .int .i64 n] w fun e w' => e = .returned (.bool b) ∧ w = w' := by
  have HB := Lib.hid hb
  clear hb
  by_cases h1 : 0 ≤ t ∧ t ≤ n
  · obtain ⟨r, hr⟩ : ∃ r : Bool, r = true ↔ 0 ≤ f ∧ f ≤ t := ⟨decide (0 ≤ f ∧ f ≤ t), by simp⟩
    have HR := Lib.hid hr
    clear hr
    go_enter Tryd.func58, Tryd.ntmps58
    go_wp2_with fail
    refine (specL1In _ _ _ true _ (btrue (by omega))).mono ?_
    rintro e w' ⟨rfl, rfl⟩
    go_wp2_with fail
    refine (specL1In _ _ _ r _ HR.out).mono ?_
    rintro e w' ⟨rfl, rfl⟩
    go_wp2_with fail
    go_ret
    refine ⟨ret_bool ?_, rfl⟩
    rw [Bool.eq_iff_iff, HB.out]; simp [HR.out]; omega
  · go_enter Tryd.func58, Tryd.ntmps58
    go_wp2_with fail
    refine (specL1In _ _ _ false _ (bfalse (by omega))).mono ?_
    rintro e w' ⟨rfl, rfl⟩
    go_wp2_with fail
    go_ret
    refine ⟨ret_bool ?_, rfl⟩
    rw [Bool.eq_iff_iff, HB.out]; simp; omega

theorem specL6Patch (n : Nat) (f t : Int) (d : ByteArray) (b : Bool) (w : World) (hs : n ≤ 1048576) (hd : d.size ≤ 1048576) (hb : b = true ↔ pfits n f t d.size) :
    Calls Tryd.prog 42 #[.agg #[.int .i64 f, .int .i64 t, .string d], .int .i64 n] w fun e w' => e = .returned (.bool b) ∧ Below w.heap.size w w' := by
  have HB := Lib.hid hb
  clear hb
  by_cases h1 : n ≤ 2000
  · by_cases h2 : 0 ≤ f ∧ f ≤ t ∧ t ≤ n
    · go_enter Tryd.func42, Tryd.ntmps42
      go_wp2_with fail
      refine (specL1In _ _ _ true _ (btrue (by omega))).mono ?_
      rintro e w' ⟨rfl, rfl⟩
      go_wp2_with fail
      refine (specL6Range _ _ _ true _ (btrue (by omega))).mono ?_
      rintro e w' ⟨rfl, rfl⟩
      go_wp2_with fail
      all_goals go_ret
      all_goals refine ⟨ret_bool ?_, (Below.refl _ _).alloc (Nat.le_refl _) _⟩
      all_goals rw [Bool.eq_iff_iff, HB.out]; unfold pfits; simp; try omega
    · go_enter Tryd.func42, Tryd.ntmps42
      go_wp2_with fail
      refine (specL1In _ _ _ true _ (btrue (by omega))).mono ?_
      rintro e w' ⟨rfl, rfl⟩
      go_wp2_with fail
      refine (specL6Range _ _ _ false _ (bfalse (by omega))).mono ?_
      rintro e w' ⟨rfl, rfl⟩
      go_wp2_with fail
      all_goals go_ret
      all_goals refine ⟨ret_bool ?_, (Below.refl _ _).alloc (Nat.le_refl _) _⟩
      all_goals rw [Bool.eq_iff_iff, HB.out]; unfold pfits; simp; try omega
  · go_enter Tryd.func42, Tryd.ntmps42
    go_wp2_with fail
    refine (specL1In _ _ _ false _ (bfalse (by omega))).mono ?_
    rintro e w' ⟨rfl, rfl⟩
    go_wp2_with fail
    all_goals go_ret
    all_goals refine ⟨ret_bool ?_, (Below.refl _ _).alloc (Nat.le_refl _) _⟩
    all_goals rw [Bool.eq_iff_iff, HB.out]; unfold pfits; simp; try omega

/-- What ApplyPatch returns. -/
def apl (s : ByteArray) (f t : Int) (d : ByteArray) : ByteArray × Bool :=
  if pfits s.size f t d.size then (s.extract 0 f.toNat ++ d ++ s.extract t.toNat s.size, true) else (ByteArray.empty, false)

theorem apl_yes {s : ByteArray} {i j : Nat} {d : ByteArray} (h : pfits s.size i j d.size) : apl s i j d = (s.extract 0 i ++ d ++ s.extract j s.size, true) := by
  unfold apl; rw [if_pos h]; simp

theorem apl_no {s : ByteArray} {f t : Int} {d : ByteArray} (h : ¬ pfits s.size f t d.size) : apl s f t d = (ByteArray.empty, false) := by
  unfold apl; rw [if_neg h]

set_option maxHeartbeats 400000 in
theorem implApplyPatch (s : ByteArray) (f t : Int) (d : ByteArray) (w : World) (hs : s.size ≤ 1048576) (hd : d.size ≤ 1048576) :
    Calls Tryd.prog 12 #[.string s, .agg #[.int .i64 f, .int .i64 t, .string d]] w fun e w' => e = .returned (.tuple #[.string (apl s f t d).1, .bool (apl s f t d).2]) ∧ Below w.heap.size w w' := by
  by_cases h : pfits s.size f t d.size
  · have h' := h
    unfold pfits at h'
    obtain ⟨i, rfl⟩ := Int.eq_ofNat_of_zero_le (show 0 ≤ f by omega)
    obtain ⟨j, rfl⟩ := Int.eq_ofNat_of_zero_le (show 0 ≤ t by omega)
    have HC := Lib.hid (apl_yes h)
    have hi : i ≤ s.size := by omega
    have hj : j ≤ s.size := by omega
    go_enter Tryd.func12, Tryd.ntmps12
    go_wp2_with fail
    refine (implPatchFits s i j d true _ hs hd (btrue h)).mono ?_
    rintro e w1 ⟨rfl, hb⟩
    obtain ⟨hc, hf⟩ := bcell hb
    go_wp2_with fail
    go_quiet (fail)
    go_wp2
    go_ret2
    exact ⟨ret_sb HC.out, below_drewN (((Below.refl _ _).alloc (Nat.le_refl _) _).trans (hb.mono (by simp))) _⟩
  · have HC := Lib.hid (apl_no h)
    go_enter Tryd.func12, Tryd.ntmps12
    go_wp2_with fail
    refine (implPatchFits s f t d false _ hs hd (bfalse h)).mono ?_
    rintro e w1 ⟨rfl, hb⟩
    go_wp2_with fail
    go_ret2
    exact ⟨ret_sb HC.out, ((Below.refl _ _).alloc (Nat.le_refl _) _).trans (hb.mono (by simp))⟩

/-- A patch, and whether there is one. -/
structure PB where
  f : Int
  t : Int
  d : ByteArray
  ok : Bool

/-- What InvertPatch returns. -/
def inv (s : ByteArray) (f t : Int) (d : ByteArray) : PB :=
  if pfits s.size f t d.size then ⟨f, f + d.size, s.extract f.toNat t.toNat, true⟩ else ⟨0, 0, ByteArray.empty, false⟩

theorem inv_yes {s : ByteArray} {i j : Nat} {d : ByteArray} (h : pfits s.size i j d.size) : inv s i j d = ⟨i, i + d.size, s.extract i j, true⟩ := by
  unfold inv; rw [if_pos h]; simp

theorem inv_no {s : ByteArray} {f t : Int} {d : ByteArray} (h : ¬ pfits s.size f t d.size) : inv s f t d = ⟨0, 0, ByteArray.empty, false⟩ := by
  unfold inv; rw [if_neg h]

/-- A patch and a truth, as a function's two results. -/
def PB.val (p : PB) : Value := .tuple #[.agg #[.int .i64 p.f, .int .i64 p.t, .string p.d], .bool p.ok]

theorem ret_pb {f t : Int} {d : ByteArray} {b : Bool} {o : PB} (h : o = ⟨f, t, d, b⟩) : Ending.returned (.tuple #[.agg #[.int .i64 f, .int .i64 t, .string d], .bool b]) = .returned o.val := by rw [h]; rfl

set_option maxHeartbeats 400000 in
theorem implInvertPatch (s : ByteArray) (f t : Int) (d : ByteArray) (w : World) (hs : s.size ≤ 1048576) (hd : d.size ≤ 1048576) :
    Calls Tryd.prog 13 #[.string s, .agg #[.int .i64 f, .int .i64 t, .string d]] w fun e w' => e = .returned (inv s f t d).val ∧ Below w.heap.size w w' := by
  by_cases h : pfits s.size f t d.size
  · have h' := h
    unfold pfits at h'
    obtain ⟨i, rfl⟩ := Int.eq_ofNat_of_zero_le (show 0 ≤ f by omega)
    obtain ⟨j, rfl⟩ := Int.eq_ofNat_of_zero_le (show 0 ≤ t by omega)
    have HC := Lib.hid (inv_yes h)
    have hi : i ≤ j := by omega
    have hj : j ≤ s.size := by omega
    go_enter Tryd.func13, Tryd.ntmps13
    go_wp2_with fail
    refine (implPatchFits s i j d true _ hs hd (btrue h)).mono ?_
    rintro e w1 ⟨rfl, hb⟩
    obtain ⟨hc, hf⟩ := bcell hb
    go_wp2_with fail
    go_region
    go_wp2
    refine bodyPost_ret (v := .tuple #[.agg #[.int .i64 i, .int .i64 (i + d.size), .string (s.extract i j)], .bool true]) (by simp [results, Tryd.results13, go_sem, hc]) rfl ?_
    refine ⟨ret_pb HC.out, ?_⟩
    clear hc hf h h' HC
    have hb' : Below w.heap.size w w1 := (((Below.refl _ _).alloc (Nat.le_refl _) _).alloc (by simp) _).trans (hb.mono (by simp; omega))
    clear hb
    go_grown
  · have HC := Lib.hid (inv_no h)
    go_enter Tryd.func13, Tryd.ntmps13
    go_wp2_with fail
    refine (implPatchFits s f t d false _ hs hd (bfalse h)).mono ?_
    rintro e w1 ⟨rfl, hb⟩
    obtain ⟨hc, hf⟩ := bcell hb
    go_wp2_with fail
    refine bodyPost_ret (v := .tuple #[.agg #[.int .i64 0, .int .i64 0, .string ByteArray.empty], .bool false]) (by simp [results, Tryd.results13, go_sem, hc]; rfl) rfl ?_
    refine ⟨ret_pb HC.out, ?_⟩
    clear hc hf h HC
    have hb' : Below w.heap.size w w1 := (((Below.refl _ _).alloc (Nat.le_refl _) _).alloc (by simp) _).trans (hb.mono (by simp; omega))
    clear hb
    go_grown

set_option maxHeartbeats 400000 in
theorem specInvertPatch (s : ByteArray) (f t : Int) (d : ByteArray) (w : World) (hs : s.size ≤ 1048576) (hd : d.size ≤ 1048576) :
    Calls Tryd.prog 16 #[.string s, .agg #[.int .i64 f, .int .i64 t, .string d]] w fun e w' => e = .returned (inv s f t d).val ∧ Below w.heap.size w w' := by
  by_cases h : pfits s.size f t d.size
  · have h' := h
    unfold pfits at h'
    obtain ⟨i, rfl⟩ := Int.eq_ofNat_of_zero_le (show 0 ≤ f by omega)
    obtain ⟨j, rfl⟩ := Int.eq_ofNat_of_zero_le (show 0 ≤ t by omega)
    have HC := Lib.hid (inv_yes h)
    have hi : i ≤ j := by omega
    have hj : j ≤ s.size := by omega
    go_enter Tryd.func16, Tryd.ntmps16
    go_wp2_with fail
    refine (specL6Patch s.size i j d true _ hs hd (btrue h)).mono ?_
    rintro e w1 ⟨rfl, hb⟩
    obtain ⟨hc, hf⟩ := bcell hb
    go_wp2_with fail
    go_region
    go_wp2
    refine bodyPost_ret (v := .tuple #[.agg #[.int .i64 i, .int .i64 (i + d.size), .string (s.extract i j)], .bool true]) (by simp [results, Tryd.results16, go_sem, hc]) rfl ?_
    refine ⟨ret_pb HC.out, ?_⟩
    clear hc hf h h' HC
    have hb' : Below w.heap.size w w1 := (((Below.refl _ _).alloc (Nat.le_refl _) _).alloc (by simp) _).trans (hb.mono (by simp; omega))
    clear hb
    go_grown
  · have HC := Lib.hid (inv_no h)
    go_enter Tryd.func16, Tryd.ntmps16
    go_wp2_with fail
    refine (specL6Patch s.size f t d false _ hs hd (bfalse h)).mono ?_
    rintro e w1 ⟨rfl, hb⟩
    obtain ⟨hc, hf⟩ := bcell hb
    go_wp2_with fail
    refine bodyPost_ret (v := .tuple #[.agg #[.int .i64 0, .int .i64 0, .string ByteArray.empty], .bool false]) (by simp [results, Tryd.results16, go_sem, hc]; rfl) rfl ?_
    refine ⟨ret_pb HC.out, ?_⟩
    clear hc hf h HC
    have hb' : Below w.heap.size w w1 := (((Below.refl _ _).alloc (Nat.le_refl _) _).alloc (by simp) _).trans (hb.mono (by simp; omega))
    clear hb
    go_grown

theorem lawsEqPatch (f t : Int) (d : ByteArray) (w : World) :
    Calls Tryd.prog 8 #[.agg #[.int .i64 f, .int .i64 t, .string d], .agg #[.int .i64 f, .int .i64 t, .string d]] w fun e w' => e = .returned (.bool true) ∧ Below w.heap.size w w' := by
  go_enter Tryd.func8, Tryd.ntmps8
  go_wp2
  go_ret
  refine ⟨rfl, ?_⟩
  go_grown

end Go.Proofs.YtlcflddjbhlloaaDoor
