/-
  The contracts of FormatPatch.
-/
import Derived.Test.YtlcflddjbhlloaaDoorDec
import Derived.Test.YtlcflddjbhlloaaDoorHex
import Derived.Test.YtlcflddjbhlloaaDoorDash
import Derived.Test.YtlcflddjbhlloaaDoorPatchSmall
import Derived.Test.YtlcflddjbhlloaaDoorShelf
import Derived.Lib.AppendIntMem
import Derived.Lib.LaidTab
import Derived.Deep.RegionHeld3
namespace Go.Proofs.YtlcflddjbhlloaaDoor
open Go.RowKit
set_option linter.unusedVariables false

/-- When a patch is valid. -/
def pvalid (f t : Int) (n : Nat) : Prop := 0 ≤ f ∧ f ≤ t ∧ t ≤ 2000 ∧ n ≤ 2000

/-- A patch as a text. -/
def fmtP (f t : Nat) (d : ByteArray) : ByteArray := decB f ++ ⟨#[32]⟩ ++ decB t ++ ⟨#[32]⟩ ++ dashB (hexOf d)

instance (f t : Int) (n : Nat) : Decidable (pvalid f t n) := by unfold pvalid; infer_instance

/-- What FormatPatch returns. -/
def fmtO (f t : Int) (d : ByteArray) : ByteArray := if pvalid f t d.size then fmtP f.toNat t.toNat d else ⟨#[]⟩

theorem hexOf_size (s : ByteArray) : (hexOf s).size ≤ 2 * s.size := by
  unfold hexOf
  split
  · have h := hexB_length s.data.toList
    show (hexB s.data.toList).toArray.size ≤ _
    simp at h ⊢
    omega
  · show 0 ≤ _; omega

theorem dash_hex_size (d : ByteArray) (h : d.size ≤ 2000) : (dashB (hexOf d)).size ≤ 4001 := by
  have h1 := hexOf_size d
  unfold dashB
  split
  · show 1 ≤ 4001; omega
  · omega

/-- The table that strconv reads. -/
def TabW (w : World) : Prop := Lib.TabIs Tryd.prog w "internal/strconv.uint64pow10" .u64 Lib.pow10Tab

theorem TabW.below {w w' : World} {C : Nat} (h : TabW w) (hb : Below C w w') (hC : w.heap.size ≤ C) : TabW w' := by
  unfold TabW Lib.TabIs World.var? at h ⊢
  rcases hg : Tryd.prog.globalNamed "internal/strconv.uint64pow10" with _ | g
  · rw [hg] at h; simp at h
  · rw [hg] at h
    simp only [Option.bind_some] at h ⊢
    have hlt : g < w.heap.size := by
      rcases Nat.lt_or_ge g w.heap.size with h' | h'
      · exact h'
      · rw [Array.getElem?_eq_none h'] at h; cases h
    rw [hb.block g (by omega)]
    exact h

theorem implItoa (n : Nat) (w : World) (hn : n ≤ 1048576) (hT : TabW w) :
    Calls Tryd.prog 38 #[.int .i64 (n : Int)] w fun e w' => e = .returned (.string (decB n)) ∧ Below w.heap.size w w' := by
  refine (Tryd.strconv_Itoa (n : Int) (by omega) (by omega) w hT).mono ?_
  rintro e w' ⟨rfl, k, os, rfl⟩
  refine ⟨?_, Lib.below_grow _ _ (Nat.le_refl _) _ _⟩
  unfold Lib.itoa decB
  rw [if_neg (by omega), Int.toNat_natCast]

set_option maxHeartbeats 1000000 in
theorem implPatchValid (f t : Int) (d : ByteArray) (b : Bool) (w : World) (hb : b = true ↔ pvalid f t d.size) :
    Calls Tryd.prog 26 #[.agg #[.int .i64 f, .int .i64 t, .string d]] w fun e w' => e = .returned (.bool b) ∧ Below w.heap.size w w' := by
  have HB := Lib.hid hb
  clear hb
  go_enter Tryd.func26, Tryd.ntmps26
  go_wp2_with fail
  all_goals go_ret
  all_goals refine ⟨ret_bool ?_, (Below.refl _ _).alloc (Nat.le_refl _) _⟩
  all_goals rw [Bool.eq_iff_iff, HB.out]; unfold pvalid; simp; try omega

set_option maxHeartbeats 1000000 in
theorem specL6Valid (f t : Int) (d : ByteArray) (b : Bool) (w : World) (hb : b = true ↔ pvalid f t d.size) :
    Calls Tryd.prog 45 #[.agg #[.int .i64 f, .int .i64 t, .string d]] w fun e w' => e = .returned (.bool b) ∧ Below w.heap.size w w' := by
  have HB := Lib.hid hb
  clear hb
  by_cases h : 0 ≤ f ∧ f ≤ t ∧ t ≤ 2000
  · go_enter Tryd.func45, Tryd.ntmps45
    go_wp2_with fail
    refine (specL6Range _ _ _ true _ (btrue h)).mono ?_
    rintro e w' ⟨rfl, rfl⟩
    go_wp2_with fail
    all_goals go_ret
    all_goals refine ⟨ret_bool ?_, (Below.refl _ _).alloc (Nat.le_refl _) _⟩
    all_goals rw [Bool.eq_iff_iff, HB.out]; unfold pvalid; simp; try omega
  · go_enter Tryd.func45, Tryd.ntmps45
    go_wp2_with fail
    refine (specL6Range _ _ _ false _ (bfalse h)).mono ?_
    rintro e w' ⟨rfl, rfl⟩
    go_wp2_with fail
    all_goals go_ret
    all_goals refine ⟨ret_bool ?_, (Below.refl _ _).alloc (Nat.le_refl _) _⟩
    all_goals rw [Bool.eq_iff_iff, HB.out]; unfold pvalid; simp; try omega

theorem pbox3 {w wx : World} {T : TypeId} {a b c : Value} (h : Below (w.heap.size + 1) (w.alloc (.cells #[a, b, c] T)) wx) :
    wx.cell? ⟨w.heap.size, 0, none⟩ = some a ∧ wx.cell? ⟨w.heap.size, 1, none⟩ = some b ∧ wx.cell? ⟨w.heap.size, 2, none⟩ = some c ∧ Below (w.heap.size + 1) (w.alloc (.cells #[a, b, c] T)) wx := by
  have e : wx.heap[w.heap.size]? = some (.cells #[a, b, c] T (0, 0)) := (h.block _ (by omega)).trans (heap_alloc_new w _)
  refine ⟨?_, ?_, ?_, h⟩ <;> simp [World.cell?, e]

theorem pbox3_call {w wx wy : World} {T : TypeId} {a b c : Value} (hb : Below wx.heap.size wx wy) (h : Below (w.heap.size + 1) (w.alloc (.cells #[a, b, c] T)) wx) :
    wy.cell? ⟨w.heap.size, 0, none⟩ = some a ∧ wy.cell? ⟨w.heap.size, 1, none⟩ = some b ∧ wy.cell? ⟨w.heap.size, 2, none⟩ = some c ∧ Below (w.heap.size + 1) (w.alloc (.cells #[a, b, c] T)) wy :=
  pbox3 (h.trans (hb.mono (by have := h.size; simp at this; omega)))

theorem pbox3t {w wx : World} {T : TypeId} {a b c : Value} (hT : TabW w) (h : Below (w.heap.size + 1) (w.alloc (.cells #[a, b, c] T)) wx) :
    wx.cell? ⟨w.heap.size, 0, none⟩ = some a ∧ wx.cell? ⟨w.heap.size, 1, none⟩ = some b ∧ wx.cell? ⟨w.heap.size, 2, none⟩ = some c ∧ TabW wx ∧ Below (w.heap.size + 1) (w.alloc (.cells #[a, b, c] T)) wx := by
  obtain ⟨h0, h1, h2, _⟩ := pbox3 h
  exact ⟨h0, h1, h2, hT.below (((Below.refl _ _).alloc (Nat.le_refl _) _).trans (h.mono (by omega))) (Nat.le_refl _), h⟩

theorem pbox3t_call {w wx wy : World} {T : TypeId} {a b c : Value} (hT : TabW w) (hb : Below wx.heap.size wx wy) (h : Below (w.heap.size + 1) (w.alloc (.cells #[a, b, c] T)) wx) :
    wy.cell? ⟨w.heap.size, 0, none⟩ = some a ∧ wy.cell? ⟨w.heap.size, 1, none⟩ = some b ∧ wy.cell? ⟨w.heap.size, 2, none⟩ = some c ∧ TabW wy ∧ Below (w.heap.size + 1) (w.alloc (.cells #[a, b, c] T)) wy :=
  pbox3t hT (h.trans (hb.mono (by have := h.size; simp at this; omega)))

set_option maxHeartbeats 4000000 in
theorem specFormatPatch (f t : Int) (d : ByteArray) (w : World) :
    Calls Tryd.prog 22 #[.agg #[.int .i64 f, .int .i64 t, .string d]] w fun e w' => e = .returned (.string (fmtO f t d)) ∧ Below w.heap.size w w' := by
  by_cases hv : pvalid f t d.size
  · obtain ⟨F, rfl⟩ : ∃ F : Nat, f = F := ⟨f.toNat, by have := hv.1; omega⟩
    obtain ⟨T, rfl⟩ : ∃ T : Nat, t = T := ⟨t.toNat, by have := hv.1; have := hv.2.1; omega⟩
    have hF : F ≤ 2000 := by have := hv.2.1; have := hv.2.2.1; omega
    have hTT : T ≤ 2000 := by have := hv.2.2.1; omega
    have hd : d.size ≤ 2000 := hv.2.2.2
    have hR : fmtO (F : Int) (T : Int) d = fmtP F T d := by unfold fmtO; rw [if_pos hv]; rfl
    rw [hR]
    obtain ⟨R, hRe⟩ : ∃ R, fmtP F T d = R := ⟨_, rfl⟩
    rw [hRe]
    have z1 := decB_size F
    have z2 := decB_size T
    have HF := fun W => specL9Dec F W (by omega)
    have HT := fun W => specL9Dec T W (by omega)
    have HX := fun W => specFormatHex d W (by omega)
    have HD := fun W => specL3Some (hexOf d) W
    have zx : (dashB (hexOf d)).size ≤ 4001 := dash_hex_size d hd
    obtain ⟨FB, hFB⟩ : ∃ x, decB F = x := ⟨_, rfl⟩
    obtain ⟨TB, hTB⟩ : ∃ x, decB T = x := ⟨_, rfl⟩
    obtain ⟨XB, hXB⟩ : ∃ x, hexOf d = x := ⟨_, rfl⟩
    unfold fmtP at hRe
    rw [hFB, hTB, hXB] at hRe
    rw [hFB] at z1 HF
    rw [hTB] at z2 HT
    rw [hXB] at HX HD zx
    obtain ⟨DB, hDB⟩ : ∃ x, dashB XB = x := ⟨_, rfl⟩
    rw [hDB] at HD zx hRe
    have s1 : (⟨#[32]⟩ : ByteArray).size = 1 := rfl
    have hadd1 : ∀ W, (Op.stringOp .add FB ⟨#[32]⟩).run Tryd.prog W = .ok (.string (FB ++ ⟨#[32]⟩)) W := fun W => run_string_add_sum W _ _ (by rw [s1]; omega)
    have hadd2 : ∀ W, (Op.stringOp .add (FB ++ ⟨#[32]⟩) TB).run Tryd.prog W = .ok (.string (FB ++ ⟨#[32]⟩ ++ TB)) W := fun W => run_string_add_sum W _ _ (by rw [ByteArray.size_append, s1]; omega)
    have hadd3 : ∀ W, (Op.stringOp .add (FB ++ ⟨#[32]⟩ ++ TB) ⟨#[32]⟩).run Tryd.prog W = .ok (.string (FB ++ ⟨#[32]⟩ ++ TB ++ ⟨#[32]⟩)) W := fun W => run_string_add_sum W _ _ (by rw [ByteArray.size_append, ByteArray.size_append, s1]; omega)
    have hadd4 : ∀ W, (Op.stringOp .add (FB ++ ⟨#[32]⟩ ++ TB ++ ⟨#[32]⟩) DB).run Tryd.prog W = .ok (.string R) W := fun W => by rw [← hRe]; exact run_string_add_sum W _ _ (by rw [ByteArray.size_append, ByteArray.size_append, ByteArray.size_append, s1]; omega)
    have HF := Lib.hid HF
    have HT := Lib.hid HT
    have HX := Lib.hid HX
    have HD := Lib.hid HD
    clear hR hRe hFB hTB hXB hDB z1 z2 zx s1
    go_enter Tryd.func22, Tryd.ntmps22
    go_wp2_with fail
    refine (specL6Valid (F : Int) (T : Int) d true _ (btrue hv)).mono ?_
    rintro e w1 ⟨rfl, hb1⟩
    have hB1 : Below (w.heap.size + 1) (w.alloc (.cells #[.int .i64 (F : Int), .int .i64 (T : Int), .string d] 23)) w1 := hb1.mono (by simp)
    have hS := pbox3 hB1.drew
    clear hb1 hB1 hv
    go_wp2_with fail
    go_region_held3 (fun w' => w'.cell? ⟨w.heap.size, 0, none⟩ = some (.int .i64 (F : Int)) ∧ w'.cell? ⟨w.heap.size, 1, none⟩ = some (.int .i64 (T : Int)) ∧ w'.cell? ⟨w.heap.size, 2, none⟩ = some (.string d) ∧
        Below (w.heap.size + 1) (w.alloc (.cells #[.int .i64 (F : Int), .int .i64 (T : Int), .string d] 23)) w')
      (first | exact hS | (go_split_ands; exact pbox3_call (by assumption) (by assumption)) | (go_split_ands; refine ⟨?_, ?_, ?_, ?_⟩ <;> assumption))
      (first | (go_at_call_of 46 (Value.int .i64 (F : Int)); refine (HF.out _).mono ?_; rintro e w' ⟨rfl, hb⟩) | (go_at_call_of 46 (Value.int .i64 (T : Int)); refine (HT.out _).mono ?_; rintro e w' ⟨rfl, hb⟩) | (go_at_call 48; refine (HX.out _).mono ?_; rintro e w' ⟨rfl, hb⟩) | (go_at_call 47; refine (HD.out _).mono ?_; rintro e w' ⟨rfl, rfl⟩))
    go_split_ands
    have hB : Below (w.heap.size + 1) (w.alloc (.cells #[.int .i64 (F : Int), .int .i64 (T : Int), .string d] 23)) w' := by assumption
    have hW : Below w.heap.size w w' := ((Below.refl _ _).alloc (Nat.le_refl _) _).trans (hB.mono (by omega))
    go_wp2_with fail
    go_ret
    exact ⟨rfl, hW⟩
  · have hR : fmtO f t d = ⟨#[]⟩ := if_neg hv
    rw [hR]
    clear hR
    go_enter Tryd.func22, Tryd.ntmps22
    go_wp2_with fail
    refine (specL6Valid f t d false _ (bfalse hv)).mono ?_
    rintro e w1 ⟨rfl, hb1⟩
    go_wp2_with fail
    go_ret
    exact ⟨rfl, ((Below.refl _ _).alloc (Nat.le_refl _) _).trans (hb1.mono (by simp))⟩

set_option maxHeartbeats 4000000 in
theorem implFormatPatch (f t : Int) (d : ByteArray) (w : World) (hT : TabW w) :
    Calls Tryd.prog 14 #[.agg #[.int .i64 f, .int .i64 t, .string d]] w fun e w' => e = .returned (.string (fmtO f t d)) ∧ Below w.heap.size w w' := by
  by_cases hv : pvalid f t d.size
  · obtain ⟨F, rfl⟩ : ∃ F : Nat, f = F := ⟨f.toNat, by have := hv.1; omega⟩
    obtain ⟨T, rfl⟩ : ∃ T : Nat, t = T := ⟨t.toNat, by have := hv.1; have := hv.2.1; omega⟩
    have hF : F ≤ 2000 := by have := hv.2.1; have := hv.2.2.1; omega
    have hTT : T ≤ 2000 := by have := hv.2.2.1; omega
    have hd : d.size ≤ 2000 := hv.2.2.2
    have hR : fmtO (F : Int) (T : Int) d = fmtP F T d := by unfold fmtO; rw [if_pos hv]; rfl
    rw [hR]
    obtain ⟨R, hRe⟩ : ∃ R, fmtP F T d = R := ⟨_, rfl⟩
    rw [hRe]
    have z1 := decB_size F
    have z2 := decB_size T
    have HF := fun W h => implItoa F W (by omega) h
    have HT := fun W h => implItoa T W (by omega) h
    have HX := fun W => implFormatHex d W (by omega)
    have HD := fun W => implOrDash (hexOf d) W
    have zx : (dashB (hexOf d)).size ≤ 4001 := dash_hex_size d hd
    obtain ⟨FB, hFB⟩ : ∃ x, decB F = x := ⟨_, rfl⟩
    obtain ⟨TB, hTB⟩ : ∃ x, decB T = x := ⟨_, rfl⟩
    obtain ⟨XB, hXB⟩ : ∃ x, hexOf d = x := ⟨_, rfl⟩
    unfold fmtP at hRe
    rw [hFB, hTB, hXB] at hRe
    rw [hFB] at z1 HF
    rw [hTB] at z2 HT
    rw [hXB] at HX HD zx
    obtain ⟨DB, hDB⟩ : ∃ x, dashB XB = x := ⟨_, rfl⟩
    rw [hDB] at HD zx hRe
    have s1 : (⟨#[32]⟩ : ByteArray).size = 1 := rfl
    have hadd1 : ∀ W, (Op.stringOp .add FB ⟨#[32]⟩).run Tryd.prog W = .ok (.string (FB ++ ⟨#[32]⟩)) W := fun W => run_string_add_sum W _ _ (by rw [s1]; omega)
    have hadd2 : ∀ W, (Op.stringOp .add (FB ++ ⟨#[32]⟩) TB).run Tryd.prog W = .ok (.string (FB ++ ⟨#[32]⟩ ++ TB)) W := fun W => run_string_add_sum W _ _ (by rw [ByteArray.size_append, s1]; omega)
    have hadd3 : ∀ W, (Op.stringOp .add (FB ++ ⟨#[32]⟩ ++ TB) ⟨#[32]⟩).run Tryd.prog W = .ok (.string (FB ++ ⟨#[32]⟩ ++ TB ++ ⟨#[32]⟩)) W := fun W => run_string_add_sum W _ _ (by rw [ByteArray.size_append, ByteArray.size_append, s1]; omega)
    have hadd4 : ∀ W, (Op.stringOp .add (FB ++ ⟨#[32]⟩ ++ TB ++ ⟨#[32]⟩) DB).run Tryd.prog W = .ok (.string R) W := fun W => by rw [← hRe]; exact run_string_add_sum W _ _ (by rw [ByteArray.size_append, ByteArray.size_append, ByteArray.size_append, s1]; omega)
    have HF := Lib.hid HF
    have HT := Lib.hid HT
    have HX := Lib.hid HX
    have HD := Lib.hid HD
    clear hR hRe hFB hTB hXB hDB z1 z2 zx s1
    go_enter Tryd.func14, Tryd.ntmps14
    go_wp2_with fail
    refine (implPatchValid (F : Int) (T : Int) d true _ (btrue hv)).mono ?_
    rintro e w1 ⟨rfl, hb1⟩
    have hB1 : Below (w.heap.size + 1) (w.alloc (.cells #[.int .i64 (F : Int), .int .i64 (T : Int), .string d] 23)) w1 := hb1.mono (by simp)
    have hS := pbox3t hT hB1.drew
    clear hb1 hB1 hv
    go_wp2_with fail
    go_region_held3 (fun w' => w'.cell? ⟨w.heap.size, 0, none⟩ = some (.int .i64 (F : Int)) ∧ w'.cell? ⟨w.heap.size, 1, none⟩ = some (.int .i64 (T : Int)) ∧ w'.cell? ⟨w.heap.size, 2, none⟩ = some (.string d) ∧ TabW w' ∧
        Below (w.heap.size + 1) (w.alloc (.cells #[.int .i64 (F : Int), .int .i64 (T : Int), .string d] 23)) w')
      (first | exact hS | (go_split_ands; exact pbox3t_call hT (by assumption) (by assumption)) | (go_split_ands; refine ⟨?_, ?_, ?_, ?_, ?_⟩ <;> assumption))
      (first | (go_at_call_of 38 (Value.int .i64 (F : Int)); refine (HF.out _ (by go_split_ands; assumption)).mono ?_; rintro e w' ⟨rfl, hb⟩) | (go_at_call_of 38 (Value.int .i64 (T : Int)); refine (HT.out _ (by go_split_ands; assumption)).mono ?_; rintro e w' ⟨rfl, hb⟩) | (go_at_call 40; refine (HX.out _).mono ?_; rintro e w' ⟨rfl, hb⟩) | (go_at_call 39; refine (HD.out _).mono ?_; rintro e w' ⟨rfl, rfl⟩))
    go_split_ands
    have hB : Below (w.heap.size + 1) (w.alloc (.cells #[.int .i64 (F : Int), .int .i64 (T : Int), .string d] 23)) w' := by assumption
    have hW : Below w.heap.size w w' := ((Below.refl _ _).alloc (Nat.le_refl _) _).trans (hB.mono (by omega))
    go_wp2_with fail
    go_ret
    exact ⟨rfl, hW⟩
  · have hR : fmtO f t d = ⟨#[]⟩ := if_neg hv
    rw [hR]
    clear hR
    go_enter Tryd.func14, Tryd.ntmps14
    go_wp2_with fail
    refine (implPatchValid f t d false _ (bfalse hv)).mono ?_
    rintro e w1 ⟨rfl, hb1⟩
    go_wp2_with fail
    go_ret
    exact ⟨rfl, ((Below.refl _ _).alloc (Nat.le_refl _) _).trans (hb1.mono (by simp))⟩

end Go.Proofs.YtlcflddjbhlloaaDoor
