/-
  The contract of FormatBlock of the program: the bytes of a block, if it is valid.
-/
import Derived.Test.YtopklampiaecdaaGreatBlockText
import Derived.Deep.RegionHeld3
namespace Go.Proofs.YtopklampiaecdaaGreat
open Go.RowKit
set_option linter.unusedVariables false
attribute [local go_sem ↓] Go.wp_at_zero Go.wp_at_succ

set_option maxHeartbeats 4000000 in
theorem implFormatBlockYes (num size : Nat) (raw : Bool) (body : ByteArray) (w : World) (hok : (⟨num, raw, size, body⟩ : Blk).ok) :
    Calls Tryz.prog 87 #[.agg #[.int .i64 num, .bool raw, .int .i64 size, .string body]] w fun e w' => e = .returned (.tuple #[.string (textB ⟨num, raw, size, body⟩), .bool true]) ∧ Below w.heap.size w w' := by
  have hbd : num < 40 ∧ size ≤ 64 ∧ body.size ≤ 64 := by
    obtain ⟨h1, h2, h3, h4⟩ := hok
    cases raw
    · simp at h1 h2 h3 h4; omega
    · simp at h1 h2 h3 h4; omega
  obtain ⟨b1, b2, b3⟩ := hbd
  have HV := Lib.hid (fun W => implBlockValid ⟨num, raw, size, body⟩ true W (by simp only; omega) (by simp only; omega) (by simp only; omega) (btrue hok))
  have ks : (kindB raw).size = 1 := kindB_size _
  have ts : ∀ n, (two n).size = 2 := fun _ => rfl
  obtain ⟨K, hK⟩ : ∃ K, kindB raw = K := ⟨_, rfl⟩
  have hI0 : innerB ⟨num, raw, size, body⟩ = K ++ two num ++ two size ++ two body.size ++ body := by unfold innerB; rw [hK]
  rw [hK] at ks
  have hadd1 : ∀ W, (Op.stringOp .add K (two num)).run Tryz.prog W = .ok (.string (K ++ two num)) W := fun W => run_string_add_sum W _ _ (by rw [ks, ts]; omega)
  have hadd2 : ∀ W, (Op.stringOp .add (K ++ two num) (two size)).run Tryz.prog W = .ok (.string (K ++ two num ++ two size)) W := fun W => run_string_add_sum W _ _ (by simp [ks, ts])
  have hadd3 : ∀ W, (Op.stringOp .add (K ++ two num ++ two size) (two body.size)).run Tryz.prog W = .ok (.string (K ++ two num ++ two size ++ two body.size)) W := fun W => run_string_add_sum W _ _ (by simp [ks, ts])
  obtain ⟨I, hIe⟩ : ∃ I, innerB ⟨num, raw, size, body⟩ = I := ⟨_, rfl⟩
  have hT : textB ⟨num, raw, size, body⟩ = ⟨#[181]⟩ ++ I ++ two (sumOf I.data.toList) := by unfold textB; rw [hIe]
  have hadd4 : ∀ W, (Op.stringOp .add (K ++ two num ++ two size ++ two body.size) body).run Tryz.prog W = .ok (.string I) W := fun W => by
    rw [run_string_add_sum W _ _ (by simp [ks, ts]; omega), ← hI0, hIe]
  have hI : I.size ≤ 1048576 := by rw [← hIe, hI0]; simp [ks, ts]; omega
  have hlt := sumOf_lt I.data.toList
  have hadd5 : ∀ W, (Op.stringOp .add ⟨#[181]⟩ I).run Tryz.prog W = .ok (.string (⟨#[181]⟩ ++ I)) W := fun W => run_string_add_sum W _ _ (by show 1 + I.size ≤ _; omega)
  have hadd6 : ∀ W, (Op.stringOp .add (⟨#[181]⟩ ++ I) (two (sumOf I.data.toList))).run Tryz.prog W = .ok (.string (textB ⟨num, raw, size, body⟩)) W := fun W => by
    rw [hT]; exact run_string_add_sum W _ _ (by rw [ByteArray.size_append, ts]; show 1 + I.size + 2 ≤ _; omega)
  obtain ⟨TX, hTX⟩ : ∃ T, textB ⟨num, raw, size, body⟩ = T := ⟨_, rfl⟩
  rw [hTX] at hadd6 ⊢
  have hcv := run_one_byte (P := Tryz.prog) Tryz.underlying46 Tryz.underlying5 Tryz.underlying9 181 (by omega)
  simp only [Int.cast_ofNat_Int] at hcv
  have HK := Lib.hid hK
  clear hIe hT hTX hI0 ks ts hok hK
  cases raw
  · have hKK : K = ⟨#[1]⟩ := HK.out.symm
    subst hKK
    go_enter Tryz.func87, Tryz.ntmps87
    go_wp2_with fail
    refine (HV.out _).mono ?_
    rintro e w1 ⟨rfl, hb1⟩
    have hB1 : Below (w.heap.size + 1) (w.alloc (.cells #[.int .i64 num, .bool false, .int .i64 size, .string body] 71)) w1 := by simpa using hb1
    obtain ⟨q0, q1, q2, q3, _⟩ := box4 hB1
    go_wp2_with fail
    go_region_held3 (fun w' => w'.cell? ⟨w.heap.size, 0, none⟩ = some (.int .i64 num) ∧ w'.cell? ⟨w.heap.size, 1, none⟩ = some (.bool false) ∧ w'.cell? ⟨w.heap.size, 2, none⟩ = some (.int .i64 size) ∧ w'.cell? ⟨w.heap.size, 3, none⟩ = some (.string body) ∧
        Below (w.heap.size + 1) (w.alloc (.cells #[.int .i64 num, .bool false, .int .i64 size, .string body] 71)) w')
      (first | exact box4 hB1.drew | (go_split_ands; exact box4_call (by assumption) (by assumption)))
      (first | (go_at_call 115; refine (implTwoBytes _ _ (by omega)).mono ?_; rintro e w' ⟨rfl, hb⟩))
    go_split_ands
    have hB : Below (w.heap.size + 1) (w.alloc (.cells #[.int .i64 num, .bool false, .int .i64 size, .string body] 71)) w' := by assumption
    have hW : Below w.heap.size w w' := ((Below.refl _ _).alloc (Nat.le_refl _) _).trans (hB.mono (by omega))
    have hWs := hW.size
    clear hadd1 hadd2 hadd3 hadd4 hB HV hb1 hB1 q0 q1 q2 q3
    go_wp2_with fail
    go_region_with (first | (go_at_call 116; refine (implSumOf _ _ (by assumption)).mono ?_; rintro e w2 ⟨rfl, rfl⟩) | (go_at_call 115; refine (implTwoBytes _ _ (by omega)).mono ?_; rintro e w2 ⟨rfl, hb⟩; have hW2 : Below w.heap.size w w2 := below_call hb (by go_grown); have hs2 := hW2.size; have hc := (bcell hb).1))
    all_goals go_wp2_with fail
    all_goals go_ret2
    all_goals exact ⟨rfl, by go_grown⟩
  · have hKK : K = ⟨#[0]⟩ := HK.out.symm
    subst hKK
    go_enter Tryz.func87, Tryz.ntmps87
    go_wp2_with fail
    refine (HV.out _).mono ?_
    rintro e w1 ⟨rfl, hb1⟩
    have hB1 : Below (w.heap.size + 1) (w.alloc (.cells #[.int .i64 num, .bool true, .int .i64 size, .string body] 71)) w1 := by simpa using hb1
    obtain ⟨q0, q1, q2, q3, _⟩ := box4 hB1
    go_wp2_with fail
    go_region_held3 (fun w' => w'.cell? ⟨w.heap.size, 0, none⟩ = some (.int .i64 num) ∧ w'.cell? ⟨w.heap.size, 1, none⟩ = some (.bool true) ∧ w'.cell? ⟨w.heap.size, 2, none⟩ = some (.int .i64 size) ∧ w'.cell? ⟨w.heap.size, 3, none⟩ = some (.string body) ∧
        Below (w.heap.size + 1) (w.alloc (.cells #[.int .i64 num, .bool true, .int .i64 size, .string body] 71)) w')
      (first | exact box4 hB1.drew | (go_split_ands; exact box4_call (by assumption) (by assumption)))
      (first | (go_at_call 115; refine (implTwoBytes _ _ (by omega)).mono ?_; rintro e w' ⟨rfl, hb⟩))
    go_split_ands
    have hB : Below (w.heap.size + 1) (w.alloc (.cells #[.int .i64 num, .bool true, .int .i64 size, .string body] 71)) w' := by assumption
    have hW : Below w.heap.size w w' := ((Below.refl _ _).alloc (Nat.le_refl _) _).trans (hB.mono (by omega))
    have hWs := hW.size
    clear hadd1 hadd2 hadd3 hadd4 hB HV hb1 hB1 q0 q1 q2 q3
    go_wp2_with fail
    go_region_with (first | (go_at_call 116; refine (implSumOf _ _ (by assumption)).mono ?_; rintro e w2 ⟨rfl, rfl⟩) | (go_at_call 115; refine (implTwoBytes _ _ (by omega)).mono ?_; rintro e w2 ⟨rfl, hb⟩; have hW2 : Below w.heap.size w w2 := below_call hb (by go_grown); have hs2 := hW2.size; have hc := (bcell hb).1))
    all_goals go_wp2_with fail
    all_goals go_ret2
    all_goals exact ⟨rfl, by go_grown⟩

end Go.Proofs.YtopklampiaecdaaGreat
