/-
  The contracts of the functions that write a block as bytes: spec.l5Text, spec.FormatBlock, impl.FormatBlock.
-/
import Derived.Test.YthfckbfllodcjaaBlockSmall
import Derived.Deep.RegionHeld3
import Derived.Deep.DrawnRows
namespace Go.Proofs.Ythfckbfllodcjaa
open Go.RowKit
set_option linter.unusedVariables false
attribute [local go_sem ↓] Go.wp_at_zero Go.wp_at_succ

/-- The inner bytes of a block. -/
def innerB (b : Blk) : ByteArray := kindB b.raw ++ two b.num ++ two b.size ++ two b.body.size ++ b.body

/-- The bytes of a block. -/
def textB (b : Blk) : ByteArray := ⟨#[181]⟩ ++ innerB b ++ two (sumOf (innerB b).data.toList)

theorem kindB_size (r : Bool) : (kindB r).size = 1 := by cases r <;> rfl

theorem box_cell {w wx : World} {cs : Array Value} {T : TypeId} {j : Nat} {v : Value} (h : Below (w.heap.size + 1) (w.alloc (.cells cs T)) wx) (hj : cs[j]? = some v) : wx.cell? ⟨w.heap.size, j, none⟩ = some v := by
  rw [h.cell (p := ⟨w.heap.size, j, none⟩) (by show w.heap.size < _; omega), World.cell?_alloc_mark]; exact hj

theorem below_call {w wx wy : World} (hb : Below wx.heap.size wx wy) (h : Below w.heap.size w wx) : Below w.heap.size w wy := h.trans (hb.mono h.size)

/-- Four cells of a new block, and that nothing else has turned. -/
theorem box4 {w wx : World} {T : TypeId} {a b c d : Value} (h : Below (w.heap.size + 1) (w.alloc (.cells #[a, b, c, d] T)) wx) :
    wx.cell? ⟨w.heap.size, 0, none⟩ = some a ∧ wx.cell? ⟨w.heap.size, 1, none⟩ = some b ∧ wx.cell? ⟨w.heap.size, 2, none⟩ = some c ∧ wx.cell? ⟨w.heap.size, 3, none⟩ = some d ∧ Below (w.heap.size + 1) (w.alloc (.cells #[a, b, c, d] T)) wx :=
  ⟨box_cell h rfl, box_cell h rfl, box_cell h rfl, box_cell h rfl, h⟩

theorem box4_call {w wx wy : World} {T : TypeId} {a b c d : Value} (hb : Below wx.heap.size wx wy) (h : Below (w.heap.size + 1) (w.alloc (.cells #[a, b, c, d] T)) wx) :
    wy.cell? ⟨w.heap.size, 0, none⟩ = some a ∧ wy.cell? ⟨w.heap.size, 1, none⟩ = some b ∧ wy.cell? ⟨w.heap.size, 2, none⟩ = some c ∧ wy.cell? ⟨w.heap.size, 3, none⟩ = some d ∧ Below (w.heap.size + 1) (w.alloc (.cells #[a, b, c, d] T)) wy :=
  box4 (h.trans (hb.mono (by have := h.size; simp at this; omega)))

set_option maxHeartbeats 4000000 in
theorem specL5Text (b : Blk) (w : World) (h1 : b.num ≤ 100000) (h2 : b.size ≤ 100000) (h3 : b.body.size ≤ 100000) :
    Calls Try.prog 45 #[b.val] w fun e w' => e = .returned (.string (textB b)) ∧ Below w.heap.size w w' := by
  have ks : (kindB b.raw).size = 1 := kindB_size _
  have ts : ∀ n, (two n).size = 2 := fun _ => rfl
  have hadd : ∀ W, (Op.stringOp .add (kindB b.raw ++ two b.num ++ two b.size ++ two b.body.size) b.body).run Try.prog W = .ok (.string (innerB b)) W := fun W => by
    rw [run_string_add_sum W _ _ (by simp [ks, ts]; omega)]; rfl
  unfold Blk.val
  have hk := specL5Kind b
  unfold Blk.val at hk
  have HK := Lib.hid hk
  clear hk
  go_enter Try.func45, Try.ntmps45
  go_wp2
  go_region_held3 (fun w' => w'.cell? ⟨w.heap.size, 0, none⟩ = some (.int .i64 b.num) ∧ w'.cell? ⟨w.heap.size, 1, none⟩ = some (.bool b.raw) ∧ w'.cell? ⟨w.heap.size, 2, none⟩ = some (.int .i64 b.size) ∧ w'.cell? ⟨w.heap.size, 3, none⟩ = some (.string b.body) ∧
      Below (w.heap.size + 1) (w.alloc (.cells #[.int .i64 b.num, .bool b.raw, .int .i64 b.size, .string b.body] 47)) w')
    (first | exact box4 (Below.refl _ _).drew | (go_split_ands; exact box4_call (by assumption) (by assumption)))
    (first | (go_at_call 55; refine (HK.out _).mono ?_; rintro e w' ⟨rfl, hb⟩) | (go_at_call 56; refine (specL4Two _ _ (by omega)).mono ?_; rintro e w' ⟨rfl, hb⟩))
  go_split_ands
  have hB : Below (w.heap.size + 1) (w.alloc (.cells #[.int .i64 b.num, .bool b.raw, .int .i64 b.size, .string b.body] 47)) w' := by assumption
  have hW : Below w.heap.size w w' := ((Below.refl _ _).alloc (Nat.le_refl _) _).trans (hB.mono (by omega))
  have hI : (innerB b).size ≤ 1048576 := by unfold innerB; simp [ks, ts]; omega
  have hcv := run_one_byte (P := Try.prog) Try.underlying22 Try.underlying5 Try.underlying9 181 (by omega)
  simp only [Int.cast_ofNat_Int] at hcv
  obtain ⟨I, hIe⟩ : ∃ I, innerB b = I := ⟨_, rfl⟩
  have hT : textB b = ⟨#[181]⟩ ++ I ++ two (sumOf I.data.toList) := by unfold textB; rw [hIe]
  have HT := Lib.hid hT
  rw [hIe] at hI ⊢
  have hWs := hW.size
  have hlt := sumOf_lt I.data.toList
  have hadd1 : ∀ W, (Op.stringOp .add ⟨#[181]⟩ I).run Try.prog W = .ok (.string (⟨#[181]⟩ ++ I)) W := fun W => run_string_add_sum W _ _ (by show 1 + I.size ≤ _; omega)
  have hadd2 : ∀ W, (Op.stringOp .add (⟨#[181]⟩ ++ I) (two (sumOf I.data.toList))).run Try.prog W = .ok (.string (textB b)) W := fun W => by
    rw [HT.out]; exact run_string_add_sum W _ _ (by rw [ByteArray.size_append, ts]; show 1 + I.size + 2 ≤ _; omega)
  clear hT hIe hadd hB HK
  go_wp2
  go_region_with (first | (go_at_call 57; refine (specSumOf _ _ (by assumption)).mono ?_; rintro e w2 ⟨rfl, rfl⟩) | (go_at_call 56; refine (specL4Two _ _ (by omega)).mono ?_; rintro e w2 ⟨rfl, hb⟩; have hW2 : Below w.heap.size w w2 := below_call hb (by go_grown); have hs2 := hW2.size; have hc := (bcell hb).1))
  all_goals go_wp2
  all_goals go_ret
  all_goals exact ⟨rfl, by go_grown⟩

end Go.Proofs.Ythfckbfllodcjaa
