/-
  The contracts of the small functions on blocks: SumOf, blockValid, l5Form, l5Kind, l5Number, sizeValid.
  The contracts of the functions that write a block as bytes: spec.l5Text, spec.FormatBlock, impl.FormatBlock.
-/
import Derived.Test.YthlgpgaeajfchaaGreatDoorInts
import Derived.Deep.RegionHeld3
import Derived.Deep.DrawnRows

namespace Go.Proofs.YthlgpgaeajfchaaGreatDoor
open Go.RowKit
set_option linter.unusedVariables false

/-- One byte more in the two sums of a checksum. -/
def sumStep (p : Nat × Nat) (x : UInt8) : Nat × Nat := ((p.1 + x.toNat) % 255, (p.2 + (p.1 + x.toNat) % 255) % 255)

/-- The two sums. -/
def sums (l : List UInt8) : Nat × Nat := l.foldl sumStep (0, 0)

/-- The checksum. -/
def sumOf (l : List UInt8) : Nat := 256 * (sums l).2 + (sums l).1

theorem sums_snoc (l : List UInt8) (x : UInt8) : sums (l ++ [x]) = sumStep (sums l) x := by
  unfold sums; rw [List.foldl_append]; rfl

theorem foldl_sums_lt (l : List UInt8) : ∀ p : Nat × Nat, p.1 < 255 → p.2 < 255 → (l.foldl sumStep p).1 < 255 ∧ (l.foldl sumStep p).2 < 255 := by
  induction l with
  | nil => intro p h1 h2; exact ⟨h1, h2⟩
  | cons x xs ih =>
    intro p h1 h2
    simp only [List.foldl_cons]
    exact ih _ (by unfold sumStep; simp; omega) (by unfold sumStep; simp; omega)

theorem sums_lt (l : List UInt8) : (sums l).1 < 255 ∧ (sums l).2 < 255 := foldl_sums_lt l (0, 0) (by decide) (by decide)

theorem sumOf_lt (l : List UInt8) : sumOf l < 65536 := by
  have := sums_lt l
  unfold sumOf; omega

theorem take_byte (s : ByteArray) (k : Nat) (h : k < s.size) : s.data.toList.take (k + 1) = s.data.toList.take k ++ [s[k]] := by
  rw [List.take_succ_eq_append_getElem (by simpa using h)]; rfl

set_option maxHeartbeats 400000 in
theorem implSumOf (s : ByteArray) (w : World) (hs : s.size ≤ 1048576) :
    Calls Tryz.prog 60 #[.string s] w fun e w' => e = .returned (.int .i64 (sumOf s.data.toList)) ∧ w = w' := by
  go_enter Tryz.func60, Tryz.ntmps60
  go_wp2
  go_loop [3, 4, 8] (fun a b i => ∃ k : Nat, k ≤ s.size ∧ i = .int .i64 k ∧ a = .int .i64 (sums (s.data.toList.take k)).1 ∧ b = .int .i64 (sums (s.data.toList.take k)).2) (fun _ _ i => s.size - (intOf i).toNat)
  case atStart => exact ⟨0, Nat.zero_le _, rfl, rfl, rfl⟩
  case round =>
    obtain ⟨k, hk, rfl, rfl, rfl⟩ := hrel
    have hlt := sums_lt (s.data.toList.take k)
    by_cases hks : k < s.size
    · have hnx := sums_snoc (s.data.toList.take k) s[k]
      rw [← take_byte s k hks] at hnx
      obtain ⟨p, hp⟩ : ∃ p, sums (s.data.toList.take k) = p := ⟨_, rfl⟩
      obtain ⟨x, hx⟩ : ∃ x, s[k].toNat = x := ⟨_, rfl⟩
      have hx1 : x < 256 := by rw [← hx]; exact UInt8.toNat_lt _
      rw [hp] at hlt hnx ⊢
      unfold sumStep at hnx
      rw [hx] at hnx
      obtain ⟨p1, p2⟩ := p
      simp only at hlt hnx ⊢
      have HN := Lib.hid hnx
      clear hnx hp
      obtain ⟨h1, h2⟩ := hlt
      go_wp2
      go_round
      case rel => exact ⟨k + 1, by omega, by go_num, by rw [HN.out]; go_num, by rw [HN.out]; go_num⟩
      case measure => simp [intOf]; omega
    · obtain rfl : k = s.size := by omega
      have ht : s.data.toList.take s.size = s.data.toList := List.take_of_length_le (by simp)
      rw [ht] at hlt ⊢
      obtain ⟨p, hp⟩ : ∃ p, sums s.data.toList = p := ⟨_, rfl⟩
      have hS : sumOf s.data.toList = 256 * p.2 + p.1 := by unfold sumOf; rw [hp]
      rw [hp] at hlt ⊢
      obtain ⟨p1, p2⟩ := p
      simp only at hlt hS ⊢
      have HS := Lib.hid hS
      clear hS hp ht
      obtain ⟨h1, h2⟩ := hlt
      go_wp2
      go_ret
      exact ⟨ret_int (by rw [HS.out]; omega), rfl⟩

set_option maxHeartbeats 400000 in
theorem specSumOf (s : ByteArray) (w : World) (hs : s.size ≤ 1048576) :
    Calls Tryz.prog 74 #[.string s] w fun e w' => e = .returned (.int .i64 (sumOf s.data.toList)) ∧ w = w' := by
  go_enter Tryz.func74, Tryz.ntmps74
  go_wp2
  go_loop [3, 4, 5] (fun a b i => ∃ k : Nat, k ≤ s.size ∧ i = .int .i64 k ∧ a = .int .i64 (sums (s.data.toList.take k)).1 ∧ b = .int .i64 (sums (s.data.toList.take k)).2) (fun _ _ i => s.size - (intOf i).toNat)
  case atStart => exact ⟨0, Nat.zero_le _, rfl, rfl, rfl⟩
  case round =>
    obtain ⟨k, hk, rfl, rfl, rfl⟩ := hrel
    have hlt := sums_lt (s.data.toList.take k)
    by_cases hks : k < s.size
    · have hnx := sums_snoc (s.data.toList.take k) s[k]
      rw [← take_byte s k hks] at hnx
      obtain ⟨p, hp⟩ : ∃ p, sums (s.data.toList.take k) = p := ⟨_, rfl⟩
      obtain ⟨x, hx⟩ : ∃ x, s[k].toNat = x := ⟨_, rfl⟩
      have hx1 : x < 256 := by rw [← hx]; exact UInt8.toNat_lt _
      rw [hp] at hlt hnx ⊢
      unfold sumStep at hnx
      rw [hx] at hnx
      obtain ⟨p1, p2⟩ := p
      simp only at hlt hnx ⊢
      have HN := Lib.hid hnx
      clear hnx hp
      obtain ⟨h1, h2⟩ := hlt
      go_wp2
      go_round
      case rel => exact ⟨k + 1, by omega, by go_num, by rw [HN.out]; go_num, by rw [HN.out]; go_num⟩
      case measure => simp [intOf]; omega
    · obtain rfl : k = s.size := by omega
      have ht : s.data.toList.take s.size = s.data.toList := List.take_of_length_le (by simp)
      rw [ht] at hlt ⊢
      obtain ⟨p, hp⟩ : ∃ p, sums s.data.toList = p := ⟨_, rfl⟩
      have hS : sumOf s.data.toList = 256 * p.2 + p.1 := by unfold sumOf; rw [hp]
      rw [hp] at hlt ⊢
      obtain ⟨p1, p2⟩ := p
      simp only at hlt hS ⊢
      have HS := Lib.hid hS
      clear hS hp ht
      obtain ⟨h1, h2⟩ := hlt
      go_wp2
      go_ret
      exact ⟨ret_int (by rw [HS.out]; omega), rfl⟩

/-- A block. -/
structure Blk where
  num : Nat
  raw : Bool
  size : Nat
  body : ByteArray

/-- A block as a value. -/
abbrev Blk.val (b : Blk) : Value := .agg #[.int .i64 b.num, .bool b.raw, .int .i64 b.size, .string b.body]

/-- That a block is valid. -/
def Blk.ok (b : Blk) : Prop := b.num < 40 ∧ 1 ≤ b.size ∧ b.size ≤ 64 ∧ if b.raw then b.body.size = b.size else 1 ≤ b.body.size ∧ b.body.size < b.size

instance (b : Blk) : Decidable b.ok := by unfold Blk.ok; infer_instance

theorem implSizeValid (n : Int) (b : Bool) (w : World) (hb : b = true ↔ 1 ≤ n ∧ n ≤ 64) :
    Calls Tryz.prog 20 #[.int .i64 n] w fun e w' => e = .returned (.bool b) ∧ w = w' := by
  have HB := Lib.hid hb
  clear hb
  go_enter Tryz.func20, Tryz.ntmps20
  go_wp2
  all_goals go_ret
  all_goals refine ⟨ret_bool ?_, rfl⟩
  all_goals rw [Bool.eq_iff_iff, HB.out]; simp; try omega

set_option maxHeartbeats 400000 in
theorem implBlockValid (b : Blk) (r : Bool) (w : World) (h1 : b.num ≤ 1048576) (h2 : b.size ≤ 1048576) (h3 : b.body.size ≤ 1048576) (hr : r = true ↔ b.ok) :
    Calls Tryz.prog 59 #[b.val] w fun e w' => e = .returned (.bool r) ∧ Below w.heap.size w w' := by
  obtain ⟨num, raw, size, body⟩ := b
  have HR := Lib.hid hr
  clear hr
  simp only at h1 h2 h3
  unfold Blk.val
  cases raw
  all_goals go_enter Tryz.func59, Tryz.ntmps59
  all_goals go_wp2
  all_goals go_ret
  all_goals refine ⟨ret_bool ?_, (Below.refl _ _).alloc (Nat.le_refl _) _⟩
  all_goals rw [Bool.eq_iff_iff, HR.out]; unfold Blk.ok; simp; try omega

/-- The byte that tells the kind of a block. -/
def kindB (raw : Bool) : ByteArray := if raw then ⟨#[0]⟩ else ⟨#[1]⟩

theorem specL5Kind (b : Blk) (w : World) :
    Calls Tryz.prog 72 #[b.val] w fun e w' => e = .returned (.string (kindB b.raw)) ∧ Below w.heap.size w w' := by
  obtain ⟨num, raw, size, body⟩ := b
  unfold Blk.val
  have hc0 := run_one_byte (P := Tryz.prog) Tryz.underlying22 Tryz.underlying5 Tryz.underlying9 0 (by omega)
  have hc1 := run_one_byte (P := Tryz.prog) Tryz.underlying22 Tryz.underlying5 Tryz.underlying9 1 (by omega)
  simp only [Int.natCast_zero, Int.natCast_one] at hc0 hc1
  cases raw
  all_goals go_enter Tryz.func72, Tryz.ntmps72
  all_goals go_wp2
  all_goals go_ret
  all_goals exact ⟨rfl, ((Below.refl _ _).alloc (Nat.le_refl _) _).alloc (by simp) _⟩

end Go.Proofs.YthlgpgaeajfchaaGreatDoor

namespace Go.Proofs.YthlgpgaeajfchaaGreatDoor
open Go.RowKit
set_option linter.unusedVariables false
attribute [local go_sem ↓] Go.wp_at_zero Go.wp_at_succ

/-- The inner bytes of a block. -/
def innerB (b : Blk) : ByteArray := kindB b.raw ++ two b.num ++ two b.size ++ two b.body.size ++ b.body

/-- The bytes of a block. -/
def textB (b : Blk) : ByteArray := ⟨#[181]⟩ ++ innerB b ++ two (sumOf (innerB b).data.toList)

theorem kindB_size (r : Bool) : (kindB r).size = 1 := by cases r <;> rfl

theorem box_cell {w wx : World} {cs : Array Value} {T : TypeId} {j : Nat} {v : Value} (h : Below (w.heap.size + 1) (w.alloc (.cells cs T)) wx) (hj : cs[j]? = some v) : wx.cell? ⟨w.heap.size, j, none⟩ = some v := by
  rw [h.cell (p := ⟨w.heap.size, j, none⟩) (by show w.heap.size < _; omega), World.cell?_alloc_mark]; exact hj

theorem below_call {w wx wy : World} (hb : Below wx.heap.size wx wy) (h : Below w.heap.size w wx) : Below w.heap.size w wy := h.trans (hb.mono h.size)

/-- Four cells of a new block, and that nothing else has turned. -/
theorem box4 {w wx : World} {T : TypeId} {a b c d : Value} (h : Below (w.heap.size + 1) (w.alloc (.cells #[a, b, c, d] T)) wx) :
    wx.cell? ⟨w.heap.size, 0, none⟩ = some a ∧ wx.cell? ⟨w.heap.size, 1, none⟩ = some b ∧ wx.cell? ⟨w.heap.size, 2, none⟩ = some c ∧ wx.cell? ⟨w.heap.size, 3, none⟩ = some d ∧ Below (w.heap.size + 1) (w.alloc (.cells #[a, b, c, d] T)) wx :=
  ⟨box_cell h rfl, box_cell h rfl, box_cell h rfl, box_cell h rfl, h⟩

theorem box4_call {w wx wy : World} {T : TypeId} {a b c d : Value} (hb : Below wx.heap.size wx wy) (h : Below (w.heap.size + 1) (w.alloc (.cells #[a, b, c, d] T)) wx) :
    wy.cell? ⟨w.heap.size, 0, none⟩ = some a ∧ wy.cell? ⟨w.heap.size, 1, none⟩ = some b ∧ wy.cell? ⟨w.heap.size, 2, none⟩ = some c ∧ wy.cell? ⟨w.heap.size, 3, none⟩ = some d ∧ Below (w.heap.size + 1) (w.alloc (.cells #[a, b, c, d] T)) wy :=
  box4 (h.trans (hb.mono (by have := h.size; simp at this; omega)))

set_option maxHeartbeats 4000000 in
theorem specL5Text (b : Blk) (w : World) (h1 : b.num ≤ 100000) (h2 : b.size ≤ 100000) (h3 : b.body.size ≤ 100000) :
    Calls Tryz.prog 50 #[b.val] w fun e w' => e = .returned (.string (textB b)) ∧ Below w.heap.size w w' := by
  have ks : (kindB b.raw).size = 1 := kindB_size _
  have ts : ∀ n, (two n).size = 2 := fun _ => rfl
  have hadd : ∀ W, (Op.stringOp .add (kindB b.raw ++ two b.num ++ two b.size ++ two b.body.size) b.body).run Tryz.prog W = .ok (.string (innerB b)) W := fun W => by
    rw [run_string_add_sum W _ _ (by simp [ks, ts]; omega)]; rfl
  unfold Blk.val
  have hk := specL5Kind b
  unfold Blk.val at hk
  have HK := Lib.hid hk
  clear hk
  go_enter Tryz.func50, Tryz.ntmps50
  go_wp2
  go_region_held3 (fun w' => w'.cell? ⟨w.heap.size, 0, none⟩ = some (.int .i64 b.num) ∧ w'.cell? ⟨w.heap.size, 1, none⟩ = some (.bool b.raw) ∧ w'.cell? ⟨w.heap.size, 2, none⟩ = some (.int .i64 b.size) ∧ w'.cell? ⟨w.heap.size, 3, none⟩ = some (.string b.body) ∧
      Below (w.heap.size + 1) (w.alloc (.cells #[.int .i64 b.num, .bool b.raw, .int .i64 b.size, .string b.body] 65)) w')
    (first | exact box4 (Below.refl _ _).drew | (go_split_ands; exact box4_call (by assumption) (by assumption)))
    (first | (go_at_call 72; refine (HK.out _).mono ?_; rintro e w' ⟨rfl, hb⟩) | (go_at_call 73; refine (specL4Two _ _ (by omega)).mono ?_; rintro e w' ⟨rfl, hb⟩))
  go_split_ands
  have hB : Below (w.heap.size + 1) (w.alloc (.cells #[.int .i64 b.num, .bool b.raw, .int .i64 b.size, .string b.body] 65)) w' := by assumption
  have hW : Below w.heap.size w w' := ((Below.refl _ _).alloc (Nat.le_refl _) _).trans (hB.mono (by omega))
  have hI : (innerB b).size ≤ 1048576 := by unfold innerB; simp [ks, ts]; omega
  have hcv := run_one_byte (P := Tryz.prog) Tryz.underlying22 Tryz.underlying5 Tryz.underlying9 181 (by omega)
  simp only [Int.cast_ofNat_Int] at hcv
  obtain ⟨I, hIe⟩ : ∃ I, innerB b = I := ⟨_, rfl⟩
  have hT : textB b = ⟨#[181]⟩ ++ I ++ two (sumOf I.data.toList) := by unfold textB; rw [hIe]
  have HT := Lib.hid hT
  rw [hIe] at hI ⊢
  have hWs := hW.size
  have hlt := sumOf_lt I.data.toList
  have hadd1 : ∀ W, (Op.stringOp .add ⟨#[181]⟩ I).run Tryz.prog W = .ok (.string (⟨#[181]⟩ ++ I)) W := fun W => run_string_add_sum W _ _ (by show 1 + I.size ≤ _; omega)
  have hadd2 : ∀ W, (Op.stringOp .add (⟨#[181]⟩ ++ I) (two (sumOf I.data.toList))).run Tryz.prog W = .ok (.string (textB b)) W := fun W => by
    rw [HT.out]; exact run_string_add_sum W _ _ (by rw [ByteArray.size_append, ts]; show 1 + I.size + 2 ≤ _; omega)
  clear hT hIe hadd hB HK
  go_wp2
  go_region_with (first | (go_at_call 74; refine (specSumOf _ _ (by assumption)).mono ?_; rintro e w2 ⟨rfl, rfl⟩) | (go_at_call 73; refine (specL4Two _ _ (by omega)).mono ?_; rintro e w2 ⟨rfl, hb⟩; have hW2 : Below w.heap.size w w2 := below_call hb (by go_grown); have hs2 := hW2.size; have hc := (bcell hb).1))
  all_goals go_wp2
  all_goals go_ret
  all_goals exact ⟨rfl, by go_grown⟩

end Go.Proofs.YthlgpgaeajfchaaGreatDoor
