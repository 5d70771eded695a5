/-
  Plain facts on the bytes of a block that stands in a string.
-/
import Derived.Test.YthfckbfllodcjaaParse
namespace Go.Proofs.Ythfckbfllodcjaa
open Go.RowKit
set_option linter.unusedVariables false

theorem extract_append (s : ByteArray) (i j k : Nat) (h1 : i ≤ j) (h2 : j ≤ k) : s.extract i j ++ s.extract j k = s.extract i k := by
  apply ByteArray.ext
  rw [ByteArray.data_append, ByteArray.data_extract, ByteArray.data_extract, ByteArray.data_extract, Array.extract_append_extract, Nat.min_eq_left h1, Nat.max_eq_right h2]

theorem ba_ext {a b : ByteArray} (h : a.size = b.size) (h2 : ∀ i, i < a.size → bAt a i = bAt b i) : a = b := by
  apply ByteArray.ext
  apply Array.ext
  · exact h
  · intro i h3 h4
    have := h2 i h3
    rw [bAt_lt (s := a) h3, bAt_lt (s := b) (h ▸ h3)] at this
    exact this

theorem bAt_extract (s : ByteArray) (i j n : Nat) (h : i + n < j) (hj : j ≤ s.size) : bAt (s.extract i j) n = bAt s (i + n) := by
  rw [bAt_lt (by simp; omega), bAt_lt (by omega)]
  simp [ByteArray.getElem_extract]

theorem numAt_extract (s : ByteArray) (i j n : Nat) (h : i + n + 1 < j) (hj : j ≤ s.size) : numAt (s.extract i j) n = numAt s (i + n) := by
  unfold numAt
  rw [bAt_extract s i j n (by omega) hj, bAt_extract s i j (n + 1) (by omega) hj]; rfl

theorem two_size (n : Nat) : (two n).size = 2 := rfl

theorem two_numAt (s : ByteArray) (i : Nat) (h : i + 2 ≤ s.size) : two (numAt s i) = s.extract i (i + 2) := by
  apply ba_ext
  · rw [two_size]; simp; omega
  · intro j hj
    rw [two_size] at hj
    rw [bAt_extract s i (i + 2) j (by omega) h]
    have h1 := UInt8.toNat_lt (bAt s i)
    have h2 := UInt8.toNat_lt (bAt s (i + 1))
    match j, hj with
    | 0, _ =>
      show UInt8.ofNat (numAt s i / 256) = bAt s i
      unfold numAt
      rw [show (256 * (bAt s i).toNat + (bAt s (i + 1)).toNat) / 256 = (bAt s i).toNat from by omega]
      exact UInt8.ofNat_toNat
    | 1, _ =>
      show UInt8.ofNat (numAt s i) = bAt s (i + 1)
      apply UInt8.toNat_inj.1
      rw [UInt8.toNat_ofNat']
      unfold numAt; omega

theorem two_inj {a b : Nat} (ha : a < 65536) (hb : b < 65536) (h : two a = two b) : a = b := by
  have h0 : UInt8.ofNat (a / 256) = UInt8.ofNat (b / 256) := congrArg (fun s => bAt s 0) h
  have h1 : UInt8.ofNat a = UInt8.ofNat b := congrArg (fun s => bAt s 1) h
  have e0 := congrArg UInt8.toNat h0
  have e1 := congrArg UInt8.toNat h1
  rw [UInt8.toNat_ofNat', UInt8.toNat_ofNat'] at e0 e1
  omega

theorem one_extract (s : ByteArray) (i : Nat) (x : UInt8) (h : i + 1 ≤ s.size) (hx : bAt s i = x) : (⟨#[x]⟩ : ByteArray) = s.extract i (i + 1) := by
  apply ba_ext
  · show 1 = _; simp; omega
  · intro j hj
    have hj : j < 1 := hj
    rw [bAt_extract s i (i + 1) j (by omega) h]
    obtain rfl : j = 0 := by omega
    exact hx.symm

/-- Four cells of a block that is known, and that nothing up to it has turned. -/
theorem box4g {w0 wx : World} {g : Nat} {T : TypeId} {a b c d : Value} (hg : w0.heap[g]? = some (.cells #[a, b, c, d] T (0, 0))) (h : Below (g + 1) w0 wx) :
    wx.cell? ⟨g, 0, none⟩ = some a ∧ wx.cell? ⟨g, 1, none⟩ = some b ∧ wx.cell? ⟨g, 2, none⟩ = some c ∧ wx.cell? ⟨g, 3, none⟩ = some d ∧ Below (g + 1) w0 wx := by
  have h' : wx.heap[g]? = some (.cells #[a, b, c, d] T (0, 0)) := (h.block g (by omega)).trans hg
  exact ⟨cell_of_row wx g 0 _ T _ h', cell_of_row wx g 1 _ T _ h', cell_of_row wx g 2 _ T _ h', cell_of_row wx g 3 _ T _ h', h⟩

theorem box4g_call {w0 wx wy : World} {g : Nat} {T : TypeId} {a b c d : Value} (hg : w0.heap[g]? = some (.cells #[a, b, c, d] T (0, 0))) (hb : Below wx.heap.size wx wy) (h : Below (g + 1) w0 wx) :
    wy.cell? ⟨g, 0, none⟩ = some a ∧ wy.cell? ⟨g, 1, none⟩ = some b ∧ wy.cell? ⟨g, 2, none⟩ = some c ∧ wy.cell? ⟨g, 3, none⟩ = some d ∧ Below (g + 1) w0 wy := by
  have hlt : g < w0.heap.size := (Array.getElem?_eq_some_iff.1 hg).1
  exact box4g hg (h.trans (hb.mono (by have := h.size; omega)))

/-- The inner bytes of the block that stands at an index are the bytes that stand there. -/
theorem inner_pbBlk (s : ByteArray) (k : Nat) (h1 : k + 10 ≤ s.size) (h2 : (bAt s (k + 1)).toNat ≤ 1) (h3 : pbEnd s k + 2 ≤ s.size) : innerB (pbBlk s k) = s.extract (k + 1) (pbEnd s k) := by
  have hk : kindB (bAt s (k + 1) == 0) = s.extract (k + 1) (k + 1 + 1) := by
    by_cases h : bAt s (k + 1) = 0
    · rw [← one_extract s (k + 1) 0 (by omega) h, h]; rfl
    · have h' : bAt s (k + 1) = 1 := by
        apply UInt8.toNat_inj.1
        have : (bAt s (k + 1)).toNat ≠ 0 := fun e => h (UInt8.toNat_inj.1 e)
        show _ = 1
        omega
      rw [← one_extract s (k + 1) 1 (by omega) h', h']; rfl
  have hn : (s.extract (k + 8) (pbEnd s k)).size = numAt s (k + 6) := by
    unfold pbEnd at h3 ⊢
    simp; omega
  have he : k + 8 ≤ pbEnd s k := by unfold pbEnd; omega
  unfold innerB pbBlk
  simp only []
  rw [hk, hn, two_numAt s (k + 2) (by omega), two_numAt s (k + 4) (by omega), two_numAt s (k + 6) (by omega)]
  rw [show k + 1 + 1 = k + 2 from rfl, show k + 2 + 2 = k + 4 from rfl, show k + 4 + 2 = k + 6 from rfl, show k + 6 + 2 = k + 8 from rfl]
  rw [extract_append s (k + 1) (k + 2) (k + 4) (by omega) (by omega), extract_append s (k + 1) (k + 4) (k + 6) (by omega) (by omega), extract_append s (k + 1) (k + 6) (k + 8) (by omega) (by omega), extract_append s (k + 1) (k + 8) (pbEnd s k) (by omega) (by omega)]

/-- The whole bytes are those that stand there, if the checksum is right. -/
theorem text_pbBlk (s : ByteArray) (k : Nat) (h1 : k + 10 ≤ s.size) (h0 : (bAt s k).toNat = 181) (h2 : (bAt s (k + 1)).toNat ≤ 1) (h3 : pbEnd s k + 2 ≤ s.size) :
    textB (pbBlk s k) = s.extract k (pbEnd s k + 2) ↔ sumOf (s.extract (k + 1) (pbEnd s k)).data.toList = numAt s (pbEnd s k) := by
  have he : k + 8 ≤ pbEnd s k := by unfold pbEnd; omega
  have h181 : bAt s k = 181 := by apply UInt8.toNat_inj.1; rw [h0]; rfl
  have hx : s.extract k (pbEnd s k + 2) = ⟨#[181]⟩ ++ s.extract (k + 1) (pbEnd s k) ++ two (numAt s (pbEnd s k)) := by
    rw [one_extract s k 181 (by omega) h181, two_numAt s (pbEnd s k) h3, extract_append s k (k + 1) (pbEnd s k) (by omega) (by omega), extract_append s k (pbEnd s k) (pbEnd s k + 2) (by omega) (by omega)]
  unfold textB
  rw [inner_pbBlk s k h1 h2 h3, hx]
  constructor
  · intro h
    exact two_inj (sumOf_lt _) (numAt_lt _ _) ((ByteArray.append_right_inj _).1 h)
  · intro h; rw [h]

/-- Texts with the same bytes are the same. -/
theorem ba_toList {a b : ByteArray} (h : a.toList = b.toList) : a = b := by
  rw [ByteArray.toList_eq, ByteArray.toList_eq] at h
  exact ByteArray.ext (Array.toList_inj.1 h)

end Go.Proofs.Ythfckbfllodcjaa
