/-
  Plain facts on the bytes of a block that stands in a string.
  Plain facts on containers: the blocks that stand in some bytes, one behind the other.
  The contract of NextBlock, of the program: where the next block begins.
-/
import Derived.Test.YthlgpgaeajfchaaGreatDoorParse

namespace Go.Proofs.YthlgpgaeajfchaaGreatDoor
open Go.RowKit
set_option linter.unusedVariables false

theorem extract_append (s : ByteArray) (i j k : Nat) (h1 : i ≤ j) (h2 : j ≤ k) : s.extract i j ++ s.extract j k = s.extract i k := by
  apply ByteArray.ext
  rw [ByteArray.data_append, ByteArray.data_extract, ByteArray.data_extract, ByteArray.data_extract, Array.extract_append_extract, Nat.min_eq_left h1, Nat.max_eq_right h2]

theorem ba_ext {a b : ByteArray} (h : a.size = b.size) (h2 : ∀ i, i < a.size → bAt a i = bAt b i) : a = b := by
  apply ByteArray.ext
  apply Array.ext
  · exact h
  · intro i h3 h4
    have := h2 i h3
    rw [bAt_lt (s := a) h3, bAt_lt (s := b) (h ▸ h3)] at this
    exact this

theorem bAt_extract (s : ByteArray) (i j n : Nat) (h : i + n < j) (hj : j ≤ s.size) : bAt (s.extract i j) n = bAt s (i + n) := by
  rw [bAt_lt (by simp; omega), bAt_lt (by omega)]
  simp [ByteArray.getElem_extract]

theorem numAt_extract (s : ByteArray) (i j n : Nat) (h : i + n + 1 < j) (hj : j ≤ s.size) : numAt (s.extract i j) n = numAt s (i + n) := by
  unfold numAt
  rw [bAt_extract s i j n (by omega) hj, bAt_extract s i j (n + 1) (by omega) hj]; rfl

theorem two_size (n : Nat) : (two n).size = 2 := rfl

theorem two_numAt (s : ByteArray) (i : Nat) (h : i + 2 ≤ s.size) : two (numAt s i) = s.extract i (i + 2) := by
  apply ba_ext
  · rw [two_size]; simp; omega
  · intro j hj
    rw [two_size] at hj
    rw [bAt_extract s i (i + 2) j (by omega) h]
    have h1 := UInt8.toNat_lt (bAt s i)
    have h2 := UInt8.toNat_lt (bAt s (i + 1))
    match j, hj with
    | 0, _ =>
      show UInt8.ofNat (numAt s i / 256) = bAt s i
      unfold numAt
      rw [show (256 * (bAt s i).toNat + (bAt s (i + 1)).toNat) / 256 = (bAt s i).toNat from by omega]
      exact UInt8.ofNat_toNat
    | 1, _ =>
      show UInt8.ofNat (numAt s i) = bAt s (i + 1)
      apply UInt8.toNat_inj.1
      rw [UInt8.toNat_ofNat']
      unfold numAt; omega

theorem two_inj {a b : Nat} (ha : a < 65536) (hb : b < 65536) (h : two a = two b) : a = b := by
  have h0 : UInt8.ofNat (a / 256) = UInt8.ofNat (b / 256) := congrArg (fun s => bAt s 0) h
  have h1 : UInt8.ofNat a = UInt8.ofNat b := congrArg (fun s => bAt s 1) h
  have e0 := congrArg UInt8.toNat h0
  have e1 := congrArg UInt8.toNat h1
  rw [UInt8.toNat_ofNat', UInt8.toNat_ofNat'] at e0 e1
  omega

theorem one_extract (s : ByteArray) (i : Nat) (x : UInt8) (h : i + 1 ≤ s.size) (hx : bAt s i = x) : (⟨#[x]⟩ : ByteArray) = s.extract i (i + 1) := by
  apply ba_ext
  · show 1 = _; simp; omega
  · intro j hj
    have hj : j < 1 := hj
    rw [bAt_extract s i (i + 1) j (by omega) h]
    obtain rfl : j = 0 := by omega
    exact hx.symm

/-- Four cells of a block that is known, and that nothing up to it has turned. -/
theorem box4g {w0 wx : World} {g : Nat} {T : TypeId} {a b c d : Value} (hg : w0.heap[g]? = some (.cells #[a, b, c, d] T (0, 0))) (h : Below (g + 1) w0 wx) :
    wx.cell? ⟨g, 0, none⟩ = some a ∧ wx.cell? ⟨g, 1, none⟩ = some b ∧ wx.cell? ⟨g, 2, none⟩ = some c ∧ wx.cell? ⟨g, 3, none⟩ = some d ∧ Below (g + 1) w0 wx := by
  have h' : wx.heap[g]? = some (.cells #[a, b, c, d] T (0, 0)) := (h.block g (by omega)).trans hg
  exact ⟨cell_of_row wx g 0 _ T _ h', cell_of_row wx g 1 _ T _ h', cell_of_row wx g 2 _ T _ h', cell_of_row wx g 3 _ T _ h', h⟩

theorem box4g_call {w0 wx wy : World} {g : Nat} {T : TypeId} {a b c d : Value} (hg : w0.heap[g]? = some (.cells #[a, b, c, d] T (0, 0))) (hb : Below wx.heap.size wx wy) (h : Below (g + 1) w0 wx) :
    wy.cell? ⟨g, 0, none⟩ = some a ∧ wy.cell? ⟨g, 1, none⟩ = some b ∧ wy.cell? ⟨g, 2, none⟩ = some c ∧ wy.cell? ⟨g, 3, none⟩ = some d ∧ Below (g + 1) w0 wy := by
  have hlt : g < w0.heap.size := (Array.getElem?_eq_some_iff.1 hg).1
  exact box4g hg (h.trans (hb.mono (by have := h.size; omega)))

/-- The inner bytes of the block that stands at an index are the bytes that stand there. -/
theorem inner_pbBlk (s : ByteArray) (k : Nat) (h1 : k + 10 ≤ s.size) (h2 : (bAt s (k + 1)).toNat ≤ 1) (h3 : pbEnd s k + 2 ≤ s.size) : innerB (pbBlk s k) = s.extract (k + 1) (pbEnd s k) := by
  have hk : kindB (bAt s (k + 1) == 0) = s.extract (k + 1) (k + 1 + 1) := by
    by_cases h : bAt s (k + 1) = 0
    · rw [← one_extract s (k + 1) 0 (by omega) h, h]; rfl
    · have h' : bAt s (k + 1) = 1 := by
        apply UInt8.toNat_inj.1
        have : (bAt s (k + 1)).toNat ≠ 0 := fun e => h (UInt8.toNat_inj.1 e)
        show _ = 1
        omega
      rw [← one_extract s (k + 1) 1 (by omega) h', h']; rfl
  have hn : (s.extract (k + 8) (pbEnd s k)).size = numAt s (k + 6) := by
    unfold pbEnd at h3 ⊢
    simp; omega
  have he : k + 8 ≤ pbEnd s k := by unfold pbEnd; omega
  unfold innerB pbBlk
  simp only []
  rw [hk, hn, two_numAt s (k + 2) (by omega), two_numAt s (k + 4) (by omega), two_numAt s (k + 6) (by omega)]
  rw [show k + 1 + 1 = k + 2 from rfl, show k + 2 + 2 = k + 4 from rfl, show k + 4 + 2 = k + 6 from rfl, show k + 6 + 2 = k + 8 from rfl]
  rw [extract_append s (k + 1) (k + 2) (k + 4) (by omega) (by omega), extract_append s (k + 1) (k + 4) (k + 6) (by omega) (by omega), extract_append s (k + 1) (k + 6) (k + 8) (by omega) (by omega), extract_append s (k + 1) (k + 8) (pbEnd s k) (by omega) (by omega)]

/-- The whole bytes are those that stand there, if the checksum is right. -/
theorem text_pbBlk (s : ByteArray) (k : Nat) (h1 : k + 10 ≤ s.size) (h0 : (bAt s k).toNat = 181) (h2 : (bAt s (k + 1)).toNat ≤ 1) (h3 : pbEnd s k + 2 ≤ s.size) :
    textB (pbBlk s k) = s.extract k (pbEnd s k + 2) ↔ sumOf (s.extract (k + 1) (pbEnd s k)).data.toList = numAt s (pbEnd s k) := by
  have he : k + 8 ≤ pbEnd s k := by unfold pbEnd; omega
  have h181 : bAt s k = 181 := by apply UInt8.toNat_inj.1; rw [h0]; rfl
  have hx : s.extract k (pbEnd s k + 2) = ⟨#[181]⟩ ++ s.extract (k + 1) (pbEnd s k) ++ two (numAt s (pbEnd s k)) := by
    rw [one_extract s k 181 (by omega) h181, two_numAt s (pbEnd s k) h3, extract_append s k (k + 1) (pbEnd s k) (by omega) (by omega), extract_append s k (pbEnd s k) (pbEnd s k + 2) (by omega) (by omega)]
  unfold textB
  rw [inner_pbBlk s k h1 h2 h3, hx]
  constructor
  · intro h
    exact two_inj (sumOf_lt _) (numAt_lt _ _) ((ByteArray.append_right_inj _).1 h)
  · intro h; rw [h]

/-- Texts with the same bytes are the same. -/
theorem ba_toList {a b : ByteArray} (h : a.toList = b.toList) : a = b := by
  rw [ByteArray.toList_eq, ByteArray.toList_eq] at h
  exact ByteArray.ext (Array.toList_inj.1 h)

end Go.Proofs.YthlgpgaeajfchaaGreatDoor

namespace Go.Proofs.YthlgpgaeajfchaaGreatDoor
set_option linter.unusedVariables false

/-- The sizes of blocks together. -/
def szs : List Blk → Nat
  | [] => 0
  | b :: bs => b.size + szs bs

theorem szs_append (a b : List Blk) : szs (a ++ b) = szs a + szs b := by
  induction a with
  | nil => simp [szs]
  | cons x xs ih => simp [szs, ih]; omega

theorem pbEnd_ge (s : ByteArray) (k : Nat) : k + 8 ≤ pbEnd s k := by unfold pbEnd; omega

theorem pbOk_lt {s : ByteArray} {k : Nat} (h : pbOk s k) : k < s.size := by have := h.1; omega

theorem pbOk_end {s : ByteArray} {k : Nat} (h : pbOk s k) : pbEnd s k + 2 ≤ s.size := h.2.2.2.1

theorem pbBlk_ok {s : ByteArray} {k : Nat} (h : pbOk s k) : (pbBlk s k).ok := h.2.2.2.2.1

/-- The blocks of a container from an index on, behind those that were found. -/
def conts (s : ByteArray) (k : Nat) (acc : List Blk) : Option (List Blk) :=
  if h : k < s.size then
    if pbOk s k ∧ (pbBlk s k).num = acc.length then conts s (pbEnd s k + 2) (acc ++ [pbBlk s k]) else none
  else if szs acc ≤ 2000 then some acc else none
termination_by s.size - k
decreasing_by have := pbEnd_ge s k; omega

theorem conts_next {s : ByteArray} {k : Nat} {acc : List Blk} (h : k < s.size) (h1 : pbOk s k) (h2 : (pbBlk s k).num = acc.length) : conts s k acc = conts s (pbEnd s k + 2) (acc ++ [pbBlk s k]) := by
  rw [conts, dif_pos h, if_pos ⟨h1, h2⟩]

theorem conts_bad {s : ByteArray} {k : Nat} {acc : List Blk} (h : k < s.size) (h1 : ¬ (pbOk s k ∧ (pbBlk s k).num = acc.length)) : conts s k acc = none := by
  rw [conts, dif_pos h, if_neg h1]

theorem conts_end {s : ByteArray} {k : Nat} {acc : List Blk} (h : s.size ≤ k) : conts s k acc = if szs acc ≤ 2000 then some acc else none := by
  rw [conts, dif_neg (by omega)]

/-- Blocks that were found have the numbers of their places, and each one is valid. -/
def Numbered (bs : List Blk) : Prop := ∀ (i : Nat) (b : Blk), bs[i]? = some b → b.num = i ∧ b.ok

theorem Numbered.nil : Numbered [] := by intro i b h; simp at h

theorem Numbered.snoc {bs : List Blk} {b : Blk} (h : Numbered bs) (h1 : b.num = bs.length) (h2 : b.ok) : Numbered (bs ++ [b]) := by
  intro i c hc
  rw [List.getElem?_append] at hc
  split at hc
  · exact h i c hc
  · rename_i hi
    have h0 : i - bs.length = 0 := by
      rcases Nat.eq_zero_or_pos (i - bs.length) with h0 | h0
      · exact h0
      · rw [List.getElem?_eq_none (by simp; omega)] at hc
        cases hc
    rw [h0] at hc
    simp only [List.getElem?_cons_zero, Option.some.injEq] at hc
    subst hc
    exact ⟨by omega, h2⟩

theorem Numbered.length {bs : List Blk} (h : Numbered bs) : bs.length ≤ 40 := by
  rcases Nat.lt_or_ge 40 bs.length with hl | hl
  · obtain ⟨h1, h2⟩ := h 40 _ (List.getElem?_eq_getElem hl)
    have := h2.1
    omega
  · exact hl

theorem Numbered.of_mem {bs : List Blk} (h : Numbered bs) {b : Blk} (hb : b ∈ bs) : b.ok := by
  obtain ⟨i, hi, rfl⟩ := List.mem_iff_getElem.1 hb
  exact (h i _ (List.getElem?_eq_getElem hi)).2

theorem conts_numbered {s : ByteArray} {k : Nat} {acc bs : List Blk} (h : Numbered acc) (hc : conts s k acc = some bs) : Numbered bs := by
  by_cases hk : k < s.size
  · by_cases h1 : pbOk s k ∧ (pbBlk s k).num = acc.length
    · rw [conts_next hk h1.1 h1.2] at hc
      exact conts_numbered (h.snoc h1.2 (pbBlk_ok h1.1)) hc
    · rw [conts_bad hk h1] at hc
      cases hc
  · rw [conts_end (by omega)] at hc
    split at hc
    · injection hc with hc
      subst hc
      exact h
    · cases hc
termination_by s.size - k
decreasing_by have := pbEnd_ge s k; omega

/-- The blocks of a container. -/
def contB (s : ByteArray) : Option (List Blk) := conts s 0 []

theorem contB_numbered {s : ByteArray} {bs : List Blk} (h : contB s = some bs) : Numbered bs := conts_numbered Numbered.nil h

/-- What is known of blocks that were found together: their sizes. -/
theorem szs_le {bs : List Blk} (h : ∀ b ∈ bs, b.ok) : szs bs ≤ 64 * bs.length := by
  induction bs with
  | nil => simp [szs]
  | cons x xs ih =>
    have h1 := ih fun b hb => h b (List.mem_cons_of_mem _ hb)
    have h2 := (h x (List.mem_cons_self ..)).2.2.1
    simp [szs]
    omega

end Go.Proofs.YthlgpgaeajfchaaGreatDoor

namespace Go.Proofs.YthlgpgaeajfchaaGreatDoor
open Go.RowKit
set_option linter.unusedVariables false

theorem implParseYes (s : ByteArray) (k : Nat) (a : Int) (w : World) (hs : s.size ≤ 1048576) (ha : a = k) (h : pbOk s k) (num size n : Nat) (raw : Bool) (body : ByteArray) (hb : pbBlk s k = ⟨num, raw, size, body⟩) (hn : pbEnd s k + 2 = n) :
    Calls Tryz.prog 36 #[.string s, .int .i64 a] w fun e w' => e = .returned (.tuple #[.agg #[.int .i64 num, .bool raw, .int .i64 size, .string body], .int .i64 n, .bool true]) ∧ Below w.heap.size w w' := by
  refine (implParseBlock s a w hs).mono ?_
  rintro e w' ⟨rfl, h'⟩
  subst ha
  exact ⟨by rw [parse_yes h, hb, hn], h'⟩

theorem implParseNo (s : ByteArray) (k : Nat) (a : Int) (w : World) (hs : s.size ≤ 1048576) (ha : a = k) (h : ¬ pbOk s k) :
    Calls Tryz.prog 36 #[.string s, .int .i64 a] w fun e w' => e = .returned (.tuple #[.agg #[.int .i64 0, .bool false, .int .i64 0, .string ByteArray.empty], .int .i64 0, .bool false]) ∧ Below w.heap.size w w' := by
  refine (implParseBlock s a w hs).mono ?_
  rintro e w' ⟨rfl, h'⟩
  subst ha
  exact ⟨by rw [parse_no' h]; rfl, h'⟩

/-- Where the next block begins, or -1. -/
def nextB (s : ByteArray) (k : Nat) : Int := if k < s.size then if pbOk s k then k else nextB s (k + 1) else -1
termination_by s.size - k

theorem nextB_hit {s : ByteArray} {k : Nat} (h : pbOk s k) : nextB s k = k := by rw [nextB, if_pos (pbOk_lt h), if_pos h]

theorem nextB_miss {s : ByteArray} {k : Nat} (h0 : k < s.size) (h : ¬ pbOk s k) : nextB s k = nextB s (k + 1) := by rw [nextB, if_pos h0, if_neg h]

theorem nextB_end {s : ByteArray} {k : Nat} (h : s.size ≤ k) : nextB s k = -1 := by rw [nextB, if_neg (by omega)]

/-- What NextBlock returns. -/
def nextBlk (s : ByteArray) (a : Int) : Int := if s.size ≤ 8000 ∧ 0 ≤ a then nextB s a.toNat else -1

end Go.Proofs.YthlgpgaeajfchaaGreatDoor
