/-
  The contracts of FormatHex, of the program and of the reference.
-/
import Derived.Test.YtlcflddjbhlloaaDoorInts
import Derived.Deep.RegionHeld3
namespace Go.Proofs.YtlcflddjbhlloaaDoor
open Go.RowKit
set_option linter.unusedVariables false

/-- A hexadecimal digit. -/
def hexD (n : Nat) : UInt8 := if n < 10 then UInt8.ofNat (48 + n) else UInt8.ofNat (87 + n)

/-- Two digits for each byte. -/
def hexB (l : List UInt8) : List UInt8 := l.flatMap fun x => [hexD (x.toNat / 16), hexD (x.toNat % 16)]

theorem hexB_snoc (l : List UInt8) (x : UInt8) : hexB (l ++ [x]) = hexB l ++ [hexD (x.toNat / 16), hexD (x.toNat % 16)] := by simp [hexB, List.flatMap_append]

theorem hexB_length (l : List UInt8) : (hexB l).length = 2 * l.length := by
  induction l with
  | nil => rfl
  | cons x xs ih =>
    have h : hexB (x :: xs) = [hexD (x.toNat / 16), hexD (x.toNat % 16)] ++ hexB xs := by simp [hexB]
    rw [h, List.length_append, ih]; simp; omega

/-- The digits of bytes. -/
def hexOf (s : ByteArray) : ByteArray := if s.size ≤ 4000 then ⟨(hexB s.data.toList).toArray⟩ else ByteArray.empty

theorem take_byte' (s : ByteArray) (k : Nat) (h : k < s.size) : s.data.toList.take (k + 1) = s.data.toList.take k ++ [s[k]] := by
  rw [List.take_succ_eq_append_getElem (by simpa using h)]; rfl

theorem hexC (p : Nat) (h : p < (⟨#[48, 49, 50, 51, 52, 53, 54, 55, 56, 57, 97, 98, 99, 100, 101, 102]⟩ : ByteArray).size) : (⟨#[48, 49, 50, 51, 52, 53, 54, 55, 56, 57, 97, 98, 99, 100, 101, 102]⟩ : ByteArray)[p] = hexD p := by
  have h2 : ∀ p : Fin 16, (⟨#[48, 49, 50, 51, 52, 53, 54, 55, 56, 57, 97, 98, 99, 100, 101, 102]⟩ : ByteArray)[p.val]'(p.isLt) = hexD p.val := by decide +kernel
  exact h2 ⟨p, h⟩

theorem u8_and15 (x : Nat) (hx : x < 256) : bits .and .u8 (x : Int) 15 = ((x % 16 : Nat) : Int) := by
  have h : ∀ y : Fin 256, bits .and .u8 ((y.val : Nat) : Int) 15 = ((y.val % 16 : Nat) : Int) := by decide +kernel
  exact h ⟨x, hx⟩

set_option maxHeartbeats 1000000 in
theorem implFormatHex (s : ByteArray) (w : World) (hs : s.size ≤ 1048576) :
    Calls Tryd.prog 40 #[.string s] w fun e w' => e = .returned (.string (hexOf s)) ∧ Below w.heap.size w w' := by
  by_cases h4 : s.size ≤ 4000
  · have hR : hexOf s = ⟨(hexB s.data.toList).toArray⟩ := if_pos h4
    have hbl : (hexB s.data.toList).length = 2 * s.size := by rw [hexB_length]; simp
    obtain ⟨bs, hbs⟩ : ∃ bs, hexB s.data.toList = bs := ⟨_, rfl⟩
    rw [hbs] at hR hbl
    rw [hR]
    have HBL := Lib.hid hbl
    have HBS := Lib.hid hbs
    clear hR hbl hbs
    obtain ⟨i0, hi0, hz0, hz1, hz2⟩ := info_parts infoByte
    obtain ⟨c2, hc2⟩ : ∃ c2, 2 * s.size = c2 := ⟨_, rfl⟩
    have hmk := fun W => run_make_rowN (P := Tryd.prog) 28 5 i0 _ Tryd.underlying28 hi0 hz0 .i64 .i64 0 c2 (Nat.zero_le _) (by rw [hz2]; omega) (by omega) W
    obtain ⟨cs, hcs⟩ : ∃ cs, madeCells (Value.int .u8 0).cells (c2 * i0.size) = cs := ⟨_, rfl⟩
    have hcsz : cs.size = c2 * 1 := by rw [← hcs, hz1]; simp [madeCells]
    rw [hcs, Int.natCast_zero] at hmk
    have ec2 : 2 * (s.size : Int) = c2 := by omega
    have hc2m : c2 ≤ 8000 := by omega
    have HO := Lib.hid (own_made w cs c2 w.heap.size 1 5 (Nat.le_refl _) (by unfold maxLen; omega) hcsz)
    have HC2 := Lib.hid hc2
    clear hcs hcsz hi0 hz0 hz1 hz2 hc2
    go_enter Tryd.func40, Tryd.ntmps40
    go_wp2_with fail
    clear ec2 hmk
    go_loopw [3, 14] (fun v i wr => ∃ k : Nat, k ≤ s.size ∧ i = .int .i64 k ∧ wr.ownsRow w.heap.size 5 1 v (2 * k) ((hexB (s.data.toList.take k)).map byteV) ∧ Below w.heap.size w wr) (fun _ i _ => s.size - (intOf i).toNat)
    case atStart => exact ⟨0, Nat.zero_le _, rfl, HO.out, (Below.refl _ _).alloc (Nat.le_refl _) _⟩
    case round =>
      obtain ⟨k, hk, rfl, hown, hbel⟩ := hrel
      have hwz := hbel.size
      obtain ⟨Av, cv, rfl, _, _⟩ := own_form hown
      by_cases hlt : k < s.size
      · have ht := take_byte' s k hlt
        obtain ⟨x, hx⟩ : ∃ x, s[k].toNat = x := ⟨_, rfl⟩
        have hx2 : x < 256 := by rw [← hx]; exact UInt8.toNat_lt _
        have hy := hexB_snoc (s.data.toList.take k) s[k]
        rw [← ht, hx] at hy
        have HY := Lib.hid hy
        have i1 : (0 : Int) ≤ k := by omega
        have i2 : (k : Int) < s.size := by omega
        obtain ⟨p, hp⟩ : ∃ p, x / 16 = p := ⟨_, rfl⟩
        obtain ⟨q, hq⟩ : ∃ q, x % 16 = q := ⟨_, rfl⟩
        have hand : bits .and .u8 (x : Int) 15 = (q : Int) := by rw [u8_and15 x hx2, hq]
        have hdiv : (x : Int) / 16 = p := by omega
        have hp2 : p < 16 := by omega
        have hq2 : q < 16 := by omega
        have i3 : (0 : Int) ≤ p := by omega
        have i4 : (p : Int) < 16 := by omega
        have i5 : (0 : Int) ≤ q := by omega
        have i6 : (q : Int) < 16 := by omega
        have HP := Lib.hid (And.intro hp hq)
        clear hy ht hp hq
        go_wp2_with fail
        go_region_held3 (fun _ => True) (trivial)
          (first | (refine step_append_row _ elemByte (by rfl) (.tmp 17) (.tmp 28) (by rfl) w.heap.size _ _ _ (by rfl) (World.ownsRow.drew (hown.alloc _)) _ _ 2 2 [_, _] (by rfl) (Row.drew (Row.newAt wr wr.heap.size rfl _ [_, _] 2 1 rfl)) (by intro u hu; simp at hu; rcases hu with rfl | rfl <;> rfl) (by unfold maxLen; omega) (by omega) (by simp; omega) ?_; intro v2 w2 hv2 hg2 _))
        all_goals
          rw [hexC, hexC] at hv2
          have hbel2 : Below w.heap.size w w2 := (hbel.alloc hwz _).drew.grown hg2 (by simp; omega) (fun g hg => (hown.lt g hg).1)
          have HV := Lib.hid hv2
          clear hand hdiv hg2 hv2 hown hbel
          go_wp2_with fail
          go_roundw
          case rel => exact ⟨k + 1, by omega, by go_num, by rw [HY.out, HP.out.1, HP.out.2, List.map_append, show 2 * (k + 1) = 2 * k + 2 from by omega]; exact HV.out, hbel2⟩
          case measure => simp [intOf]; omega
      · obtain rfl : k = s.size := by omega
        have ht : s.data.toList.take s.size = s.data.toList := List.take_of_length_le (by simp)
        rw [ht, HBS.out] at hown
        have hcv := run_convert_own elemByte Tryd.underlying5 Tryd.underlying9 bs (by rw [HBL.out]; exact hown) HBL.out
        clear ht
        go_wp2_with fail
        go_ret
        exact ⟨rfl, hbel⟩
  · have hR : hexOf s = ByteArray.empty := if_neg h4
    rw [hR]
    clear hR
    go_enter Tryd.func40, Tryd.ntmps40
    go_wp2_with fail
    go_ret
    exact ⟨rfl, Below.refl _ _⟩

set_option maxHeartbeats 1000000 in
theorem specFormatHex (s : ByteArray) (w : World) (hs : s.size ≤ 1048576) :
    Calls Tryd.prog 48 #[.string s] w fun e w' => e = .returned (.string (hexOf s)) ∧ Below w.heap.size w w' := by
  by_cases h4 : s.size ≤ 4000
  · have hR : hexOf s = ⟨(hexB s.data.toList).toArray⟩ := if_pos h4
    have hbl : (hexB s.data.toList).length = 2 * s.size := by rw [hexB_length]; simp
    obtain ⟨bs, hbs⟩ : ∃ bs, hexB s.data.toList = bs := ⟨_, rfl⟩
    rw [hbs] at hR hbl
    rw [hR]
    have HBL := Lib.hid hbl
    have HBS := Lib.hid hbs
    clear hR hbl hbs
    obtain ⟨i0, hi0, hz0, hz1, hz2⟩ := info_parts infoByte
    obtain ⟨c2, hc2⟩ : ∃ c2, 2 * s.size = c2 := ⟨_, rfl⟩
    have hmk := fun W => run_make_rowN (P := Tryd.prog) 28 5 i0 _ Tryd.underlying28 hi0 hz0 .i64 .i64 0 c2 (Nat.zero_le _) (by rw [hz2]; omega) (by omega) W
    obtain ⟨cs, hcs⟩ : ∃ cs, madeCells (Value.int .u8 0).cells (c2 * i0.size) = cs := ⟨_, rfl⟩
    have hcsz : cs.size = c2 * 1 := by rw [← hcs, hz1]; simp [madeCells]
    rw [hcs, Int.natCast_zero] at hmk
    have ec2 : 2 * (s.size : Int) = c2 := by omega
    have hc2m : c2 ≤ 8000 := by omega
    have HO := Lib.hid (own_made w cs c2 w.heap.size 1 5 (Nat.le_refl _) (by unfold maxLen; omega) hcsz)
    have HC2 := Lib.hid hc2
    clear hcs hcsz hi0 hz0 hz1 hz2 hc2
    go_enter Tryd.func48, Tryd.ntmps48
    go_wp2_with fail
    clear ec2 hmk
    go_loopw [4, 5] (fun v i wr => ∃ k : Nat, k ≤ s.size ∧ i = .int .i64 k ∧ wr.ownsRow w.heap.size 5 1 v (2 * k) ((hexB (s.data.toList.take k)).map byteV) ∧ Below w.heap.size w wr) (fun _ i _ => s.size - (intOf i).toNat)
    case atStart => exact ⟨0, Nat.zero_le _, rfl, HO.out, (Below.refl _ _).alloc (Nat.le_refl _) _⟩
    case round =>
      obtain ⟨k, hk, rfl, hown, hbel⟩ := hrel
      have hwz := hbel.size
      obtain ⟨Av, cv, rfl, _, _⟩ := own_form hown
      by_cases hlt : k < s.size
      · have ht := take_byte' s k hlt
        obtain ⟨x, hx⟩ : ∃ x, s[k].toNat = x := ⟨_, rfl⟩
        have hx2 : x < 256 := by rw [← hx]; exact UInt8.toNat_lt _
        have hy := hexB_snoc (s.data.toList.take k) s[k]
        rw [← ht, hx] at hy
        have HY := Lib.hid hy
        have i1 : (0 : Int) ≤ k := by omega
        have i2 : (k : Int) < s.size := by omega
        obtain ⟨p, hp⟩ : ∃ p, x / 16 = p := ⟨_, rfl⟩
        obtain ⟨q, hq⟩ : ∃ q, x % 16 = q := ⟨_, rfl⟩
        have hand : (x : Int) % 16 = q := by omega
        have hd1 : (x : Int).tdiv 16 = p := by rw [Int.tdiv_eq_ediv_of_nonneg (by omega)]; omega
        have hm1 : (x : Int).tmod 16 = q := by rw [Int.tmod_eq_emod_of_nonneg (by omega)]; omega
        have wp : IntKind.u8.wrap (p : Int) = p := by simp [IntKind.wrap, IntKind.signed, IntKind.bits]; omega
        have wq : IntKind.u8.wrap (q : Int) = q := by simp [IntKind.wrap, IntKind.signed, IntKind.bits]; omega
        have hdiv : (x : Int) / 16 = p := by omega
        have hp2 : p < 16 := by omega
        have hq2 : q < 16 := by omega
        have i3 : (0 : Int) ≤ p := by omega
        have i4 : (p : Int) < 16 := by omega
        have i5 : (0 : Int) ≤ q := by omega
        have i6 : (q : Int) < 16 := by omega
        have HP := Lib.hid (And.intro hp hq)
        clear hy ht hp hq
        go_wp2_with fail
        go_region_held3 (fun _ => True) (trivial)
          (first | (refine step_append_row _ elemByte (by rfl) (.tmp 19) (.tmp 32) (by rfl) w.heap.size _ _ _ (by rfl) (World.ownsRow.drew (hown.alloc _)) _ _ 2 2 [_, _] (by rfl) (Row.drew (Row.newAt wr wr.heap.size rfl _ [_, _] 2 1 rfl)) (by intro u hu; simp at hu; rcases hu with rfl | rfl <;> rfl) (by unfold maxLen; omega) (by omega) (by simp; omega) ?_; intro v2 w2 hv2 hg2 _))
        all_goals
          rw [hexC, hexC] at hv2
          have hbel2 : Below w.heap.size w w2 := (hbel.alloc hwz _).drew.grown hg2 (by simp; omega) (fun g hg => (hown.lt g hg).1)
          have HV := Lib.hid hv2
          clear hand hdiv hd1 hm1 wp wq hg2 hv2 hown hbel
          go_wp2_with fail
          go_roundw
          case rel => exact ⟨k + 1, by omega, by go_num, by rw [HY.out, HP.out.1, HP.out.2, List.map_append, show 2 * (k + 1) = 2 * k + 2 from by omega]; exact HV.out, hbel2⟩
          case measure => simp [intOf]; omega
      · obtain rfl : k = s.size := by omega
        have ht : s.data.toList.take s.size = s.data.toList := List.take_of_length_le (by simp)
        rw [ht, HBS.out] at hown
        have hcv := run_convert_own elemByte Tryd.underlying5 Tryd.underlying9 bs (by rw [HBL.out]; exact hown) HBL.out
        clear ht
        go_wp2_with fail
        go_ret
        exact ⟨rfl, hbel⟩
  · have hR : hexOf s = ByteArray.empty := if_neg h4
    rw [hR]
    clear hR
    obtain ⟨i0, hi0, hz0, hz1, hz2⟩ := info_parts infoByte
    obtain ⟨c2, hc2⟩ : ∃ c2, 2 * s.size = c2 := ⟨_, rfl⟩
    have hmk := fun W => run_make_rowN (P := Tryd.prog) 28 5 i0 _ Tryd.underlying28 hi0 hz0 .i64 .i64 0 c2 (Nat.zero_le _) (by rw [hz2]; omega) (by omega) W
    obtain ⟨cs, hcs⟩ : ∃ cs, madeCells (Value.int .u8 0).cells (c2 * i0.size) = cs := ⟨_, rfl⟩
    rw [hcs, Int.natCast_zero] at hmk
    have ec2 : 2 * (s.size : Int) = c2 := by omega
    clear hcs hi0 hz0 hz1 hz2 hc2
    go_enter Tryd.func48, Tryd.ntmps48
    go_wp2_with fail
    go_ret
    exact ⟨rfl, (Below.refl _ _).alloc (Nat.le_refl _) _⟩

end Go.Proofs.YtlcflddjbhlloaaDoor
