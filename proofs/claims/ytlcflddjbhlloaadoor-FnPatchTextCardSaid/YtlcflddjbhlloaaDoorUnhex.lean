/-
  Texts of hexadecimal digits read back: ParseHex of the program and of the reference.
-/
import Derived.Test.YtlcflddjbhlloaaDoorHex
import Derived.Test.YtlcflddjbhlloaaDoorShelf
import Derived.Test.YtlcflddjbhlloaaDoorNums
import Derived.Lib.Bytealg
namespace Go.Proofs.YtlcflddjbhlloaaDoor
open Go.RowKit
set_option linter.unusedVariables false

/-- The value of a digit. -/
def hexV (c : UInt8) : Option Nat := if 48 ≤ c.toNat ∧ c.toNat ≤ 57 then some (c.toNat - 48) else if 97 ≤ c.toNat ∧ c.toNat ≤ 102 then some (c.toNat - 87) else none

/-- The bytes that digits spell. -/
def unhexL : List UInt8 → Option (List UInt8)
  | [] => some []
  | [_] => none
  | a :: b :: r => match hexV a, hexV b, unhexL r with
    | some x, some y, some l => some (UInt8.ofNat (16 * x + y) :: l)
    | _, _, _ => none

theorem hexV_D (x : Nat) (h : x < 16) : hexV (hexD x) = some x := by
  have h2 : ∀ p : Fin 16, hexV (hexD p.val) = some p.val := by decide +kernel
  exact h2 ⟨x, h⟩

theorem hexV_some (c : UInt8) (x : Nat) (h : hexV c = some x) : x < 16 ∧ hexD x = c := by
  have h2 : ∀ p : Fin 256, ∀ y, hexV (UInt8.ofNat p.val) = some y → y < 16 ∧ hexD y = UInt8.ofNat p.val := by
    intro p
    have h3 : ∀ p : Fin 256, (match hexV (UInt8.ofNat p.val) with | some y => decide (y < 16 ∧ hexD y = UInt8.ofNat p.val) | none => true) = true := by decide +kernel
    intro y hy
    have := h3 p
    rw [hy] at this
    exact of_decide_eq_true this
  have e : UInt8.ofNat c.toNat = c := by simp
  have := h2 ⟨c.toNat, c.toNat_lt⟩ x (by simpa [e] using h)
  simpa [e] using this

theorem unhex_hex : ∀ l : List UInt8, unhexL (hexB l) = some l
  | [] => rfl
  | c :: r => by
    have hc := c.toNat_lt
    have e : hexB (c :: r) = hexD (c.toNat / 16) :: hexD (c.toNat % 16) :: hexB r := by simp [hexB]
    rw [e, unhexL, hexV_D _ (by omega), hexV_D _ (by omega), unhex_hex r]
    simp only
    have : 16 * (c.toNat / 16) + c.toNat % 16 = c.toNat := by omega
    rw [this]
    simp

theorem hex_unhex : ∀ (l r : List UInt8), unhexL l = some r → hexB r = l
  | [], r, h => by simp only [unhexL] at h; injection h with h; subst h; rfl
  | [_], r, h => by simp [unhexL] at h
  | a :: b :: l, r, h => by
    rw [unhexL] at h
    rcases h1 : hexV a with _ | x
    · rw [h1] at h; simp at h
    rcases h2 : hexV b with _ | y
    · rw [h1, h2] at h; simp at h
    rcases h3 : unhexL l with _ | q
    · rw [h1, h2, h3] at h; simp at h
    rw [h1, h2, h3] at h
    simp only at h
    injection h with h
    subst h
    obtain ⟨hx, ex⟩ := hexV_some a x h1
    obtain ⟨hy, ey⟩ := hexV_some b y h2
    have ih := hex_unhex l q h3
    have e : hexB (UInt8.ofNat (16 * x + y) :: q) = hexD ((UInt8.ofNat (16 * x + y)).toNat / 16) :: hexD ((UInt8.ofNat (16 * x + y)).toNat % 16) :: hexB q := by simp [hexB]
    rw [e, ih, UInt8.toNat_ofNat']
    have e1 : (16 * x + y) % 2 ^ 8 / 16 = x := by omega
    have e2 : (16 * x + y) % 2 ^ 8 % 16 = y := by omega
    rw [e1, e2, ex, ey]

theorem unhex_snoc : ∀ (l bs : List UInt8) (a b : UInt8) (x y : Nat), unhexL l = some bs → hexV a = some x → hexV b = some y → unhexL (l ++ [a, b]) = some (bs ++ [UInt8.ofNat (16 * x + y)])
  | [], bs, a, b, x, y, h, ha, hb => by
    simp only [unhexL] at h; injection h with h; subst h
    simp [unhexL, ha, hb]
  | [_], bs, a, b, x, y, h, _, _ => by simp [unhexL] at h
  | c :: d :: l, bs, a, b, x, y, h, ha, hb => by
    rw [unhexL] at h
    rcases h1 : hexV c with _ | u
    · rw [h1] at h; simp at h
    rcases h2 : hexV d with _ | v
    · rw [h1, h2] at h; simp at h
    rcases h3 : unhexL l with _ | q
    · rw [h1, h2, h3] at h; simp at h
    rw [h1, h2, h3] at h
    simp only at h
    injection h with h
    subst h
    have ih := unhex_snoc l q a b x y h3 ha hb
    rw [List.cons_append, List.cons_append, unhexL, h1, h2, ih]
    rfl

theorem unhex_bad : ∀ (l bs : List UInt8) (a b : UInt8) (r : List UInt8), unhexL l = some bs → (hexV a = none ∨ hexV b = none) → unhexL (l ++ a :: b :: r) = none
  | [], bs, a, b, r, h, hab => by
    rw [List.nil_append, unhexL]
    rcases hab with e | e
    · rw [e]
    · rw [e]; cases hexV a <;> rfl
  | [_], bs, a, b, r, h, _ => by simp [unhexL] at h
  | c :: d :: l, bs, a, b, r, h, hab => by
    rw [unhexL] at h
    rcases h1 : hexV c with _ | u
    · rw [h1] at h; simp at h
    rcases h2 : hexV d with _ | v
    · rw [h1, h2] at h; simp at h
    rcases h3 : unhexL l with _ | q
    · rw [h1, h2, h3] at h; simp at h
    have ih := unhex_bad l q a b r h3 hab
    rw [List.cons_append, List.cons_append, unhexL, h1, h2, ih]

/-- What ParseHex returns. -/
def unhexB (s : ByteArray) : ByteArray × Bool :=
  if s.size % 2 = 0 ∧ s.size ≤ 8000 then match unhexL s.data.toList with
    | some l => (⟨l.toArray⟩, true)
    | none => (⟨#[]⟩, false)
  else (⟨#[]⟩, false)

/-- The index of a byte among the digits. -/
def idxV (x : Nat) : Int := match hexV (UInt8.ofNat x) with
  | some v => (v : Int)
  | none => -1

theorem idx_some {x v : Nat} (h : hexV (UInt8.ofNat x) = some v) : idxV x = v := by unfold idxV; rw [h]

theorem idx_none {x : Nat} (h : hexV (UInt8.ofNat x) = none) : idxV x = -1 := by unfold idxV; rw [h]

theorem index_hex (x : Nat) (h : x < 256) : Lib.indexByte (⟨#[48, 49, 50, 51, 52, 53, 54, 55, 56, 57, 97, 98, 99, 100, 101, 102]⟩ : ByteArray).data.toList ((x : Int).toNat.toUInt8) = idxV x := by
  have h2 : ∀ p : Fin 256, Lib.indexByte (⟨#[48, 49, 50, 51, 52, 53, 54, 55, 56, 57, 97, 98, 99, 100, 101, 102]⟩ : ByteArray).data.toList (((p.val : Nat) : Int).toNat.toUInt8) = idxV p.val := by decide +kernel
  exact h2 ⟨x, h⟩

theorem implIndexHex (x : Nat) (w : World) (h : x < 256) :
    Calls Tryd.prog 65 #[.string ⟨#[48, 49, 50, 51, 52, 53, 54, 55, 56, 57, 97, 98, 99, 100, 101, 102]⟩, .int .u8 (x : Int)] w fun e w' => e = .returned (.int .i64 (idxV x)) ∧ w = w' := by
  refine (Tryd.strings_IndexByte _ (x : Int) w).mono ?_
  rintro e w' ⟨rfl, rfl⟩
  exact ⟨by rw [index_hex x h], rfl⟩

theorem idx_at (k : Nat) (h : k < 16) : idxV ((⟨#[48, 49, 50, 51, 52, 53, 54, 55, 56, 57, 97, 98, 99, 100, 101, 102]⟩ : ByteArray)[k]'(by exact h)).toNat = k := by
  have h2 : ∀ p : Fin 16, idxV ((⟨#[48, 49, 50, 51, 52, 53, 54, 55, 56, 57, 97, 98, 99, 100, 101, 102]⟩ : ByteArray)[p.val]'(p.isLt)).toNat = p.val := by decide +kernel
  exact h2 ⟨k, h⟩

theorem idx_no (x : Nat) (hx : x < 256) (h : ∀ (k : Nat) (hk : k < 16), ((⟨#[48, 49, 50, 51, 52, 53, 54, 55, 56, 57, 97, 98, 99, 100, 101, 102]⟩ : ByteArray)[k]'(by exact hk)).toNat ≠ x) : idxV x = -1 := by
  have h2 : ∀ p : Fin 256, (decide (idxV p.val = -1) || (List.range 16).any fun k => ((⟨#[48, 49, 50, 51, 52, 53, 54, 55, 56, 57, 97, 98, 99, 100, 101, 102]⟩ : ByteArray).data.toList.getD k 0).toNat == p.val) = true := by decide +kernel
  have h3 := h2 ⟨x, hx⟩
  rw [Bool.or_eq_true] at h3
  rcases h3 with h3 | h3
  · exact of_decide_eq_true h3
  · obtain ⟨k, hk, he⟩ := List.any_eq_true.1 h3
    have hk16 : k < 16 := List.mem_range.1 hk
    have he' := eq_of_beq he
    have hg : ((⟨#[48, 49, 50, 51, 52, 53, 54, 55, 56, 57, 97, 98, 99, 100, 101, 102]⟩ : ByteArray).data.toList.getD k 0) = (⟨#[48, 49, 50, 51, 52, 53, 54, 55, 56, 57, 97, 98, 99, 100, 101, 102]⟩ : ByteArray)[k]'(by exact hk16) := by
      rw [List.getD_eq_getElem?_getD, List.getElem?_eq_getElem (by exact hk16)]; rfl
    rw [hg] at he'
    exact absurd he' (h k hk16)

set_option maxHeartbeats 1000000 in
theorem specFindHex (x : Nat) (w : World) (h : x < 256) :
    Calls Tryd.prog 44 #[.string ⟨#[48, 49, 50, 51, 52, 53, 54, 55, 56, 57, 97, 98, 99, 100, 101, 102]⟩, .int .u8 (x : Int)] w fun e w' => e = .returned (.int .i64 (idxV x)) ∧ w = w' := by
  obtain ⟨S, hS⟩ : ∃ S : ByteArray, (⟨#[48, 49, 50, 51, 52, 53, 54, 55, 56, 57, 97, 98, 99, 100, 101, 102]⟩ : ByteArray) = S := ⟨_, rfl⟩
  have hz : S.size = 16 := by rw [← hS]; rfl
  have HA := Lib.hid (show ∀ (k : Nat) (hk : k < S.size), idxV (S[k]).toNat = k from fun k hk => by subst hS; exact idx_at k (by exact hk))
  have HNO := Lib.hid (show (∀ (k : Nat) (hk : k < S.size), (S[k]).toNat ≠ x) → idxV x = -1 from fun h' => by subst hS; exact idx_no x h (fun k hk => h' k (by exact hk)))
  rw [hS]
  have HZ := Lib.hid hz
  obtain ⟨m, hm⟩ : ∃ m, S.size = m := ⟨_, rfl⟩
  have hm16 : m = 16 := by omega
  clear hS hz
  go_enter Tryd.func44, Tryd.ntmps44
  go_wp2_with fail
  go_loopw [5] (fun i wr => ∃ k : Nat, k ≤ m ∧ i = .int .i64 (k : Int) ∧ Hid (∀ (j : Nat) (hj : j < S.size), j < k → (S[j]).toNat ≠ x) ∧ wr = w) (fun i _ => m - (intOf i).toNat)
  case atStart => exact ⟨0, Nat.zero_le _, rfl, Lib.hid (fun j hj h => by omega), rfl⟩
  case round =>
    obtain ⟨k, hk, rfl, HP, rfl⟩ := hrel
    by_cases hlt : k < m
    · have hks : k < S.size := by omega
      obtain ⟨y, hy⟩ : ∃ y, (S[k]'hks).toNat = y := ⟨_, rfl⟩
      by_cases he : y = x
      · subst he
        have hr : idxV y = k := by rw [← hy]; exact HA.out k hks
        have HR := Lib.hid hr
        clear hr
        go_wp2_with fail
        go_ret
        exact ⟨ret_int HR.out.symm, rfl⟩
      · have hb : ((y : Int) == x) = false := by rw [beq_eq_false_iff_ne]; omega
        have HN : Hid (∀ (j : Nat) (hj : j < S.size), j < k + 1 → (S[j]).toNat ≠ x) := Lib.hid (fun j hj h => by
          rcases Nat.lt_or_ge j k with h1 | h1
          · exact HP.out j hj h1
          · obtain rfl : j = k := by omega
            rw [hy]; exact he)
        clear he
        go_wp2_with fail
        go_roundw
        case rel => exact ⟨k + 1, by omega, by go_num, HN, trivial⟩
        case measure => simp [intOf]; omega
    · obtain rfl : k = m := by omega
      have HR := Lib.hid (HNO.out fun j hj => HP.out j hj (by omega))
      go_wp2_with fail
      go_ret
      exact ⟨ret_int HR.out.symm, rfl⟩

end Go.Proofs.YtlcflddjbhlloaaDoor
