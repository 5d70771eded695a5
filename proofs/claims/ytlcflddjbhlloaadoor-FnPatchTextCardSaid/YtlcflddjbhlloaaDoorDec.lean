/-
  Decimal numbers: l9Dec of the reference, strconv.Itoa by its contract.
-/
import Derived.Test.YtlcflddjbhlloaaDoorMem
import Derived.Test.YtlcflddjbhlloaaDoorSmall
import Derived.Lib.ItoaNum
namespace Go.Proofs.YtlcflddjbhlloaaDoor
open Go.RowKit
set_option linter.unusedVariables false

/-- A number's digits. -/
def decB (n : Nat) : ByteArray := ⟨(Lib.decDigits n).toArray⟩

theorem decDigits_length (n : Nat) : (Lib.decDigits n).length ≤ n + 1 := by
  induction n using Nat.strongRecOn with
  | ind n ih =>
    rw [Lib.decDigits]
    split
    · simp
    · have := ih (n / 10) (by omega)
      simp only [List.length_append, List.length_cons, List.length_nil]
      omega

theorem decB_size (n : Nat) : (decB n).size ≤ n + 1 := by
  have := decDigits_length n
  show (Lib.decDigits n).toArray.size ≤ _
  simpa using this

theorem decB_small {n : Nat} (h : n < 10) : decB n = ⟨#[UInt8.ofNat (48 + n)]⟩ := by
  unfold decB; rw [Lib.decDigits, dif_pos h]

theorem decB_step {n : Nat} (h : ¬ n < 10) : decB n = decB (n / 10) ++ ⟨#[UInt8.ofNat (48 + n % 10)]⟩ := by
  apply ByteArray.ext
  unfold decB
  conv => lhs; rw [Lib.decDigits, dif_neg h]
  simp

set_option maxHeartbeats 1000000 in
theorem specL9Dec (n : Nat) (w : World) (hn : n ≤ 1048576) :
    Calls Tryd.prog 46 #[.int .i64 (n : Int)] w fun e w' => e = .returned (.string (decB n)) ∧ Below w.heap.size w w' := by
  have hbyte := fun (x : Nat) (hx : x < 256) W a h => run_one_byte (P := Tryd.prog) Tryd.underlying28 Tryd.underlying5 Tryd.underlying9 x hx W a h
  go_enter Tryd.func46, Tryd.ntmps46
  go_wp2_with fail
  go_loopw [0, 3] (fun i v wr => ∃ (k : Nat) (out : ByteArray), i = .int .i64 (k : Int) ∧ v = .string out ∧ k ≤ n ∧ out.size + k ≤ n ∧ Hid (decB n = decB k ++ out) ∧ Below w.heap.size w wr) (fun i _ _ => (intOf i).toNat)
  case atStart => exact ⟨n, ⟨#[]⟩, rfl, rfl, Nat.le_refl _, by show 0 + n ≤ n; omega, Lib.hid (by exact ByteArray.append_empty.symm), Below.refl _ _⟩
  case round =>
    obtain ⟨k, out, rfl, rfl, hk, ho, HD, hbel⟩ := hrel
    have hwz := hbel.size
    by_cases h9 : 9 < k
    · obtain ⟨c, hc⟩ : ∃ c, k % 10 = c := ⟨_, rfl⟩
      obtain ⟨q, hq⟩ : ∃ q, k / 10 = q := ⟨_, rfl⟩
      have ec : (k : Int) % 10 = c := by omega
      have eq : (k : Int) / 10 = q := by omega
      have hc10 : c < 10 := by omega
      obtain ⟨x, hx⟩ : ∃ x, 48 + c = x := ⟨_, rfl⟩
      have ex : (48 : Int) + c = x := by omega
      have hx256 : x < 256 := by omega
      have wx : IntKind.u8.wrap (x : Int) = x := by simp [IntKind.wrap, IntKind.signed, IntKind.bits]; omega
      have hcv := hbyte x hx256
      have hadd : ∀ W, (Op.stringOp .add ⟨#[UInt8.ofNat x]⟩ out).run Tryd.prog W = .ok (.string (⟨#[UInt8.ofNat x]⟩ ++ out)) W := fun W => run_string_add_sum W _ _ (by show 1 + out.size ≤ _; omega)
      have hstep : decB n = decB q ++ (⟨#[UInt8.ofNat x]⟩ ++ out) := by
        rw [HD.out, decB_step (by omega), hc, hq, hx, ByteArray.append_assoc]
      have HS := Lib.hid hstep
      have hsz : (⟨#[UInt8.ofNat x]⟩ ++ out : ByteArray).size = 1 + out.size := by rw [ByteArray.size_append]; rfl
      have HZ := Lib.hid hsz
      have hq9 : q + 1 ≤ k := by omega
      clear hstep hsz hc hq hx hbyte
      go_wp2_with fail
      go_roundw
      case rel => exact ⟨q, _, by go_num, rfl, by omega, by rw [HZ.out]; omega, HS, hbel.alloc hwz _⟩
      case measure => simp [intOf]; omega
    · obtain ⟨x, hx⟩ : ∃ x, 48 + k = x := ⟨_, rfl⟩
      have ex : (48 : Int) + k = x := by omega
      have hx256 : x < 256 := by omega
      have wx : IntKind.u8.wrap (x : Int) = x := by simp [IntKind.wrap, IntKind.signed, IntKind.bits]; omega
      have hcv := hbyte x hx256
      have hadd : ∀ W, (Op.stringOp .add ⟨#[UInt8.ofNat x]⟩ out).run Tryd.prog W = .ok (.string (decB n)) W := fun W => by
        rw [HD.out, decB_small (by omega), hx]
        exact run_string_add_sum W _ _ (by show 1 + out.size ≤ _; omega)
      clear hbyte hx HD
      go_wp2_with fail
      go_ret
      exact ⟨rfl, hbel.alloc hwz _⟩

end Go.Proofs.YtlcflddjbhlloaaDoor
