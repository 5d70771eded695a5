/-
  The contract of the reference's CheckContainer: it tells the same fault at the same place as the program's.
-/
import Derived.Test.YtjbicmlilgimlaaNextSpec
import Derived.Test.YtjbicmlilgimlaaCheck
namespace Go.Proofs.Ytjbicmlilgimlaa
open Go.RowKit
set_option linter.unusedVariables false

set_option maxHeartbeats 2000000 in
theorem specCheckContainer (s : ByteArray) (w : World) (hs : s.size ≤ 1048576) :
    Calls Try.prog 31 #[.string s] w fun e w' => e = .returned (.tuple #[.int .i64 ((checkC s 0 0 0).1 : Int), .int .i64 ((checkC s 0 0 0).2 : Int)]) ∧ Below w.heap.size w w' := by
  obtain ⟨R, hR⟩ : ∃ R, checkC s 0 0 0 = R := ⟨_, rfl⟩
  rw [hR]
  have HR := Lib.hid hR
  clear hR
  go_enter Try.func31, Try.ntmps31
  go_wp2_with fail
  go_loopw [4, 5, 6] (fun vn vz i wr => ∃ k n z : Nat, i = .int .i64 k ∧ vn = .int .i64 n ∧ vz = .int .i64 z ∧ k ≤ s.size ∧ n ≤ 40 ∧ z ≤ 2000 ∧ Hid (checkC s k n z = R) ∧ Below w.heap.size w wr) (fun _ _ i _ => s.size - (intOf i).toNat)
  case atStart => exact ⟨0, 0, 0, rfl, rfl, rfl, Nat.zero_le _, by omega, by omega, HR, Below.refl _ _⟩
  case round =>
    obtain ⟨k, n, z, rfl, rfl, rfl, hks, hn, hz, HK, hbel⟩ := hrel
    have hwz := hbel.size
    by_cases hk : k < s.size
    · by_cases hp : pbOk s k
      · have hok := pbBlk_ok hp
        have hne := pbOk_end hp
        have hge := pbEnd_ge s k
        have hnx := @checkC_next s k n z hk hp
        have hlg := @checkC_long s k n z hk hp
        have hnm := @checkC_num s k n z hk hp
        rw [HK.out] at hnx hlg hnm
        obtain ⟨⟨num, raw, size, body⟩, hb⟩ : ∃ b, pbBlk s k = b := ⟨_, rfl⟩
        obtain ⟨m, hm⟩ : ∃ m, pbEnd s k + 2 = m := ⟨_, rfl⟩
        have HP := fun W => specParseYes s k k W hs rfl hp num size m raw body hb hm
        have HP := Lib.hid HP
        rw [hb, hm] at hnx
        rw [hb] at hlg hnm hok
        rw [hm] at hne
        have hkm : k < m := by omega
        obtain ⟨hb1, hb2, hb3, _⟩ := hok
        simp only at hb1 hb2 hb3 hnx hlg hnm
        clear hb hm hp hge
        by_cases c1 : num = n
        · subst c1
          by_cases c2 : z + size ≤ 2000
          · have HX := Lib.hid (hnx rfl c2)
            clear hnx hlg hnm
            go_wp2_with fail
            refine (HP.out _).mono ?_
            rintro e w1 ⟨rfl, hb1⟩
            go_wp2_with fail
            go_roundw
            case rel => exact ⟨m, num + 1, z + size, rfl, by go_num, by go_num, by omega, by omega, by omega, HX.out.symm, (hbel.trans (hb1.mono hwz)).alloc (by have := hb1.size; omega) _⟩
            case measure => simp [intOf]; omega
          · have HX := Lib.hid (hlg rfl c2)
            clear hnx hlg hnm
            go_wp2_with fail
            refine (HP.out _).mono ?_
            rintro e w1 ⟨rfl, hb1⟩
            go_wp2_with fail
            go_ret2
            exact ⟨ret_two HX.out.symm, (hbel.trans (hb1.mono hwz)).alloc (by have := hb1.size; omega) _⟩
        · have HX := Lib.hid (hnm c1)
          have hcb : ((num : Int) != n) = true := by rw [bne_iff_ne]; omega
          clear hnx hlg hnm
          go_wp2_with fail
          refine (HP.out _).mono ?_
          rintro e w1 ⟨rfl, hb1⟩
          go_wp2_with fail
          go_ret2
          exact ⟨ret_two HX.out.symm, (hbel.trans (hb1.mono hwz)).alloc (by have := hb1.size; omega) _⟩
      · have hv := @checkC_bad s k n z hk hp
        rw [HK.out] at hv
        have HX := Lib.hid hv
        have HP := Lib.hid (fun W => specParseNo s k k W hs rfl hp)
        clear hv hp
        go_wp2_with fail
        refine (HP.out _).mono ?_
        rintro e w1 ⟨rfl, hb1⟩
        go_wp2_with fail
        go_ret2
        exact ⟨ret_two HX.out.symm, (hbel.trans (hb1.mono hwz)).alloc (by have := hb1.size; omega) _⟩
    · have hv := @checkC_end s k n z hk
      rw [HK.out] at hv
      have HX := Lib.hid hv
      clear hv
      go_wp2_with fail
      go_ret2
      exact ⟨ret_two HX.out.symm, hbel⟩

end Go.Proofs.Ytjbicmlilgimlaa
