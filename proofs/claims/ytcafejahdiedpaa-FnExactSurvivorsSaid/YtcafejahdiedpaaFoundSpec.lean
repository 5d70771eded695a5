/-
  The contract of FindBlocks of the reference: it finds the same blocks as the program's.
-/
import Derived.Test.YtcafejahdiedpaaFound
import Derived.Test.YtcafejahdiedpaaNextSpec
namespace Go.Proofs.Ytcafejahdiedpaa
open Go.RowKit
set_option linter.unusedVariables false

set_option maxHeartbeats 2000000 in
theorem specFindBlocks (s : ByteArray) (w : World) (hs : s.size ≤ 1048576) :
    Calls Try.prog 14 #[.string s] w (FndsPost w (foundB s)) := by
  obtain ⟨R, hR⟩ : ∃ R, foundB s = R := ⟨_, rfl⟩
  rw [hR]
  unfold foundB at hR
  have h0 := FndAt.first s
  have HN := Lib.hid (fun a W (h : a ≤ 9223372036854775807) => specNextBlock s a W hs h)
  obtain ⟨a0, ha0⟩ : ∃ a, nextBlk s 0 = a := ⟨_, rfl⟩
  rw [ha0] at hR h0
  have HA0 := Lib.hid ha0
  have H0 := Lib.hid h0
  have HR := Lib.hid hR
  clear hR ha0 h0
  go_enter Try.func14, Try.ntmps14
  go_wp2_with fail
  refine (HN.out 0 _ (by omega)).mono ?_
  rintro e w1 ⟨rfl, hb1⟩
  rw [HA0.out]
  have hz1 := hb1.size
  have ho1 := own_below (own_empty w w.heap.size rfl w.heap.size (Nat.le_refl _) 70 5) hb1 (Nat.le_refl _)
  have hb01 : Below w.heap.size w w1 := ((Below.refl _ _).alloc (Nat.le_refl _) _).trans (hb1.mono (by simp))
  clear hb1 hz1
  go_wp2_with fail
  go_loopw [3, 4] (fun v i wr => ∃ (a : Int) (acc : List Fnd) (n : Nat), i = .int .i64 a ∧ FndAt s a n ∧ Hid (acc.length = n) ∧ Hid (acc ++ findR s a = R) ∧ wr.ownsRow w.heap.size 70 5 v n (cellsF acc) ∧ Below w.heap.size w wr) (fun _ i _ => fndLeft s (intOf i))
  case atStart => exact ⟨a0, [], 0, rfl, H0.out, Lib.hid rfl, HR, ho1, hb01⟩
  case round =>
    obtain ⟨a, acc, n, rfl, hat, HL, HK, hown, hbel⟩ := hrel
    have hwz := hbel.size
    obtain ⟨Av, cv, rfl, _, _⟩ := own_form hown
    obtain ⟨hat, hns⟩ := hat
    rcases hat with rfl | ⟨k, rfl, hp, hnk⟩
    · have hX : acc = R := by rw [← HK.out, findR_end, List.append_nil]
      subst hX
      go_wp2_with fail
      go_ret
      exact ⟨Av, cv, by rw [HL.out]; rfl, by rw [HL.out]; exact hown, hbel, by rw [HL.out]; omega⟩
    · have hne := pbOk_end hp
      have hge := pbEnd_ge s k
      have hnx := findR_next (pbOk_lt hp)
      have hks := pbOk_lt hp
      have hmeas := fndLeft_next hp
      have hnat := FndAt.next hp hnk
      obtain ⟨⟨num, raw, size, body⟩, hb⟩ : ∃ b, pbBlk s k = b := ⟨_, rfl⟩
      obtain ⟨m, hm⟩ : ∃ m, pbEnd s k + 2 = m := ⟨_, rfl⟩
      have HP := Lib.hid (fun W => specParseYes s k k W hs rfl hp num size m raw body hb hm)
      rw [hm] at hnx hmeas hnat hne
      rw [hb] at hnx
      have hkm : m ≤ 1048576 := by omega
      obtain ⟨a', ha'⟩ : ∃ a', nextBlk s (m : Int) = a' := ⟨_, rfl⟩
      rw [ha'] at hnx hmeas hnat
      have hfin : (acc ++ [⟨k, ⟨num, raw, size, body⟩⟩]) ++ findR s a' = R := by rw [← HK.out, hnx]; simp
      have HF := Lib.hid hfin
      have HA := Lib.hid ha'
      have HME := Lib.hid hmeas
      have HNA := Lib.hid hnat
      have hn2 : n ≤ 1048576 := by omega
      clear hb hm hp hge hnx ha' hfin hmeas hnat
      go_wp2_with fail
      refine (HP.out _).mono ?_
      rintro e w1 ⟨rfl, hb1⟩
      have hown1 := own_below hown hb1 (Nat.le_refl _)
      have hbel1 := hbel.trans (hb1.mono hwz)
      have hsz1 := hbel1.size
      clear hown hb1 hbel hwz
      go_wp2_with (first
        | (at_builtin; refine wpList_append_row _ elemFnd rfl (.tmp 20) (.tmp 24) rfl w.heap.size _ _ _ rfl ((hown1.alloc _).alloc _) _ _ 1 1 (fndCells ⟨k, ⟨num, raw, size, body⟩⟩) rfl (Row.newAt _ (w1.heap.size + 1) (by simp) _ (fndCells ⟨k, ⟨num, raw, size, body⟩⟩) 1 5 rfl) ?_ ?_ ?_ ?_ ?_))
      · intro u hu; exact cellsF_oneCell [⟨k, ⟨num, raw, size, body⟩⟩] u (by rw [cellsF_one]; exact hu)
      · unfold maxLen; omega
      · omega
      · simp; omega
      · intro v2 w2 hv2 hg2 _
        have hbel2 : Below w.heap.size w w2 := ((hbel1.alloc hsz1 _).alloc (by simp; omega) _).grown hg2 (by simp; omega) (fun g hg => (hown1.lt g hg).1)
        rw [← cellsF_one, ← cellsF_append] at hv2
        have hz2 := hbel2.size
        clear hown1 hbel1 hsz1 hg2
        go_wp2_with fail
        refine (HN.out m _ (by omega)).mono ?_
        rintro e w3 ⟨rfl, hb3⟩
        rw [HA.out]
        have hv3 := own_below hv2 hb3 (Nat.le_refl _)
        have hbel3 := hbel2.trans (hb3.mono hz2)
        clear hv2 hb3 hbel2 hz2
        go_wp2_with fail
        go_roundw
        case rel => exact ⟨a', acc ++ [⟨k, ⟨num, raw, size, body⟩⟩], n + 1, rfl, HNA.out, Lib.hid (by rw [List.length_append, HL.out]; rfl), HF, hv3, hbel3⟩
        case measure => simp only [intOf]; exact HME.out

end Go.Proofs.Ytcafejahdiedpaa
