/-
  The contract of the reference's NextBlock: it returns the same as the program's.
  The contract of the reference's l5Blocks: it returns the same blocks as the program's ContainerBlocks.
-/
import Derived.Test.YtopklampiaecdaaGreatParseSpec
import Derived.Test.YtopklampiaecdaaGreatNext
import Derived.Test.YtopklampiaecdaaGreatCont

namespace Go.Proofs.YtopklampiaecdaaGreat
open Go.RowKit
set_option linter.unusedVariables false

theorem specParseYes (s : ByteArray) (k : Nat) (a : Int) (w : World) (hs : s.size ≤ 1048576) (ha : a = k) (h : pbOk s k) (num size n : Nat) (raw : Bool) (body : ByteArray) (hb : pbBlk s k = ⟨num, raw, size, body⟩) (hn : pbEnd s k + 2 = n) :
    Calls Tryz.prog 85 #[.string s, .int .i64 a] w fun e w' => e = .returned (.tuple #[.agg #[.int .i64 num, .bool raw, .int .i64 size, .string body], .int .i64 n, .bool true]) ∧ Below w.heap.size w w' := by
  refine (specParseBlock s a w hs).mono ?_
  rintro e w' ⟨rfl, h'⟩
  subst ha
  exact ⟨by rw [parse_yes h, hb, hn], h'⟩

theorem specParseNo (s : ByteArray) (k : Nat) (a : Int) (w : World) (hs : s.size ≤ 1048576) (ha : a = k) (h : ¬ pbOk s k) :
    Calls Tryz.prog 85 #[.string s, .int .i64 a] w fun e w' => e = .returned (.tuple #[.agg #[.int .i64 0, .bool false, .int .i64 0, .string ByteArray.empty], .int .i64 0, .bool false]) ∧ Below w.heap.size w w' := by
  refine (specParseBlock s a w hs).mono ?_
  rintro e w' ⟨rfl, h'⟩
  subst ha
  exact ⟨by rw [parse_no' h]; rfl, h'⟩

end Go.Proofs.YtopklampiaecdaaGreat

namespace Go.Proofs.YtopklampiaecdaaGreat
open Go.RowKit
set_option linter.unusedVariables false

set_option maxHeartbeats 2000000 in
theorem specL5Blocks (s : ByteArray) (w : World) (hs : s.size ≤ 1048576) :
    Calls Tryz.prog 44 #[.string s] w (BlksPost w (contB s)) := by
  obtain ⟨R, hR⟩ : ∃ R, contB s = R := ⟨_, rfl⟩
  rw [hR]
  unfold contB at hR
  have HR := Lib.hid hR
  clear hR
  go_enter Tryz.func44, Tryz.ntmps44
  go_wp2_with fail
  go_loopw [4, 5, 6] (fun v vz i wr => ∃ (k : Nat) (acc : List Blk) (n z : Nat), i = .int .i64 k ∧ vz = .int .i64 z ∧ Hid (szs acc = z) ∧ k ≤ s.size ∧ Numbered acc ∧ Hid (acc.length = n) ∧ n ≤ 40 ∧ Hid (conts s k acc = R) ∧ wr.ownsRow w.heap.size 71 4 v n (cellsB acc) ∧ Below w.heap.size w wr) (fun _ _ i _ => s.size - (intOf i).toNat)
  case atStart => exact ⟨0, [], 0, 0, rfl, rfl, Lib.hid rfl, Nat.zero_le _, Numbered.nil, Lib.hid rfl, by omega, HR, World.ownsRow_lit (base := w.heap.size) (size := 4) (e := 71) w #[] 0 (Nat.le_refl _) (by unfold maxLen; omega) rfl, (Below.refl _ _).alloc (Nat.le_refl _) _⟩
  case round =>
    obtain ⟨k, acc, n, z, rfl, rfl, HZ, hks, hnum, HN, hn40, HK, hown, hbel⟩ := hrel
    have hzs := szs_le (fun b hb => hnum.of_mem hb)
    rw [HN.out, HZ.out] at hzs
    have hwz := hbel.size
    obtain ⟨Av, cv, rfl, _, _⟩ := own_form hown
    by_cases hk : k < s.size
    · by_cases hp : pbOk s k
      · have hok := pbBlk_ok hp
        have hne := pbOk_end hp
        have hge := pbEnd_ge s k
        have hnx := @conts_next s k acc hk hp
        have hbd := @conts_bad s k acc hk
        rw [HK.out, HN.out] at hnx hbd
        obtain ⟨⟨num, raw, size, body⟩, hb⟩ : ∃ b, pbBlk s k = b := ⟨_, rfl⟩
        obtain ⟨m, hm⟩ : ∃ m, pbEnd s k + 2 = m := ⟨_, rfl⟩
        have HP := fun W => specParseYes s k k W hs rfl hp num size m raw body hb hm
        have HP := Lib.hid HP
        rw [hb, hm] at hnx
        rw [hb] at hbd hok
        rw [hm] at hne
        have hkm : k < m := by omega
        have hok' := hok
        obtain ⟨hb1, hb2, hb3, _⟩ := hok
        have HOK := Lib.hid hok'
        simp only at hb1 hb2 hb3 hnx hbd
        clear hb hm hp hge hok'
        by_cases c1 : num = n
        · subst c1
          have HX := Lib.hid (hnx rfl)
          clear hnx hbd
          go_wp2_with fail
          refine (HP.out _).mono ?_
          rintro e w1 ⟨rfl, hb1⟩
          have hown1 := own_below hown hb1 (Nat.le_refl _)
          have hbel1 := hbel.trans (hb1.mono hwz)
          have hsz1 := hbel1.size
          clear hown hb1 hbel hwz
          go_wp2_with (first
            | (at_builtin; refine wpList_append_row _ elemBlk rfl (.tmp 32) (.tmp 34) rfl w.heap.size _ _ _ rfl ((hown1.alloc _).alloc _) _ _ 1 1 (blkCells ⟨num, raw, size, body⟩) rfl (Row.newAt _ (w1.heap.size + 1) (by simp) _ (blkCells ⟨num, raw, size, body⟩) 1 4 rfl) ?_ ?_ ?_ ?_ ?_))
          · intro u hu; exact cellsB_oneCell [⟨num, raw, size, body⟩] u (by rw [cellsB_one]; exact hu)
          · unfold maxLen; omega
          · omega
          · simp; omega
          · intro v2 w2 hv2 hg2 _
            have hbel2 : Below w.heap.size w w2 := ((hbel1.alloc hsz1 _).alloc (by simp; omega) _).grown hg2 (by simp; omega) (fun g hg => (hown1.lt g hg).1)
            have hc2 : w2.cell? ⟨w1.heap.size, 2, none⟩ = some (.int .i64 size) := (World.cell?_of_block (hg2.block w1.heap.size (by simp; omega) (fun e => by have := (hown1.lt _ e.symm).2; omega))).trans (by rw [World.cell?_alloc_lt _ _ _ (by simp), World.cell?_alloc_mark]; rfl)
            rw [← cellsB_one, ← cellsB_append] at hv2
            clear hown1 hbel1 hsz1 hg2
            go_wp2_with fail
            go_roundw
            case rel => exact ⟨m, acc ++ [⟨num, raw, size, body⟩], num + 1, z + size, rfl, by go_num, Lib.hid (by rw [szs_append, HZ.out]; rfl), by omega, hnum.snoc (b := ⟨num, raw, size, body⟩) HN.out.symm HOK.out, Lib.hid (by rw [List.length_append, HN.out]; rfl), by omega, Lib.hid HX.out.symm, hv2, hbel2⟩
            case measure => simp [intOf]; omega
        · have HX := Lib.hid (hbd (fun h => c1 h.2))
          have hcb : ((num : Int) != n) = true := by rw [bne_iff_ne]; omega
          clear hnx hbd
          go_wp2_with fail
          refine (HP.out _).mono ?_
          rintro e w1 ⟨rfl, hb1⟩
          go_wp2_with fail
          go_ret2
          rw [HX.out]
          exact ⟨_, 0, rfl, own_empty _ (w1.heap.size + 1) (by simp) _ (by have := hb1.size; omega) _ _, ((hbel.trans (hb1.mono hwz)).alloc (by have := hb1.size; omega) _).alloc (by have := hb1.size; simp; omega) _⟩
      · have hv := @conts_bad s k acc hk (fun h => hp h.1)
        rw [HK.out] at hv
        have HX := Lib.hid hv
        have HP := Lib.hid (fun W => specParseNo s k k W hs rfl hp)
        clear hv hp
        go_wp2_with fail
        refine (HP.out _).mono ?_
        rintro e w1 ⟨rfl, hb1⟩
        go_wp2_with fail
        go_ret2
        rw [HX.out]
        exact ⟨_, 0, rfl, own_empty _ (w1.heap.size + 1) (by simp) _ (by have := hb1.size; omega) _ _, ((hbel.trans (hb1.mono hwz)).alloc (by have := hb1.size; omega) _).alloc (by have := hb1.size; simp; omega) _⟩
    · have hv := @conts_end s k acc (by omega)
      rw [HK.out] at hv
      rw [HZ.out] at hv
      by_cases c2 : z ≤ 2000
      · rw [if_pos c2] at hv
        have HX := Lib.hid hv
        clear hv
        go_wp2_with fail
        go_ret2
        rw [HX.out]
        refine ⟨Av, cv, ?_, ?_, hbel⟩
        · simp only [Option.getD_some, HN.out]; rfl
        · simp only [Option.getD_some, HN.out]; exact hown
      · rw [if_neg c2] at hv
        have HX := Lib.hid hv
        clear hv
        go_wp2_with fail
        go_ret2
        rw [HX.out]
        exact ⟨_, 0, rfl, World.ownsRow_lit (size := 4) (e := 71) wr #[] 0 hwz (by unfold maxLen; omega) rfl, hbel.alloc hwz _⟩

theorem specL5BlocksYes (s : ByteArray) (bs : List Blk) (n : Nat) (w : World) (hs : s.size ≤ 1048576) (h : contB s = some bs) (hn : bs.length = n) :
    Calls Tryz.prog 44 #[.string s] w fun e w' => ∃ A c, e = .returned (.tuple #[.slice A n c, .bool true]) ∧ w'.ownsRow w.heap.size 71 4 (.slice A n c) n (cellsB bs) ∧ Below w.heap.size w w' := by
  refine (specL5Blocks s w hs).mono ?_
  rintro e w' ⟨A, c, he, ho, hb⟩
  rw [h] at he ho
  subst hn
  exact ⟨A, c, he, ho, hb⟩

theorem specL5BlocksNo (s : ByteArray) (w : World) (hs : s.size ≤ 1048576) (h : contB s = none) :
    Calls Tryz.prog 44 #[.string s] w fun e w' => ∃ A c, e = .returned (.tuple #[.slice A 0 c, .bool false]) ∧ w'.ownsRow w.heap.size 71 4 (.slice A 0 c) 0 [] ∧ Below w.heap.size w w' := by
  refine (specL5Blocks s w hs).mono ?_
  rintro e w' ⟨A, c, he, ho, hb⟩
  rw [h] at he ho
  exact ⟨A, c, he, ho, hb⟩

end Go.Proofs.YtopklampiaecdaaGreat
