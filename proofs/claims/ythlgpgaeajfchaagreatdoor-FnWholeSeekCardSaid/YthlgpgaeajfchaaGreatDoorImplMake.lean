/-
  The program's makeBlock and makeBlocks.
  The start of the program's edits with what is known apart from the blocks; a law for drawn regions.
-/
import Derived.Test.YthlgpgaeajfchaaGreatDoorImplComp
import Derived.Test.YthlgpgaeajfchaaGreatDoorMakeS
import Derived.Test.YthlgpgaeajfchaaGreatDoorHeldTail
import Derived.Test.YthlgpgaeajfchaaGreatDoorCont
import Derived.Test.YthlgpgaeajfchaaGreatDoorImplLearn

namespace Go.Proofs.YthlgpgaeajfchaaGreatDoor
open Go.RowKit
set_option linter.unusedVariables false
set_option maxRecDepth 100000

theorem Kn.comp_len {k : Kn} (h : k.Valid) {L : List UInt8} (hf : k.fits L) (hL : L.length ≤ 2000) : (k.comp L).length ≤ 100000 := by
  unfold Kn.comp
  rw [packL_length]
  have h1 := Kn.greedy_spec h hf
  have h2 := packW_length k.o (k.greedy L) (k.widths (k.greedy L)) (h1.1.bounds h).2
  have h3 := h1.2.2
  show ((k.bits _).length + 7) / 8 ≤ _
  unfold Kn.bits
  omega

set_option maxHeartbeats 2000000 in
theorem implMakeBlock (k : Kn) (A : Option Addr) (c B : Nat) (L : List UInt8) (w : World) (h : k.Fresh) (hA : k.At w B A) (hB : B ≤ w.heap.size) (hL : L.length ≤ 100000) :
    Calls Tryz.prog 48 #[k.val A c, .string (bsL L)] w fun e w' => e = .returned (k.block L).val ∧ Below w.heap.size w w' := by
  have hval := Kn.val_eq k
  have kr0 := KB4.start (w.alloc (.cells #[.int .i64 (k.o : Int), .int .i64 (k.l : Int), .int .i64 (k.m : Int), .slice A k.ps.length c, .int .i64 (k.base : Int), .int .i64 k.lastI] 48)) 65 (.int .i64 0) (.bool false) (.int .i64 0) (.string ⟨#[]⟩)
  rw [World.size_alloc] at kr0
  have hW0 := ((Below.refl w.heap.size w).alloc (Nat.le_refl _) (.cells #[.int .i64 (k.o : Int), .int .i64 (k.l : Int), .int .i64 (k.m : Int), .slice A k.ps.length c, .int .i64 (k.base : Int), .int .i64 k.lastI] 48)).alloc (by simp) (.cells #[.int .i64 0, .bool false, .int .i64 0, .string ⟨#[]⟩] 65)
  have hLs : (bsL L).size = L.length := rfl
  by_cases hf : dfits k.o k.l k.m L
  · have hff := h.val.dfits.1 hf
    have HC := implCompressYes k A c B L _ h (hA.below hW0 hB) (Nat.le_trans hB hW0.size) hf
    have hcl := Kn.comp_len h.val hff.2 hff.1
    have hbk : k.block L = if (k.comp L).length < L.length then ⟨0, false, L.length, bsL (k.comp L)⟩ else ⟨0, true, L.length, bsL L⟩ := by
      unfold Kn.block
      by_cases hc : (k.comp L).length < L.length
      · rw [if_pos ⟨hf, hc⟩, if_pos hc]
      · rw [if_neg (fun hh => hc hh.2), if_neg hc]
    rw [hbk]
    simp only [hval] at HC ⊢
    obtain ⟨R, hR⟩ : ∃ R, k.comp L = R := ⟨_, rfl⟩
    rw [hR] at HC hcl ⊢
    have hRs : (bsL R).size = R.length := rfl
    obtain ⟨n, hn⟩ : ∃ n, L.length = n := ⟨_, rfl⟩
    obtain ⟨c9, hc⟩ : ∃ c, R.length = c := ⟨_, rfl⟩
    rw [hn] at hLs hL ⊢
    rw [hc] at hRs hcl ⊢
    obtain ⟨T, hT⟩ : ∃ T, bsL R = T := ⟨_, rfl⟩
    obtain ⟨U, hU⟩ : ∃ U, bsL L = U := ⟨_, rfl⟩
    rw [hT] at HC hRs ⊢
    rw [hU] at HC hLs ⊢
    replace HC := Lib.hid HC
    replace kr0 := Lib.hid kr0
    replace hW0 := Lib.hid hW0
    clear hbk hR hn hc hT hU h hf hff hval hA
    by_cases hlt : c9 < n
    · rw [if_pos hlt]
      unfold Blk.val
      have g1 : decide (c9 < n) = true := decide_eq_true hlt
      go_enter Tryz.func48, Tryz.ntmps48
      go_wp2_with fail
      refine HC.out.mono ?_
      rintro e w1 ⟨rfl, hb1⟩
      obtain ⟨⟨r0, r1, r2, r3⟩, y0, y1, y2, y3⟩ := kr0.out.below hb1
      have hW1 := Lib.hid (below_set4 (H := w.heap.size + 1) (hW0.out.trans (hb1.mono hW0.out.size)) (by omega) (.int .i64 0) (.bool false) (.int .i64 (n : Int)) (.string T))
      clear hb1 kr0 hW0 HC
      go_wp2_with fail
      refine bodyPost_ret (v := .agg #[.int .i64 0, .bool false, .int .i64 (n : Int), .string T]) (by simp [results, Tryz.results48, go_sem, r0, r1, r2, r3]) rfl ?_
      exact ⟨rfl, hW1.out⟩
    · rw [if_neg hlt]
      unfold Blk.val
      have g1 : decide (c9 < n) = false := decide_eq_false hlt
      go_enter Tryz.func48, Tryz.ntmps48
      go_wp2_with fail
      refine HC.out.mono ?_
      rintro e w1 ⟨rfl, hb1⟩
      obtain ⟨⟨r0, r1, r2, r3⟩, y0, y1, y2, y3⟩ := kr0.out.below hb1
      have hW1 := Lib.hid (below_set4 (H := w.heap.size + 1) (hW0.out.trans (hb1.mono hW0.out.size)) (by omega) (.int .i64 0) (.bool true) (.int .i64 (n : Int)) (.string U))
      clear hb1 kr0 hW0 HC
      go_wp2_with fail
      refine bodyPost_ret (v := .agg #[.int .i64 0, .bool true, .int .i64 (n : Int), .string U]) (by simp [results, Tryz.results48, go_sem, r0, r1, r2, r3]) rfl ?_
      exact ⟨rfl, hW1.out⟩
  · have HC := implCompressNo k A c B (bsL L) _ h (hA.below hW0 hB) (Nat.le_trans hB hW0.size) (by show L.length ≤ _; omega) hf
    have hbk : k.block L = ⟨0, true, L.length, bsL L⟩ := by
      unfold Kn.block
      rw [if_neg (fun hh => hf hh.1)]
    rw [hbk]
    simp only [hval] at HC ⊢
    obtain ⟨n, hn⟩ : ∃ n, L.length = n := ⟨_, rfl⟩
    rw [hn] at hLs hL ⊢
    obtain ⟨U, hU⟩ : ∃ U, bsL L = U := ⟨_, rfl⟩
    rw [hU] at HC hLs ⊢
    replace HC := Lib.hid HC
    replace kr0 := Lib.hid kr0
    replace hW0 := Lib.hid hW0
    clear hbk hn hU h hf hval hA
    unfold Blk.val
    go_enter Tryz.func48, Tryz.ntmps48
    go_wp2_with fail
    refine HC.out.mono ?_
    rintro e w1 ⟨rfl, hb1⟩
    obtain ⟨⟨r0, r1, r2, r3⟩, y0, y1, y2, y3⟩ := kr0.out.below hb1
    have hW1 := Lib.hid (below_set4 (H := w.heap.size + 1) (hW0.out.trans (hb1.mono hW0.out.size)) (by omega) (.int .i64 0) (.bool true) (.int .i64 (n : Int)) (.string U))
    clear hb1 kr0 hW0 HC
    go_wp2_with fail
    refine bodyPost_ret (v := .agg #[.int .i64 0, .bool true, .int .i64 (n : Int), .string U]) (by simp [results, Tryz.results48, go_sem, r0, r1, r2, r3]) rfl ?_
    exact ⟨rfl, hW1.out⟩

theorem bsL_span {L : List UInt8} {i j s : Nat} (hs : j = min (i + s) L.length) (hi : i ≤ L.length) : (bsL L).extract i j = bsL ((L.drop i).take s) := by
  rw [bsL_part]
  congr 1
  by_cases hc : s ≤ (L.drop i).length
  · rw [List.length_drop] at hc
    rw [show j - i = s by omega]
  · have h2 := hc
    rw [List.length_drop] at h2
    rw [List.take_of_length_le (by rw [List.length_drop]; omega), List.take_of_length_le (by omega)]

set_option maxHeartbeats 4000000 in
theorem implMakeBlocks (k : Kn) (A : Option Addr) (c B size : Nat) (L : List UInt8) (w : World) (h : k.Fresh) (hA : k.At w B A) (hB : B ≤ w.heap.size) (hL : L.length ≤ 2000) (h1 : 1 ≤ size) (h64 : size ≤ 64) :
    Calls Tryz.prog 22 #[k.val A c, .string (bsL L), .int .i64 (size : Int)] w fun e w' => ∃ A' c', e = .returned (.slice A' (k.split size L).length c') ∧ w'.ownsRow w.heap.size 65 4 (.slice A' (k.split size L).length c') (k.split size L).length (cellsB (k.split size L)) ∧ Below w.heap.size w w' := by
  have hlen := (splitF_szs k h1 L.length L (Nat.le_refl _)).2
  have hdl : (L.length + size - 1) / size ≤ 2064 := Nat.le_trans (Nat.div_le_self _ _) (by omega)
  have HB := fun (X : List UInt8) (hX : X.length ≤ 100000) (W : World) (hb : Below w.heap.size w W) => implMakeBlock k A c B X W h (hA.below hb hB) (Nat.le_trans hB hb.size) hX
  have hval := Kn.val_eq k
  simp only [hval] at HB ⊢
  have kb0 := KB.start w 48 (.int .i64 (k.o : Int)) (.int .i64 (k.l : Int)) (.int .i64 (k.m : Int)) (.slice A k.ps.length c) (.int .i64 (k.base : Int)) (.int .i64 k.lastI)
  have hW0 := (Below.refl w.heap.size w).alloc (Nat.le_refl _) (.cells #[.int .i64 (k.o : Int), .int .i64 (k.l : Int), .int .i64 (k.m : Int), .slice A k.ps.length c, .int .i64 (k.base : Int), .int .i64 k.lastI] 48)
  obtain ⟨N, hN⟩ : ∃ N, L.length = N := ⟨_, rfl⟩
  have hLs : (bsL L).size = N := hN
  have hsp : Hid ((k.split size L).length ≤ 2064) := Lib.hid (by show (splitF k size L.length L).length ≤ _; omega)
  replace HB := Lib.hid HB
  have hN' := Lib.hid hN
  rw [hN] at hL
  clear hval h hA hlen hdl hN
  go_enter Tryz.func22, Tryz.ntmps22
  go_upto_region 1 with (fail)
  obtain ⟨w2, hw2⟩ : ∃ W, w.alloc (.cells #[.int .i64 (k.o : Int), .int .i64 (k.l : Int), .int .i64 (k.m : Int), .slice A k.ps.length c, .int .i64 (k.base : Int), .int .i64 k.lastI] 48) = W := ⟨_, rfl⟩
  rw [hw2] at kb0 hW0 ⊢
  clear hw2
  have hX := Lib.hid (fun (W : World) (hb : Below w2.heap.size w2 W) => And.intro (kb0.below hb).c (hW0.trans (hb.mono hW0.size)))
  have hww := hW0.size
  clear kb0 hW0
  go_wp2_with fail
  go_loopw [7, 8] (fun u j wr => ∃ (A' : Option Addr) (c' i m : Nat) (acc : List Blk), u = .slice A' m c' ∧ j = .int .i64 (i : Int) ∧ m ≤ 2064 ∧ i ≤ 2064 ∧ Hid (acc.length = m) ∧ Hid (∃ f, (L.drop i).length ≤ f ∧ k.split size L = acc ++ splitF k size f (L.drop i)) ∧ Hid (wr.ownsRow w2.heap.size 65 4 (.slice A' m c') m (cellsB acc)) ∧ Hid (Below w2.heap.size w2 wr)) (fun _ j _ => N - (intOf j).toNat)
  case atStart => exact ⟨none, 0, 0, 0, [], rfl, rfl, Nat.zero_le _, Nat.zero_le _, Lib.hid rfl, Lib.hid ⟨L.length, Nat.le_refl _, rfl⟩, Lib.hid (World.ownsRow_nil _ _ _ _), Lib.hid (Below.refl _ _)⟩
  case round =>
    obtain ⟨A', c', i, m, acc, rfl, rfl, hm, hi2, hal, hS, hO, hBl⟩ := hrel
    obtain ⟨⟨q0, q1, q2, q3, q4, q5⟩, hWw⟩ := hX.out _ hBl.out
    by_cases hi : i < N
    · obtain ⟨is, his⟩ : ∃ is, i + size = is := ⟨_, rfl⟩
      have hisi : (i : Int) + size = is := by omega
      obtain ⟨j, hj⟩ : ∃ j, min is N = j := ⟨_, rfl⟩
      have hji : min (is : Int) (N : Int) = (j : Int) := by omega
      have hex := bsL_span (L := L) (i := i) (j := j) (s := size) (by rw [his, hN'.out, hj]) (by rw [hN'.out]; omega)
      obtain ⟨b, hb⟩ : ∃ b, k.block ((L.drop i).take size) = b := ⟨_, rfl⟩
      have hS2 : Hid (∃ f, (L.drop is).length ≤ f ∧ k.split size L = (acc ++ [b]) ++ splitF k size f (L.drop is)) := Lib.hid (by
        obtain ⟨f, e1, e2⟩ := hS.out
        have hdn : L.drop i ≠ [] := fun e => by have := congrArg List.length e; rw [List.length_drop, hN'.out] at this; simp at this; omega
        cases f with
        | zero => exact absurd (List.eq_nil_of_length_eq_zero (by omega)) hdn
        | succ f =>
          rw [splitF, if_neg hdn, hb, List.drop_drop, his] at e2
          refine ⟨f, by rw [List.length_drop] at e1 ⊢; omega, by rw [e2]; simp⟩)
      have hm2 : m + 1 ≤ 2064 := by
        obtain ⟨f, e1, e2⟩ := hS2.out
        have h9 := congrArg List.length e2
        rw [List.length_append, List.length_append, hal.out, List.length_singleton] at h9
        have := hsp.out
        omega
      have hbk := fun (W : World) (hb : Below w.heap.size w W) => HB.out ((L.drop i).take size) (by rw [List.length_take]; omega) W hb
      rw [hb] at hbk
      unfold Blk.val at hbk
      obtain ⟨X2, hX2⟩ : ∃ X2, bsL ((L.drop i).take size) = X2 := ⟨_, rfl⟩
      rw [hX2] at hex hbk
      replace hbk := Lib.hid hbk
      have hcb : Hid (cellsB (acc ++ [b]) = cellsB acc ++ [.int .i64 (b.num : Int), .bool b.raw, .int .i64 (b.size : Int), .string b.body]) := Lib.hid (by rw [cellsB_append, cellsB_one]; rfl)
      have hal2 : Hid ((acc ++ [b]).length = m + 1) := Lib.hid (by rw [List.length_append, hal.out]; rfl)
      have i0 : (0 : Int) ≤ i := by omega
      have i1 : (i : Int) ≤ j := by omega
      have j1 : (j : Int) ≤ N := by omega
      have wis : IntKind.i64.wrap (is : Int) = is := IntWalk.i64_in _ (by omega)
      have hmz : N - is < N - i := by omega
      have his2 : is ≤ 2064 := by omega
      replace his := Lib.hid his
      replace hj := Lib.hid hj
      clear hb hX2 hS
      have hSX : Hid (∀ W, Below w2.heap.size w2 W → W.cell? ⟨w.heap.size, 0, none⟩ = some (.int .i64 (k.o : Int)) ∧ W.cell? ⟨w.heap.size, 1, none⟩ = some (.int .i64 (k.l : Int)) ∧ W.cell? ⟨w.heap.size, 2, none⟩ = some (.int .i64 (k.m : Int)) ∧ W.cell? ⟨w.heap.size, 3, none⟩ = some (.slice A k.ps.length c) ∧ W.cell? ⟨w.heap.size, 4, none⟩ = some (.int .i64 (k.base : Int)) ∧ W.cell? ⟨w.heap.size, 5, none⟩ = some (.int .i64 k.lastI)) := Lib.hid (fun W hW => (hX.out W hW).1)
      go_upto_region 5 with (fail)
      refine wp_region_held_tail (S := fun W => W.cell? ⟨w.heap.size, 0, none⟩ = some (.int .i64 (k.o : Int)) ∧ W.cell? ⟨w.heap.size, 1, none⟩ = some (.int .i64 (k.l : Int)) ∧ W.cell? ⟨w.heap.size, 2, none⟩ = some (.int .i64 (k.m : Int)) ∧ W.cell? ⟨w.heap.size, 3, none⟩ = some (.slice A k.ps.length c) ∧ W.cell? ⟨w.heap.size, 4, none⟩ = some (.int .i64 (k.base : Int)) ∧ W.cell? ⟨w.heap.size, 5, none⟩ = some (.int .i64 k.lastI)) 14 (by kernel_rfl) (by kernel_rfl) (hSX.out _ hBl.out.drew) (fun hS => ?_)
      have hO2 := Lib.hid (own_below hO.out (Below.refl _ _).drew (Nat.le_refl _))
      have hBl2 := Lib.hid hBl.out.drew
      have hbk2 := Lib.hid (hbk.out wr.drew hWw.drew)
      refine heldAny_take (i := 0) (v := ?_) rfl (by kernel_rfl) (by kernel_rfl) (by kernel_rfl) (by kernel_rfl) (fun _ _ _ h => h) (Or.inl ⟨by rfl, ?_⟩) (by assumption) ?_
      rotate_left
      · (intro wS hSw; (try dsimp only at hSw); go_split_ands; go_simp; all_goals with_reducible rfl)
      try simp only [Act.put]
      refine heldAny_take (i := 1) (v := ?_) rfl (by kernel_rfl) (by kernel_rfl) (by kernel_rfl) (by kernel_rfl) (fun _ _ _ h => h) (Or.inl ⟨by rfl, ?_⟩) (by assumption) ?_
      rotate_left
      · (intro wS hSw; (try dsimp only at hSw); go_split_ands; go_simp; all_goals with_reducible rfl)
      try simp only [Act.put]
      refine heldAny_take (i := 2) (v := ?_) rfl (by kernel_rfl) (by kernel_rfl) (by kernel_rfl) (by kernel_rfl) (fun _ _ _ h => h) (Or.inl ⟨by rfl, ?_⟩) (by assumption) ?_
      rotate_left
      · (intro wS hSw; (try dsimp only at hSw); go_split_ands; go_simp; all_goals with_reducible rfl)
      try simp only [Act.put]
      refine heldAny_take (i := 3) (v := ?_) rfl (by kernel_rfl) (by kernel_rfl) (by kernel_rfl) (by kernel_rfl) (fun _ _ _ h => h) (Or.inl ⟨by rfl, ?_⟩) (by assumption) ?_
      rotate_left
      · (intro wS hSw; (try dsimp only at hSw); go_split_ands; go_simp; all_goals with_reducible rfl)
      try simp only [Act.put]
      refine heldAny_take (i := 4) (v := ?_) rfl (by kernel_rfl) (by kernel_rfl) (by kernel_rfl) (by kernel_rfl) (fun _ _ _ h => h) (Or.inl ⟨by rfl, ?_⟩) (by assumption) ?_
      rotate_left
      · (intro wS hSw; (try dsimp only at hSw); go_split_ands; go_simp; all_goals with_reducible rfl)
      try simp only [Act.put]
      refine heldAny_take (i := 5) (v := ?_) rfl (by kernel_rfl) (by kernel_rfl) (by kernel_rfl) (by kernel_rfl) (fun _ _ _ h => h) (Or.inl ⟨by rfl, ?_⟩) (by assumption) ?_
      rotate_left
      · (intro wS hSw; (try dsimp only at hSw); go_split_ands; go_simp; all_goals with_reducible rfl)
      try simp only [Act.put]
      refine heldAny_take (i := 6) (v := ?_) rfl (by kernel_rfl) (by kernel_rfl) (by kernel_rfl) (by kernel_rfl) (fun _ _ _ h => h) (Or.inl ⟨by rfl, ?_⟩) (by assumption) ?_
      rotate_left
      · (intro wS hSw; (try dsimp only at hSw); go_split_ands; go_simp; all_goals with_reducible rfl)
      try simp only [Act.put]
      refine heldAny_take (i := 7) (v := ?_) rfl (by kernel_rfl) (by kernel_rfl) (by kernel_rfl) (by kernel_rfl) (fun _ _ _ h => h) (Or.inl ⟨by rfl, ?_⟩) (by assumption) ?_
      rotate_left
      · (intro wS hSw; (try dsimp only at hSw); go_split_ands; go_simp; all_goals with_reducible rfl)
      try simp only [Act.put]
      refine heldAny_take (i := 8) (v := ?_) rfl (by kernel_rfl) (by kernel_rfl) (by kernel_rfl) (by kernel_rfl) (fun _ _ _ h => h) (Or.inl ⟨by rfl, ?_⟩) (by assumption) ?_
      rotate_left
      · (intro wS hSw; (try dsimp only at hSw); go_split_ands; go_simp; all_goals with_reducible rfl)
      try simp only [Act.put]
      refine heldAny_take (i := 9) (v := ?_) rfl (by kernel_rfl) (by kernel_rfl) (by kernel_rfl) (by kernel_rfl) (fun _ _ _ h => h) (Or.inl ⟨by rfl, ?_⟩) (by assumption) ?_
      rotate_left
      · (intro wS hSw; (try dsimp only at hSw); go_split_ands; go_simp; all_goals with_reducible rfl)
      try simp only [Act.put]
      refine heldAny_take (i := 10) (v := ?_) rfl (by kernel_rfl) (by kernel_rfl) (by kernel_rfl) (by kernel_rfl) (fun _ _ _ h => h) (Or.inl ⟨by rfl, ?_⟩) (by assumption) ?_
      rotate_left
      · (intro wS hSw; (try dsimp only at hSw); go_split_ands; go_simp; all_goals with_reducible rfl)
      try simp only [Act.put]
      refine heldAny_one (i := 11) rfl (by kernel_rfl) (by kernel_rfl) (fun K hK => ?_)
      go_simp
      go_at_call 48
      refine hbk2.out.mono ?_
      rintro e wd ⟨rfl, hbd⟩
      have hO3 := own_below hO2.out hbd (Nat.le_refl _)
      have hBl3 := Lib.hid (hBl2.out.trans (hbd.mono hBl2.out.size))
      have hs3 := hBl3.out.size
      refine hK.out _ _ (hSX.out _ hBl3.out) (fun hS => ?_)
      try simp only [Act.put]
      clear hK K hbd hbk2
      refine heldAny_one (i := 12) rfl (by kernel_rfl) (by kernel_rfl) (fun K hK => ?_)
      go_simp
      refine hK.out _ _ (hSX.out _ (hBl3.out.alloc hs3 _)) (fun hS => ?_)
      try simp only [Act.put]
      clear hK K
      refine heldAny_one (i := 13) rfl (by kernel_rfl) (by kernel_rfl) (fun K hK => ?_)
      refine step_append_row _ elemBlk (by rfl) (.tmp 16) (.tmp 28) (by rfl) w2.heap.size _ _ _ (by rfl) (hO3.alloc _) _ _ 1 1 [.int .i64 (b.num : Int), .bool b.raw, .int .i64 (b.size : Int), .string b.body] (by rfl) (Row.newAt _ _ rfl _ [.int .i64 (b.num : Int), .bool b.raw, .int .i64 (b.size : Int), .string b.body] 1 4 rfl) ?_ ?_ ?_ ?_ ?_
      · intro z hz; simp at hz; rcases hz with rfl | rfl | rfl | rfl <;> rfl
      · unfold maxLen; omega
      · omega
      · simp; omega
      · intro ve we hve hge _
        obtain ⟨Ae, ce, rfl, _, _⟩ := own_form hve
        have hBe := Lib.hid ((hBl3.out.alloc hs3 _).grown hge (by simp; omega) (fun g hg => (hO3.lt g hg).1))
        have hOe : Hid (we.ownsRow w2.heap.size 65 4 (.slice Ae (m + 1) ce) (m + 1) (cellsB (acc ++ [b]))) := Lib.hid (by rw [hcb.out]; exact hve)
        refine hK.out _ _ (hSX.out _ hBe.out) (fun hS => ?_)
        try simp only [Act.put]
        refine heldAny_done (by kernel_rfl) ⟨by kernel_rfl, ?_⟩
        simp only [List.drop_succ_cons, List.drop_zero]
        clear hK K hS hve hge hO3 q0 q1 q2 q3 q4 q5
        go_wp2_with fail
        go_roundw
        case rel => exact ⟨Ae, ce, is, m + 1, acc ++ [b], rfl, rfl, hm2, his2, hal2, hS2, hOe, hBe⟩
        case measure => exact hmz
    · have hfin : k.split size L = acc := by
        obtain ⟨f, e1, e2⟩ := hS.out
        rw [List.drop_eq_nil_of_le (by rw [hN'.out]; omega)] at e2
        have : splitF k size f [] = [] := by cases f <;> simp [splitF]
        rw [this, List.append_nil] at e2
        exact e2
      have hni : ¬ (i : Int) < N := by omega
      replace hfin := Lib.hid hfin
      replace hWw := Lib.hid hWw
      go_wp2_with fail
      refine bodyPost_ret (v := .slice A' m c') (by simp [results, Tryz.results22, go_sem]) rfl ?_
      rw [hfin.out, hal.out]
      exact ⟨A', c', rfl, own_base hO.out hww, hWw.out⟩

end Go.Proofs.YthlgpgaeajfchaaGreatDoor

namespace Go.Proofs.YthlgpgaeajfchaaGreatDoor
open Go.RowKit
set_option linter.unusedVariables false
set_option linter.unusedSimpArgs false
set_option maxRecDepth 100000

/-- The operations from n on wait for all before; n may be the number of all. -/
def waitC (md : Region.Mode) (ops : Array Oper) (n : Nat) : Bool :=
  Region.noSelect ops && decide (n ≤ ops.size) && (List.range ops.size).all fun t => decide (t < n) || (List.range n).all fun i => Region.waitsFor md ops t i

section
variable {P : Program} {ops : Array Oper} {Q : Exit → Act → World → Prop} {md : Region.Mode} {S : World → Prop}

/-- While one of the first n has not come up, none of the last may. -/
theorem waitC_ready {n i : Nat} {listed : Array Bool} (hB : waitC md ops n = true) (hi : i < n) (hun : listed.getD i true = false) {t : Nat} (ht : t ∈ Region.ready md ops listed) : t < n := by
  simp only [waitC, Bool.and_eq_true, decide_eq_true_eq] at hB
  obtain ⟨_, ot, hot, hall⟩ := mem_ready.1 ht
  have htl : t < ops.size := (Array.getElem?_eq_some_iff.1 hot).1
  have h1 := List.all_eq_true.1 hB.2 t (List.mem_range.2 htl)
  simp only [Bool.or_eq_true, decide_eq_true_eq] at h1
  rcases h1 with h1 | h1
  · exact h1
  · exfalso
    have h2 := List.all_eq_true.1 h1 i (List.mem_range.2 hi)
    obtain ⟨o', ho', e, he, hb, hon⟩ := Region.waitsFor_spec h2
    obtain rfl : o' = ot := Option.some.inj (ho'.symm.trans hot)
    have h3 := hall e he hb
    rw [hon, getD_both hun] at h3
    cases h3

/-- One of the first n that may come up and yields its value in every world that meets S may be taken first. -/
theorem heldAny_first2 {n i : Nat} {oi : Oper} {v : Value} {L : Array Bool → Act → World → Prop} (hi : ops[i]? = some oi) (hsel : ∀ (j : Nat) (o : Oper) cs b, ops[j]? = some o → o.op ≠ .select cs b)
    (hB : waitC md ops n = true) (hin : i < n) (hQ : ∀ c a w, Q (.panic c) (a.put oi.dst v) w → Q (.panic c) a w) :
    ∀ (f : Nat) (listed : Array Bool) (a : Act) (w : World),
      (∀ j oj, ops[j]? = some oj → j ≠ i → listed.getD j true = false → (∀ e ∈ oj.after, Region.binds md e = true → e.on ≠ i) → oi.apart ops oj = true) →
      i ∈ Region.ready md ops listed → YieldsIf P ops S oi v a → S w →
      heldAny P md ops Q S n L f (listed.setIfInBounds i true) (a.put oi.dst v) w → heldAny P md ops Q S n L (f + 1) listed a w := by
  intro f
  induction f with
  | zero =>
    intro listed a w _ hr hy hS H
    have hun := (mem_ready.1 hr).1
    refine ⟨fun h => (by rw [h] at hr; cases hr), fun j hj => ?_⟩
    have hjn := waitC_ready hB hin hun hj
    refine ⟨hjn, ?_⟩
    by_cases hji : j = i
    · subst hji; exact hy.wpOp hi hS ⟨hS, H⟩
    · have := H.1 j (ready_mono hj hji)
      omega
  | succ f ih =>
    intro listed a w hfree hr hy hS H
    have hun := (mem_ready.1 hr).1
    refine ⟨fun h => (by rw [h] at hr; cases hr), fun j hj => ?_⟩
    have hjn := waitC_ready hB hin hun hj
    refine ⟨hjn, ?_⟩
    by_cases hji : j = i
    · subst hji; exact hy.wpOp hi hS ⟨hS, H⟩
    · have h1 := (H.2 j (ready_mono hj hji)).2
      obtain ⟨hjun, oj, hoj, hall⟩ := mem_ready.1 hj
      have hnot : ∀ e ∈ oj.after, Region.binds md e = true → e.on ≠ i := fun e he hb heq => by
        have h2 := hall e he hb
        rw [heq, getD_both hun] at h2
        cases h2
      have h2 := wpOp_putIf hoj (hfree j oj hoj hji hjun hnot) (fun cs b => hsel i oi cs b hi) (fun cs b => hsel j oj cs b hoj) hQ hy h1
      have hfree' : ∀ k ok, ops[k]? = some ok → k ≠ i → (listed.setIfInBounds j true).getD k true = false →
          (∀ e ∈ ok.after, Region.binds md e = true → e.on ≠ i) → oi.apart ops ok = true := fun k ok hk hki hu hno => by
        refine hfree k ok hk hki ?_ hno
        by_cases hjk : j = k
        · subst hjk; exact hjun
        · rw [getD_set_ne true hjk] at hu; exact hu
      refine wpOp_mono (fun a' w' h3 => ⟨h3.2.1, ih (listed.setIfInBounds j true) a' w' hfree' (ready_mono hr (Ne.symm hji)) h3.1 h3.2.1 ?_⟩) h2
      rw [Array.setIfInBounds_comm _ _ hji]
      exact h3.2.2

/-- Operation number i is taken first. -/
theorem heldAny_take2 {n i : Nat} {oi : Oper} {v : Value} {f : Nat} {L : Array Bool → Act → World → Prop} {listed : Array Bool} {a : Act} {w : World} (hi : ops[i]? = some oi) (hB : waitC md ops n = true) (hin : decide (i < n) = true)
    (hf : Region.free md ops listed i = true) (hr : (Region.ready md ops listed).contains i = true) (hQ : ∀ c a w, Q (.panic c) (a.put oi.dst v) w → Q (.panic c) a w) (hy : YieldsIf P ops S oi v a) (hS : S w)
    (h : heldAny P md ops Q S n L f (listed.setIfInBounds i true) (a.put oi.dst v) w) : heldAny P md ops Q S n L (f + 1) listed a w := by
  have hB' := hB
  simp only [waitC, Bool.and_eq_true, decide_eq_true_eq] at hB'
  exact heldAny_first2 hi (Region.noSelect_spec hB'.1.1) hB (of_decide_eq_true hin) hQ f listed a w (Region.free_spec hi hf) (by simpa using hr) hy hS h

end

theorem conts_szs {s : ByteArray} {k : Nat} {acc bs : List Blk} (hc : conts s k acc = some bs) : szs bs ≤ 2000 := by
  by_cases hk : k < s.size
  · by_cases h1 : pbOk s k ∧ (pbBlk s k).num = acc.length
    · rw [conts_next hk h1.1 h1.2] at hc
      exact conts_szs hc
    · rw [conts_bad hk h1] at hc
      cases hc
  · rw [conts_end (by omega)] at hc
    split at hc
    · rename_i h
      injection hc with hc
      subst hc
      exact h
    · cases hc
termination_by s.size - k
decreasing_by have := pbEnd_ge s k; omega

end Go.Proofs.YthlgpgaeajfchaaGreatDoor
