/-
 AppendData of the program and of the reference.
-/
import Derived.Test.YthlgpgaeajfchaaGreatPwImplMake
import Derived.Test.YthlgpgaeajfchaaGreatPwContSpec

namespace Go.Proofs.YthlgpgaeajfchaaGreat
open Go.RowKit
set_option linter.unusedVariables false
set_option maxRecDepth 100000

set_option maxHeartbeats 2000000 in
theorem implNewBlocksYes (k : Kn) (A : Option Addr) (c B size : Nat) (L : List UInt8) (w : World) (h : k.Fresh) (hA : k.At w B A) (hB : B ≤ w.heap.size) (hr : roomy L.length size) :
  Calls Tryz.prog 82 #[k.val A c, .string (bsL L), .int .i64 (size : Int)] w fun e w' => ∃ A' c', e = .returned (.tuple #[.slice A' (k.split size L).length c', .bool true]) ∧ w'.ownsRow w.heap.size 36 4 (.slice A' (k.split size L).length c') (k.split size L).length (cellsB (k.split size L)) ∧ Below w.heap.size w w' := by
 obtain ⟨hsz, hL, h40⟩ := hr
 have HS := Lib.hid (fun W => implSizeValid (size : Int) true W (btrue hsz))
 have HM := fun (W : World) (hb : Below w.heap.size w W) => implMakeBlocks k A c B size L W h (hA.below hb hB) (Nat.le_trans hB hb.size) hL (by omega) (by omega)
 have hval := Kn.val_eq k
 simp only [hval] at HM ⊢
 have kb0 := (KB.start w 74 (.int .i64 (k.o : Int)) (.int .i64 (k.l : Int)) (.int .i64 (k.m : Int)) (.slice A k.ps.length c) (.int .i64 (k.base : Int)) (.int .i64 k.lastI)).c
 have hW0 := (Below.refl w.heap.size w).alloc (Nat.le_refl _) (.cells #[.int .i64 (k.o : Int), .int .i64 (k.l : Int), .int .i64 (k.m : Int), .slice A k.ps.length c, .int .i64 (k.base : Int), .int .i64 k.lastI] 74)
 have hM0 := Lib.hid (HM _ hW0)
 replace hW0 := Lib.hid hW0
 obtain ⟨S, hS⟩ : ∃ S, k.split size L = S := ⟨_, rfl⟩
 rw [hS] at hM0 ⊢
 have hLs : (bsL L).size = L.length := rfl
 obtain ⟨n, hn⟩ : ∃ n, L.length = n := ⟨_, rfl⟩
 rw [hn] at hLs hL h40
 obtain ⟨z, hz⟩ : ∃ z : Nat, 40 * (size : Int) = z := ⟨40 * size, by omega⟩
 have wz : IntKind.i64.wrap (z : Int) = z := IntWalk.i64_in _ (by omega)
 have g1 : decide ((2000 : Int) < n) = false := decide_eq_false (by omega)
 have g2 : decide (2000 < n) = false := decide_eq_false (by omega)
 have g3 : decide ((z : Int) < n) = false := decide_eq_false (by omega)
 have g4 : decide (z < n) = false := decide_eq_false (by omega)
 clear HM hval h hA hS hn
 go_enter Tryz.func82, Tryz.ntmps82
 go_wp2_with fail
 refine (HS.out _).mono ?_
 rintro e w1 ⟨rfl, rfl⟩
 obtain ⟨q0, q1, q2, q3, q4, q5⟩ := kb0
 go_wp2_with fail
 refine hM0.out.mono ?_
 rintro e w2 ⟨A2, c2, rfl, hown, hb⟩
 have hown2 := Lib.hid (own_base hown hW0.out.size)
 have hfin := Lib.hid (hW0.out.trans (hb.mono hW0.out.size))
 clear hown hb hM0 q0 q1 q2 q3 q4 q5
 go_wp2_with fail
 go_ret2
 exact ⟨A2, c2, rfl, hown2.out, hfin.out⟩

set_option maxHeartbeats 2000000 in
theorem implNewBlocksNo (k : Kn) (A : Option Addr) (c : Nat) (size : Int) (s : ByteArray) (w : World) (hs : s.size ≤ 1048576) (hr : ¬ roomy s.size size) :
  Calls Tryz.prog 82 #[k.val A c, .string s, .int .i64 size] w fun e w' => e = .returned (.tuple #[.slice none 0 0, .bool false]) ∧ Below w.heap.size w w' := by
 rw [Kn.val_eq]
 have hW0 := Lib.hid ((Below.refl w.heap.size w).alloc (Nat.le_refl _) (.cells #[.int .i64 (k.o : Int), .int .i64 (k.l : Int), .int .i64 (k.m : Int), .slice A k.ps.length c, .int .i64 (k.base : Int), .int .i64 k.lastI] 74))
 by_cases hsz : 1 ≤ size ∧ size ≤ 64
 ·have HS := Lib.hid (fun W => implSizeValid size true W (btrue hsz))
  obtain ⟨sz, rfl⟩ : ∃ n : Nat, size = n := ⟨size.toNat, by omega⟩
  obtain ⟨n, hn⟩ : ∃ n, s.size = n := ⟨_, rfl⟩
  obtain ⟨z, hz⟩ : ∃ z : Nat, 40 * (sz : Int) = z := ⟨40 * sz, by omega⟩
  have wz : IntKind.i64.wrap (z : Int) = z := IntWalk.i64_in _ (by omega)
  by_cases h2 : 2000 < n
  ·have g1 : decide ((2000 : Int) < n) = true := decide_eq_true (by omega)
   have g2 : decide (2000 < n) = true := decide_eq_true h2
   clear hr
   go_enter Tryz.func82, Tryz.ntmps82
   go_wp2_with fail
   refine (HS.out _).mono ?_
   rintro e w1 ⟨rfl, rfl⟩
   go_wp2_with fail
   go_ret2
   exact ⟨rfl, hW0.out⟩
  ·have h3 : z < n := by
    rcases Nat.lt_or_ge z n with h5 | h5
    ·exact h5
    ·exact absurd ⟨hsz, by omega, by omega⟩ hr
   have g1 : decide ((2000 : Int) < n) = false := decide_eq_false (by omega)
   have g2 : decide (2000 < n) = false := decide_eq_false h2
   have g3 : decide ((z : Int) < n) = true := decide_eq_true (by omega)
   have g4 : decide (z < n) = true := decide_eq_true h3
   clear hr
   go_enter Tryz.func82, Tryz.ntmps82
   go_wp2_with fail
   refine (HS.out _).mono ?_
   rintro e w1 ⟨rfl, rfl⟩
   go_wp2_with fail
   go_ret2
   exact ⟨rfl, hW0.out⟩
 ·have HS := Lib.hid (fun W => implSizeValid size false W (bfalse hsz))
  clear hr hsz
  go_enter Tryz.func82, Tryz.ntmps82
  go_wp2_with fail
  refine (HS.out _).mono ?_
  rintro e w1 ⟨rfl, rfl⟩
  go_wp2_with fail
  go_ret2
  exact ⟨rfl, hW0.out⟩

set_option maxHeartbeats 1000000 in
theorem specL6Room (o l m size : Int) (s : ByteArray) (r : Bool) (w : World) (hs : s.size ≤ 1048576) (hr : r = true ↔ dfits o l m s.data.toList ∧ (1 ≤ size ∧ size ≤ 64)) :
  Calls Tryz.prog 64 #[.agg #[.int .i64 o, .int .i64 l, .int .i64 m], .string s, .int .i64 size] w fun e w' => e = .returned (.bool r) ∧ Below w.heap.size w w' := by
 have hW0 := Lib.hid ((Below.refl w.heap.size w).alloc (Nat.le_refl _) (.cells #[.int .i64 o, .int .i64 l, .int .i64 m] 24))
 by_cases h1 : dfits o l m s.data.toList
 ·have HR := Lib.hid (fun W => specL5Ready o l m s true W hs (btrue h1))
  have HI := Lib.hid (fun W => specL1In size 1 64 r W (by rw [hr]; exact ⟨fun h => h.2, fun h => ⟨h1, h⟩⟩))
  clear hr h1
  go_enter Tryz.func64, Tryz.ntmps64
  go_wp2_with fail
  refine (HR.out _).mono ?_
  rintro e w1 ⟨rfl, hb1⟩
  have hW1 := Lib.hid (hW0.out.trans (hb1.mono hW0.out.size))
  clear hb1
  go_wp2_with fail
  refine (HI.out _).mono ?_
  rintro e w2 ⟨rfl, rfl⟩
  go_wp2_with fail
  go_ret
  exact ⟨rfl, hW1.out⟩
 ·have HR := Lib.hid (fun W => specL5Ready o l m s false W hs (bfalse h1))
  have hrf : r = false := by
   cases r with
   | false => rfl
   | true => exact absurd (hr.1 rfl).1 h1
  subst hrf
  clear hr h1
  go_enter Tryz.func64, Tryz.ntmps64
  go_wp2_with fail
  refine (HR.out _).mono ?_
  rintro e w1 ⟨rfl, hb1⟩
  have hW1 := Lib.hid (hW0.out.trans (hb1.mono hW0.out.size))
  clear hb1
  go_wp2_with fail
  go_ret
  exact ⟨rfl, hW1.out⟩

set_option maxHeartbeats 1000000 in
theorem specL6Many (size : Nat) (s : ByteArray) (r : Bool) (w : World) (hs : s.size ≤ 1048576) (h64 : size ≤ 64) (hr : r = true ↔ ¬ (s.size ≤ 2000 ∧ (s.size : Int) ≤ 40 * (size : Int))) :
  Calls Tryz.prog 83 #[.string s, .int .i64 (size : Int)] w fun e w' => e = .returned (.bool r) ∧ w = w' := by
 obtain ⟨n, hn⟩ : ∃ n, s.size = n := ⟨_, rfl⟩
 rw [hn] at hr hs
 obtain ⟨z, hz⟩ : ∃ z : Nat, (size : Int) * 40 = z := ⟨size * 40, by omega⟩
 have wz : IntKind.i64.wrap (z : Int) = z := IntWalk.i64_in _ (by omega)
 by_cases h1 : 2000 < n
 ·have g1 : decide ((2000 : Int) < n) = true := decide_eq_true (by omega)
  have g2 : decide (2000 < n) = true := decide_eq_true h1
  have hrt : r = true := hr.2 (fun h => by omega)
  subst hrt
  clear hr
  go_enter Tryz.func83, Tryz.ntmps83
  go_wp2_with fail
  go_ret
  exact ⟨rfl, rfl⟩
 ·have g1 : decide ((2000 : Int) < n) = false := decide_eq_false (by omega)
  have g2 : decide (2000 < n) = false := decide_eq_false h1
  have g3 : decide ((z : Int) < n) = r := by
   by_cases h3 : z < n
   ·rw [hr.2 (fun h => by omega)]; exact decide_eq_true (by omega)
   ·have : r = false := by
     cases r with
     | false => rfl
     | true => exact absurd ⟨by omega, by omega⟩ (hr.1 rfl)
    rw [this]; exact decide_eq_false (by omega)
  have g4 : decide (z < n) = r := by rw [← g3]; by_cases h3 : z < n <;> simp [h3]
  clear hr
  go_enter Tryz.func83, Tryz.ntmps83
  go_wp2_with fail
  go_ret
  exact ⟨rfl, rfl⟩

theorem renum_block (k : Kn) (d : List UInt8) : renum 0 (k.block d) = k.block d := by
 unfold Kn.block
 split <;> rfl

set_option maxHeartbeats 4000000 in
theorem specL6Split (o l m size : Nat) (d L : List UInt8) (w : World) (h : dfits o l m d) (hL : L.length ≤ 2000) (h1 : 1 ≤ size) (h64 : size ≤ 64) :
  Calls Tryz.prog 84 #[.agg #[.int .i64 (o : Int), .int .i64 (l : Int), .int .i64 (m : Int)], .string (bsL d), .string (bsL L), .int .i64 (size : Int)] w fun e w' => ∃ A' c', e = .returned (.slice A' ((Kn.dict o l m d).split size L).length c') ∧ w'.ownsRow w.heap.size 36 4 (.slice A' ((Kn.dict o l m d).split size L).length c') ((Kn.dict o l m d).split size L).length (cellsB ((Kn.dict o l m d).split size L)) ∧ Below w.heap.size w w' := by
 have HB := fun (X : List UInt8) (hX : X.length ≤ 100000) (W : World) => specL5Block o l m 0 d X W h hX
 obtain ⟨k, hk⟩ : ∃ k, Kn.dict o l m d = k := ⟨_, rfl⟩
 rw [hk] at HB ⊢
 simp only [renum_block] at HB
 have hz := splitF_szs k h1 L.length L (Nat.le_refl _)
 have hdl : (L.length + size - 1) / size ≤ 2064 := Nat.le_trans (Nat.div_le_self _ _) (by omega)
 have hsp : Hid ((k.split size L).length ≤ 2064) := Lib.hid (by show (splitF k size L.length L).length ≤ _; omega)
 have hW0 := (Below.refl w.heap.size w).alloc (Nat.le_refl _) (.cells #[.int .i64 (o : Int), .int .i64 (l : Int), .int .i64 (m : Int)] 24)
 have kb0 := (KBn.start w 24 [.int .i64 (o : Int), .int .i64 (l : Int), .int .i64 (m : Int)])
 have hs0 : (w.alloc (.cells #[.int .i64 (o : Int), .int .i64 (l : Int), .int .i64 (m : Int)] 24)).heap.size = w.heap.size + 1 := by simp
 replace HB := Lib.hid HB
 clear hk hz hdl h
 go_enter Tryz.func84, Tryz.ntmps84
 go_upto_region 1 with (fail)
 obtain ⟨w2, hw2⟩ : ∃ W, w.alloc (.cells #[.int .i64 (o : Int), .int .i64 (l : Int), .int .i64 (m : Int)] 24) = W := ⟨_, rfl⟩
 have hw2' : w.alloc (.cells #[.int .i64 (o : Int), .int .i64 (l : Int), .int .i64 (m : Int)] 24) = w2 := hw2
 have kb1 : KBn w2 w.heap.size [.int .i64 (o : Int), .int .i64 (l : Int), .int .i64 (m : Int)] := by rw [← hw2]; exact kb0
 rw [hw2] at hW0 ⊢
 clear hw2 hw2' kb0 hs0
 have hX := Lib.hid (fun (W : World) (hb : Below w2.heap.size w2 W) => And.intro (And.intro ((kb1.below hb).c 0 _ rfl) (And.intro ((kb1.below hb).c 1 _ rfl) ((kb1.below hb).c 2 _ rfl))) (hW0.trans (hb.mono hW0.size)))
 have hww := hW0.size
 have hst : Hid ((w2.alloc (.cells #[] 36)).ownsRow w2.heap.size 36 4 (.slice (some ⟨w2.heap.size, 0, none⟩) 0 0) 0 (cellsB []) ∧ Below w2.heap.size w2 (w2.alloc (.cells #[] 36))) := Lib.hid ⟨World.ownsRow_lit (base := w2.heap.size) (size := 4) (e := 36) w2 #[] 0 (Nat.le_refl _) (by unfold maxLen; omega) rfl, (Below.refl _ _).alloc (Nat.le_refl _) _⟩
 clear kb1 hW0
 go_wp2_with fail
 go_loopw [2, 9] (fun v u wr => ∃ (A' : Option Addr) (c' m9 : Nat) (acc : List Blk) (dd : List UInt8), v = .string (bsL dd) ∧ u = .slice A' m9 c' ∧ m9 ≤ 2064 ∧ dd.length ≤ 2000 ∧ Hid (acc.length = m9) ∧ Hid (∃ f, dd.length ≤ f ∧ k.split size L = acc ++ splitF k size f dd) ∧ Hid (wr.ownsRow w2.heap.size 36 4 (.slice A' m9 c') m9 (cellsB acc) ∧ Below w2.heap.size w2 wr)) (fun v _ _ => szOf v)
 case atStart => exact ⟨some ⟨w2.heap.size, 0, none⟩, 0, 0, [], L, rfl, rfl, Nat.zero_le _, hL, Lib.hid rfl, Lib.hid ⟨L.length, Nat.le_refl _, rfl⟩, hst⟩
 case round =>
  clear hst
  obtain ⟨A', c', m9, acc, dd, rfl, rfl, hm9, hdl, hal, hS, hO⟩ := hrel
  have hcmp : dd.isEmpty = decide (dd = []) := by cases dd <;> rfl
  obtain ⟨⟨q0, q1, q2⟩, hWw⟩ := hX.out _ hO.out.2
  by_cases hd : dd = []
  ·have hfin : k.split size L = acc := by
    obtain ⟨f, e1, e2⟩ := hS.out
    rw [hd] at e2
    have : splitF k size f [] = [] := by cases f <;> simp [splitF]
    rw [this, List.append_nil] at e2
    exact e2
   rw [decide_eq_true hd] at hcmp
   replace hfin := Lib.hid hfin
   replace hWw := Lib.hid hWw
   clear hd
   go_wp2_with fail
   refine bodyPost_ret (v := .slice A' m9 c') (by simp [results, Tryz.results84, go_sem]) rfl ?_
   rw [hfin.out, hal.out]
   exact ⟨A', c', rfl, own_base hO.out.1 hww, hWw.out⟩
  ·rw [decide_eq_false hd] at hcmp
   have hl0 : dd.length ≠ 0 := fun e => hd (List.eq_nil_of_length_eq_zero e)
   obtain ⟨n, hn⟩ : ∃ n, min size dd.length = n := ⟨_, rfl⟩
   have hnm : min (size : Int) (dd.length : Int) = (n : Int) := by omega
   have hdsz : (bsL dd).size = dd.length := rfl
   have htk : (bsL dd).extract 0 n = bsL (dd.take size) := by
    rw [bsL_take]
    congr 1
    by_cases hc : size ≤ dd.length
    ·rw [show n = size by omega]
    ·rw [show n = dd.length by omega, List.take_of_length_le (Nat.le_refl _), List.take_of_length_le (by omega)]
   have hdr : (bsL dd).extract n dd.length = bsL (dd.drop size) := by
    rw [bsL_drop]
    congr 1
    by_cases hc : size ≤ dd.length
    ·rw [show n = size by omega]
    ·rw [show n = dd.length by omega, List.drop_eq_nil_of_le (Nat.le_refl _), List.drop_eq_nil_of_le (by omega)]
   have hbk := HB.out (dd.take size) (by rw [List.length_take]; omega)
   obtain ⟨b, hb⟩ : ∃ b, k.block (dd.take size) = b := ⟨_, rfl⟩
   rw [hb] at hbk
   unfold Blk.val at hbk
   have hS2 : Hid (∃ f, (dd.drop size).length ≤ f ∧ k.split size L = (acc ++ [b]) ++ splitF k size f (dd.drop size)) := Lib.hid (by
    obtain ⟨f, e1, e2⟩ := hS.out
    cases f with
    | zero => exact absurd (List.eq_nil_of_length_eq_zero (by omega)) hd
    | succ f =>
     rw [splitF, if_neg hd, hb] at e2
     exact ⟨f, by rw [List.length_drop]; omega, by rw [e2]; simp⟩)
   have hm2 : m9 + 1 ≤ 2064 := by
    obtain ⟨f, e1, e2⟩ := hS2.out
    have h9 := congrArg List.length e2
    rw [List.length_append, List.length_append, hal.out, List.length_singleton] at h9
    have := hsp.out
    omega
   have hcb : Hid (cellsB (acc ++ [b]) = cellsB acc ++ [.int .i64 (b.num : Int), .bool b.raw, .int .i64 (b.size : Int), .string b.body]) := Lib.hid (by rw [cellsB_append, cellsB_one]; rfl)
   have hal2 : Hid ((acc ++ [b]).length = m9 + 1) := Lib.hid (by rw [List.length_append, hal.out]; rfl)
   have hmes : (dd.drop size).length < dd.length := by rw [List.length_drop]; omega
   have hdl2 : (dd.drop size).length ≤ 2000 := by rw [List.length_drop]; omega
   obtain ⟨D2, hD2⟩ : ∃ D2, dd.drop size = D2 := ⟨_, rfl⟩
   obtain ⟨X2, hX2⟩ : ∃ X2, bsL (dd.take size) = X2 := ⟨_, rfl⟩
   rw [hD2] at hdr hS2 hmes hdl2
   rw [hX2] at htk hbk
   replace hbk := Lib.hid hbk
   replace hmes := Lib.hid (show szOf (.string (bsL D2)) < szOf (.string (bsL dd)) from hmes)
   have i0 : (0 : Int) ≤ n := by omega
   have i1 : (n : Int) ≤ dd.length := by omega
   have hSX : Hid (∀ W, Below w2.heap.size w2 W → W.cell? ⟨w.heap.size, 0, none⟩ = some (.int .i64 (o : Int)) ∧ W.cell? ⟨w.heap.size, 1, none⟩ = some (.int .i64 (l : Int)) ∧ W.cell? ⟨w.heap.size, 2, none⟩ = some (.int .i64 (m : Int))) := Lib.hid (fun W hW => (hX.out W hW).1)
   replace hn := Lib.hid hn
   clear hd hl0 hb hD2 hX2 hS hWw
   go_upto_region 4 with (fail)
   refine wp_region_held_tail (S := fun W => W.cell? ⟨w.heap.size, 0, none⟩ = some (.int .i64 (o : Int)) ∧ W.cell? ⟨w.heap.size, 1, none⟩ = some (.int .i64 (l : Int)) ∧ W.cell? ⟨w.heap.size, 2, none⟩ = some (.int .i64 (m : Int))) 9 (by kernel_rfl) (by kernel_rfl) (hSX.out _ hO.out.2.drew) (fun hS => ?_)
   have hO2 := Lib.hid (own_below hO.out.1 (Below.refl _ _).drew (Nat.le_refl _))
   have hBl2 := Lib.hid hO.out.2.drew
   have hbk2 := Lib.hid (hbk.out wr.drew)
   refine heldAny_take (i := 0) (v := ?_) rfl (by kernel_rfl) (by kernel_rfl) (by kernel_rfl) (by kernel_rfl) (fun _ _ _ h => h) (Or.inl ⟨by rfl, ?_⟩) (by assumption) ?_
   rotate_left
   ·(intro wS hSw; (try dsimp only at hSw); go_split_ands; go_simp; all_goals with_reducible rfl)
   try simp only [Act.put]
   refine heldAny_take (i := 1) (v := ?_) rfl (by kernel_rfl) (by kernel_rfl) (by kernel_rfl) (by kernel_rfl) (fun _ _ _ h => h) (Or.inl ⟨by rfl, ?_⟩) (by assumption) ?_
   rotate_left
   ·(intro wS hSw; (try dsimp only at hSw); go_split_ands; go_simp; all_goals with_reducible rfl)
   try simp only [Act.put]
   refine heldAny_take (i := 2) (v := ?_) rfl (by kernel_rfl) (by kernel_rfl) (by kernel_rfl) (by kernel_rfl) (fun _ _ _ h => h) (Or.inl ⟨by rfl, ?_⟩) (by assumption) ?_
   rotate_left
   ·(intro wS hSw; (try dsimp only at hSw); go_split_ands; go_simp; all_goals with_reducible rfl)
   try simp only [Act.put]
   refine heldAny_take (i := 3) (v := ?_) rfl (by kernel_rfl) (by kernel_rfl) (by kernel_rfl) (by kernel_rfl) (fun _ _ _ h => h) (Or.inl ⟨by rfl, ?_⟩) (by assumption) ?_
   rotate_left
   ·(intro wS hSw; (try dsimp only at hSw); go_split_ands; go_simp; all_goals with_reducible rfl)
   try simp only [Act.put]
   refine heldAny_take (i := 4) (v := ?_) rfl (by kernel_rfl) (by kernel_rfl) (by kernel_rfl) (by kernel_rfl) (fun _ _ _ h => h) (Or.inl ⟨by rfl, ?_⟩) (by assumption) ?_
   rotate_left
   ·(intro wS hSw; (try dsimp only at hSw); go_split_ands; go_simp; all_goals with_reducible rfl)
   try simp only [Act.put]
   refine heldAny_take (i := 5) (v := ?_) rfl (by kernel_rfl) (by kernel_rfl) (by kernel_rfl) (by kernel_rfl) (fun _ _ _ h => h) (Or.inl ⟨by rfl, ?_⟩) (by assumption) ?_
   rotate_left
   ·(intro wS hSw; (try dsimp only at hSw); go_split_ands; go_simp; all_goals with_reducible rfl)
   try simp only [Act.put]
   refine heldAny_one (i := 6) rfl (by kernel_rfl) (by kernel_rfl) (fun K hK => ?_)
   go_simp
   go_at_call 66
   refine hbk2.out.mono ?_
   rintro e wd ⟨rfl, hbd⟩
   have hO3 := own_below hO2.out hbd (Nat.le_refl _)
   have hBl3 := Lib.hid (hBl2.out.trans (hbd.mono hBl2.out.size))
   have hs3 := hBl3.out.size
   refine hK.out _ _ (hSX.out _ hBl3.out) (fun hS => ?_)
   try simp only [Act.put]
   clear hK K hbd hbk2
   refine heldAny_one (i := 7) rfl (by kernel_rfl) (by kernel_rfl) (fun K hK => ?_)
   go_simp
   refine hK.out _ _ (hSX.out _ (hBl3.out.alloc hs3 _)) (fun hS => ?_)
   try simp only [Act.put]
   clear hK K
   refine heldAny_one (i := 8) rfl (by kernel_rfl) (by kernel_rfl) (fun K hK => ?_)
   refine step_append_row _ elemBlk (by rfl) (.tmp 18) (.tmp 25) (by rfl) w2.heap.size _ _ _ (by rfl) (hO3.alloc _) _ _ 1 1 [.int .i64 (b.num : Int), .bool b.raw, .int .i64 (b.size : Int), .string b.body] (by rfl) (Row.newAt _ _ rfl _ [.int .i64 (b.num : Int), .bool b.raw, .int .i64 (b.size : Int), .string b.body] 1 4 rfl) ?_ ?_ ?_ ?_ ?_
   ·intro z hz; simp at hz; rcases hz with rfl | rfl | rfl | rfl <;> rfl
   ·unfold maxLen; omega
   ·omega
   ·simp; omega
   ·intro ve we hve hge _
    obtain ⟨Ae, ce, rfl, _, _⟩ := own_form hve
    have hBe := Lib.hid ((hBl3.out.alloc hs3 _).grown hge (by simp; omega) (fun g hg => (hO3.lt g hg).1))
    have hOe : Hid (we.ownsRow w2.heap.size 36 4 (.slice Ae (m9 + 1) ce) (m9 + 1) (cellsB (acc ++ [b])) ∧ Below w2.heap.size w2 we) := Lib.hid ⟨by rw [hcb.out]; exact hve, hBe.out⟩
    refine hK.out _ _ (hSX.out _ hBe.out) (fun hS => ?_)
    try simp only [Act.put]
    refine heldAny_done (by kernel_rfl) ⟨by kernel_rfl, ?_⟩
    simp only [List.drop_succ_cons, List.drop_zero]
    clear hK K hS hve hge hO3 q0 q1 q2
    go_wp2_with fail
    go_roundw
    case rel => exact ⟨Ae, ce, m9 + 1, acc ++ [b], D2, rfl, rfl, hm2, hdl2, hal2, hS2, hOe⟩
    case measure => exact hmes.out

end Go.Proofs.YthlgpgaeajfchaaGreat

