/-
 The program's InsertData and DeleteRange.
-/
import Derived.Test.YthlgpgaeajfchaaGreatQMergeP
import Derived.Test.YthlgpgaeajfchaaGreatQEditP
import Derived.Test.YthlgpgaeajfchaaGreatQCutImpl
import Derived.Test.YthlgpgaeajfchaaGreatQEdits
import Derived.Test.YthlgpgaeajfchaaGreatQHeldTail
import Derived.Test.YthlgpgaeajfchaaGreatQTreeMem

namespace Go.Proofs.YthlgpgaeajfchaaGreat
open Go.RowKit
set_option linter.unusedVariables false
set_option linter.unusedSimpArgs false
set_option maxRecDepth 100000

set_option maxHeartbeats 4000000 in
theorem implReplaceRange (o l m : Int) (d s U : ByteArray) (f t size : Int) (w : World) (hd : d.size ≤ 1048576) (hs : s.size ≤ 1048576) (hU : U.size ≤ 1048576) :
  Calls Tryz.prog 31 #[.agg #[.int .i64 o, .int .i64 l, .int .i64 m], .string d, .string s, .int .i64 f, .int .i64 t, .string U, .int .i64 size] w fun e w' => e = .returned (optV (replC o l m d.data.toList (contB s) f t U.data.toList size)) ∧ Below w.heap.size w w' := by
 have hW0 := Lib.hid ((Below.refl w.heap.size w).alloc (Nat.le_refl _) (.cells #[.int .i64 o, .int .i64 l, .int .i64 m] 24))
 have hUs : U.data.toList.length = U.size := by simp
 by_cases hyn : ¬ dfits o l m d.data.toList ∨ contB s = none
 ·have HS := Lib.hid (fun W => implStartEditOff o l m d s W hd hs hyn)
  have hA : replC o l m d.data.toList (contB s) f t U.data.toList size = none := by
   unfold replC
   split
   ·rename_i bs hbs
    rcases hyn with h | h
    ·rw [if_neg (fun hh => h hh.1.1)]
    ·rw [hbs] at h; cases h
   ·rfl
  rw [hA]
  clear hyn hA hUs
  go_enter Tryz.func31, Tryz.ntmps31
  go_wp2_with fail
  refine (HS.out _).mono ?_
  rintro e w1 ⟨rfl, hb1⟩
  have hW1 := Lib.hid ((hW0.out.trans (hb1.mono hW0.out.size)).alloc (hW0.out.trans (hb1.mono hW0.out.size)).size (.cells #[.int .i64 0, .int .i64 0, .int .i64 0, .slice none 0 0, .int .i64 0, .int .i64 0] 74))
  clear hb1 hW0
  go_wp2_with fail
  go_ret2
  exact ⟨rfl, hW1.out⟩
 ·have hf : dfits o l m d.data.toList := Classical.byContradiction (fun h => hyn (Or.inl h))
  obtain ⟨bs, hbs⟩ := Option.ne_none_iff_exists'.1 (fun h => hyn (Or.inr h))
  rw [hbs]
  obtain ⟨n, hn⟩ : ∃ n, bs.length = n := ⟨_, rfl⟩
  have hnum := contB_numbered hbs
  have hn40 := hnum.length
  rw [hn] at hn40
  have hok : ∀ b ∈ bs, b.okb := fun b hb => Blk.okb_of (hnum.of_mem hb)
  have hz0 : szs bs ≤ 2000 := conts_szs hbs
  obtain ⟨on, rfl⟩ : ∃ n : Nat, o = n := ⟨o.toNat, by have := hf.1.1; omega⟩
  obtain ⟨ln, rfl⟩ : ∃ n : Nat, l = n := ⟨l.toNat, by have := hf.1.2.1; omega⟩
  obtain ⟨mn, rfl⟩ : ∃ n : Nat, m = n := ⟨m.toNat, by have := hf.1.2; omega⟩
  have HS := fun W => implStartEditFar on ln mn n d.data.toList s bs W hf hs hbs hn
  have hbd : bsL d.data.toList = d := rfl
  simp only [hbd] at HS
  have hfr := (Kn.dict_fresh hf).1
  have HZ := fun A c W (hr : Row W W.heap.size 4 A n (cellsB bs)) => implSizeOf A n c W.heap.size bs W hr (Nat.le_refl _) (by omega) (by omega)
  obtain ⟨z, hzz⟩ : ∃ z, szs bs = z := ⟨_, rfl⟩
  rw [hzz] at HZ hz0
  by_cases hrg : 0 ≤ f ∧ f ≤ t ∧ t ≤ (z : Int)
  ·obtain ⟨fn, rfl⟩ : ∃ n : Nat, f = n := ⟨f.toNat, by omega⟩
   obtain ⟨tn, rfl⟩ : ∃ n : Nat, t = n := ⟨t.toNat, by omega⟩
   have g1 : decide ((fn : Int) < 0) = false := decide_eq_false (by omega)
   have g2 : decide ((tn : Int) < (fn : Int)) = false := decide_eq_false (by omega)
   have g3 : decide (tn < fn) = false := decide_eq_false (by omega)
   have g4 : decide ((z : Int) < (tn : Int)) = false := decide_eq_false (by omega)
   have g5 : decide (z < tn) = false := decide_eq_false (by omega)
   by_cases hr : roomy U.data.toList.length size
   ·obtain ⟨sz, rfl⟩ : ∃ n : Nat, size = n := ⟨size.toNat, by have := hr.1; omega⟩
    have hA := replC_yes (bs := bs) (f := fn) (t := tn) (L := U.data.toList) ⟨⟨hf, by rw [hzz]; exact hrg⟩, hr⟩
    rw [hA]
    have hB : replB (Kn.dict on ln mn d.data.toList) fn tn sz U.data.toList bs = match (Kn.dict on ln mn d.data.toList).cut 0 fn 0 bs, (Kn.dict on ln mn d.data.toList).cut tn z 0 bs with
     | some x, some y => some (x ++ (Kn.dict on ln mn d.data.toList).split sz U.data.toList ++ y)
     | _, _ => none := by rw [← hzz]; rfl
    rw [hB]
    obtain ⟨k, hk⟩ : ∃ k, Kn.dict on ln mn d.data.toList = k := ⟨_, rfl⟩
    rw [hk] at HS hfr ⊢
    have hval := Kn.val_eq k
    have HC1 := fun (A : Option Addr) (c : Nat) (Ab : Option Addr) (cb : Nat) (W : World) (hA : k.At W W.heap.size A) (hr : Row W W.heap.size 4 Ab n (cellsB bs)) => implCutBlocks k A c W.heap.size 0 fn Ab n cb W.heap.size bs W hfr hA (Nat.le_refl _) hr (Nat.le_refl _) (by omega) hok (by omega) (by omega)
    have HC2 := fun (A : Option Addr) (c : Nat) (Ab : Option Addr) (cb : Nat) (W : World) (hA : k.At W W.heap.size A) (hr : Row W W.heap.size 4 Ab n (cellsB bs)) => implCutBlocks k A c W.heap.size tn z Ab n cb W.heap.size bs W hfr hA (Nat.le_refl _) hr (Nat.le_refl _) (by omega) hok (by omega) (by omega)
    have HN := fun (A : Option Addr) (c : Nat) (W : World) (hAt : k.At W W.heap.size A) => implNewBlocksYes k A c W.heap.size sz U.data.toList W hfr hAt (Nat.le_refl _) hr
    have hbU : bsL U.data.toList = U := rfl
    simp only [hbU, Int.natCast_zero] at HC1 HC2 HN
    have HM0 : ∀ x y, k.cut 0 fn 0 bs = some x → k.cut tn z 0 bs = some y → (x.length ≤ 40 ∧ y.length ≤ 40 ∧ (k.split sz U.data.toList).length ≤ 40) ∧ ∀ A c W N, N = x.length + (k.split sz U.data.toList).length + y.length → Row W W.heap.size 4 A N (cellsB (x ++ k.split sz U.data.toList ++ y)) → Calls Tryz.prog 58 #[.slice A N c] W fun e w' => e = .returned (optV (mkC (x ++ k.split sz U.data.toList ++ y))) ∧ Below W.heap.size W w' := fun x y hx hy => by
     have hh := repl_ok hfr.val hr hok (by omega) (by omega) hx (by rw [hzz]; exact hy)
     refine ⟨hh.2.2, fun A c W N hN hrow => implMakeContainer A N c W.heap.size _ W hrow (Nat.le_refl _) (by omega) hh.2.1 hh.1⟩
    obtain ⟨u1, hu1⟩ : ∃ u, k.cut 0 fn 0 bs = u := ⟨_, rfl⟩
    obtain ⟨u2, hu2⟩ : ∃ u, k.cut tn z 0 bs = u := ⟨_, rfl⟩
    obtain ⟨sp, hsp⟩ : ∃ sp, k.split sz U.data.toList = sp := ⟨_, rfl⟩
    rw [hu1] at HC1 HM0 ⊢
    rw [hu2] at HC2 HM0 ⊢
    rw [hsp] at HN HM0 ⊢
    obtain ⟨q, hq⟩ : ∃ q, sp.length = q := ⟨_, rfl⟩
    rw [hq] at HN HM0
    simp only [hval] at HS HC1 HC2 HN
    replace HS := Lib.hid HS
    replace HC1 := Lib.hid HC1
    replace HC2 := Lib.hid HC2
    replace HN := Lib.hid HN
    replace HZ := Lib.hid HZ
    replace HM0 := Lib.hid HM0
    clear hk hA hB hbd hbU hval hf hfr hbs hnum hyn hrg hok hu1 hu2 hsp hq hzz hn hr hUs
    go_enter Tryz.func31, Tryz.ntmps31
    go_wp2_with fail
    refine (HS.out _).mono ?_
    rintro e w2 ⟨Ak, ck, Ab, cb, B, rfl, hat, hcp, hfar, ho2, hB2, hb2⟩
    have hal := (Below.refl w2.heap.size w2).alloc (Nat.le_refl _) (.cells #[.int .i64 (k.o : Int), .int .i64 (k.l : Int), .int .i64 (k.m : Int), .slice Ak k.ps.length ck, .int .i64 (k.base : Int), .int .i64 k.lastI] 74)
    have hr3 := Lib.hid (Row.more (Row.below (Row.of_own ho2) hal (Nat.le_refl _)) hal.size)
    have hA3 := Lib.hid (show k.At _ _ Ak from Row.more (Row.below hat hal (Nat.le_refl _)) hal.size)
    have kb3 := Lib.hid (KBn.start w2 74 [.int .i64 (k.o : Int), .int .i64 (k.l : Int), .int .i64 (k.m : Int), .slice Ak k.ps.length ck, .int .i64 (k.base : Int), .int .i64 k.lastI])
    have hW3 := Lib.hid ((hW0.out.trans (hb2.mono hW0.out.size)).trans (hal.mono (hW0.out.trans (hb2.mono hW0.out.size)).size))
    clear hat hcp hfar ho2 hB2 hb2 hal
    go_upto_region 2 with (fail)
    obtain ⟨G, hG⟩ : ∃ G, w2.heap.size = G := ⟨_, rfl⟩
    obtain ⟨w3, hw3⟩ : ∃ W, w2.alloc (.cells #[.int .i64 (k.o : Int), .int .i64 (k.l : Int), .int .i64 (k.m : Int), .slice Ak k.ps.length ck, .int .i64 (k.base : Int), .int .i64 k.lastI] 74) = W := ⟨_, rfl⟩
    rw [hw3] at hr3 hA3 kb3 hW3 ⊢
    rw [hG] at kb3 ⊢
    clear hw3 hG
    go_wp2_with fail
    refine (HZ.out _ _ _ hr3.out).mono ?_
    rintro e w4 ⟨rfl, hb4⟩
    have hW4 := Lib.hid (hW3.out.trans (hb4.mono hW3.out.size))
    have hr4 := Lib.hid (Row.more (Row.below hr3.out hb4 (Nat.le_refl _)) hb4.size)
    have hA4 := Lib.hid (show k.At w4 w4.heap.size Ak from Row.more (Row.below hA3.out hb4 (Nat.le_refl _)) hb4.size)
    have kb4 := Lib.hid (kb3.out.below hb4)
    clear hb4 hr3 hA3 kb3 hW3
    have hN4 := Lib.hid (HN.out Ak ck w4 hA4.out)
    have q0 := kb4.out.c 0 _ rfl
    have q1 := kb4.out.c 1 _ rfl
    have q2 := kb4.out.c 2 _ rfl
    have q3 := kb4.out.c 3 _ rfl
    have q4 := kb4.out.c 4 _ rfl
    have q5 := kb4.out.c 5 _ rfl
    go_wp2_with fail
    refine hN4.out.mono ?_
    rintro e w5 ⟨A5, c5, rfl, ho5, hb5⟩
    have hW5 := Lib.hid (hW4.out.trans (hb5.mono hW4.out.size))
    have hr5 := Lib.hid (Row.more (Row.below hr4.out hb5 (Nat.le_refl _)) hb5.size)
    have hA5 := Lib.hid (show k.At w5 w5.heap.size Ak from Row.more (Row.below hA4.out hb5 (Nat.le_refl _)) hb5.size)
    have kb5 := Lib.hid (kb4.out.below hb5)
    have hm5 := Lib.hid (Row.of_own ho5)
    clear hb5 ho5 hr4 hA4 kb4 hW4 hN4 q0 q1 q2 q3 q4 q5
    have hC5 := Lib.hid (HC1.out Ak ck Ab cb w5 hA5.out hr5.out)
    have q0 := kb5.out.c 0 _ rfl
    have q1 := kb5.out.c 1 _ rfl
    have q2 := kb5.out.c 2 _ rfl
    have q3 := kb5.out.c 3 _ rfl
    have q4 := kb5.out.c 4 _ rfl
    have q5 := kb5.out.c 5 _ rfl
    go_wp2_with fail
    refine hC5.out.mono ?_
    rintro e w6 ⟨A6, n6, c6, rfl, hcut6, hb6⟩
    have hwB := hW5.out.size
    have hz6 := hb6.size
    have hW6 := Lib.hid (hW5.out.trans (hb6.mono hW5.out.size))
    have hr6 := Lib.hid (Row.more (Row.below hr5.out hb6 (Nat.le_refl _)) hb6.size)
    have hA6 := Lib.hid (show k.At w6 w6.heap.size Ak from Row.more (Row.below hA5.out hb6 (Nat.le_refl _)) hb6.size)
    have kb6 := Lib.hid (kb5.out.below hb6)
    have hm6 := Lib.hid (Row.more (Row.below hm5.out hb6 (Nat.le_refl _)) hb6.size)
    replace hcut6 := Lib.hid hcut6
    clear hb6 hr5 hA5 kb5 hW5 hm5 hC5 q0 q1 q2 q3 q4 q5
    rcases u1 with _ | x
    ·clear hcut6 HM0
     go_wp2_with fail
     go_ret2
     exact ⟨rfl, hW6.out⟩
    ·obtain ⟨hl6, ho6⟩ := hcut6.out x rfl
     replace ho6 := Lib.hid ho6
     clear hcut6
     go_upto_region 10 with (fail)
     have hSX : Hid (∀ W, Below w6.heap.size w6 W → W.cell? ⟨G, 0, none⟩ = some (.int .i64 (k.o : Int)) ∧ W.cell? ⟨G, 1, none⟩ = some (.int .i64 (k.l : Int)) ∧ W.cell? ⟨G, 2, none⟩ = some (.int .i64 (k.m : Int)) ∧ W.cell? ⟨G, 3, none⟩ = some (.slice Ak k.ps.length ck) ∧ W.cell? ⟨G, 4, none⟩ = some (.int .i64 (k.base : Int)) ∧ W.cell? ⟨G, 5, none⟩ = some (.int .i64 k.lastI)) := Lib.hid (fun W hW => by
      have kx := kb6.out.below hW
      exact ⟨kx.c 0 _ rfl, kx.c 1 _ rfl, kx.c 2 _ rfl, kx.c 3 _ rfl, kx.c 4 _ rfl, kx.c 5 _ rfl⟩)
     refine wp_region_held_tail (S := fun W => W.cell? ⟨G, 0, none⟩ = some (.int .i64 (k.o : Int)) ∧ W.cell? ⟨G, 1, none⟩ = some (.int .i64 (k.l : Int)) ∧ W.cell? ⟨G, 2, none⟩ = some (.int .i64 (k.m : Int)) ∧ W.cell? ⟨G, 3, none⟩ = some (.slice Ak k.ps.length ck) ∧ W.cell? ⟨G, 4, none⟩ = some (.int .i64 (k.base : Int)) ∧ W.cell? ⟨G, 5, none⟩ = some (.int .i64 k.lastI)) 10 (by kernel_rfl) (by kernel_rfl) (hSX.out _ (Below.refl _ _).drew) (fun hS => ?_)
     have hb7 := Lib.hid ((Below.refl w6.heap.size w6).drew)
     have hr7 := Lib.hid (Row.more (Row.below hr6.out hb7.out (Nat.le_refl _)) hb7.out.size)
     refine heldAny_take (i := 0) (v := ?_) rfl (by kernel_rfl) (by kernel_rfl) (by kernel_rfl) (by kernel_rfl) (fun _ _ _ h => h) (Or.inl ⟨by rfl, ?_⟩) (by assumption) ?_
     rotate_left
     ·(intro wS hSw; (try dsimp only at hSw); go_split_ands; go_simp; all_goals with_reducible rfl)
     try simp only [Act.put]
     refine heldAny_take (i := 1) (v := ?_) rfl (by kernel_rfl) (by kernel_rfl) (by kernel_rfl) (by kernel_rfl) (fun _ _ _ h => h) (Or.inl ⟨by rfl, ?_⟩) (by assumption) ?_
     rotate_left
     ·(intro wS hSw; (try dsimp only at hSw); go_split_ands; go_simp; all_goals with_reducible rfl)
     try simp only [Act.put]
     refine heldAny_take (i := 2) (v := ?_) rfl (by kernel_rfl) (by kernel_rfl) (by kernel_rfl) (by kernel_rfl) (fun _ _ _ h => h) (Or.inl ⟨by rfl, ?_⟩) (by assumption) ?_
     rotate_left
     ·(intro wS hSw; (try dsimp only at hSw); go_split_ands; go_simp; all_goals with_reducible rfl)
     try simp only [Act.put]
     refine heldAny_take (i := 3) (v := ?_) rfl (by kernel_rfl) (by kernel_rfl) (by kernel_rfl) (by kernel_rfl) (fun _ _ _ h => h) (Or.inl ⟨by rfl, ?_⟩) (by assumption) ?_
     rotate_left
     ·(intro wS hSw; (try dsimp only at hSw); go_split_ands; go_simp; all_goals with_reducible rfl)
     try simp only [Act.put]
     refine heldAny_one (i := 4) rfl (by kernel_rfl) (by kernel_rfl) (fun K hK => ?_)
     go_simp
     go_at_call 69
     refine (HZ.out _ _ _ hr7.out).mono ?_
     rintro e w8 ⟨rfl, hb8⟩
     have hb8x := Lib.hid (hb7.out.trans (hb8.mono hb7.out.size))
     have hr8 := Lib.hid (Row.more (Row.below hr7.out hb8 (Nat.le_refl _)) hb8.size)
     have hA8 := Lib.hid (show k.At w8 w8.heap.size Ak from Row.more (Row.below hA6.out hb8x.out (Nat.le_refl _)) hb8x.out.size)
     refine hK.out _ _ (hSX.out _ hb8x.out) (fun hS => ?_)
     try simp only [Act.put]
     clear hK K hb8
     refine heldAny_one (i := 5) rfl (by kernel_rfl) (by kernel_rfl) (fun K hK => ?_)
     go_simp
     go_at_call 71
     refine (HC2.out _ _ _ _ _ hA8.out hr8.out).mono ?_
     rintro e w9 ⟨A9, n9, c9, rfl, hcut9, hb9⟩
     have hb9x := Lib.hid (hb8x.out.trans (hb9.mono hb8x.out.size))
     have hge := hb8x.out.size
     refine hK.out _ _ (hSX.out _ hb9x.out) (fun hS => ?_)
     try simp only [Act.put]
     clear hK K
     refine heldAny_take (i := 6) (v := ?_) rfl (by kernel_rfl) (by kernel_rfl) (by kernel_rfl) (by kernel_rfl) (fun _ _ _ h => h) (Or.inl ⟨by rfl, ?_⟩) (by assumption) ?_
     rotate_left
     ·(intro wS hSw; (try dsimp only at hSw); go_split_ands; go_simp; all_goals with_reducible rfl)
     try simp only [Act.put]
     refine heldAny_take (i := 7) (v := ?_) rfl (by kernel_rfl) (by kernel_rfl) (by kernel_rfl) (by kernel_rfl) (fun _ _ _ h => h) (Or.inl ⟨by rfl, ?_⟩) (by assumption) ?_
     rotate_left
     ·(intro wS hSw; (try dsimp only at hSw); go_split_ands; go_simp; all_goals with_reducible rfl)
     try simp only [Act.put]
     refine heldAny_take (i := 8) (v := ?_) rfl (by kernel_rfl) (by kernel_rfl) (by kernel_rfl) (by kernel_rfl) (fun _ _ _ h => h) (Or.inl ⟨by rfl, ?_⟩) (by assumption) ?_
     rotate_left
     ·(intro wS hSw; (try dsimp only at hSw); go_split_ands; go_simp; all_goals with_reducible rfl)
     try simp only [Act.put]
     refine heldAny_take (i := 9) (v := ?_) rfl (by kernel_rfl) (by kernel_rfl) (by kernel_rfl) (by kernel_rfl) (fun _ _ _ h => h) (Or.inl ⟨by rfl, ?_⟩) (by assumption) ?_
     rotate_left
     ·(intro wS hSw; (try dsimp only at hSw); go_split_ands; go_simp; all_goals with_reducible rfl)
     try simp only [Act.put]
     refine heldAny_done (by kernel_rfl) ⟨by kernel_rfl, ?_⟩
     simp only [List.drop_succ_cons, List.drop_zero]
     have hW9 := Lib.hid (hW6.out.trans (hb9x.out.mono hW6.out.size))
     have hm9 := Row.more (Row.below hm6.out hb9x.out (Nat.le_refl _)) hb9x.out.size
     replace hcut9 := Lib.hid hcut9
     clear hb9 hr6 hA6 kb6 hW6 hm6 hr7 hb7 hSX hr8 hA8
     rcases u2 with _ | y
     ·clear hcut9 HM0 hb9x hb8x
      go_wp2_with fail
      go_ret2
      exact ⟨rfl, hW9.out⟩
     ·obtain ⟨hl9, ho9⟩ := hcut9.out y rfl
      obtain ⟨⟨hx40, hy40, hq40⟩, HM⟩ := HM0.out x y rfl rfl
      rw [hl6] at HM hx40
      rw [hl9] at HM hy40
      replace HM := Lib.hid HM
      have hlt6 := Lib.hid (fun g hg => (ho6.out.lt g hg))
      have ho69 := own_below ho6.out hb9x.out (Nat.le_refl _)
      have hge9 : Hid (∀ b off, A9 = some ⟨b, off, none⟩ → w6.heap.size ≤ b) := Lib.hid (fun b off e => by
       have := (ho9.lt b (by rw [e]; rfl)).1
       omega)
      have hr9 := Lib.hid (Row.of_own ho9)
      obtain ⟨R, hR⟩ : ∃ R, mkC (x ++ sp ++ y) = R := ⟨_, rfl⟩
      have hR' := Lib.hid hR
      have hz9 := Nat.le_trans hz6 hb9x.out.size
      clear hcut9 HM0 ho6 ho9 hl6 hl9 hR hb9x hb8x
      go_wp2_with (first
       | (at_builtin; refine wpList_append_row _ elemBlk rfl (.tmp 76) (.tmp 77) rfl _ _ _ _ rfl ho69 _ _ q _ (cellsB sp) rfl hm9 ?_ ?_ ?_ ?_ ?_))
      ·exact cellsB_oneCell sp
      ·unfold maxLen; omega
      ·omega
      ·exact hz9
      ·intro v10 w10 hv10 hg10 _
       have hW10 := Lib.hid (hW9.out.grown hg10 (Nat.le_trans hwB hz9) (fun g hg => Nat.le_trans hwB (ho69.lt g hg).1))
       rw [← cellsB_append] at hv10
       obtain ⟨A10, c10, rfl, _, _⟩ := own_form hv10
       have hr10 := Row.more (Row.grownX hr9.out (Nat.le_refl _) hg10 (fun hn b off e e2 => by
        have h1 := hlt6.out b e2
        have h2 := hge9.out b off e
        omega)) hg10.size
       have hz10 := Nat.le_trans hz9 hg10.size
       clear ho69 hm9 hg10 hr9 hlt6 hge9 hz9 hW9
       go_wp2_with (first
        | (at_builtin; refine wpList_append_row _ elemBlk rfl (.tmp 78) (.tmp 79) rfl _ _ _ _ rfl hv10 _ _ n9 _ (cellsB y) rfl hr10 ?_ ?_ ?_ ?_ ?_))
       ·exact cellsB_oneCell y
       ·unfold maxLen; omega
       ·omega
       ·exact hz10
       ·intro v11 w11 hv11 hg11 _
        have hW11 := Lib.hid (hW10.out.grown hg11 (Nat.le_trans hwB hz10) (fun g hg => Nat.le_trans hwB (hv10.lt g hg).1))
        rw [← cellsB_append] at hv11
        obtain ⟨A11, c11, rfl, _, _⟩ := own_form hv11
        have hM11 := Lib.hid (HM.out A11 c11 w11 (n6 + q + n9) rfl (Row.of_own hv11))
        rw [hR'.out] at hM11
        unfold optV at hM11
        clear hv10 hr10 hg11 hv11 HM
        go_wp2_with fail
        refine hM11.out.mono ?_
        rintro e w12 ⟨rfl, hb12⟩
        have hfin := Lib.hid (hW11.out.trans (hb12.mono hW11.out.size))
        clear hb12 hM11
        go_wp2_with fail
        go_ret2
        exact ⟨by rw [← List.append_assoc, hR'.out]; rfl, hfin.out⟩
   ·have hA : replC on ln mn d.data.toList (some bs) fn tn U.data.toList size = none := replC_no (fun hh => hr hh.2)
    rw [hA]
    rw [hUs] at hr
    obtain ⟨k, hk⟩ : ∃ k, Kn.dict on ln mn d.data.toList = k := ⟨_, rfl⟩
    rw [hk] at HS
    have HN := fun (A : Option Addr) (c : Nat) (W : World) => implNewBlocksNo k A c size U W hU hr
    have hval := Kn.val_eq k
    simp only [hval] at HS HN
    replace HS := Lib.hid HS
    replace HN := Lib.hid HN
    replace HZ := Lib.hid HZ
    clear hk hA hbd hval hf hfr hbs hnum hyn hrg hok hzz hn hr hUs
    go_enter Tryz.func31, Tryz.ntmps31
    go_wp2_with fail
    refine (HS.out _).mono ?_
    rintro e w2 ⟨Ak, ck, Ab, cb, B, rfl, hat, hcp, hfar, ho2, hB2, hb2⟩
    have hal := (Below.refl w2.heap.size w2).alloc (Nat.le_refl _) (.cells #[.int .i64 (k.o : Int), .int .i64 (k.l : Int), .int .i64 (k.m : Int), .slice Ak k.ps.length ck, .int .i64 (k.base : Int), .int .i64 k.lastI] 74)
    have hr3 := Lib.hid (Row.more (Row.below (Row.of_own ho2) hal (Nat.le_refl _)) hal.size)
    have hA3 := Lib.hid (show k.At _ _ Ak from Row.more (Row.below hat hal (Nat.le_refl _)) hal.size)
    have kb3 := Lib.hid (KBn.start w2 74 [.int .i64 (k.o : Int), .int .i64 (k.l : Int), .int .i64 (k.m : Int), .slice Ak k.ps.length ck, .int .i64 (k.base : Int), .int .i64 k.lastI])
    have hW3 := Lib.hid ((hW0.out.trans (hb2.mono hW0.out.size)).trans (hal.mono (hW0.out.trans (hb2.mono hW0.out.size)).size))
    clear hat hcp hfar ho2 hB2 hb2 hal
    go_upto_region 2 with (fail)
    obtain ⟨G, hG⟩ : ∃ G, w2.heap.size = G := ⟨_, rfl⟩
    obtain ⟨w3, hw3⟩ : ∃ W, w2.alloc (.cells #[.int .i64 (k.o : Int), .int .i64 (k.l : Int), .int .i64 (k.m : Int), .slice Ak k.ps.length ck, .int .i64 (k.base : Int), .int .i64 k.lastI] 74) = W := ⟨_, rfl⟩
    rw [hw3] at hr3 hA3 kb3 hW3 ⊢
    rw [hG] at kb3 ⊢
    clear hw3 hG
    go_wp2_with fail
    refine (HZ.out _ _ _ hr3.out).mono ?_
    rintro e w4 ⟨rfl, hb4⟩
    have hW4 := Lib.hid (hW3.out.trans (hb4.mono hW3.out.size))
    have kb4 := Lib.hid (kb3.out.below hb4)
    clear hb4 hr3 hA3 kb3 hW3
    have q0 := kb4.out.c 0 _ rfl
    have q1 := kb4.out.c 1 _ rfl
    have q2 := kb4.out.c 2 _ rfl
    have q3 := kb4.out.c 3 _ rfl
    have q4 := kb4.out.c 4 _ rfl
    have q5 := kb4.out.c 5 _ rfl
    go_wp2_with fail
    refine (HN.out _ _ _).mono ?_
    rintro e w5 ⟨rfl, hb5⟩
    have hW5 := Lib.hid (hW4.out.trans (hb5.mono hW4.out.size))
    clear hb5
    go_wp2_with fail
    go_ret2
    exact ⟨rfl, hW5.out⟩
  ·have hA : replC on ln mn d.data.toList (some bs) f t U.data.toList size = none := replC_no (fun hh => hrg (by rw [← hzz]; exact hh.1.2))
   rw [hA]
   obtain ⟨k, hk⟩ : ∃ k, Kn.dict on ln mn d.data.toList = k := ⟨_, rfl⟩
   rw [hk] at HS
   have hval := Kn.val_eq k
   simp only [hval] at HS
   replace HS := Lib.hid HS
   replace HZ := Lib.hid HZ
   clear hk hA hbd hval hf hfr hbs hnum hyn hok hn hzz hUs
   by_cases h1 : f < 0
   ·have g1 : decide (f < 0) = true := decide_eq_true h1
    clear hrg h1
    go_enter Tryz.func31, Tryz.ntmps31
    go_wp2_with fail
    refine (HS.out _).mono ?_
    rintro e w2 ⟨Ak, ck, Ab, cb, B, rfl, hat, hcp, hfar, ho2, hB2, hb2⟩
    have hal := (Below.refl w2.heap.size w2).alloc (Nat.le_refl _) (.cells #[.int .i64 (k.o : Int), .int .i64 (k.l : Int), .int .i64 (k.m : Int), .slice Ak k.ps.length ck, .int .i64 (k.base : Int), .int .i64 k.lastI] 74)
    have hr3 := Lib.hid (Row.more (Row.below (Row.of_own ho2) hal (Nat.le_refl _)) hal.size)
    have hA3 := Lib.hid (show k.At _ _ Ak from Row.more (Row.below hat hal (Nat.le_refl _)) hal.size)
    have kb3 := Lib.hid (KBn.start w2 74 [.int .i64 (k.o : Int), .int .i64 (k.l : Int), .int .i64 (k.m : Int), .slice Ak k.ps.length ck, .int .i64 (k.base : Int), .int .i64 k.lastI])
    have hW3 := Lib.hid ((hW0.out.trans (hb2.mono hW0.out.size)).trans (hal.mono (hW0.out.trans (hb2.mono hW0.out.size)).size))
    clear hat hcp hfar ho2 hB2 hb2 hal
    go_wp2_with fail
    go_ret2
    exact ⟨rfl, hW3.out⟩
   ·have g1 : decide (f < 0) = false := decide_eq_false h1
    by_cases h2 : t < f
    ·have g2 : decide (t < f) = true := decide_eq_true h2
     clear hrg h1 h2
     go_enter Tryz.func31, Tryz.ntmps31
     go_wp2_with fail
     refine (HS.out _).mono ?_
     rintro e w2 ⟨Ak, ck, Ab, cb, B, rfl, hat, hcp, hfar, ho2, hB2, hb2⟩
     have hal := (Below.refl w2.heap.size w2).alloc (Nat.le_refl _) (.cells #[.int .i64 (k.o : Int), .int .i64 (k.l : Int), .int .i64 (k.m : Int), .slice Ak k.ps.length ck, .int .i64 (k.base : Int), .int .i64 k.lastI] 74)
     have hr3 := Lib.hid (Row.more (Row.below (Row.of_own ho2) hal (Nat.le_refl _)) hal.size)
     have hA3 := Lib.hid (show k.At _ _ Ak from Row.more (Row.below hat hal (Nat.le_refl _)) hal.size)
     have kb3 := Lib.hid (KBn.start w2 74 [.int .i64 (k.o : Int), .int .i64 (k.l : Int), .int .i64 (k.m : Int), .slice Ak k.ps.length ck, .int .i64 (k.base : Int), .int .i64 k.lastI])
     have hW3 := Lib.hid ((hW0.out.trans (hb2.mono hW0.out.size)).trans (hal.mono (hW0.out.trans (hb2.mono hW0.out.size)).size))
     clear hat hcp hfar ho2 hB2 hb2 hal
     go_wp2_with fail
     go_ret2
     exact ⟨rfl, hW3.out⟩
    ·have g2 : decide (t < f) = false := decide_eq_false h2
     have g4 : decide ((z : Int) < t) = true := decide_eq_true (by omega)
     clear hrg h1 h2
     go_enter Tryz.func31, Tryz.ntmps31
     go_wp2_with fail
     refine (HS.out _).mono ?_
     rintro e w2 ⟨Ak, ck, Ab, cb, B, rfl, hat, hcp, hfar, ho2, hB2, hb2⟩
     have hal := (Below.refl w2.heap.size w2).alloc (Nat.le_refl _) (.cells #[.int .i64 (k.o : Int), .int .i64 (k.l : Int), .int .i64 (k.m : Int), .slice Ak k.ps.length ck, .int .i64 (k.base : Int), .int .i64 k.lastI] 74)
     have hr3 := Lib.hid (Row.more (Row.below (Row.of_own ho2) hal (Nat.le_refl _)) hal.size)
     have hA3 := Lib.hid (show k.At _ _ Ak from Row.more (Row.below hat hal (Nat.le_refl _)) hal.size)
     have kb3 := Lib.hid (KBn.start w2 74 [.int .i64 (k.o : Int), .int .i64 (k.l : Int), .int .i64 (k.m : Int), .slice Ak k.ps.length ck, .int .i64 (k.base : Int), .int .i64 k.lastI])
     have hW3 := Lib.hid ((hW0.out.trans (hb2.mono hW0.out.size)).trans (hal.mono (hW0.out.trans (hb2.mono hW0.out.size)).size))
     clear hat hcp hfar ho2 hB2 hb2 hal
     go_wp2_with fail
     refine (HZ.out _ _ _ hr3.out).mono ?_
     rintro e w4 ⟨rfl, hb4⟩
     have hW4 := Lib.hid (hW3.out.trans (hb4.mono hW3.out.size))
     clear hb4
     go_wp2_with fail
     go_ret2
     exact ⟨rfl, hW4.out⟩

end Go.Proofs.YthlgpgaeajfchaaGreat

namespace Go.Proofs.YthlgpgaeajfchaaGreat
open Go.RowKit
set_option linter.unusedVariables false
set_option linter.unusedSimpArgs false
set_option maxRecDepth 100000

set_option maxHeartbeats 1000000 in
theorem implInsertData (o l m : Int) (d s : ByteArray) (a : Int) (U : ByteArray) (size : Int) (w : World) (hd : d.size ≤ 1048576) (hs : s.size ≤ 1048576) (hU : U.size ≤ 1048576) :
  Calls Tryz.prog 41 #[.agg #[.int .i64 o, .int .i64 l, .int .i64 m], .string d, .string s, .int .i64 a, .string U, .int .i64 size] w fun e w' => e = .returned (optV (replC o l m d.data.toList (contB s) a a U.data.toList size)) ∧ Below w.heap.size w w' := by
 have hW0 := Lib.hid ((Below.refl w.heap.size w).alloc (Nat.le_refl _) (.cells #[.int .i64 o, .int .i64 l, .int .i64 m] 24))
 have kb0 := KBn.start w 24 [.int .i64 o, .int .i64 l, .int .i64 m]
 have HS := fun W => implReplaceRange o l m d s U a a size W hd hs hU
 obtain ⟨R, hR⟩ : ∃ R, (replC o l m d.data.toList (contB s) a a U.data.toList size) = R := ⟨_, rfl⟩
 have hR' : (replC o l m d.data.toList (contB s) a a U.data.toList size) = R := hR
 rw [hR'] at HS
 rw [hR]
 unfold optV at HS ⊢
 replace HS := Lib.hid HS
 clear hR hR'
 go_enter Tryz.func41, Tryz.ntmps41
 have q0 := kb0.c 0 _ rfl
 have q1 := kb0.c 1 _ rfl
 have q2 := kb0.c 2 _ rfl
 clear kb0
 go_wp2_with fail
 refine (HS.out _).mono ?_
 rintro e w1 ⟨rfl, hb1⟩
 have hW1 := Lib.hid (hW0.out.trans (hb1.mono hW0.out.size))
 clear hb1
 go_wp2_with fail
 go_ret2
 exact ⟨rfl, hW1.out⟩

set_option maxHeartbeats 1000000 in
theorem implDeleteRange (o l m : Int) (d s : ByteArray) (f t : Int) (w : World) (hd : d.size ≤ 1048576) (hs : s.size ≤ 1048576) :
  Calls Tryz.prog 35 #[.agg #[.int .i64 o, .int .i64 l, .int .i64 m], .string d, .string s, .int .i64 f, .int .i64 t] w fun e w' => e = .returned (optV (replC o l m d.data.toList (contB s) f t [] 1)) ∧ Below w.heap.size w w' := by
 have hW0 := Lib.hid ((Below.refl w.heap.size w).alloc (Nat.le_refl _) (.cells #[.int .i64 o, .int .i64 l, .int .i64 m] 24))
 have kb0 := KBn.start w 24 [.int .i64 o, .int .i64 l, .int .i64 m]
 have HS := fun W => implReplaceRange o l m d s ⟨#[]⟩ f t 1 W hd hs (Nat.zero_le _)
 obtain ⟨R, hR⟩ : ∃ R, (replC o l m d.data.toList (contB s) f t [] 1) = R := ⟨_, rfl⟩
 have hR' : (replC o l m d.data.toList (contB s) f t (ByteArray.mk #[]).data.toList 1) = R := hR
 rw [hR'] at HS
 rw [hR]
 unfold optV at HS ⊢
 replace HS := Lib.hid HS
 clear hR hR'
 go_enter Tryz.func35, Tryz.ntmps35
 have q0 := kb0.c 0 _ rfl
 have q1 := kb0.c 1 _ rfl
 have q2 := kb0.c 2 _ rfl
 clear kb0
 go_wp2_with fail
 refine (HS.out _).mono ?_
 rintro e w1 ⟨rfl, hb1⟩
 have hW1 := Lib.hid (hW0.out.trans (hb1.mono hW0.out.size))
 clear hb1
 go_wp2_with fail
 go_ret2
 exact ⟨rfl, hW1.out⟩

end Go.Proofs.YthlgpgaeajfchaaGreat
