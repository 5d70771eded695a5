/-
 The draws of replaced ranges.
-/
import Derived.Test.YthlgpgaeajfchaaGreatPwCutImpl
import Derived.Test.YthlgpgaeajfchaaGreatPwEdits
import Derived.Test.YthlgpgaeajfchaaGreatPwCutSpec
import Derived.Test.YthlgpgaeajfchaaGreatPwSpecRead
import Derived.Test.YthlgpgaeajfchaaGreatPwDrawCont

namespace Go.Proofs.YthlgpgaeajfchaaGreat
open Go.RowKit
set_option linter.unusedVariables false
set_option linter.unusedSimpArgs false
set_option maxRecDepth 100000

set_option maxHeartbeats 4000000 in
theorem implReplaceRange (o l m : Int) (d s U : ByteArray) (f t size : Int) (w : World) (hd : d.size ≤ 1048576) (hs : s.size ≤ 1048576) (hU : U.size ≤ 1048576) :
  Calls Tryz.prog 31 #[.agg #[.int .i64 o, .int .i64 l, .int .i64 m], .string d, .string s, .int .i64 f, .int .i64 t, .string U, .int .i64 size] w fun e w' => e = .returned (optV (replC o l m d.data.toList (contB s) f t U.data.toList size)) ∧ Below w.heap.size w w' := by
 have hW0 := Lib.hid ((Below.refl w.heap.size w).alloc (Nat.le_refl _) (.cells #[.int .i64 o, .int .i64 l, .int .i64 m] 24))
 have hUs : U.data.toList.length = U.size := by simp
 by_cases hyn : ¬ dfits o l m d.data.toList ∨ contB s = none
 ·have HS := Lib.hid (fun W => implStartEditOff o l m d s W hd hs hyn)
  have hA : replC o l m d.data.toList (contB s) f t U.data.toList size = none := by
   unfold replC
   split
   ·rename_i bs hbs
    rcases hyn with h | h
    ·rw [if_neg (fun hh => h hh.1.1)]
    ·rw [hbs] at h; cases h
   ·rfl
  rw [hA]
  clear hyn hA hUs
  go_enter Tryz.func31, Tryz.ntmps31
  go_wp2_with fail
  refine (HS.out _).mono ?_
  rintro e w1 ⟨rfl, hb1⟩
  have hW1 := Lib.hid ((hW0.out.trans (hb1.mono hW0.out.size)).alloc (hW0.out.trans (hb1.mono hW0.out.size)).size (.cells #[.int .i64 0, .int .i64 0, .int .i64 0, .slice none 0 0, .int .i64 0, .int .i64 0] 74))
  clear hb1 hW0
  go_wp2_with fail
  go_ret2
  exact ⟨rfl, hW1.out⟩
 ·have hf : dfits o l m d.data.toList := Classical.byContradiction (fun h => hyn (Or.inl h))
  obtain ⟨bs, hbs⟩ := Option.ne_none_iff_exists'.1 (fun h => hyn (Or.inr h))
  rw [hbs]
  obtain ⟨n, hn⟩ : ∃ n, bs.length = n := ⟨_, rfl⟩
  have hnum := contB_numbered hbs
  have hn40 := hnum.length
  rw [hn] at hn40
  have hok : ∀ b ∈ bs, b.okb := fun b hb => Blk.okb_of (hnum.of_mem hb)
  have hz0 : szs bs ≤ 2000 := conts_szs hbs
  obtain ⟨on, rfl⟩ : ∃ n : Nat, o = n := ⟨o.toNat, by have := hf.1.1; omega⟩
  obtain ⟨ln, rfl⟩ : ∃ n : Nat, l = n := ⟨l.toNat, by have := hf.1.2.1; omega⟩
  obtain ⟨mn, rfl⟩ : ∃ n : Nat, m = n := ⟨m.toNat, by have := hf.1.2; omega⟩
  have HS := fun W => implStartEditFar on ln mn n d.data.toList s bs W hf hs hbs hn
  have hbd : bsL d.data.toList = d := rfl
  simp only [hbd] at HS
  have hfr := (Kn.dict_fresh hf).1
  have HZ := fun A c W (hr : Row W W.heap.size 4 A n (cellsB bs)) => implSizeOf A n c W.heap.size bs W hr (Nat.le_refl _) (by omega) (by omega)
  obtain ⟨z, hzz⟩ : ∃ z, szs bs = z := ⟨_, rfl⟩
  rw [hzz] at HZ hz0
  by_cases hrg : 0 ≤ f ∧ f ≤ t ∧ t ≤ (z : Int)
  ·obtain ⟨fn, rfl⟩ : ∃ n : Nat, f = n := ⟨f.toNat, by omega⟩
   obtain ⟨tn, rfl⟩ : ∃ n : Nat, t = n := ⟨t.toNat, by omega⟩
   have g1 : decide ((fn : Int) < 0) = false := decide_eq_false (by omega)
   have g2 : decide ((tn : Int) < (fn : Int)) = false := decide_eq_false (by omega)
   have g3 : decide (tn < fn) = false := decide_eq_false (by omega)
   have g4 : decide ((z : Int) < (tn : Int)) = false := decide_eq_false (by omega)
   have g5 : decide (z < tn) = false := decide_eq_false (by omega)
   by_cases hr : roomy U.data.toList.length size
   ·obtain ⟨sz, rfl⟩ : ∃ n : Nat, size = n := ⟨size.toNat, by have := hr.1; omega⟩
    have hA := replC_yes (bs := bs) (f := fn) (t := tn) (L := U.data.toList) ⟨⟨hf, by rw [hzz]; exact hrg⟩, hr⟩
    rw [hA]
    have hB : replB (Kn.dict on ln mn d.data.toList) fn tn sz U.data.toList bs = match (Kn.dict on ln mn d.data.toList).cut 0 fn 0 bs, (Kn.dict on ln mn d.data.toList).cut tn z 0 bs with
     | some x, some y => some (x ++ (Kn.dict on ln mn d.data.toList).split sz U.data.toList ++ y)
     | _, _ => none := by rw [← hzz]; rfl
    rw [hB]
    obtain ⟨k, hk⟩ : ∃ k, Kn.dict on ln mn d.data.toList = k := ⟨_, rfl⟩
    rw [hk] at HS hfr ⊢
    have hval := Kn.val_eq k
    have HC1 := fun (A : Option Addr) (c : Nat) (Ab : Option Addr) (cb : Nat) (W : World) (hA : k.At W W.heap.size A) (hr : Row W W.heap.size 4 Ab n (cellsB bs)) => implCutBlocks k A c W.heap.size 0 fn Ab n cb W.heap.size bs W hfr hA (Nat.le_refl _) hr (Nat.le_refl _) (by omega) hok (by omega) (by omega)
    have HC2 := fun (A : Option Addr) (c : Nat) (Ab : Option Addr) (cb : Nat) (W : World) (hA : k.At W W.heap.size A) (hr : Row W W.heap.size 4 Ab n (cellsB bs)) => implCutBlocks k A c W.heap.size tn z Ab n cb W.heap.size bs W hfr hA (Nat.le_refl _) hr (Nat.le_refl _) (by omega) hok (by omega) (by omega)
    have HN := fun (A : Option Addr) (c : Nat) (W : World) (hAt : k.At W W.heap.size A) => implNewBlocksYes k A c W.heap.size sz U.data.toList W hfr hAt (Nat.le_refl _) hr
    have hbU : bsL U.data.toList = U := rfl
    simp only [hbU, Int.natCast_zero] at HC1 HC2 HN
    have HM0 : ∀ x y, k.cut 0 fn 0 bs = some x → k.cut tn z 0 bs = some y → (x.length ≤ 40 ∧ y.length ≤ 40 ∧ (k.split sz U.data.toList).length ≤ 40) ∧ ∀ A c W N, N = x.length + (k.split sz U.data.toList).length + y.length → Row W W.heap.size 4 A N (cellsB (x ++ k.split sz U.data.toList ++ y)) → Calls Tryz.prog 58 #[.slice A N c] W fun e w' => e = .returned (optV (mkC (x ++ k.split sz U.data.toList ++ y))) ∧ Below W.heap.size W w' := fun x y hx hy => by
     have hh := repl_ok hfr.val hr hok (by omega) (by omega) hx (by rw [hzz]; exact hy)
     refine ⟨hh.2.2, fun A c W N hN hrow => implMakeContainer A N c W.heap.size _ W hrow (Nat.le_refl _) (by omega) hh.2.1 hh.1⟩
    obtain ⟨u1, hu1⟩ : ∃ u, k.cut 0 fn 0 bs = u := ⟨_, rfl⟩
    obtain ⟨u2, hu2⟩ : ∃ u, k.cut tn z 0 bs = u := ⟨_, rfl⟩
    obtain ⟨sp, hsp⟩ : ∃ sp, k.split sz U.data.toList = sp := ⟨_, rfl⟩
    rw [hu1] at HC1 HM0 ⊢
    rw [hu2] at HC2 HM0 ⊢
    rw [hsp] at HN HM0 ⊢
    obtain ⟨q, hq⟩ : ∃ q, sp.length = q := ⟨_, rfl⟩
    rw [hq] at HN HM0
    simp only [hval] at HS HC1 HC2 HN
    replace HS := Lib.hid HS
    replace HC1 := Lib.hid HC1
    replace HC2 := Lib.hid HC2
    replace HN := Lib.hid HN
    replace HZ := Lib.hid HZ
    replace HM0 := Lib.hid HM0
    clear hk hA hB hbd hbU hval hf hfr hbs hnum hyn hrg hok hu1 hu2 hsp hq hzz hn hr hUs
    go_enter Tryz.func31, Tryz.ntmps31
    go_wp2_with fail
    refine (HS.out _).mono ?_
    rintro e w2 ⟨Ak, ck, Ab, cb, B, rfl, hat, hcp, hfar, ho2, hB2, hb2⟩
    have hal := (Below.refl w2.heap.size w2).alloc (Nat.le_refl _) (.cells #[.int .i64 (k.o : Int), .int .i64 (k.l : Int), .int .i64 (k.m : Int), .slice Ak k.ps.length ck, .int .i64 (k.base : Int), .int .i64 k.lastI] 74)
    have hr3 := Lib.hid (Row.more (Row.below (Row.of_own ho2) hal (Nat.le_refl _)) hal.size)
    have hA3 := Lib.hid (show k.At _ _ Ak from Row.more (Row.below hat hal (Nat.le_refl _)) hal.size)
    have kb3 := Lib.hid (KBn.start w2 74 [.int .i64 (k.o : Int), .int .i64 (k.l : Int), .int .i64 (k.m : Int), .slice Ak k.ps.length ck, .int .i64 (k.base : Int), .int .i64 k.lastI])
    have hW3 := Lib.hid ((hW0.out.trans (hb2.mono hW0.out.size)).trans (hal.mono (hW0.out.trans (hb2.mono hW0.out.size)).size))
    clear hat hcp hfar ho2 hB2 hb2 hal
    go_upto_region 2 with (fail)
    obtain ⟨G, hG⟩ : ∃ G, w2.heap.size = G := ⟨_, rfl⟩
    obtain ⟨w3, hw3⟩ : ∃ W, w2.alloc (.cells #[.int .i64 (k.o : Int), .int .i64 (k.l : Int), .int .i64 (k.m : Int), .slice Ak k.ps.length ck, .int .i64 (k.base : Int), .int .i64 k.lastI] 74) = W := ⟨_, rfl⟩
    rw [hw3] at hr3 hA3 kb3 hW3 ⊢
    rw [hG] at kb3 ⊢
    clear hw3 hG
    go_wp2_with fail
    refine (HZ.out _ _ _ hr3.out).mono ?_
    rintro e w4 ⟨rfl, hb4⟩
    have hW4 := Lib.hid (hW3.out.trans (hb4.mono hW3.out.size))
    have hr4 := Lib.hid (Row.more (Row.below hr3.out hb4 (Nat.le_refl _)) hb4.size)
    have hA4 := Lib.hid (show k.At w4 w4.heap.size Ak from Row.more (Row.below hA3.out hb4 (Nat.le_refl _)) hb4.size)
    have kb4 := Lib.hid (kb3.out.below hb4)
    clear hb4 hr3 hA3 kb3 hW3
    have hN4 := Lib.hid (HN.out Ak ck w4 hA4.out)
    have q0 := kb4.out.c 0 _ rfl
    have q1 := kb4.out.c 1 _ rfl
    have q2 := kb4.out.c 2 _ rfl
    have q3 := kb4.out.c 3 _ rfl
    have q4 := kb4.out.c 4 _ rfl
    have q5 := kb4.out.c 5 _ rfl
    go_wp2_with fail
    refine hN4.out.mono ?_
    rintro e w5 ⟨A5, c5, rfl, ho5, hb5⟩
    have hW5 := Lib.hid (hW4.out.trans (hb5.mono hW4.out.size))
    have hr5 := Lib.hid (Row.more (Row.below hr4.out hb5 (Nat.le_refl _)) hb5.size)
    have hA5 := Lib.hid (show k.At w5 w5.heap.size Ak from Row.more (Row.below hA4.out hb5 (Nat.le_refl _)) hb5.size)
    have kb5 := Lib.hid (kb4.out.below hb5)
    have hm5 := Lib.hid (Row.of_own ho5)
    clear hb5 ho5 hr4 hA4 kb4 hW4 hN4 q0 q1 q2 q3 q4 q5
    have hC5 := Lib.hid (HC1.out Ak ck Ab cb w5 hA5.out hr5.out)
    have q0 := kb5.out.c 0 _ rfl
    have q1 := kb5.out.c 1 _ rfl
    have q2 := kb5.out.c 2 _ rfl
    have q3 := kb5.out.c 3 _ rfl
    have q4 := kb5.out.c 4 _ rfl
    have q5 := kb5.out.c 5 _ rfl
    go_wp2_with fail
    refine hC5.out.mono ?_
    rintro e w6 ⟨A6, n6, c6, rfl, hcut6, hb6⟩
    have hwB := hW5.out.size
    have hz6 := hb6.size
    have hW6 := Lib.hid (hW5.out.trans (hb6.mono hW5.out.size))
    have hr6 := Lib.hid (Row.more (Row.below hr5.out hb6 (Nat.le_refl _)) hb6.size)
    have hA6 := Lib.hid (show k.At w6 w6.heap.size Ak from Row.more (Row.below hA5.out hb6 (Nat.le_refl _)) hb6.size)
    have kb6 := Lib.hid (kb5.out.below hb6)
    have hm6 := Lib.hid (Row.more (Row.below hm5.out hb6 (Nat.le_refl _)) hb6.size)
    replace hcut6 := Lib.hid hcut6
    clear hb6 hr5 hA5 kb5 hW5 hm5 hC5 q0 q1 q2 q3 q4 q5
    rcases u1 with _ | x
    ·clear hcut6 HM0
     go_wp2_with fail
     go_ret2
     exact ⟨rfl, hW6.out⟩
    ·obtain ⟨hl6, ho6⟩ := hcut6.out x rfl
     replace ho6 := Lib.hid ho6
     clear hcut6
     go_upto_region 10 with (fail)
     have hSX : Hid (∀ W, Below w6.heap.size w6 W → W.cell? ⟨G, 0, none⟩ = some (.int .i64 (k.o : Int)) ∧ W.cell? ⟨G, 1, none⟩ = some (.int .i64 (k.l : Int)) ∧ W.cell? ⟨G, 2, none⟩ = some (.int .i64 (k.m : Int)) ∧ W.cell? ⟨G, 3, none⟩ = some (.slice Ak k.ps.length ck) ∧ W.cell? ⟨G, 4, none⟩ = some (.int .i64 (k.base : Int)) ∧ W.cell? ⟨G, 5, none⟩ = some (.int .i64 k.lastI)) := Lib.hid (fun W hW => by
      have kx := kb6.out.below hW
      exact ⟨kx.c 0 _ rfl, kx.c 1 _ rfl, kx.c 2 _ rfl, kx.c 3 _ rfl, kx.c 4 _ rfl, kx.c 5 _ rfl⟩)
     refine wp_region_held_tail (S := fun W => W.cell? ⟨G, 0, none⟩ = some (.int .i64 (k.o : Int)) ∧ W.cell? ⟨G, 1, none⟩ = some (.int .i64 (k.l : Int)) ∧ W.cell? ⟨G, 2, none⟩ = some (.int .i64 (k.m : Int)) ∧ W.cell? ⟨G, 3, none⟩ = some (.slice Ak k.ps.length ck) ∧ W.cell? ⟨G, 4, none⟩ = some (.int .i64 (k.base : Int)) ∧ W.cell? ⟨G, 5, none⟩ = some (.int .i64 k.lastI)) 10 (by kernel_rfl) (by kernel_rfl) (hSX.out _ (Below.refl _ _).drew) (fun hS => ?_)
     have hb7 := Lib.hid ((Below.refl w6.heap.size w6).drew)
     have hr7 := Lib.hid (Row.more (Row.below hr6.out hb7.out (Nat.le_refl _)) hb7.out.size)
     refine heldAny_take (i := 0) (v := ?_) rfl (by kernel_rfl) (by kernel_rfl) (by kernel_rfl) (by kernel_rfl) (fun _ _ _ h => h) (Or.inl ⟨by rfl, ?_⟩) (by assumption) ?_
     rotate_left
     ·(intro wS hSw; (try dsimp only at hSw); go_split_ands; go_simp; all_goals with_reducible rfl)
     try simp only [Act.put]
     refine heldAny_take (i := 1) (v := ?_) rfl (by kernel_rfl) (by kernel_rfl) (by kernel_rfl) (by kernel_rfl) (fun _ _ _ h => h) (Or.inl ⟨by rfl, ?_⟩) (by assumption) ?_
     rotate_left
     ·(intro wS hSw; (try dsimp only at hSw); go_split_ands; go_simp; all_goals with_reducible rfl)
     try simp only [Act.put]
     refine heldAny_take (i := 2) (v := ?_) rfl (by kernel_rfl) (by kernel_rfl) (by kernel_rfl) (by kernel_rfl) (fun _ _ _ h => h) (Or.inl ⟨by rfl, ?_⟩) (by assumption) ?_
     rotate_left
     ·(intro wS hSw; (try dsimp only at hSw); go_split_ands; go_simp; all_goals with_reducible rfl)
     try simp only [Act.put]
     refine heldAny_take (i := 3) (v := ?_) rfl (by kernel_rfl) (by kernel_rfl) (by kernel_rfl) (by kernel_rfl) (fun _ _ _ h => h) (Or.inl ⟨by rfl, ?_⟩) (by assumption) ?_
     rotate_left
     ·(intro wS hSw; (try dsimp only at hSw); go_split_ands; go_simp; all_goals with_reducible rfl)
     try simp only [Act.put]
     refine heldAny_one (i := 4) rfl (by kernel_rfl) (by kernel_rfl) (fun K hK => ?_)
     go_simp
     go_at_call 69
     refine (HZ.out _ _ _ hr7.out).mono ?_
     rintro e w8 ⟨rfl, hb8⟩
     have hb8x := Lib.hid (hb7.out.trans (hb8.mono hb7.out.size))
     have hr8 := Lib.hid (Row.more (Row.below hr7.out hb8 (Nat.le_refl _)) hb8.size)
     have hA8 := Lib.hid (show k.At w8 w8.heap.size Ak from Row.more (Row.below hA6.out hb8x.out (Nat.le_refl _)) hb8x.out.size)
     refine hK.out _ _ (hSX.out _ hb8x.out) (fun hS => ?_)
     try simp only [Act.put]
     clear hK K hb8
     refine heldAny_one (i := 5) rfl (by kernel_rfl) (by kernel_rfl) (fun K hK => ?_)
     go_simp
     go_at_call 71
     refine (HC2.out _ _ _ _ _ hA8.out hr8.out).mono ?_
     rintro e w9 ⟨A9, n9, c9, rfl, hcut9, hb9⟩
     have hb9x := Lib.hid (hb8x.out.trans (hb9.mono hb8x.out.size))
     have hge := hb8x.out.size
     refine hK.out _ _ (hSX.out _ hb9x.out) (fun hS => ?_)
     try simp only [Act.put]
     clear hK K
     refine heldAny_take (i := 6) (v := ?_) rfl (by kernel_rfl) (by kernel_rfl) (by kernel_rfl) (by kernel_rfl) (fun _ _ _ h => h) (Or.inl ⟨by rfl, ?_⟩) (by assumption) ?_
     rotate_left
     ·(intro wS hSw; (try dsimp only at hSw); go_split_ands; go_simp; all_goals with_reducible rfl)
     try simp only [Act.put]
     refine heldAny_take (i := 7) (v := ?_) rfl (by kernel_rfl) (by kernel_rfl) (by kernel_rfl) (by kernel_rfl) (fun _ _ _ h => h) (Or.inl ⟨by rfl, ?_⟩) (by assumption) ?_
     rotate_left
     ·(intro wS hSw; (try dsimp only at hSw); go_split_ands; go_simp; all_goals with_reducible rfl)
     try simp only [Act.put]
     refine heldAny_take (i := 8) (v := ?_) rfl (by kernel_rfl) (by kernel_rfl) (by kernel_rfl) (by kernel_rfl) (fun _ _ _ h => h) (Or.inl ⟨by rfl, ?_⟩) (by assumption) ?_
     rotate_left
     ·(intro wS hSw; (try dsimp only at hSw); go_split_ands; go_simp; all_goals with_reducible rfl)
     try simp only [Act.put]
     refine heldAny_take (i := 9) (v := ?_) rfl (by kernel_rfl) (by kernel_rfl) (by kernel_rfl) (by kernel_rfl) (fun _ _ _ h => h) (Or.inl ⟨by rfl, ?_⟩) (by assumption) ?_
     rotate_left
     ·(intro wS hSw; (try dsimp only at hSw); go_split_ands; go_simp; all_goals with_reducible rfl)
     try simp only [Act.put]
     refine heldAny_done (by kernel_rfl) ⟨by kernel_rfl, ?_⟩
     simp only [List.drop_succ_cons, List.drop_zero]
     have hW9 := Lib.hid (hW6.out.trans (hb9x.out.mono hW6.out.size))
     have hm9 := Row.more (Row.below hm6.out hb9x.out (Nat.le_refl _)) hb9x.out.size
     replace hcut9 := Lib.hid hcut9
     clear hb9 hr6 hA6 kb6 hW6 hm6 hr7 hb7 hSX hr8 hA8
     rcases u2 with _ | y
     ·clear hcut9 HM0 hb9x hb8x
      go_wp2_with fail
      go_ret2
      exact ⟨rfl, hW9.out⟩
     ·obtain ⟨hl9, ho9⟩ := hcut9.out y rfl
      obtain ⟨⟨hx40, hy40, hq40⟩, HM⟩ := HM0.out x y rfl rfl
      rw [hl6] at HM hx40
      rw [hl9] at HM hy40
      replace HM := Lib.hid HM
      have hlt6 := Lib.hid (fun g hg => (ho6.out.lt g hg))
      have ho69 := own_below ho6.out hb9x.out (Nat.le_refl _)
      have hge9 : Hid (∀ b off, A9 = some ⟨b, off, none⟩ → w6.heap.size ≤ b) := Lib.hid (fun b off e => by
       have := (ho9.lt b (by rw [e]; rfl)).1
       omega)
      have hr9 := Lib.hid (Row.of_own ho9)
      obtain ⟨R, hR⟩ : ∃ R, mkC (x ++ sp ++ y) = R := ⟨_, rfl⟩
      have hR' := Lib.hid hR
      have hz9 := Nat.le_trans hz6 hb9x.out.size
      clear hcut9 HM0 ho6 ho9 hl6 hl9 hR hb9x hb8x
      go_wp2_with (first
       | (at_builtin; refine wpList_append_row _ elemBlk rfl (.tmp 76) (.tmp 77) rfl _ _ _ _ rfl ho69 _ _ q _ (cellsB sp) rfl hm9 ?_ ?_ ?_ ?_ ?_))
      ·exact cellsB_oneCell sp
      ·unfold maxLen; omega
      ·omega
      ·exact hz9
      ·intro v10 w10 hv10 hg10 _
       have hW10 := Lib.hid (hW9.out.grown hg10 (Nat.le_trans hwB hz9) (fun g hg => Nat.le_trans hwB (ho69.lt g hg).1))
       rw [← cellsB_append] at hv10
       obtain ⟨A10, c10, rfl, _, _⟩ := own_form hv10
       have hr10 := Row.more (Row.grownX hr9.out (Nat.le_refl _) hg10 (fun hn b off e e2 => by
        have h1 := hlt6.out b e2
        have h2 := hge9.out b off e
        omega)) hg10.size
       have hz10 := Nat.le_trans hz9 hg10.size
       clear ho69 hm9 hg10 hr9 hlt6 hge9 hz9 hW9
       go_wp2_with (first
        | (at_builtin; refine wpList_append_row _ elemBlk rfl (.tmp 78) (.tmp 79) rfl _ _ _ _ rfl hv10 _ _ n9 _ (cellsB y) rfl hr10 ?_ ?_ ?_ ?_ ?_))
       ·exact cellsB_oneCell y
       ·unfold maxLen; omega
       ·omega
       ·exact hz10
       ·intro v11 w11 hv11 hg11 _
        have hW11 := Lib.hid (hW10.out.grown hg11 (Nat.le_trans hwB hz10) (fun g hg => Nat.le_trans hwB (hv10.lt g hg).1))
        rw [← cellsB_append] at hv11
        obtain ⟨A11, c11, rfl, _, _⟩ := own_form hv11
        have hM11 := Lib.hid (HM.out A11 c11 w11 (n6 + q + n9) rfl (Row.of_own hv11))
        rw [hR'.out] at hM11
        unfold optV at hM11
        clear hv10 hr10 hg11 hv11 HM
        go_wp2_with fail
        refine hM11.out.mono ?_
        rintro e w12 ⟨rfl, hb12⟩
        have hfin := Lib.hid (hW11.out.trans (hb12.mono hW11.out.size))
        clear hb12 hM11
        go_wp2_with fail
        go_ret2
        exact ⟨by rw [← List.append_assoc, hR'.out]; rfl, hfin.out⟩
   ·have hA : replC on ln mn d.data.toList (some bs) fn tn U.data.toList size = none := replC_no (fun hh => hr hh.2)
    rw [hA]
    rw [hUs] at hr
    obtain ⟨k, hk⟩ : ∃ k, Kn.dict on ln mn d.data.toList = k := ⟨_, rfl⟩
    rw [hk] at HS
    have HN := fun (A : Option Addr) (c : Nat) (W : World) => implNewBlocksNo k A c size U W hU hr
    have hval := Kn.val_eq k
    simp only [hval] at HS HN
    replace HS := Lib.hid HS
    replace HN := Lib.hid HN
    replace HZ := Lib.hid HZ
    clear hk hA hbd hval hf hfr hbs hnum hyn hrg hok hzz hn hr hUs
    go_enter Tryz.func31, Tryz.ntmps31
    go_wp2_with fail
    refine (HS.out _).mono ?_
    rintro e w2 ⟨Ak, ck, Ab, cb, B, rfl, hat, hcp, hfar, ho2, hB2, hb2⟩
    have hal := (Below.refl w2.heap.size w2).alloc (Nat.le_refl _) (.cells #[.int .i64 (k.o : Int), .int .i64 (k.l : Int), .int .i64 (k.m : Int), .slice Ak k.ps.length ck, .int .i64 (k.base : Int), .int .i64 k.lastI] 74)
    have hr3 := Lib.hid (Row.more (Row.below (Row.of_own ho2) hal (Nat.le_refl _)) hal.size)
    have hA3 := Lib.hid (show k.At _ _ Ak from Row.more (Row.below hat hal (Nat.le_refl _)) hal.size)
    have kb3 := Lib.hid (KBn.start w2 74 [.int .i64 (k.o : Int), .int .i64 (k.l : Int), .int .i64 (k.m : Int), .slice Ak k.ps.length ck, .int .i64 (k.base : Int), .int .i64 k.lastI])
    have hW3 := Lib.hid ((hW0.out.trans (hb2.mono hW0.out.size)).trans (hal.mono (hW0.out.trans (hb2.mono hW0.out.size)).size))
    clear hat hcp hfar ho2 hB2 hb2 hal
    go_upto_region 2 with (fail)
    obtain ⟨G, hG⟩ : ∃ G, w2.heap.size = G := ⟨_, rfl⟩
    obtain ⟨w3, hw3⟩ : ∃ W, w2.alloc (.cells #[.int .i64 (k.o : Int), .int .i64 (k.l : Int), .int .i64 (k.m : Int), .slice Ak k.ps.length ck, .int .i64 (k.base : Int), .int .i64 k.lastI] 74) = W := ⟨_, rfl⟩
    rw [hw3] at hr3 hA3 kb3 hW3 ⊢
    rw [hG] at kb3 ⊢
    clear hw3 hG
    go_wp2_with fail
    refine (HZ.out _ _ _ hr3.out).mono ?_
    rintro e w4 ⟨rfl, hb4⟩
    have hW4 := Lib.hid (hW3.out.trans (hb4.mono hW3.out.size))
    have kb4 := Lib.hid (kb3.out.below hb4)
    clear hb4 hr3 hA3 kb3 hW3
    have q0 := kb4.out.c 0 _ rfl
    have q1 := kb4.out.c 1 _ rfl
    have q2 := kb4.out.c 2 _ rfl
    have q3 := kb4.out.c 3 _ rfl
    have q4 := kb4.out.c 4 _ rfl
    have q5 := kb4.out.c 5 _ rfl
    go_wp2_with fail
    refine (HN.out _ _ _).mono ?_
    rintro e w5 ⟨rfl, hb5⟩
    have hW5 := Lib.hid (hW4.out.trans (hb5.mono hW4.out.size))
    clear hb5
    go_wp2_with fail
    go_ret2
    exact ⟨rfl, hW5.out⟩
  ·have hA : replC on ln mn d.data.toList (some bs) f t U.data.toList size = none := replC_no (fun hh => hrg (by rw [← hzz]; exact hh.1.2))
   rw [hA]
   obtain ⟨k, hk⟩ : ∃ k, Kn.dict on ln mn d.data.toList = k := ⟨_, rfl⟩
   rw [hk] at HS
   have hval := Kn.val_eq k
   simp only [hval] at HS
   replace HS := Lib.hid HS
   replace HZ := Lib.hid HZ
   clear hk hA hbd hval hf hfr hbs hnum hyn hok hn hzz hUs
   by_cases h1 : f < 0
   ·have g1 : decide (f < 0) = true := decide_eq_true h1
    clear hrg h1
    go_enter Tryz.func31, Tryz.ntmps31
    go_wp2_with fail
    refine (HS.out _).mono ?_
    rintro e w2 ⟨Ak, ck, Ab, cb, B, rfl, hat, hcp, hfar, ho2, hB2, hb2⟩
    have hal := (Below.refl w2.heap.size w2).alloc (Nat.le_refl _) (.cells #[.int .i64 (k.o : Int), .int .i64 (k.l : Int), .int .i64 (k.m : Int), .slice Ak k.ps.length ck, .int .i64 (k.base : Int), .int .i64 k.lastI] 74)
    have hr3 := Lib.hid (Row.more (Row.below (Row.of_own ho2) hal (Nat.le_refl _)) hal.size)
    have hA3 := Lib.hid (show k.At _ _ Ak from Row.more (Row.below hat hal (Nat.le_refl _)) hal.size)
    have kb3 := Lib.hid (KBn.start w2 74 [.int .i64 (k.o : Int), .int .i64 (k.l : Int), .int .i64 (k.m : Int), .slice Ak k.ps.length ck, .int .i64 (k.base : Int), .int .i64 k.lastI])
    have hW3 := Lib.hid ((hW0.out.trans (hb2.mono hW0.out.size)).trans (hal.mono (hW0.out.trans (hb2.mono hW0.out.size)).size))
    clear hat hcp hfar ho2 hB2 hb2 hal
    go_wp2_with fail
    go_ret2
    exact ⟨rfl, hW3.out⟩
   ·have g1 : decide (f < 0) = false := decide_eq_false h1
    by_cases h2 : t < f
    ·have g2 : decide (t < f) = true := decide_eq_true h2
     clear hrg h1 h2
     go_enter Tryz.func31, Tryz.ntmps31
     go_wp2_with fail
     refine (HS.out _).mono ?_
     rintro e w2 ⟨Ak, ck, Ab, cb, B, rfl, hat, hcp, hfar, ho2, hB2, hb2⟩
     have hal := (Below.refl w2.heap.size w2).alloc (Nat.le_refl _) (.cells #[.int .i64 (k.o : Int), .int .i64 (k.l : Int), .int .i64 (k.m : Int), .slice Ak k.ps.length ck, .int .i64 (k.base : Int), .int .i64 k.lastI] 74)
     have hr3 := Lib.hid (Row.more (Row.below (Row.of_own ho2) hal (Nat.le_refl _)) hal.size)
     have hA3 := Lib.hid (show k.At _ _ Ak from Row.more (Row.below hat hal (Nat.le_refl _)) hal.size)
     have kb3 := Lib.hid (KBn.start w2 74 [.int .i64 (k.o : Int), .int .i64 (k.l : Int), .int .i64 (k.m : Int), .slice Ak k.ps.length ck, .int .i64 (k.base : Int), .int .i64 k.lastI])
     have hW3 := Lib.hid ((hW0.out.trans (hb2.mono hW0.out.size)).trans (hal.mono (hW0.out.trans (hb2.mono hW0.out.size)).size))
     clear hat hcp hfar ho2 hB2 hb2 hal
     go_wp2_with fail
     go_ret2
     exact ⟨rfl, hW3.out⟩
    ·have g2 : decide (t < f) = false := decide_eq_false h2
     have g4 : decide ((z : Int) < t) = true := decide_eq_true (by omega)
     clear hrg h1 h2
     go_enter Tryz.func31, Tryz.ntmps31
     go_wp2_with fail
     refine (HS.out _).mono ?_
     rintro e w2 ⟨Ak, ck, Ab, cb, B, rfl, hat, hcp, hfar, ho2, hB2, hb2⟩
     have hal := (Below.refl w2.heap.size w2).alloc (Nat.le_refl _) (.cells #[.int .i64 (k.o : Int), .int .i64 (k.l : Int), .int .i64 (k.m : Int), .slice Ak k.ps.length ck, .int .i64 (k.base : Int), .int .i64 k.lastI] 74)
     have hr3 := Lib.hid (Row.more (Row.below (Row.of_own ho2) hal (Nat.le_refl _)) hal.size)
     have hA3 := Lib.hid (show k.At _ _ Ak from Row.more (Row.below hat hal (Nat.le_refl _)) hal.size)
     have kb3 := Lib.hid (KBn.start w2 74 [.int .i64 (k.o : Int), .int .i64 (k.l : Int), .int .i64 (k.m : Int), .slice Ak k.ps.length ck, .int .i64 (k.base : Int), .int .i64 k.lastI])
     have hW3 := Lib.hid ((hW0.out.trans (hb2.mono hW0.out.size)).trans (hal.mono (hW0.out.trans (hb2.mono hW0.out.size)).size))
     clear hat hcp hfar ho2 hB2 hb2 hal
     go_wp2_with fail
     refine (HZ.out _ _ _ hr3.out).mono ?_
     rintro e w4 ⟨rfl, hb4⟩
     have hW4 := Lib.hid (hW3.out.trans (hb4.mono hW3.out.size))
     clear hb4
     go_wp2_with fail
     go_ret2
     exact ⟨rfl, hW4.out⟩

set_option maxHeartbeats 4000000 in
theorem specReplaceRange (o l m : Int) (d s U : ByteArray) (f t size : Int) (w : World) (hd : d.size ≤ 1048576) (hs : s.size ≤ 1048576) (hU : U.size ≤ 1048576) :
  Calls Tryz.prog 32 #[.agg #[.int .i64 o, .int .i64 l, .int .i64 m], .string d, .string s, .int .i64 f, .int .i64 t, .string U, .int .i64 size] w fun e w' => e = .returned (optV (replC o l m d.data.toList (contB s) f t U.data.toList size)) ∧ Below w.heap.size w w' := by
 have hW0 := Lib.hid ((Below.refl w.heap.size w).alloc (Nat.le_refl _) (.cells #[.int .i64 o, .int .i64 l, .int .i64 m] 24))
 have kb0 := Lib.hid (KBn.start w 24 [.int .i64 o, .int .i64 l, .int .i64 m])
 have hUs : U.data.toList.length = U.size := by simp
 rcases hbs : contB s with _ | bs
 ·have HS := Lib.hid (fun W => specL5BlocksNo s W hs hbs)
  have hA : replC o l m d.data.toList none f t U.data.toList size = none := rfl
  rw [hA]
  clear hbs hA hUs
  go_enter Tryz.func32, Tryz.ntmps32
  go_wp2_with fail
  refine (HS.out _).mono ?_
  rintro e w1 ⟨A1, c1, rfl, _, hb1⟩
  have hW1 := Lib.hid (hW0.out.trans (hb1.mono hW0.out.size))
  clear hb1
  go_wp2_with fail
  go_ret2
  exact ⟨rfl, hW1.out⟩
 ·obtain ⟨n, hn⟩ : ∃ n, bs.length = n := ⟨_, rfl⟩
  have HS := Lib.hid (fun W => specL5BlocksYes s bs n W hs hbs hn)
  have hnum := contB_numbered hbs
  have hn40 := hnum.length
  rw [hn] at hn40
  have hok : ∀ b ∈ bs, b.okb := fun b hb => Blk.okb_of (hnum.of_mem hb)
  have hz := szs_le (fun b hm => hnum.of_mem hm)
  have hz2 : szs bs ≤ 2000 := conts_szs hbs
  rw [hn] at hz
  by_cases hroom : dfits o l m d.data.toList ∧ (1 ≤ size ∧ size ≤ 64)
  ·obtain ⟨hf, hsz⟩ := hroom
   have HR := Lib.hid (fun W => specL6Room o l m size d true W hd (btrue ⟨hf, hsz⟩))
   obtain ⟨on, rfl⟩ : ∃ n : Nat, o = n := ⟨o.toNat, by have := hf.1.1; omega⟩
   obtain ⟨ln, rfl⟩ : ∃ n : Nat, l = n := ⟨l.toNat, by have := hf.1.2.1; omega⟩
   obtain ⟨mn, rfl⟩ : ∃ n : Nat, m = n := ⟨m.toNat, by have := hf.1.2; omega⟩
   obtain ⟨sz, rfl⟩ : ∃ n : Nat, size = n := ⟨size.toNat, by omega⟩
   have HZ := fun A c W (hr : Row W W.heap.size 4 A n (cellsB bs)) => specL5Size A n c W.heap.size bs W hr (by omega) (by omega)
   obtain ⟨z, hzz⟩ : ∃ z, szs bs = z := ⟨_, rfl⟩
   rw [hzz] at HZ hz hz2
   by_cases hrg : 0 ≤ f ∧ f ≤ t ∧ t ≤ (z : Int)
   ·have HG := Lib.hid (fun W => specL6Range f t (z : Int) true W (btrue hrg))
    obtain ⟨fn, rfl⟩ : ∃ n : Nat, f = n := ⟨f.toNat, by omega⟩
    obtain ⟨tn, rfl⟩ : ∃ n : Nat, t = n := ⟨t.toNat, by omega⟩
    by_cases hmany : U.size ≤ 2000 ∧ (U.size : Int) ≤ 40 * (sz : Int)
    ·have HMy := Lib.hid (fun W => specL6Many sz U false W hU (by omega) (bfalse (fun hh => hh hmany)))
     have hr : roomy U.data.toList.length (sz : Int) := ⟨hsz, by rw [hUs]; exact hmany⟩
     have hA := replC_yes (bs := bs) (f := fn) (t := tn) (L := U.data.toList) ⟨⟨hf, by rw [hzz]; exact hrg⟩, hr⟩
     rw [hA]
     have hval := (Kn.dict_fresh hf).1.val
     have hbd : bsL d.data.toList = d := rfl
     have hbU : bsL U.data.toList = U := rfl
     have HC1 := fun A c W (hr : Row W W.heap.size 4 A n (cellsB bs)) => specL6Cut on ln mn 0 fn d.data.toList A n c W.heap.size bs W hf hr (Nat.le_refl _) (by omega) hok (by omega) (by omega)
     have HC2 := fun A c W (hr : Row W W.heap.size 4 A n (cellsB bs)) => specL6Cut on ln mn tn z d.data.toList A n c W.heap.size bs W hf hr (Nat.le_refl _) (by omega) hok (by omega) (by omega)
     have HL := fun W => specL6Split on ln mn sz d.data.toList U.data.toList W hf hr.2.1 (by omega) (by omega)
     simp only [hbd, hbU, Int.natCast_zero] at HC1 HC2 HL
     have hB : replB (Kn.dict on ln mn d.data.toList) fn tn sz U.data.toList bs = match (Kn.dict on ln mn d.data.toList).cut 0 fn 0 bs, (Kn.dict on ln mn d.data.toList).cut tn z 0 bs with
      | some x, some y => some (x ++ (Kn.dict on ln mn d.data.toList).split sz U.data.toList ++ y)
      | _, _ => none := by rw [← hzz]; rfl
     rw [hB]
     have HM0 : ∀ x y, (Kn.dict on ln mn d.data.toList).cut 0 fn 0 bs = some x → (Kn.dict on ln mn d.data.toList).cut tn z 0 bs = some y → (x.length ≤ 40 ∧ y.length ≤ 40 ∧ ((Kn.dict on ln mn d.data.toList).split sz U.data.toList).length ≤ 40) ∧ ∀ A c W N, N = x.length + ((Kn.dict on ln mn d.data.toList).split sz U.data.toList).length + y.length → Row W W.heap.size 4 A N (cellsB (x ++ (Kn.dict on ln mn d.data.toList).split sz U.data.toList ++ y)) → Calls Tryz.prog 67 #[.slice A N c] W fun e w' => e = .returned (optV (mkC (x ++ (Kn.dict on ln mn d.data.toList).split sz U.data.toList ++ y))) ∧ Below W.heap.size W w' := fun x y hx hy => by
      have hh := repl_ok hval hr hok (by omega) (by omega) hx (by rw [hzz]; exact hy)
      refine ⟨hh.2.2, fun A c W N hN hrow => specL6Result A N c W.heap.size _ W hrow (Nat.le_refl _) (by omega) hh.2.1 hh.1⟩
     obtain ⟨u1, hu1⟩ : ∃ u, (Kn.dict on ln mn d.data.toList).cut 0 fn 0 bs = u := ⟨_, rfl⟩
     obtain ⟨u2, hu2⟩ : ∃ u, (Kn.dict on ln mn d.data.toList).cut tn z 0 bs = u := ⟨_, rfl⟩
     obtain ⟨sp, hsp⟩ : ∃ sp, (Kn.dict on ln mn d.data.toList).split sz U.data.toList = sp := ⟨_, rfl⟩
     rw [hu1] at HC1 HM0 ⊢
     rw [hu2] at HC2 HM0 ⊢
     rw [hsp] at HL HM0 ⊢
     obtain ⟨q, hq⟩ : ∃ q, sp.length = q := ⟨_, rfl⟩
     rw [hq] at HL HM0
     replace HZ := Lib.hid HZ
     replace HC1 := Lib.hid HC1
     replace HC2 := Lib.hid HC2
     replace HL := Lib.hid HL
     replace HM0 := Lib.hid HM0
     clear hbs hnum hok hf hn hbd hbU hval hu1 hu2 hsp hq hA hB hrg hzz hmany hUs hsz hr
     go_enter Tryz.func32, Tryz.ntmps32
     go_wp2_with fail
     refine (HS.out _).mono ?_
     rintro e w1 ⟨A1, c1, rfl, ho1, hb1⟩
     have hr1 := Lib.hid (Row.of_own ho1)
     have hW1 := Lib.hid (hW0.out.trans (hb1.mono hW0.out.size))
     have kb1 := Lib.hid (kb0.out.below hb1)
     clear hb1 ho1 kb0 hW0
     have q0 := kb1.out.c 0 _ rfl
     have q1 := kb1.out.c 1 _ rfl
     have q2 := kb1.out.c 2 _ rfl
     go_wp2_with fail
     refine (HR.out _).mono ?_
     rintro e w2 ⟨rfl, hb2⟩
     have hr2 := Lib.hid (Row.more (Row.below hr1.out hb2 (Nat.le_refl _)) hb2.size)
     have hW2 := Lib.hid (hW1.out.trans (hb2.mono hW1.out.size))
     have kb2 := Lib.hid (kb1.out.below hb2)
     clear hb2 hr1 hW1 kb1 q0 q1 q2
     go_wp2_with fail
     refine (HZ.out _ _ _ hr2.out).mono ?_
     rintro e w3 ⟨rfl, rfl⟩
     go_wp2_with fail
     refine (HG.out _).mono ?_
     rintro e w3 ⟨rfl, rfl⟩
     go_wp2_with fail
     refine (HMy.out _).mono ?_
     rintro e w3 ⟨rfl, rfl⟩
     have q0 := kb2.out.c 0 _ rfl
     have q1 := kb2.out.c 1 _ rfl
     have q2 := kb2.out.c 2 _ rfl
     go_wp2_with fail
     refine (HC1.out _ _ _ hr2.out).mono ?_
     rintro e w4 ⟨A4, n4, c4, rfl, hcut4, hb4⟩
     have hr4 := Lib.hid (Row.more (Row.below hr2.out hb4 (Nat.le_refl _)) hb4.size)
     have hW4 := Lib.hid (hW2.out.trans (hb4.mono hW2.out.size))
     have kb4 := Lib.hid (kb2.out.below hb4)
     replace hcut4 := Lib.hid hcut4
     have hz4 := hb4.size
     have hwB := hW2.out.size
     clear hb4 hr2 hW2 kb2 q0 q1 q2
     go_upto_region 5 with (fail)
     have hSX : Hid (∀ W, Below w4.heap.size w4 W → W.cell? ⟨w.heap.size, 0, none⟩ = some (.int .i64 (on : Int)) ∧ W.cell? ⟨w.heap.size, 1, none⟩ = some (.int .i64 (ln : Int)) ∧ W.cell? ⟨w.heap.size, 2, none⟩ = some (.int .i64 (mn : Int))) := Lib.hid (fun W hW => by
      have kx := kb4.out.below hW
      exact ⟨kx.c 0 _ rfl, kx.c 1 _ rfl, kx.c 2 _ rfl⟩)
     refine wp_region_held_tail (S := fun W => W.cell? ⟨w.heap.size, 0, none⟩ = some (.int .i64 (on : Int)) ∧ W.cell? ⟨w.heap.size, 1, none⟩ = some (.int .i64 (ln : Int)) ∧ W.cell? ⟨w.heap.size, 2, none⟩ = some (.int .i64 (mn : Int))) 11 (by kernel_rfl) (by kernel_rfl) (hSX.out _ (Below.refl _ _).drew) (fun hS => ?_)
     have hb5 := Lib.hid ((Below.refl w4.heap.size w4).drew)
     have hr5 := Lib.hid (Row.more (Row.below hr4.out hb5.out (Nat.le_refl _)) hb5.out.size)
     refine heldAny_take (i := 0) (v := ?_) rfl (by kernel_rfl) (by kernel_rfl) (by kernel_rfl) (by kernel_rfl) (fun _ _ _ h => h) (Or.inl ⟨by rfl, ?_⟩) (by assumption) ?_
     rotate_left
     ·(intro wS hSw; (try dsimp only at hSw); go_split_ands; go_simp; all_goals with_reducible rfl)
     try simp only [Act.put]
     refine heldAny_take (i := 1) (v := ?_) rfl (by kernel_rfl) (by kernel_rfl) (by kernel_rfl) (by kernel_rfl) (fun _ _ _ h => h) (Or.inl ⟨by rfl, ?_⟩) (by assumption) ?_
     rotate_left
     ·(intro wS hSw; (try dsimp only at hSw); go_split_ands; go_simp; all_goals with_reducible rfl)
     try simp only [Act.put]
     refine heldAny_take (i := 2) (v := ?_) rfl (by kernel_rfl) (by kernel_rfl) (by kernel_rfl) (by kernel_rfl) (fun _ _ _ h => h) (Or.inl ⟨by rfl, ?_⟩) (by assumption) ?_
     rotate_left
     ·(intro wS hSw; (try dsimp only at hSw); go_split_ands; go_simp; all_goals with_reducible rfl)
     try simp only [Act.put]
     refine heldAny_take (i := 3) (v := ?_) rfl (by kernel_rfl) (by kernel_rfl) (by kernel_rfl) (by kernel_rfl) (fun _ _ _ h => h) (Or.inl ⟨by rfl, ?_⟩) (by assumption) ?_
     rotate_left
     ·(intro wS hSw; (try dsimp only at hSw); go_split_ands; go_simp; all_goals with_reducible rfl)
     try simp only [Act.put]
     refine heldAny_take (i := 4) (v := ?_) rfl (by kernel_rfl) (by kernel_rfl) (by kernel_rfl) (by kernel_rfl) (fun _ _ _ h => h) (Or.inl ⟨by rfl, ?_⟩) (by assumption) ?_
     rotate_left
     ·(intro wS hSw; (try dsimp only at hSw); go_split_ands; go_simp; all_goals with_reducible rfl)
     try simp only [Act.put]
     refine heldAny_one (i := 5) rfl (by kernel_rfl) (by kernel_rfl) (fun K hK => ?_)
     go_simp
     go_at_call 74
     refine (HZ.out _ _ _ hr5.out).mono ?_
     rintro e w5 ⟨rfl, rfl⟩
     refine hK.out _ _ (hSX.out _ hb5.out) (fun hS => ?_)
     try simp only [Act.put]
     clear hK K
     refine heldAny_one (i := 6) rfl (by kernel_rfl) (by kernel_rfl) (fun K hK => ?_)
     go_simp
     go_at_call 75
     refine (HC2.out _ _ _ hr5.out).mono ?_
     rintro e w6 ⟨A6, n6, c6, rfl, hcut6, hb6⟩
     have hb6x := Lib.hid (hb5.out.trans (hb6.mono hb5.out.size))
     refine hK.out _ _ (hSX.out _ hb6x.out) (fun hS => ?_)
     try simp only [Act.put]
     clear hK K
     refine heldAny_take (i := 7) (v := ?_) rfl (by kernel_rfl) (by kernel_rfl) (by kernel_rfl) (by kernel_rfl) (fun _ _ _ h => h) (Or.inl ⟨by rfl, ?_⟩) (by assumption) ?_
     rotate_left
     ·(intro wS hSw; (try dsimp only at hSw); go_split_ands; go_simp; all_goals with_reducible rfl)
     try simp only [Act.put]
     refine heldAny_take (i := 8) (v := ?_) rfl (by kernel_rfl) (by kernel_rfl) (by kernel_rfl) (by kernel_rfl) (fun _ _ _ h => h) (Or.inl ⟨by rfl, ?_⟩) (by assumption) ?_
     rotate_left
     ·(intro wS hSw; (try dsimp only at hSw); go_split_ands; go_simp; all_goals with_reducible rfl)
     try simp only [Act.put]
     refine heldAny_take (i := 9) (v := ?_) rfl (by kernel_rfl) (by kernel_rfl) (by kernel_rfl) (by kernel_rfl) (fun _ _ _ h => h) (Or.inl ⟨by rfl, ?_⟩) (by assumption) ?_
     rotate_left
     ·(intro wS hSw; (try dsimp only at hSw); go_split_ands; go_simp; all_goals with_reducible rfl)
     try simp only [Act.put]
     refine heldAny_take (i := 10) (v := ?_) rfl (by kernel_rfl) (by kernel_rfl) (by kernel_rfl) (by kernel_rfl) (fun _ _ _ h => h) (Or.inl ⟨by rfl, ?_⟩) (by assumption) ?_
     rotate_left
     ·(intro wS hSw; (try dsimp only at hSw); go_split_ands; go_simp; all_goals with_reducible rfl)
     try simp only [Act.put]
     refine heldAny_done (by kernel_rfl) ⟨by kernel_rfl, ?_⟩
     simp only [List.drop_succ_cons, List.drop_zero]
     have hW6 := Lib.hid (hW4.out.trans (hb6x.out.mono hW4.out.size))
     have q0 := (hSX.out _ hb6x.out).1
     have q1 := (hSX.out _ hb6x.out).2.1
     have q2 := (hSX.out _ hb6x.out).2.2
     replace hcut6 := Lib.hid hcut6
     clear hb6 hr4 hr5 hW4 kb4 hSX hb5
     rcases u1 with _ | x
     ·clear hcut4 hcut6 HM0 hb6x
      go_wp2_with fail
      go_ret2
      exact ⟨rfl, hW6.out⟩
     ·rcases u2 with _ | y
      ·clear hcut4 hcut6 HM0 hb6x
       go_wp2_with fail
       go_ret2
       exact ⟨rfl, hW6.out⟩
      ·obtain ⟨hl4, ho4⟩ := hcut4.out x rfl
       obtain ⟨hl6, ho6⟩ := hcut6.out y rfl
       obtain ⟨⟨hx40, hy40, hq40⟩, HM⟩ := HM0.out x y rfl rfl
       rw [hl4] at HM hx40
       rw [hl6] at HM hy40
       replace HM := Lib.hid HM
       have hlt4 := Lib.hid (fun g hg => (ho4.lt g hg))
       have ho46 := Lib.hid (own_below ho4 hb6x.out (Nat.le_refl _))
       have hge6 : Hid (∀ b off, A6 = some ⟨b, off, none⟩ → w4.heap.size ≤ b) := Lib.hid (fun b off e => by
        have := (ho6.lt b (by rw [e]; rfl)).1
        simpa using this)
       have ho6' := Lib.hid ho6
       obtain ⟨R, hR⟩ : ∃ R, mkC (x ++ sp ++ y) = R := ⟨_, rfl⟩
       have hR' := Lib.hid hR
       have hz46 := Nat.le_trans hz4 hb6x.out.size
       clear hcut4 hcut6 HM0 ho4 ho6 hl4 hl6 hR hb6x
       go_wp2_with fail
       refine (HL.out _).mono ?_
       rintro e w7 ⟨A7, c7, rfl, hown7, hb7⟩
       have ho7 := own_below ho46.out hb7 (Nat.le_refl _)
       have hr7 := Row.of_own hown7
       have hr67 := Lib.hid (Row.more (Row.below (Row.of_own ho6'.out) hb7 (Nat.le_refl _)) hb7.size)
       have hW7 := Lib.hid (hW6.out.trans (hb7.mono hW6.out.size))
       have hz7 := Nat.le_trans hz46 hb7.size
       clear q0 q1 q2 hown7 hb7 ho46 ho6' hW6
       go_wp2_with (first
        | (at_builtin; refine wpList_append_row _ elemBlk rfl (.tmp 73) (.tmp 78) rfl _ _ _ _ rfl ho7 _ _ q _ (cellsB sp) rfl hr7 ?_ ?_ ?_ ?_ ?_))
       ·exact cellsB_oneCell sp
       ·unfold maxLen; omega
       ·omega
       ·exact hz7
       ·intro v8 w8 hv8 hg8 _
        have hW8 := Lib.hid (hW7.out.grown hg8 (Nat.le_trans hwB hz7) (fun g hg => Nat.le_trans hwB (ho7.lt g hg).1))
        rw [← cellsB_append] at hv8
        obtain ⟨A8, c8, rfl, _, _⟩ := own_form hv8
        have hr8 := Row.more (Row.grownX hr67.out (Nat.le_refl _) hg8 (fun hn b off e e2 => by
         have h1 := hlt4.out b e2
         have h2 := hge6.out b off e
         omega)) hg8.size
        have hz8 := Nat.le_trans hz7 hg8.size
        clear ho7 hr7 hg8 hr67 hlt4 hge6 hz7 hW7
        go_wp2_with (first
         | (at_builtin; refine wpList_append_row _ elemBlk rfl (.tmp 79) (.tmp 80) rfl _ _ _ _ rfl hv8 _ _ n6 _ (cellsB y) rfl hr8 ?_ ?_ ?_ ?_ ?_))
        ·exact cellsB_oneCell y
        ·unfold maxLen; omega
        ·omega
        ·exact hz8
        ·intro v9 w9 hv9 hg9 _
         have hW9 := Lib.hid (hW8.out.grown hg9 (Nat.le_trans hwB hz8) (fun g hg => Nat.le_trans hwB (hv8.lt g hg).1))
         rw [← cellsB_append] at hv9
         obtain ⟨A9, c9, rfl, _, _⟩ := own_form hv9
         have hM9 := Lib.hid (HM.out A9 c9 w9 (n4 + q + n6) rfl (Row.of_own hv9))
         rw [hR'.out] at hM9
         unfold optV at hM9
         clear hv8 hr8 hg9 hv9 HM
         go_wp2_with fail
         refine hM9.out.mono ?_
         rintro e w10 ⟨rfl, hb10⟩
         have hfin := Lib.hid (hW9.out.trans (hb10.mono hW9.out.size))
         clear hb10 hM9
         go_wp2_with fail
         go_ret2
         exact ⟨by rw [← List.append_assoc, hR'.out]; rfl, hfin.out⟩
    ·have HMy := Lib.hid (fun W => specL6Many sz U true W hU (by omega) (btrue hmany))
     have hA : replC on ln mn d.data.toList (some bs) fn tn U.data.toList sz = none := replC_no (fun hh => hmany (by have := hh.2.2; rw [hUs] at this; exact this))
     rw [hA]
     replace HZ := Lib.hid HZ
     clear hbs hnum hok hf hn hA hrg hzz hmany hUs hsz
     go_enter Tryz.func32, Tryz.ntmps32
     go_wp2_with fail
     refine (HS.out _).mono ?_
     rintro e w1 ⟨A1, c1, rfl, ho1, hb1⟩
     have hr1 := Lib.hid (Row.of_own ho1)
     have hW1 := Lib.hid (hW0.out.trans (hb1.mono hW0.out.size))
     have kb1 := Lib.hid (kb0.out.below hb1)
     clear hb1 ho1 kb0 hW0
     have q0 := kb1.out.c 0 _ rfl
     have q1 := kb1.out.c 1 _ rfl
     have q2 := kb1.out.c 2 _ rfl
     go_wp2_with fail
     refine (HR.out _).mono ?_
     rintro e w2 ⟨rfl, hb2⟩
     have hr2 := Lib.hid (Row.more (Row.below hr1.out hb2 (Nat.le_refl _)) hb2.size)
     have hW2 := Lib.hid (hW1.out.trans (hb2.mono hW1.out.size))
     clear hb2 hr1 hW1 kb1 q0 q1 q2
     go_wp2_with fail
     refine (HZ.out _ _ _ hr2.out).mono ?_
     rintro e w3 ⟨rfl, rfl⟩
     go_wp2_with fail
     refine (HG.out _).mono ?_
     rintro e w3 ⟨rfl, rfl⟩
     go_wp2_with fail
     refine (HMy.out _).mono ?_
     rintro e w3 ⟨rfl, rfl⟩
     go_wp2_with fail
     go_ret2
     exact ⟨rfl, hW2.out⟩
   ·have HG := Lib.hid (fun W => specL6Range f t (z : Int) false W (bfalse hrg))
    have hA : replC on ln mn d.data.toList (some bs) f t U.data.toList sz = none := replC_no (fun hh => hrg (by rw [← hzz]; exact hh.1.2))
    rw [hA]
    replace HZ := Lib.hid HZ
    clear hbs hnum hok hf hn hA hrg hzz hUs hsz
    go_enter Tryz.func32, Tryz.ntmps32
    go_wp2_with fail
    refine (HS.out _).mono ?_
    rintro e w1 ⟨A1, c1, rfl, ho1, hb1⟩
    have hr1 := Lib.hid (Row.of_own ho1)
    have hW1 := Lib.hid (hW0.out.trans (hb1.mono hW0.out.size))
    have kb1 := Lib.hid (kb0.out.below hb1)
    clear hb1 ho1 kb0 hW0
    have q0 := kb1.out.c 0 _ rfl
    have q1 := kb1.out.c 1 _ rfl
    have q2 := kb1.out.c 2 _ rfl
    go_wp2_with fail
    refine (HR.out _).mono ?_
    rintro e w2 ⟨rfl, hb2⟩
    have hr2 := Lib.hid (Row.more (Row.below hr1.out hb2 (Nat.le_refl _)) hb2.size)
    have hW2 := Lib.hid (hW1.out.trans (hb2.mono hW1.out.size))
    clear hb2 hr1 hW1 kb1 q0 q1 q2
    go_wp2_with fail
    refine (HZ.out _ _ _ hr2.out).mono ?_
    rintro e w3 ⟨rfl, rfl⟩
    go_wp2_with fail
    refine (HG.out _).mono ?_
    rintro e w3 ⟨rfl, rfl⟩
    go_wp2_with fail
    go_ret2
    exact ⟨rfl, hW2.out⟩
  ·have HR := Lib.hid (fun W => specL6Room o l m size d false W hd (bfalse hroom))
   have hA : replC o l m d.data.toList (some bs) f t U.data.toList size = none := replC_no (fun hh => hroom ⟨hh.1.1, hh.2.1⟩)
   rw [hA]
   clear hA hok hz hz2 hnum hbs hroom hn hn40 hUs
   go_enter Tryz.func32, Tryz.ntmps32
   go_wp2_with fail
   refine (HS.out _).mono ?_
   rintro e w1 ⟨A1, c1, rfl, ho1, hb1⟩
   have hW1 := Lib.hid (hW0.out.trans (hb1.mono hW0.out.size))
   have kb1 := kb0.out.below hb1
   clear hb1 ho1 kb0 hW0
   have q0 := kb1.c 0 _ rfl
   have q1 := kb1.c 1 _ rfl
   have q2 := kb1.c 2 _ rfl
   clear kb1
   go_wp2_with fail
   refine (HR.out _).mono ?_
   rintro e w2 ⟨rfl, hb2⟩
   have hW2 := Lib.hid (hW1.out.trans (hb2.mono hW1.out.size))
   clear hb2 hW1 q0 q1 q2
   go_wp2_with fail
   go_ret2
   exact ⟨rfl, hW2.out⟩

theorem renumL_okb {bs : List Blk} (h : ∀ b ∈ bs, b.okb) (i : Nat) : ∀ b ∈ renumL i bs, b.okb := by
 intro b hb
 obtain ⟨j, hj, rfl⟩ := List.mem_iff_getElem.1 hb
 have h1 := renumL_get bs i j
 rw [List.getElem?_eq_getElem hj] at h1
 cases h2 : bs[j]? with
 | none => rw [h2] at h1; cases h1
 | some c =>
  rw [h2] at h1
  simp at h1
  rw [h1]
  exact h c (List.mem_of_getElem? h2)

theorem numbered_okb {bs : List Blk} (h : Numbered bs) : ∀ b ∈ bs, b.okb := fun b hb => Blk.okb_of (h.of_mem hb)

theorem contB_szs {s : ByteArray} {bs : List Blk} (h : contB s = some bs) : szs bs ≤ 2000 := by
 have main : ∀ (n : Nat) (k : Nat) (acc bs : List Blk), s.size - k ≤ n → conts s k acc = some bs → szs bs ≤ 2000 := by
  intro n
  induction n with
  | zero =>
   intro k acc bs hn hc
   rw [conts_end (by omega)] at hc
   split at hc
   ·injection hc with hc; subst hc; assumption
   ·cases hc
  | succ n ih =>
   intro k acc bs hn hc
   by_cases hlt : k < s.size
   ·by_cases h1 : pbOk s k ∧ (pbBlk s k).num = acc.length
    ·rw [conts_next hlt h1.1 h1.2] at hc
     have := pbEnd_ge s k
     exact ih _ _ _ (by omega) hc
    ·rw [conts_bad hlt h1] at hc; cases hc
   ·rw [conts_end (by omega)] at hc
    split at hc
    ·injection hc with hc; subst hc; assumption
    ·cases hc
 exact main s.size 0 [] bs (by omega) h

theorem contB_ok {s : ByteArray} {bs : List Blk} (h : contB s = some bs) : (∀ b ∈ bs, b.okb) ∧ bs.length ≤ 40 ∧ szs bs ≤ 2000 ∧ textsFrom 0 bs = s ∧ s.size ≤ 2960 := by
 have hn := contB_numbered h
 have hok := numbered_okb hn
 have hl := hn.length
 have ht := contB_text h
 have hsz := textsFrom_size bs hok 0
 rw [ht] at hsz
 exact ⟨hok, hl, contB_szs h, ht, by omega⟩

theorem mkC_some {bs : List Blk} {x : ByteArray} (hok : ∀ b ∈ bs, b.okb) (h : mkC bs = some x) : bs.length ≤ 40 ∧ szs bs ≤ 2000 ∧ x = textsFrom 0 bs ∧ contB x = some (renumL 0 bs) := by
 unfold mkC at h
 split at h
 ·rename_i hc
  injection h with h
  subst h
  exact ⟨hc.1, hc.2, rfl, contB_texts hok hc.1 hc.2⟩
 ·cases h

theorem szs_cons (b : Blk) (bs : List Blk) : szs (b :: bs) = b.size + szs bs := by simp [szs]

theorem renumL_size (bs : List Blk) : ∀ i, (renumL i bs).map (·.size) = bs.map (·.size) := by
 induction bs with
 | nil => intro i; rfl
 | cons b bs ih => intro i; show b.size :: _ = b.size :: _; rw [ih]

theorem cut_cons (k : Kn) (f t p : Nat) (b : Blk) (bs : List Blk) : k.cut f t p (b :: bs) =
  if min (p + b.size) t ≤ max p f then k.cut f t (p + b.size) bs
  else if max p f = p ∧ min (p + b.size) t = p + b.size then (k.cut f t (p + b.size) bs).map (b :: ·)
  else match k.blockData b, k.cut f t (p + b.size) bs with
   | some d, some r => some (k.block ((d.drop (max p f - p)).take (min (p + b.size) t - max p f)) :: r)
   | _, _ => none := rfl

theorem cut_within {k : Kn} {f t : Nat} : ∀ (a r : List Blk) (p : Nat), (∀ b ∈ a, b.okb) → f ≤ p → p + szs a ≤ t → k.cut f t p (a ++ r) = (k.cut f t (p + szs a) r).map (a ++ ·) := by
 intro a
 induction a with
 | nil =>
  intro r p _ h1 h2
  show k.cut f t p r = (k.cut f t p r).map ([] ++ ·)
  cases k.cut f t p r <;> simp
 | cons b a ih =>
  intro r p hok h1 h2
  rw [szs_cons] at h2
  have hb := (hok b (List.mem_cons_self ..)).1
  rw [List.cons_append, cut_cons, if_neg (by omega), if_pos (by omega), ih r _ (fun c hc => hok c (List.mem_cons_of_mem _ hc)) (by omega) (by omega), szs_cons, Nat.add_assoc]
  cases k.cut f t (p + (b.size + szs a)) r <;> rfl

structure RepFacts (on ln mn fn tn sz : Nat) (d L : List UInt8) (s x : ByteArray) (bs a b : List Blk) : Prop where
 fit : dfits on ln mn d
 room : roomy L.length sz
 ok : ∀ c ∈ bs, c.okb
 l40 : bs.length ≤ 40
 z : szs bs ≤ 2000
 ss : s.size ≤ 2960
 ft : fn ≤ tn
 tz : tn ≤ szs bs
 cut1 : (Kn.dict on ln mn d).cut 0 fn 0 bs = some a
 cut2 : (Kn.dict on ln mn d).cut tn (szs bs) 0 bs = some b
 oka : ∀ c ∈ a, c.okb
 okb' : ∀ c ∈ b, c.okb
 oks : ∀ c ∈ (Kn.dict on ln mn d).split sz L, c.okb
 za : szs a = fn
 zb : szs b = szs bs - tn
 zs : szs ((Kn.dict on ln mn d).split sz L) = L.length
 len : (a ++ (Kn.dict on ln mn d).split sz L ++ b).length ≤ 40
 zz : szs (a ++ (Kn.dict on ln mn d).split sz L ++ b) ≤ 2000
 xe : x = textsFrom 0 (a ++ (Kn.dict on ln mn d).split sz L ++ b)
 xb : contB x = some (renumL 0 (a ++ (Kn.dict on ln mn d).split sz L ++ b))
 xs : x.size ≤ 2960

theorem replC_some {o l m size f t : Int} {d L : List UInt8} {s x : ByteArray} (h : replC o l m d (contB s) f t L size = some x) :
  ∃ (on ln mn fn tn sz : Nat) (bs a b : List Blk), o = on ∧ l = ln ∧ m = mn ∧ f = fn ∧ t = tn ∧ size = sz ∧ contB s = some bs ∧ RepFacts on ln mn fn tn sz d L s x bs a b := by
 cases hbs : contB s with
 | none => rw [hbs] at h; cases h
 | some bs =>
  rw [hbs] at h
  by_cases hc : replOk o l m d bs f t L.length size
  ·have hc' := hc
   obtain ⟨⟨hf, h0, hft, htz⟩, hr⟩ := hc'
   obtain ⟨on, rfl⟩ : ∃ n : Nat, o = n := ⟨o.toNat, by have := hf.1.1; omega⟩
   obtain ⟨ln, rfl⟩ : ∃ n : Nat, l = n := ⟨l.toNat, by have := hf.1.2.1; omega⟩
   obtain ⟨mn, rfl⟩ : ∃ n : Nat, m = n := ⟨m.toNat, by have := hf.1.2; omega⟩
   obtain ⟨fn, rfl⟩ : ∃ n : Nat, f = n := ⟨f.toNat, by omega⟩
   obtain ⟨tn, rfl⟩ : ∃ n : Nat, t = n := ⟨t.toNat, by omega⟩
   obtain ⟨sz, rfl⟩ : ∃ n : Nat, size = n := ⟨size.toNat, by have := hr.1; omega⟩
   rw [replC_yes hc] at h
   obtain ⟨hok, h40, hz, htx, hs⟩ := contB_ok hbs
   have hkv := (Kn.dict_fresh hf).1.val
   unfold replB at h
   cases h1 : (Kn.dict on ln mn d).cut 0 fn 0 bs with
   | none => rw [h1] at h; cases h
   | some a =>
    cases h2 : (Kn.dict on ln mn d).cut tn (szs bs) 0 bs with
    | none => rw [h1, h2] at h; cases h
    | some b =>
     rw [h1, h2] at h
     have h3 : mkC (a ++ (Kn.dict on ln mn d).split sz L ++ b) = some x := h
     obtain ⟨c1, c2, c3⟩ := cut_some hkv bs 0 a hok h1
     obtain ⟨e1, e2, e3⟩ := cut_some hkv bs 0 b hok h2
     have hsp := splitF_okb hkv (size := sz) (by have := hr.1; omega) (by have := hr.1; omega) L.length L
     have hspz := (splitF_szs (Kn.dict on ln mn d) (size := sz) (by have := hr.1; omega) L.length L (Nat.le_refl _)).1
     obtain ⟨g1, _, _, _, _⟩ := repl_ok hkv hr hok h40 hz h1 h2
     obtain ⟨m1, m2, m3, m4⟩ := mkC_some g1 h3
     exact ⟨on, ln, mn, fn, tn, sz, bs, a, b, rfl, rfl, rfl, rfl, rfl, rfl, rfl, ⟨hf, hr, hok, h40, hz, hs, by omega, by omega, h1, h2, c1, e1, hsp, by omega, by omega, hspz, m1, m2, m3, m4, (contB_ok m4).2.2.2.2⟩⟩
  ·rw [replC_no hc] at h; cases h

theorem RepFacts.data {on ln mn fn tn sz : Nat} {d L : List UInt8} {s x : ByteArray} {bs a b : List Blk} (h : RepFacts on ln mn fn tn sz d L s x bs a b) {D : List UInt8} (hD : (Kn.dict on ln mn d).datas bs = some D) :
  D.length = szs bs ∧ (Kn.dict on ln mn d).datas a = some (D.take fn) ∧ (Kn.dict on ln mn d).datas b = some (D.drop tn) ∧ (Kn.dict on ln mn d).datas (a ++ (Kn.dict on ln mn d).split sz L ++ b) = some (D.take fn ++ L ++ D.drop tn) := by
 have hkv := (Kn.dict_fresh h.fit).1.val
 have hl := Kn.datas_size h.ok hD
 obtain ⟨a', q1, q2⟩ := cut_data hkv (f := 0) (t := fn) bs 0 D h.ok hD
 obtain ⟨b', q3, q4⟩ := cut_data hkv (f := tn) (t := szs bs) bs 0 D h.ok hD
 rw [h.cut1] at q1
 rw [h.cut2] at q3
 injection q1 with q1
 injection q3 with q3
 subst q1 q3
 have e1 : slc D 0 0 fn = D.take fn := by unfold slc; simp
 have e2 : slc D 0 tn (szs bs) = D.drop tn := by
  unfold slc
  rw [Nat.sub_zero, List.take_of_length_le]
  rw [List.length_drop, hl]
  have := h.tz
  omega
 rw [e1] at q2
 rw [e2] at q4
 have hs := Kn.split_data hkv (size := sz) (by have := h.room.1; omega) L
 refine ⟨hl, q2, q4, ?_⟩
 rw [Kn.datas_append, Kn.datas_append, q2, hs, q4]

theorem contD_of {on ln mn : Nat} {d : List UInt8} {bs : List Blk} (hf : dfits on ln mn d) : contD on ln mn d (some bs) = (Kn.dict on ln mn d).datas bs := by
 show (if _ then _ else _) = _
 rw [if_pos hf]; rfl

theorem replace_law {o l m size f t : Int} {d L : List UInt8} {s x : ByteArray} (h : replC o l m d (contB s) f t L size = some x) :
  ∃ (fn tn z : Nat) (bs cs : List Blk) (Do Dx : Option (List UInt8)), f = fn ∧ t = tn ∧ fn ≤ tn ∧ tn ≤ z ∧ z ≤ 2000 ∧ L.length ≤ 2000 ∧ contB s = some bs ∧ contB x = some cs ∧ szs bs = z ∧ szs cs = z - (tn - fn) + L.length ∧ s.size ≤ 2960 ∧ x.size ≤ 2960 ∧
   contD o l m d (some bs) = Do ∧ contD o l m d (some cs) = Dx ∧ ∀ D, Do = some D → D.length = z ∧ Dx = some (D.take fn ++ L ++ D.drop tn) := by
 obtain ⟨on, ln, mn, fn, tn, sz, bs, a, b, rfl, rfl, rfl, rfl, rfl, rfl, hbs, hR⟩ := replC_some h
 refine ⟨fn, tn, szs bs, bs, _, _, _, rfl, rfl, hR.ft, hR.tz, hR.z, hR.room.2.1, hbs, hR.xb, rfl, ?_, hR.ss, hR.xs, rfl, rfl, ?_⟩
 ·rw [renumL_szs, szs_append, szs_append, hR.za, hR.zb, hR.zs]
  have := hR.ft
  have := hR.tz
  omega
 ·intro D hD
  rw [contD_of hR.fit] at hD
  obtain ⟨e1, e2, e3, e4⟩ := hR.data hD
  refine ⟨e1, ?_⟩
  rw [contD_of hR.fit, Kn.datas_renumL, e4]

theorem KBn.under {w w' : World} {H C : Nat} {vs : List Value} (h : KBn w H vs) (hb : Below C w w') (hC : H < C) : KBn w' H vs :=
 ⟨fun j v hv => (hb.cell (p := ⟨H, j, none⟩) hC).trans (h.c j v hv), fun j v hv => (hb.frozen (p := ⟨H, j, none⟩) hC).trans (h.f j v hv), Nat.lt_of_lt_of_le h.lt hb.size⟩

set_option maxHeartbeats 2000000 in
theorem implBlocksData (k : Kn) (A : Option Addr) (c B : Nat) (Ab : Option Addr) (n cb Bb : Nat) (bs : List Blk) (w : World) (h : k.Fresh) (hA : k.At w B A) (hB : B ≤ w.heap.size) (hr : Row w Bb 4 Ab n (cellsB bs)) (hBb : Bb ≤ w.heap.size) (hn : n ≤ 40) (hok : ∀ b ∈ bs, b.okb) (hz : szs bs ≤ 4000) :
  Calls Tryz.prog 56 #[k.val A c, .slice Ab n cb] w fun e w' => e = .returned (.tuple #[.string (bsL ((k.datas bs).getD [])), .bool (k.datas bs).isSome]) ∧ Below w.heap.size w w' := by
 have hlen := hr.len4
 have HD := fun (b : Blk) (hb : b.okb) (W : World) (hW : Below w.heap.size w W) => implBlockData k A c B b W h (hA.below hW hB) (Nat.le_trans hB hW.size) hb
 have hval := Kn.val_eq k
 simp only [hval] at HD ⊢
 have kb0 := Lib.hid ((KBn.start w 74 [.int .i64 (k.o : Int), .int .i64 (k.l : Int), .int .i64 (k.m : Int), .slice A k.ps.length c, .int .i64 (k.base : Int), .int .i64 k.lastI]).below ((Below.refl _ _).alloc (Nat.le_refl _) (.cells #[.pointer none, .slice none 0 0] 116)))
 have hW0 := Lib.hid (((Below.refl w.heap.size w).alloc (Nat.le_refl _) (.cells #[.int .i64 (k.o : Int), .int .i64 (k.l : Int), .int .i64 (k.m : Int), .slice A k.ps.length c, .int .i64 (k.base : Int), .int .i64 k.lastI] 74)).alloc (by simp) (.cells #[.pointer none, .slice none 0 0] 116))
 have hbl0 := Bld.new (w.alloc (.cells #[.int .i64 (k.o : Int), .int .i64 (k.l : Int), .int .i64 (k.m : Int), .slice A k.ps.length c, .int .i64 (k.base : Int), .int .i64 k.lastI] 74))
 rw [World.size_alloc] at hbl0
 replace hbl0 := Lib.hid hbl0
 replace HD := Lib.hid HD
 replace hr := Lib.hid hr
 replace hok := Lib.hid hok
 clear hval h hA
 go_enter Tryz.func56, Tryz.ntmps56
 go_wp2_with fail
 go_loopw [13] (fun i wr => ∃ (j : Nat) (D : List UInt8), j ≤ n ∧ i = .int .i64 (j : Int) ∧ Hid (k.datas (bs.take j) = some D) ∧ Hid (Bld wr (w.heap.size + 1) (w.heap.size + 1) (bsL D)) ∧ Hid (KBn wr w.heap.size [.int .i64 (k.o : Int), .int .i64 (k.l : Int), .int .i64 (k.m : Int), .slice A k.ps.length c, .int .i64 (k.base : Int), .int .i64 k.lastI]) ∧ Hid (Below w.heap.size w wr)) (fun i _ => n - (intOf i).toNat)
 case atStart => exact ⟨0, [], Nat.zero_le _, rfl, Lib.hid rfl, hbl0, kb0, hW0⟩
 case round =>
  obtain ⟨j, D, hj, rfl, hD, hbl, hK, hbel⟩ := hrel
  clear kb0 hW0 hbl0
  have hwz := hbel.out.size
  by_cases hlt : j < n
  ·obtain ⟨b, hb⟩ : ∃ b, bs[j]? = some b := ⟨_, List.getElem?_eq_getElem (by omega)⟩
   have hbv : b.val = .agg #[.int .i64 b.num, .bool b.raw, .int .i64 b.size, .string b.body] := rfl
   obtain ⟨g, off, rfl, hg, p0, p1, p2, p3⟩ := (hr.out.below hbel.out hBb).blk (num := b.num) (raw := b.raw) (size := b.size) (body := b.body) hlt hb
   have hob := hok.out b (List.mem_of_getElem? hb)
   have hDl : D.length ≤ 4000 := by
    have h1 := Kn.datas_size (fun b hb => hok.out b (List.mem_of_mem_take hb)) hD.out
    have h2 := szs_take_le bs j
    omega
   have hkb := fun W hW => HD.out b hob W hW
   have hno : Hid (k.blockData b = none → k.datas bs = none) := Lib.hid (fun h2 => Kn.datas_none hb h2)
   have hyes : Hid (∀ e, k.blockData b = some e → k.datas (bs.take (j + 1)) = some (D ++ e) ∧ e.length ≤ 64) := Lib.hid (fun e h2 => ⟨Kn.datas_take hb hD.out h2, by have := Kn.blockData_size hob h2; have := hob.2.1; omega⟩)
   rw [hbv] at hkb
   obtain ⟨x0, hx0⟩ : ∃ x : Nat, b.num = x := ⟨_, rfl⟩
   obtain ⟨x1, hx1⟩ : ∃ x, b.raw = x := ⟨_, rfl⟩
   obtain ⟨x2, hx2⟩ : ∃ x : Nat, b.size = x := ⟨_, rfl⟩
   obtain ⟨x3, hx3⟩ : ∃ x, b.body = x := ⟨_, rfl⟩
   simp only [hx0, hx1, hx2, hx3] at hkb p0 p1 p2 p3
   obtain ⟨R, hR⟩ : ∃ R, bsL ((k.blockData b).getD []) = R := ⟨_, rfl⟩
   obtain ⟨sb, hsb⟩ : ∃ sb, (k.blockData b).isSome = sb := ⟨_, rfl⟩
   simp only [hR, hsb] at hkb
   obtain ⟨bo, hbo⟩ : ∃ x, k.blockData b = x := ⟨_, rfl⟩
   rw [hbo] at hR hsb hno hyes
   have hb5 := Lib.hid (hbel.out.alloc hwz (.cells #[.int .i64 (x0 : Int), .bool x1, .int .i64 (x2 : Int), .string x3] 36))
   have hkb5 := Lib.hid (hkb _ hb5.out)
   have hK5 := Lib.hid (hK.out.below ((Below.refl _ _).alloc (Nat.le_refl _) (.cells #[.int .i64 (x0 : Int), .bool x1, .int .i64 (x2 : Int), .string x3] 36)))
   have hX5 := Lib.hid (KBn.start wr 36 [.int .i64 (x0 : Int), .bool x1, .int .i64 (x2 : Int), .string x3])
   have hbl5 := Lib.hid (hbl.out.alloc (.cells #[.int .i64 (x0 : Int), .bool x1, .int .i64 (x2 : Int), .string x3] 36))
   replace hR := Lib.hid hR
   have hlt0 : (0 : Int) ≤ j := by omega
   have hlti : (j : Int) < n := by omega
   clear hbv hx0 hx1 hx2 hx3 hb hob hbo hlen hkb hbl hK hbel
   go_upto_region 5 with (fail)
   obtain ⟨w5, hw5⟩ : ∃ W, wr.alloc (.cells #[.int .i64 (x0 : Int), .bool x1, .int .i64 (x2 : Int), .string x3] 36) = W := ⟨_, rfl⟩
   rw [hw5] at hkb5 hb5 hK5 hX5 hbl5 ⊢
   clear hw5 p0 p1 p2 p3
   have q0 := hK5.out.c 0 _ rfl
   have q1 := hK5.out.c 1 _ rfl
   have q2 := hK5.out.c 2 _ rfl
   have q3 := hK5.out.c 3 _ rfl
   have q4 := hK5.out.c 4 _ rfl
   have q5 := hK5.out.c 5 _ rfl
   have y0 := hX5.out.c 0 _ rfl
   have y1 := hX5.out.c 1 _ rfl
   have y2 := hX5.out.c 2 _ rfl
   have y3 := hX5.out.c 3 _ rfl
   go_wp2_with fail
   refine hkb5.out.mono ?_
   rintro e w6 ⟨rfl, hb6⟩
   have hb6x := Lib.hid (hb5.out.trans (hb6.mono hb5.out.size))
   have hK6 := Lib.hid (hK5.out.below hb6)
   have hbl6 := Lib.hid (hbl5.out.below hb6)
   clear q0 q1 q2 q3 q4 q5 y0 y1 y2 y3 hkb5 hb5 hb6 hK5 hX5 hbl5
   rcases bo with _ | e
   ·obtain rfl : sb = false := hsb.symm
    have hn2 := Lib.hid (hno.out rfl)
    have hR2 : R = ⟨#[]⟩ := hR.out.symm
    subst hR2
    clear hno hyes
    go_wp2_with fail
    refine bodyPost_ret (v := .tuple #[.string ⟨#[]⟩, .bool false]) (by simp [results, Tryz.results56, go_sem]) rfl ?_
    exact ⟨by rw [hn2.out]; rfl, hb6x.out⟩
   ·obtain rfl : sb = true := hsb.symm
    have hn2 := Lib.hid (hyes.out e rfl)
    have hR2 : bsL e = R := hR.out
    have hW7 := Lib.hid (bldWrite _ _ (bsL D) (bsL e) _ hbl6.out (by have := hn2.out.2; rw [bsL_size, bsL_size]; omega))
    rw [bsL_append, hR2] at hW7
    clear hno hyes
    go_wp2_with fail
    refine hW7.out.mono ?_
    rintro e7 w7 ⟨rfl, hbld7, hb7⟩
    have hK7 := Lib.hid (hK6.out.under hb7 (Nat.lt_succ_self _))
    have hW8 := Lib.hid (hb6x.out.trans (hb7.mono (Nat.le_succ _)))
    clear hb7 hK6 hb6x hbl6 hW7
    go_wp2_with fail
    go_roundw
    case rel => exact ⟨j + 1, D ++ e, by omega, by go_num, Lib.hid hn2.out.1, Lib.hid hbld7, hK7, hW8⟩
    case measure => simp [intOf]; omega
  ·obtain rfl : j = n := by omega
   have hfin : k.datas bs = some D := by
    rw [← hD.out, List.take_of_length_le (by omega)]
   replace hfin := Lib.hid hfin
   have hS := Lib.hid (bldString _ _ _ _ hbl.out)
   clear hlen
   go_wp2_with fail
   refine hS.out.mono ?_
   rintro e w7 ⟨rfl, hb7⟩
   have hW8 := Lib.hid (hbel.out.trans (hb7.mono (Nat.le_succ _)))
   clear hb7
   go_wp2_with fail
   refine bodyPost_ret (v := .tuple #[.string (bsL D), .bool true]) (by simp [results, Tryz.results56, go_sem]) rfl ?_
   exact ⟨by rw [hfin.out]; rfl, hW8.out⟩

set_option maxHeartbeats 2000000 in
theorem implContainerData (o l m : Int) (d s : ByteArray) (w : World) (hd : d.size ≤ 1048576) (hs : s.size ≤ 1048576) :
  Calls Tryz.prog 16 #[.agg #[.int .i64 o, .int .i64 l, .int .i64 m], .string d, .string s] w fun e w' => e = .returned (.tuple #[.string (bsL ((contD o l m d.data.toList (contB s)).getD [])), .bool (contD o l m d.data.toList (contB s)).isSome]) ∧ Below w.heap.size w w' := by
 have hW0 := Lib.hid ((Below.refl w.heap.size w).alloc (Nat.le_refl _) (.cells #[.int .i64 o, .int .i64 l, .int .i64 m] 24))
 by_cases hf : dfits o l m d.data.toList
 ·obtain ⟨on, rfl⟩ : ∃ n : Nat, o = n := ⟨o.toNat, by have := hf.1.1; omega⟩
  obtain ⟨ln, rfl⟩ : ∃ n : Nat, l = n := ⟨l.toNat, by have := hf.1.2.1; omega⟩
  obtain ⟨mn, rfl⟩ : ∃ n : Nat, m = n := ⟨m.toNat, by have := hf.1.2; omega⟩
  have HS := fun W => implStartWithYes on ln mn d.data.toList W hf
  have hbd : bsL d.data.toList = d := rfl
  rw [hbd] at HS
  have hfr := (Kn.dict_fresh hf).1
  have hcd : ∀ ob, contD on ln mn d.data.toList ob = match ob with | some bs => (Kn.dict on ln mn d.data.toList).datas bs | none => none := fun ob => by
   cases ob with
   | none => rfl
   | some bs =>
    show (if _ then _ else _) = _
    rw [if_pos hf]; rfl
  rw [hcd]
  obtain ⟨k, hk⟩ : ∃ k, Kn.dict on ln mn d.data.toList = k := ⟨_, rfl⟩
  rw [hk] at HS hfr ⊢
  have hval := Kn.val_eq k
  rcases hbs : contB s with _ | bs
  ·have HB := Lib.hid (fun W => implContainerBlocksNo s W hs hbs)
   simp only [hval] at HS
   replace HS := Lib.hid HS
   clear hcd hk hbs hval hfr hf hbd
   go_enter Tryz.func16, Tryz.ntmps16
   go_wp2_with fail
   refine (HS.out _).mono ?_
   rintro e w1 ⟨A1, c1, rfl, hnew, hcp, hb1⟩
   have hW1 := Lib.hid ((hW0.out.trans (hb1.mono hW0.out.size)).alloc (hW0.out.trans (hb1.mono hW0.out.size)).size (.cells #[.int .i64 (k.o : Int), .int .i64 (k.l : Int), .int .i64 (k.m : Int), .slice A1 k.ps.length c1, .int .i64 (k.base : Int), .int .i64 k.lastI] 74))
   clear hb1 hnew hcp
   go_wp2_with fail
   refine (HB.out _).mono ?_
   rintro e w2 ⟨A2, c2, rfl, _, hb2⟩
   have hW2 := Lib.hid (hW1.out.trans (hb2.mono hW1.out.size))
   clear hb2 hW1
   go_wp2_with fail
   refine bodyPost_ret (v := .tuple #[.string ⟨#[]⟩, .bool false]) (by simp [results, Tryz.results16, go_sem]) rfl ?_
   exact ⟨rfl, hW2.out⟩
  ·obtain ⟨n, hn⟩ : ∃ n, bs.length = n := ⟨_, rfl⟩
   have HB := Lib.hid (fun W => implContainerBlocksYes s bs n W hs hbs hn)
   have hnum := contB_numbered hbs
   have hn40 := hnum.length
   rw [hn] at hn40
   have hok : ∀ b ∈ bs, b.okb := fun b hb => Blk.okb_of (hnum.of_mem hb)
   have hz := szs_le (fun b hm => hnum.of_mem hm)
   rw [hn] at hz
   have HD := fun (A : Option Addr) (c : Nat) (Ab : Option Addr) (cb : Nat) (W : World) (hA : k.At W W.heap.size A) (hr : Row W W.heap.size 4 Ab n (cellsB bs)) => implBlocksData k A c W.heap.size Ab n cb W.heap.size bs W hfr hA (Nat.le_refl _) hr (Nat.le_refl _) (by omega) hok (by omega)
   simp only
   obtain ⟨R, hR⟩ : ∃ R, bsL ((k.datas bs).getD []) = R := ⟨_, rfl⟩
   obtain ⟨q, hq⟩ : ∃ q, (k.datas bs).isSome = q := ⟨_, rfl⟩
   rw [hR, hq] at HD ⊢
   simp only [hval] at HS HD
   replace HS := Lib.hid HS
   replace HD := Lib.hid HD
   clear hcd hk hbs hval hfr hf hbd hR hq hok hz hnum hn hn40
   go_enter Tryz.func16, Tryz.ntmps16
   go_wp2_with fail
   refine (HS.out _).mono ?_
   rintro e w1 ⟨A1, c1, rfl, hnew, hcp, hb1⟩
   have hal : Below w1.heap.size w1 (w1.alloc (.cells #[.int .i64 (k.o : Int), .int .i64 (k.l : Int), .int .i64 (k.m : Int), .slice A1 k.ps.length c1, .int .i64 (k.base : Int), .int .i64 k.lastI] 74)) := (Below.refl _ _).alloc (Nat.le_refl _) _
   have hrow := Lib.hid (hnew.below hal).row
   have hkb := Lib.hid (KBn.start w1 74 [.int .i64 (k.o : Int), .int .i64 (k.l : Int), .int .i64 (k.m : Int), .slice A1 k.ps.length c1, .int .i64 (k.base : Int), .int .i64 k.lastI])
   have hW1 := Lib.hid ((hW0.out.trans (hb1.mono hW0.out.size)).alloc (hW0.out.trans (hb1.mono hW0.out.size)).size (.cells #[.int .i64 (k.o : Int), .int .i64 (k.l : Int), .int .i64 (k.m : Int), .slice A1 k.ps.length c1, .int .i64 (k.base : Int), .int .i64 k.lastI] 74))
   clear hb1 hW0 hnew hal hcp
   go_wp2_with fail
   refine (HB.out _).mono ?_
   rintro e w2 ⟨A2, c2, rfl, ho2, hb2⟩
   have hr2 := Lib.hid (Row.of_own ho2)
   have hA2 := Lib.hid (show k.At w2 w2.heap.size A1 from Row.more (Row.below hrow.out hb2 (Nat.le_refl _)) hb2.size)
   have hkb2 := hkb.out.below hb2
   have hW2 := Lib.hid (hW1.out.trans (hb2.mono hW1.out.size))
   have hD2 := Lib.hid (HD.out A1 c1 A2 c2 w2 hA2.out hr2.out)
   have q0 := hkb2.c 0 _ rfl
   have q1 := hkb2.c 1 _ rfl
   have q2 := hkb2.c 2 _ rfl
   have q3 := hkb2.c 3 _ rfl
   have q4 := hkb2.c 4 _ rfl
   have q5 := hkb2.c 5 _ rfl
   clear hb2 ho2 hrow hkb hkb2 hW1 hr2 hA2 HD
   go_wp2_with fail
   refine hD2.out.mono ?_
   rintro e w3 ⟨rfl, hb3⟩
   have hW3 := Lib.hid (hW2.out.trans (hb3.mono hW2.out.size))
   clear hb3 hD2 hW2 q0 q1 q2 q3 q4 q5
   go_wp2_with fail
   refine bodyPost_ret (v := .tuple #[.string R, .bool q]) (by simp [results, Tryz.results16, go_sem]) rfl ?_
   exact ⟨rfl, hW3.out⟩
 ·have HS := Lib.hid (fun W => implStartWithNo o l m d W hd hf)
  have hA : contD o l m d.data.toList (contB s) = none := by
   unfold contD
   split
   ·rw [if_neg hf]
   ·rfl
  rw [hA]
  clear hA hf
  go_enter Tryz.func16, Tryz.ntmps16
  go_wp2_with fail
  refine (HS.out _).mono ?_
  rintro e w1 ⟨rfl, hb1⟩
  have hW1 := Lib.hid ((hW0.out.trans (hb1.mono hW0.out.size)).alloc (hW0.out.trans (hb1.mono hW0.out.size)).size (.cells #[.int .i64 0, .int .i64 0, .int .i64 0, .slice none 0 0, .int .i64 0, .int .i64 0] 74))
  clear hb1
  go_wp2_with fail
  refine bodyPost_ret (v := .tuple #[.string ⟨#[]⟩, .bool false]) (by simp [results, Tryz.results16, go_sem]) rfl ?_
  exact ⟨rfl, hW1.out⟩

theorem conts_szs2 {s : ByteArray} {bs : List Blk} (hc : contB s = some bs) : szs bs ≤ 2560 := by
 have h1 := szs_le (fun b hm => (contB_numbered hc).of_mem hm)
 have h2 := (contB_numbered hc).length
 omega

set_option maxHeartbeats 4000000 in
theorem specL5RangeC (g P : Nat) (z : Int) (w : World) (h : RdAt w g P) (hP : P ≤ 700000) (hz5 : -1 ≤ z ∧ z ≤ 5000) :
  Calls Tryz.prog 77 #[.pointer (some ⟨g, 0, none⟩), .int .i64 z] w (RangeB g (P + 4) w) := by
 have hg := h.lt
 obtain ⟨n, hmx⟩ : ∃ n : Nat, max z 0 = (n : Int) := ⟨z.toNat, by omega⟩
 have hn : n ≤ 5000 := by omega
 obtain ⟨z1, hz1⟩ : ∃ x : Int, z + 1 = x := ⟨_, rfl⟩
 have wz1 : IntKind.i64.wrap z1 = z1 := IntWalk.i64_in _ (by omega)
 obtain ⟨n1, hn1⟩ : ∃ x : Nat, (n : Int) + 1 = x := ⟨n + 1, by omega⟩
 go_enter Tryz.func77, Tryz.ntmps77
 go_wp2_with fail
 refine (specPick g P n1 _ h (by omega) (by omega) (by omega)).mono ?_
 rintro e w1 ⟨r, rfl, hr, _, hd1⟩
 have hrn : r ≤ n := by omega
 obtain ⟨m, hm⟩ : ∃ x : Nat, (n : Int) - r = x := ⟨n - r, by omega⟩
 obtain ⟨m1, hm1⟩ : ∃ x : Nat, (m : Int) + 1 = x := ⟨m + 1, by omega⟩
 clear hr
 go_wp2_with fail
 refine (specPick g (P + 1) m1 _ hd1.rd (by omega) (by omega) (by omega)).mono ?_
 rintro e w2 ⟨r2, rfl, hr2, _, hd2⟩
 obtain ⟨k, hk⟩ : ∃ x : Nat, (r : Int) + r2 = x := ⟨r + r2, by omega⟩
 have hkb : k ≤ 6000 := by omega
 have hd2' := hd1.trans hd2
 have hz2 := hd2'.size
 clear hr2 hd1 hd2
 go_wp2_with fail
 refine (specPick g (P + 2) 20 _ hd2'.rd (by omega) (by omega) (by omega)).mono ?_
 rintro e w3 ⟨c, rfl, hc, _, hd3⟩
 have hd3' := hd2'.trans hd3
 have hz3 := hd3'.size
 clear hc hd2' hd3
 by_cases c0 : c = 0
 ·subst c0
  go_wp2_with fail
  refine (specNum g (P + 3) w3.heap.size [-1, 9223372036854775807] 2 2 _ (hd3'.rd.alloc _) (by omega) rfl (by omega) (by omega) (fun j z hz => new_cell _ _ rfl _ ([-1, 9223372036854775807].map (Value.int .i64)) j _ (by rw [List.getElem?_map, hz]; rfl)) (by omega) (by simp)).mono ?_
  rintro e w4 ⟨z, hz, rfl, hd4⟩
  have hz' := Lib.hid (in3 hz)
  clear hz
  go_wp2_with fail
  go_returns
  exact ⟨_, _, rfl, by rcases hz'.out with rfl | rfl <;> omega, by omega, ((hd3'.alloc _).trans hd4).more (by omega)⟩
 ·by_cases c1 : c = 1
  ·subst c1
   go_wp2_with fail
   refine (specNum g (P + 3) w3.heap.size [-1, z1, 9223372036854775807] 3 3 _ (hd3'.rd.alloc _) (by omega) rfl (by omega) (by omega) (fun j z hz => new_cell _ _ rfl _ ([-1, z1, 9223372036854775807].map (Value.int .i64)) j _ (by rw [List.getElem?_map, hz]; rfl)) (by omega) (by simp)).mono ?_
   rintro e w4 ⟨z, hz, rfl, hd4⟩
   have hz' := Lib.hid (in4 hz)
   clear hz
   go_wp2_with fail
   go_returns
   exact ⟨_, _, rfl, by omega, by rcases hz'.out with rfl | rfl | rfl <;> omega, ((hd3'.alloc _).trans hd4).more (by omega)⟩
  ·by_cases c2 : c = 2
   ·subst c2
    go_wp2_with fail
    go_returns
    exact ⟨_, _, rfl, by omega, by omega, hd3'.more (by omega)⟩
   ·go_wp2_with fail
    go_returns
    exact ⟨_, _, rfl, by omega, by omega, hd3'.more (by omega)⟩

def sizeI : Option (List Blk) → Int
 | some bs => (szs bs : Int)
 | none => -1

theorem sizeI_le {s : ByteArray} : -1 ≤ sizeI (contB s) ∧ sizeI (contB s) ≤ 5000 := by
 rcases h : contB s with _ | bs
 ·exact ⟨Int.le_refl _, by decide⟩
 ·have := conts_szs2 h
  show -1 ≤ (szs bs : Int) ∧ (szs bs : Int) ≤ 5000
  omega

theorem specContainerSize (s : ByteArray) (w : World) (hs : s.size ≤ 1048576) :
  Calls Tryz.prog 78 #[.string s] w fun e w' => e = .returned (.int .i64 (sizeI (contB s))) ∧ Below w.heap.size w w' := by
 rcases h : contB s with _ | bs
 ·have H1 := Lib.hid (fun W => specL5BlocksNo s W hs h)
  have hA : sizeI none = -1 := rfl
  rw [hA]
  clear h hA
  go_enter Tryz.func78, Tryz.ntmps78
  go_wp2_with fail
  refine (H1.out _).mono ?_
  rintro e w1 ⟨A1, c1, rfl, _, hb1⟩
  go_wp2_with fail
  go_ret
  exact ⟨rfl, hb1⟩
 ·have hz := conts_szs2 h
  have h40 := (contB_numbered h).length
  obtain ⟨n, hn⟩ : ∃ n, bs.length = n := ⟨_, rfl⟩
  have H1 := Lib.hid (fun W => specL5BlocksYes s bs n W hs h hn)
  have HZ := fun A c W (hr : Row W W.heap.size 4 A n (cellsB bs)) => specL5Size A n c W.heap.size bs W hr (by omega) (by omega)
  have hA : sizeI (some bs) = (szs bs : Int) := rfl
  rw [hA]
  obtain ⟨z, hzz⟩ : ∃ z, szs bs = z := ⟨_, rfl⟩
  rw [hzz] at HZ ⊢
  replace HZ := Lib.hid HZ
  clear h hA hzz hz hn h40
  go_enter Tryz.func78, Tryz.ntmps78
  go_wp2_with fail
  refine (H1.out _).mono ?_
  rintro e w1 ⟨A1, c1, rfl, ho1, hb1⟩
  have hr := Lib.hid (Row.of_own ho1)
  clear ho1
  go_wp2_with fail
  refine (HZ.out _ _ _ hr.out).mono ?_
  rintro e w2 ⟨rfl, rfl⟩
  go_wp2_with fail
  go_ret
  exact ⟨rfl, hb1⟩

set_option maxHeartbeats 4000000 in
theorem specDrawReplaceRange (A : Option Addr) (n c : Nat) (bs : List UInt8) (w : World) (h : ByteRow w A n bs) (hnc : n ≤ c) :
  Calls Tryz.prog 30 #[.slice A n c] w (SetRep w) := by
 have hrow : ByteRow (w.alloc (.cells #[.int .i64 0, .int .i64 0, .int .i64 0] 24)) A n bs := h.below2 ((Below.refl _ _).alloc (Nat.le_refl _) _)
 have hW0 : Below w.heap.size w (w.alloc (.cells #[.int .i64 0, .int .i64 0, .int .i64 0] 24)) := (Below.refl w.heap.size w).alloc (Nat.le_refl _) _
 have zb0 := KBn.start w 24 [.int .i64 0, .int .i64 0, .int .i64 0]
 have hz0 : (w.alloc (.cells #[.int .i64 0, .int .i64 0, .int .i64 0] 24)).heap.size = w.heap.size + 1 := World.size_alloc ..
 go_enter Tryz.func30, Tryz.ntmps30
 go_upto_region 1 with (fail)
 obtain ⟨H, hH⟩ : ∃ H, w.heap.size = H := ⟨_, rfl⟩
 obtain ⟨w0, hw0⟩ : ∃ W, w.alloc (.cells #[.int .i64 0, .int .i64 0, .int .i64 0] 24) = W := ⟨_, rfl⟩
 change KBn (w.alloc (.cells #[.int .i64 0, .int .i64 0, .int .i64 0] 24)) _ _ at zb0
 rw [hw0] at hrow hW0 zb0 hz0 ⊢
 rw [hH] at zb0 hz0 ⊢
 clear hw0 h
 go_wp2_with fail
 refine (specL9Open A n c bs _ hrow hnc).mono ?_
 rintro e w1 ⟨rfl, hrd, hb1⟩
 have zb1 := zb0.below hb1
 have hW1 := hW0.trans (hb1.mono hW0.size)
 obtain ⟨g, hg⟩ : ∃ g, w0.heap.size = g := ⟨_, rfl⟩
 rw [hg] at hrd ⊢
 have hHg : H ≠ g := by omega
 have hwg : w.heap.size ≤ g := by omega
 have hwH : w.heap.size ≤ H := by omega
 have hglt := hrd.lt
 replace hW1 := Lib.hid hW1
 clear hb1 zb0 hW0 hrow hg hz0 hH
 go_wp2_with fail
 refine (specL5Some g 0 _ hrd (by omega)).mono ?_
 rintro e w2 ⟨o, l, m, d, s, rfl, ho, hl1, hl8, hlm, hm, hd, hs, hd2⟩
 have zb2 := (zb1.dr hd2 hHg).alloc (.cells #[.int .i64 (o : Int), .int .i64 (l : Int), .int .i64 (m : Int)] 24)
 have sb2 := KBn.start w2 24 [.int .i64 (o : Int), .int .i64 (l : Int), .int .i64 (m : Int)]
 change KBn (w2.alloc (.cells #[.int .i64 (o : Int), .int .i64 (l : Int), .int .i64 (m : Int)] 24)) _ _ at sb2
 have D2 := hd2.alloc (.cells #[.int .i64 (o : Int), .int .i64 (l : Int), .int .i64 (m : Int)] 24)
 have hbg' : w2.heap.size ≠ g := by have := hd2.size; omega
 clear hd2 hrd zb1
 go_upto_region 3 with (fail)
 obtain ⟨b, hb⟩ : ∃ b, w2.heap.size = b := ⟨_, rfl⟩
 obtain ⟨w3, hw3⟩ : ∃ W, w2.alloc (.cells #[.int .i64 (o : Int), .int .i64 (l : Int), .int .i64 (m : Int)] 24) = W := ⟨_, rfl⟩
 rw [hw3] at zb2 sb2 D2 ⊢
 rw [hb] at sb2 hbg' ⊢
 clear hw3 hb
 have zb3 := Lib.hid zb2
 have sb3 := Lib.hid sb2
 have D3 := Lib.hid D2
 clear zb2 sb2 D2
 have hCz := sizeI_le (s := s)
 have HCS := fun W => specContainerSize s W (by omega)
 obtain ⟨cz, hcz⟩ : ∃ z, sizeI (contB s) = z := ⟨_, rfl⟩
 rw [hcz] at HCS hCz
 replace HCS := Lib.hid HCS
 clear hcz
 go_wp2_with fail
 refine (HCS.out _).mono ?_
 rintro e w4 ⟨rfl, hb4⟩
 have zb4 := Lib.hid (zb3.out.below hb4)
 have sb4 := Lib.hid (sb3.out.below hb4)
 have D4 := Lib.hid (D3.out.then_below hb4)
 clear hb4 zb3 sb3 D3
 go_wp2_with fail
 refine (specL5RangeC g 2000 cz _ (D4.out.rd.more (by omega)) (by omega) hCz).mono ?_
 rintro e w5 ⟨f, t, rfl, hf, ht, hd5⟩
 have zb5 := Lib.hid (zb4.out.dr hd5 hHg)
 have sb5 := Lib.hid (sb4.out.dr hd5 hbg')
 have D5 := Lib.hid (D4.out.trans hd5)
 replace hf := Lib.hid hf
 replace ht := Lib.hid ht
 clear hd5 zb4 sb4 D4
 have q0 := sb5.out.c 0 _ rfl
 have q1 := sb5.out.c 1 _ rfl
 have q2 := sb5.out.c 2 _ rfl
 go_wp2_with fail
 refine (specL5Wild g 2010 o l m 20 _ (D5.out.rd.more (by omega)) (by omega) hl1 hl8 (by omega)).mono ?_
 rintro e w6 ⟨dat, rfl, hdat, hd6⟩
 have zb6 := Lib.hid (zb5.out.dr hd6 hHg)
 have sb6 := Lib.hid (sb5.out.dr hd6 hbg')
 have D6 := Lib.hid (D5.out.trans hd6)
 clear q0 q1 q2
 clear hd6 zb5 sb5 D5
 have q0 := sb6.out.c 0 _ rfl
 have q1 := sb6.out.c 1 _ rfl
 have q2 := sb6.out.c 2 _ rfl
 go_wp2_with fail
 refine (specL1Bad g 3200 o l m _ (D6.out.rd.more (by omega)) (by omega) hl8).mono ?_
 rintro e w7 ⟨o2, l2, m2, rfl, hd7⟩
 have zb7 := Lib.hid (zb6.out.dr hd7 hHg)
 have sb7 := Lib.hid (sb6.out.dr hd7 hbg')
 have D7 := Lib.hid (D6.out.trans hd7)
 clear q0 q1 q2
 clear hd7 zb6 sb6 D6
 go_wp2_with fail
 refine (specL5Bad g 3210 s _ (D7.out.rd.more (by omega)) (by omega) (by omega)).mono ?_
 rintro e w8 ⟨s2, rfl, hs2, hd8⟩
 have zb8 := Lib.hid (zb7.out.dr hd8 hHg)
 have sb8 := Lib.hid (sb7.out.dr hd8 hbg')
 have D8 := Lib.hid (D7.out.trans hd8)
 clear hd8 zb7 sb7 D7
 go_wp2_with fail
 refine (specL6Size g 3220 _ (D8.out.rd.more (by omega)) (by omega)).mono ?_
 rintro e w9 ⟨z, rfl, hz, hd9⟩
 have zb9 := Lib.hid (zb8.out.dr hd9 hHg)
 have sb9 := Lib.hid (sb8.out.dr hd9 hbg')
 have D9 := Lib.hid (D8.out.trans hd9)
 replace hz := Lib.hid hz
 clear hd9 zb8 sb8 D8
 have zz := zb9.out
 have r0 := zz.c 0 _ rfl
 have r1 := zz.c 1 _ rfl
 have r2 := zz.c 2 _ rfl
 have y0 := zz.f 0 _ rfl
 have y1 := zz.f 1 _ rfl
 have y2 := zz.f 2 _ rfl
 have hfin := Lib.hid (below_set3 (hW1.out.trans (D9.out.below (C := w.heap.size) hwg hglt)) hwH (.int .i64 o2) (.int .i64 l2) (.int .i64 m2))
 clear zz zb9 sb9 D9
 go_wp2_with fail
 refine bodyPost_ret (v := .tuple #[.agg #[.int .i64 o2, .int .i64 l2, .int .i64 m2], .string d, .string s2, .int .i64 f, .int .i64 t, .string dat, .int .i64 z]) (by simp [results, Tryz.results30, go_sem, r0, r1, r2]) rfl ?_
 exact ⟨_, _, _, _, _, _, _, _, _, rfl, by omega, by omega, hf.out, ht.out, by omega, hz.out, hfin.out⟩

end Go.Proofs.YthlgpgaeajfchaaGreat

