/-
 The reference's InsertData and DeleteRange.
-/
import Derived.Test.YthlgpgaeajfchaaGreatQMergeP
import Derived.Test.YthlgpgaeajfchaaGreatQEditP
import Derived.Test.YthlgpgaeajfchaaGreatQCutSpec
import Derived.Test.YthlgpgaeajfchaaGreatQEdits
import Derived.Test.YthlgpgaeajfchaaGreatQHeldTail
import Derived.Test.YthlgpgaeajfchaaGreatQTreeMem

namespace Go.Proofs.YthlgpgaeajfchaaGreat
open Go.RowKit
set_option linter.unusedVariables false
set_option linter.unusedSimpArgs false
set_option maxRecDepth 100000

set_option maxHeartbeats 4000000 in
theorem specReplaceRange (o l m : Int) (d s U : ByteArray) (f t size : Int) (w : World) (hd : d.size ≤ 1048576) (hs : s.size ≤ 1048576) (hU : U.size ≤ 1048576) :
  Calls Tryz.prog 32 #[.agg #[.int .i64 o, .int .i64 l, .int .i64 m], .string d, .string s, .int .i64 f, .int .i64 t, .string U, .int .i64 size] w fun e w' => e = .returned (optV (replC o l m d.data.toList (contB s) f t U.data.toList size)) ∧ Below w.heap.size w w' := by
 have hW0 := Lib.hid ((Below.refl w.heap.size w).alloc (Nat.le_refl _) (.cells #[.int .i64 o, .int .i64 l, .int .i64 m] 24))
 have kb0 := Lib.hid (KBn.start w 24 [.int .i64 o, .int .i64 l, .int .i64 m])
 have hUs : U.data.toList.length = U.size := by simp
 rcases hbs : contB s with _ | bs
 ·have HS := Lib.hid (fun W => specL5BlocksNo s W hs hbs)
  have hA : replC o l m d.data.toList none f t U.data.toList size = none := rfl
  rw [hA]
  clear hbs hA hUs
  go_enter Tryz.func32, Tryz.ntmps32
  go_wp2_with fail
  refine (HS.out _).mono ?_
  rintro e w1 ⟨A1, c1, rfl, _, hb1⟩
  have hW1 := Lib.hid (hW0.out.trans (hb1.mono hW0.out.size))
  clear hb1
  go_wp2_with fail
  go_ret2
  exact ⟨rfl, hW1.out⟩
 ·obtain ⟨n, hn⟩ : ∃ n, bs.length = n := ⟨_, rfl⟩
  have HS := Lib.hid (fun W => specL5BlocksYes s bs n W hs hbs hn)
  have hnum := contB_numbered hbs
  have hn40 := hnum.length
  rw [hn] at hn40
  have hok : ∀ b ∈ bs, b.okb := fun b hb => Blk.okb_of (hnum.of_mem hb)
  have hz := szs_le (fun b hm => hnum.of_mem hm)
  have hz2 : szs bs ≤ 2000 := conts_szs hbs
  rw [hn] at hz
  by_cases hroom : dfits o l m d.data.toList ∧ (1 ≤ size ∧ size ≤ 64)
  ·obtain ⟨hf, hsz⟩ := hroom
   have HR := Lib.hid (fun W => specL6Room o l m size d true W hd (btrue ⟨hf, hsz⟩))
   obtain ⟨on, rfl⟩ : ∃ n : Nat, o = n := ⟨o.toNat, by have := hf.1.1; omega⟩
   obtain ⟨ln, rfl⟩ : ∃ n : Nat, l = n := ⟨l.toNat, by have := hf.1.2.1; omega⟩
   obtain ⟨mn, rfl⟩ : ∃ n : Nat, m = n := ⟨m.toNat, by have := hf.1.2; omega⟩
   obtain ⟨sz, rfl⟩ : ∃ n : Nat, size = n := ⟨size.toNat, by omega⟩
   have HZ := fun A c W (hr : Row W W.heap.size 4 A n (cellsB bs)) => specL5Size A n c W.heap.size bs W hr (by omega) (by omega)
   obtain ⟨z, hzz⟩ : ∃ z, szs bs = z := ⟨_, rfl⟩
   rw [hzz] at HZ hz hz2
   by_cases hrg : 0 ≤ f ∧ f ≤ t ∧ t ≤ (z : Int)
   ·have HG := Lib.hid (fun W => specL6Range f t (z : Int) true W (btrue hrg))
    obtain ⟨fn, rfl⟩ : ∃ n : Nat, f = n := ⟨f.toNat, by omega⟩
    obtain ⟨tn, rfl⟩ : ∃ n : Nat, t = n := ⟨t.toNat, by omega⟩
    by_cases hmany : U.size ≤ 2000 ∧ (U.size : Int) ≤ 40 * (sz : Int)
    ·have HMy := Lib.hid (fun W => specL6Many sz U false W hU (by omega) (bfalse (fun hh => hh hmany)))
     have hr : roomy U.data.toList.length (sz : Int) := ⟨hsz, by rw [hUs]; exact hmany⟩
     have hA := replC_yes (bs := bs) (f := fn) (t := tn) (L := U.data.toList) ⟨⟨hf, by rw [hzz]; exact hrg⟩, hr⟩
     rw [hA]
     have hval := (Kn.dict_fresh hf).1.val
     have hbd : bsL d.data.toList = d := rfl
     have hbU : bsL U.data.toList = U := rfl
     have HC1 := fun A c W (hr : Row W W.heap.size 4 A n (cellsB bs)) => specL6Cut on ln mn 0 fn d.data.toList A n c W.heap.size bs W hf hr (Nat.le_refl _) (by omega) hok (by omega) (by omega)
     have HC2 := fun A c W (hr : Row W W.heap.size 4 A n (cellsB bs)) => specL6Cut on ln mn tn z d.data.toList A n c W.heap.size bs W hf hr (Nat.le_refl _) (by omega) hok (by omega) (by omega)
     have HL := fun W => specL6Split on ln mn sz d.data.toList U.data.toList W hf hr.2.1 (by omega) (by omega)
     simp only [hbd, hbU, Int.natCast_zero] at HC1 HC2 HL
     have hB : replB (Kn.dict on ln mn d.data.toList) fn tn sz U.data.toList bs = match (Kn.dict on ln mn d.data.toList).cut 0 fn 0 bs, (Kn.dict on ln mn d.data.toList).cut tn z 0 bs with
      | some x, some y => some (x ++ (Kn.dict on ln mn d.data.toList).split sz U.data.toList ++ y)
      | _, _ => none := by rw [← hzz]; rfl
     rw [hB]
     have HM0 : ∀ x y, (Kn.dict on ln mn d.data.toList).cut 0 fn 0 bs = some x → (Kn.dict on ln mn d.data.toList).cut tn z 0 bs = some y → (x.length ≤ 40 ∧ y.length ≤ 40 ∧ ((Kn.dict on ln mn d.data.toList).split sz U.data.toList).length ≤ 40) ∧ ∀ A c W N, N = x.length + ((Kn.dict on ln mn d.data.toList).split sz U.data.toList).length + y.length → Row W W.heap.size 4 A N (cellsB (x ++ (Kn.dict on ln mn d.data.toList).split sz U.data.toList ++ y)) → Calls Tryz.prog 67 #[.slice A N c] W fun e w' => e = .returned (optV (mkC (x ++ (Kn.dict on ln mn d.data.toList).split sz U.data.toList ++ y))) ∧ Below W.heap.size W w' := fun x y hx hy => by
      have hh := repl_ok hval hr hok (by omega) (by omega) hx (by rw [hzz]; exact hy)
      refine ⟨hh.2.2, fun A c W N hN hrow => specL6Result A N c W.heap.size _ W hrow (Nat.le_refl _) (by omega) hh.2.1 hh.1⟩
     obtain ⟨u1, hu1⟩ : ∃ u, (Kn.dict on ln mn d.data.toList).cut 0 fn 0 bs = u := ⟨_, rfl⟩
     obtain ⟨u2, hu2⟩ : ∃ u, (Kn.dict on ln mn d.data.toList).cut tn z 0 bs = u := ⟨_, rfl⟩
     obtain ⟨sp, hsp⟩ : ∃ sp, (Kn.dict on ln mn d.data.toList).split sz U.data.toList = sp := ⟨_, rfl⟩
     rw [hu1] at HC1 HM0 ⊢
     rw [hu2] at HC2 HM0 ⊢
     rw [hsp] at HL HM0 ⊢
     obtain ⟨q, hq⟩ : ∃ q, sp.length = q := ⟨_, rfl⟩
     rw [hq] at HL HM0
     replace HZ := Lib.hid HZ
     replace HC1 := Lib.hid HC1
     replace HC2 := Lib.hid HC2
     replace HL := Lib.hid HL
     replace HM0 := Lib.hid HM0
     clear hbs hnum hok hf hn hbd hbU hval hu1 hu2 hsp hq hA hB hrg hzz hmany hUs hsz hr
     go_enter Tryz.func32, Tryz.ntmps32
     go_wp2_with fail
     refine (HS.out _).mono ?_
     rintro e w1 ⟨A1, c1, rfl, ho1, hb1⟩
     have hr1 := Lib.hid (Row.of_own ho1)
     have hW1 := Lib.hid (hW0.out.trans (hb1.mono hW0.out.size))
     have kb1 := Lib.hid (kb0.out.below hb1)
     clear hb1 ho1 kb0 hW0
     have q0 := kb1.out.c 0 _ rfl
     have q1 := kb1.out.c 1 _ rfl
     have q2 := kb1.out.c 2 _ rfl
     go_wp2_with fail
     refine (HR.out _).mono ?_
     rintro e w2 ⟨rfl, hb2⟩
     have hr2 := Lib.hid (Row.more (Row.below hr1.out hb2 (Nat.le_refl _)) hb2.size)
     have hW2 := Lib.hid (hW1.out.trans (hb2.mono hW1.out.size))
     have kb2 := Lib.hid (kb1.out.below hb2)
     clear hb2 hr1 hW1 kb1 q0 q1 q2
     go_wp2_with fail
     refine (HZ.out _ _ _ hr2.out).mono ?_
     rintro e w3 ⟨rfl, rfl⟩
     go_wp2_with fail
     refine (HG.out _).mono ?_
     rintro e w3 ⟨rfl, rfl⟩
     go_wp2_with fail
     refine (HMy.out _).mono ?_
     rintro e w3 ⟨rfl, rfl⟩
     have q0 := kb2.out.c 0 _ rfl
     have q1 := kb2.out.c 1 _ rfl
     have q2 := kb2.out.c 2 _ rfl
     go_wp2_with fail
     refine (HC1.out _ _ _ hr2.out).mono ?_
     rintro e w4 ⟨A4, n4, c4, rfl, hcut4, hb4⟩
     have hr4 := Lib.hid (Row.more (Row.below hr2.out hb4 (Nat.le_refl _)) hb4.size)
     have hW4 := Lib.hid (hW2.out.trans (hb4.mono hW2.out.size))
     have kb4 := Lib.hid (kb2.out.below hb4)
     replace hcut4 := Lib.hid hcut4
     have hz4 := hb4.size
     have hwB := hW2.out.size
     clear hb4 hr2 hW2 kb2 q0 q1 q2
     go_upto_region 5 with (fail)
     have hSX : Hid (∀ W, Below w4.heap.size w4 W → W.cell? ⟨w.heap.size, 0, none⟩ = some (.int .i64 (on : Int)) ∧ W.cell? ⟨w.heap.size, 1, none⟩ = some (.int .i64 (ln : Int)) ∧ W.cell? ⟨w.heap.size, 2, none⟩ = some (.int .i64 (mn : Int))) := Lib.hid (fun W hW => by
      have kx := kb4.out.below hW
      exact ⟨kx.c 0 _ rfl, kx.c 1 _ rfl, kx.c 2 _ rfl⟩)
     refine wp_region_held_tail (S := fun W => W.cell? ⟨w.heap.size, 0, none⟩ = some (.int .i64 (on : Int)) ∧ W.cell? ⟨w.heap.size, 1, none⟩ = some (.int .i64 (ln : Int)) ∧ W.cell? ⟨w.heap.size, 2, none⟩ = some (.int .i64 (mn : Int))) 11 (by kernel_rfl) (by kernel_rfl) (hSX.out _ (Below.refl _ _).drew) (fun hS => ?_)
     have hb5 := Lib.hid ((Below.refl w4.heap.size w4).drew)
     have hr5 := Lib.hid (Row.more (Row.below hr4.out hb5.out (Nat.le_refl _)) hb5.out.size)
     refine heldAny_take (i := 0) (v := ?_) rfl (by kernel_rfl) (by kernel_rfl) (by kernel_rfl) (by kernel_rfl) (fun _ _ _ h => h) (Or.inl ⟨by rfl, ?_⟩) (by assumption) ?_
     rotate_left
     ·(intro wS hSw; (try dsimp only at hSw); go_split_ands; go_simp; all_goals with_reducible rfl)
     try simp only [Act.put]
     refine heldAny_take (i := 1) (v := ?_) rfl (by kernel_rfl) (by kernel_rfl) (by kernel_rfl) (by kernel_rfl) (fun _ _ _ h => h) (Or.inl ⟨by rfl, ?_⟩) (by assumption) ?_
     rotate_left
     ·(intro wS hSw; (try dsimp only at hSw); go_split_ands; go_simp; all_goals with_reducible rfl)
     try simp only [Act.put]
     refine heldAny_take (i := 2) (v := ?_) rfl (by kernel_rfl) (by kernel_rfl) (by kernel_rfl) (by kernel_rfl) (fun _ _ _ h => h) (Or.inl ⟨by rfl, ?_⟩) (by assumption) ?_
     rotate_left
     ·(intro wS hSw; (try dsimp only at hSw); go_split_ands; go_simp; all_goals with_reducible rfl)
     try simp only [Act.put]
     refine heldAny_take (i := 3) (v := ?_) rfl (by kernel_rfl) (by kernel_rfl) (by kernel_rfl) (by kernel_rfl) (fun _ _ _ h => h) (Or.inl ⟨by rfl, ?_⟩) (by assumption) ?_
     rotate_left
     ·(intro wS hSw; (try dsimp only at hSw); go_split_ands; go_simp; all_goals with_reducible rfl)
     try simp only [Act.put]
     refine heldAny_take (i := 4) (v := ?_) rfl (by kernel_rfl) (by kernel_rfl) (by kernel_rfl) (by kernel_rfl) (fun _ _ _ h => h) (Or.inl ⟨by rfl, ?_⟩) (by assumption) ?_
     rotate_left
     ·(intro wS hSw; (try dsimp only at hSw); go_split_ands; go_simp; all_goals with_reducible rfl)
     try simp only [Act.put]
     refine heldAny_one (i := 5) rfl (by kernel_rfl) (by kernel_rfl) (fun K hK => ?_)
     go_simp
     go_at_call 74
     refine (HZ.out _ _ _ hr5.out).mono ?_
     rintro e w5 ⟨rfl, rfl⟩
     refine hK.out _ _ (hSX.out _ hb5.out) (fun hS => ?_)
     try simp only [Act.put]
     clear hK K
     refine heldAny_one (i := 6) rfl (by kernel_rfl) (by kernel_rfl) (fun K hK => ?_)
     go_simp
     go_at_call 75
     refine (HC2.out _ _ _ hr5.out).mono ?_
     rintro e w6 ⟨A6, n6, c6, rfl, hcut6, hb6⟩
     have hb6x := Lib.hid (hb5.out.trans (hb6.mono hb5.out.size))
     refine hK.out _ _ (hSX.out _ hb6x.out) (fun hS => ?_)
     try simp only [Act.put]
     clear hK K
     refine heldAny_take (i := 7) (v := ?_) rfl (by kernel_rfl) (by kernel_rfl) (by kernel_rfl) (by kernel_rfl) (fun _ _ _ h => h) (Or.inl ⟨by rfl, ?_⟩) (by assumption) ?_
     rotate_left
     ·(intro wS hSw; (try dsimp only at hSw); go_split_ands; go_simp; all_goals with_reducible rfl)
     try simp only [Act.put]
     refine heldAny_take (i := 8) (v := ?_) rfl (by kernel_rfl) (by kernel_rfl) (by kernel_rfl) (by kernel_rfl) (fun _ _ _ h => h) (Or.inl ⟨by rfl, ?_⟩) (by assumption) ?_
     rotate_left
     ·(intro wS hSw; (try dsimp only at hSw); go_split_ands; go_simp; all_goals with_reducible rfl)
     try simp only [Act.put]
     refine heldAny_take (i := 9) (v := ?_) rfl (by kernel_rfl) (by kernel_rfl) (by kernel_rfl) (by kernel_rfl) (fun _ _ _ h => h) (Or.inl ⟨by rfl, ?_⟩) (by assumption) ?_
     rotate_left
     ·(intro wS hSw; (try dsimp only at hSw); go_split_ands; go_simp; all_goals with_reducible rfl)
     try simp only [Act.put]
     refine heldAny_take (i := 10) (v := ?_) rfl (by kernel_rfl) (by kernel_rfl) (by kernel_rfl) (by kernel_rfl) (fun _ _ _ h => h) (Or.inl ⟨by rfl, ?_⟩) (by assumption) ?_
     rotate_left
     ·(intro wS hSw; (try dsimp only at hSw); go_split_ands; go_simp; all_goals with_reducible rfl)
     try simp only [Act.put]
     refine heldAny_done (by kernel_rfl) ⟨by kernel_rfl, ?_⟩
     simp only [List.drop_succ_cons, List.drop_zero]
     have hW6 := Lib.hid (hW4.out.trans (hb6x.out.mono hW4.out.size))
     have q0 := (hSX.out _ hb6x.out).1
     have q1 := (hSX.out _ hb6x.out).2.1
     have q2 := (hSX.out _ hb6x.out).2.2
     replace hcut6 := Lib.hid hcut6
     clear hb6 hr4 hr5 hW4 kb4 hSX hb5
     rcases u1 with _ | x
     ·clear hcut4 hcut6 HM0 hb6x
      go_wp2_with fail
      go_ret2
      exact ⟨rfl, hW6.out⟩
     ·rcases u2 with _ | y
      ·clear hcut4 hcut6 HM0 hb6x
       go_wp2_with fail
       go_ret2
       exact ⟨rfl, hW6.out⟩
      ·obtain ⟨hl4, ho4⟩ := hcut4.out x rfl
       obtain ⟨hl6, ho6⟩ := hcut6.out y rfl
       obtain ⟨⟨hx40, hy40, hq40⟩, HM⟩ := HM0.out x y rfl rfl
       rw [hl4] at HM hx40
       rw [hl6] at HM hy40
       replace HM := Lib.hid HM
       have hlt4 := Lib.hid (fun g hg => (ho4.lt g hg))
       have ho46 := Lib.hid (own_below ho4 hb6x.out (Nat.le_refl _))
       have hge6 : Hid (∀ b off, A6 = some ⟨b, off, none⟩ → w4.heap.size ≤ b) := Lib.hid (fun b off e => by
        have := (ho6.lt b (by rw [e]; rfl)).1
        simpa using this)
       have ho6' := Lib.hid ho6
       obtain ⟨R, hR⟩ : ∃ R, mkC (x ++ sp ++ y) = R := ⟨_, rfl⟩
       have hR' := Lib.hid hR
       have hz46 := Nat.le_trans hz4 hb6x.out.size
       clear hcut4 hcut6 HM0 ho4 ho6 hl4 hl6 hR hb6x
       go_wp2_with fail
       refine (HL.out _).mono ?_
       rintro e w7 ⟨A7, c7, rfl, hown7, hb7⟩
       have ho7 := own_below ho46.out hb7 (Nat.le_refl _)
       have hr7 := Row.of_own hown7
       have hr67 := Lib.hid (Row.more (Row.below (Row.of_own ho6'.out) hb7 (Nat.le_refl _)) hb7.size)
       have hW7 := Lib.hid (hW6.out.trans (hb7.mono hW6.out.size))
       have hz7 := Nat.le_trans hz46 hb7.size
       clear q0 q1 q2 hown7 hb7 ho46 ho6' hW6
       go_wp2_with (first
        | (at_builtin; refine wpList_append_row _ elemBlk rfl (.tmp 73) (.tmp 78) rfl _ _ _ _ rfl ho7 _ _ q _ (cellsB sp) rfl hr7 ?_ ?_ ?_ ?_ ?_))
       ·exact cellsB_oneCell sp
       ·unfold maxLen; omega
       ·omega
       ·exact hz7
       ·intro v8 w8 hv8 hg8 _
        have hW8 := Lib.hid (hW7.out.grown hg8 (Nat.le_trans hwB hz7) (fun g hg => Nat.le_trans hwB (ho7.lt g hg).1))
        rw [← cellsB_append] at hv8
        obtain ⟨A8, c8, rfl, _, _⟩ := own_form hv8
        have hr8 := Row.more (Row.grownX hr67.out (Nat.le_refl _) hg8 (fun hn b off e e2 => by
         have h1 := hlt4.out b e2
         have h2 := hge6.out b off e
         omega)) hg8.size
        have hz8 := Nat.le_trans hz7 hg8.size
        clear ho7 hr7 hg8 hr67 hlt4 hge6 hz7 hW7
        go_wp2_with (first
         | (at_builtin; refine wpList_append_row _ elemBlk rfl (.tmp 79) (.tmp 80) rfl _ _ _ _ rfl hv8 _ _ n6 _ (cellsB y) rfl hr8 ?_ ?_ ?_ ?_ ?_))
        ·exact cellsB_oneCell y
        ·unfold maxLen; omega
        ·omega
        ·exact hz8
        ·intro v9 w9 hv9 hg9 _
         have hW9 := Lib.hid (hW8.out.grown hg9 (Nat.le_trans hwB hz8) (fun g hg => Nat.le_trans hwB (hv8.lt g hg).1))
         rw [← cellsB_append] at hv9
         obtain ⟨A9, c9, rfl, _, _⟩ := own_form hv9
         have hM9 := Lib.hid (HM.out A9 c9 w9 (n4 + q + n6) rfl (Row.of_own hv9))
         rw [hR'.out] at hM9
         unfold optV at hM9
         clear hv8 hr8 hg9 hv9 HM
         go_wp2_with fail
         refine hM9.out.mono ?_
         rintro e w10 ⟨rfl, hb10⟩
         have hfin := Lib.hid (hW9.out.trans (hb10.mono hW9.out.size))
         clear hb10 hM9
         go_wp2_with fail
         go_ret2
         exact ⟨by rw [← List.append_assoc, hR'.out]; rfl, hfin.out⟩
    ·have HMy := Lib.hid (fun W => specL6Many sz U true W hU (by omega) (btrue hmany))
     have hA : replC on ln mn d.data.toList (some bs) fn tn U.data.toList sz = none := replC_no (fun hh => hmany (by have := hh.2.2; rw [hUs] at this; exact this))
     rw [hA]
     replace HZ := Lib.hid HZ
     clear hbs hnum hok hf hn hA hrg hzz hmany hUs hsz
     go_enter Tryz.func32, Tryz.ntmps32
     go_wp2_with fail
     refine (HS.out _).mono ?_
     rintro e w1 ⟨A1, c1, rfl, ho1, hb1⟩
     have hr1 := Lib.hid (Row.of_own ho1)
     have hW1 := Lib.hid (hW0.out.trans (hb1.mono hW0.out.size))
     have kb1 := Lib.hid (kb0.out.below hb1)
     clear hb1 ho1 kb0 hW0
     have q0 := kb1.out.c 0 _ rfl
     have q1 := kb1.out.c 1 _ rfl
     have q2 := kb1.out.c 2 _ rfl
     go_wp2_with fail
     refine (HR.out _).mono ?_
     rintro e w2 ⟨rfl, hb2⟩
     have hr2 := Lib.hid (Row.more (Row.below hr1.out hb2 (Nat.le_refl _)) hb2.size)
     have hW2 := Lib.hid (hW1.out.trans (hb2.mono hW1.out.size))
     clear hb2 hr1 hW1 kb1 q0 q1 q2
     go_wp2_with fail
     refine (HZ.out _ _ _ hr2.out).mono ?_
     rintro e w3 ⟨rfl, rfl⟩
     go_wp2_with fail
     refine (HG.out _).mono ?_
     rintro e w3 ⟨rfl, rfl⟩
     go_wp2_with fail
     refine (HMy.out _).mono ?_
     rintro e w3 ⟨rfl, rfl⟩
     go_wp2_with fail
     go_ret2
     exact ⟨rfl, hW2.out⟩
   ·have HG := Lib.hid (fun W => specL6Range f t (z : Int) false W (bfalse hrg))
    have hA : replC on ln mn d.data.toList (some bs) f t U.data.toList sz = none := replC_no (fun hh => hrg (by rw [← hzz]; exact hh.1.2))
    rw [hA]
    replace HZ := Lib.hid HZ
    clear hbs hnum hok hf hn hA hrg hzz hUs hsz
    go_enter Tryz.func32, Tryz.ntmps32
    go_wp2_with fail
    refine (HS.out _).mono ?_
    rintro e w1 ⟨A1, c1, rfl, ho1, hb1⟩
    have hr1 := Lib.hid (Row.of_own ho1)
    have hW1 := Lib.hid (hW0.out.trans (hb1.mono hW0.out.size))
    have kb1 := Lib.hid (kb0.out.below hb1)
    clear hb1 ho1 kb0 hW0
    have q0 := kb1.out.c 0 _ rfl
    have q1 := kb1.out.c 1 _ rfl
    have q2 := kb1.out.c 2 _ rfl
    go_wp2_with fail
    refine (HR.out _).mono ?_
    rintro e w2 ⟨rfl, hb2⟩
    have hr2 := Lib.hid (Row.more (Row.below hr1.out hb2 (Nat.le_refl _)) hb2.size)
    have hW2 := Lib.hid (hW1.out.trans (hb2.mono hW1.out.size))
    clear hb2 hr1 hW1 kb1 q0 q1 q2
    go_wp2_with fail
    refine (HZ.out _ _ _ hr2.out).mono ?_
    rintro e w3 ⟨rfl, rfl⟩
    go_wp2_with fail
    refine (HG.out _).mono ?_
    rintro e w3 ⟨rfl, rfl⟩
    go_wp2_with fail
    go_ret2
    exact ⟨rfl, hW2.out⟩
  ·have HR := Lib.hid (fun W => specL6Room o l m size d false W hd (bfalse hroom))
   have hA : replC o l m d.data.toList (some bs) f t U.data.toList size = none := replC_no (fun hh => hroom ⟨hh.1.1, hh.2.1⟩)
   rw [hA]
   clear hA hok hz hz2 hnum hbs hroom hn hn40 hUs
   go_enter Tryz.func32, Tryz.ntmps32
   go_wp2_with fail
   refine (HS.out _).mono ?_
   rintro e w1 ⟨A1, c1, rfl, ho1, hb1⟩
   have hW1 := Lib.hid (hW0.out.trans (hb1.mono hW0.out.size))
   have kb1 := kb0.out.below hb1
   clear hb1 ho1 kb0 hW0
   have q0 := kb1.c 0 _ rfl
   have q1 := kb1.c 1 _ rfl
   have q2 := kb1.c 2 _ rfl
   clear kb1
   go_wp2_with fail
   refine (HR.out _).mono ?_
   rintro e w2 ⟨rfl, hb2⟩
   have hW2 := Lib.hid (hW1.out.trans (hb2.mono hW1.out.size))
   clear hb2 hW1 q0 q1 q2
   go_wp2_with fail
   go_ret2
   exact ⟨rfl, hW2.out⟩

end Go.Proofs.YthlgpgaeajfchaaGreat

namespace Go.Proofs.YthlgpgaeajfchaaGreat
open Go.RowKit
set_option linter.unusedVariables false
set_option linter.unusedSimpArgs false
set_option maxRecDepth 100000

set_option maxHeartbeats 1000000 in
theorem specInsertData (o l m : Int) (d s : ByteArray) (a : Int) (U : ByteArray) (size : Int) (w : World) (hd : d.size ≤ 1048576) (hs : s.size ≤ 1048576) (hU : U.size ≤ 1048576) :
  Calls Tryz.prog 42 #[.agg #[.int .i64 o, .int .i64 l, .int .i64 m], .string d, .string s, .int .i64 a, .string U, .int .i64 size] w fun e w' => e = .returned (optV (replC o l m d.data.toList (contB s) a a U.data.toList size)) ∧ Below w.heap.size w w' := by
 have hW0 := Lib.hid ((Below.refl w.heap.size w).alloc (Nat.le_refl _) (.cells #[.int .i64 o, .int .i64 l, .int .i64 m] 24))
 have kb0 := KBn.start w 24 [.int .i64 o, .int .i64 l, .int .i64 m]
 have HS := fun W => specReplaceRange o l m d s U a a size W hd hs hU
 obtain ⟨R, hR⟩ : ∃ R, (replC o l m d.data.toList (contB s) a a U.data.toList size) = R := ⟨_, rfl⟩
 have hR' : (replC o l m d.data.toList (contB s) a a U.data.toList size) = R := hR
 rw [hR'] at HS
 rw [hR]
 unfold optV at HS ⊢
 replace HS := Lib.hid HS
 clear hR hR'
 go_enter Tryz.func42, Tryz.ntmps42
 have q0 := kb0.c 0 _ rfl
 have q1 := kb0.c 1 _ rfl
 have q2 := kb0.c 2 _ rfl
 clear kb0
 go_wp2_with fail
 refine (HS.out _).mono ?_
 rintro e w1 ⟨rfl, hb1⟩
 have hW1 := Lib.hid (hW0.out.trans (hb1.mono hW0.out.size))
 clear hb1
 go_wp2_with fail
 go_ret2
 exact ⟨rfl, hW1.out⟩

set_option maxHeartbeats 1000000 in
theorem specDeleteRange (o l m : Int) (d s : ByteArray) (f t : Int) (w : World) (hd : d.size ≤ 1048576) (hs : s.size ≤ 1048576) :
  Calls Tryz.prog 36 #[.agg #[.int .i64 o, .int .i64 l, .int .i64 m], .string d, .string s, .int .i64 f, .int .i64 t] w fun e w' => e = .returned (optV (replC o l m d.data.toList (contB s) f t [] 1)) ∧ Below w.heap.size w w' := by
 have hW0 := Lib.hid ((Below.refl w.heap.size w).alloc (Nat.le_refl _) (.cells #[.int .i64 o, .int .i64 l, .int .i64 m] 24))
 have kb0 := KBn.start w 24 [.int .i64 o, .int .i64 l, .int .i64 m]
 have HS := fun W => specReplaceRange o l m d s ⟨#[]⟩ f t 1 W hd hs (Nat.zero_le _)
 obtain ⟨R, hR⟩ : ∃ R, (replC o l m d.data.toList (contB s) f t [] 1) = R := ⟨_, rfl⟩
 have hR' : (replC o l m d.data.toList (contB s) f t (ByteArray.mk #[]).data.toList 1) = R := hR
 rw [hR'] at HS
 rw [hR]
 unfold optV at HS ⊢
 replace HS := Lib.hid HS
 clear hR hR'
 go_enter Tryz.func36, Tryz.ntmps36
 have q0 := kb0.c 0 _ rfl
 have q1 := kb0.c 1 _ rfl
 have q2 := kb0.c 2 _ rfl
 clear kb0
 go_wp2_with fail
 refine (HS.out _).mono ?_
 rintro e w1 ⟨rfl, hb1⟩
 have hW1 := Lib.hid (hW0.out.trans (hb1.mono hW0.out.size))
 clear hb1
 go_wp2_with fail
 go_ret2
 exact ⟨rfl, hW1.out⟩

end Go.Proofs.YthlgpgaeajfchaaGreat
