/-
 Taken out of Edits.
-/
import Derived.Test.YthlgpgaeajfchaaGreatQMergeP
import Derived.Test.YthlgpgaeajfchaaGreatQEdits

namespace Go.Proofs.YthlgpgaeajfchaaGreat
open Go.RowKit
set_option linter.unusedVariables false
set_option maxRecDepth 100000

set_option maxHeartbeats 4000000 in
theorem implAppendData (o l m size : Int) (d s U : ByteArray) (w : World) (hd : d.size ≤ 1048576) (hs : s.size ≤ 1048576) (hU : U.size ≤ 1048576) :
  Calls Tryz.prog 38 #[.agg #[.int .i64 o, .int .i64 l, .int .i64 m], .string d, .string s, .string U, .int .i64 size] w fun e w' => e = .returned (optV (appendC o l m d.data.toList (contB s) U.data.toList size)) ∧ Below w.heap.size w w' := by
 have hW0 := Lib.hid ((Below.refl w.heap.size w).alloc (Nat.le_refl _) (.cells #[.int .i64 o, .int .i64 l, .int .i64 m] 24))
 have hUs : U.data.toList.length = U.size := by simp
 by_cases h1 : dfits o l m d.data.toList ∧ contB s ≠ none
 ·obtain ⟨hf, hc⟩ := h1
  obtain ⟨bs, hbs⟩ := Option.ne_none_iff_exists'.1 hc
  obtain ⟨on, rfl⟩ : ∃ n : Nat, o = n := ⟨o.toNat, by have := hf.1.1; omega⟩
  obtain ⟨ln, rfl⟩ : ∃ n : Nat, l = n := ⟨l.toNat, by have := hf.1.2.1; omega⟩
  obtain ⟨mn, rfl⟩ : ∃ n : Nat, m = n := ⟨m.toNat, by have := hf.1.2; omega⟩
  obtain ⟨n, hn⟩ : ∃ n, bs.length = n := ⟨_, rfl⟩
  have HS := fun W => implStartEditYes on ln mn n d.data.toList s bs W hf hs hbs hn
  have hbd : bsL d.data.toList = d := rfl
  rw [hbd] at HS
  have hnum := contB_numbered hbs
  have hn40 := hnum.length
  rw [hn] at hn40
  have hfr := (Kn.dict_fresh hf).1
  by_cases hr : roomy U.data.toList.length size
  ·obtain ⟨sz, rfl⟩ : ∃ n : Nat, size = n := ⟨size.toNat, by have := hr.1; omega⟩
   have hA := appendC_yes (bs := bs) hf hr
   rw [hbs, hA]
   have HN := fun (A : Option Addr) (c : Nat) (W : World) (hAt : (Kn.dict on ln mn d.data.toList).At W W.heap.size A) => implNewBlocksYes (Kn.dict on ln mn d.data.toList) A c W.heap.size sz U.data.toList W hfr hAt (Nat.le_refl _) hr
   have hbU : bsL U.data.toList = U := rfl
   rw [hbU] at HN
   obtain ⟨hok, hz, hsl⟩ := edit_ok (size := sz) hfr.val (by have := hr.1; omega) (by have := hr.1; omega) hr.2.1 hnum
   have HM := fun A k c W h1 h2 => implMakeContainer A k c W.heap.size (bs ++ (Kn.dict on ln mn d.data.toList).split sz U.data.toList) W h1 (Nat.le_refl _) h2 hz hok
   obtain ⟨k, hk⟩ : ∃ k, Kn.dict on ln mn d.data.toList = k := ⟨_, rfl⟩
   rw [hk] at HS HN HM hsl ⊢
   obtain ⟨sp, hsp⟩ : ∃ sp, k.split sz U.data.toList = sp := ⟨_, rfl⟩
   rw [hsp] at HN HM hsl ⊢
   obtain ⟨q, hq⟩ : ∃ q, sp.length = q := ⟨_, rfl⟩
   rw [hq] at HN hsl
   obtain ⟨R, hR⟩ : ∃ R, mkC (bs ++ sp) = R := ⟨_, rfl⟩
   rw [hR] at HM ⊢
   have hval := Kn.val_eq k
   simp only [hval] at HS HN
   replace HS := Lib.hid HS
   replace HN := Lib.hid HN
   replace HM := Lib.hid HM
   clear hval hk hsp hR hA hok hz hr hf hbs hc hnum hfr hn hq hUs
   go_enter Tryz.func38, Tryz.ntmps38
   go_wp2_with fail
   refine (HS.out _).mono ?_
   rintro e w1 ⟨A1, c1, Ab, cb, rfl, hat, hown, hb1⟩
   have hb1a := (Below.refl w1.heap.size w1).alloc (Nat.le_refl _) (.cells #[.int .i64 (k.o : Int), .int .i64 (k.l : Int), .int .i64 (k.m : Int), .slice A1 k.ps.length c1, .int .i64 (k.base : Int), .int .i64 k.lastI] 74)
   have kg := KB.start w1 74 (.int .i64 (k.o : Int)) (.int .i64 (k.l : Int)) (.int .i64 (k.m : Int)) (.slice A1 k.ps.length c1) (.int .i64 (k.base : Int)) (.int .i64 k.lastI)
   have hat2 := (hat.below hb1a (Nat.le_refl _)).more (Nat.le_of_lt (by simp) : w1.heap.size ≤ (w1.alloc (.cells #[.int .i64 (k.o : Int), .int .i64 (k.l : Int), .int .i64 (k.m : Int), .slice A1 k.ps.length c1, .int .i64 (k.base : Int), .int .i64 k.lastI] 74)).heap.size)
   have hown2 := own_base (base' := w.heap.size) (own_below hown hb1a (Nat.le_refl _)) hW0.out.size
   have hW1 := hW0.out.trans ((hb1.trans (hb1a.mono hb1.size)).mono hW0.out.size)
   replace kg := Lib.hid kg
   replace hat2 := Lib.hid hat2
   replace hown2 := Lib.hid hown2
   replace hW1 := Lib.hid hW1
   clear hb1a hb1 hat hown
   go_upto_region 2 with (fail)
   obtain ⟨G, hG⟩ : ∃ G, w1.heap.size = G := ⟨_, rfl⟩
   obtain ⟨w2, hw2⟩ : ∃ W, w1.alloc (.cells #[.int .i64 (k.o : Int), .int .i64 (k.l : Int), .int .i64 (k.m : Int), .slice A1 k.ps.length c1, .int .i64 (k.base : Int), .int .i64 k.lastI] 74) = W := ⟨_, rfl⟩
   rw [hw2] at kg hat2 hown2 hW1 ⊢
   rw [hG] at kg ⊢
   clear hw2 hG
   have hN2 := Lib.hid (HN.out A1 c1 w2 hat2.out)
   obtain ⟨⟨q0, q1, q2, q3, q4, q5⟩, _⟩ := kg.out
   clear kg
   go_wp2_with fail
   refine hN2.out.mono ?_
   rintro e w3 ⟨A3, c3, rfl, hown3, hb3⟩
   have ho1 := own_below hown2.out hb3 (Nat.le_refl _)
   have hr2 := Row.of_own hown3
   have hb03 := Lib.hid (hW1.out.trans (hb3.mono hW1.out.size))
   have hz03 := hb03.out.size
   clear hown3 hb3 hown2 q0 q1 q2 q3 q4 q5 hN2
   go_wp2_with (first
    | (at_builtin; refine wpList_append_row _ elemBlk rfl (.tmp 35) (.tmp 36) rfl w.heap.size _ _ _ rfl ho1 _ _ q _ (cellsB sp) rfl hr2 ?_ ?_ ?_ ?_ ?_))
   ·exact cellsB_oneCell sp
   ·unfold maxLen; omega
   ·omega
   ·exact hz03
   ·intro v4 w4 hv4 hg4 _
    have hb04 := Lib.hid (hb03.out.grown hg4 hz03 (fun g hg => (ho1.lt g hg).1))
    rw [← cellsB_append] at hv4
    obtain ⟨A4, c4, rfl, _, _⟩ := own_form hv4
    have hz04 := hb04.out.size
    have hM4 := Lib.hid (HM.out A4 (n + q) c4 _ (Row.of_own hv4) (by omega))
    clear ho1 hr2 hg4 hv4
    go_wp2_with fail
    refine hM4.out.mono ?_
    rintro e w5 ⟨rfl, hb5⟩
    have hfin := Lib.hid (hb04.out.trans (hb5.mono hz04))
    clear hb5 hM4
    go_wp2_with fail
    go_ret2
    exact ⟨rfl, hfin.out⟩
  ·have hA := appendC_no (o := (on : Int)) (l := (ln : Int)) (m := (mn : Int)) (d := d.data.toList) (ob := contB s) (L := U.data.toList) (size := size) (Or.inl (fun hh => hr hh.2))
   rw [hA]
   rw [hUs] at hr
   obtain ⟨k, hk⟩ : ∃ k, Kn.dict on ln mn d.data.toList = k := ⟨_, rfl⟩
   rw [hk] at HS
   have HN := fun (A : Option Addr) (c : Nat) (W : World) => implNewBlocksNo k A c size U W hU hr
   have hval := Kn.val_eq k
   simp only [hval] at HS HN
   replace HS := Lib.hid HS
   replace HN := Lib.hid HN
   clear hval hk hA hr hf hbs hc hnum hfr hn
   go_enter Tryz.func38, Tryz.ntmps38
   go_wp2_with fail
   refine (HS.out _).mono ?_
   rintro e w1 ⟨A1, c1, Ab, cb, rfl, _, _, hb1⟩
   have hW1 := Lib.hid (hW0.out.trans ((hb1.alloc hb1.size (.cells #[.int .i64 (k.o : Int), .int .i64 (k.l : Int), .int .i64 (k.m : Int), .slice A1 k.ps.length c1, .int .i64 (k.base : Int), .int .i64 k.lastI] 74)).mono hW0.out.size))
   clear hb1
   go_wp2_with fail
   refine (HN.out _ _ _).mono ?_
   rintro e w3 ⟨rfl, hb3⟩
   have hfin := Lib.hid (hW1.out.trans (hb3.mono hW1.out.size))
   clear hb3
   go_wp2_with fail
   go_ret2
   exact ⟨rfl, hfin.out⟩
 ·have h2 : ¬ dfits o l m d.data.toList ∨ contB s = none := by
   by_cases h3 : dfits o l m d.data.toList
   ·right
    by_cases h4 : contB s = none
    ·exact h4
    ·exact absurd ⟨h3, h4⟩ h1
   ·exact Or.inl h3
  have hA := appendC_no (o := o) (l := l) (m := m) (d := d.data.toList) (ob := contB s) (L := U.data.toList) (size := size) (h2.imp (fun h3 h4 => h3 h4.1) id)
  rw [hA]
  have HS := Lib.hid (fun W => implStartEditNo o l m d s W hd hs h2)
  clear h1 h2 hA
  go_enter Tryz.func38, Tryz.ntmps38
  go_wp2_with fail
  refine (HS.out _).mono ?_
  rintro e w1 ⟨rfl, hb1⟩
  have hW1 := Lib.hid (hW0.out.trans ((hb1.alloc hb1.size (.cells #[.int .i64 0, .int .i64 0, .int .i64 0, .slice none 0 0, .int .i64 0, .int .i64 0] 74)).mono hW0.out.size))
  clear hb1
  go_wp2_with fail
  go_ret2
  exact ⟨rfl, hW1.out⟩

end Go.Proofs.YthlgpgaeajfchaaGreat
