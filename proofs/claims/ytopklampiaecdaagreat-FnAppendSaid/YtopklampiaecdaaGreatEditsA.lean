/-
  Taken out of Edits.
-/
import Derived.Test.YtopklampiaecdaaGreatEdits
namespace Go.Proofs.YtopklampiaecdaaGreat
open Go.RowKit
set_option linter.unusedVariables false
set_option maxRecDepth 100000

set_option maxHeartbeats 4000000 in
theorem implAppendData (o l m size : Int) (d s U : ByteArray) (w : World) (hd : d.size ≤ 1048576) (hs : s.size ≤ 1048576) (hU : U.size ≤ 1048576) :
    Calls Tryz.prog 17 #[.agg #[.int .i64 o, .int .i64 l, .int .i64 m], .string d, .string s, .string U, .int .i64 size] w fun e w' => e = .returned (optV (appendC o l m d.data.toList (contB s) U.data.toList size)) ∧ Below w.heap.size w w' := by
  have hW0 := Lib.hid ((Below.refl w.heap.size w).alloc (Nat.le_refl _) (.cells #[.int .i64 o, .int .i64 l, .int .i64 m] 26))
  have hUs : U.data.toList.length = U.size := by simp
  by_cases h1 : dfits o l m d.data.toList ∧ contB s ≠ none
  · obtain ⟨hf, hc⟩ := h1
    obtain ⟨bs, hbs⟩ := Option.ne_none_iff_exists'.1 hc
    obtain ⟨on, rfl⟩ : ∃ n : Nat, o = n := ⟨o.toNat, by have := hf.1.1; omega⟩
    obtain ⟨ln, rfl⟩ : ∃ n : Nat, l = n := ⟨l.toNat, by have := hf.1.2.1; omega⟩
    obtain ⟨mn, rfl⟩ : ∃ n : Nat, m = n := ⟨m.toNat, by have := hf.1.2; omega⟩
    obtain ⟨n, hn⟩ : ∃ n, bs.length = n := ⟨_, rfl⟩
    have HS := fun W => implStartEditYes on ln mn n d.data.toList s bs W hf hs hbs hn
    have hbd : bsL d.data.toList = d := rfl
    rw [hbd] at HS
    have hnum := contB_numbered hbs
    have hn40 := hnum.length
    rw [hn] at hn40
    have hfr := (Kn.dict_fresh hf).1
    by_cases hr : roomy U.data.toList.length size
    · obtain ⟨sz, rfl⟩ : ∃ n : Nat, size = n := ⟨size.toNat, by have := hr.1; omega⟩
      have hA := appendC_yes (bs := bs) hf hr
      rw [hbs, hA]
      have HN := fun (A : Option Addr) (c : Nat) (W : World) (hAt : (Kn.dict on ln mn d.data.toList).At W W.heap.size A) => implNewBlocksYes (Kn.dict on ln mn d.data.toList) A c W.heap.size sz U.data.toList W hfr hAt (Nat.le_refl _) hr
      have hbU : bsL U.data.toList = U := rfl
      rw [hbU] at HN
      obtain ⟨hok, hz, hsl⟩ := edit_ok (size := sz) hfr.val (by have := hr.1; omega) (by have := hr.1; omega) hr.2.1 hnum
      have HM := fun A k c W h1 h2 => implMakeContainer A k c W.heap.size (bs ++ (Kn.dict on ln mn d.data.toList).split sz U.data.toList) W h1 (Nat.le_refl _) h2 hz hok
      obtain ⟨k, hk⟩ : ∃ k, Kn.dict on ln mn d.data.toList = k := ⟨_, rfl⟩
      rw [hk] at HS HN HM hsl ⊢
      obtain ⟨sp, hsp⟩ : ∃ sp, k.split sz U.data.toList = sp := ⟨_, rfl⟩
      rw [hsp] at HN HM hsl ⊢
      obtain ⟨q, hq⟩ : ∃ q, sp.length = q := ⟨_, rfl⟩
      rw [hq] at HN hsl
      obtain ⟨R, hR⟩ : ∃ R, mkC (bs ++ sp) = R := ⟨_, rfl⟩
      rw [hR] at HM ⊢
      have hval := Kn.val_eq k
      simp only [hval] at HS HN
      replace HS := Lib.hid HS
      replace HN := Lib.hid HN
      replace HM := Lib.hid HM
      clear hval hk hsp hR hA hok hz hr hf hbs hc hnum hfr hn hq hUs
      go_enter Tryz.func17, Tryz.ntmps17
      go_wp2_with fail
      refine (HS.out _).mono ?_
      rintro e w1 ⟨A1, c1, Ab, cb, rfl, hat, hown, hb1⟩
      have hb1a := (Below.refl w1.heap.size w1).alloc (Nat.le_refl _) (.cells #[.int .i64 (k.o : Int), .int .i64 (k.l : Int), .int .i64 (k.m : Int), .slice A1 k.ps.length c1, .int .i64 (k.base : Int), .int .i64 k.lastI] 64)
      have kg := KB.start w1 64 (.int .i64 (k.o : Int)) (.int .i64 (k.l : Int)) (.int .i64 (k.m : Int)) (.slice A1 k.ps.length c1) (.int .i64 (k.base : Int)) (.int .i64 k.lastI)
      have hat2 := (hat.below hb1a (Nat.le_refl _)).more (Nat.le_of_lt (by simp) : w1.heap.size ≤ (w1.alloc (.cells #[.int .i64 (k.o : Int), .int .i64 (k.l : Int), .int .i64 (k.m : Int), .slice A1 k.ps.length c1, .int .i64 (k.base : Int), .int .i64 k.lastI] 64)).heap.size)
      have hown2 := own_base (base' := w.heap.size) (own_below hown hb1a (Nat.le_refl _)) hW0.out.size
      have hW1 := hW0.out.trans ((hb1.trans (hb1a.mono hb1.size)).mono hW0.out.size)
      replace kg := Lib.hid kg
      replace hat2 := Lib.hid hat2
      replace hown2 := Lib.hid hown2
      replace hW1 := Lib.hid hW1
      clear hb1a hb1 hat hown
      go_upto_region 2 with (fail)
      obtain ⟨G, hG⟩ : ∃ G, w1.heap.size = G := ⟨_, rfl⟩
      obtain ⟨w2, hw2⟩ : ∃ W, w1.alloc (.cells #[.int .i64 (k.o : Int), .int .i64 (k.l : Int), .int .i64 (k.m : Int), .slice A1 k.ps.length c1, .int .i64 (k.base : Int), .int .i64 k.lastI] 64) = W := ⟨_, rfl⟩
      rw [hw2] at kg hat2 hown2 hW1 ⊢
      rw [hG] at kg ⊢
      clear hw2 hG
      have hN2 := Lib.hid (HN.out A1 c1 w2 hat2.out)
      obtain ⟨⟨q0, q1, q2, q3, q4, q5⟩, _⟩ := kg.out
      clear kg
      go_wp2_with fail
      refine hN2.out.mono ?_
      rintro e w3 ⟨A3, c3, rfl, hown3, hb3⟩
      have ho1 := own_below hown2.out hb3 (Nat.le_refl _)
      have hr2 := Row.of_own hown3
      have hb03 := Lib.hid (hW1.out.trans (hb3.mono hW1.out.size))
      have hz03 := hb03.out.size
      clear hown3 hb3 hown2 q0 q1 q2 q3 q4 q5 hN2
      go_wp2_with (first
        | (at_builtin; refine wpList_append_row _ elemBlk rfl (.tmp 35) (.tmp 36) rfl w.heap.size _ _ _ rfl ho1 _ _ q _ (cellsB sp) rfl hr2 ?_ ?_ ?_ ?_ ?_))
      · exact cellsB_oneCell sp
      · unfold maxLen; omega
      · omega
      · exact hz03
      · intro v4 w4 hv4 hg4 _
        have hb04 := Lib.hid (hb03.out.grown hg4 hz03 (fun g hg => (ho1.lt g hg).1))
        rw [← cellsB_append] at hv4
        obtain ⟨A4, c4, rfl, _, _⟩ := own_form hv4
        have hz04 := hb04.out.size
        have hM4 := Lib.hid (HM.out A4 (n + q) c4 _ (Row.of_own hv4) (by omega))
        clear ho1 hr2 hg4 hv4
        go_wp2_with fail
        refine hM4.out.mono ?_
        rintro e w5 ⟨rfl, hb5⟩
        have hfin := Lib.hid (hb04.out.trans (hb5.mono hz04))
        clear hb5 hM4
        go_wp2_with fail
        go_ret2
        exact ⟨rfl, hfin.out⟩
    · have hA := appendC_no (o := (on : Int)) (l := (ln : Int)) (m := (mn : Int)) (d := d.data.toList) (ob := contB s) (L := U.data.toList) (size := size) (Or.inl (fun hh => hr hh.2))
      rw [hA]
      rw [hUs] at hr
      obtain ⟨k, hk⟩ : ∃ k, Kn.dict on ln mn d.data.toList = k := ⟨_, rfl⟩
      rw [hk] at HS
      have HN := fun (A : Option Addr) (c : Nat) (W : World) => implNewBlocksNo k A c size U W hU hr
      have hval := Kn.val_eq k
      simp only [hval] at HS HN
      replace HS := Lib.hid HS
      replace HN := Lib.hid HN
      clear hval hk hA hr hf hbs hc hnum hfr hn
      go_enter Tryz.func17, Tryz.ntmps17
      go_wp2_with fail
      refine (HS.out _).mono ?_
      rintro e w1 ⟨A1, c1, Ab, cb, rfl, _, _, hb1⟩
      have hW1 := Lib.hid (hW0.out.trans ((hb1.alloc hb1.size (.cells #[.int .i64 (k.o : Int), .int .i64 (k.l : Int), .int .i64 (k.m : Int), .slice A1 k.ps.length c1, .int .i64 (k.base : Int), .int .i64 k.lastI] 64)).mono hW0.out.size))
      clear hb1
      go_wp2_with fail
      refine (HN.out _ _ _).mono ?_
      rintro e w3 ⟨rfl, hb3⟩
      have hfin := Lib.hid (hW1.out.trans (hb3.mono hW1.out.size))
      clear hb3
      go_wp2_with fail
      go_ret2
      exact ⟨rfl, hfin.out⟩
  · have h2 : ¬ dfits o l m d.data.toList ∨ contB s = none := by
      by_cases h3 : dfits o l m d.data.toList
      · right
        by_cases h4 : contB s = none
        · exact h4
        · exact absurd ⟨h3, h4⟩ h1
      · exact Or.inl h3
    have hA := appendC_no (o := o) (l := l) (m := m) (d := d.data.toList) (ob := contB s) (L := U.data.toList) (size := size) (h2.imp (fun h3 h4 => h3 h4.1) id)
    rw [hA]
    have HS := Lib.hid (fun W => implStartEditNo o l m d s W hd hs h2)
    clear h1 h2 hA
    go_enter Tryz.func17, Tryz.ntmps17
    go_wp2_with fail
    refine (HS.out _).mono ?_
    rintro e w1 ⟨rfl, hb1⟩
    have hW1 := Lib.hid (hW0.out.trans ((hb1.alloc hb1.size (.cells #[.int .i64 0, .int .i64 0, .int .i64 0, .slice none 0 0, .int .i64 0, .int .i64 0] 64)).mono hW0.out.size))
    clear hb1
    go_wp2_with fail
    go_ret2
    exact ⟨rfl, hW1.out⟩

set_option maxHeartbeats 4000000 in
theorem specAppendData (o l m size : Int) (d s U : ByteArray) (w : World) (hd : d.size ≤ 1048576) (hs : s.size ≤ 1048576) (hU : U.size ≤ 1048576) :
    Calls Tryz.prog 15 #[.agg #[.int .i64 o, .int .i64 l, .int .i64 m], .string d, .string s, .string U, .int .i64 size] w fun e w' => e = .returned (optV (appendC o l m d.data.toList (contB s) U.data.toList size)) ∧ Below w.heap.size w w' := by
  have hW0 := Lib.hid ((Below.refl w.heap.size w).alloc (Nat.le_refl _) (.cells #[.int .i64 o, .int .i64 l, .int .i64 m] 26))
  have kb0 := Lib.hid (KBn.start w 26 [.int .i64 o, .int .i64 l, .int .i64 m])
  have hUs : U.data.toList.length = U.size := by simp
  rcases hbs : contB s with _ | bs
  · have HS := Lib.hid (fun W => specL5BlocksNo s W hs hbs)
    rw [appendC_no (Or.inr rfl)]
    clear hbs
    go_enter Tryz.func15, Tryz.ntmps15
    go_wp2_with fail
    refine (HS.out _).mono ?_
    rintro e w1 ⟨A1, c1, rfl, _, hb1⟩
    have hW1 := Lib.hid (hW0.out.trans (hb1.mono hW0.out.size))
    clear hb1
    go_wp2_with fail
    go_ret2
    exact ⟨rfl, hW1.out⟩
  · obtain ⟨n, hn⟩ : ∃ n, bs.length = n := ⟨_, rfl⟩
    have HS := Lib.hid (fun W => specL5BlocksYes s bs n W hs hbs hn)
    have hnum := contB_numbered hbs
    have hn40 := hnum.length
    rw [hn] at hn40
    by_cases hroom : dfits o l m d.data.toList ∧ (1 ≤ size ∧ size ≤ 64)
    · obtain ⟨hf, hsz⟩ := hroom
      have HR := Lib.hid (fun W => specL6Room o l m size d true W hd (btrue ⟨hf, hsz⟩))
      obtain ⟨on, rfl⟩ : ∃ n : Nat, o = n := ⟨o.toNat, by have := hf.1.1; omega⟩
      obtain ⟨ln, rfl⟩ : ∃ n : Nat, l = n := ⟨l.toNat, by have := hf.1.2.1; omega⟩
      obtain ⟨mn, rfl⟩ : ∃ n : Nat, m = n := ⟨m.toNat, by have := hf.1.2; omega⟩
      obtain ⟨sz, rfl⟩ : ∃ n : Nat, size = n := ⟨size.toNat, by omega⟩
      by_cases hmany : U.size ≤ 2000 ∧ (U.size : Int) ≤ 40 * (sz : Int)
      · have HMy := Lib.hid (fun W => specL6Many sz U false W hU (by omega) (bfalse (fun hh => hh hmany)))
        have hr : roomy U.data.toList.length (sz : Int) := ⟨hsz, by rw [hUs]; exact hmany⟩
        have hA := appendC_yes (bs := bs) hf hr
        rw [hA]
        have hfr := (Kn.dict_fresh hf).1
        obtain ⟨hok, hz, hsl⟩ := edit_ok (size := sz) hfr.val (by omega) (by omega) hr.2.1 hnum
        have HL := fun W => specL6Split on ln mn sz d.data.toList U.data.toList W hf hr.2.1 (by omega) (by omega)
        have hbd : bsL d.data.toList = d := rfl
        have hbU : bsL U.data.toList = U := rfl
        rw [hbd, hbU] at HL
        have HM := fun A k c W h1 h2 => specL6Result A k c W.heap.size (bs ++ (Kn.dict on ln mn d.data.toList).split sz U.data.toList) W h1 (Nat.le_refl _) h2 hz hok
        obtain ⟨sp, hsp⟩ : ∃ sp, (Kn.dict on ln mn d.data.toList).split sz U.data.toList = sp := ⟨_, rfl⟩
        rw [hsp] at HL HM hsl ⊢
        obtain ⟨q, hq⟩ : ∃ q, sp.length = q := ⟨_, rfl⟩
        rw [hq] at HL hsl
        obtain ⟨R, hR⟩ : ∃ R, mkC (bs ++ sp) = R := ⟨_, rfl⟩
        rw [hR] at HM ⊢
        replace HL := Lib.hid HL
        replace HM := Lib.hid HM
        clear hsp hR hA hok hz hr hf hbs hnum hfr hn hq hUs hmany hsz
        go_enter Tryz.func15, Tryz.ntmps15
        go_upto_region 1 with (fail)
        obtain ⟨w0, hw0⟩ : ∃ W, w.alloc (.cells #[.int .i64 (on : Int), .int .i64 (ln : Int), .int .i64 (mn : Int)] 26) = W := ⟨_, rfl⟩
        have kb1 := kb0.out
        have hW1 := hW0.out
        change KBn (w.alloc (.cells #[.int .i64 (on : Int), .int .i64 (ln : Int), .int .i64 (mn : Int)] 26)) _ _ at kb1
        rw [hw0] at hW1 kb1 ⊢
        clear hw0 kb0 hW0
        have hX := Lib.hid (fun (W : World) (hb : Below w0.heap.size w0 W) => And.intro (And.intro ((kb1.below hb).c 0 _ rfl) (And.intro ((kb1.below hb).c 1 _ rfl) ((kb1.below hb).c 2 _ rfl))) (hW1.trans (hb.mono hW1.size)))
        have hww := hW1.size
        clear kb1 hW1
        go_wp2_with fail
        refine (HS.out _).mono ?_
        rintro e w1 ⟨A1, c1, rfl, ho1, hb1⟩
        obtain ⟨⟨q0, q1, q2⟩, _⟩ := hX.out _ hb1
        replace ho1 := Lib.hid ho1
        replace hb1 := Lib.hid hb1
        go_wp2_with fail
        refine (HR.out _).mono ?_
        rintro e w2 ⟨rfl, hb2⟩
        have ho2 := Lib.hid (own_below ho1.out hb2 (Nat.le_refl _))
        have hb02 := Lib.hid (hb1.out.trans (hb2.mono hb1.out.size))
        clear q0 q1 q2 hb2 ho1 hb1
        obtain ⟨⟨q0, q1, q2⟩, _⟩ := hX.out _ hb02.out
        go_wp2_with fail
        refine (HMy.out _).mono ?_
        rintro e w2' ⟨rfl, rfl⟩
        go_wp2_with fail
        refine (HL.out _).mono ?_
        rintro e w3 ⟨A3, c3, rfl, hown3, hb3⟩
        have ho3 := own_base (base' := w.heap.size) (own_below ho2.out hb3 (Nat.le_refl _)) hww
        have hr3 := Row.of_own hown3
        have hW3 := (hX.out _ (hb02.out.trans (hb3.mono hb02.out.size))).2
        have hz3 := hW3.size
        replace hW3 := Lib.hid hW3
        clear q0 q1 q2 hown3 hb3 ho2 hb02
        go_wp2_with (first
          | (at_builtin; refine wpList_append_row _ elemBlk rfl (.tmp 33) (.tmp 38) rfl w.heap.size _ _ _ rfl ho3 _ _ q _ (cellsB sp) rfl hr3 ?_ ?_ ?_ ?_ ?_))
        · exact cellsB_oneCell sp
        · unfold maxLen; omega
        · omega
        · exact hz3
        · intro v4 w4 hv4 hg4 _
          have hb04 := Lib.hid (hW3.out.grown hg4 hz3 (fun g hg => (ho3.lt g hg).1))
          rw [← cellsB_append] at hv4
          obtain ⟨A4, c4, rfl, _, _⟩ := own_form hv4
          have hM4 := Lib.hid (HM.out A4 (n + q) c4 _ (Row.of_own hv4) (by omega))
          clear ho3 hr3 hg4 hv4
          go_wp2_with fail
          refine hM4.out.mono ?_
          rintro e w5 ⟨rfl, hb5⟩
          have hfin := Lib.hid (hb04.out.trans (hb5.mono hb04.out.size))
          clear hb5 hM4
          go_wp2_with fail
          go_ret2
          exact ⟨rfl, hfin.out⟩
      · have HMy := Lib.hid (fun W => specL6Many sz U true W hU (by omega) (btrue hmany))
        have hA := appendC_no (o := (on : Int)) (l := (ln : Int)) (m := (mn : Int)) (d := d.data.toList) (ob := some bs) (L := U.data.toList) (size := (sz : Int)) (Or.inl (fun hh => hmany (by have := hh.2.2; rw [hUs] at this; exact this)))
        rw [hA]
        clear hA hmany hf hbs hnum hn hUs
        go_enter Tryz.func15, Tryz.ntmps15
        go_wp2_with fail
        refine (HS.out _).mono ?_
        rintro e w1 ⟨A1, c1, rfl, _, hb1⟩
        have kb1 := kb0.out.below hb1
        have q0 := kb1.c 0 _ rfl
        have q1 := kb1.c 1 _ rfl
        have q2 := kb1.c 2 _ rfl
        have hW1 := Lib.hid (hW0.out.trans (hb1.mono hW0.out.size))
        clear hb1 kb1
        go_wp2_with fail
        refine (HR.out _).mono ?_
        rintro e w2 ⟨rfl, hb2⟩
        have hW2 := Lib.hid (hW1.out.trans (hb2.mono hW1.out.size))
        clear hb2 q0 q1 q2
        go_wp2_with fail
        refine (HMy.out _).mono ?_
        rintro e w2' ⟨rfl, rfl⟩
        go_wp2_with fail
        go_ret2
        exact ⟨rfl, hW2.out⟩
    · have HR := Lib.hid (fun W => specL6Room o l m size d false W hd (bfalse hroom))
      have hA := appendC_no (o := o) (l := l) (m := m) (d := d.data.toList) (ob := some bs) (L := U.data.toList) (size := size) (Or.inl (fun hh => hroom ⟨hh.1, hh.2.1⟩))
      rw [hA]
      clear hA hroom hbs hnum hn hUs
      go_enter Tryz.func15, Tryz.ntmps15
      go_wp2_with fail
      refine (HS.out _).mono ?_
      rintro e w1 ⟨A1, c1, rfl, _, hb1⟩
      have kb1 := kb0.out.below hb1
      have q0 := kb1.c 0 _ rfl
      have q1 := kb1.c 1 _ rfl
      have q2 := kb1.c 2 _ rfl
      have hW1 := Lib.hid (hW0.out.trans (hb1.mono hW0.out.size))
      clear hb1 kb1
      go_wp2_with fail
      refine (HR.out _).mono ?_
      rintro e w2 ⟨rfl, hb2⟩
      have hW2 := Lib.hid (hW1.out.trans (hb2.mono hW1.out.size))
      clear hb2 q0 q1 q2
      go_wp2_with fail
      go_ret2
      exact ⟨rfl, hW2.out⟩

end Go.Proofs.YtopklampiaecdaaGreat
