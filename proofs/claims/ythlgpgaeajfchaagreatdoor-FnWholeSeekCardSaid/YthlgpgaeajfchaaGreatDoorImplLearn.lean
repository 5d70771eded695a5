/-
  The program's learn: what is known behind the words of a text.
  The program's LearnKnown and StartWith: what is known behind a dictionary.
-/
import Derived.Test.YthlgpgaeajfchaaGreatDoorImplNewTree
import Derived.Test.YthlgpgaeajfchaaGreatDoorImplKnown
import Derived.Test.YthlgpgaeajfchaaGreatDoorLearn
import Derived.Test.YthlgpgaeajfchaaGreatDoorComp

namespace Go.Proofs.YthlgpgaeajfchaaGreatDoor
open Go.RowKit
set_option linter.unusedVariables false
set_option maxRecDepth 100000

theorem bsL_from {L d : List UInt8} {i : Nat} (hd : L.drop i = d) : (bsL L).extract i (bsL L).size = bsL d := by
  rw [bsL_part, ← hd]
  congr 1
  rw [List.take_of_length_le]
  rw [List.length_drop, bsL_size]
  omega

set_option maxHeartbeats 8000000 in
theorem implLearn (k : Kn) (A : Option Addr) (c B : Nat) (L : List UInt8) (w : World) (h : k.Valid) (hA : k.At w B A) (hB : B ≤ w.heap.size) (hf : k.fits L) (hL : L.length ≤ 2000) :
    Calls Tryz.prog 66 #[k.val A c, .string (bsL L)] w fun e w' => ∃ A' c' z, e = .returned (.tuple #[(k.learn L).val A' c', .int .i64 z]) ∧ (k.learn L).New w' w.heap.size A' ∧ (k.learn L).ps.length ≤ c' ∧ Below w.heap.size w w' := by
  have HC := fun W => implClearCode k.o k.l k.m W h.sv
  have hz : 2 ^ k.l = k.clear := rfl
  rw [hz] at HC
  have HT := fun (W : World) (hb : Below w.heap.size w W) => implNewTree k A c B W h (hA.below hb hB) (Nat.le_trans hB hb.size)
  have HF := fun (t : Tr) (T : Nat) (a : TA) (W : World) (ht : TrOk k t) (hm : TrM k t T a W) => implFollowClear k t T a W h ht hm
  obtain ⟨z, hz2⟩ : ∃ z, k.clear = z := ⟨_, rfl⟩
  rw [hz2] at HC HF
  obtain ⟨n, hn⟩ : ∃ n, k.ps.length = n := ⟨_, rfl⟩
  obtain ⟨q, hq⟩ : ∃ q, k.lastI = q := ⟨_, rfl⟩
  obtain ⟨N, hN⟩ : ∃ N, L.length = N := ⟨_, rfl⟩
  have hval : k.val A c = .agg #[.int .i64 (k.o : Int), .int .i64 (k.l : Int), .int .i64 (k.m : Int), .slice A n c, .int .i64 (k.base : Int), .int .i64 q] := by unfold Kn.val; rw [hn, hq]
  rw [hval] at HT ⊢
  have kb0 := (KB.start w 48 (.int .i64 (k.o : Int)) (.int .i64 (k.l : Int)) (.int .i64 (k.m : Int)) (.slice A n c) (.int .i64 (k.base : Int)) (.int .i64 q)).alloc (.cells #[.int .i64 0, .int .i64 0, .int .i64 0, .slice none 0 0, .int .i64 0, .int .i64 0] 48)
  have kr0 := KB.start (w.alloc (.cells #[.int .i64 (k.o : Int), .int .i64 (k.l : Int), .int .i64 (k.m : Int), .slice A n c, .int .i64 (k.base : Int), .int .i64 q] 48)) 48 (.int .i64 0) (.int .i64 0) (.int .i64 0) (.slice none 0 0) (.int .i64 0) (.int .i64 0)
  rw [World.size_alloc] at kr0
  have hW0 := ((Below.refl w.heap.size w).alloc (Nat.le_refl _) (.cells #[.int .i64 (k.o : Int), .int .i64 (k.l : Int), .int .i64 (k.m : Int), .slice A n c, .int .i64 (k.base : Int), .int .i64 q] 48)).alloc (by simp) (.cells #[.int .i64 0, .int .i64 0, .int .i64 0, .slice none 0 0, .int .i64 0, .int .i64 0] 48)
  have hgoal : Hid (k.cleared.Valid ∧ k.Like k.cleared ∧ k.cleared.fits L) := Lib.hid ⟨Kn.cleared_valid h, k.like_cleared, k.like_cleared.fits hf⟩
  replace HC := Lib.hid HC
  replace HT := Lib.hid HT
  replace HF := Lib.hid HF
  replace hn := Lib.hid hn
  replace hq := Lib.hid hq
  replace hz2 := Lib.hid hz2
  replace hN := Lib.hid hN
  clear hA hval hz
  go_enter Tryz.func66, Tryz.ntmps66
  go_upto_region 1 with (fail)
  obtain ⟨w2, hw2⟩ : ∃ W, (w.alloc (.cells #[.int .i64 (k.o : Int), .int .i64 (k.l : Int), .int .i64 (k.m : Int), .slice A n c, .int .i64 (k.base : Int), .int .i64 q] 48)).alloc (.cells #[.int .i64 0, .int .i64 0, .int .i64 0, .slice none 0 0, .int .i64 0, .int .i64 0] 48) = W := ⟨_, rfl⟩
  have hs2 : w2.heap.size = w.heap.size + 2 := by rw [← hw2]; simp
  rw [hw2] at kb0 kr0 hW0 ⊢
  clear hw2
  have hX := Lib.hid (fun (W : World) (hb : Below w2.heap.size w2 W) => And.intro (kb0.below hb) (And.intro (kr0.below hb) (hW0.trans (hb.mono (show w.heap.size ≤ w2.heap.size by omega)))))
  have hT0 := Lib.hid (HT.out w2 hW0)
  clear hW0 kr0
  obtain ⟨⟨q0, q1, q2, q3, q4, q5⟩, z0, z1, z2, z3, z4, z5⟩ := kb0
  go_wp2_with fail
  refine hT0.out.mono ?_
  rintro e w3 ⟨rfl, t0, a0, ht0, hm0, hb3⟩
  obtain ⟨T, hT⟩ : ∃ T, w2.heap.size + 1 = T := ⟨_, rfl⟩
  rw [hT] at hm0 ⊢
  obtain ⟨⟨⟨q0, q1, q2, q3, q4, q5⟩, z0, z1, z2, z3, z4, z5⟩, _, _⟩ := hX.out _ hb3
  replace hb3 := Lib.hid hb3
  replace ht0 := Lib.hid ht0
  replace hm0 := Lib.hid hm0
  go_wp2_with fail
  refine (HC.out _).mono ?_
  rintro e w4 ⟨rfl, hb4⟩
  have hm4 := Lib.hid (hm0.out.below hb4)
  have hb4' := Lib.hid (hb3.out.trans (hb4.mono hb3.out.size))
  clear q0 q1 q2 q3 q4 q5 z0 z1 z2 z3 z4 z5 hb4 hb3 hm0
  go_wp2_with fail
  refine (HF.out _ _ _ _ ht0.out hm4.out).mono ?_
  rintro e w5 ⟨⟨v5, rfl⟩, t5, a5, ht5, hm5, hfr5⟩
  have hb5 := Lib.hid (hb4'.out.trans ((hfr5.since hm4.out).mono (by omega)))
  have hst : Hid (∃ t' a', TrOk k.cleared t' ∧ TrM k.cleared t' T a' w5 ∧ Below w2.heap.size w2 w5) := Lib.hid ⟨t5, a5, ht5, hm5, hb5.out⟩
  clear ht5 hm5 hfr5 hb5 hb4' hm4 ht0 HF HC hT0 HT
  go_wp2_with fail
  go_loopw [7, 8] (fun u v wr => ∃ (x i : Nat) (k' : Kn), u = .int .i64 (x : Int) ∧ v = .int .i64 (i : Int) ∧ i ≤ N ∧ Hid (k'.Valid ∧ k.Like k' ∧ k'.fits (L.drop i) ∧ ∃ f, (L.drop i).length ≤ f ∧ learnF L.length k.cleared L = learnF f k' (L.drop i)) ∧ Hid (∃ t' a', TrOk k' t' ∧ TrM k' t' T a' wr ∧ Below w2.heap.size w2 wr)) (fun _ v _ => N - (intOf v).toNat)
  case atStart => exact ⟨0, 0, k.cleared, rfl, rfl, Nat.zero_le _, Lib.hid ⟨hgoal.out.1, hgoal.out.2.1, hgoal.out.2.2, L.length, Nat.le_refl _, rfl⟩, hst⟩
  case round =>
    clear hst
    obtain ⟨x, i, k', rfl, rfl, hi, hS, hM⟩ := hrel
    have hN2 := hN.out
    have hsz : (bsL L).size = N := hN2
    obtain ⟨hv, hlk, hfi, f, hfl, hsem⟩ := hS.out
    obtain ⟨t', a', ht', hm', hb'⟩ := hM.out
    by_cases hlt : i < N
    · have h1i : (i : Int) < N := by omega
      obtain ⟨d, hd⟩ : ∃ d, L.drop i = d := ⟨_, rfl⟩
      rw [hd] at hfi hfl hsem
      have hdl : d.length = N - i := by rw [← hd, List.length_drop, hN2]
      have hdn : d ≠ [] := fun e => by rw [e] at hdl; simp at hdl; omega
      obtain ⟨y, e1, e2, e3, e4, e5, e6, e7⟩ := Kn.longest_take hv hdn hfi
      obtain ⟨b, r, hbr⟩ : ∃ b r, d = b :: r := by cases d with | nil => exact absurd rfl hdn | cons b r => exact ⟨b, r, rfl⟩
      have hex := bsL_from hd
      rw [hsz] at hex
      have hb0 : b.toNat < k'.clear := hfi b (by rw [hbr]; simp)
      obtain ⟨W, hW⟩ : ∃ W, (k'.longest d).length = W := ⟨_, rfl⟩
      have HLo := fun (wx : World) (hm : TrM k' t' T a' wx) => implLongest k' t' T a' b r wx hv ht' hm hb0 (by rw [← hbr]; omega)
      rw [← hbr, e1, hW] at HLo
      simp only [Option.getD_some] at HLo
      have HFo := fun (wx : World) (hm : TrM k' t' T a' wx) => implFollow k' t' T a' y wx hv ht' hm e2 (Kn.can_ne_clear hv e2)
      have hsem2 : Hid ((k'.after y).Valid ∧ k.Like (k'.after y) ∧ (k'.after y).fits (L.drop (i + W)) ∧ ∃ f, (L.drop (i + W)).length ≤ f ∧ learnF L.length k.cleared L = learnF f (k'.after y) (L.drop (i + W))) := by
        have hdd : L.drop (i + W) = d.drop W := by rw [← hd, List.drop_drop]
        rw [hdd]
        refine Lib.hid ⟨Kn.after_valid hv e2, hlk.trans (k'.like_after y), (k'.like_after y).fits (fits_drop hfi _), ?_⟩
        cases f with
        | zero => omega
        | succ f =>
          refine ⟨f, by rw [List.length_drop]; omega, ?_⟩
          rw [hsem, learnF, if_neg hdn, e1, hW]
          rfl
      have hiW : i + W ≤ N := by omega
      have hW1 : 1 ≤ W := by omega
      obtain ⟨iW, hiWe⟩ : ∃ s, i + W = s := ⟨_, rfl⟩
      rw [hiWe] at hiW hsem2
      have hiWi : (i : Int) + W = iW := by omega
      have wiW : IntKind.i64.wrap (iW : Int) = iW := IntWalk.i64_in _ (by omega)
      obtain ⟨i1, hi1⟩ : ∃ s, i + 1 = s := ⟨_, rfl⟩
      have hi1i : (i : Int) + 1 = i1 := by omega
      have wi1 : IntKind.i64.wrap (i1 : Int) = i1 := IntWalk.i64_in _ (by omega)
      have hmeas : N - iW < N - i := by omega
      replace hiWe := Lib.hid hiWe
      replace hi1 := Lib.hid hi1
      have hi0 : (0 : Int) ≤ i := by omega
      have hile : (i : Int) ≤ N := by omega
      obtain ⟨gb, hgb⟩ : ∃ gb : Bool, gb = decide k'.grows := ⟨_, rfl⟩
      have HG := fun (wx : World) => implGrows k' a'.Ak a'.ck gb wx hv (by rw [hgb]; exact decide_eq_true_iff)
      unfold Kn.val at HG
      obtain ⟨q0, q1, q2, q3, q4, q5, q6, q7⟩ := hm'.cells
      have HG2 := Lib.hid HG
      have HL2 := Lib.hid HLo
      have HF2 := Lib.hid HFo
      have hm2 := Lib.hid hm'
      have hb2 := Lib.hid hb'
      clear HG HLo HFo hm' hb' hv hlk hfi hfl hsem ht' e1 e2 e3 e4 e5 e6 e7 hd hbr hb0 hW hdn hS hM hN2 hgb f
      rcases gb with _ | _
      all_goals
        go_wp2_with fail
        refine (HG2.out _).mono ?_
        rintro e w6 ⟨rfl, hb6⟩
        have hm6 := Lib.hid (hm2.out.below hb6)
        have hb6' := Lib.hid (hb2.out.trans (hb6.mono hb2.out.size))
        clear q0 q1 q2 q3 q4 q5 q6 q7 hb6
        go_wp2_with fail
        refine (HL2.out _ hm6.out).mono ?_
        rintro e w7 ⟨rfl, hb7⟩
        have hm7 := Lib.hid (hm6.out.below hb7)
        have hb7' := Lib.hid (hb6'.out.trans (hb7.mono hb6'.out.size))
        clear hb7
        go_wp2_with fail
        refine (HF2.out _ hm7.out).mono ?_
        rintro e w8 ⟨⟨v8, rfl⟩, t8, a8, ht8, hm8, hfr8⟩
        have hinv : Hid (∃ t' a', TrOk (k'.after y) t' ∧ TrM (k'.after y) t' T a' w8 ∧ Below w2.heap.size w2 w8) := Lib.hid ⟨t8, a8, ht8, hm8, hb7'.out.trans ((hfr8.since hm7.out).mono (by omega))⟩
        clear ht8 hm8 hfr8
        go_wp2_with fail
        go_roundw
      case rel => exact ⟨_, iW, k'.after y, rfl, rfl, hiW, hsem2, hinv⟩
      case measure => exact hmeas
      case rel => exact ⟨_, iW, k'.after y, rfl, rfl, hiW, hsem2, hinv⟩
      case measure => exact hmeas
    · obtain rfl : i = N := by omega
      have hnil : L.drop i = [] := List.drop_eq_nil_of_le (by omega)
      have hfin : learnF L.length k.cleared L = k' := by
        rw [hsem, hnil]
        cases f with
        | zero => rfl
        | succ f => rw [learnF, if_pos rfl]
      have hll : k.learn L = { k' with base := k'.ps.length, last := none } := by unfold Kn.learn; rw [hfin]
      have hll' := Lib.hid hll
      have hnb : k'.ps.length ≤ 1023 := by have := hv.room; have := hv.pow; omega
      have HCp := implCopyKnown k' a'.Ak a'.ck wr.heap.size wr hv (Row.of_own hm'.kp) (Nat.le_refl _)
      obtain ⟨q0, q1, q2, q3, q4, q5, q6, q7⟩ := hm'.cells
      obtain ⟨n2, hn2⟩ : ∃ n2, k'.ps.length = n2 := ⟨_, rfl⟩
      obtain ⟨o2, ho2⟩ : ∃ x, k'.o = x := ⟨_, rfl⟩
      obtain ⟨l2, hl2⟩ : ∃ x, k'.l = x := ⟨_, rfl⟩
      obtain ⟨m2, hm2⟩ : ∃ x, k'.m = x := ⟨_, rfl⟩
      obtain ⟨b2, hb2⟩ : ∃ x, k'.base = x := ⟨_, rfl⟩
      have hval2 : ∀ A c, k'.val A c = .agg #[.int .i64 (o2 : Int), .int .i64 (l2 : Int), .int .i64 (m2 : Int), .slice A n2 c, .int .i64 (b2 : Int), .int .i64 k'.lastI] := fun A c => by unfold Kn.val; rw [hn2, ho2, hl2, hm2, hb2]
      rw [hval2] at HCp
      rw [hn2] at q3 hnb
      rw [ho2] at q0
      rw [hl2] at q1
      rw [hm2] at q2
      rw [hb2] at q4
      simp only [hval2] at HCp
      have hfval : ∀ A c, ({ k' with base := n2, last := none } : Kn).val A c = .agg #[.int .i64 (o2 : Int), .int .i64 (l2 : Int), .int .i64 (m2 : Int), .slice A n2 c, .int .i64 (n2 : Int), .int .i64 (-1)] := fun A c => by unfold Kn.val; rw [← hn2, ← ho2, ← hl2, ← hm2]; rfl
      have HC2 := Lib.hid HCp
      have hb2' := Lib.hid hb'
      have hfv := Lib.hid hfval
      have hn2' := Lib.hid hn2
      have hwz := hb'.size
      clear hfval hval2 HCp hb' hv hlk hfi hfl hsem hnil hfin hll ht' hS hM hN2 ho2 hl2 hm2 hb2 hn2 hm'
      go_wp2_with fail
      refine HC2.out.mono ?_
      rintro e w9 ⟨A9, c9, rfl, hown9, hb9⟩
      have hb9' := Lib.hid (hb2'.out.trans (hb9.mono hwz))
      have hnew9 : Hid (({ k' with base := n2, last := none } : Kn).New w9 wr.heap.size A9) := Lib.hid ⟨hown9.at, hown9.new⟩
      have hcap9 : n2 ≤ c9 := by have := hown9.cap; rw [hn2'.out] at this; exact this
      clear q0 q1 q2 q3 q4 q5 q6 q7 hb9 hown9
      go_upto_region 12 with (fail)
      have kg := KB.start w9 48 (.int .i64 (o2 : Int)) (.int .i64 (l2 : Int)) (.int .i64 (m2 : Int)) (.slice A9 n2 c9) (.int .i64 (b2 : Int)) (.int .i64 k'.lastI)
      have hb10 := (Below.refl w9.heap.size w9).alloc (Nat.le_refl _) (.cells #[.int .i64 (o2 : Int), .int .i64 (l2 : Int), .int .i64 (m2 : Int), .slice A9 n2 c9, .int .i64 (b2 : Int), .int .i64 k'.lastI] 48)
      obtain ⟨w10, hw10⟩ : ∃ W, w9.alloc (.cells #[.int .i64 (o2 : Int), .int .i64 (l2 : Int), .int .i64 (m2 : Int), .slice A9 n2 c9, .int .i64 (b2 : Int), .int .i64 k'.lastI] 48) = W := ⟨_, rfl⟩
      rw [hw10] at kg hb10 ⊢
      obtain ⟨G, hG⟩ : ∃ G, w9.heap.size = G := ⟨_, rfl⟩
      have hsz9 := hb9'.out.size
      have hb2x := hb2'.out.size
      have hB10 : Below w2.heap.size w2 w10 := hb9'.out.trans (hb10.mono hsz9)
      obtain ⟨_, kr, hW10⟩ := hX.out _ hB10
      rw [hG] at kg hb10 hsz9 ⊢
      have hb11 := (hb10.setCell (p := ⟨G, 4, none⟩) (Nat.le_refl _) (.int .i64 (n2 : Int))).setCell (p := ⟨G, 5, none⟩) (Nat.le_refl _) (.int .i64 (-1))
      have hW11 := (hW10.setCell (p := ⟨G, 4, none⟩) (show w.heap.size ≤ G by omega) (.int .i64 (n2 : Int))).setCell (p := ⟨G, 5, none⟩) (show w.heap.size ≤ G by omega) (.int .i64 (-1))
      have hfin := Lib.hid (below_set6 (H := w.heap.size + 1) hW11 (by omega) (.int .i64 (o2 : Int)) (.int .i64 (l2 : Int)) (.int .i64 (m2 : Int)) (.slice A9 n2 c9) (.int .i64 (n2 : Int)) (.int .i64 (-1)))
      have hnw := Lib.hid (((hnew9.out.below (by rw [hG]; exact hb11)).set6 (H := w.heap.size + 1) (by omega) (.int .i64 (o2 : Int)) (.int .i64 (l2 : Int)) (.int .i64 (m2 : Int)) (.slice A9 n2 c9) (.int .i64 (n2 : Int)) (.int .i64 (-1))).mono (base' := w.heap.size) (by omega))
      obtain ⟨⟨q0, q1, q2, q3, q4, q5⟩, z0, z1, z2, z3, z4, z5⟩ := kg
      obtain ⟨⟨r0, r1, r2, r3, r4, r5⟩, y0, y1, y2, y3, y4, y5⟩ := kr
      have hne1 : ¬ G = w.heap.size + 1 := by omega
      have hne2 : ¬ w.heap.size + 1 = G := by omega
      clear hw10 hb10 hB10 hW10 hb11 hW11 hnew9 hb9' hsz9 hG hs2 hwz hX hb2x
      go_wp2_with fail
      refine bodyPost_ret (v := .tuple #[.agg #[.int .i64 (o2 : Int), .int .i64 (l2 : Int), .int .i64 (m2 : Int), .slice A9 n2 c9, .int .i64 (n2 : Int), .int .i64 (-1)], .int .i64 (x : Int)]) (by simp [results, Tryz.results66, go_sem, r0, r1, r2, r3, r4, r5]) rfl ?_
      refine ⟨A9, c9, x, ?_, ?_, ?_, hfin.out⟩
      · rw [hll'.out, hn2'.out, hfv.out]
      · rw [hll'.out, hn2'.out]; exact hnw.out
      · rw [hll'.out]; show k'.ps.length ≤ c9; rw [hn2'.out]; exact hcap9

end Go.Proofs.YthlgpgaeajfchaaGreatDoor

namespace Go.Proofs.YthlgpgaeajfchaaGreatDoor
open Go.RowKit
set_option linter.unusedVariables false
set_option maxRecDepth 100000

set_option maxHeartbeats 4000000 in
theorem implLearnYes (k : Kn) (A : Option Addr) (c B : Nat) (L : List UInt8) (w : World) (h : k.Fresh) (hA : k.At w B A) (hB : B ≤ w.heap.size) (hc : k.ps.length ≤ c) (hf : dfits k.o k.l k.m L) :
    Calls Tryz.prog 43 #[k.val A c, .string (bsL L)] w fun e w' => ∃ A' c', e = .returned (.tuple #[(k.learn L).val A' c', .bool true]) ∧ (k.learn L).New w' w.heap.size A' ∧ (k.learn L).ps.length ≤ c' ∧ Below w.heap.size w w' := by
  have hff := h.val.dfits.1 hf
  have HK := fun W (hb : Below w.heap.size w W) => implKnownValid k A c B W h (hA.below hb hB) (Nat.le_trans hB hb.size)
  have HD := fun W => implDataFits k.o k.l k.m (bsL L) true W (by show L.length ≤ _; omega) (btrue hf)
  have HC := fun W (hb : Below w.heap.size w W) => implLearn k A c B L W h.val (hA.below hb hB) (Nat.le_trans hB hb.size) hff.2 hff.1
  obtain ⟨k2, hk2⟩ : ∃ R, k.learn L = R := ⟨_, rfl⟩
  rw [hk2] at HC ⊢
  obtain ⟨n, hn⟩ : ∃ x, k.ps.length = x := ⟨_, rfl⟩
  obtain ⟨o, ho⟩ : ∃ x, k.o = x := ⟨_, rfl⟩
  obtain ⟨l, hl'⟩ : ∃ x, k.l = x := ⟨_, rfl⟩
  obtain ⟨m, hm⟩ : ∃ x, k.m = x := ⟨_, rfl⟩
  obtain ⟨b, hb⟩ : ∃ x, k.base = x := ⟨_, rfl⟩
  obtain ⟨q, hq⟩ : ∃ x, k.lastI = x := ⟨_, rfl⟩
  have hval : k.val A c = .agg #[.int .i64 (o : Int), .int .i64 (l : Int), .int .i64 (m : Int), .slice A n c, .int .i64 (b : Int), .int .i64 q] := by unfold Kn.val; rw [hn, ho, hl', hm, hb, hq]
  rw [hval] at HK HC ⊢
  rw [ho, hl', hm] at HD
  replace HK := Lib.hid HK
  replace HC := Lib.hid HC
  replace HD := Lib.hid HD
  have kb0 := (KB.start w 48 (.int .i64 (o : Int)) (.int .i64 (l : Int)) (.int .i64 (m : Int)) (.slice A n c) (.int .i64 (b : Int)) (.int .i64 q)).alloc (.cells #[.int .i64 0, .int .i64 0, .int .i64 0, .slice none 0 0, .int .i64 0, .int .i64 0] 48)
  have kr0 := KB.start (w.alloc (.cells #[.int .i64 (o : Int), .int .i64 (l : Int), .int .i64 (m : Int), .slice A n c, .int .i64 (b : Int), .int .i64 q] 48)) 48 (.int .i64 0) (.int .i64 0) (.int .i64 0) (.slice none 0 0) (.int .i64 0) (.int .i64 0)
  rw [World.size_alloc] at kr0
  have hW0 := Lib.hid (((Below.refl w.heap.size w).alloc (Nat.le_refl _) (.cells #[.int .i64 (o : Int), .int .i64 (l : Int), .int .i64 (m : Int), .slice A n c, .int .i64 (b : Int), .int .i64 q] 48)).alloc (by simp) (.cells #[.int .i64 0, .int .i64 0, .int .i64 0, .slice none 0 0, .int .i64 0, .int .i64 0] 48))
  replace kb0 := Lib.hid kb0
  replace kr0 := Lib.hid kr0
  clear h hA hf hff hk2 hn ho hl' hm hb hq hval hc
  go_enter Tryz.func43, Tryz.ntmps43
  go_wp2_with fail
  refine (HK.out _ hW0.out).mono ?_
  rintro e w1 ⟨rfl, hb1⟩
  have hW1 := Lib.hid (hW0.out.trans (hb1.mono hW0.out.size))
  have kb1 := Lib.hid (kb0.out.below hb1)
  have kr1 := Lib.hid (kr0.out.below hb1)
  clear hb1 kb0 kr0 hW0
  obtain ⟨⟨q0, q1, q2, q3, q4, q5⟩, z0, z1, z2, z3, z4, z5⟩ := kb1.out
  go_wp2_with fail
  refine (HD.out _).mono ?_
  rintro e w2 ⟨rfl, hb2⟩
  have hW2 := Lib.hid (hW1.out.trans (hb2.mono hW1.out.size))
  have kb2 := Lib.hid (kb1.out.below hb2)
  have kr2 := Lib.hid (kr1.out.below hb2)
  clear q0 q1 q2 q3 q4 q5 z0 z1 z2 z3 z4 z5 hb2 kb1 kr1 hW1
  obtain ⟨⟨q0, q1, q2, q3, q4, q5⟩, z0, z1, z2, z3, z4, z5⟩ := kb2.out
  go_wp2_with fail
  refine (HC.out _ hW2.out).mono ?_
  rintro e w3 ⟨A3, c3, zz, rfl, hat, hcp, hb3⟩
  have hsz2 := kr2.out.lt
  have hb4 := hb3.alloc hb3.size (.cells #[.int .i64 (k2.o : Int), .int .i64 (k2.l : Int), .int .i64 (k2.m : Int), .slice A3 k2.ps.length c3, .int .i64 (k2.base : Int), .int .i64 k2.lastI] 48)
  have hat0 := hat.below ((Below.refl _ _).alloc (Nat.le_refl _) (.cells #[.int .i64 (k2.o : Int), .int .i64 (k2.l : Int), .int .i64 (k2.m : Int), .slice A3 k2.ps.length c3, .int .i64 (k2.base : Int), .int .i64 k2.lastI] 48))
  have kg := KB.start w3 48 (.int .i64 (k2.o : Int)) (.int .i64 (k2.l : Int)) (.int .i64 (k2.m : Int)) (.slice A3 k2.ps.length c3) (.int .i64 (k2.base : Int)) (.int .i64 k2.lastI)
  replace hb4 := Lib.hid hb4
  replace hat0 := Lib.hid hat0
  replace kg := Lib.hid kg
  unfold Kn.val
  clear q0 q1 q2 q3 q4 q5 z0 z1 z2 z3 z4 z5 hb3 hat
  go_upto_region 4 with (fail)
  obtain ⟨w4, hw4⟩ : ∃ W, w3.alloc (.cells #[.int .i64 (k2.o : Int), .int .i64 (k2.l : Int), .int .i64 (k2.m : Int), .slice A3 k2.ps.length c3, .int .i64 (k2.base : Int), .int .i64 k2.lastI] 48) = W := ⟨_, rfl⟩
  rw [hw4] at hb4 hat0 kg ⊢
  clear hw4
  have hat3 := hat0.out.set6 (H := w.heap.size + 1) hsz2 (.int .i64 (k2.o : Int)) (.int .i64 (k2.l : Int)) (.int .i64 (k2.m : Int)) (.slice A3 k2.ps.length c3) (.int .i64 (k2.base : Int)) (.int .i64 k2.lastI)
  have hW3 := below_set6 (H := w.heap.size + 1) (hW2.out.trans (hb4.out.mono hW2.out.size)) (by omega) (.int .i64 (k2.o : Int)) (.int .i64 (k2.l : Int)) (.int .i64 (k2.m : Int)) (.slice A3 k2.ps.length c3) (.int .i64 (k2.base : Int)) (.int .i64 k2.lastI)
  have hat4 := Lib.hid (hat3.mono hW2.out.size)
  replace hW3 := Lib.hid hW3
  obtain ⟨⟨r0, r1, r2, r3, r4, r5⟩, y0, y1, y2, y3, y4, y5⟩ := kr2.out.below hb4.out
  obtain ⟨⟨q0, q1, q2, q3, q4, q5⟩, z0, z1, z2, z3, z4, z5⟩ := kg.out
  clear hb4 kr2 kb2 hW2 hat3 kg hat0
  go_wp2_with fail
  refine bodyPost_ret (v := .tuple #[.agg #[.int .i64 (k2.o : Int), .int .i64 (k2.l : Int), .int .i64 (k2.m : Int), .slice A3 k2.ps.length c3, .int .i64 (k2.base : Int), .int .i64 k2.lastI], .bool true]) (by simp [results, Tryz.results43, go_sem, r0, r1, r2, r3, r4, r5]) rfl ?_
  exact ⟨A3, c3, rfl, hat4.out, hcp, hW3.out⟩

set_option maxHeartbeats 4000000 in
theorem implLearnNo (k : Kn) (A : Option Addr) (c B : Nat) (s : ByteArray) (w : World) (h : k.Fresh) (hA : k.At w B A) (hB : B ≤ w.heap.size) (hs : s.size ≤ 1048576) (hf : ¬ dfits k.o k.l k.m s.data.toList) :
    Calls Tryz.prog 43 #[k.val A c, .string s] w fun e w' => e = .returned (.tuple #[.agg #[.int .i64 0, .int .i64 0, .int .i64 0, .slice none 0 0, .int .i64 0, .int .i64 0], .bool false]) ∧ Below w.heap.size w w' := by
  have HK := fun W (hb : Below w.heap.size w W) => implKnownValid k A c B W h (hA.below hb hB) (Nat.le_trans hB hb.size)
  have HD := fun W => implDataFits k.o k.l k.m s false W hs (bfalse hf)
  obtain ⟨n, hn⟩ : ∃ x, k.ps.length = x := ⟨_, rfl⟩
  obtain ⟨o, ho⟩ : ∃ x, k.o = x := ⟨_, rfl⟩
  obtain ⟨l, hl'⟩ : ∃ x, k.l = x := ⟨_, rfl⟩
  obtain ⟨m, hm⟩ : ∃ x, k.m = x := ⟨_, rfl⟩
  obtain ⟨b, hb⟩ : ∃ x, k.base = x := ⟨_, rfl⟩
  obtain ⟨q, hq⟩ : ∃ x, k.lastI = x := ⟨_, rfl⟩
  have hval : k.val A c = .agg #[.int .i64 (o : Int), .int .i64 (l : Int), .int .i64 (m : Int), .slice A n c, .int .i64 (b : Int), .int .i64 q] := by unfold Kn.val; rw [hn, ho, hl', hm, hb, hq]
  rw [hval] at HK ⊢
  rw [ho, hl', hm] at HD
  replace HK := Lib.hid HK
  replace HD := Lib.hid HD
  have kb0 := (KB.start w 48 (.int .i64 (o : Int)) (.int .i64 (l : Int)) (.int .i64 (m : Int)) (.slice A n c) (.int .i64 (b : Int)) (.int .i64 q)).alloc (.cells #[.int .i64 0, .int .i64 0, .int .i64 0, .slice none 0 0, .int .i64 0, .int .i64 0] 48)
  have kr0 := KB.start (w.alloc (.cells #[.int .i64 (o : Int), .int .i64 (l : Int), .int .i64 (m : Int), .slice A n c, .int .i64 (b : Int), .int .i64 q] 48)) 48 (.int .i64 0) (.int .i64 0) (.int .i64 0) (.slice none 0 0) (.int .i64 0) (.int .i64 0)
  rw [World.size_alloc] at kr0
  have hW0 := Lib.hid (((Below.refl w.heap.size w).alloc (Nat.le_refl _) (.cells #[.int .i64 (o : Int), .int .i64 (l : Int), .int .i64 (m : Int), .slice A n c, .int .i64 (b : Int), .int .i64 q] 48)).alloc (by simp) (.cells #[.int .i64 0, .int .i64 0, .int .i64 0, .slice none 0 0, .int .i64 0, .int .i64 0] 48))
  replace kb0 := Lib.hid kb0
  replace kr0 := Lib.hid kr0
  clear h hA hf hn ho hl' hm hb hq hval
  go_enter Tryz.func43, Tryz.ntmps43
  go_wp2_with fail
  refine (HK.out _ hW0.out).mono ?_
  rintro e w1 ⟨rfl, hb1⟩
  have hW1 := Lib.hid (hW0.out.trans (hb1.mono hW0.out.size))
  have kb1 := Lib.hid (kb0.out.below hb1)
  have kr1 := Lib.hid (kr0.out.below hb1)
  clear hb1 kb0 kr0 hW0
  obtain ⟨⟨q0, q1, q2, q3, q4, q5⟩, z0, z1, z2, z3, z4, z5⟩ := kb1.out
  go_wp2_with fail
  refine (HD.out _).mono ?_
  rintro e w2 ⟨rfl, hb2⟩
  have hW2 := Lib.hid (below_set6 (H := w.heap.size + 1) (hW1.out.trans (hb2.mono hW1.out.size)) (by omega) (.int .i64 0) (.int .i64 0) (.int .i64 0) (.slice none 0 0) (.int .i64 0) (.int .i64 0))
  obtain ⟨⟨r0, r1, r2, r3, r4, r5⟩, y0, y1, y2, y3, y4, y5⟩ := kr1.out.below hb2
  clear q0 q1 q2 q3 q4 q5 z0 z1 z2 z3 z4 z5 hb2 kb1 kr1 hW1
  go_wp2_with fail
  refine bodyPost_ret (v := .tuple #[.agg #[.int .i64 0, .int .i64 0, .int .i64 0, .slice none 0 0, .int .i64 0, .int .i64 0], .bool false]) (by simp [results, Tryz.results43, go_sem, r0, r1, r2, r3, r4, r5]) rfl ?_
  exact ⟨rfl, hW2.out⟩

set_option maxHeartbeats 4000000 in
theorem implStartWithYes (o l m : Nat) (d : List UInt8) (w : World) (h : dfits o l m d) :
    Calls Tryz.prog 19 #[.agg #[.int .i64 (o : Int), .int .i64 (l : Int), .int .i64 (m : Int)], .string (bsL d)] w fun e w' => ∃ A' c', e = .returned (.tuple #[(Kn.dict o l m d).val A' c', .bool true]) ∧ (Kn.dict o l m d).New w' w.heap.size A' ∧ (Kn.dict o l m d).ps.length ≤ c' ∧ Below w.heap.size w w' := by
  have HS := fun W => implStartYes o l m W h.1
  have HL := fun (W : World) => implLearnYes (Kn.zero o l m) none 0 0 d W (Kn.zero_fresh h.1) Row.none_ (Nat.zero_le _) (Nat.le_refl _) h
  have hv0 : (Kn.zero o l m).val none 0 = .agg #[.int .i64 (o : Int), .int .i64 (l : Int), .int .i64 (m : Int), .slice none 0 0, .int .i64 0, .int .i64 (-1)] := rfl
  rw [hv0] at HL
  have hk : (Kn.zero o l m).learn d = Kn.dict o l m d := rfl
  rw [hk] at HL
  obtain ⟨k2, hk2⟩ : ∃ k2, Kn.dict o l m d = k2 := ⟨_, rfl⟩
  rw [hk2] at HL ⊢
  replace HS := Lib.hid HS
  replace HL := Lib.hid HL
  have kr0 := KB.start (w.alloc (.cells #[.int .i64 (o : Int), .int .i64 (l : Int), .int .i64 (m : Int)] 24)) 48 (.int .i64 0) (.int .i64 0) (.int .i64 0) (.slice none 0 0) (.int .i64 0) (.int .i64 0)
  rw [World.size_alloc] at kr0
  have hW0 := Lib.hid (((Below.refl w.heap.size w).alloc (Nat.le_refl _) (.cells #[.int .i64 (o : Int), .int .i64 (l : Int), .int .i64 (m : Int)] 24)).alloc (by simp) (.cells #[.int .i64 0, .int .i64 0, .int .i64 0, .slice none 0 0, .int .i64 0, .int .i64 0] 48))
  replace kr0 := Lib.hid kr0
  clear h hv0 hk hk2
  go_enter Tryz.func19, Tryz.ntmps19
  go_wp2_with fail
  refine (HS.out _).mono ?_
  rintro e w1 ⟨rfl, hb1⟩
  have hW1 := Lib.hid ((hW0.out.trans (hb1.mono hW0.out.size)).alloc (hW0.out.trans (hb1.mono hW0.out.size)).size (.cells #[.int .i64 (o : Int), .int .i64 (l : Int), .int .i64 (m : Int), .slice none 0 0, .int .i64 0, .int .i64 (-1)] 48))
  have kr1 := Lib.hid ((kr0.out.below hb1).alloc (.cells #[.int .i64 (o : Int), .int .i64 (l : Int), .int .i64 (m : Int), .slice none 0 0, .int .i64 0, .int .i64 (-1)] 48))
  have hsz1 := (kr0.out.below hb1).lt
  clear hb1 kr0 hW0
  go_wp2_with fail
  refine (HL.out _).mono ?_
  rintro e w3 ⟨A3, c3, rfl, hat, hcp, hb3⟩
  have hsz3 := kr1.out.lt
  have hat3 := hat.set6 (H := w.heap.size + 1) hsz3 (.int .i64 (k2.o : Int)) (.int .i64 (k2.l : Int)) (.int .i64 (k2.m : Int)) (.slice A3 k2.ps.length c3) (.int .i64 (k2.base : Int)) (.int .i64 k2.lastI)
  have hW3 := Lib.hid (below_set6 (H := w.heap.size + 1) (hW1.out.trans (hb3.mono hW1.out.size)) (by omega) (.int .i64 (k2.o : Int)) (.int .i64 (k2.l : Int)) (.int .i64 (k2.m : Int)) (.slice A3 k2.ps.length c3) (.int .i64 (k2.base : Int)) (.int .i64 k2.lastI))
  have hat4 := Lib.hid (hat3.mono hW1.out.size)
  obtain ⟨⟨r0, r1, r2, r3, r4, r5⟩, y0, y1, y2, y3, y4, y5⟩ := kr1.out.below hb3
  unfold Kn.val
  clear hb3 kr1 hW1 hat hat3
  go_wp2_with fail
  refine bodyPost_ret (v := .tuple #[.agg #[.int .i64 (k2.o : Int), .int .i64 (k2.l : Int), .int .i64 (k2.m : Int), .slice A3 k2.ps.length c3, .int .i64 (k2.base : Int), .int .i64 k2.lastI], .bool true]) (by simp [results, Tryz.results19, go_sem, r0, r1, r2, r3, r4, r5]) rfl ?_
  exact ⟨A3, c3, rfl, hat4.out, hcp, hW3.out⟩

set_option maxHeartbeats 1000000 in
theorem implStartWithBad (o l m : Int) (s : ByteArray) (w : World) (hsv : ¬ sv o l m) :
    Calls Tryz.prog 19 #[.agg #[.int .i64 o, .int .i64 l, .int .i64 m], .string s] w fun e w' => e = .returned (.tuple #[.agg #[.int .i64 0, .int .i64 0, .int .i64 0, .slice none 0 0, .int .i64 0, .int .i64 0], .bool false]) ∧ Below w.heap.size w w' := by
  have HS := Lib.hid (fun W => implStartNo o l m W hsv)
  have kr0 := KB.start (w.alloc (.cells #[.int .i64 o, .int .i64 l, .int .i64 m] 24)) 48 (.int .i64 0) (.int .i64 0) (.int .i64 0) (.slice none 0 0) (.int .i64 0) (.int .i64 0)
  rw [World.size_alloc] at kr0
  have hW0 := Lib.hid (((Below.refl w.heap.size w).alloc (Nat.le_refl _) (.cells #[.int .i64 o, .int .i64 l, .int .i64 m] 24)).alloc (by simp) (.cells #[.int .i64 0, .int .i64 0, .int .i64 0, .slice none 0 0, .int .i64 0, .int .i64 0] 48))
  replace kr0 := Lib.hid kr0
  clear hsv
  go_enter Tryz.func19, Tryz.ntmps19
  go_wp2_with fail
  refine (HS.out _).mono ?_
  rintro e w1 ⟨rfl, hb1⟩
  have hsz1 := (kr0.out.below hb1).lt
  have hW3 := Lib.hid (below_set6 (H := w.heap.size + 1) ((hW0.out.trans (hb1.mono hW0.out.size)).alloc (hW0.out.trans (hb1.mono hW0.out.size)).size (.cells #[.int .i64 0, .int .i64 0, .int .i64 0, .slice none 0 0, .int .i64 0, .int .i64 0] 48)) (by omega) (.int .i64 0) (.int .i64 0) (.int .i64 0) (.slice none 0 0) (.int .i64 0) (.int .i64 0))
  have hb1' := Lib.hid hb1
  clear hb1 hW0
  go_upto_region 3 with (fail)
  have kr1 := (kr0.out.below hb1'.out).alloc (.cells #[.int .i64 0, .int .i64 0, .int .i64 0, .slice none 0 0, .int .i64 0, .int .i64 0] 48)
  obtain ⟨w2, hw2⟩ : ∃ W, w1.alloc (.cells #[.int .i64 0, .int .i64 0, .int .i64 0, .slice none 0 0, .int .i64 0, .int .i64 0] 48) = W := ⟨_, rfl⟩
  rw [hw2] at kr1 hW3 ⊢
  obtain ⟨⟨r0, r1, r2, r3, r4, r5⟩, y0, y1, y2, y3, y4, y5⟩ := kr1
  clear kr0 hb1' hw2
  go_wp2_with fail
  refine bodyPost_ret (v := .tuple #[.agg #[.int .i64 0, .int .i64 0, .int .i64 0, .slice none 0 0, .int .i64 0, .int .i64 0], .bool false]) (by simp [results, Tryz.results19, go_sem, r0, r1, r2, r3, r4, r5]) rfl ?_
  exact ⟨rfl, hW3.out⟩

set_option maxHeartbeats 4000000 in
theorem implStartWithNo (o l m : Int) (s : ByteArray) (w : World) (hs : s.size ≤ 1048576) (h : ¬ dfits o l m s.data.toList) :
    Calls Tryz.prog 19 #[.agg #[.int .i64 o, .int .i64 l, .int .i64 m], .string s] w fun e w' => e = .returned (.tuple #[.agg #[.int .i64 0, .int .i64 0, .int .i64 0, .slice none 0 0, .int .i64 0, .int .i64 0], .bool false]) ∧ Below w.heap.size w w' := by
  by_cases hsv : sv o l m
  · obtain ⟨on, rfl⟩ : ∃ n : Nat, o = n := ⟨o.toNat, by have := hsv.1; omega⟩
    obtain ⟨ln, rfl⟩ : ∃ n : Nat, l = n := ⟨l.toNat, by have := hsv.2.1; omega⟩
    obtain ⟨mn, rfl⟩ : ∃ n : Nat, m = n := ⟨m.toNat, by have := hsv.2; omega⟩
    have HS := fun W => implStartYes on ln mn W hsv
    have HL := fun (W : World) => implLearnNo (Kn.zero on ln mn) none 0 0 s W (Kn.zero_fresh hsv) Row.none_ (Nat.zero_le _) hs h
    have hv0 : (Kn.zero on ln mn).val none 0 = .agg #[.int .i64 (on : Int), .int .i64 (ln : Int), .int .i64 (mn : Int), .slice none 0 0, .int .i64 0, .int .i64 (-1)] := rfl
    rw [hv0] at HL
    replace HS := Lib.hid HS
    replace HL := Lib.hid HL
    have kr0 := KB.start (w.alloc (.cells #[.int .i64 (on : Int), .int .i64 (ln : Int), .int .i64 (mn : Int)] 24)) 48 (.int .i64 0) (.int .i64 0) (.int .i64 0) (.slice none 0 0) (.int .i64 0) (.int .i64 0)
    rw [World.size_alloc] at kr0
    have hW0 := Lib.hid (((Below.refl w.heap.size w).alloc (Nat.le_refl _) (.cells #[.int .i64 (on : Int), .int .i64 (ln : Int), .int .i64 (mn : Int)] 24)).alloc (by simp) (.cells #[.int .i64 0, .int .i64 0, .int .i64 0, .slice none 0 0, .int .i64 0, .int .i64 0] 48))
    replace kr0 := Lib.hid kr0
    clear h hv0 hsv
    go_enter Tryz.func19, Tryz.ntmps19
    go_wp2_with fail
    refine (HS.out _).mono ?_
    rintro e w1 ⟨rfl, hb1⟩
    have hW1 := Lib.hid ((hW0.out.trans (hb1.mono hW0.out.size)).alloc (hW0.out.trans (hb1.mono hW0.out.size)).size (.cells #[.int .i64 (on : Int), .int .i64 (ln : Int), .int .i64 (mn : Int), .slice none 0 0, .int .i64 0, .int .i64 (-1)] 48))
    have kr1 := Lib.hid ((kr0.out.below hb1).alloc (.cells #[.int .i64 (on : Int), .int .i64 (ln : Int), .int .i64 (mn : Int), .slice none 0 0, .int .i64 0, .int .i64 (-1)] 48))
    have hsz1 := (kr0.out.below hb1).lt
    clear hb1 kr0 hW0
    go_wp2_with fail
    refine (HL.out _).mono ?_
    rintro e w3 ⟨rfl, hb3⟩
    have hW3 := Lib.hid (below_set6 (H := w.heap.size + 1) (hW1.out.trans (hb3.mono hW1.out.size)) (by omega) (.int .i64 0) (.int .i64 0) (.int .i64 0) (.slice none 0 0) (.int .i64 0) (.int .i64 0))
    obtain ⟨⟨r0, r1, r2, r3, r4, r5⟩, y0, y1, y2, y3, y4, y5⟩ := kr1.out.below hb3
    clear hb3 kr1 hW1
    go_wp2_with fail
    refine bodyPost_ret (v := .tuple #[.agg #[.int .i64 0, .int .i64 0, .int .i64 0, .slice none 0 0, .int .i64 0, .int .i64 0], .bool false]) (by simp [results, Tryz.results19, go_sem, r0, r1, r2, r3, r4, r5]) rfl ?_
    exact ⟨rfl, hW3.out⟩
  · exact implStartWithBad o l m s w hsv

end Go.Proofs.YthlgpgaeajfchaaGreatDoor
