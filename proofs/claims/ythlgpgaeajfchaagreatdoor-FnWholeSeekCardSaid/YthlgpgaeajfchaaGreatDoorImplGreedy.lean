/-
  The program's greedy: the codes of the longest words.
-/
import Derived.Test.YthlgpgaeajfchaaGreatDoorImplLearn
import Derived.Test.YthlgpgaeajfchaaGreatDoorKn
import Derived.Test.YthlgpgaeajfchaaGreatDoorInts
namespace Go.Proofs.YthlgpgaeajfchaaGreatDoor
open Go.RowKit
set_option linter.unusedVariables false
set_option maxRecDepth 100000

/-- A tree under what leaves its blocks as they were. -/
theorem TrM.keep {k : Kn} {t : Tr} {T : Nat} {a : TA} {w w' : World} {S : Nat → Prop} (h : TrM k t T a w) (hk : Keep S w w') (hS : ∀ g, a.blk T g → ¬ S g) : TrM k t T a w' :=
  ⟨h.box.keep hk (hS T (Or.inl rfl)), own_keep h.ns hk (fun g e => hS g (Or.inr (Or.inl (by rw [own_any] at e; exact e)))), own_keep h.pr hk (fun g e => hS g (Or.inr (Or.inr (Or.inl (by rw [own_any] at e; exact e))))), own_keep h.kp hk (fun g e => hS g (Or.inr (Or.inr (Or.inr (by rw [own_any] at e; exact e))))), h.ap1, h.ap2, h.ap3⟩

/-- A tree and a row of codes beside it. -/
structure GrM (k : Kn) (T : Nat) (B : Nat) (acc : List Nat) (v : Value) (w : World) : Prop where
  tr : ∃ t a, TrOk k t ∧ TrM k t T a w ∧ ∀ g, v.ownBlock = some g → ¬ a.blk T g
  row : w.ownsRow B 3 1 v acc.length (acc.map natV)

theorem GrM.below {k : Kn} {T B : Nat} {acc : List Nat} {v : Value} {w w' : World} (h : GrM k T B acc v w) (hb : Below w.heap.size w w') : GrM k T B acc v w' := by
  obtain ⟨⟨t, a, h1, h2, h3⟩, h4⟩ := h
  exact ⟨⟨t, a, h1, h2.below hb, h3⟩, own_below h4 hb (Nat.le_refl _)⟩

/-- A call on the tree. -/
theorem GrM.call {k2 : Kn} {t2 : Tr} {T B : Nat} {acc : List Nat} {v : Value} {w w' : World} {a a2 : TA} (h4 : w.ownsRow B 3 1 v acc.length (acc.map natV)) (h3 : ∀ g, v.ownBlock = some g → ¬ a.blk T g)
    (ht : TrOk k2 t2) (hm : TrM k2 t2 T a2 w') (hf : Fr T a a2 w w') : GrM k2 T B acc v w' := by
  obtain ⟨h5, h6⟩ := hf.own h4 h3
  exact ⟨⟨t2, a2, ht, hm, h6⟩, h5⟩

/-- A code is appended. -/
theorem GrM.push {k : Kn} {T B y : Nat} {acc : List Nat} {v v' : Value} {w w' : World} {o : Obj} (h : GrM k T B acc v w) (hv : w'.ownsRow B 3 1 v' (acc.length + 1) (acc.map natV ++ [.int .i64 (y : Int)])) (hg : (w.alloc o).grownBy w' v.ownBlock) (hat : v'.ownBlock = v.ownBlock ∨ v'.ownBlock = some (w.heap.size + 1)) :
    GrM k T B (acc ++ [y]) v' w' := by
  obtain ⟨⟨t, a, h1, h2, h3⟩, h4⟩ := h
  refine ⟨⟨t, a, h1, h2.keep (Keep.of_row hg) (fun g e1 e2 => h3 g e2 e1), fun g e1 e2 => ?_⟩, ?_⟩
  · rcases hat with h5 | h5
    · rw [h5] at e1; exact h3 g e1 e2
    · rw [h5] at e1
      injection e1 with e1
      have := (h2.blk_lt e2).2
      omega
  · rw [List.length_append, List.map_append]
    exact hv

theorem greedyI_step {f : Nat} {k : Kn} {d : List UInt8} (hd : d ≠ []) (hf : d.length ≤ f) : ∃ f0, d.length ≤ f0 + 1 ∧
    (k.full → greedyI f k d = k.clear :: (k.cleared.find (k.cleared.longest d)).getD 0 :: greedyI f0 (k.cleared.after ((k.cleared.find (k.cleared.longest d)).getD 0)) (d.drop (k.cleared.longest d).length)) ∧
    (¬ k.full → greedyI f k d = (k.find (k.longest d)).getD 0 :: greedyI f0 (k.after ((k.find (k.longest d)).getD 0)) (d.drop (k.longest d).length)) := by
  cases f with
  | zero => exact absurd (List.eq_nil_of_length_eq_zero (by omega)) hd
  | succ f =>
    refine ⟨f, hf, fun h => ?_, fun h => ?_⟩
    · rw [greedyI, if_neg hd, if_pos h]
    · rw [greedyI, if_neg hd, if_neg h]

theorem greedyI_nil (f : Nat) (k : Kn) : greedyI f k [] = [k.fin] := by
  cases f with
  | zero => rfl
  | succ f => rw [greedyI, if_pos rfl]

set_option maxHeartbeats 8000000 in
theorem implGreedy (k : Kn) (A : Option Addr) (c B : Nat) (L : List UInt8) (w : World) (h : k.Valid) (hA : k.At w B A) (hB : B ≤ w.heap.size) (hf : k.fits L) (hL : L.length ≤ 2000) :
    Calls Tryz.prog 127 #[k.val A c, .string (bsL L)] w fun e w' => ∃ A' c', e = .returned (.slice A' (k.greedy L).length c') ∧ w'.ownsRow w.heap.size 3 1 (.slice A' (k.greedy L).length c') (k.greedy L).length ((k.greedy L).map natV) ∧ Below w.heap.size w w' := by
  have HC := fun W => implClearCode k.o k.l k.m W h.sv
  have hz : 2 ^ k.l = k.clear := rfl
  rw [hz] at HC
  have HE := fun W => implEndCode k.o k.l k.m W h.sv
  have hz3 : 2 ^ k.l + 1 = k.fin := rfl
  rw [hz3] at HE
  have HT := fun (W : World) (hb : Below w.heap.size w W) => implNewTree k A c B W h (hA.below hb hB) (Nat.le_trans hB hb.size)
  have HF := fun (t : Tr) (T : Nat) (a : TA) (W : World) (ht : TrOk k t) (hm : TrM k t T a W) => implFollowClear k t T a W h ht hm
  have HFC := fun (k' : Kn) (hv : k'.Valid) (hlk : k.Like k') (t : Tr) (T : Nat) (a : TA) (W : World) (ht : TrOk k' t) (hm : TrM k' t T a W) => implFollowClear k' t T a W hv ht hm
  have hcl : ∀ k', k.Like k' → k'.clear = k.clear := fun k' hlk => hlk.clear
  have hpw := h.pow
  have hfe := k.fin_eq
  have hG0 := Kn.greedy_impl h hf
  have hlenG := Kn.greedy_len h hf
  obtain ⟨z, hz2⟩ : ∃ z, k.clear = z := ⟨_, rfl⟩
  obtain ⟨fi, hfin⟩ : ∃ z, k.fin = z := ⟨_, rfl⟩
  have hzb : z ≤ 256 := by omega
  have hfib : fi ≤ 300 := by omega
  rw [hz2] at HC HF
  rw [hfin] at HE
  obtain ⟨n, hn⟩ : ∃ n, k.ps.length = n := ⟨_, rfl⟩
  obtain ⟨q, hq⟩ : ∃ q, k.lastI = q := ⟨_, rfl⟩
  have hval : k.val A c = .agg #[.int .i64 (k.o : Int), .int .i64 (k.l : Int), .int .i64 (k.m : Int), .slice A n c, .int .i64 (k.base : Int), .int .i64 q] := by unfold Kn.val; rw [hn, hq]
  rw [hval] at HT ⊢
  have kb0 := KB.start w 48 (.int .i64 (k.o : Int)) (.int .i64 (k.l : Int)) (.int .i64 (k.m : Int)) (.slice A n c) (.int .i64 (k.base : Int)) (.int .i64 q)
  have hW0 := (Below.refl w.heap.size w).alloc (Nat.le_refl _) (.cells #[.int .i64 (k.o : Int), .int .i64 (k.l : Int), .int .i64 (k.m : Int), .slice A n c, .int .i64 (k.base : Int), .int .i64 q] 48)
  have hgoal : Hid (k.cleared.Valid ∧ k.Like k.cleared ∧ k.cleared.fits L ∧ k.greedy L = [z] ++ greedyI L.length k.cleared L) := Lib.hid ⟨Kn.cleared_valid h, k.like_cleared, k.like_cleared.fits hf, by rw [hG0, hz2]; rfl⟩
  replace HC := Lib.hid HC
  replace HE := Lib.hid HE
  replace HT := Lib.hid HT
  replace HF := Lib.hid HF
  replace HFC := Lib.hid HFC
  have hlenG2 : Hid ((k.greedy L).length ≤ 4000) := Lib.hid (by omega)
  have hz2' := Lib.hid hz2
  have hfin' := Lib.hid hfin
  replace hcl := Lib.hid hcl
  clear hA hval hz hz3 hn hq hG0 hpw hfe hlenG hz2 hfin
  go_enter Tryz.func127, Tryz.ntmps127
  go_upto_region 1 with (fail)
  obtain ⟨w2, hw2⟩ : ∃ W, w.alloc (.cells #[.int .i64 (k.o : Int), .int .i64 (k.l : Int), .int .i64 (k.m : Int), .slice A n c, .int .i64 (k.base : Int), .int .i64 q] 48) = W := ⟨_, rfl⟩
  rw [hw2] at kb0 hW0 ⊢
  clear hw2
  have hX := Lib.hid (fun (W : World) (hb : Below w2.heap.size w2 W) => And.intro (kb0.below hb).c (hW0.trans (hb.mono hW0.size)))
  obtain ⟨⟨q0, q1, q2, q3, q4, q5⟩, _⟩ := kb0
  have hww := hW0.size
  clear hW0
  refine wp_region_cls (by kernel_rfl) (by kernel_rfl) ?_
  have c0 := clsCell q0
  have c1 := clsCell q1
  have c2 := clsCell q2
  repeat (go_big_quiet_step (first | (go_at_call 91; exact clsCall (HC.out _)) | (go_at_call 89; exact clsCall (HE.out _))))
  refine wpQuiet_nil ?_
  rintro w3 ⟨⟨w3, hb3⟩, rfl⟩
  clear c0 c1 c2 q0 q1 q2 q3 q4 q5
  obtain ⟨⟨q0, q1, q2, q3, q4, q5⟩, hW3⟩ := hX.out _ hb3
  have hT3 := Lib.hid (HT.out _ hW3)
  replace hb3 := Lib.hid hb3
  clear hW3
  go_wp2_with fail
  refine hT3.out.mono ?_
  rintro e w4 ⟨rfl, t0, a0, ht0, hm0, hb4⟩
  obtain ⟨T, hT⟩ : ∃ T, w3.heap.size + 1 = T := ⟨_, rfl⟩
  rw [hT] at hm0 ⊢
  have hb4' := Lib.hid (hb3.out.trans (hb4.mono hb3.out.size))
  have hTw : w2.heap.size ≤ T := by have := hb3.out.size; omega
  replace hT := Lib.hid hT
  replace ht0 := Lib.hid ht0
  replace hm0 := Lib.hid hm0
  clear q0 q1 q2 q3 q4 q5 hb4 hb3
  go_wp2_with fail
  refine (HF.out _ _ _ _ ht0.out hm0.out).mono ?_
  rintro e w5 ⟨⟨v5, rfl⟩, t5, a5, ht5, hm5, hfr5⟩
  have hb5 := Lib.hid (hb4'.out.trans ((hfr5.since hm0.out).mono hTw))
  have hT5 := hm5.box.lt
  have hst : Hid (GrM k.cleared T w2.heap.size [z] (.slice (some ⟨w5.heap.size, 0, none⟩) 1 1) (w5.alloc (.cells #[.int .i64 (z : Int)] 3)) ∧ Below w2.heap.size w2 (w5.alloc (.cells #[.int .i64 (z : Int)] 3))) := Lib.hid (by
    have hs5 := hb5.out.size
    refine ⟨⟨⟨t5, a5, ht5, hm5.below ((Below.refl _ _).alloc (Nat.le_refl _) _), fun g e1 e2 => ?_⟩, ?_⟩, hb5.out.alloc hs5 _⟩
    · have := (hm5.blk_lt e2).2
      injection e1 with e1
      have e1' : w5.heap.size = g := e1
      omega
    · exact World.ownsRow_lit (base := w2.heap.size) (size := 1) (e := 3) w5 #[.int .i64 (z : Int)] 1 hs5 (by unfold maxLen; omega) rfl)
  clear ht5 hm5 hfr5 hb5 hb4' hm0 ht0 HF HC HE hT3 HT
  go_wp2_with fail
  go_loopw [1, 8] (fun u v wr => ∃ (d : List UInt8) (k' : Kn) (acc : List Nat) (m cc : Nat) (Ac : Option Addr), u = .string (bsL d) ∧ v = .slice Ac m cc ∧ m ≤ 5000 ∧ Hid (acc.length = m) ∧ Hid (k'.Valid ∧ k.Like k' ∧ k'.fits d ∧ d.length ≤ L.length ∧ ∃ f, d.length ≤ f ∧ k.greedy L = acc ++ greedyI f k' d) ∧ Hid (GrM k' T w2.heap.size acc (.slice Ac m cc) wr ∧ Below w2.heap.size w2 wr)) (fun u _ _ => szOf u)
  case atStart => exact ⟨L, k.cleared, [z], 1, 1, _, rfl, rfl, by omega, Lib.hid rfl, Lib.hid ⟨hgoal.out.1, hgoal.out.2.1, hgoal.out.2.2.1, Nat.le_refl _, L.length, Nat.le_refl _, hgoal.out.2.2.2⟩, hst⟩
  case round =>
    clear hst hT5
    obtain ⟨d, k', acc, m, cc, Ac, rfl, rfl, hm5000, hma, hS, hM⟩ := hrel
    obtain ⟨hv, hlk, hfi, hdl, f, hfl, hsem⟩ := hS.out
    have hcmp : d.isEmpty = decide (d = []) := by cases d <;> rfl
    by_cases hdn : d = []
    · have hfin : k.greedy L = acc ++ [fi] := by rw [hsem, hdn, greedyI_nil, hlk.fin, hfin'.out]
      rw [decide_eq_true hdn] at hcmp
      have hglen : (k.greedy L).length = m + 1 := by rw [hfin, List.length_append, hma.out]; rfl
      replace hfin := Lib.hid hfin
      replace hglen := Lib.hid hglen
      have hO := hM.out.1.row
      rw [hma.out] at hO
      have hbw := Lib.hid hM.out.2
      have hws := hM.out.2.size
      clear hM hS hv hlk hfi hdl hfl hsem hdn
      go_wp2_with (first
        | (at_builtin; refine wpList_append_row _ elemInt rfl (.tmp 54) (.tmp 56) rfl w2.heap.size _ _ _ rfl (hO.alloc _) _ _ 1 1 [.int .i64 (fi : Int)] rfl (Row.newAt _ _ rfl _ [.int .i64 (fi : Int)] 1 1 rfl) ?_ ?_ ?_ ?_ ?_))
      · first | rfl | (intro z hz; simp at hz; subst hz; rfl)
      · unfold maxLen; omega
      · omega
      · first | omega | (simp; omega)
      · intro v6 w6 hv6 hg6 _
        obtain ⟨A6, c6, rfl, _, _⟩ := own_form hv6
        have hB6 := (hbw.out.alloc hws _).grown hg6 (by simp; omega) (fun g hg => (hO.lt g hg).1)
        have hfinal := Lib.hid (hX.out _ hB6).2
        have hv6' := Lib.hid hv6
        clear hv6 hg6 hB6 hO
        go_wp2_with fail
        go_ret
        refine ⟨A6, c6, by rw [hglen.out]; rfl, ?_, hfinal.out⟩
        rw [hglen.out, hfin.out, List.map_append]
        exact own_base hv6'.out hww
    · rw [decide_eq_false hdn] at hcmp
      have hd1 : 1 ≤ d.length := by cases d with | nil => exact absurd rfl hdn | cons b r => simp
      obtain ⟨f0, hf0, hfull, hnot⟩ := greedyI_step (k := k') hdn hfl
      obtain ⟨⟨t', a', ht', hm', hr'⟩, hrow⟩ := hM.out.1
      obtain ⟨q0, q1, q2, q3, q4, q5, q6, q7⟩ := hm'.cells
      by_cases hgb : k'.full
      · have HI := Lib.hid (fun (W : World) => implIsFull k' a'.Ak a'.ck true W hv (btrue hgb))
        have HI2 := HI.out
        unfold Kn.val at HI2
        replace HI2 := Lib.hid HI2
        have hC := fun (W : World) (hm : TrM k' t' T a' W) => HFC.out k' hv hlk t' T a' W ht' hm
        rw [hcl.out k' hlk, hz2'.out] at hC
        replace hC := Lib.hid hC
        obtain ⟨k2, hk2⟩ : ∃ k2, k'.cleared = k2 := ⟨_, rfl⟩
        have hv2 := Kn.cleared_valid hv
        have hlk2 := hlk.trans k'.like_cleared
        have hfi2 := k'.like_cleared.fits hfi
        have hsem2 := hsem.trans (congrArg (acc ++ ·) (hfull hgb))
        simp only [hcl.out k' hlk, hz2'.out] at hsem2
        rw [show acc ++ z :: ((k'.cleared.find (k'.cleared.longest d)).getD 0 :: greedyI f0 (k'.cleared.after ((k'.cleared.find (k'.cleared.longest d)).getD 0)) (List.drop (k'.cleared.longest d).length d)) = (acc ++ [z]) ++ ((k'.cleared.find (k'.cleared.longest d)).getD 0 :: greedyI f0 (k'.cleared.after ((k'.cleared.find (k'.cleared.longest d)).getD 0)) (List.drop (k'.cleared.longest d).length d)) by simp] at hsem2
        rw [hk2] at hv2 hlk2 hfi2 hsem2
        have hm1 : m + 1 ≤ 5000 := by
          have h1 := hlenG2.out
          have h2 := hma.out
          rw [hsem2, List.length_append, List.length_append, List.length_cons] at h1
          simp only [List.length_cons, List.length_nil] at h1
          omega
        replace hm' := Lib.hid hm'
        replace hr' := Lib.hid hr'
        replace hrow := Lib.hid hrow
        replace hk2 := Lib.hid hk2
        have hv2' := Lib.hid hv2
        have hlk2' := Lib.hid hlk2
        have hfi2' := Lib.hid hfi2
        have hsem2' := Lib.hid hsem2
        have hdn' := Lib.hid hdn
        clear HI hfull hnot hgb hS hv hlk hfi hsem hfl ht' hv2 hlk2 hfi2 hsem2 hdn
        go_wp2_with fail
        refine (HI2.out _).mono ?_
        rintro e w6 ⟨rfl, hb6⟩
        have hm6 := Lib.hid (hm'.out.below hb6)
        have hrow6 := Lib.hid (own_below hrow.out hb6 (Nat.le_refl _))
        have hB6 := Lib.hid (hM.out.2.trans (hb6.mono hM.out.2.size))
        clear q0 q1 q2 q3 q4 q5 q6 q7 hb6
        go_wp2_with fail
        refine (hC.out _ hm6.out).mono ?_
        rintro e w7 ⟨⟨v7, rfl⟩, t7, a7, ht7, hm7, hfr7⟩
        rw [hk2.out] at ht7 hm7
        have M7 := GrM.call hrow6.out hr'.out ht7 hm7 hfr7
        have hB7 := Lib.hid (hB6.out.trans ((hfr7.since hm6.out).mono hTw))
        have hrow7 := M7.row
        rw [hma.out] at hrow7
        replace M7 := Lib.hid M7
        have hs7 := hB7.out.size
        clear ht7 hm7 hfr7 hm6 hrow6 hB6 hr' hrow hm'
        go_wp2_with (first
          | (at_builtin; refine wpList_append_row _ elemInt rfl (.tmp 34) (.tmp 36) rfl w2.heap.size _ _ _ rfl (hrow7.alloc _) _ _ 1 1 [.int .i64 (z : Int)] rfl (Row.newAt _ _ rfl _ [.int .i64 (z : Int)] 1 1 rfl) ?_ ?_ ?_ ?_ ?_))
        · first | rfl | (intro z hz; simp at hz; subst hz; rfl)
        · unfold maxLen; omega
        · omega
        · first | omega | (simp; omega)
        · intro v8 wx hv8 hg8 hat8
          obtain ⟨A8, c8, rfl, _, _⟩ := own_form hv8
          have M := Lib.hid (And.intro (GrM.push M7.out (by rw [hma.out]; exact hv8) hg8 (by simpa using hat8)) ((hB7.out.alloc hs7 _).grown hg8 (by simp; omega) (fun g hg => (hrow7.lt g hg).1)))
          clear hv8 hg8 hat8 hrow7 M7
          have hma2 : Hid ((acc ++ [z]).length = m + 1) := Lib.hid (by rw [List.length_append, hma.out]; rfl)
          obtain ⟨acc2, hacc2⟩ : ∃ a, acc ++ [z] = a := ⟨_, rfl⟩
          obtain ⟨m2, hm2e⟩ : ∃ a, m + 1 = a := ⟨_, rfl⟩
          have hv2 := hv2'.out
          have hlk2 := hlk2'.out
          have hfi2 := hfi2'.out
          have hsem2 := hsem2'.out
          have hdn := hdn'.out
          clear hv2' hlk2' hfi2' hsem2'
          rw [hacc2] at M hma2 hsem2
          rw [hm2e] at M hma2 hm1 ⊢
          clear hacc2 hm2e hma
          obtain ⟨y, e1, e2, e3, e4, e5, e6, e7⟩ := Kn.longest_take hv2 hdn hfi2
          obtain ⟨b, r, hbr⟩ : ∃ b r, d = b :: r := by cases d with | nil => exact absurd rfl hdn | cons b r => exact ⟨b, r, rfl⟩
          have hb0 : b.toNat < k2.clear := hfi2 b (by rw [hbr]; simp)
          obtain ⟨W, hW⟩ : ∃ W, (k2.longest d).length = W := ⟨_, rfl⟩
          obtain ⟨⟨t2, a2, ht2, hm2, hr2⟩, hrow2⟩ := M.out.1
          have HLo := implLongest k2 t2 T a2 b r wx hv2 ht2 hm2 hb0 (by rw [← hbr]; omega)
          rw [← hbr, e1, hW] at HLo
          simp only [Option.getD_some] at HLo
          have HFo := fun (W : World) (hm : TrM k2 t2 T a2 W) => implFollow k2 t2 T a2 y W hv2 ht2 hm e2 (Kn.can_ne_clear hv2 e2)
          rw [e1, hW] at hsem2
          simp only [Option.getD_some] at hsem2
          rw [hW] at e4 e5 e6 e7
          obtain ⟨R, hR⟩ : ∃ R, d.drop W = R := ⟨_, rfl⟩
          rw [hR] at hsem2
          have hRl : R.length + W = d.length := by rw [← hR, List.length_drop]; omega
          have hex := bsL_from (L := d) (i := W) hR
          have hsem3 : Hid ((k2.after y).Valid ∧ k.Like (k2.after y) ∧ (k2.after y).fits R ∧ R.length ≤ L.length ∧ ∃ f, R.length ≤ f ∧ k.greedy L = (acc2 ++ [y]) ++ greedyI f (k2.after y) R) :=
            Lib.hid ⟨Kn.after_valid hv2 e2, hlk2.trans (k2.like_after y), (k2.like_after y).fits (by rw [← hR]; exact fits_drop hfi2 _), by omega, f0, by omega, by rw [hsem2]; simp⟩
          have hacc : m2 + 1 ≤ 5000 := by
            have h1 := hlenG2.out
            have h2 := hma2.out
            rw [hsem2, List.length_append, List.length_cons] at h1
            omega
          have hmeas : R.length < d.length := by omega
          have hds : (bsL d).size = d.length := rfl
          rw [hds] at hex
          have hWd : (W : Int) ≤ d.length := by omega
          have hW0 : (0 : Int) ≤ W := by omega
          have hy1 : y ≤ 1023 := by have := Kn.can_great hv2 e2; have := Kn.great_bounds hv2; have := hv2.pow; omega
          have hm2' := Lib.hid hm2
          have hr2' := Lib.hid hr2
          have hrow2' := Lib.hid hrow2
          have HL2 := Lib.hid HLo
          have HF2 := Lib.hid HFo
          replace hmeas := Lib.hid hmeas
          clear HLo HFo hlk2 hfi2 hsem2 e1 e2 e3 e4 e5 e6 e7 hbr hb0 hW hdn hR hv2 hm2 hr2 hrow2 ht2 hRl
          go_wp2_with fail
          refine HL2.out.mono ?_
          rintro e w10 ⟨rfl, hb10⟩
          have hm10 := Lib.hid (hm2'.out.below hb10)
          have hrow10 := Lib.hid (own_below hrow2'.out hb10 (Nat.le_refl _))
          have hB10 := Lib.hid (M.out.2.trans (hb10.mono M.out.2.size))
          clear hb10
          go_wp2_with fail
          refine (HF2.out _ hm10.out).mono ?_
          rintro e w11 ⟨⟨v11, rfl⟩, t11, a11, ht11, hm11, hfr11⟩
          have M11 := GrM.call hrow10.out hr2'.out ht11 hm11 hfr11
          have hB11 := Lib.hid (hB10.out.trans ((hfr11.since hm10.out).mono hTw))
          have hrow11 := M11.row
          rw [hma2.out] at hrow11
          replace M11 := Lib.hid M11
          have hs11 := hB11.out.size
          clear ht11 hm11 hfr11 hm10 hrow10 hB10 hr2' hrow2' hm2'
          go_wp2_with (first
            | (at_builtin; refine wpList_append_row _ elemInt rfl (.tmp 47) (.tmp 49) rfl w2.heap.size _ _ _ rfl (hrow11.alloc _) _ _ 1 1 [.int .i64 (y : Int)] rfl (Row.newAt _ _ rfl _ [.int .i64 (y : Int)] 1 1 rfl) ?_ ?_ ?_ ?_ ?_))
          · first | rfl | (intro z hz; simp at hz; subst hz; rfl)
          · unfold maxLen; omega
          · omega
          · first | omega | (simp; omega)
          · intro v12 w12 hv12 hg12 hat12
            obtain ⟨A12, c12, rfl, _, _⟩ := own_form hv12
            have hmm : (acc2 ++ [y]).length = m2 + 1 := by rw [List.length_append, hma2.out]; rfl
            have M12 := Lib.hid (GrM.push M11.out (by rw [hma2.out]; exact hv12) hg12 (by simpa using hat12))
            have hB12 := Lib.hid ((hB11.out.alloc hs11 _).grown hg12 (by simp; omega) (fun g hg => (hrow11.lt g hg).1))
            replace hmm := Lib.hid hmm
            clear hv12 hg12 hat12 hrow11 M11
            go_wp2_with fail
            go_roundw
            case rel => exact ⟨R, k2.after y, acc2 ++ [y], m2 + 1, c12, A12, rfl, rfl, hacc, hmm, hsem3, Lib.hid ⟨M12.out, hB12.out⟩⟩
            case measure => simp only [szOf]; exact hmeas.out
      · have HI := Lib.hid (fun (W : World) => implIsFull k' a'.Ak a'.ck false W hv (bfalse hgb))
        have HI2 := HI.out
        unfold Kn.val at HI2
        replace HI2 := Lib.hid HI2
        have hsem2 := hsem.trans (congrArg (acc ++ ·) (hnot hgb))
        have hv2 := hv
        have hlk2 := hlk
        have hfi2 := hfi
        have hv2' := Lib.hid hv2
        have hlk2' := Lib.hid hlk2
        have hfi2' := Lib.hid hfi2
        have hsem2' := Lib.hid hsem2
        have hdn' := Lib.hid hdn
        clear HI hfull hnot hgb hS hv hlk hfi hsem hfl hv2 hlk2 hfi2 hsem2 hdn ht' hm' hr' hrow
        go_wp2_with fail
        refine (HI2.out _).mono ?_
        rintro e wx ⟨rfl, hb6⟩
        have M := Lib.hid (And.intro (hM.out.1.below hb6) (hM.out.2.trans (hb6.mono hM.out.2.size)))
        clear q0 q1 q2 q3 q4 q5 q6 q7 hb6 hM
        have hv2 := hv2'.out
        have hlk2 := hlk2'.out
        have hfi2 := hfi2'.out
        have hsem2 := hsem2'.out
        have hdn := hdn'.out
        clear hv2' hlk2' hfi2' hsem2'
        have hma2 := hma
        obtain ⟨y, e1, e2, e3, e4, e5, e6, e7⟩ := Kn.longest_take hv2 hdn hfi2
        obtain ⟨b, r, hbr⟩ : ∃ b r, d = b :: r := by cases d with | nil => exact absurd rfl hdn | cons b r => exact ⟨b, r, rfl⟩
        have hb0 : b.toNat < k'.clear := hfi2 b (by rw [hbr]; simp)
        obtain ⟨W, hW⟩ : ∃ W, (k'.longest d).length = W := ⟨_, rfl⟩
        obtain ⟨⟨t2, a2, ht2, hm2, hr2⟩, hrow2⟩ := M.out.1
        have HLo := implLongest k' t2 T a2 b r wx hv2 ht2 hm2 hb0 (by rw [← hbr]; omega)
        rw [← hbr, e1, hW] at HLo
        simp only [Option.getD_some] at HLo
        have HFo := fun (W : World) (hm : TrM k' t2 T a2 W) => implFollow k' t2 T a2 y W hv2 ht2 hm e2 (Kn.can_ne_clear hv2 e2)
        rw [e1, hW] at hsem2
        simp only [Option.getD_some] at hsem2
        rw [hW] at e4 e5 e6 e7
        obtain ⟨R, hR⟩ : ∃ R, d.drop W = R := ⟨_, rfl⟩
        rw [hR] at hsem2
        have hRl : R.length + W = d.length := by rw [← hR, List.length_drop]; omega
        have hex := bsL_from (L := d) (i := W) hR
        have hsem3 : Hid ((k'.after y).Valid ∧ k.Like (k'.after y) ∧ (k'.after y).fits R ∧ R.length ≤ L.length ∧ ∃ f, R.length ≤ f ∧ k.greedy L = (acc ++ [y]) ++ greedyI f (k'.after y) R) :=
          Lib.hid ⟨Kn.after_valid hv2 e2, hlk2.trans (k'.like_after y), (k'.like_after y).fits (by rw [← hR]; exact fits_drop hfi2 _), by omega, f0, by omega, by rw [hsem2]; simp⟩
        have hacc : m + 1 ≤ 5000 := by
          have h1 := hlenG2.out
          have h2 := hma2.out
          rw [hsem2, List.length_append, List.length_cons] at h1
          omega
        have hmeas : R.length < d.length := by omega
        have hds : (bsL d).size = d.length := rfl
        rw [hds] at hex
        have hWd : (W : Int) ≤ d.length := by omega
        have hW0 : (0 : Int) ≤ W := by omega
        have hy1 : y ≤ 1023 := by have := Kn.can_great hv2 e2; have := Kn.great_bounds hv2; have := hv2.pow; omega
        have hm2' := Lib.hid hm2
        have hr2' := Lib.hid hr2
        have hrow2' := Lib.hid hrow2
        have HL2 := Lib.hid HLo
        have HF2 := Lib.hid HFo
        replace hmeas := Lib.hid hmeas
        clear HLo HFo hlk2 hfi2 hsem2 e1 e2 e3 e4 e5 e6 e7 hbr hb0 hW hdn hR hv2 hm2 hr2 hrow2 ht2 hRl
        go_wp2_with fail
        refine HL2.out.mono ?_
        rintro e w10 ⟨rfl, hb10⟩
        have hm10 := Lib.hid (hm2'.out.below hb10)
        have hrow10 := Lib.hid (own_below hrow2'.out hb10 (Nat.le_refl _))
        have hB10 := Lib.hid (M.out.2.trans (hb10.mono M.out.2.size))
        clear hb10
        go_wp2_with fail
        refine (HF2.out _ hm10.out).mono ?_
        rintro e w11 ⟨⟨v11, rfl⟩, t11, a11, ht11, hm11, hfr11⟩
        have M11 := GrM.call hrow10.out hr2'.out ht11 hm11 hfr11
        have hB11 := Lib.hid (hB10.out.trans ((hfr11.since hm10.out).mono hTw))
        have hrow11 := M11.row
        rw [hma2.out] at hrow11
        replace M11 := Lib.hid M11
        have hs11 := hB11.out.size
        clear ht11 hm11 hfr11 hm10 hrow10 hB10 hr2' hrow2' hm2'
        go_wp2_with (first
          | (at_builtin; refine wpList_append_row _ elemInt rfl (.tmp 47) (.tmp 49) rfl w2.heap.size _ _ _ rfl (hrow11.alloc _) _ _ 1 1 [.int .i64 (y : Int)] rfl (Row.newAt _ _ rfl _ [.int .i64 (y : Int)] 1 1 rfl) ?_ ?_ ?_ ?_ ?_))
        · first | rfl | (intro z hz; simp at hz; subst hz; rfl)
        · unfold maxLen; omega
        · omega
        · first | omega | (simp; omega)
        · intro v12 w12 hv12 hg12 hat12
          obtain ⟨A12, c12, rfl, _, _⟩ := own_form hv12
          have hmm : (acc ++ [y]).length = m + 1 := by rw [List.length_append, hma2.out]; rfl
          have M12 := Lib.hid (GrM.push M11.out (by rw [hma2.out]; exact hv12) hg12 (by simpa using hat12))
          have hB12 := Lib.hid ((hB11.out.alloc hs11 _).grown hg12 (by simp; omega) (fun g hg => (hrow11.lt g hg).1))
          replace hmm := Lib.hid hmm
          clear hv12 hg12 hat12 hrow11 M11
          go_wp2_with fail
          go_roundw
          case rel => exact ⟨R, k'.after y, acc ++ [y], m + 1, c12, A12, rfl, rfl, hacc, hmm, hsem3, Lib.hid ⟨M12.out, hB12.out⟩⟩
          case measure => simp only [szOf]; exact hmeas.out

end Go.Proofs.YthlgpgaeajfchaaGreatDoor
