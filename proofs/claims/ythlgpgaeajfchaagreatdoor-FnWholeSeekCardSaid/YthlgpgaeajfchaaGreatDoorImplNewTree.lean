/-
  The program's tree of words: follow.
  The program's tree of words: newTree.
-/
import Derived.Test.YthlgpgaeajfchaaGreatDoorImplForget
import Derived.Test.YthlgpgaeajfchaaGreatDoorImplLongest
import Derived.Deep.CutBlock

namespace Go.Proofs.YthlgpgaeajfchaaGreatDoor
open Go.RowKit
set_option linter.unusedVariables false
set_option maxRecDepth 100000

/-- The last code is stored. -/
theorem TrM.setLast {k : Kn} {t : Tr} {T : Nat} {a : TA} {w : World} (h : TrM k t T a w) (l : Option Nat) {u : Value} (hu : u = .int .i64 (({ k with last := l } : Kn).lastI)) :
    TrM { k with last := l } t T a (w.setCell ⟨T, 5, none⟩ u) ∧ Fr T a a w (w.setCell ⟨T, 5, none⟩ u) := by
  subst hu
  have far : ∀ {v : Value} {e : TypeId} {size n : Nat} {ys : List Value} (u : Value), w.ownsRow (T + 1) e size v n ys → (w.setCell ⟨T, 5, none⟩ u).ownsRow (T + 1) e size v n ys := fun u ho =>
    ownsRow_setCell_below ho (by show T < T + 1; omega) u
  exact ⟨⟨h.box.set (j := 5) rfl _, far _ h.ns, far _ h.pr, far _ h.kp, h.ap1, h.ap2, h.ap3⟩, Keep.of_set (S := a.blk T) (Or.inl rfl) _, fun _ e => Or.inl e⟩

theorem TrOk.of_eq {k k' : Kn} {t : Tr} (h : TrOk k t) (hp : k'.ps = k.ps) (hl : k'.l = k.l) : TrOk k' t := by
  have hc : k'.clear = k.clear := by unfold Kn.clear; rw [hl]
  have hf : k'.fin = k.fin := by unfold Kn.fin; rw [hl]
  have hw : ∀ x, k'.word x = k.word x := fun x => by unfold Kn.word; rw [hf, hp]
  refine ⟨h.nd, h.cl.trans hc.symm, by rw [hp]; exact h.len, fun j n hj => ?_, fun j d hj => ?_⟩
  · rw [hw, hf]; exact h.pr j n hj
  · rw [hf]; exact h.code j d hj

set_option maxHeartbeats 4000000 in
theorem implFollowClear (k : Kn) (t : Tr) (T : Nat) (a : TA) (w : World) (hv : k.Valid) (ht : TrOk k t) (hm : TrM k t T a w) :
    Calls Tryz.prog 93 #[.pointer (some ⟨T, 0, none⟩), .int .i64 (k.clear : Int)] w fun e w' => (∃ v, e = .returned v) ∧ ∃ t' a', TrOk k.cleared t' ∧ TrM k.cleared t' T a' w' ∧ Fr T a a' w w' := by
  have HC := fun W => implClearCode k.o k.l k.m W hv.sv
  have hz : 2 ^ k.l = k.clear := rfl
  rw [hz] at HC
  obtain ⟨z, hz2⟩ : ∃ z, k.clear = z := ⟨_, rfl⟩
  rw [hz2] at HC ⊢
  have HF := Lib.hid (fun (W : World) (hW : TrM k t T a W) => implForget k t T a W hv ht hW)
  replace HC := Lib.hid HC
  obtain ⟨q0, q1, q2, q3, q4, q5, q6, q7⟩ := hm.cells
  replace hm := Lib.hid hm
  clear hz hz2
  go_enter Tryz.func93, Tryz.ntmps93
  go_wp2_with fail
  refine (HC.out _).mono ?_
  rintro e w1 ⟨rfl, hb1⟩
  have hm1 := Lib.hid (hm.out.below hb1)
  have hfr1 := Lib.hid (Fr.of_below (T := T) (a := a) hb1)
  clear q0 q1 q2 q3 q4 q5 q6 q7 hb1
  go_wp2_with fail
  refine (HF.out _ hm1.out).mono ?_
  rintro e w2 ⟨⟨v, rfl⟩, t', a', ht', hm2, hfr2⟩
  have q5 := hm2.box.c 5 _ rfl
  have f5 := hm2.box.f 5 _ rfl
  have hS := Lib.hid (hm2.setLast none (u := .int .i64 (-1)) rfl)
  replace hm2 := Lib.hid hm2
  have hfr3 := Lib.hid (hfr1.out.trans hfr2)
  clear hfr2
  go_wp2_with fail
  refine bodyPost_ret (results_none rfl _ _ _) rfl ?_
  exact ⟨⟨_, rfl⟩, t', a', ht', hS.out.1, hfr3.out.trans hS.out.2⟩

set_option maxHeartbeats 8000000 in
theorem implFollow (k : Kn) (t : Tr) (T : Nat) (a : TA) (x : Nat) (w : World) (hv : k.Valid) (ht : TrOk k t) (hm : TrM k t T a w) (hx : k.can x) (hxc : x ≠ k.clear) :
    Calls Tryz.prog 93 #[.pointer (some ⟨T, 0, none⟩), .int .i64 (x : Int)] w fun e w' => (∃ v, e = .returned v) ∧ ∃ t' a', TrOk (k.after x) t' ∧ TrM (k.after x) t' T a' w' ∧ Fr T a a' w w' := by
  have hpw := hv.pow
  have hfe := k.fin_eq
  have hroom := hv.room
  have hnb : k.ps.length ≤ 1023 := by omega
  have HC := fun W => implClearCode k.o k.l k.m W hv.sv
  have hz : 2 ^ k.l = k.clear := rfl
  rw [hz] at HC
  obtain ⟨z, hz2⟩ : ∃ z, k.clear = z := ⟨_, rfl⟩
  rw [hz2] at HC hxc
  have hxz : ((x : Int) == z) = false := by rw [beq_eq_false_iff_ne]; omega
  have hxz2 : (x == z) = false := by rw [beq_eq_false_iff_ne]; omega
  have hxz3 : decide ((x : Int) = z) = false := decide_eq_false (by omega)
  have hxz4 : ¬ (x : Int) = z := by omega
  replace HC := Lib.hid HC
  obtain ⟨q0, q1, q2, q3, q4, q5, q6, q7⟩ := hm.cells
  by_cases hg : k.grows
  · obtain ⟨q, hq⟩ := Option.isSome_iff_exists.1 hg.1
    have hqh := hv.tail q hq
    have hlast : k.lastI = (q : Int) := by unfold Kn.lastI; rw [hq]
    have HG := fun W => implGrows k a.Ak a.ck true W hv (btrue hg)
    have HN := fun W => implNextWord k a.Ak a.ck W hv
    unfold Kn.val at HG HN
    rw [hlast] at HG HN
    obtain ⟨nx, hnx⟩ : ∃ y, k.next = y := ⟨_, rfl⟩
    rw [hnx] at HN
    have hps : k.ps.length ≤ 1022 := by
      have h1 := hg.2
      unfold Kn.next at h1
      omega
    obtain ⟨y, hy⟩ : ∃ y, ((k.any x).headD 0).toNat = y := ⟨_, rfl⟩
    have hk : k.after x = { (k.push q y) with last := some x } := by
      unfold Kn.after
      rw [if_pos hg, hq, hy]
      rfl
    rw [hk]
    have hyc : y < k.clear := by
      have h1 := (Kn.after_valid hv hx).pair k.ps.length q y (by rw [hk]; show (k.ps ++ [(q, y)])[k.ps.length]? = _; simp)
      exact h1.2
    have HL := Lib.hid (fun (W : World) (hW : TrM k t T a W) => implTreeLearn k t T a q y W hv.sv hps hv.below ht hW hqh hyc)
    obtain ⟨N, hN⟩ : ∃ N, t.c + t.ns.length = N := ⟨_, rfl⟩
    have hy256 : y < 256 := by omega
    replace hN := Lib.hid hN
    replace HG := Lib.hid HG
    replace HN := Lib.hid HN
    by_cases hxn : x = nx
    · have hany : k.any x = k.word q ++ (k.word q).take 1 := by
        unfold Kn.any
        rw [hq]
        simp only
        rw [if_pos (by rw [hnx]; exact hxn)]
      obtain ⟨h1, h2, _⟩ := ht.of hqh
      have HO := fun (W : World) (hW : TrM k t T a W) => implNodeOf k t T a q W hv.sv hnb ht hW hqh
      obtain ⟨p, hp⟩ : ∃ p, t.of k.fin q = p := ⟨_, rfl⟩
      rw [hp] at HO h1 h2
      have hpN := h1
      have hfn : Hid (t.firstN p = y) := Lib.hid (by
        unfold Tr.firstN
        rw [h2, ← hy, hany]
        have := Kn.word_ne (k := k) q
        cases hw : k.word q with
        | nil => exact absurd hw this
        | cons b l => rfl)
      replace HO := Lib.hid HO
      replace hm := Lib.hid hm
      have ea1 : ((x : Int) == (nx : Int)) = true := by rw [beq_iff_eq]; omega
      have ea2 : decide ((x : Int) = (nx : Int)) = true := decide_eq_true (by omega)
      have ea3 : (x == nx) = true := by rw [beq_iff_eq]; omega
      have ea4 : decide (x = nx) = true := decide_eq_true (by omega)
      replace hxn := Lib.hid hxn
      clear hz hz2 hk hpw hfe hroom hany hp hnx h1 h2
      go_enter Tryz.func93, Tryz.ntmps93
      go_wp2_with fail
      refine (HC.out _).mono ?_
      rintro e w1 ⟨rfl, hb1⟩
      have hm1 := Lib.hid (hm.out.below hb1)
      have hfr1 := Lib.hid (Fr.of_below (T := T) (a := a) hb1)
      clear q0 q1 q2 q3 q4 q5 q6 q7 hb1
      obtain ⟨q0, q1, q2, q3, q4, q5, q6, q7⟩ := hm1.out.cells
      rw [hlast] at q5
      go_wp2_with fail
      refine (HG.out _).mono ?_
      rintro e w2 ⟨rfl, hb2⟩
      have hm2 := Lib.hid (hm1.out.below hb2)
      have hfr2 := Lib.hid (hfr1.out.trans (Fr.of_below hb2))
      clear q0 q1 q2 q3 q4 q5 q6 q7 hb2
      obtain ⟨q0, q1, q2, q3, q4, q5, q6, q7⟩ := hm2.out.cells
      rw [hlast] at q5
      go_wp2_with fail
      refine (HN.out _).mono ?_
      rintro e w3 ⟨rfl, hb3⟩
      have hm3 := Lib.hid (hm2.out.below hb3)
      have hfr3 := Lib.hid (hfr2.out.trans (Fr.of_below hb3))
      clear q0 q1 q2 q3 q4 q5 q6 q7 hb3
      obtain ⟨q0, q1, q2, q3, q4, q5, q6, q7⟩ := hm3.out.cells
      rw [hlast] at q5
      obtain ⟨g, hgA, _, _, ⟨_, _, _, _, n4, _⟩, _⟩ := hm3.out.node (i := p) hpN
      rw [hgA, hN.out] at q6
      rw [hfn.out] at n4
      have hpN2 : p < N := by have := hN.out; omega
      go_upto_region 7 with (fail)
      refine wp_region_cls_tail 18 (by kernel_rfl) (by kernel_rfl) ?_
      have c0 := clsCell q0
      have c5 := clsCell q5
      have c6 := clsCell q6
      have c7 := clsCell n4
      have hcls : Hid (∀ X : Wd (Below w3.heap.size w3), TrM k t T a X.w) := Lib.hid (fun X => hm3.out.below X.h)
      simp only [List.take_succ_cons, List.take_zero]
      repeat (go_big_quiet_step (first | (go_at_call 124; exact clsCall (HO.out _ (hcls.out _)))))
      refine wpQuiet_nil ?_
      rintro w4 ⟨⟨w4, hB⟩, rfl⟩
      simp only [List.drop_succ_cons, List.drop_zero]
      have hm4 := Lib.hid (hm3.out.below hB)
      have hfr4 := Lib.hid (hfr3.out.trans (Fr.of_below hB))
      clear q0 q1 q2 q3 q4 q5 q6 q7 n4 c0 c5 c6 c7 hcls hB
      go_wp2_with fail
      refine (HL.out _ hm4.out).mono ?_
      rintro e w5 ⟨⟨v, rfl⟩, t', a', ht', hm5, hfr5⟩
      have q5 := hm5.box.c 5 _ rfl
      have f5 := hm5.box.f 5 _ rfl
      have hS := Lib.hid (hm5.setLast (some x) (u := .int .i64 (x : Int)) rfl)
      have hTR := Lib.hid (ht'.of_eq (k' := { (k.push q y) with last := some x }) rfl rfl)
      replace hm5 := Lib.hid hm5
      have hfr6 := Lib.hid (hfr4.out.trans hfr5)
      clear hfr5 ht'
      go_wp2_with fail
      refine bodyPost_end (results_none rfl _ _ _) rfl ?_
      exact ⟨⟨_, rfl⟩, t', a', hTR.out, hS.out.1, hfr6.out.trans hS.out.2⟩

    · have hxh : k.has k.ps.length x := by
        rcases hx with h1 | ⟨_, h1⟩
        · exact h1
        · exact absurd (h1.trans hnx) hxn
      have hany : k.any x = k.word x := by
        unfold Kn.any
        rw [hq]
        simp only
        rw [if_neg (by rw [hnx]; exact hxn)]
      obtain ⟨h1, h2, _⟩ := ht.of hxh
      have HO := fun (W : World) (hW : TrM k t T a W) => implNodeOf k t T a x W hv.sv hnb ht hW hxh
      obtain ⟨p, hp⟩ : ∃ p, t.of k.fin x = p := ⟨_, rfl⟩
      rw [hp] at HO h1 h2
      have hpN := h1
      have hfn : Hid (t.firstN p = y) := Lib.hid (by
        unfold Tr.firstN
        rw [h2, ← hy, hany])
      replace HO := Lib.hid HO
      replace hm := Lib.hid hm
      have ea1 : ((x : Int) == (nx : Int)) = false := by rw [beq_eq_false_iff_ne]; omega
      have ea2 : decide ((x : Int) = (nx : Int)) = false := decide_eq_false (by omega)
      have ea3 : (x == nx) = false := by rw [beq_eq_false_iff_ne]; omega
      have ea4 : decide (x = nx) = false := decide_eq_false (by omega)
      replace hxn := Lib.hid hxn
      clear hz hz2 hk hpw hfe hroom hany hp hnx h1 h2
      go_enter Tryz.func93, Tryz.ntmps93
      go_wp2_with fail
      refine (HC.out _).mono ?_
      rintro e w1 ⟨rfl, hb1⟩
      have hm1 := Lib.hid (hm.out.below hb1)
      have hfr1 := Lib.hid (Fr.of_below (T := T) (a := a) hb1)
      clear q0 q1 q2 q3 q4 q5 q6 q7 hb1
      obtain ⟨q0, q1, q2, q3, q4, q5, q6, q7⟩ := hm1.out.cells
      rw [hlast] at q5
      go_wp2_with fail
      refine (HG.out _).mono ?_
      rintro e w2 ⟨rfl, hb2⟩
      have hm2 := Lib.hid (hm1.out.below hb2)
      have hfr2 := Lib.hid (hfr1.out.trans (Fr.of_below hb2))
      clear q0 q1 q2 q3 q4 q5 q6 q7 hb2
      obtain ⟨q0, q1, q2, q3, q4, q5, q6, q7⟩ := hm2.out.cells
      rw [hlast] at q5
      go_wp2_with fail
      refine (HN.out _).mono ?_
      rintro e w3 ⟨rfl, hb3⟩
      have hm3 := Lib.hid (hm2.out.below hb3)
      have hfr3 := Lib.hid (hfr2.out.trans (Fr.of_below hb3))
      clear q0 q1 q2 q3 q4 q5 q6 q7 hb3
      obtain ⟨q0, q1, q2, q3, q4, q5, q6, q7⟩ := hm3.out.cells
      rw [hlast] at q5
      obtain ⟨g, hgA, _, _, ⟨_, _, _, _, n4, _⟩, _⟩ := hm3.out.node (i := p) hpN
      rw [hgA, hN.out] at q6
      rw [hfn.out] at n4
      have hpN2 : p < N := by have := hN.out; omega
      go_upto_region 7 with (fail)
      refine wp_region_cls_tail 18 (by kernel_rfl) (by kernel_rfl) ?_
      have c0 := clsCell q0
      have c5 := clsCell q5
      have c6 := clsCell q6
      have c7 := clsCell n4
      have hcls : Hid (∀ X : Wd (Below w3.heap.size w3), TrM k t T a X.w) := Lib.hid (fun X => hm3.out.below X.h)
      simp only [List.take_succ_cons, List.take_zero]
      repeat (go_big_quiet_step (first | (go_at_call 124; exact clsCall (HO.out _ (hcls.out _)))))
      refine wpQuiet_nil ?_
      rintro w4 ⟨⟨w4, hB⟩, rfl⟩
      simp only [List.drop_succ_cons, List.drop_zero]
      have hm4 := Lib.hid (hm3.out.below hB)
      have hfr4 := Lib.hid (hfr3.out.trans (Fr.of_below hB))
      clear q0 q1 q2 q3 q4 q5 q6 q7 n4 c0 c5 c6 c7 hcls hB
      go_wp2_with fail
      refine (HL.out _ hm4.out).mono ?_
      rintro e w5 ⟨⟨v, rfl⟩, t', a', ht', hm5, hfr5⟩
      have q5 := hm5.box.c 5 _ rfl
      have f5 := hm5.box.f 5 _ rfl
      have hS := Lib.hid (hm5.setLast (some x) (u := .int .i64 (x : Int)) rfl)
      have hTR := Lib.hid (ht'.of_eq (k' := { (k.push q y) with last := some x }) rfl rfl)
      replace hm5 := Lib.hid hm5
      have hfr6 := Lib.hid (hfr4.out.trans hfr5)
      clear hfr5 ht'
      go_wp2_with fail
      refine bodyPost_end (results_none rfl _ _ _) rfl ?_
      exact ⟨⟨_, rfl⟩, t', a', hTR.out, hS.out.1, hfr6.out.trans hS.out.2⟩
  · have HG := fun W => implGrows k a.Ak a.ck false W hv (bfalse hg)
    unfold Kn.val at HG
    replace HG := Lib.hid HG
    have hk : k.after x = { k with last := some x } := by unfold Kn.after; rw [if_neg hg]
    rw [hk]
    have hTR := Lib.hid (ht.of_eq (k' := { k with last := some x }) rfl rfl)
    replace hm := Lib.hid hm
    clear hz hz2 hk hpw hfe hroom
    go_enter Tryz.func93, Tryz.ntmps93
    go_wp2_with fail
    refine (HC.out _).mono ?_
    rintro e w1 ⟨rfl, hb1⟩
    have hm1 := Lib.hid (hm.out.below hb1)
    have hfr1 := Lib.hid (Fr.of_below (T := T) (a := a) hb1)
    clear q0 q1 q2 q3 q4 q5 q6 q7 hb1
    obtain ⟨q0, q1, q2, q3, q4, q5, q6, q7⟩ := hm1.out.cells
    go_wp2_with fail
    refine (HG.out _).mono ?_
    rintro e w2 ⟨rfl, hb2⟩
    have hm2 := Lib.hid (hm1.out.below hb2)
    have hfr2 := Lib.hid (hfr1.out.trans (Fr.of_below hb2))
    clear q0 q1 q2 q3 q4 q5 q6 q7 hb2
    have q5 := hm2.out.box.c 5 _ rfl
    have f5 := hm2.out.box.f 5 _ rfl
    have hS := Lib.hid (hm2.out.setLast (some x) (u := .int .i64 (x : Int)) rfl)
    go_wp2_with fail
    refine bodyPost_end (results_none rfl _ _ _) rfl ?_
    exact ⟨⟨_, rfl⟩, t, a, hTR.out, hS.out.1, hfr2.out.trans hS.out.2⟩

end Go.Proofs.YthlgpgaeajfchaaGreatDoor

namespace Go.Proofs.YthlgpgaeajfchaaGreatDoor
open Go.RowKit
set_option linter.unusedVariables false
set_option maxRecDepth 100000

theorem flatMap_same {α β : Type} {l : List α} {f g : α → List β} (h : ∀ x ∈ l, f x = g x) : l.flatMap f = l.flatMap g := by
  induction l with
  | nil => rfl
  | cons x l ih => rw [List.flatMap_cons, List.flatMap_cons, h x (by simp), ih (fun y hy => h y (by simp [hy]))]

/-- The tree of the first literals. -/
def litT (i : Nat) : Tr := ⟨i, [], []⟩

theorem litT_cells {i j : Nat} (h : j < i) (hi : i ≤ 256) : nodeCells (litT i) j = [.int .i64 (-1), .int .i64 (-1), .int .i64 (-1), .int .u8 (j : Int), .int .u8 (j : Int), .int .i64 (j : Int)] := by
  have h1 : (litT i).parI j = -1 := by unfold Tr.parI; rw [if_pos (show j < (litT i).c from h)]
  have h2 : (litT i).nxtI j = -1 := by unfold Tr.nxtI; rw [if_pos (show j < (litT i).c from h)]
  have h3 : (litT i).lastN j = j := by unfold Tr.lastN; rw [if_pos (show j < (litT i).c from h)]
  have h4 : (litT i).firstN j = j := by
    unfold Tr.firstN
    rw [Tr.word_lit _ (show j < (litT i).c from h)]
    show (UInt8.ofNat j).toNat = j
    rw [UInt8.toNat_ofNat', Nat.mod_eq_of_lt (by omega)]
  have h5 : (litT i).codeOf j = j := Tr.codeOf_lit _ h
  have h6 : kidI (litT i).c (litT i).ns j (litT i).ns.length = -1 := rfl
  unfold nodeCells
  rw [h1, h2, h3, h4, h5, h6]

theorem litT_more {i : Nat} (hi : i < 256) : cellsN (litT (i + 1)) = cellsN (litT i) ++ [.int .i64 (-1), .int .i64 (-1), .int .i64 (-1), .int .u8 (i : Int), .int .u8 (i : Int), .int .i64 (i : Int)] := by
  unfold cellsN
  show (List.range (i + 1 + 0)).flatMap _ = (List.range (i + 0)).flatMap _ ++ _
  rw [Nat.add_zero, Nat.add_zero, List.range_succ, List.flatMap_append]
  congr 1
  · refine flatMap_same (fun j hj => ?_)
    have := List.mem_range.1 hj
    rw [litT_cells (by omega) (by omega), litT_cells (by omega) (by omega)]
  · simp only [List.flatMap_cons, List.flatMap_nil, List.append_nil]
    exact litT_cells (by omega) (by omega)

section
variable {k : Kn} {T : Nat} {a : TA} {w w' : World} {o : Obj} {A' : Option Addr} {c' : Nat}

/-- A literal more. -/
theorem TrM.growL {i : Nat} (h : TrM k (litT i) T a w) (hg : (w.alloc o).grownBy w' (Value.slice a.An 0 0).ownBlock) (hown : w'.ownsRow (T + 1) 156 6 (.slice A' (i + 1) c') (i + 1) (cellsN (litT (i + 1))))
    (hat : (Value.slice A' 0 0).ownBlock = (Value.slice a.An 0 0).ownBlock ∨ (Value.slice A' 0 0).ownBlock = some (w.heap.size + 1)) :
    (w'.cell? ⟨T, 6, none⟩ = some (.slice a.An i a.cn) ∧ w'.frozen? ⟨T, 6, none⟩ = false) ∧
      TrM k (litT (i + 1)) T { a with An := A', cn := c' } (w'.setCell ⟨T, 6, none⟩ (.slice A' (i + 1) c')) ∧ Fr T a { a with An := A', cn := c' } w (w'.setCell ⟨T, 6, none⟩ (.slice A' (i + 1) c')) := by
  have hk := Keep.of_row hg
  have hlt : ∀ g, (Value.slice a.An 0 0).ownBlock = some g → T < g ∧ g < w.heap.size := fun g e => by have := h.ns.lt g (by rw [own_any]; exact e); omega
  have hltp : ∀ g, (Value.slice a.Ap 0 0).ownBlock = some g → T < g ∧ g < w.heap.size := fun g e => by have := h.pr.lt g (by rw [own_any]; exact e); omega
  have hltk : ∀ g, (Value.slice a.Ak 0 0).ownBlock = some g → T < g ∧ g < w.heap.size := fun g e => by have := h.kp.lt g (by rw [own_any]; exact e); omega
  have hT : ¬ (Value.slice a.An 0 0).ownBlock = some T := fun e => by have := hlt T e; omega
  have hbox := h.box.keep hk hT
  have hb2 := hbox.set (j := 6) (v0 := .slice a.An i a.cn) rfl (.slice A' (i + 1) c')
  have hTlt := h.box.lt
  refine ⟨⟨hbox.c 6 _ rfl, hbox.f 6 _ rfl⟩, ⟨hb2, ?_, ?_, ?_, ?_, ?_, h.ap3⟩, ?_, ?_⟩
  · refine ownsRow_setCell_other hown (fun e => ?_) _
    rw [own_any] at e
    rcases hat with h1 | h1
    · rw [h1] at e; exact hT e
    · rw [h1] at e; injection e with e; exact absurd e (by show ¬ w.heap.size + 1 = T; omega)
  · refine ownsRow_setCell_other (own_keep h.pr hk (fun g e => ?_)) (fun e => ?_) _
    · rw [own_any] at e; exact h.ap1.symm g e
    · rw [own_any] at e; have := hltp T e; omega
  · refine ownsRow_setCell_other (own_keep h.kp hk (fun g e => ?_)) (fun e => ?_) _
    · rw [own_any] at e; exact h.ap2.symm g e
    · rw [own_any] at e; have := hltk T e; omega
  · exact Apart.step h.ap1 hat (fun g e => by have := hltp g e; omega)
  · exact Apart.step h.ap2 hat (fun g e => by have := hltk g e; omega)
  · exact (hk.mono (fun g e => Or.inr (Or.inl e))).trans (Keep.of_set (S := a.blk T) (Or.inl rfl) _) (fun _ _ e => e)
  · rintro g (e | e | e | e)
    · exact Or.inl (Or.inl e)
    · have e' : (Value.slice A' 0 0).ownBlock = some g := e
      rcases hat with h1 | h1
      · rw [h1] at e'; exact Or.inl (Or.inr (Or.inl e'))
      · rw [h1] at e'; injection e' with e'; exact Or.inr (by omega)
    · exact Or.inl (Or.inr (Or.inr (Or.inl e)))
    · exact Or.inl (Or.inr (Or.inr (Or.inr e)))

/-- A tree of nothing. -/
theorem TrM.zero {k : Kn} (hk : k.ps = []) (w : World) (U : TypeId) {vs : Array Value} (hvs : vs = #[.int .i64 (k.o : Int), .int .i64 (k.l : Int), .int .i64 (k.m : Int), .slice none 0 0, .int .i64 (k.base : Int), .int .i64 k.lastI, .slice none 0 0, .slice none 0 0]) :
    TrM k (litT 0) w.heap.size ⟨none, 0, none, 0, none, 0⟩ (w.alloc (.cells vs U)) := by
  subst hvs
  have hb := KBn.start w U [.int .i64 (k.o : Int), .int .i64 (k.l : Int), .int .i64 (k.m : Int), .slice none 0 0, .int .i64 (k.base : Int), .int .i64 k.lastI, .slice none 0 0, .slice none 0 0]
  have e : boxT k (litT 0) ⟨none, 0, none, 0, none, 0⟩ = [.int .i64 (k.o : Int), .int .i64 (k.l : Int), .int .i64 (k.m : Int), .slice none 0 0, .int .i64 (k.base : Int), .int .i64 k.lastI, .slice none 0 0, .slice none 0 0] := by
    unfold boxT; rw [hk]; rfl
  refine ⟨by rw [e]; exact hb, World.ownsRow_nil _ _ _ _, World.ownsRow_nil _ _ _ _, by rw [hk]; exact World.ownsRow_nil _ _ _ _, ?_, ?_, ?_⟩ <;> (intro g hg; cases hg)

end

set_option maxHeartbeats 8000000 in
theorem implNewTree (k : Kn) (A : Option Addr) (c B : Nat) (w : World) (hv : k.Valid) (hA : k.At w B A) (hB : B ≤ w.heap.size) :
    Calls Tryz.prog 92 #[k.val A c] w fun e w' => e = .returned (.pointer (some ⟨w.heap.size + 1, 0, none⟩)) ∧ ∃ t a, TrOk k t ∧ TrM k t (w.heap.size + 1) a w' ∧ Below w.heap.size w w' := by
  have hpw := hv.pow
  have hroom := hv.room
  have hfe := k.fin_eq
  have hnb : k.ps.length ≤ 1022 := by omega
  have HC := fun W => implClearCode k.o k.l k.m W hv.sv
  have hz : 2 ^ k.l = k.clear := rfl
  rw [hz] at HC
  obtain ⟨z, hz2⟩ : ∃ z, k.clear = z := ⟨_, rfl⟩
  rw [hz2] at HC
  have hz256 : z ≤ 256 := by omega
  have hlow := hv.below
  have hTs := TrOk.start (k := { k with ps := [] }) rfl (show k.clear ≤ 256 by omega)
  have hpair := hv.pair
  have hlearn := fun (j : Nat) (t : Tr) (a : TA) (q b : Nat) (W : World) (hj : j ≤ k.ps.length) => implTreeLearn { k with ps := k.ps.take j } t (w.heap.size + 1) a q b W hv.sv (by show (k.ps.take j).length ≤ 1022; rw [List.length_take]; omega) (fun i p y hi => by
    have hi' : (k.ps.take j)[i]? = some (p, y) := hi
    rw [List.getElem?_take] at hi'
    split at hi'
    · exact hlow i p y hi'
    · cases hi')
  replace hlearn := Lib.hid hlearn
  replace hpair := Lib.hid hpair
  replace hTs := Lib.hid hTs
  replace HC := Lib.hid HC
  unfold Kn.val
  go_enter Tryz.func92, Tryz.ntmps92
  go_upto_region 3 with (fail)
  have hT0 := TrM.zero (k := { k with ps := [] }) rfl (w.alloc (.cells #[.int .i64 (k.o : Int), .int .i64 (k.l : Int), .int .i64 (k.m : Int), .slice A k.ps.length c, .int .i64 (k.base : Int), .int .i64 k.lastI] 48)) 129 (vs := #[.int .i64 (k.o : Int), .int .i64 (k.l : Int), .int .i64 (k.m : Int), .slice none 0 0, .int .i64 (k.base : Int), .int .i64 k.lastI, .slice none 0 0, .slice none 0 0]) rfl
  have hK0 := KBn.start w 48 [.int .i64 (k.o : Int), .int .i64 (k.l : Int), .int .i64 (k.m : Int), .slice A k.ps.length c, .int .i64 (k.base : Int), .int .i64 k.lastI]
  rw [World.size_alloc] at hT0
  have hbel0 : Below w.heap.size w ((w.alloc (.cells #[.int .i64 (k.o : Int), .int .i64 (k.l : Int), .int .i64 (k.m : Int), .slice A k.ps.length c, .int .i64 (k.base : Int), .int .i64 k.lastI] 48)).alloc (.cells #[.int .i64 (k.o : Int), .int .i64 (k.l : Int), .int .i64 (k.m : Int), .slice none 0 0, .int .i64 (k.base : Int), .int .i64 k.lastI, .slice none 0 0, .slice none 0 0] 129)) := ((Below.refl _ _).alloc (Nat.le_refl _) _).alloc (by simp) _
  have hK1 := hK0.below ((Below.refl _ _).alloc (Nat.le_refl _) (.cells #[.int .i64 (k.o : Int), .int .i64 (k.l : Int), .int .i64 (k.m : Int), .slice none 0 0, .int .i64 (k.base : Int), .int .i64 k.lastI, .slice none 0 0, .slice none 0 0] 129))
  obtain ⟨w2, hw2⟩ : ∃ W, (w.alloc (.cells #[.int .i64 (k.o : Int), .int .i64 (k.l : Int), .int .i64 (k.m : Int), .slice A k.ps.length c, .int .i64 (k.base : Int), .int .i64 k.lastI] 48)).alloc (.cells #[.int .i64 (k.o : Int), .int .i64 (k.l : Int), .int .i64 (k.m : Int), .slice none 0 0, .int .i64 (k.base : Int), .int .i64 k.lastI, .slice none 0 0, .slice none 0 0] 129) = W := ⟨_, rfl⟩
  rw [hw2] at hT0 hbel0 hK1 ⊢
  clear hK0 hw2
  have hKB : ∀ W, Below (w.heap.size + 1) w2 W → KBn W w.heap.size [.int .i64 (k.o : Int), .int .i64 (k.l : Int), .int .i64 (k.m : Int), .slice A k.ps.length c, .int .i64 (k.base : Int), .int .i64 k.lastI] := fun W hW =>
    hK1.keep (S := fun g => w.heap.size + 1 ≤ g) ⟨hW.os, hW.tape, hW.output, hW.size, fun g _ hg => hW.block g (by omega)⟩ (by omega)
  replace hKB := Lib.hid hKB
  have q0 := hK1.c 0 _ rfl
  have q1 := hK1.c 1 _ rfl
  have q2 := hK1.c 2 _ rfl
  go_wp2_with fail
  refine (HC.out _).mono ?_
  rintro e w3 ⟨rfl, hb3⟩
  have hT3 := Lib.hid (hT0.below hb3)
  have hTl := hT0.box.lt
  have hB3 := Lib.hid (hb3.mono (show w.heap.size + 1 ≤ w2.heap.size by omega))
  clear q0 q1 q2 hT0 hb3
  go_upto_block 0 with fail
  go_cut [17] (fun v wx => Hid (∃ a1, TrM { k with ps := [] } (litT z) (w.heap.size + 1) a1 wx ∧ Below (w.heap.size + 1) w2 wx))
  case first =>
    go_wp2_with fail
    go_loopw [17] (fun v wr => ∃ i : Nat, v = .int .i64 (i : Int) ∧ i ≤ z ∧ Hid (∃ a1, TrM { k with ps := [] } (litT i) (w.heap.size + 1) a1 wr ∧ Below (w.heap.size + 1) w2 wr)) (fun v _ => z - (intOf v).toNat)
    case atStart => exact ⟨0, rfl, Nat.zero_le _, Lib.hid ⟨_, hT3.out, hB3.out⟩⟩
    case round =>
      obtain ⟨i, rfl, hi, hinv⟩ := hrel
      by_cases h1 : i < z
      · obtain ⟨a1, hm1, hbl1⟩ := hinv.out
        have h1i : (i : Int) < z := by omega
        have hi256 : i < 256 := by omega
        have wi : IntKind.u8.wrap (i : Int) = i := u8_in i hi256
        have q6 := hm1.box.c 6 _ rfl
        have hTw := hm1.box.lt
        have hns : wr.ownsRow (w.heap.size + 1 + 1) 156 6 (.slice a1.An i a1.cn) i (cellsN (litT i)) := hm1.ns
        have q6' : wr.cell? ⟨w.heap.size + 1, 6, none⟩ = some (.slice a1.An i a1.cn) := q6
        have hm1' := Lib.hid hm1
        have hbl1' := Lib.hid hbl1
        clear q6 hm1 hbl1
        go_wp2_with (first
          | (at_builtin; refine wpList_append_row _ elemNode rfl (.tmp 24) (.tmp 31) rfl (w.heap.size + 1 + 1) _ _ _ rfl (hns.alloc _) _ _ 1 1 [.int .i64 (-1), .int .i64 (-1), .int .i64 (-1), .int .u8 (i : Int), .int .u8 (i : Int), .int .i64 (i : Int)] rfl (Row.newAt _ _ rfl _ [.int .i64 (-1), .int .i64 (-1), .int .i64 (-1), .int .u8 (i : Int), .int .u8 (i : Int), .int .i64 (i : Int)] 1 6 rfl) ?_ ?_ ?_ ?_ ?_))
        · intro u hu; simp at hu; rcases hu with rfl | rfl | rfl | rfl <;> rfl
        · unfold maxLen; omega
        · omega
        · simp; omega
        · intro v4 w4 hv4 hg4 hat4
          obtain ⟨A4, c4, rfl, _, _⟩ := own_form hv4
          obtain ⟨⟨d6, f6⟩, hm4, hfr4⟩ := hm1'.out.growL (A' := A4) (c' := c4) (by rw [own_any] at hg4; exact hg4) (by rw [litT_more hi256]; exact hv4) (by rw [own_any A4, own_any a1.An] at hat4; simpa using hat4)
          have hinv2 : Hid (∃ a1, TrM { k with ps := [] } (litT (i + 1)) (w.heap.size + 1) a1 (w4.setCell ⟨w.heap.size + 1, 6, none⟩ (.slice A4 (i + 1) c4)) ∧ Below (w.heap.size + 1) w2 (w4.setCell ⟨w.heap.size + 1, 6, none⟩ (.slice A4 (i + 1) c4))) := Lib.hid ⟨_, hm4, hbl1'.out.trans (hfr4.since hm1'.out)⟩
          clear hv4 hg4 hat4 hm4 hfr4 hns q6'
          go_wp2_with fail
          go_roundw
          case rel => exact ⟨i + 1, by go_num, by omega, hinv2⟩
          case measure => simp [intOf]; omega
      · obtain rfl : i = z := by omega
        go_wp2_with fail
        go_meet
        exact hinv
  case rest =>
    obtain ⟨a0, hm0, hbl0⟩ := hcut.out
    obtain ⟨n, hn⟩ : ∃ n, k.ps.length = n := ⟨_, rfl⟩
    have hrow : ∀ W, Below (w.heap.size + 1) w2 W → Row W B 2 A n (cellsP k.ps) := fun W hW => by
      have h1 : Row w B 2 A k.ps.length (cellsP k.ps) := hA
      rw [hn] at h1
      exact h1.below (hbel0.trans (hW.mono (by omega))) hB
    replace hrow := Lib.hid hrow
    have q3 := (hKB.out _ hbl0).c 3 _ rfl
    rw [hn] at q3 hnb
    have hstart : Hid (∃ t1 a1, TrOk { k with ps := k.ps.take 0 } t1 ∧ TrM { k with ps := k.ps.take 0 } t1 (w.heap.size + 1) a1 wc ∧ Below (w.heap.size + 1) w2 wc) := Lib.hid ⟨litT z, a0, by
      have := hTs.out
      rw [show ({ k with ps := [] } : Kn).clear = z from hz2] at this
      exact this, hm0, hbl0⟩
    replace hn := Lib.hid hn
    clear hcut hm0 hbl0 hT3 hB3
    go_wp2_with fail
    clear q3
    go_loopw [39] (fun v wr => ∃ j : Nat, v = .int .i64 (j : Int) ∧ j ≤ n ∧ Hid (∃ t1 a1, TrOk { k with ps := k.ps.take j } t1 ∧ TrM { k with ps := k.ps.take j } t1 (w.heap.size + 1) a1 wr ∧ Below (w.heap.size + 1) w2 wr)) (fun v _ => n - (intOf v).toNat)
    case atStart => exact ⟨0, rfl, Nat.zero_le _, hstart⟩
    case round =>
      obtain ⟨j, rfl, hj, hinv⟩ := hrel
      by_cases h1 : j < n
      · obtain ⟨t1, a1, ht1, hm1, hbl1⟩ := hinv.out
        have hjl : j < k.ps.length := by rw [hn.out]; exact h1
        obtain ⟨⟨p, b⟩, hpb⟩ : ∃ y, k.ps[j]? = some y := ⟨_, List.getElem?_eq_getElem hjl⟩
        obtain ⟨hp1, hp2⟩ := hpair.out j p b hpb
        have hlj : (k.ps.take j).length = j := by rw [List.length_take]; omega
        obtain ⟨ba, off, rfl, hbB, g0, g1⟩ := (hrow.out _ hbl1).pair h1 hpb
        have hpush : ({ k with ps := k.ps.take j } : Kn).push p b = { k with ps := k.ps.take (j + 1) } := by
          obtain ⟨_, he⟩ := List.getElem?_eq_some_iff.1 hpb
          unfold Kn.push
          rw [List.take_succ_eq_append_getElem hjl, he]
        have HL := Lib.hid (fun (W : World) (hW : Below wr.heap.size wr W) => hlearn.out j t1 a1 p b W (by omega) ht1 (hm1.below hW) (by show k.has (k.ps.take j).length p; rw [hlj]; exact hp1) hp2)
        have h1i : (j : Int) < n := by omega
        have hj0 : (0 : Int) ≤ j := by omega
        have hm1' := Lib.hid hm1
        have hbl1' := Lib.hid hbl1
        have hTw := hm1.box.lt
        clear hpb hp1 hp2 hlj hjl ht1 hm1 hbl1 hinv
        go_wp2_with fail
        have hal := (Below.refl wr.heap.size wr).alloc (Nat.le_refl _) (.cells #[.int .i64 (p : Int), .int .i64 (b : Int)] 123)
        refine (HL.out _ hal).mono ?_
        rintro e w5 ⟨⟨v, rfl⟩, t', a', ht', hm', hfr'⟩
        rw [hpush] at ht' hm'
        have hinv2 : Hid (∃ t1 a1, TrOk { k with ps := k.ps.take (j + 1) } t1 ∧ TrM { k with ps := k.ps.take (j + 1) } t1 (w.heap.size + 1) a1 w5 ∧ Below (w.heap.size + 1) w2 w5) := Lib.hid ⟨t', a', ht', hm', (hbl1'.out.trans (hal.mono (by omega))).trans (hfr'.since (hm1'.out.below hal))⟩
        clear ht' hm' hfr' hal g0 g1
        go_wp2_with fail
        go_roundw
        case rel => exact ⟨j + 1, by go_num, by omega, hinv2⟩
        case measure => simp [intOf]; omega
      · obtain rfl : j = n := by omega
        obtain ⟨t1, a1, ht1, hm1, hbl1⟩ := hinv.out
        have hall : ({ k with ps := k.ps.take j } : Kn) = k := by rw [List.take_of_length_le (by rw [hn.out]; omega)]
        rw [hall] at ht1 hm1
        have hfin := Lib.hid (And.intro ht1 (And.intro hm1 (hbel0.trans (hbl1.mono (by omega)))))
        clear ht1 hm1 hbl1 hinv hall
        go_wp2_with fail
        go_ret
        exact ⟨rfl, t1, a1, hfin.out⟩

end Go.Proofs.YthlgpgaeajfchaaGreatDoor
