/-
 The program's learn: what is known behind the words of a text.
-/
import Derived.Test.YthlgpgaeajfchaaGreatPwImplLongest
import Derived.Test.YthlgpgaeajfchaaGreatPwComp

namespace Go.Proofs.YthlgpgaeajfchaaGreat
open Go.RowKit
set_option linter.unusedVariables false
set_option maxRecDepth 100000

theorem TrM.setLast {k : Kn} {t : Tr} {T : Nat} {a : TA} {w : World} (h : TrM k t T a w) (l : Option Nat) {u : Value} (hu : u = .int .i64 (({ k with last := l } : Kn).lastI)) :
  TrM { k with last := l } t T a (w.setCell ⟨T, 5, none⟩ u) ∧ Fr T a a w (w.setCell ⟨T, 5, none⟩ u) := by
 subst hu
 have far : ∀ {v : Value} {e : TypeId} {size n : Nat} {ys : List Value} (u : Value), w.ownsRow (T + 1) e size v n ys → (w.setCell ⟨T, 5, none⟩ u).ownsRow (T + 1) e size v n ys := fun u ho =>
  ownsRow_setCell_below ho (by show T < T + 1; omega) u
 exact ⟨⟨h.box.set (j := 5) rfl _, far _ h.ns, far _ h.pr, far _ h.kp, h.ap1, h.ap2, h.ap3⟩, Keep.of_set (S := a.blk T) (Or.inl rfl) _, fun _ e => Or.inl e⟩

theorem TrOk.of_eq {k k' : Kn} {t : Tr} (h : TrOk k t) (hp : k'.ps = k.ps) (hl : k'.l = k.l) : TrOk k' t := by
 have hc : k'.clear = k.clear := by unfold Kn.clear; rw [hl]
 have hf : k'.fin = k.fin := by unfold Kn.fin; rw [hl]
 have hw : ∀ x, k'.word x = k.word x := fun x => by unfold Kn.word; rw [hf, hp]
 refine ⟨h.nd, h.cl.trans hc.symm, by rw [hp]; exact h.len, fun j n hj => ?_, fun j d hj => ?_⟩
 ·rw [hw, hf]; exact h.pr j n hj
 ·rw [hf]; exact h.code j d hj

set_option maxHeartbeats 4000000 in
theorem implFollowClear (k : Kn) (t : Tr) (T : Nat) (a : TA) (w : World) (hv : k.Valid) (ht : TrOk k t) (hm : TrM k t T a w) :
  Calls Tryz.prog 150 #[.pointer (some ⟨T, 0, none⟩), .int .i64 (k.clear : Int)] w fun e w' => (∃ v, e = .returned v) ∧ ∃ t' a', TrOk k.cleared t' ∧ TrM k.cleared t' T a' w' ∧ Fr T a a' w w' := by
 have HC := fun W => implClearCode k.o k.l k.m W hv.sv
 have hz : 2 ^ k.l = k.clear := rfl
 rw [hz] at HC
 obtain ⟨z, hz2⟩ : ∃ z, k.clear = z := ⟨_, rfl⟩
 rw [hz2] at HC ⊢
 have HF := Lib.hid (fun (W : World) (hW : TrM k t T a W) => implForget k t T a W hv ht hW)
 replace HC := Lib.hid HC
 obtain ⟨q0, q1, q2, q3, q4, q5, q6, q7⟩ := hm.cells
 replace hm := Lib.hid hm
 clear hz hz2
 go_enter Tryz.func150, Tryz.ntmps150
 go_wp2_with fail
 refine (HC.out _).mono ?_
 rintro e w1 ⟨rfl, hb1⟩
 have hm1 := Lib.hid (hm.out.below hb1)
 have hfr1 := Lib.hid (Fr.of_below (T := T) (a := a) hb1)
 clear q0 q1 q2 q3 q4 q5 q6 q7 hb1
 go_wp2_with fail
 refine (HF.out _ hm1.out).mono ?_
 rintro e w2 ⟨⟨v, rfl⟩, t', a', ht', hm2, hfr2⟩
 have q5 := hm2.box.c 5 _ rfl
 have f5 := hm2.box.f 5 _ rfl
 have hS := Lib.hid (hm2.setLast none (u := .int .i64 (-1)) rfl)
 replace hm2 := Lib.hid hm2
 have hfr3 := Lib.hid (hfr1.out.trans hfr2)
 clear hfr2
 go_wp2_with fail
 refine bodyPost_ret (results_none rfl _ _ _) rfl ?_
 exact ⟨⟨_, rfl⟩, t', a', ht', hS.out.1, hfr3.out.trans hS.out.2⟩

set_option maxHeartbeats 8000000 in
theorem implFollow (k : Kn) (t : Tr) (T : Nat) (a : TA) (x : Nat) (w : World) (hv : k.Valid) (ht : TrOk k t) (hm : TrM k t T a w) (hx : k.can x) (hxc : x ≠ k.clear) :
  Calls Tryz.prog 150 #[.pointer (some ⟨T, 0, none⟩), .int .i64 (x : Int)] w fun e w' => (∃ v, e = .returned v) ∧ ∃ t' a', TrOk (k.after x) t' ∧ TrM (k.after x) t' T a' w' ∧ Fr T a a' w w' := by
 have hpw := hv.pow
 have hfe := k.fin_eq
 have hroom := hv.room
 have hnb : k.ps.length ≤ 1023 := by omega
 have HC := fun W => implClearCode k.o k.l k.m W hv.sv
 have hz : 2 ^ k.l = k.clear := rfl
 rw [hz] at HC
 obtain ⟨z, hz2⟩ : ∃ z, k.clear = z := ⟨_, rfl⟩
 rw [hz2] at HC hxc
 have hxz : ((x : Int) == z) = false := by rw [beq_eq_false_iff_ne]; omega
 have hxz2 : (x == z) = false := by rw [beq_eq_false_iff_ne]; omega
 have hxz3 : decide ((x : Int) = z) = false := decide_eq_false (by omega)
 have hxz4 : ¬ (x : Int) = z := by omega
 replace HC := Lib.hid HC
 obtain ⟨q0, q1, q2, q3, q4, q5, q6, q7⟩ := hm.cells
 by_cases hg : k.grows
 ·obtain ⟨q, hq⟩ := Option.isSome_iff_exists.1 hg.1
  have hqh := hv.tail q hq
  have hlast : k.lastI = (q : Int) := by unfold Kn.lastI; rw [hq]
  have HG := fun W => implGrows k a.Ak a.ck true W hv (btrue hg)
  have HN := fun W => implNextWord k a.Ak a.ck W hv
  unfold Kn.val at HG HN
  rw [hlast] at HG HN
  obtain ⟨nx, hnx⟩ : ∃ y, k.next = y := ⟨_, rfl⟩
  rw [hnx] at HN
  have hps : k.ps.length ≤ 1022 := by
   have h1 := hg.2
   unfold Kn.next at h1
   omega
  obtain ⟨y, hy⟩ : ∃ y, ((k.any x).headD 0).toNat = y := ⟨_, rfl⟩
  have hk : k.after x = { (k.push q y) with last := some x } := by
   unfold Kn.after
   rw [if_pos hg, hq, hy]
   rfl
  rw [hk]
  have hyc : y < k.clear := by
   have h1 := (Kn.after_valid hv hx).pair k.ps.length q y (by rw [hk]; show (k.ps ++ [(q, y)])[k.ps.length]? = _; simp)
   exact h1.2
  have HL := Lib.hid (fun (W : World) (hW : TrM k t T a W) => implTreeLearn k t T a q y W hv.sv hps hv.below ht hW hqh hyc)
  obtain ⟨N, hN⟩ : ∃ N, t.c + t.ns.length = N := ⟨_, rfl⟩
  have hy256 : y < 256 := by omega
  replace hN := Lib.hid hN
  replace HG := Lib.hid HG
  replace HN := Lib.hid HN
  by_cases hxn : x = nx
  ·have hany : k.any x = k.word q ++ (k.word q).take 1 := by
    unfold Kn.any
    rw [hq]
    simp only
    rw [if_pos (by rw [hnx]; exact hxn)]
   obtain ⟨h1, h2, _⟩ := ht.of hqh
   have HO := fun (W : World) (hW : TrM k t T a W) => implNodeOf k t T a q W hv.sv hnb ht hW hqh
   obtain ⟨p, hp⟩ : ∃ p, t.of k.fin q = p := ⟨_, rfl⟩
   rw [hp] at HO h1 h2
   have hpN := h1
   have hfn : Hid (t.firstN p = y) := Lib.hid (by
    unfold Tr.firstN
    rw [h2, ← hy, hany]
    have := Kn.word_ne (k := k) q
    cases hw : k.word q with
    | nil => exact absurd hw this
    | cons b l => rfl)
   replace HO := Lib.hid HO
   replace hm := Lib.hid hm
   have ea1 : ((x : Int) == (nx : Int)) = true := by rw [beq_iff_eq]; omega
   have ea2 : decide ((x : Int) = (nx : Int)) = true := decide_eq_true (by omega)
   have ea3 : (x == nx) = true := by rw [beq_iff_eq]; omega
   have ea4 : decide (x = nx) = true := decide_eq_true (by omega)
   replace hxn := Lib.hid hxn
   clear hz hz2 hk hpw hfe hroom hany hp hnx h1 h2
   go_enter Tryz.func150, Tryz.ntmps150
   go_wp2_with fail
   refine (HC.out _).mono ?_
   rintro e w1 ⟨rfl, hb1⟩
   have hm1 := Lib.hid (hm.out.below hb1)
   have hfr1 := Lib.hid (Fr.of_below (T := T) (a := a) hb1)
   clear q0 q1 q2 q3 q4 q5 q6 q7 hb1
   obtain ⟨q0, q1, q2, q3, q4, q5, q6, q7⟩ := hm1.out.cells
   rw [hlast] at q5
   go_wp2_with fail
   refine (HG.out _).mono ?_
   rintro e w2 ⟨rfl, hb2⟩
   have hm2 := Lib.hid (hm1.out.below hb2)
   have hfr2 := Lib.hid (hfr1.out.trans (Fr.of_below hb2))
   clear q0 q1 q2 q3 q4 q5 q6 q7 hb2
   obtain ⟨q0, q1, q2, q3, q4, q5, q6, q7⟩ := hm2.out.cells
   rw [hlast] at q5
   go_wp2_with fail
   refine (HN.out _).mono ?_
   rintro e w3 ⟨rfl, hb3⟩
   have hm3 := Lib.hid (hm2.out.below hb3)
   have hfr3 := Lib.hid (hfr2.out.trans (Fr.of_below hb3))
   clear q0 q1 q2 q3 q4 q5 q6 q7 hb3
   obtain ⟨q0, q1, q2, q3, q4, q5, q6, q7⟩ := hm3.out.cells
   rw [hlast] at q5
   obtain ⟨g, hgA, _, _, ⟨_, _, _, _, n4, _⟩, _⟩ := hm3.out.node (i := p) hpN
   rw [hgA, hN.out] at q6
   rw [hfn.out] at n4
   have hpN2 : p < N := by have := hN.out; omega
   go_upto_region 7 with (fail)
   refine wp_region_cls_tail 18 (by kernel_rfl) (by kernel_rfl) ?_
   have c0 := clsCell q0
   have c5 := clsCell q5
   have c6 := clsCell q6
   have c7 := clsCell n4
   have hcls : Hid (∀ X : Wd (Below w3.heap.size w3), TrM k t T a X.w) := Lib.hid (fun X => hm3.out.below X.h)
   simp only [List.take_succ_cons, List.take_zero]
   repeat (go_big_quiet_step (first | (go_at_call 176; exact clsCall (HO.out _ (hcls.out _)))))
   refine wpQuiet_nil ?_
   rintro w4 ⟨⟨w4, hB⟩, rfl⟩
   simp only [List.drop_succ_cons, List.drop_zero]
   have hm4 := Lib.hid (hm3.out.below hB)
   have hfr4 := Lib.hid (hfr3.out.trans (Fr.of_below hB))
   clear q0 q1 q2 q3 q4 q5 q6 q7 n4 c0 c5 c6 c7 hcls hB
   go_wp2_with fail
   refine (HL.out _ hm4.out).mono ?_
   rintro e w5 ⟨⟨v, rfl⟩, t', a', ht', hm5, hfr5⟩
   have q5 := hm5.box.c 5 _ rfl
   have f5 := hm5.box.f 5 _ rfl
   have hS := Lib.hid (hm5.setLast (some x) (u := .int .i64 (x : Int)) rfl)
   have hTR := Lib.hid (ht'.of_eq (k' := { (k.push q y) with last := some x }) rfl rfl)
   replace hm5 := Lib.hid hm5
   have hfr6 := Lib.hid (hfr4.out.trans hfr5)
   clear hfr5 ht'
   go_wp2_with fail
   refine bodyPost_end (results_none rfl _ _ _) rfl ?_
   exact ⟨⟨_, rfl⟩, t', a', hTR.out, hS.out.1, hfr6.out.trans hS.out.2⟩

  ·have hxh : k.has k.ps.length x := by
    rcases hx with h1 | ⟨_, h1⟩
    ·exact h1
    ·exact absurd (h1.trans hnx) hxn
   have hany : k.any x = k.word x := by
    unfold Kn.any
    rw [hq]
    simp only
    rw [if_neg (by rw [hnx]; exact hxn)]
   obtain ⟨h1, h2, _⟩ := ht.of hxh
   have HO := fun (W : World) (hW : TrM k t T a W) => implNodeOf k t T a x W hv.sv hnb ht hW hxh
   obtain ⟨p, hp⟩ : ∃ p, t.of k.fin x = p := ⟨_, rfl⟩
   rw [hp] at HO h1 h2
   have hpN := h1
   have hfn : Hid (t.firstN p = y) := Lib.hid (by
    unfold Tr.firstN
    rw [h2, ← hy, hany])
   replace HO := Lib.hid HO
   replace hm := Lib.hid hm
   have ea1 : ((x : Int) == (nx : Int)) = false := by rw [beq_eq_false_iff_ne]; omega
   have ea2 : decide ((x : Int) = (nx : Int)) = false := decide_eq_false (by omega)
   have ea3 : (x == nx) = false := by rw [beq_eq_false_iff_ne]; omega
   have ea4 : decide (x = nx) = false := decide_eq_false (by omega)
   replace hxn := Lib.hid hxn
   clear hz hz2 hk hpw hfe hroom hany hp hnx h1 h2
   go_enter Tryz.func150, Tryz.ntmps150
   go_wp2_with fail
   refine (HC.out _).mono ?_
   rintro e w1 ⟨rfl, hb1⟩
   have hm1 := Lib.hid (hm.out.below hb1)
   have hfr1 := Lib.hid (Fr.of_below (T := T) (a := a) hb1)
   clear q0 q1 q2 q3 q4 q5 q6 q7 hb1
   obtain ⟨q0, q1, q2, q3, q4, q5, q6, q7⟩ := hm1.out.cells
   rw [hlast] at q5
   go_wp2_with fail
   refine (HG.out _).mono ?_
   rintro e w2 ⟨rfl, hb2⟩
   have hm2 := Lib.hid (hm1.out.below hb2)
   have hfr2 := Lib.hid (hfr1.out.trans (Fr.of_below hb2))
   clear q0 q1 q2 q3 q4 q5 q6 q7 hb2
   obtain ⟨q0, q1, q2, q3, q4, q5, q6, q7⟩ := hm2.out.cells
   rw [hlast] at q5
   go_wp2_with fail
   refine (HN.out _).mono ?_
   rintro e w3 ⟨rfl, hb3⟩
   have hm3 := Lib.hid (hm2.out.below hb3)
   have hfr3 := Lib.hid (hfr2.out.trans (Fr.of_below hb3))
   clear q0 q1 q2 q3 q4 q5 q6 q7 hb3
   obtain ⟨q0, q1, q2, q3, q4, q5, q6, q7⟩ := hm3.out.cells
   rw [hlast] at q5
   obtain ⟨g, hgA, _, _, ⟨_, _, _, _, n4, _⟩, _⟩ := hm3.out.node (i := p) hpN
   rw [hgA, hN.out] at q6
   rw [hfn.out] at n4
   have hpN2 : p < N := by have := hN.out; omega
   go_upto_region 7 with (fail)
   refine wp_region_cls_tail 18 (by kernel_rfl) (by kernel_rfl) ?_
   have c0 := clsCell q0
   have c5 := clsCell q5
   have c6 := clsCell q6
   have c7 := clsCell n4
   have hcls : Hid (∀ X : Wd (Below w3.heap.size w3), TrM k t T a X.w) := Lib.hid (fun X => hm3.out.below X.h)
   simp only [List.take_succ_cons, List.take_zero]
   repeat (go_big_quiet_step (first | (go_at_call 176; exact clsCall (HO.out _ (hcls.out _)))))
   refine wpQuiet_nil ?_
   rintro w4 ⟨⟨w4, hB⟩, rfl⟩
   simp only [List.drop_succ_cons, List.drop_zero]
   have hm4 := Lib.hid (hm3.out.below hB)
   have hfr4 := Lib.hid (hfr3.out.trans (Fr.of_below hB))
   clear q0 q1 q2 q3 q4 q5 q6 q7 n4 c0 c5 c6 c7 hcls hB
   go_wp2_with fail
   refine (HL.out _ hm4.out).mono ?_
   rintro e w5 ⟨⟨v, rfl⟩, t', a', ht', hm5, hfr5⟩
   have q5 := hm5.box.c 5 _ rfl
   have f5 := hm5.box.f 5 _ rfl
   have hS := Lib.hid (hm5.setLast (some x) (u := .int .i64 (x : Int)) rfl)
   have hTR := Lib.hid (ht'.of_eq (k' := { (k.push q y) with last := some x }) rfl rfl)
   replace hm5 := Lib.hid hm5
   have hfr6 := Lib.hid (hfr4.out.trans hfr5)
   clear hfr5 ht'
   go_wp2_with fail
   refine bodyPost_end (results_none rfl _ _ _) rfl ?_
   exact ⟨⟨_, rfl⟩, t', a', hTR.out, hS.out.1, hfr6.out.trans hS.out.2⟩
 ·have HG := fun W => implGrows k a.Ak a.ck false W hv (bfalse hg)
  unfold Kn.val at HG
  replace HG := Lib.hid HG
  have hk : k.after x = { k with last := some x } := by unfold Kn.after; rw [if_neg hg]
  rw [hk]
  have hTR := Lib.hid (ht.of_eq (k' := { k with last := some x }) rfl rfl)
  replace hm := Lib.hid hm
  clear hz hz2 hk hpw hfe hroom
  go_enter Tryz.func150, Tryz.ntmps150
  go_wp2_with fail
  refine (HC.out _).mono ?_
  rintro e w1 ⟨rfl, hb1⟩
  have hm1 := Lib.hid (hm.out.below hb1)
  have hfr1 := Lib.hid (Fr.of_below (T := T) (a := a) hb1)
  clear q0 q1 q2 q3 q4 q5 q6 q7 hb1
  obtain ⟨q0, q1, q2, q3, q4, q5, q6, q7⟩ := hm1.out.cells
  go_wp2_with fail
  refine (HG.out _).mono ?_
  rintro e w2 ⟨rfl, hb2⟩
  have hm2 := Lib.hid (hm1.out.below hb2)
  have hfr2 := Lib.hid (hfr1.out.trans (Fr.of_below hb2))
  clear q0 q1 q2 q3 q4 q5 q6 q7 hb2
  have q5 := hm2.out.box.c 5 _ rfl
  have f5 := hm2.out.box.f 5 _ rfl
  have hS := Lib.hid (hm2.out.setLast (some x) (u := .int .i64 (x : Int)) rfl)
  go_wp2_with fail
  refine bodyPost_end (results_none rfl _ _ _) rfl ?_
  exact ⟨⟨_, rfl⟩, t, a, hTR.out, hS.out.1, hfr2.out.trans hS.out.2⟩

theorem flatMap_same {α β : Type} {l : List α} {f g : α → List β} (h : ∀ x ∈ l, f x = g x) : l.flatMap f = l.flatMap g := by
 induction l with
 | nil => rfl
 | cons x l ih => rw [List.flatMap_cons, List.flatMap_cons, h x (by simp), ih (fun y hy => h y (by simp [hy]))]

def litT (i : Nat) : Tr := ⟨i, [], []⟩

theorem litT_cells {i j : Nat} (h : j < i) (hi : i ≤ 256) : nodeCells (litT i) j = [.int .i64 (-1), .int .i64 (-1), .int .i64 (-1), .int .u8 (j : Int), .int .u8 (j : Int), .int .i64 (j : Int)] := by
 have h1 : (litT i).parI j = -1 := by unfold Tr.parI; rw [if_pos (show j < (litT i).c from h)]
 have h2 : (litT i).nxtI j = -1 := by unfold Tr.nxtI; rw [if_pos (show j < (litT i).c from h)]
 have h3 : (litT i).lastN j = j := by unfold Tr.lastN; rw [if_pos (show j < (litT i).c from h)]
 have h4 : (litT i).firstN j = j := by
  unfold Tr.firstN
  rw [Tr.word_lit _ (show j < (litT i).c from h)]
  show (UInt8.ofNat j).toNat = j
  rw [UInt8.toNat_ofNat', Nat.mod_eq_of_lt (by omega)]
 have h5 : (litT i).codeOf j = j := Tr.codeOf_lit _ h
 have h6 : kidI (litT i).c (litT i).ns j (litT i).ns.length = -1 := rfl
 unfold nodeCells
 rw [h1, h2, h3, h4, h5, h6]

theorem litT_more {i : Nat} (hi : i < 256) : cellsN (litT (i + 1)) = cellsN (litT i) ++ [.int .i64 (-1), .int .i64 (-1), .int .i64 (-1), .int .u8 (i : Int), .int .u8 (i : Int), .int .i64 (i : Int)] := by
 unfold cellsN
 show (List.range (i + 1 + 0)).flatMap _ = (List.range (i + 0)).flatMap _ ++ _
 rw [Nat.add_zero, Nat.add_zero, List.range_succ, List.flatMap_append]
 congr 1
 ·refine flatMap_same (fun j hj => ?_)
  have := List.mem_range.1 hj
  rw [litT_cells (by omega) (by omega), litT_cells (by omega) (by omega)]
 ·simp only [List.flatMap_cons, List.flatMap_nil, List.append_nil]
  exact litT_cells (by omega) (by omega)

section
variable {k : Kn} {T : Nat} {a : TA} {w w' : World} {o : Obj} {A' : Option Addr} {c' : Nat}

theorem TrM.growL {i : Nat} (h : TrM k (litT i) T a w) (hg : (w.alloc o).grownBy w' (Value.slice a.An 0 0).ownBlock) (hown : w'.ownsRow (T + 1) 186 6 (.slice A' (i + 1) c') (i + 1) (cellsN (litT (i + 1))))
  (hat : (Value.slice A' 0 0).ownBlock = (Value.slice a.An 0 0).ownBlock ∨ (Value.slice A' 0 0).ownBlock = some (w.heap.size + 1)) :
  (w'.cell? ⟨T, 6, none⟩ = some (.slice a.An i a.cn) ∧ w'.frozen? ⟨T, 6, none⟩ = false) ∧
   TrM k (litT (i + 1)) T { a with An := A', cn := c' } (w'.setCell ⟨T, 6, none⟩ (.slice A' (i + 1) c')) ∧ Fr T a { a with An := A', cn := c' } w (w'.setCell ⟨T, 6, none⟩ (.slice A' (i + 1) c')) := by
 have hk := Keep.of_row hg
 have hlt : ∀ g, (Value.slice a.An 0 0).ownBlock = some g → T < g ∧ g < w.heap.size := fun g e => by have := h.ns.lt g (by rw [own_any]; exact e); omega
 have hltp : ∀ g, (Value.slice a.Ap 0 0).ownBlock = some g → T < g ∧ g < w.heap.size := fun g e => by have := h.pr.lt g (by rw [own_any]; exact e); omega
 have hltk : ∀ g, (Value.slice a.Ak 0 0).ownBlock = some g → T < g ∧ g < w.heap.size := fun g e => by have := h.kp.lt g (by rw [own_any]; exact e); omega
 have hT : ¬ (Value.slice a.An 0 0).ownBlock = some T := fun e => by have := hlt T e; omega
 have hbox := h.box.keep hk hT
 have hb2 := hbox.set (j := 6) (v0 := .slice a.An i a.cn) rfl (.slice A' (i + 1) c')
 have hTlt := h.box.lt
 refine ⟨⟨hbox.c 6 _ rfl, hbox.f 6 _ rfl⟩, ⟨hb2, ?_, ?_, ?_, ?_, ?_, h.ap3⟩, ?_, ?_⟩
 ·refine ownsRow_setCell_other hown (fun e => ?_) _
  rw [own_any] at e
  rcases hat with h1 | h1
  ·rw [h1] at e; exact hT e
  ·rw [h1] at e; injection e with e; exact absurd e (by show ¬ w.heap.size + 1 = T; omega)
 ·refine ownsRow_setCell_other (own_keep h.pr hk (fun g e => ?_)) (fun e => ?_) _
  ·rw [own_any] at e; exact h.ap1.symm g e
  ·rw [own_any] at e; have := hltp T e; omega
 ·refine ownsRow_setCell_other (own_keep h.kp hk (fun g e => ?_)) (fun e => ?_) _
  ·rw [own_any] at e; exact h.ap2.symm g e
  ·rw [own_any] at e; have := hltk T e; omega
 ·exact Apart.step h.ap1 hat (fun g e => by have := hltp g e; omega)
 ·exact Apart.step h.ap2 hat (fun g e => by have := hltk g e; omega)
 ·exact (hk.mono (fun g e => Or.inr (Or.inl e))).trans (Keep.of_set (S := a.blk T) (Or.inl rfl) _) (fun _ _ e => e)
 ·rintro g (e | e | e | e)
  ·exact Or.inl (Or.inl e)
  ·have e' : (Value.slice A' 0 0).ownBlock = some g := e
   rcases hat with h1 | h1
   ·rw [h1] at e'; exact Or.inl (Or.inr (Or.inl e'))
   ·rw [h1] at e'; injection e' with e'; exact Or.inr (by omega)
  ·exact Or.inl (Or.inr (Or.inr (Or.inl e)))
  ·exact Or.inl (Or.inr (Or.inr (Or.inr e)))

theorem TrM.zero {k : Kn} (hk : k.ps = []) (w : World) (U : TypeId) {vs : Array Value} (hvs : vs = #[.int .i64 (k.o : Int), .int .i64 (k.l : Int), .int .i64 (k.m : Int), .slice none 0 0, .int .i64 (k.base : Int), .int .i64 k.lastI, .slice none 0 0, .slice none 0 0]) :
  TrM k (litT 0) w.heap.size ⟨none, 0, none, 0, none, 0⟩ (w.alloc (.cells vs U)) := by
 subst hvs
 have hb := KBn.start w U [.int .i64 (k.o : Int), .int .i64 (k.l : Int), .int .i64 (k.m : Int), .slice none 0 0, .int .i64 (k.base : Int), .int .i64 k.lastI, .slice none 0 0, .slice none 0 0]
 have e : boxT k (litT 0) ⟨none, 0, none, 0, none, 0⟩ = [.int .i64 (k.o : Int), .int .i64 (k.l : Int), .int .i64 (k.m : Int), .slice none 0 0, .int .i64 (k.base : Int), .int .i64 k.lastI, .slice none 0 0, .slice none 0 0] := by
  unfold boxT; rw [hk]; rfl
 refine ⟨by rw [e]; exact hb, World.ownsRow_nil _ _ _ _, World.ownsRow_nil _ _ _ _, by rw [hk]; exact World.ownsRow_nil _ _ _ _, ?_, ?_, ?_⟩ <;> (intro g hg; cases hg)

end

set_option maxHeartbeats 8000000 in
theorem implNewTree (k : Kn) (A : Option Addr) (c B : Nat) (w : World) (hv : k.Valid) (hA : k.At w B A) (hB : B ≤ w.heap.size) :
  Calls Tryz.prog 149 #[k.val A c] w fun e w' => e = .returned (.pointer (some ⟨w.heap.size + 1, 0, none⟩)) ∧ ∃ t a, TrOk k t ∧ TrM k t (w.heap.size + 1) a w' ∧ Below w.heap.size w w' := by
 have hpw := hv.pow
 have hroom := hv.room
 have hfe := k.fin_eq
 have hnb : k.ps.length ≤ 1022 := by omega
 have HC := fun W => implClearCode k.o k.l k.m W hv.sv
 have hz : 2 ^ k.l = k.clear := rfl
 rw [hz] at HC
 obtain ⟨z, hz2⟩ : ∃ z, k.clear = z := ⟨_, rfl⟩
 rw [hz2] at HC
 have hz256 : z ≤ 256 := by omega
 have hlow := hv.below
 have hTs := TrOk.start (k := { k with ps := [] }) rfl (show k.clear ≤ 256 by omega)
 have hpair := hv.pair
 have hlearn := fun (j : Nat) (t : Tr) (a : TA) (q b : Nat) (W : World) (hj : j ≤ k.ps.length) => implTreeLearn { k with ps := k.ps.take j } t (w.heap.size + 1) a q b W hv.sv (by show (k.ps.take j).length ≤ 1022; rw [List.length_take]; omega) (fun i p y hi => by
  have hi' : (k.ps.take j)[i]? = some (p, y) := hi
  rw [List.getElem?_take] at hi'
  split at hi'
  ·exact hlow i p y hi'
  ·cases hi')
 replace hlearn := Lib.hid hlearn
 replace hpair := Lib.hid hpair
 replace hTs := Lib.hid hTs
 replace HC := Lib.hid HC
 unfold Kn.val
 go_enter Tryz.func149, Tryz.ntmps149
 go_upto_region 3 with (fail)
 have hT0 := TrM.zero (k := { k with ps := [] }) rfl (w.alloc (.cells #[.int .i64 (k.o : Int), .int .i64 (k.l : Int), .int .i64 (k.m : Int), .slice A k.ps.length c, .int .i64 (k.base : Int), .int .i64 k.lastI] 74)) 168 (vs := #[.int .i64 (k.o : Int), .int .i64 (k.l : Int), .int .i64 (k.m : Int), .slice none 0 0, .int .i64 (k.base : Int), .int .i64 k.lastI, .slice none 0 0, .slice none 0 0]) rfl
 have hK0 := KBn.start w 74 [.int .i64 (k.o : Int), .int .i64 (k.l : Int), .int .i64 (k.m : Int), .slice A k.ps.length c, .int .i64 (k.base : Int), .int .i64 k.lastI]
 rw [World.size_alloc] at hT0
 have hbel0 : Below w.heap.size w ((w.alloc (.cells #[.int .i64 (k.o : Int), .int .i64 (k.l : Int), .int .i64 (k.m : Int), .slice A k.ps.length c, .int .i64 (k.base : Int), .int .i64 k.lastI] 74)).alloc (.cells #[.int .i64 (k.o : Int), .int .i64 (k.l : Int), .int .i64 (k.m : Int), .slice none 0 0, .int .i64 (k.base : Int), .int .i64 k.lastI, .slice none 0 0, .slice none 0 0] 168)) := ((Below.refl _ _).alloc (Nat.le_refl _) _).alloc (by simp) _
 have hK1 := hK0.below ((Below.refl _ _).alloc (Nat.le_refl _) (.cells #[.int .i64 (k.o : Int), .int .i64 (k.l : Int), .int .i64 (k.m : Int), .slice none 0 0, .int .i64 (k.base : Int), .int .i64 k.lastI, .slice none 0 0, .slice none 0 0] 168))
 obtain ⟨w2, hw2⟩ : ∃ W, (w.alloc (.cells #[.int .i64 (k.o : Int), .int .i64 (k.l : Int), .int .i64 (k.m : Int), .slice A k.ps.length c, .int .i64 (k.base : Int), .int .i64 k.lastI] 74)).alloc (.cells #[.int .i64 (k.o : Int), .int .i64 (k.l : Int), .int .i64 (k.m : Int), .slice none 0 0, .int .i64 (k.base : Int), .int .i64 k.lastI, .slice none 0 0, .slice none 0 0] 168) = W := ⟨_, rfl⟩
 rw [hw2] at hT0 hbel0 hK1 ⊢
 clear hK0 hw2
 have hKB : ∀ W, Below (w.heap.size + 1) w2 W → KBn W w.heap.size [.int .i64 (k.o : Int), .int .i64 (k.l : Int), .int .i64 (k.m : Int), .slice A k.ps.length c, .int .i64 (k.base : Int), .int .i64 k.lastI] := fun W hW =>
  hK1.keep (S := fun g => w.heap.size + 1 ≤ g) ⟨hW.os, hW.tape, hW.output, hW.size, fun g _ hg => hW.block g (by omega)⟩ (by omega)
 replace hKB := Lib.hid hKB
 have q0 := hK1.c 0 _ rfl
 have q1 := hK1.c 1 _ rfl
 have q2 := hK1.c 2 _ rfl
 go_wp2_with fail
 refine (HC.out _).mono ?_
 rintro e w3 ⟨rfl, hb3⟩
 have hT3 := Lib.hid (hT0.below hb3)
 have hTl := hT0.box.lt
 have hB3 := Lib.hid (hb3.mono (show w.heap.size + 1 ≤ w2.heap.size by omega))
 clear q0 q1 q2 hT0 hb3
 go_upto_block 0 with fail
 go_cut [17] (fun v wx => Hid (∃ a1, TrM { k with ps := [] } (litT z) (w.heap.size + 1) a1 wx ∧ Below (w.heap.size + 1) w2 wx))
 case first =>
  go_wp2_with fail
  go_loopw [17] (fun v wr => ∃ i : Nat, v = .int .i64 (i : Int) ∧ i ≤ z ∧ Hid (∃ a1, TrM { k with ps := [] } (litT i) (w.heap.size + 1) a1 wr ∧ Below (w.heap.size + 1) w2 wr)) (fun v _ => z - (intOf v).toNat)
  case atStart => exact ⟨0, rfl, Nat.zero_le _, Lib.hid ⟨_, hT3.out, hB3.out⟩⟩
  case round =>
   obtain ⟨i, rfl, hi, hinv⟩ := hrel
   by_cases h1 : i < z
   ·obtain ⟨a1, hm1, hbl1⟩ := hinv.out
    have h1i : (i : Int) < z := by omega
    have hi256 : i < 256 := by omega
    have wi : IntKind.u8.wrap (i : Int) = i := u8_in i hi256
    have q6 := hm1.box.c 6 _ rfl
    have hTw := hm1.box.lt
    have hns : wr.ownsRow (w.heap.size + 1 + 1) 186 6 (.slice a1.An i a1.cn) i (cellsN (litT i)) := hm1.ns
    have q6' : wr.cell? ⟨w.heap.size + 1, 6, none⟩ = some (.slice a1.An i a1.cn) := q6
    have hm1' := Lib.hid hm1
    have hbl1' := Lib.hid hbl1
    clear q6 hm1 hbl1
    go_wp2_with (first
     | (at_builtin; refine wpList_append_row _ elemNode rfl (.tmp 24) (.tmp 31) rfl (w.heap.size + 1 + 1) _ _ _ rfl (hns.alloc _) _ _ 1 1 [.int .i64 (-1), .int .i64 (-1), .int .i64 (-1), .int .u8 (i : Int), .int .u8 (i : Int), .int .i64 (i : Int)] rfl (Row.newAt _ _ rfl _ [.int .i64 (-1), .int .i64 (-1), .int .i64 (-1), .int .u8 (i : Int), .int .u8 (i : Int), .int .i64 (i : Int)] 1 6 rfl) ?_ ?_ ?_ ?_ ?_))
    ·intro u hu; simp at hu; rcases hu with rfl | rfl | rfl | rfl <;> rfl
    ·unfold maxLen; omega
    ·omega
    ·simp; omega
    ·intro v4 w4 hv4 hg4 hat4
     obtain ⟨A4, c4, rfl, _, _⟩ := own_form hv4
     obtain ⟨⟨d6, f6⟩, hm4, hfr4⟩ := hm1'.out.growL (A' := A4) (c' := c4) (by rw [own_any] at hg4; exact hg4) (by rw [litT_more hi256]; exact hv4) (by rw [own_any A4, own_any a1.An] at hat4; simpa using hat4)
     have hinv2 : Hid (∃ a1, TrM { k with ps := [] } (litT (i + 1)) (w.heap.size + 1) a1 (w4.setCell ⟨w.heap.size + 1, 6, none⟩ (.slice A4 (i + 1) c4)) ∧ Below (w.heap.size + 1) w2 (w4.setCell ⟨w.heap.size + 1, 6, none⟩ (.slice A4 (i + 1) c4))) := Lib.hid ⟨_, hm4, hbl1'.out.trans (hfr4.since hm1'.out)⟩
     clear hv4 hg4 hat4 hm4 hfr4 hns q6'
     go_wp2_with fail
     go_roundw
     case rel => exact ⟨i + 1, by go_num, by omega, hinv2⟩
     case measure => simp [intOf]; omega
   ·obtain rfl : i = z := by omega
    go_wp2_with fail
    go_meet
    exact hinv
 case rest =>
  obtain ⟨a0, hm0, hbl0⟩ := hcut.out
  obtain ⟨n, hn⟩ : ∃ n, k.ps.length = n := ⟨_, rfl⟩
  have hrow : ∀ W, Below (w.heap.size + 1) w2 W → Row W B 2 A n (cellsP k.ps) := fun W hW => by
   have h1 : Row w B 2 A k.ps.length (cellsP k.ps) := hA
   rw [hn] at h1
   exact h1.below (hbel0.trans (hW.mono (by omega))) hB
  replace hrow := Lib.hid hrow
  have q3 := (hKB.out _ hbl0).c 3 _ rfl
  rw [hn] at q3 hnb
  have hstart : Hid (∃ t1 a1, TrOk { k with ps := k.ps.take 0 } t1 ∧ TrM { k with ps := k.ps.take 0 } t1 (w.heap.size + 1) a1 wc ∧ Below (w.heap.size + 1) w2 wc) := Lib.hid ⟨litT z, a0, by
   have := hTs.out
   rw [show ({ k with ps := [] } : Kn).clear = z from hz2] at this
   exact this, hm0, hbl0⟩
  replace hn := Lib.hid hn
  clear hcut hm0 hbl0 hT3 hB3
  go_wp2_with fail
  clear q3
  go_loopw [39] (fun v wr => ∃ j : Nat, v = .int .i64 (j : Int) ∧ j ≤ n ∧ Hid (∃ t1 a1, TrOk { k with ps := k.ps.take j } t1 ∧ TrM { k with ps := k.ps.take j } t1 (w.heap.size + 1) a1 wr ∧ Below (w.heap.size + 1) w2 wr)) (fun v _ => n - (intOf v).toNat)
  case atStart => exact ⟨0, rfl, Nat.zero_le _, hstart⟩
  case round =>
   obtain ⟨j, rfl, hj, hinv⟩ := hrel
   by_cases h1 : j < n
   ·obtain ⟨t1, a1, ht1, hm1, hbl1⟩ := hinv.out
    have hjl : j < k.ps.length := by rw [hn.out]; exact h1
    obtain ⟨⟨p, b⟩, hpb⟩ : ∃ y, k.ps[j]? = some y := ⟨_, List.getElem?_eq_getElem hjl⟩
    obtain ⟨hp1, hp2⟩ := hpair.out j p b hpb
    have hlj : (k.ps.take j).length = j := by rw [List.length_take]; omega
    obtain ⟨ba, off, rfl, hbB, g0, g1⟩ := (hrow.out _ hbl1).pair h1 hpb
    have hpush : ({ k with ps := k.ps.take j } : Kn).push p b = { k with ps := k.ps.take (j + 1) } := by
     obtain ⟨_, he⟩ := List.getElem?_eq_some_iff.1 hpb
     unfold Kn.push
     rw [List.take_succ_eq_append_getElem hjl, he]
    have HL := Lib.hid (fun (W : World) (hW : Below wr.heap.size wr W) => hlearn.out j t1 a1 p b W (by omega) ht1 (hm1.below hW) (by show k.has (k.ps.take j).length p; rw [hlj]; exact hp1) hp2)
    have h1i : (j : Int) < n := by omega
    have hj0 : (0 : Int) ≤ j := by omega
    have hm1' := Lib.hid hm1
    have hbl1' := Lib.hid hbl1
    have hTw := hm1.box.lt
    clear hpb hp1 hp2 hlj hjl ht1 hm1 hbl1 hinv
    go_wp2_with fail
    have hal := (Below.refl wr.heap.size wr).alloc (Nat.le_refl _) (.cells #[.int .i64 (p : Int), .int .i64 (b : Int)] 161)
    refine (HL.out _ hal).mono ?_
    rintro e w5 ⟨⟨v, rfl⟩, t', a', ht', hm', hfr'⟩
    rw [hpush] at ht' hm'
    have hinv2 : Hid (∃ t1 a1, TrOk { k with ps := k.ps.take (j + 1) } t1 ∧ TrM { k with ps := k.ps.take (j + 1) } t1 (w.heap.size + 1) a1 w5 ∧ Below (w.heap.size + 1) w2 w5) := Lib.hid ⟨t', a', ht', hm', (hbl1'.out.trans (hal.mono (by omega))).trans (hfr'.since (hm1'.out.below hal))⟩
    clear ht' hm' hfr' hal g0 g1
    go_wp2_with fail
    go_roundw
    case rel => exact ⟨j + 1, by go_num, by omega, hinv2⟩
    case measure => simp [intOf]; omega
   ·obtain rfl : j = n := by omega
    obtain ⟨t1, a1, ht1, hm1, hbl1⟩ := hinv.out
    have hall : ({ k with ps := k.ps.take j } : Kn) = k := by rw [List.take_of_length_le (by rw [hn.out]; omega)]
    rw [hall] at ht1 hm1
    have hfin := Lib.hid (And.intro ht1 (And.intro hm1 (hbel0.trans (hbl1.mono (by omega)))))
    clear ht1 hm1 hbl1 hinv hall
    go_wp2_with fail
    go_ret
    exact ⟨rfl, t1, a1, hfin.out⟩

theorem bsL_from {L d : List UInt8} {i : Nat} (hd : L.drop i = d) : (bsL L).extract i (bsL L).size = bsL d := by
 rw [bsL_part, ← hd]
 congr 1
 rw [List.take_of_length_le]
 rw [List.length_drop, bsL_size]
 omega

set_option maxHeartbeats 8000000 in
theorem implLearn (k : Kn) (A : Option Addr) (c B : Nat) (L : List UInt8) (w : World) (h : k.Valid) (hA : k.At w B A) (hB : B ≤ w.heap.size) (hf : k.fits L) (hL : L.length ≤ 2000) :
  Calls Tryz.prog 122 #[k.val A c, .string (bsL L)] w fun e w' => ∃ A' c' z, e = .returned (.tuple #[(k.learn L).val A' c', .int .i64 z]) ∧ (k.learn L).New w' w.heap.size A' ∧ (k.learn L).ps.length ≤ c' ∧ Below w.heap.size w w' := by
 have HC := fun W => implClearCode k.o k.l k.m W h.sv
 have hz : 2 ^ k.l = k.clear := rfl
 rw [hz] at HC
 have HT := fun (W : World) (hb : Below w.heap.size w W) => implNewTree k A c B W h (hA.below hb hB) (Nat.le_trans hB hb.size)
 have HF := fun (t : Tr) (T : Nat) (a : TA) (W : World) (ht : TrOk k t) (hm : TrM k t T a W) => implFollowClear k t T a W h ht hm
 obtain ⟨z, hz2⟩ : ∃ z, k.clear = z := ⟨_, rfl⟩
 rw [hz2] at HC HF
 obtain ⟨n, hn⟩ : ∃ n, k.ps.length = n := ⟨_, rfl⟩
 obtain ⟨q, hq⟩ : ∃ q, k.lastI = q := ⟨_, rfl⟩
 obtain ⟨N, hN⟩ : ∃ N, L.length = N := ⟨_, rfl⟩
 have hval : k.val A c = .agg #[.int .i64 (k.o : Int), .int .i64 (k.l : Int), .int .i64 (k.m : Int), .slice A n c, .int .i64 (k.base : Int), .int .i64 q] := by unfold Kn.val; rw [hn, hq]
 rw [hval] at HT ⊢
 have kb0 := (KB.start w 74 (.int .i64 (k.o : Int)) (.int .i64 (k.l : Int)) (.int .i64 (k.m : Int)) (.slice A n c) (.int .i64 (k.base : Int)) (.int .i64 q)).alloc (.cells #[.int .i64 0, .int .i64 0, .int .i64 0, .slice none 0 0, .int .i64 0, .int .i64 0] 74)
 have kr0 := KB.start (w.alloc (.cells #[.int .i64 (k.o : Int), .int .i64 (k.l : Int), .int .i64 (k.m : Int), .slice A n c, .int .i64 (k.base : Int), .int .i64 q] 74)) 74 (.int .i64 0) (.int .i64 0) (.int .i64 0) (.slice none 0 0) (.int .i64 0) (.int .i64 0)
 rw [World.size_alloc] at kr0
 have hW0 := ((Below.refl w.heap.size w).alloc (Nat.le_refl _) (.cells #[.int .i64 (k.o : Int), .int .i64 (k.l : Int), .int .i64 (k.m : Int), .slice A n c, .int .i64 (k.base : Int), .int .i64 q] 74)).alloc (by simp) (.cells #[.int .i64 0, .int .i64 0, .int .i64 0, .slice none 0 0, .int .i64 0, .int .i64 0] 74)
 have hgoal : Hid (k.cleared.Valid ∧ k.Like k.cleared ∧ k.cleared.fits L) := Lib.hid ⟨Kn.cleared_valid h, k.like_cleared, k.like_cleared.fits hf⟩
 replace HC := Lib.hid HC
 replace HT := Lib.hid HT
 replace HF := Lib.hid HF
 replace hn := Lib.hid hn
 replace hq := Lib.hid hq
 replace hz2 := Lib.hid hz2
 replace hN := Lib.hid hN
 clear hA hval hz
 go_enter Tryz.func122, Tryz.ntmps122
 go_upto_region 1 with (fail)
 obtain ⟨w2, hw2⟩ : ∃ W, (w.alloc (.cells #[.int .i64 (k.o : Int), .int .i64 (k.l : Int), .int .i64 (k.m : Int), .slice A n c, .int .i64 (k.base : Int), .int .i64 q] 74)).alloc (.cells #[.int .i64 0, .int .i64 0, .int .i64 0, .slice none 0 0, .int .i64 0, .int .i64 0] 74) = W := ⟨_, rfl⟩
 have hs2 : w2.heap.size = w.heap.size + 2 := by rw [← hw2]; simp
 rw [hw2] at kb0 kr0 hW0 ⊢
 clear hw2
 have hX := Lib.hid (fun (W : World) (hb : Below w2.heap.size w2 W) => And.intro (kb0.below hb) (And.intro (kr0.below hb) (hW0.trans (hb.mono (show w.heap.size ≤ w2.heap.size by omega)))))
 have hT0 := Lib.hid (HT.out w2 hW0)
 clear hW0 kr0
 obtain ⟨⟨q0, q1, q2, q3, q4, q5⟩, z0, z1, z2, z3, z4, z5⟩ := kb0
 go_wp2_with fail
 refine hT0.out.mono ?_
 rintro e w3 ⟨rfl, t0, a0, ht0, hm0, hb3⟩
 obtain ⟨T, hT⟩ : ∃ T, w2.heap.size + 1 = T := ⟨_, rfl⟩
 rw [hT] at hm0 ⊢
 obtain ⟨⟨⟨q0, q1, q2, q3, q4, q5⟩, z0, z1, z2, z3, z4, z5⟩, _, _⟩ := hX.out _ hb3
 replace hb3 := Lib.hid hb3
 replace ht0 := Lib.hid ht0
 replace hm0 := Lib.hid hm0
 go_wp2_with fail
 refine (HC.out _).mono ?_
 rintro e w4 ⟨rfl, hb4⟩
 have hm4 := Lib.hid (hm0.out.below hb4)
 have hb4' := Lib.hid (hb3.out.trans (hb4.mono hb3.out.size))
 clear q0 q1 q2 q3 q4 q5 z0 z1 z2 z3 z4 z5 hb4 hb3 hm0
 go_wp2_with fail
 refine (HF.out _ _ _ _ ht0.out hm4.out).mono ?_
 rintro e w5 ⟨⟨v5, rfl⟩, t5, a5, ht5, hm5, hfr5⟩
 have hb5 := Lib.hid (hb4'.out.trans ((hfr5.since hm4.out).mono (by omega)))
 have hst : Hid (∃ t' a', TrOk k.cleared t' ∧ TrM k.cleared t' T a' w5 ∧ Below w2.heap.size w2 w5) := Lib.hid ⟨t5, a5, ht5, hm5, hb5.out⟩
 clear ht5 hm5 hfr5 hb5 hb4' hm4 ht0 HF HC hT0 HT
 go_wp2_with fail
 go_loopw [7, 8] (fun u v wr => ∃ (x i : Nat) (k' : Kn), u = .int .i64 (x : Int) ∧ v = .int .i64 (i : Int) ∧ i ≤ N ∧ Hid (k'.Valid ∧ k.Like k' ∧ k'.fits (L.drop i) ∧ ∃ f, (L.drop i).length ≤ f ∧ learnF L.length k.cleared L = learnF f k' (L.drop i)) ∧ Hid (∃ t' a', TrOk k' t' ∧ TrM k' t' T a' wr ∧ Below w2.heap.size w2 wr)) (fun _ v _ => N - (intOf v).toNat)
 case atStart => exact ⟨0, 0, k.cleared, rfl, rfl, Nat.zero_le _, Lib.hid ⟨hgoal.out.1, hgoal.out.2.1, hgoal.out.2.2, L.length, Nat.le_refl _, rfl⟩, hst⟩
 case round =>
  clear hst
  obtain ⟨x, i, k', rfl, rfl, hi, hS, hM⟩ := hrel
  have hN2 := hN.out
  have hsz : (bsL L).size = N := hN2
  obtain ⟨hv, hlk, hfi, f, hfl, hsem⟩ := hS.out
  obtain ⟨t', a', ht', hm', hb'⟩ := hM.out
  by_cases hlt : i < N
  ·have h1i : (i : Int) < N := by omega
   obtain ⟨d, hd⟩ : ∃ d, L.drop i = d := ⟨_, rfl⟩
   rw [hd] at hfi hfl hsem
   have hdl : d.length = N - i := by rw [← hd, List.length_drop, hN2]
   have hdn : d ≠ [] := fun e => by rw [e] at hdl; simp at hdl; omega
   obtain ⟨y, e1, e2, e3, e4, e5, e6, e7⟩ := Kn.longest_take hv hdn hfi
   obtain ⟨b, r, hbr⟩ : ∃ b r, d = b :: r := by cases d with | nil => exact absurd rfl hdn | cons b r => exact ⟨b, r, rfl⟩
   have hex := bsL_from hd
   rw [hsz] at hex
   have hb0 : b.toNat < k'.clear := hfi b (by rw [hbr]; simp)
   obtain ⟨W, hW⟩ : ∃ W, (k'.longest d).length = W := ⟨_, rfl⟩
   have HLo := fun (wx : World) (hm : TrM k' t' T a' wx) => implLongest k' t' T a' b r wx hv ht' hm hb0 (by rw [← hbr]; omega)
   rw [← hbr, e1, hW] at HLo
   simp only [Option.getD_some] at HLo
   have HFo := fun (wx : World) (hm : TrM k' t' T a' wx) => implFollow k' t' T a' y wx hv ht' hm e2 (Kn.can_ne_clear hv e2)
   have hsem2 : Hid ((k'.after y).Valid ∧ k.Like (k'.after y) ∧ (k'.after y).fits (L.drop (i + W)) ∧ ∃ f, (L.drop (i + W)).length ≤ f ∧ learnF L.length k.cleared L = learnF f (k'.after y) (L.drop (i + W))) := by
    have hdd : L.drop (i + W) = d.drop W := by rw [← hd, List.drop_drop]
    rw [hdd]
    refine Lib.hid ⟨Kn.after_valid hv e2, hlk.trans (k'.like_after y), (k'.like_after y).fits (fits_drop hfi _), ?_⟩
    cases f with
    | zero => omega
    | succ f =>
     refine ⟨f, by rw [List.length_drop]; omega, ?_⟩
     rw [hsem, learnF, if_neg hdn, e1, hW]
     rfl
   have hiW : i + W ≤ N := by omega
   have hW1 : 1 ≤ W := by omega
   obtain ⟨iW, hiWe⟩ : ∃ s, i + W = s := ⟨_, rfl⟩
   rw [hiWe] at hiW hsem2
   have hiWi : (i : Int) + W = iW := by omega
   have wiW : IntKind.i64.wrap (iW : Int) = iW := IntWalk.i64_in _ (by omega)
   obtain ⟨i1, hi1⟩ : ∃ s, i + 1 = s := ⟨_, rfl⟩
   have hi1i : (i : Int) + 1 = i1 := by omega
   have wi1 : IntKind.i64.wrap (i1 : Int) = i1 := IntWalk.i64_in _ (by omega)
   have hmeas : N - iW < N - i := by omega
   replace hiWe := Lib.hid hiWe
   replace hi1 := Lib.hid hi1
   have hi0 : (0 : Int) ≤ i := by omega
   have hile : (i : Int) ≤ N := by omega
   obtain ⟨gb, hgb⟩ : ∃ gb : Bool, gb = decide k'.grows := ⟨_, rfl⟩
   have HG := fun (wx : World) => implGrows k' a'.Ak a'.ck gb wx hv (by rw [hgb]; exact decide_eq_true_iff)
   unfold Kn.val at HG
   obtain ⟨q0, q1, q2, q3, q4, q5, q6, q7⟩ := hm'.cells
   have HG2 := Lib.hid HG
   have HL2 := Lib.hid HLo
   have HF2 := Lib.hid HFo
   have hm2 := Lib.hid hm'
   have hb2 := Lib.hid hb'
   clear HG HLo HFo hm' hb' hv hlk hfi hfl hsem ht' e1 e2 e3 e4 e5 e6 e7 hd hbr hb0 hW hdn hS hM hN2 hgb f
   rcases gb with _ | _
   all_goals
    go_wp2_with fail
    refine (HG2.out _).mono ?_
    rintro e w6 ⟨rfl, hb6⟩
    have hm6 := Lib.hid (hm2.out.below hb6)
    have hb6' := Lib.hid (hb2.out.trans (hb6.mono hb2.out.size))
    clear q0 q1 q2 q3 q4 q5 q6 q7 hb6
    go_wp2_with fail
    refine (HL2.out _ hm6.out).mono ?_
    rintro e w7 ⟨rfl, hb7⟩
    have hm7 := Lib.hid (hm6.out.below hb7)
    have hb7' := Lib.hid (hb6'.out.trans (hb7.mono hb6'.out.size))
    clear hb7
    go_wp2_with fail
    refine (HF2.out _ hm7.out).mono ?_
    rintro e w8 ⟨⟨v8, rfl⟩, t8, a8, ht8, hm8, hfr8⟩
    have hinv : Hid (∃ t' a', TrOk (k'.after y) t' ∧ TrM (k'.after y) t' T a' w8 ∧ Below w2.heap.size w2 w8) := Lib.hid ⟨t8, a8, ht8, hm8, hb7'.out.trans ((hfr8.since hm7.out).mono (by omega))⟩
    clear ht8 hm8 hfr8
    go_wp2_with fail
    go_roundw
   case rel => exact ⟨_, iW, k'.after y, rfl, rfl, hiW, hsem2, hinv⟩
   case measure => exact hmeas
   case rel => exact ⟨_, iW, k'.after y, rfl, rfl, hiW, hsem2, hinv⟩
   case measure => exact hmeas
  ·obtain rfl : i = N := by omega
   have hnil : L.drop i = [] := List.drop_eq_nil_of_le (by omega)
   have hfin : learnF L.length k.cleared L = k' := by
    rw [hsem, hnil]
    cases f with
    | zero => rfl
    | succ f => rw [learnF, if_pos rfl]
   have hll : k.learn L = { k' with base := k'.ps.length, last := none } := by unfold Kn.learn; rw [hfin]
   have hll' := Lib.hid hll
   have hnb : k'.ps.length ≤ 1023 := by have := hv.room; have := hv.pow; omega
   have HCp := implCopyKnown k' a'.Ak a'.ck wr.heap.size wr hv (Row.of_own hm'.kp) (Nat.le_refl _)
   obtain ⟨q0, q1, q2, q3, q4, q5, q6, q7⟩ := hm'.cells
   obtain ⟨n2, hn2⟩ : ∃ n2, k'.ps.length = n2 := ⟨_, rfl⟩
   obtain ⟨o2, ho2⟩ : ∃ x, k'.o = x := ⟨_, rfl⟩
   obtain ⟨l2, hl2⟩ : ∃ x, k'.l = x := ⟨_, rfl⟩
   obtain ⟨m2, hm2⟩ : ∃ x, k'.m = x := ⟨_, rfl⟩
   obtain ⟨b2, hb2⟩ : ∃ x, k'.base = x := ⟨_, rfl⟩
   have hval2 : ∀ A c, k'.val A c = .agg #[.int .i64 (o2 : Int), .int .i64 (l2 : Int), .int .i64 (m2 : Int), .slice A n2 c, .int .i64 (b2 : Int), .int .i64 k'.lastI] := fun A c => by unfold Kn.val; rw [hn2, ho2, hl2, hm2, hb2]
   rw [hval2] at HCp
   rw [hn2] at q3 hnb
   rw [ho2] at q0
   rw [hl2] at q1
   rw [hm2] at q2
   rw [hb2] at q4
   simp only [hval2] at HCp
   have hfval : ∀ A c, ({ k' with base := n2, last := none } : Kn).val A c = .agg #[.int .i64 (o2 : Int), .int .i64 (l2 : Int), .int .i64 (m2 : Int), .slice A n2 c, .int .i64 (n2 : Int), .int .i64 (-1)] := fun A c => by unfold Kn.val; rw [← hn2, ← ho2, ← hl2, ← hm2]; rfl
   have HC2 := Lib.hid HCp
   have hb2' := Lib.hid hb'
   have hfv := Lib.hid hfval
   have hn2' := Lib.hid hn2
   have hwz := hb'.size
   clear hfval hval2 HCp hb' hv hlk hfi hfl hsem hnil hfin hll ht' hS hM hN2 ho2 hl2 hm2 hb2 hn2 hm'
   go_wp2_with fail
   refine HC2.out.mono ?_
   rintro e w9 ⟨A9, c9, rfl, hown9, hb9⟩
   have hb9' := Lib.hid (hb2'.out.trans (hb9.mono hwz))
   have hnew9 : Hid (({ k' with base := n2, last := none } : Kn).New w9 wr.heap.size A9) := Lib.hid ⟨hown9.at, hown9.new⟩
   have hcap9 : n2 ≤ c9 := by have := hown9.cap; rw [hn2'.out] at this; exact this
   clear q0 q1 q2 q3 q4 q5 q6 q7 hb9 hown9
   go_upto_region 12 with (fail)
   have kg := KB.start w9 74 (.int .i64 (o2 : Int)) (.int .i64 (l2 : Int)) (.int .i64 (m2 : Int)) (.slice A9 n2 c9) (.int .i64 (b2 : Int)) (.int .i64 k'.lastI)
   have hb10 := (Below.refl w9.heap.size w9).alloc (Nat.le_refl _) (.cells #[.int .i64 (o2 : Int), .int .i64 (l2 : Int), .int .i64 (m2 : Int), .slice A9 n2 c9, .int .i64 (b2 : Int), .int .i64 k'.lastI] 74)
   obtain ⟨w10, hw10⟩ : ∃ W, w9.alloc (.cells #[.int .i64 (o2 : Int), .int .i64 (l2 : Int), .int .i64 (m2 : Int), .slice A9 n2 c9, .int .i64 (b2 : Int), .int .i64 k'.lastI] 74) = W := ⟨_, rfl⟩
   rw [hw10] at kg hb10 ⊢
   obtain ⟨G, hG⟩ : ∃ G, w9.heap.size = G := ⟨_, rfl⟩
   have hsz9 := hb9'.out.size
   have hb2x := hb2'.out.size
   have hB10 : Below w2.heap.size w2 w10 := hb9'.out.trans (hb10.mono hsz9)
   obtain ⟨_, kr, hW10⟩ := hX.out _ hB10
   rw [hG] at kg hb10 hsz9 ⊢
   have hb11 := (hb10.setCell (p := ⟨G, 4, none⟩) (Nat.le_refl _) (.int .i64 (n2 : Int))).setCell (p := ⟨G, 5, none⟩) (Nat.le_refl _) (.int .i64 (-1))
   have hW11 := (hW10.setCell (p := ⟨G, 4, none⟩) (show w.heap.size ≤ G by omega) (.int .i64 (n2 : Int))).setCell (p := ⟨G, 5, none⟩) (show w.heap.size ≤ G by omega) (.int .i64 (-1))
   have hfin := Lib.hid (below_set6 (H := w.heap.size + 1) hW11 (by omega) (.int .i64 (o2 : Int)) (.int .i64 (l2 : Int)) (.int .i64 (m2 : Int)) (.slice A9 n2 c9) (.int .i64 (n2 : Int)) (.int .i64 (-1)))
   have hnw := Lib.hid (((hnew9.out.below (by rw [hG]; exact hb11)).set6 (H := w.heap.size + 1) (by omega) (.int .i64 (o2 : Int)) (.int .i64 (l2 : Int)) (.int .i64 (m2 : Int)) (.slice A9 n2 c9) (.int .i64 (n2 : Int)) (.int .i64 (-1))).mono (base' := w.heap.size) (by omega))
   obtain ⟨⟨q0, q1, q2, q3, q4, q5⟩, z0, z1, z2, z3, z4, z5⟩ := kg
   obtain ⟨⟨r0, r1, r2, r3, r4, r5⟩, y0, y1, y2, y3, y4, y5⟩ := kr
   have hne1 : ¬ G = w.heap.size + 1 := by omega
   have hne2 : ¬ w.heap.size + 1 = G := by omega
   clear hw10 hb10 hB10 hW10 hb11 hW11 hnew9 hb9' hsz9 hG hs2 hwz hX hb2x
   go_wp2_with fail
   refine bodyPost_ret (v := .tuple #[.agg #[.int .i64 (o2 : Int), .int .i64 (l2 : Int), .int .i64 (m2 : Int), .slice A9 n2 c9, .int .i64 (n2 : Int), .int .i64 (-1)], .int .i64 (x : Int)]) (by simp [results, Tryz.results122, go_sem, r0, r1, r2, r3, r4, r5]) rfl ?_
   refine ⟨A9, c9, x, ?_, ?_, ?_, hfin.out⟩
   ·rw [hll'.out, hn2'.out, hfv.out]
   ·rw [hll'.out, hn2'.out]; exact hnw.out
   ·rw [hll'.out]; show k'.ps.length ≤ c9; rw [hn2'.out]; exact hcap9

set_option maxHeartbeats 4000000 in
theorem implLearnYes (k : Kn) (A : Option Addr) (c B : Nat) (L : List UInt8) (w : World) (h : k.Fresh) (hA : k.At w B A) (hB : B ≤ w.heap.size) (hc : k.ps.length ≤ c) (hf : dfits k.o k.l k.m L) :
  Calls Tryz.prog 97 #[k.val A c, .string (bsL L)] w fun e w' => ∃ A' c', e = .returned (.tuple #[(k.learn L).val A' c', .bool true]) ∧ (k.learn L).New w' w.heap.size A' ∧ (k.learn L).ps.length ≤ c' ∧ Below w.heap.size w w' := by
 have hff := h.val.dfits.1 hf
 have HK := fun W (hb : Below w.heap.size w W) => implKnownValid k A c B W h (hA.below hb hB) (Nat.le_trans hB hb.size)
 have HD := fun W => implDataFits k.o k.l k.m (bsL L) true W (by show L.length ≤ _; omega) (btrue hf)
 have HC := fun W (hb : Below w.heap.size w W) => implLearn k A c B L W h.val (hA.below hb hB) (Nat.le_trans hB hb.size) hff.2 hff.1
 obtain ⟨k2, hk2⟩ : ∃ R, k.learn L = R := ⟨_, rfl⟩
 rw [hk2] at HC ⊢
 obtain ⟨n, hn⟩ : ∃ x, k.ps.length = x := ⟨_, rfl⟩
 obtain ⟨o, ho⟩ : ∃ x, k.o = x := ⟨_, rfl⟩
 obtain ⟨l, hl'⟩ : ∃ x, k.l = x := ⟨_, rfl⟩
 obtain ⟨m, hm⟩ : ∃ x, k.m = x := ⟨_, rfl⟩
 obtain ⟨b, hb⟩ : ∃ x, k.base = x := ⟨_, rfl⟩
 obtain ⟨q, hq⟩ : ∃ x, k.lastI = x := ⟨_, rfl⟩
 have hval : k.val A c = .agg #[.int .i64 (o : Int), .int .i64 (l : Int), .int .i64 (m : Int), .slice A n c, .int .i64 (b : Int), .int .i64 q] := by unfold Kn.val; rw [hn, ho, hl', hm, hb, hq]
 rw [hval] at HK HC ⊢
 rw [ho, hl', hm] at HD
 replace HK := Lib.hid HK
 replace HC := Lib.hid HC
 replace HD := Lib.hid HD
 have kb0 := (KB.start w 74 (.int .i64 (o : Int)) (.int .i64 (l : Int)) (.int .i64 (m : Int)) (.slice A n c) (.int .i64 (b : Int)) (.int .i64 q)).alloc (.cells #[.int .i64 0, .int .i64 0, .int .i64 0, .slice none 0 0, .int .i64 0, .int .i64 0] 74)
 have kr0 := KB.start (w.alloc (.cells #[.int .i64 (o : Int), .int .i64 (l : Int), .int .i64 (m : Int), .slice A n c, .int .i64 (b : Int), .int .i64 q] 74)) 74 (.int .i64 0) (.int .i64 0) (.int .i64 0) (.slice none 0 0) (.int .i64 0) (.int .i64 0)
 rw [World.size_alloc] at kr0
 have hW0 := Lib.hid (((Below.refl w.heap.size w).alloc (Nat.le_refl _) (.cells #[.int .i64 (o : Int), .int .i64 (l : Int), .int .i64 (m : Int), .slice A n c, .int .i64 (b : Int), .int .i64 q] 74)).alloc (by simp) (.cells #[.int .i64 0, .int .i64 0, .int .i64 0, .slice none 0 0, .int .i64 0, .int .i64 0] 74))
 replace kb0 := Lib.hid kb0
 replace kr0 := Lib.hid kr0
 clear h hA hf hff hk2 hn ho hl' hm hb hq hval hc
 go_enter Tryz.func97, Tryz.ntmps97
 go_wp2_with fail
 refine (HK.out _ hW0.out).mono ?_
 rintro e w1 ⟨rfl, hb1⟩
 have hW1 := Lib.hid (hW0.out.trans (hb1.mono hW0.out.size))
 have kb1 := Lib.hid (kb0.out.below hb1)
 have kr1 := Lib.hid (kr0.out.below hb1)
 clear hb1 kb0 kr0 hW0
 obtain ⟨⟨q0, q1, q2, q3, q4, q5⟩, z0, z1, z2, z3, z4, z5⟩ := kb1.out
 go_wp2_with fail
 refine (HD.out _).mono ?_
 rintro e w2 ⟨rfl, hb2⟩
 have hW2 := Lib.hid (hW1.out.trans (hb2.mono hW1.out.size))
 have kb2 := Lib.hid (kb1.out.below hb2)
 have kr2 := Lib.hid (kr1.out.below hb2)
 clear q0 q1 q2 q3 q4 q5 z0 z1 z2 z3 z4 z5 hb2 kb1 kr1 hW1
 obtain ⟨⟨q0, q1, q2, q3, q4, q5⟩, z0, z1, z2, z3, z4, z5⟩ := kb2.out
 go_wp2_with fail
 refine (HC.out _ hW2.out).mono ?_
 rintro e w3 ⟨A3, c3, zz, rfl, hat, hcp, hb3⟩
 have hsz2 := kr2.out.lt
 have hb4 := hb3.alloc hb3.size (.cells #[.int .i64 (k2.o : Int), .int .i64 (k2.l : Int), .int .i64 (k2.m : Int), .slice A3 k2.ps.length c3, .int .i64 (k2.base : Int), .int .i64 k2.lastI] 74)
 have hat0 := hat.below ((Below.refl _ _).alloc (Nat.le_refl _) (.cells #[.int .i64 (k2.o : Int), .int .i64 (k2.l : Int), .int .i64 (k2.m : Int), .slice A3 k2.ps.length c3, .int .i64 (k2.base : Int), .int .i64 k2.lastI] 74))
 have kg := KB.start w3 74 (.int .i64 (k2.o : Int)) (.int .i64 (k2.l : Int)) (.int .i64 (k2.m : Int)) (.slice A3 k2.ps.length c3) (.int .i64 (k2.base : Int)) (.int .i64 k2.lastI)
 replace hb4 := Lib.hid hb4
 replace hat0 := Lib.hid hat0
 replace kg := Lib.hid kg
 unfold Kn.val
 clear q0 q1 q2 q3 q4 q5 z0 z1 z2 z3 z4 z5 hb3 hat
 go_upto_region 4 with (fail)
 obtain ⟨w4, hw4⟩ : ∃ W, w3.alloc (.cells #[.int .i64 (k2.o : Int), .int .i64 (k2.l : Int), .int .i64 (k2.m : Int), .slice A3 k2.ps.length c3, .int .i64 (k2.base : Int), .int .i64 k2.lastI] 74) = W := ⟨_, rfl⟩
 rw [hw4] at hb4 hat0 kg ⊢
 clear hw4
 have hat3 := hat0.out.set6 (H := w.heap.size + 1) hsz2 (.int .i64 (k2.o : Int)) (.int .i64 (k2.l : Int)) (.int .i64 (k2.m : Int)) (.slice A3 k2.ps.length c3) (.int .i64 (k2.base : Int)) (.int .i64 k2.lastI)
 have hW3 := below_set6 (H := w.heap.size + 1) (hW2.out.trans (hb4.out.mono hW2.out.size)) (by omega) (.int .i64 (k2.o : Int)) (.int .i64 (k2.l : Int)) (.int .i64 (k2.m : Int)) (.slice A3 k2.ps.length c3) (.int .i64 (k2.base : Int)) (.int .i64 k2.lastI)
 have hat4 := Lib.hid (hat3.mono hW2.out.size)
 replace hW3 := Lib.hid hW3
 obtain ⟨⟨r0, r1, r2, r3, r4, r5⟩, y0, y1, y2, y3, y4, y5⟩ := kr2.out.below hb4.out
 obtain ⟨⟨q0, q1, q2, q3, q4, q5⟩, z0, z1, z2, z3, z4, z5⟩ := kg.out
 clear hb4 kr2 kb2 hW2 hat3 kg hat0
 go_wp2_with fail
 refine bodyPost_ret (v := .tuple #[.agg #[.int .i64 (k2.o : Int), .int .i64 (k2.l : Int), .int .i64 (k2.m : Int), .slice A3 k2.ps.length c3, .int .i64 (k2.base : Int), .int .i64 k2.lastI], .bool true]) (by simp [results, Tryz.results97, go_sem, r0, r1, r2, r3, r4, r5]) rfl ?_
 exact ⟨A3, c3, rfl, hat4.out, hcp, hW3.out⟩

set_option maxHeartbeats 4000000 in
theorem implLearnNo (k : Kn) (A : Option Addr) (c B : Nat) (s : ByteArray) (w : World) (h : k.Fresh) (hA : k.At w B A) (hB : B ≤ w.heap.size) (hs : s.size ≤ 1048576) (hf : ¬ dfits k.o k.l k.m s.data.toList) :
  Calls Tryz.prog 97 #[k.val A c, .string s] w fun e w' => e = .returned (.tuple #[.agg #[.int .i64 0, .int .i64 0, .int .i64 0, .slice none 0 0, .int .i64 0, .int .i64 0], .bool false]) ∧ Below w.heap.size w w' := by
 have HK := fun W (hb : Below w.heap.size w W) => implKnownValid k A c B W h (hA.below hb hB) (Nat.le_trans hB hb.size)
 have HD := fun W => implDataFits k.o k.l k.m s false W hs (bfalse hf)
 obtain ⟨n, hn⟩ : ∃ x, k.ps.length = x := ⟨_, rfl⟩
 obtain ⟨o, ho⟩ : ∃ x, k.o = x := ⟨_, rfl⟩
 obtain ⟨l, hl'⟩ : ∃ x, k.l = x := ⟨_, rfl⟩
 obtain ⟨m, hm⟩ : ∃ x, k.m = x := ⟨_, rfl⟩
 obtain ⟨b, hb⟩ : ∃ x, k.base = x := ⟨_, rfl⟩
 obtain ⟨q, hq⟩ : ∃ x, k.lastI = x := ⟨_, rfl⟩
 have hval : k.val A c = .agg #[.int .i64 (o : Int), .int .i64 (l : Int), .int .i64 (m : Int), .slice A n c, .int .i64 (b : Int), .int .i64 q] := by unfold Kn.val; rw [hn, ho, hl', hm, hb, hq]
 rw [hval] at HK ⊢
 rw [ho, hl', hm] at HD
 replace HK := Lib.hid HK
 replace HD := Lib.hid HD
 have kb0 := (KB.start w 74 (.int .i64 (o : Int)) (.int .i64 (l : Int)) (.int .i64 (m : Int)) (.slice A n c) (.int .i64 (b : Int)) (.int .i64 q)).alloc (.cells #[.int .i64 0, .int .i64 0, .int .i64 0, .slice none 0 0, .int .i64 0, .int .i64 0] 74)
 have kr0 := KB.start (w.alloc (.cells #[.int .i64 (o : Int), .int .i64 (l : Int), .int .i64 (m : Int), .slice A n c, .int .i64 (b : Int), .int .i64 q] 74)) 74 (.int .i64 0) (.int .i64 0) (.int .i64 0) (.slice none 0 0) (.int .i64 0) (.int .i64 0)
 rw [World.size_alloc] at kr0
 have hW0 := Lib.hid (((Below.refl w.heap.size w).alloc (Nat.le_refl _) (.cells #[.int .i64 (o : Int), .int .i64 (l : Int), .int .i64 (m : Int), .slice A n c, .int .i64 (b : Int), .int .i64 q] 74)).alloc (by simp) (.cells #[.int .i64 0, .int .i64 0, .int .i64 0, .slice none 0 0, .int .i64 0, .int .i64 0] 74))
 replace kb0 := Lib.hid kb0
 replace kr0 := Lib.hid kr0
 clear h hA hf hn ho hl' hm hb hq hval
 go_enter Tryz.func97, Tryz.ntmps97
 go_wp2_with fail
 refine (HK.out _ hW0.out).mono ?_
 rintro e w1 ⟨rfl, hb1⟩
 have hW1 := Lib.hid (hW0.out.trans (hb1.mono hW0.out.size))
 have kb1 := Lib.hid (kb0.out.below hb1)
 have kr1 := Lib.hid (kr0.out.below hb1)
 clear hb1 kb0 kr0 hW0
 obtain ⟨⟨q0, q1, q2, q3, q4, q5⟩, z0, z1, z2, z3, z4, z5⟩ := kb1.out
 go_wp2_with fail
 refine (HD.out _).mono ?_
 rintro e w2 ⟨rfl, hb2⟩
 have hW2 := Lib.hid (below_set6 (H := w.heap.size + 1) (hW1.out.trans (hb2.mono hW1.out.size)) (by omega) (.int .i64 0) (.int .i64 0) (.int .i64 0) (.slice none 0 0) (.int .i64 0) (.int .i64 0))
 obtain ⟨⟨r0, r1, r2, r3, r4, r5⟩, y0, y1, y2, y3, y4, y5⟩ := kr1.out.below hb2
 clear q0 q1 q2 q3 q4 q5 z0 z1 z2 z3 z4 z5 hb2 kb1 kr1 hW1
 go_wp2_with fail
 refine bodyPost_ret (v := .tuple #[.agg #[.int .i64 0, .int .i64 0, .int .i64 0, .slice none 0 0, .int .i64 0, .int .i64 0], .bool false]) (by simp [results, Tryz.results97, go_sem, r0, r1, r2, r3, r4, r5]) rfl ?_
 exact ⟨rfl, hW2.out⟩

set_option maxHeartbeats 4000000 in
theorem implStartWithYes (o l m : Nat) (d : List UInt8) (w : World) (h : dfits o l m d) :
  Calls Tryz.prog 55 #[.agg #[.int .i64 (o : Int), .int .i64 (l : Int), .int .i64 (m : Int)], .string (bsL d)] w fun e w' => ∃ A' c', e = .returned (.tuple #[(Kn.dict o l m d).val A' c', .bool true]) ∧ (Kn.dict o l m d).New w' w.heap.size A' ∧ (Kn.dict o l m d).ps.length ≤ c' ∧ Below w.heap.size w w' := by
 have HS := fun W => implStartYes o l m W h.1
 have HL := fun (W : World) => implLearnYes (Kn.zero o l m) none 0 0 d W (Kn.zero_fresh h.1) Row.none_ (Nat.zero_le _) (Nat.le_refl _) h
 have hv0 : (Kn.zero o l m).val none 0 = .agg #[.int .i64 (o : Int), .int .i64 (l : Int), .int .i64 (m : Int), .slice none 0 0, .int .i64 0, .int .i64 (-1)] := rfl
 rw [hv0] at HL
 have hk : (Kn.zero o l m).learn d = Kn.dict o l m d := rfl
 rw [hk] at HL
 obtain ⟨k2, hk2⟩ : ∃ k2, Kn.dict o l m d = k2 := ⟨_, rfl⟩
 rw [hk2] at HL ⊢
 replace HS := Lib.hid HS
 replace HL := Lib.hid HL
 have kr0 := KB.start (w.alloc (.cells #[.int .i64 (o : Int), .int .i64 (l : Int), .int .i64 (m : Int)] 24)) 74 (.int .i64 0) (.int .i64 0) (.int .i64 0) (.slice none 0 0) (.int .i64 0) (.int .i64 0)
 rw [World.size_alloc] at kr0
 have hW0 := Lib.hid (((Below.refl w.heap.size w).alloc (Nat.le_refl _) (.cells #[.int .i64 (o : Int), .int .i64 (l : Int), .int .i64 (m : Int)] 24)).alloc (by simp) (.cells #[.int .i64 0, .int .i64 0, .int .i64 0, .slice none 0 0, .int .i64 0, .int .i64 0] 74))
 replace kr0 := Lib.hid kr0
 clear h hv0 hk hk2
 go_enter Tryz.func55, Tryz.ntmps55
 go_wp2_with fail
 refine (HS.out _).mono ?_
 rintro e w1 ⟨rfl, hb1⟩
 have hW1 := Lib.hid ((hW0.out.trans (hb1.mono hW0.out.size)).alloc (hW0.out.trans (hb1.mono hW0.out.size)).size (.cells #[.int .i64 (o : Int), .int .i64 (l : Int), .int .i64 (m : Int), .slice none 0 0, .int .i64 0, .int .i64 (-1)] 74))
 have kr1 := Lib.hid ((kr0.out.below hb1).alloc (.cells #[.int .i64 (o : Int), .int .i64 (l : Int), .int .i64 (m : Int), .slice none 0 0, .int .i64 0, .int .i64 (-1)] 74))
 have hsz1 := (kr0.out.below hb1).lt
 clear hb1 kr0 hW0
 go_wp2_with fail
 refine (HL.out _).mono ?_
 rintro e w3 ⟨A3, c3, rfl, hat, hcp, hb3⟩
 have hsz3 := kr1.out.lt
 have hat3 := hat.set6 (H := w.heap.size + 1) hsz3 (.int .i64 (k2.o : Int)) (.int .i64 (k2.l : Int)) (.int .i64 (k2.m : Int)) (.slice A3 k2.ps.length c3) (.int .i64 (k2.base : Int)) (.int .i64 k2.lastI)
 have hW3 := Lib.hid (below_set6 (H := w.heap.size + 1) (hW1.out.trans (hb3.mono hW1.out.size)) (by omega) (.int .i64 (k2.o : Int)) (.int .i64 (k2.l : Int)) (.int .i64 (k2.m : Int)) (.slice A3 k2.ps.length c3) (.int .i64 (k2.base : Int)) (.int .i64 k2.lastI))
 have hat4 := Lib.hid (hat3.mono hW1.out.size)
 obtain ⟨⟨r0, r1, r2, r3, r4, r5⟩, y0, y1, y2, y3, y4, y5⟩ := kr1.out.below hb3
 unfold Kn.val
 clear hb3 kr1 hW1 hat hat3
 go_wp2_with fail
 refine bodyPost_ret (v := .tuple #[.agg #[.int .i64 (k2.o : Int), .int .i64 (k2.l : Int), .int .i64 (k2.m : Int), .slice A3 k2.ps.length c3, .int .i64 (k2.base : Int), .int .i64 k2.lastI], .bool true]) (by simp [results, Tryz.results55, go_sem, r0, r1, r2, r3, r4, r5]) rfl ?_
 exact ⟨A3, c3, rfl, hat4.out, hcp, hW3.out⟩

set_option maxHeartbeats 1000000 in
theorem implStartWithBad (o l m : Int) (s : ByteArray) (w : World) (hsv : ¬ sv o l m) :
  Calls Tryz.prog 55 #[.agg #[.int .i64 o, .int .i64 l, .int .i64 m], .string s] w fun e w' => e = .returned (.tuple #[.agg #[.int .i64 0, .int .i64 0, .int .i64 0, .slice none 0 0, .int .i64 0, .int .i64 0], .bool false]) ∧ Below w.heap.size w w' := by
 have HS := Lib.hid (fun W => implStartNo o l m W hsv)
 have kr0 := KB.start (w.alloc (.cells #[.int .i64 o, .int .i64 l, .int .i64 m] 24)) 74 (.int .i64 0) (.int .i64 0) (.int .i64 0) (.slice none 0 0) (.int .i64 0) (.int .i64 0)
 rw [World.size_alloc] at kr0
 have hW0 := Lib.hid (((Below.refl w.heap.size w).alloc (Nat.le_refl _) (.cells #[.int .i64 o, .int .i64 l, .int .i64 m] 24)).alloc (by simp) (.cells #[.int .i64 0, .int .i64 0, .int .i64 0, .slice none 0 0, .int .i64 0, .int .i64 0] 74))
 replace kr0 := Lib.hid kr0
 clear hsv
 go_enter Tryz.func55, Tryz.ntmps55
 go_wp2_with fail
 refine (HS.out _).mono ?_
 rintro e w1 ⟨rfl, hb1⟩
 have hsz1 := (kr0.out.below hb1).lt
 have hW3 := Lib.hid (below_set6 (H := w.heap.size + 1) ((hW0.out.trans (hb1.mono hW0.out.size)).alloc (hW0.out.trans (hb1.mono hW0.out.size)).size (.cells #[.int .i64 0, .int .i64 0, .int .i64 0, .slice none 0 0, .int .i64 0, .int .i64 0] 74)) (by omega) (.int .i64 0) (.int .i64 0) (.int .i64 0) (.slice none 0 0) (.int .i64 0) (.int .i64 0))
 have hb1' := Lib.hid hb1
 clear hb1 hW0
 go_upto_region 3 with (fail)
 have kr1 := (kr0.out.below hb1'.out).alloc (.cells #[.int .i64 0, .int .i64 0, .int .i64 0, .slice none 0 0, .int .i64 0, .int .i64 0] 74)
 obtain ⟨w2, hw2⟩ : ∃ W, w1.alloc (.cells #[.int .i64 0, .int .i64 0, .int .i64 0, .slice none 0 0, .int .i64 0, .int .i64 0] 74) = W := ⟨_, rfl⟩
 rw [hw2] at kr1 hW3 ⊢
 obtain ⟨⟨r0, r1, r2, r3, r4, r5⟩, y0, y1, y2, y3, y4, y5⟩ := kr1
 clear kr0 hb1' hw2
 go_wp2_with fail
 refine bodyPost_ret (v := .tuple #[.agg #[.int .i64 0, .int .i64 0, .int .i64 0, .slice none 0 0, .int .i64 0, .int .i64 0], .bool false]) (by simp [results, Tryz.results55, go_sem, r0, r1, r2, r3, r4, r5]) rfl ?_
 exact ⟨rfl, hW3.out⟩

set_option maxHeartbeats 4000000 in
theorem implStartWithNo (o l m : Int) (s : ByteArray) (w : World) (hs : s.size ≤ 1048576) (h : ¬ dfits o l m s.data.toList) :
  Calls Tryz.prog 55 #[.agg #[.int .i64 o, .int .i64 l, .int .i64 m], .string s] w fun e w' => e = .returned (.tuple #[.agg #[.int .i64 0, .int .i64 0, .int .i64 0, .slice none 0 0, .int .i64 0, .int .i64 0], .bool false]) ∧ Below w.heap.size w w' := by
 by_cases hsv : sv o l m
 ·obtain ⟨on, rfl⟩ : ∃ n : Nat, o = n := ⟨o.toNat, by have := hsv.1; omega⟩
  obtain ⟨ln, rfl⟩ : ∃ n : Nat, l = n := ⟨l.toNat, by have := hsv.2.1; omega⟩
  obtain ⟨mn, rfl⟩ : ∃ n : Nat, m = n := ⟨m.toNat, by have := hsv.2; omega⟩
  have HS := fun W => implStartYes on ln mn W hsv
  have HL := fun (W : World) => implLearnNo (Kn.zero on ln mn) none 0 0 s W (Kn.zero_fresh hsv) Row.none_ (Nat.zero_le _) hs h
  have hv0 : (Kn.zero on ln mn).val none 0 = .agg #[.int .i64 (on : Int), .int .i64 (ln : Int), .int .i64 (mn : Int), .slice none 0 0, .int .i64 0, .int .i64 (-1)] := rfl
  rw [hv0] at HL
  replace HS := Lib.hid HS
  replace HL := Lib.hid HL
  have kr0 := KB.start (w.alloc (.cells #[.int .i64 (on : Int), .int .i64 (ln : Int), .int .i64 (mn : Int)] 24)) 74 (.int .i64 0) (.int .i64 0) (.int .i64 0) (.slice none 0 0) (.int .i64 0) (.int .i64 0)
  rw [World.size_alloc] at kr0
  have hW0 := Lib.hid (((Below.refl w.heap.size w).alloc (Nat.le_refl _) (.cells #[.int .i64 (on : Int), .int .i64 (ln : Int), .int .i64 (mn : Int)] 24)).alloc (by simp) (.cells #[.int .i64 0, .int .i64 0, .int .i64 0, .slice none 0 0, .int .i64 0, .int .i64 0] 74))
  replace kr0 := Lib.hid kr0
  clear h hv0 hsv
  go_enter Tryz.func55, Tryz.ntmps55
  go_wp2_with fail
  refine (HS.out _).mono ?_
  rintro e w1 ⟨rfl, hb1⟩
  have hW1 := Lib.hid ((hW0.out.trans (hb1.mono hW0.out.size)).alloc (hW0.out.trans (hb1.mono hW0.out.size)).size (.cells #[.int .i64 (on : Int), .int .i64 (ln : Int), .int .i64 (mn : Int), .slice none 0 0, .int .i64 0, .int .i64 (-1)] 74))
  have kr1 := Lib.hid ((kr0.out.below hb1).alloc (.cells #[.int .i64 (on : Int), .int .i64 (ln : Int), .int .i64 (mn : Int), .slice none 0 0, .int .i64 0, .int .i64 (-1)] 74))
  have hsz1 := (kr0.out.below hb1).lt
  clear hb1 kr0 hW0
  go_wp2_with fail
  refine (HL.out _).mono ?_
  rintro e w3 ⟨rfl, hb3⟩
  have hW3 := Lib.hid (below_set6 (H := w.heap.size + 1) (hW1.out.trans (hb3.mono hW1.out.size)) (by omega) (.int .i64 0) (.int .i64 0) (.int .i64 0) (.slice none 0 0) (.int .i64 0) (.int .i64 0))
  obtain ⟨⟨r0, r1, r2, r3, r4, r5⟩, y0, y1, y2, y3, y4, y5⟩ := kr1.out.below hb3
  clear hb3 kr1 hW1
  go_wp2_with fail
  refine bodyPost_ret (v := .tuple #[.agg #[.int .i64 0, .int .i64 0, .int .i64 0, .slice none 0 0, .int .i64 0, .int .i64 0], .bool false]) (by simp [results, Tryz.results55, go_sem, r0, r1, r2, r3, r4, r5]) rfl ?_
  exact ⟨rfl, hW3.out⟩
 ·exact implStartWithBad o l m s w hsv

end Go.Proofs.YthlgpgaeajfchaaGreat

