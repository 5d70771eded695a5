/-
  The program's tree of words: forget.
-/
import Derived.Test.YthlgpgaeajfchaaGreatDoorImplTLearn
namespace Go.Proofs.YthlgpgaeajfchaaGreatDoor
open Go.RowKit
set_option linter.unusedVariables false
set_option maxRecDepth 100000

theorem own_pre' {w : World} {base size n c m : Nat} {e : TypeId} {A : Option Addr} {xs : List Value} (h : w.ownsRow base e size (.slice A n c) n xs) (hm : m ≤ n) : w.ownsRow base e size (.slice A m c) m (xs.take (m * size)) := by
  cases A with
  | some ad => exact own_pre h hm (by simp)
  | none =>
    refine ⟨by have := h.1; have := Nat.mul_le_mul_right size hm; rw [List.length_take]; omega, .inl ?_⟩
    rcases h.2 with ⟨h0, h1⟩ | ⟨g, cap, cur, hv, _⟩
    · injection h0 with _ e2 e3
      subst h1
      obtain rfl : m = 0 := by omega
      rw [e3]
      exact ⟨rfl, rfl⟩
    · cases hv

/-- A tree in memory whose last nodes are being taken away. -/
structure TrF (k : Kn) (t : Tr) (T : Nat) (a : TA) (m : Nat) (w : World) : Prop where
  box : KBn w T (boxT k t a)
  ns : ∃ xs, w.ownsRow (T + 1) 156 6 (.slice a.An (t.c + t.ns.length) a.cn) (t.c + t.ns.length) xs ∧ xs.take ((t.c + m) * 6) = cellsN (t.cut m)
  pr : w.ownsRow (T + 1) 3 1 (.slice a.Ap t.pr.length a.cp) t.pr.length (t.pr.map natV)
  kp : w.ownsRow (T + 1) 123 2 (.slice a.Ak k.ps.length a.ck) k.ps.length (cellsP k.ps)

section
variable {k : Kn} {t : Tr} {T : Nat} {a : TA} {w w' : World}

theorem TrF.below {m : Nat} (h : TrF k t T a m w) (hb : Below w.heap.size w w') : TrF k t T a m w' := by
  obtain ⟨xs, h1, h2⟩ := h.ns
  exact ⟨h.box.below hb, ⟨xs, own_below h1 hb (Nat.le_refl _), h2⟩, own_below h.pr hb (Nat.le_refl _), own_below h.kp hb (Nat.le_refl _)⟩

theorem TrM.trF (h : TrM k t T a w) : TrF k t T a t.ns.length w :=
  ⟨h.box, ⟨_, h.ns, by rw [cut_all, List.take_of_length_le (by rw [cellsN_length]; omega)]⟩, h.pr, h.kp⟩

theorem TrF.node {m : Nat} (h : TrF k t T a m w) {i : Nat} (hm : m ≤ t.ns.length) (hi : i < t.c + m) : ∃ g, a.An = some ⟨g, 0, none⟩ ∧ T < g ∧ g < w.heap.size ∧
    (w.cell? ⟨g, i * 6, none⟩ = some (.int .i64 ((t.cut m).parI i)) ∧ w.cell? ⟨g, i * 6 + 2, none⟩ = some (.int .i64 ((t.cut m).nxtI i)) ∧ w.cell? ⟨g, i * 6 + 5, none⟩ = some (.int .i64 ((t.cut m).codeOf i : Int))) ∧ (∀ j, j < (t.c + m) * 6 → ∃ v, w.cell? ⟨g, j, none⟩ = some v) ∧ ∀ j, w.frozen? ⟨g, j, none⟩ = false := by
  obtain ⟨xs, h1, h2⟩ := h.ns
  obtain ⟨g, e, hg, hlt, _, hc, hf⟩ := own_place h1 (by omega)
  have hlen : (t.cut m).c + (t.cut m).ns.length = t.c + m := by
    show t.c + (t.ns.take m).length = _
    rw [List.length_take]
    omega
  have hget : ∀ j u, (cellsN (t.cut m))[j]? = some u → w.cell? ⟨g, j, none⟩ = some u := fun j u hu => by
    rw [← h2, List.getElem?_take] at hu
    split at hu
    · exact hc j u hu
    · cases hu
  refine ⟨g, e, by omega, hlt, ⟨hget _ _ (cellsN_get (t.cut m) (by omega) (j := 0) (by omega)), hget _ _ (cellsN_get (t.cut m) (by omega) (j := 2) (by omega)), hget _ _ (cellsN_get (t.cut m) (by omega) (j := 5) (by omega))⟩, fun j hj => ?_, hf⟩
  have hj2 : j < (cellsN (t.cut m)).length := by rw [cellsN_length, hlen]; exact hj
  exact ⟨_, hget j _ (List.getElem?_eq_getElem hj2)⟩

/-- The last node is taken away. -/
theorem TrF.less {m : Nat} {d : Nd} {g : Nat} (h : TrF k t T a (m + 1) w) (hnd : NdOk t.c t.ns) (hd : t.ns[m]? = some d) (hA : a.An = some ⟨g, 0, none⟩) (hg : T < g) (hp : ∀ g, (Value.slice a.Ap 0 0).ownBlock = some g → (Value.slice a.An 0 0).ownBlock ≠ some g) (hq : ∀ g, (Value.slice a.Ak 0 0).ownBlock = some g → (Value.slice a.An 0 0).ownBlock ≠ some g) :
    TrF k t T a m (w.setCell ⟨g, d.par * 6 + 1, none⟩ (.int .i64 (kidI t.c t.ns d.par m))) ∧ Fr T a a w (w.setCell ⟨g, d.par * 6 + 1, none⟩ (.int .i64 (kidI t.c t.ns d.par m))) := by
  obtain ⟨xs, h1, h2⟩ := h.ns
  have hgA : (Value.slice a.An 0 0).ownBlock = some g := by rw [hA]; rfl
  refine ⟨⟨h.box.keep (S := fun y => y = g) (Keep.of_set (S := fun y => y = g) (p := ⟨g, d.par * 6 + 1, none⟩) rfl _) (by omega), ⟨_, own_set h1 hA _, ?_⟩, ?_, ?_⟩, ?_, fun _ e => Or.inl e⟩
  · have h3 := (cellsN_less hnd hd).1
    rw [← h2, List.take_take, Nat.min_eq_left (by omega)] at h3
    rw [List.take_set]
    exact h3
  · exact ownsRow_setCell_other h.pr (fun e => by rw [own_any] at e; exact hp _ e hgA) _
  · exact ownsRow_setCell_other h.kp (fun e => by rw [own_any] at e; exact hq _ e hgA) _
  · exact Keep.of_set (S := a.blk T) (p := ⟨g, d.par * 6 + 1, none⟩) (Or.inr (Or.inl hgA)) _

/-- The rows are cut. -/
theorem TrF.done {m : Nat} (h : TrF k t T a m w) (hm : m ≤ t.ns.length) (hb : k.base ≤ k.ps.length) (hl : t.pr.length = k.ps.length) (h1 : Apart (.slice a.An 0 0) (.slice a.Ap 0 0)) (h2 : Apart (.slice a.An 0 0) (.slice a.Ak 0 0)) (h3 : Apart (.slice a.Ap 0 0) (.slice a.Ak 0 0)) {u6 u7 u3 : Value} (e6 : u6 = .slice a.An (t.c + m) a.cn) (e7 : u7 = .slice a.Ap k.base a.cp) (e3 : u3 = .slice a.Ak k.base a.ck) :
    TrM { k with ps := k.ps.take k.base } ⟨t.c, t.ns.take m, t.pr.take k.base⟩ T a (((w.setCell ⟨T, 6, none⟩ u6).setCell ⟨T, 7, none⟩ u7).setCell ⟨T, 3, none⟩ u3) ∧ Fr T a a w (((w.setCell ⟨T, 6, none⟩ u6).setCell ⟨T, 7, none⟩ u7).setCell ⟨T, 3, none⟩ u3) := by
  subst e6 e7 e3
  have hlm : (t.ns.take m).length = m := by rw [List.length_take]; omega
  have hlp : (t.pr.take k.base).length = k.base := by rw [List.length_take]; omega
  have hlk : (k.ps.take k.base).length = k.base := by rw [List.length_take]; omega
  obtain ⟨xs, hx1, hx2⟩ := h.ns
  have hbox := ((h.box.set (j := 6) rfl (.slice a.An (t.c + m) a.cn)).set (j := 7) rfl (.slice a.Ap k.base a.cp)).set (j := 3) rfl (.slice a.Ak k.base a.ck)
  have far : ∀ {v : Value} {e : TypeId} {size n : Nat} {ys : List Value} {W : World} (j : Nat) (u : Value), W.ownsRow (T + 1) e size v n ys → (W.setCell ⟨T, j, none⟩ u).ownsRow (T + 1) e size v n ys := fun j u ho =>
    ownsRow_setCell_below ho (by show T < T + 1; omega) u
  refine ⟨⟨?_, ?_, ?_, ?_, h1, h2, h3⟩, ⟨?_, fun _ e => Or.inl e⟩⟩
  · have e : boxT { k with ps := k.ps.take k.base } ⟨t.c, t.ns.take m, t.pr.take k.base⟩ a = (((boxT k t a).set 6 (.slice a.An (t.c + m) a.cn)).set 7 (.slice a.Ap k.base a.cp)).set 3 (.slice a.Ak k.base a.ck) := by
      unfold boxT
      show [_, _, _, Value.slice a.Ak (k.ps.take k.base).length a.ck, _, _, Value.slice a.An (t.c + (t.ns.take m).length) a.cn, Value.slice a.Ap (t.pr.take k.base).length a.cp] = _
      rw [hlm, hlp, hlk]
      rfl
    rw [e]
    exact hbox
  · show World.ownsRow _ _ _ _ (.slice a.An (t.c + (t.ns.take m).length) a.cn) (t.c + (t.ns.take m).length) (cellsN (t.cut m))
    rw [hlm, ← hx2]
    exact far 3 _ (far 7 _ (far 6 _ (own_pre' hx1 (by omega))))
  · show World.ownsRow _ _ _ _ (.slice a.Ap (t.pr.take k.base).length a.cp) (t.pr.take k.base).length ((t.pr.take k.base).map natV)
    rw [hlp, List.map_take]
    have := own_pre' h.pr (show k.base ≤ t.pr.length by omega)
    rw [Nat.mul_one] at this
    exact far 3 _ (far 7 _ (far 6 _ this))
  · show World.ownsRow _ _ _ _ (.slice a.Ak (k.ps.take k.base).length a.ck) (k.ps.take k.base).length (cellsP (k.ps.take k.base))
    rw [hlk, cellsP_take]
    exact far 3 _ (far 7 _ (far 6 _ (own_pre' h.kp hb)))
  · exact ((Keep.of_set (S := a.blk T) (Or.inl rfl) _).trans (Keep.of_set (S := a.blk T) (Or.inl rfl) _) (fun _ _ e => e)).trans (Keep.of_set (S := a.blk T) (Or.inl rfl) _) (fun _ _ e => e)

end

set_option maxHeartbeats 8000000 in
theorem implForget (k : Kn) (t : Tr) (T : Nat) (a : TA) (w : World) (hv : k.Valid) (ht : TrOk k t) (hm : TrM k t T a w) :
    Calls Tryz.prog 122 #[.pointer (some ⟨T, 0, none⟩)] w fun e w' => (∃ v, e = .returned v) ∧ ∃ t' a', TrOk k.cleared t' ∧ TrM { k with ps := k.ps.take k.base } t' T a' w' ∧ Fr T a a' w w' := by
  have hpw := hv.pow
  have hcl := ht.cl
  have hfe := k.fin_eq
  have hnsl := ht.ns_le
  have hkeep := hv.keep
  have hlen := ht.len
  have hnb : k.ps.length ≤ 1023 := by have := hv.room; omega
  have HE := fun W => implEndCode k.o k.l k.m W hv.sv
  have hf : 2 ^ k.l + 1 = k.fin := rfl
  rw [hf] at HE
  have hforget := fun (m : Nat) => ht.forget hv (m := m)
  obtain ⟨f, hff⟩ : ∃ f, k.fin = f := ⟨_, rfl⟩
  obtain ⟨c, hc⟩ : ∃ c, t.c = c := ⟨_, rfl⟩
  obtain ⟨b, hb⟩ : ∃ b, k.base = b := ⟨_, rfl⟩
  obtain ⟨N, hN⟩ : ∃ N, t.ns.length = N := ⟨_, rfl⟩
  rw [hff] at HE hforget
  obtain ⟨f1, hf1⟩ : ∃ x : Nat, (f : Int) + 1 = x := ⟨f + 1, by omega⟩
  obtain ⟨lim, hlim⟩ : ∃ x : Nat, (f1 : Int) + b = x := ⟨f1 + b, by omega⟩
  have hlim2 : f + 1 + k.base = lim := by omega
  rw [hlim2] at hforget
  have hcb : 2 ≤ c ∧ c ≤ 256 := by omega
  have hclim : c ≤ lim := by omega
  have hNb : N ≤ 1023 := by omega
  have hbb : b ≤ 1023 := by omega
  have hbps : b ≤ k.ps.length := by omega
  have hbpr : b ≤ t.pr.length := by omega
  have hfb : f1 ≤ 300 := by omega
  have hlimb : lim ≤ 2000 := by omega
  have hpc : t.pr.length ≤ a.cp := by
    obtain ⟨_, _, e, h, _⟩ := own_form hm.pr
    injection e with _ _ e
    rw [e]; exact h
  have hkc : k.ps.length ≤ a.ck := by
    obtain ⟨_, _, e, h, _⟩ := own_form hm.kp
    injection e with _ _ e
    rw [e]; exact h
  have hnc : t.c + t.ns.length ≤ a.cn := by
    obtain ⟨_, _, e, h, _⟩ := own_form hm.ns
    injection e with _ _ e
    rw [e]; exact h
  have hF0 := Lib.hid hm.trF
  have hap1 := Lib.hid (fun g (e : (Value.slice a.Ap 0 0).ownBlock = some g) => hm.ap1.symm g e)
  have hap2 := Lib.hid (fun g (e : (Value.slice a.Ak 0 0).ownBlock = some g) => hm.ap2.symm g e)
  have hnd := Lib.hid ht.nd
  replace HE := Lib.hid HE
  replace hforget := Lib.hid hforget
  obtain ⟨q0, q1, q2, q3, q4, q5, q6, q7⟩ := hm.cells
  rw [hb] at q4
  replace hm := Lib.hid hm
  replace hN := Lib.hid hN
  replace hc := Lib.hid hc
  replace hb := Lib.hid hb
  clear hf hpw hcl hfe hnsl hkeep hlen hff
  go_enter Tryz.func122, Tryz.ntmps122
  go_wp2_with fail
  refine (HE.out _).mono ?_
  rintro e w1 ⟨rfl, hb1⟩
  have hF1 := Lib.hid (hF0.out.below hb1)
  have hfr1 := Lib.hid (Fr.of_below (T := T) (a := a) hb1)
  clear q0 q1 q2 q3 q4 q5 q6 q7
  have hbx := hF1.out.box
  have q6 := hbx.c 6 _ rfl
  rw [hc.out, hN.out] at q6
  obtain ⟨n0, hn0⟩ : ∃ x : Nat, c + N = x := ⟨_, rfl⟩
  rw [hn0] at q6 
  clear hbx hb1
  go_wp2_with fail
  clear q6
  go_loopw [4] (fun v wr => ∃ m n : Nat, v = .int .i64 (n : Int) ∧ Hid (n = c + m) ∧ m ≤ N ∧ n ≤ 1300 ∧ 1 ≤ n ∧ Hid (∀ (j : Nat) (d : Nd), m ≤ j → t.ns[j]? = some d → lim ≤ d.code) ∧ Hid (TrF k t T a m wr) ∧ Hid (Fr T a a w wr)) (fun v _ => (intOf v).toNat)
  case atStart => exact ⟨N, n0, rfl, Lib.hid hn0.symm, Nat.le_refl _, by omega, by omega, Lib.hid (fun j d hj hd => by have := (List.getElem?_eq_some_iff.1 hd).1; have := hN.out; omega), Lib.hid (by have := hF1.out; rw [hN.out] at this; exact this), hfr1⟩
  case round =>
    obtain ⟨m, n, rfl, hn, hmN, hn13, hn1, hup, hF, hfr⟩ := hrel
    obtain ⟨n1, hn1e⟩ : ∃ x : Nat, (n : Int) - 1 = x := ⟨n - 1, by omega⟩
    have hn' := hn.out
    obtain ⟨g, hgA, hgT, hgl, ⟨d0, d2, d5⟩, hdv, hdf⟩ := hF.out.node (i := n1) (by rw [hN.out]; exact hmN) (by rw [hc.out]; omega)
    have b6 := hF.out.box.c 6 _ rfl
    rw [hgA, hc.out, hN.out, hn0] at b6
    have hlast : (m = 0 ∧ (t.cut m).codeOf n1 < lim) ∨ ∃ (m' : Nat) (d : Nd), m = m' + 1 ∧ n1 = c + m' ∧ t.ns[m']? = some d ∧ (t.cut m).codeOf n1 = d.code ∧ (t.cut m).parI n1 = d.par ∧ (t.cut m).nxtI n1 = kidI t.c t.ns d.par m' := by
      rcases Nat.eq_zero_or_pos m with h0 | h0
      · subst h0
        refine Or.inl ⟨rfl, ?_⟩
        rw [Tr.codeOf_lit _ (show n1 < (t.cut 0).c by show n1 < t.c; rw [hc.out]; omega)]
        omega
      · obtain ⟨m', rfl⟩ : ∃ m', m = m' + 1 := ⟨m - 1, by omega⟩
        have hml : m' < t.ns.length := by rw [hN.out]; omega
        have hd : t.ns[m']? = some t.ns[m'] := List.getElem?_eq_getElem hml
        have hd2 : (t.cut (m' + 1)).ns[m']? = some t.ns[m'] := by
          show (t.ns.take (m' + 1))[m']? = _
          rw [List.getElem?_take, if_pos (by omega), hd]
        have en : n1 = c + m' := by omega
        have ec : (t.cut (m' + 1)).c = c := hc.out
        refine Or.inr ⟨m', t.ns[m'], rfl, en, hd, ?_, ?_, ?_⟩
        · rw [en, ← ec, Tr.codeOf_node _ hd2]
        · unfold Tr.parI
          rw [ec, if_neg (by omega), show n1 - c = m' by omega, hd2]
        · rw [en, ← hc.out]
          exact (cellsN_less hnd.out hd).2
    obtain ⟨x, hx⟩ : ∃ x, (t.cut m).codeOf n1 = x := ⟨_, rfl⟩
    rw [hx] at d5 hlast
    have hn1N : n1 < n0 := by omega
    by_cases hxl : lim ≤ x
    · obtain ⟨m', d, rfl, en, hd, ex, ep, enx⟩ := hlast.resolve_left (fun h => by omega)
      rw [ep] at d0
      rw [enx] at d2
      have hpar := (hnd.out.par m' d hd).1
      rw [hc.out] at hpar
      have hless := Lib.hid (fun (W : World) (hW : TrF k t T a (m' + 1) W) => hW.less hnd.out hd hgA hgT hap1.out hap2.out)
      obtain ⟨pp, hpp⟩ : ∃ p, d.par = p := ⟨_, rfl⟩
      obtain ⟨zz, hzz⟩ : ∃ z, kidI t.c t.ns pp m' = z := ⟨_, rfl⟩
      rw [hpp] at d0 d2 hpar hless
      rw [hzz] at d2 hless
      have hup2 : Hid (∀ (j : Nat) (e : Nd), m' ≤ j → t.ns[j]? = some e → lim ≤ e.code) := Lib.hid (fun j e hj he => by
        by_cases hjm : j = m'
        · subst hjm
          rw [hd] at he
          injection he with he
          subst he
          omega
        · exact hup.out j e (by omega) he)
      have hppN : pp < n0 := by omega
      have hp0 : (0 : Int) ≤ pp := by omega
      have hn10 : (0 : Int) ≤ n1 := by omega
      have hn1b : n1 ≤ 1300 := by omega
      have hge : (lim : Int) ≤ x := by omega
      have hnode := Lib.hid (fun (W : World) (hW : TrF k t T a (m' + 1) W) => (show (∃ v, W.cell? ⟨g, pp * 6 + 1, none⟩ = some v) ∧ W.frozen? ⟨g, pp * 6 + 1, none⟩ = false from by
        obtain ⟨g9, hg9, _, _, _, h1, h2⟩ := hW.node (i := n1) (by rw [hN.out]; exact hmN) (by rw [hc.out]; omega)
        obtain rfl : g = g9 := by rw [hgA] at hg9; injection hg9 with e; injection e
        exact ⟨h1 _ (by rw [hc.out]; omega), h2 _⟩))
      have hmz : n1 < n := by omega
      have h1n1 : 1 ≤ n1 := by omega
      have hm'N : m' ≤ N := by omega
      replace en := Lib.hid en
      clear hup hlast hd ex ep enx hx hpp hzz hn'
      go_upto_region 5 with (fail)
      refine wp_region_cls_tail 22 (by kernel_rfl) (by kernel_rfl) ?_
      have c6 := clsCell b6
      have c0 := clsCell d0
      have c2 := clsCell d2
      simp only [List.take_succ_cons, List.take_zero]
      repeat (go_big_quiet_step (fail))
      refine wpQuiet_nil ?_
      rintro w2 ⟨⟨w2, hB⟩, rfl⟩
      simp only [List.drop_succ_cons, List.drop_zero]
      have hF2 := Lib.hid (hF.out.below hB)
      obtain ⟨⟨vv, hvv⟩, hfv⟩ := hnode.out _ hF2.out
      have hL := hless.out _ hF2.out
      have hF3 := Lib.hid hL.1
      have hfr3 := Lib.hid ((hfr.out.trans (Fr.of_below hB)).trans hL.2)
      clear hL b6 c6 c0 c2 d0 d2 d5
      go_wp2_with fail
      go_roundw
      case rel => exact ⟨m', n1, rfl, en, hm'N, hn1b, h1n1, hup2, hF3, hfr3⟩
      case measure => simp [intOf]; omega
    · have hall : ∀ (j : Nat) (d : Nd), j < m → t.ns[j]? = some d → d.code < lim := fun j d hj hd => by
        rcases hlast with ⟨h0, _⟩ | ⟨m', d', h0, _, hd', ex, _, _⟩
        · omega
        · by_cases hjm : j = m'
          · subst hjm
            rw [hd] at hd'
            injection hd' with hd'
            subst hd'
            omega
          · have := hnd.out.rise j m' d d' hd hd' (by omega)
            omega
      have HTR := Lib.hid (hforget.out m (by rw [hN.out]; exact hmN) hall hup.out)
      have hD := Lib.hid (fun u6 u7 u3 => hF.out.done (u6 := u6) (u7 := u7) (u3 := u3) (by rw [hN.out]; exact hmN) hv.keep ht.len hm.out.ap1 hm.out.ap2 hm.out.ap3)
      have b7 := hF.out.box.c 7 _ rfl
      have b3 := hF.out.box.c 3 _ rfl
      have f6 := hF.out.box.f 6 _ rfl
      have f7 := hF.out.box.f 7 _ rfl
      have f3 := hF.out.box.f 3 _ rfl
      have hnc2 : n ≤ a.cn := by rw [hc.out, hN.out] at hnc; omega
      have hpc2 : b ≤ a.cp := by omega
      have hkc2 : b ≤ a.ck := by omega
      have hn10 : (0 : Int) ≤ n1 := by omega
      have hn1b : n1 ≤ 1300 := by omega
      have hge : ¬ (lim : Int) ≤ x := by omega
      replace hn' := Lib.hid hn'
      clear hlast hall hx hup hforget
      go_wp2_with fail
      refine bodyPost_end (results_none rfl _ _ _) rfl ?_
      have hDD := hD.out _ _ _ (by rw [hgA, hc.out, ← hn.out]) (by rw [hb.out]) (by rw [hb.out])
      exact ⟨⟨_, rfl⟩, _, HTR.out, a, hDD.1, hfr.out.trans hDD.2⟩

end Go.Proofs.YthlgpgaeajfchaaGreatDoor
