/-
 The program's tree of words: learn.
-/
import Derived.Test.YthlgpgaeajfchaaGreatPwTreeMem
import Derived.Test.YthlgpgaeajfchaaGreatPwImplKnown

namespace Go.Proofs.YthlgpgaeajfchaaGreat
open Go.RowKit
set_option linter.unusedVariables false
set_option maxRecDepth 100000

section
variable {k : Kn} {t : Tr} {T : Nat} {a : TA} {w w' : World}

theorem TrM.cells (h : TrM k t T a w) : w.cell? ⟨T, 0, none⟩ = some (.int .i64 (k.o : Int)) ∧ w.cell? ⟨T, 1, none⟩ = some (.int .i64 (k.l : Int)) ∧ w.cell? ⟨T, 2, none⟩ = some (.int .i64 (k.m : Int)) ∧ w.cell? ⟨T, 3, none⟩ = some (.slice a.Ak k.ps.length a.ck) ∧ w.cell? ⟨T, 4, none⟩ = some (.int .i64 (k.base : Int)) ∧ w.cell? ⟨T, 5, none⟩ = some (.int .i64 k.lastI) ∧ w.cell? ⟨T, 6, none⟩ = some (.slice a.An (t.c + t.ns.length) a.cn) ∧ w.cell? ⟨T, 7, none⟩ = some (.slice a.Ap t.pr.length a.cp) :=
 ⟨h.box.c 0 _ rfl, h.box.c 1 _ rfl, h.box.c 2 _ rfl, h.box.c 3 _ rfl, h.box.c 4 _ rfl, h.box.c 5 _ rfl, h.box.c 6 _ rfl, h.box.c 7 _ rfl⟩

theorem TrM.node (h : TrM k t T a w) {i : Nat} (hi : i < t.c + t.ns.length) : ∃ g, a.An = some ⟨g, 0, none⟩ ∧ T < g ∧ g < w.heap.size ∧
  (w.cell? ⟨g, i * 6, none⟩ = some (.int .i64 (t.parI i)) ∧ w.cell? ⟨g, i * 6 + 1, none⟩ = some (.int .i64 (kidI t.c t.ns i t.ns.length)) ∧ w.cell? ⟨g, i * 6 + 2, none⟩ = some (.int .i64 (t.nxtI i)) ∧ w.cell? ⟨g, i * 6 + 3, none⟩ = some (.int .u8 (t.lastN i : Int)) ∧ w.cell? ⟨g, i * 6 + 4, none⟩ = some (.int .u8 (t.firstN i : Int)) ∧ w.cell? ⟨g, i * 6 + 5, none⟩ = some (.int .i64 (t.codeOf i : Int))) ∧ ∀ j, w.frozen? ⟨g, j, none⟩ = false := by
 obtain ⟨g, e, hg, hlt, _, hc, hf⟩ := own_place h.ns (by omega)
 exact ⟨g, e, by omega, hlt, ⟨hc _ _ (cellsN_get t hi (j := 0) (by omega)), hc _ _ (cellsN_get t hi (j := 1) (by omega)), hc _ _ (cellsN_get t hi (j := 2) (by omega)), hc _ _ (cellsN_get t hi (j := 3) (by omega)), hc _ _ (cellsN_get t hi (j := 4) (by omega)), hc _ _ (cellsN_get t hi (j := 5) (by omega))⟩, hf⟩

theorem TrM.pairNode (h : TrM k t T a w) {i n : Nat} (hi : t.pr[i]? = some n) : ∃ g, a.Ap = some ⟨g, 0, none⟩ ∧ T < g ∧ g < w.heap.size ∧ w.cell? ⟨g, i, none⟩ = some (.int .i64 (n : Int)) := by
 obtain ⟨hlt, _⟩ := List.getElem?_eq_some_iff.1 hi
 obtain ⟨g, e, hg, hlt, _, hc, hf⟩ := own_place h.pr (by omega)
 exact ⟨g, e, by omega, hlt, hc _ _ (by rw [List.getElem?_map, hi]; rfl)⟩
end

set_option maxHeartbeats 2000000 in
theorem implNodeOf (k : Kn) (t : Tr) (T : Nat) (a : TA) (x : Nat) (w : World) (hsv : sv k.o k.l k.m) (hnb : k.ps.length ≤ 1023) (ht : TrOk k t) (hm : TrM k t T a w) (hx : k.has k.ps.length x) :
  Calls Tryz.prog 176 #[.pointer (some ⟨T, 0, none⟩), .int .i64 (x : Int)] w fun e w' => e = .returned (.int .i64 (t.of k.fin x : Int)) ∧ Below w.heap.size w w' := by
 have hl8 : k.l ≤ 8 := by have := hsv.2.1.2; omega
 have hpw : k.clear ≤ 2 ^ 8 := Nat.pow_le_pow_right (by omega) hl8
 have hfe := k.fin_eq
 have HE := fun W => implEndCode k.o k.l k.m W hsv
 have hf : 2 ^ k.l + 1 = k.fin := rfl
 rw [hf] at HE
 obtain ⟨h1, h2, h3, h4⟩ := ht.of hx
 have hof : ¬ k.fin < x → t.of k.fin x = x := fun hh => by unfold Tr.of; rw [if_neg hh]
 have hxb : x ≤ 4000 := by unfold Kn.has at hx; omega
 replace hm := Lib.hid hm
 obtain ⟨q0, q1, q2, q3, q4, q5, q6, q7⟩ := hm.out.cells
 obtain ⟨f, hff⟩ : ∃ f, k.fin = f := ⟨_, rfl⟩
 rw [hff] at HE h4 hof hfe ⊢
 obtain ⟨y, hy⟩ : ∃ y, t.of f x = y := ⟨_, rfl⟩
 rw [hff] at h1 h2 h3
 rw [hy] at h4 hof h1 ⊢
 have hfb : f ≤ 300 := by omega
 have HEH := Lib.hid HE
 clear HE h2 h3 hf hff hy hl8 hpw hfe hx hsv hnb
 by_cases hfx : f < x
 ·have hp := h4 hfx
  obtain ⟨j, hj⟩ : ∃ j : Nat, (x : Int) - f - 1 = j := ⟨x - f - 1, by omega⟩
  have hj2 : x - f - 1 = j := by omega
  obtain ⟨d, hd⟩ : ∃ d : Nat, (x : Int) - f = d := ⟨x - f, by omega⟩
  have hd1 : (d : Int) - 1 = j := by omega
  rw [hj2] at hp
  obtain ⟨hjl, _⟩ := List.getElem?_eq_some_iff.1 hp
  replace hp := Lib.hid hp
  have g1 : (f : Int) < x := by omega
  have hjb : j ≤ 4000 := by omega
  have hdb : d ≤ 4000 := by omega
  clear hj hj2 h4 hof h1
  go_enter Tryz.func176, Tryz.ntmps176
  go_wp2_with fail
  refine (HEH.out _).mono ?_
  rintro e w1 ⟨rfl, hb1⟩
  have hm1 := Lib.hid (hm.out.below hb1)
  clear q0 q1 q2 q3 q4 q5 q6 q7
  obtain ⟨q0, q1, q2, q3, q4, q5, q6, q7⟩ := hm1.out.cells
  obtain ⟨g, hg, _, _, hgc⟩ := hm1.out.pairNode hp.out
  rw [hg] at q7
  go_wp2_with fail
  go_ret
  exact ⟨rfl, hb1⟩
 ·have hyx := hof hfx
  subst hyx
  have g1 : ¬ (f : Int) < y := by omega
  clear h4 hof h1
  go_enter Tryz.func176, Tryz.ntmps176
  go_wp2_with fail
  refine (HEH.out _).mono ?_
  rintro e w1 ⟨rfl, hb1⟩
  go_wp2_with fail
  go_ret
  exact ⟨rfl, hb1⟩

def Tr.kid (t : Tr) (p b : Nat) (z : Int) : Prop := (z = -1 ∧ t.NoKid p b) ∨ ∃ r : Nat, z = r ∧ t.IsKid p b r

theorem Tr.nxt_node {t : Tr} {j : Nat} {d : Nd} (h : t.ns[j]? = some d) : t.nxtI (t.c + j) = kidI t.c t.ns d.par j ∧ t.lastN (t.c + j) = d.byte := by
 unfold Tr.nxtI Tr.lastN
 rw [if_neg (by omega), if_neg (by omega), show t.c + j - t.c = j by omega, h]
 exact ⟨rfl, rfl⟩

set_option maxHeartbeats 4000000 in
theorem implChild (k : Kn) (t : Tr) (T : Nat) (a : TA) (p b : Nat) (w : World) (hm : TrM k t T a w) (hp : p < t.c + t.ns.length) (hb : b < 256) :
  Calls Tryz.prog 177 #[.pointer (some ⟨T, 0, none⟩), .int .i64 (p : Int), .int .u8 (b : Int)] w fun e w' => (∃ z : Int, e = .returned (.int .i64 z) ∧ t.kid p b z) ∧ w = w' := by
 obtain ⟨g, hg, _, _, ⟨_, hk, _⟩, _⟩ := hm.node hp
 have hnode := Lib.hid (fun (i : Nat) (hi : i < t.c + t.ns.length) => (hm.node hi))
 obtain ⟨q0, q1, q2, q3, q4, q5, q6, q7⟩ := hm.cells
 rw [hg] at q6
 obtain ⟨N, hN⟩ : ∃ N, t.c + t.ns.length = N := ⟨_, rfl⟩
 rw [hN] at q6 hp
 have hp0 : (0 : Int) ≤ p := by omega
 replace hN := Lib.hid hN
 clear q0 q1 q2 q3 q4 q5 q7
 go_enter Tryz.func177, Tryz.ntmps177
 go_wp2_with fail
 go_loopw [7] (fun v wr => ∃ (z : Int) (m : Nat), v = .int .i64 z ∧ Hid (z = kidI t.c t.ns p m ∧ m ≤ t.ns.length ∧ ∀ (j : Nat) (d : Nd), m ≤ j → t.ns[j]? = some d → d.par = p → d.byte ≠ b) ∧ wr = w) (fun v _ => (intOf v + 1).toNat)
 case atStart => exact ⟨_, t.ns.length, rfl, Lib.hid ⟨rfl, Nat.le_refl _, fun j d hj hd => by have := (List.getElem?_eq_some_iff.1 hd).1; omega⟩, rfl⟩
 case round =>
  obtain ⟨z, m, rfl, hz, rfl⟩ := hrel
  rcases kidI_some (c := t.c) (ns := t.ns) (p := p) m hz.out.2.1 with ⟨h1, h2⟩ | ⟨j, d, h1, h2, h3, h4, h5⟩
  ·obtain rfl : z = -1 := hz.out.1.trans h1
   have hno : t.NoKid p b := fun j d hd hdp => by
    by_cases hjm : j < m
    ·exact absurd hdp (h2 j d hjm hd)
    ·exact hz.out.2.2 j d (by omega) hd hdp
   clear h2
   go_wp2_with fail
   go_ret
   exact ⟨⟨-1, rfl, Or.inl ⟨rfl, hno⟩⟩, rfl⟩
  ·obtain ⟨r, hr⟩ : ∃ r, t.c + j = r := ⟨_, rfl⟩
   have hjl := (List.getElem?_eq_some_iff.1 h2).1
   obtain rfl : z = (r : Int) := by rw [hz.out.1, h4, hr]
   have hrN : r < N := by have := hN.out; omega
   obtain ⟨g2, hg2, _, _, ⟨n0, n1, n2, n3, n4, n5⟩, _⟩ := hnode.out r (by rw [hN.out]; exact hrN)
   obtain rfl : g = g2 := by rw [hg] at hg2; injection hg2 with e; injection e
   obtain ⟨e1, e2⟩ := Tr.nxt_node h2
   rw [hr] at e1 e2
   rw [e1, h3] at n2
   rw [e2] at n3
   have hr0 : (0 : Int) ≤ r := by omega
   by_cases hbb : d.byte = b
   ·rw [hbb] at n3
    have hk2 := Lib.hid (show t.kid p b r from Or.inr ⟨r, rfl, j, d, hr.symm, h2, h3, hbb⟩)
    clear n0 n1 n2 n4 n5 e1 e2 h4 h5 hz hbb h2 h3
    go_wp2_with fail
    go_ret
    exact ⟨⟨r, rfl, hk2.out⟩, rfl⟩
   ·have hz2 := Lib.hid (show kidI t.c t.ns p j = kidI t.c t.ns p j ∧ j ≤ t.ns.length ∧ ∀ (i : Nat) (e : Nd), j ≤ i → t.ns[i]? = some e → e.par = p → e.byte ≠ b from ⟨rfl, by omega, fun i e hi he hep => by
     by_cases hij : i = j
     ·subst hij
      rw [h2] at he
      injection he with he
      subst he
      exact hbb
     ·by_cases him : i < m
      ·exact absurd hep (h5 i e (by omega) him he)
      ·exact hz.out.2.2 i e (by omega) he hep⟩)
    have hlt := (kidI_range t.c t.ns p j (by omega)).2
    have hge := (kidI_range t.c t.ns p j (by omega)).1
    obtain ⟨z2, hz2e⟩ : ∃ z2, kidI t.c t.ns p j = z2 := ⟨_, rfl⟩
    obtain ⟨y, hy⟩ : ∃ y, d.byte = y := ⟨_, rfl⟩
    rw [hz2e] at n2 hlt hge
    rw [hy] at n3 hbb
    have hyb : ((y : Int) != b) = true := by rw [bne_iff_ne]; omega
    have hz3 : Hid (z2 = kidI t.c t.ns p j ∧ j ≤ t.ns.length ∧ ∀ (i : Nat) (e : Nd), j ≤ i → t.ns[i]? = some e → e.par = p → e.byte ≠ b) := Lib.hid (by rw [← hz2e]; exact hz2.out)
    have hmeas : (z2 + 1).toNat < ((r : Int) + 1).toNat := by omega
    clear n0 n1 n4 n5 e1 e2 h4 h5 hz h2 h3 hz2 hz2e hy
    go_wp2_with fail
    go_roundw
    case rel => exact ⟨z2, j, rfl, hz3, trivial⟩
    case measure => simpa [intOf] using hmeas

theorem own_set {w : World} {base size n c g i : Nat} {e : TypeId} {A : Option Addr} {xs : List Value} (h : w.ownsRow base e size (.slice A n c) n xs) (hA : A = some ⟨g, 0, none⟩) (u : Value) : (w.setCell ⟨g, i, none⟩ u).ownsRow base e size (.slice A n c) n (xs.set i u) := by
 refine ⟨by rw [List.length_set]; exact h.1, ?_⟩
 rcases h.2 with ⟨h0, _⟩ | ⟨g', cap, cur, hv, hb, hg, hnc, hcm, hcs, htake⟩
 ·injection h0 with h0; rw [hA] at h0; cases h0
 ·injection hv with e1 e2 e3
  rw [hA] at e1
  injection e1 with e1
  injection e1 with e1
  subst e1 e3 hA
  have hlt := lt_of_block hg
  have h' : w.heap[g] = .cells cur e (0, 0) := by simpa [Array.getElem?_eq_getElem hlt] using hg
  refine .inr ⟨g, c, cur.setIfInBounds i u, rfl, hb, ?_, hnc, hcm, by simpa using hcs, ?_⟩
  ·show (w.heap.modify g _)[g]? = _
   rw [Array.getElem?_eq_getElem (by simpa using hlt), Array.getElem_modify_self, h']
   rfl
  ·rw [Array.toList_setIfInBounds, List.take_set, htake]

theorem Keep.mono {S S' : Nat → Prop} {w w' : World} (h : Keep S w w') (hs : ∀ g, S g → S' g) : Keep S' w w' :=
 ⟨h.os, h.tape, h.output, h.size, fun g hg hn => h.block g hg (fun e => hn (hs g e))⟩

theorem Keep.of_row {w w' : World} {o : Obj} {row : Option Nat} (hg : (w.alloc o).grownBy w' row) : Keep (fun g => row = some g) w w' :=
 (Keep.of_below ((Below.refl _ _).alloc (Nat.le_refl _) o)).trans (Keep.of_grown (S := fun g => row = some g) hg (fun g e => Or.inl e)) (fun _ _ e => e)

section
variable {k : Kn} {t : Tr} {T : Nat} {a : TA} {w w' : World} {o : Obj} {A' : Option Addr} {c' : Nat}

theorem TrM.grow7 (h : TrM k t T a w) {pr' : List Nat} (hg : (w.alloc o).grownBy w' (Value.slice a.Ap 0 0).ownBlock) (hown : w'.ownsRow (T + 1) 3 1 (.slice A' pr'.length c') pr'.length (pr'.map natV))
  (hat : (Value.slice A' 0 0).ownBlock = (Value.slice a.Ap 0 0).ownBlock ∨ (Value.slice A' 0 0).ownBlock = some (w.heap.size + 1)) :
  (w'.cell? ⟨T, 7, none⟩ = some (.slice a.Ap t.pr.length a.cp) ∧ w'.frozen? ⟨T, 7, none⟩ = false) ∧
   TrM k { t with pr := pr' } T { a with Ap := A', cp := c' } (w'.setCell ⟨T, 7, none⟩ (.slice A' pr'.length c')) ∧ Fr T a { a with Ap := A', cp := c' } w (w'.setCell ⟨T, 7, none⟩ (.slice A' pr'.length c')) := by
 have hk := Keep.of_row hg
 have hlt : ∀ g, (Value.slice a.Ap 0 0).ownBlock = some g → T < g ∧ g < w.heap.size := fun g e => by have := h.pr.lt g (by rw [own_any]; exact e); omega
 have hltn : ∀ g, (Value.slice a.An 0 0).ownBlock = some g → T < g ∧ g < w.heap.size := fun g e => by have := h.ns.lt g (by rw [own_any]; exact e); omega
 have hltk : ∀ g, (Value.slice a.Ak 0 0).ownBlock = some g → T < g ∧ g < w.heap.size := fun g e => by have := h.kp.lt g (by rw [own_any]; exact e); omega
 have hT : ¬ (Value.slice a.Ap 0 0).ownBlock = some T := fun e => by have := hlt T e; omega
 have hbox := h.box.keep hk hT
 have hb2 := hbox.set (j := 7) (v0 := .slice a.Ap t.pr.length a.cp) rfl (.slice A' pr'.length c')
 have hTlt := h.box.lt
 refine ⟨⟨hbox.c 7 _ rfl, hbox.f 7 _ rfl⟩, ⟨hb2, ?_, ?_, ?_, ?_, h.ap2, ?_⟩, ?_, ?_⟩
 ·refine ownsRow_setCell_other (own_keep h.ns hk (fun g e => ?_)) (fun e => ?_) _
  ·rw [own_any] at e; exact h.ap1 g e
  ·rw [own_any] at e; have := hltn T e; omega
 ·refine ownsRow_setCell_other hown (fun e => ?_) _
  rw [own_any] at e
  rcases hat with h1 | h1
  ·rw [h1] at e; exact hT e
  ·rw [h1] at e; injection e with e; exact absurd e (by show ¬ w.heap.size + 1 = T; omega)
 ·refine ownsRow_setCell_other (own_keep h.kp hk (fun g e => ?_)) (fun e => ?_) _
  ·rw [own_any] at e; exact h.ap3.symm g e
  ·rw [own_any] at e; have := hltk T e; omega
 ·exact (Apart.step h.ap1.symm hat (fun g e => by have := hltn g e; omega)).symm
 ·exact Apart.step h.ap3 hat (fun g e => by have := hltk g e; omega)
 ·exact (hk.mono (fun g e => Or.inr (Or.inr (Or.inl e)))).trans (Keep.of_set (S := a.blk T) (Or.inl rfl) _) (fun _ _ e => e)
 ·rintro g (e | e | e | e)
  ·exact Or.inl (Or.inl e)
  ·exact Or.inl (Or.inr (Or.inl e))
  ·have e' : (Value.slice A' 0 0).ownBlock = some g := e
   rcases hat with h1 | h1
   ·rw [h1] at e'; exact Or.inl (Or.inr (Or.inr (Or.inl e')))
   ·rw [h1] at e'; injection e' with e'; exact Or.inr (by omega)
  ·exact Or.inl (Or.inr (Or.inr (Or.inr e)))

theorem TrM.grow3 (h : TrM k t T a w) {ps' : List (Nat × Nat)} (hg : (w.alloc o).grownBy w' (Value.slice a.Ak 0 0).ownBlock) (hown : w'.ownsRow (T + 1) 161 2 (.slice A' ps'.length c') ps'.length (cellsP ps'))
  (hat : (Value.slice A' 0 0).ownBlock = (Value.slice a.Ak 0 0).ownBlock ∨ (Value.slice A' 0 0).ownBlock = some (w.heap.size + 1)) :
  (w'.cell? ⟨T, 3, none⟩ = some (.slice a.Ak k.ps.length a.ck) ∧ w'.frozen? ⟨T, 3, none⟩ = false) ∧
   TrM { k with ps := ps' } t T { a with Ak := A', ck := c' } (w'.setCell ⟨T, 3, none⟩ (.slice A' ps'.length c')) ∧ Fr T a { a with Ak := A', ck := c' } w (w'.setCell ⟨T, 3, none⟩ (.slice A' ps'.length c')) := by
 have hk := Keep.of_row hg
 have hlt : ∀ g, (Value.slice a.Ak 0 0).ownBlock = some g → T < g ∧ g < w.heap.size := fun g e => by have := h.kp.lt g (by rw [own_any]; exact e); omega
 have hltn : ∀ g, (Value.slice a.An 0 0).ownBlock = some g → T < g ∧ g < w.heap.size := fun g e => by have := h.ns.lt g (by rw [own_any]; exact e); omega
 have hltp : ∀ g, (Value.slice a.Ap 0 0).ownBlock = some g → T < g ∧ g < w.heap.size := fun g e => by have := h.pr.lt g (by rw [own_any]; exact e); omega
 have hT : ¬ (Value.slice a.Ak 0 0).ownBlock = some T := fun e => by have := hlt T e; omega
 have hbox := h.box.keep hk hT
 have hb2 := hbox.set (j := 3) (v0 := .slice a.Ak k.ps.length a.ck) rfl (.slice A' ps'.length c')
 have hTlt := h.box.lt
 refine ⟨⟨hbox.c 3 _ rfl, hbox.f 3 _ rfl⟩, ⟨hb2, ?_, ?_, ?_, h.ap1, ?_, ?_⟩, ?_, ?_⟩
 ·refine ownsRow_setCell_other (own_keep h.ns hk (fun g e => ?_)) (fun e => ?_) _
  ·rw [own_any] at e; exact h.ap2 g e
  ·rw [own_any] at e; have := hltn T e; omega
 ·refine ownsRow_setCell_other (own_keep h.pr hk (fun g e => ?_)) (fun e => ?_) _
  ·rw [own_any] at e; exact h.ap3 g e
  ·rw [own_any] at e; have := hltp T e; omega
 ·refine ownsRow_setCell_other hown (fun e => ?_) _
  rw [own_any] at e
  rcases hat with h1 | h1
  ·rw [h1] at e; exact hT e
  ·rw [h1] at e; injection e with e; exact absurd e (by show ¬ w.heap.size + 1 = T; omega)
 ·exact (Apart.step h.ap2.symm hat (fun g e => by have := hltn g e; omega)).symm
 ·exact (Apart.step h.ap3.symm hat (fun g e => by have := hltp g e; omega)).symm
 ·exact (hk.mono (fun g e => Or.inr (Or.inr (Or.inr e)))).trans (Keep.of_set (S := a.blk T) (Or.inl rfl) _) (fun _ _ e => e)
 ·rintro g (e | e | e | e)
  ·exact Or.inl (Or.inl e)
  ·exact Or.inl (Or.inr (Or.inl e))
  ·exact Or.inl (Or.inr (Or.inr (Or.inl e)))
  ·have e' : (Value.slice A' 0 0).ownBlock = some g := e
   rcases hat with h1 | h1
   ·rw [h1] at e'; exact Or.inl (Or.inr (Or.inr (Or.inr e')))
   ·rw [h1] at e'; injection e' with e'; exact Or.inr (by omega)

theorem TrM.grow6 (h : TrM k t T a w) {p b x : Nat} (hnd : NdOk t.c t.ns) (hp : p < t.c + t.ns.length) (hg : (w.alloc o).grownBy w' (Value.slice a.An 0 0).ownBlock)
  (hown : w'.ownsRow (T + 1) 186 6 (.slice A' (t.c + t.ns.length + 1) c') (t.c + t.ns.length + 1) (cellsN t ++ newCells t p b x))
  (hat : (Value.slice A' 0 0).ownBlock = (Value.slice a.An 0 0).ownBlock ∨ (Value.slice A' 0 0).ownBlock = some (w.heap.size + 1)) :
  ∃ g, A' = some ⟨g, 0, none⟩ ∧ T < g ∧ (w'.cell? ⟨T, 6, none⟩ = some (.slice a.An (t.c + t.ns.length) a.cn) ∧ w'.frozen? ⟨T, 6, none⟩ = false) ∧
   ((∃ v, w'.cell? ⟨g, p * 6 + 1, none⟩ = some v) ∧ w'.frozen? ⟨g, p * 6 + 1, none⟩ = false) ∧
   TrM k { t.more p b x with pr := t.pr } T { a with An := A', cn := c' } ((w'.setCell ⟨T, 6, none⟩ (.slice A' (t.c + t.ns.length + 1) c')).setCell ⟨g, p * 6 + 1, none⟩ (.int .i64 ((t.c + t.ns.length : Nat) : Int))) ∧
   Fr T a { a with An := A', cn := c' } w ((w'.setCell ⟨T, 6, none⟩ (.slice A' (t.c + t.ns.length + 1) c')).setCell ⟨g, p * 6 + 1, none⟩ (.int .i64 ((t.c + t.ns.length : Nat) : Int))) := by
 have hk := Keep.of_row hg
 have hlt : ∀ g, (Value.slice a.An 0 0).ownBlock = some g → T < g ∧ g < w.heap.size := fun g e => by have := h.ns.lt g (by rw [own_any]; exact e); omega
 have hltp : ∀ g, (Value.slice a.Ap 0 0).ownBlock = some g → T < g ∧ g < w.heap.size := fun g e => by have := h.pr.lt g (by rw [own_any]; exact e); omega
 have hltk : ∀ g, (Value.slice a.Ak 0 0).ownBlock = some g → T < g ∧ g < w.heap.size := fun g e => by have := h.kp.lt g (by rw [own_any]; exact e); omega
 have hT : ¬ (Value.slice a.An 0 0).ownBlock = some T := fun e => by have := hlt T e; omega
 have hbox := h.box.keep hk hT
 have hb2 := hbox.set (j := 6) (v0 := .slice a.An (t.c + t.ns.length) a.cn) rfl (.slice A' (t.c + t.ns.length + 1) c')
 have hTlt := h.box.lt
 obtain ⟨g, hA, hgT, hgl, _, hcells, hfrz⟩ := own_place hown (by omega)
 have hgA : (Value.slice A' 0 0).ownBlock = some g := by rw [hA]; rfl
 have hlen : (t.more p b x).c + (t.more p b x).ns.length = t.c + t.ns.length + 1 := by
  show t.c + (t.ns ++ [_]).length = _
  rw [List.length_append]
  simp only [List.length_cons, List.length_nil]
  omega
 have hnp : ¬ (Value.slice a.Ap 0 0).ownBlock = some g := fun e => by
  rcases hat with h1 | h1
  ·exact h.ap1 g (h1.symm.trans hgA) e
  ·rw [hgA] at h1; injection h1 with h1; have := hltp g e; omega
 have hnk : ¬ (Value.slice a.Ak 0 0).ownBlock = some g := fun e => by
  rcases hat with h1 | h1
  ·exact h.ap2 g (h1.symm.trans hgA) e
  ·rw [hgA] at h1; injection h1 with h1; have := hltk g e; omega
 have hown2 := own_set (i := p * 6 + 1) (ownsRow_setCell_other (a := ⟨T, 6, none⟩) hown (fun e => by rw [own_any, hgA] at e; injection e with e; exact absurd e (by show ¬ g = T; omega)) (.slice A' (t.c + t.ns.length + 1) c')) hA (.int .i64 ((t.c + t.ns.length : Nat) : Int))
 rw [← cellsN_more hnd hp] at hown2
 refine ⟨g, hA, by omega, ⟨hbox.c 6 _ rfl, hbox.f 6 _ rfl⟩, ⟨⟨_, hcells (p * 6 + 1) _ (List.getElem?_eq_getElem (by rw [List.length_append, cellsN_length]; omega))⟩, hfrz _⟩, ⟨?_, ?_, ?_, ?_, ?_, ?_, h.ap3⟩, ?_, ?_⟩
 ·have hb3 := hb2.keep (S := fun y => y = g) (Keep.of_set (S := fun y => y = g) (p := ⟨g, p * 6 + 1, none⟩) rfl (.int .i64 ((t.c + t.ns.length : Nat) : Int))) (by omega)
  have e : boxT k { t.more p b x with pr := t.pr } { a with An := A', cn := c' } = (boxT k t a).set 6 (.slice A' (t.c + t.ns.length + 1) c') := by
   unfold boxT
   show [_, _, _, _, _, _, Value.slice A' ((t.more p b x).c + (t.more p b x).ns.length) c', _] = _
   rw [hlen]
   rfl
  rw [e]
  exact hb3
 ·show World.ownsRow _ _ _ _ (.slice A' ((t.more p b x).c + (t.more p b x).ns.length) c') ((t.more p b x).c + (t.more p b x).ns.length) (cellsN (t.more p b x))
  rw [hlen]
  exact hown2
 ·refine ownsRow_setCell_other (ownsRow_setCell_other (own_keep h.pr hk (fun g2 e => ?_)) (fun e => ?_) _) (fun e => ?_) _
  ·rw [own_any] at e; exact h.ap1.symm g2 e
  ·rw [own_any] at e; have := hltp T e; omega
  ·rw [own_any] at e; exact hnp e
 ·refine ownsRow_setCell_other (ownsRow_setCell_other (own_keep h.kp hk (fun g2 e => ?_)) (fun e => ?_) _) (fun e => ?_) _
  ·rw [own_any] at e; exact h.ap2.symm g2 e
  ·rw [own_any] at e; have := hltk T e; omega
  ·rw [own_any] at e; exact hnk e
 ·exact Apart.step h.ap1 hat (fun g2 e => by have := hltp g2 e; omega)
 ·exact Apart.step h.ap2 hat (fun g2 e => by have := hltk g2 e; omega)
 ·have h1 : Keep (a.blk T) w (w'.setCell ⟨T, 6, none⟩ (.slice A' (t.c + t.ns.length + 1) c')) := (hk.mono (fun g2 e => Or.inr (Or.inl e))).trans (Keep.of_set (S := a.blk T) (Or.inl rfl) _) (fun _ _ e => e)
  refine h1.trans (Keep.of_set (S := fun y => y = g) rfl _) (fun g2 hg2 e => ?_)
  subst e
  rcases hat with h3 | h3
  ·exact Or.inr (Or.inl (h3.symm.trans hgA))
  ·rw [hgA] at h3; injection h3 with h3; omega
 ·rintro g2 (e | e | e | e)
  ·exact Or.inl (Or.inl e)
  ·have e' : (Value.slice A' 0 0).ownBlock = some g2 := e
   rcases hat with h1 | h1
   ·rw [h1] at e'; exact Or.inl (Or.inr (Or.inl e'))
   ·rw [h1] at e'; injection e' with e'; exact Or.inr (by omega)
  ·exact Or.inl (Or.inr (Or.inr (Or.inl e)))
  ·exact Or.inl (Or.inr (Or.inr (Or.inr e)))

end

theorem infoNode : (Tryz.prog.info? 186).map (fun i => (i.zero, i.size, i.bytes)) = some (some (.agg #[.int .i64 0, .int .i64 0, .int .i64 0, .int .u8 0, .int .u8 0, .int .i64 0]), 6, 40) := by kernel_rfl

theorem elemNode : Elem Tryz.prog 166 186 (.agg #[.int .i64 0, .int .i64 0, .int .i64 0, .int .u8 0, .int .u8 0, .int .i64 0]) 6 40 := ⟨Tryz.underlying166, infoNode, rfl, by decide⟩

theorem TrOk.ns_le {k : Kn} {t : Tr} (h : TrOk k t) : t.ns.length ≤ k.ps.length := by
 have h1 : ∀ (j : Nat) (d : Nd), t.ns[j]? = some d → k.fin + 1 + j ≤ d.code := by
  intro j
  induction j with
  | zero => intro d hd; have := (h.code 0 d hd).1; omega
  | succ j ih =>
   intro d hd
   have hlt := (List.getElem?_eq_some_iff.1 hd).1
   have he : t.ns[j]? = some (t.ns[j]'(by omega)) := List.getElem?_eq_getElem (by omega)
   have := ih _ he
   have := h.nd.rise j (j + 1) _ _ he hd (by omega)
   omega
 rcases Nat.eq_zero_or_pos t.ns.length with h0 | h0
 ·omega
 ·have he : t.ns[t.ns.length - 1]? = some (t.ns[t.ns.length - 1]'(by omega)) := List.getElem?_eq_getElem (by omega)
  have h2 := h1 _ _ he
  have h3 := (h.code _ _ he).2.1
  have h4 := (List.getElem?_eq_some_iff.1 h3).1
  have := h.len
  omega

set_option maxHeartbeats 8000000 in
theorem implTreeLearn (k : Kn) (t : Tr) (T : Nat) (a : TA) (q b : Nat) (w : World) (hsv : sv k.o k.l k.m) (hnb : k.ps.length ≤ 1022) (hlow : k.Low) (ht : TrOk k t) (hm : TrM k t T a w) (hq : k.has k.ps.length q) (hb : b < k.clear) :
  Calls Tryz.prog 173 #[.pointer (some ⟨T, 0, none⟩), .agg #[.int .i64 (q : Int), .int .i64 (b : Int)]] w fun e w' => (∃ v, e = .returned v) ∧ ∃ t' a', TrOk (k.push q b) t' ∧ TrM (k.push q b) t' T a' w' ∧ Fr T a a' w w' := by
 have hl8 : k.l ≤ 8 := by have := hsv.2.1.2; omega
 have hpw : k.clear ≤ 2 ^ 8 := Nat.pow_le_pow_right (by omega) hl8
 have hnsl := ht.ns_le
 have hcl := ht.cl
 have hlen := ht.len
 have hT := hm.box.lt
 have hm0 := hm.below ((Below.refl _ _).alloc (Nat.le_refl _) (.cells #[.int .i64 (q : Int), .int .i64 (b : Int)] 161))
 have HO := fun (W : World) (hW : TrM k t T a W) => implNodeOf k t T a q W hsv (by omega) ht hW hq
 obtain ⟨hP1, _⟩ := ht.of hq
 have hsame := fun n (hk : t.IsKid (t.of k.fin q) b n) => ht.same hlow hq hk
 have hmore := fun (hk : t.NoKid (t.of k.fin q) b) => ht.more hlow hq hb hk
 obtain ⟨p, hp⟩ : ∃ p, t.of k.fin q = p := ⟨_, rfl⟩
 rw [hp] at HO hP1 hsame hmore
 have HC := fun (W : World) (hW : TrM k t T a W) => implChild k t T a p b W hW hP1 (by omega)
 have HN := fun (W : World) => implNextWordS k a.Ak a.ck W hsv (by omega)
 unfold Kn.val at HN
 have wb : IntKind.u8.wrap (b : Int) = b := u8_in b (by omega)
 have hNb : t.c + t.ns.length ≤ 2000 := by omega
 have hprb : t.pr.length ≤ 2000 := by omega
 have hpsb : k.ps.length ≤ 2000 := by omega
 have hnd := ht.nd
 replace HO := Lib.hid HO
 replace HC := Lib.hid HC
 replace HN := Lib.hid HN
 replace hm0 := Lib.hid hm0
 replace hm := Lib.hid hm
 replace hsame := Lib.hid hsame
 replace hmore := Lib.hid hmore
 replace hnd := Lib.hid hnd
 clear hl8 hpw hnsl hcl hlen hp hsv hnb
 go_enter Tryz.func173, Tryz.ntmps173
 go_wp2_with fail
 refine (HO.out _ hm0.out).mono ?_
 rintro e w1 ⟨rfl, hb1⟩
 have hm1 := Lib.hid (hm0.out.below hb1)
 have P1 := Lib.hid ((KBn.start w 161 [.int .i64 (q : Int), .int .i64 (b : Int)]).below hb1)
 have q0 := P1.out.c 0 _ rfl
 have q1 := P1.out.c 1 _ rfl
 have hfr1 := Lib.hid (Fr.of_below (T := T) (a := a) (((Below.refl w.heap.size w).alloc (Nat.le_refl _) (.cells #[.int .i64 (q : Int), .int .i64 (b : Int)] 161)).trans (hb1.mono (by simp))))
 clear hb1 hm0
 go_wp2_with fail
 refine (HC.out _ hm1.out).mono ?_
 rintro e w2 ⟨⟨z, rfl, hz⟩, rfl⟩
 rcases hz with ⟨rfl, hno⟩ | ⟨r, rfl, hk⟩
 ·obtain ⟨g, hgA, hgT, hgl, ⟨n0, n1, n2, n3, n4, n5⟩, hgf⟩ := hm1.out.node hP1
  obtain ⟨b0, b1, b2, b3, b4, b5, b6, b7⟩ := hm1.out.cells
  rw [hgA] at b6
  obtain ⟨z0, hz0⟩ : ∃ z, t.parI p = z := ⟨_, rfl⟩
  obtain ⟨z1, hz1⟩ : ∃ z, kidI t.c t.ns p t.ns.length = z := ⟨_, rfl⟩
  obtain ⟨z2, hz2⟩ : ∃ z, t.nxtI p = z := ⟨_, rfl⟩
  obtain ⟨z3, hz3⟩ : ∃ z, t.lastN p = z := ⟨_, rfl⟩
  obtain ⟨z4, hz4⟩ : ∃ z, t.firstN p = z := ⟨_, rfl⟩
  obtain ⟨z5, hz5⟩ : ∃ z, t.codeOf p = z := ⟨_, rfl⟩
  obtain ⟨N, hN⟩ : ∃ N, t.c + t.ns.length = N := ⟨_, rfl⟩
  obtain ⟨x, hx⟩ : ∃ x, k.next = x := ⟨_, rfl⟩
  rw [hz0] at n0
  rw [hz1] at n1
  rw [hz2] at n2
  rw [hz3] at n3
  rw [hz4] at n4
  rw [hz5] at n5
  rw [hN] at b6 hP1 hNb
  rw [hx] at HN
  replace hN := Lib.hid hN
  replace hz1 := Lib.hid hz1
  replace hz4 := Lib.hid hz4
  replace hx := Lib.hid hx
  have hUlt := hm1.out.box.lt
  have hm2 := Lib.hid (hm1.out.below ((Below.refl _ _).alloc (Nat.le_refl _) (.cells #[.int .i64 z0, .int .i64 z1, .int .i64 z2, .int .u8 (z3 : Int), .int .u8 (z4 : Int), .int .i64 (z5 : Int)] 186)))
  have P2 := Lib.hid (P1.out.below ((Below.refl _ _).alloc (Nat.le_refl _) (.cells #[.int .i64 z0, .int .i64 z1, .int .i64 z2, .int .u8 (z3 : Int), .int .u8 (z4 : Int), .int .i64 (z5 : Int)] 186)))
  have U2 := Lib.hid (KBn.start w1 186 [.int .i64 z0, .int .i64 z1, .int .i64 z2, .int .u8 (z3 : Int), .int .u8 (z4 : Int), .int .i64 (z5 : Int)])
  have hfr2 := Lib.hid (hfr1.out.trans (Fr.of_below ((Below.refl w1.heap.size w1).alloc (Nat.le_refl _) (.cells #[.int .i64 z0, .int .i64 z1, .int .i64 z2, .int .u8 (z3 : Int), .int .u8 (z4 : Int), .int .i64 (z5 : Int)] 186))))
  clear q0 q1 hz0 hz2 hz3 hz5
  go_upto_region 6 with (fail)
  obtain ⟨w3, hw3⟩ : ∃ W, w1.alloc (.cells #[.int .i64 z0, .int .i64 z1, .int .i64 z2, .int .u8 (z3 : Int), .int .u8 (z4 : Int), .int .i64 (z5 : Int)] 186) = W := ⟨_, rfl⟩
  rw [hw3] at hm2 hfr2 ⊢
  replace P2 : Hid (KBn w3 w.heap.size [.int .i64 (q : Int), .int .i64 (b : Int)]) := Lib.hid (by rw [← hw3]; exact P2.out)
  replace U2 : Hid (KBn w3 w1.heap.size [.int .i64 z0, .int .i64 z1, .int .i64 z2, .int .u8 (z3 : Int), .int .u8 (z4 : Int), .int .i64 (z5 : Int)]) := Lib.hid (by rw [← hw3]; exact U2.out)
  clear hw3 P1 hm1 b0 b1 b2 b3 b4 b5 b6 b7 n0 n1 n2 n3 n4 n5 hgf
  have hall : ∀ W, Below w3.heap.size w3 W → (W.cell? ⟨T, 0, none⟩ = some (.int .i64 (k.o : Int)) ∧ W.cell? ⟨T, 1, none⟩ = some (.int .i64 (k.l : Int)) ∧ W.cell? ⟨T, 2, none⟩ = some (.int .i64 (k.m : Int)) ∧ W.cell? ⟨T, 3, none⟩ = some (.slice a.Ak k.ps.length a.ck) ∧ W.cell? ⟨T, 4, none⟩ = some (.int .i64 (k.base : Int)) ∧ W.cell? ⟨T, 5, none⟩ = some (.int .i64 k.lastI) ∧ W.cell? ⟨T, 6, none⟩ = some (.slice (some ⟨g, 0, none⟩) N a.cn)) ∧ W.cell? ⟨w.heap.size, 1, none⟩ = some (.int .i64 (b : Int)) ∧ W.cell? ⟨w1.heap.size, 1, none⟩ = some (.int .i64 z1) ∧ W.cell? ⟨w1.heap.size, 4, none⟩ = some (.int .u8 (z4 : Int)) := fun W hW => by
   obtain ⟨b0, b1, b2, b3, b4, b5, b6, _⟩ := (hm2.out.below hW).cells
   rw [hgA, hN.out] at b6
   exact ⟨⟨b0, b1, b2, b3, b4, b5, b6⟩, (P2.out.below hW).c 1 _ rfl, (U2.out.below hW).c 1 _ rfl, (U2.out.below hW).c 4 _ rfl⟩
  replace hall := Lib.hid hall
  refine wp_region_held_tail (S := fun W => (W.cell? ⟨T, 0, none⟩ = some (.int .i64 (k.o : Int)) ∧ W.cell? ⟨T, 1, none⟩ = some (.int .i64 (k.l : Int)) ∧ W.cell? ⟨T, 2, none⟩ = some (.int .i64 (k.m : Int)) ∧ W.cell? ⟨T, 3, none⟩ = some (.slice a.Ak k.ps.length a.ck) ∧ W.cell? ⟨T, 4, none⟩ = some (.int .i64 (k.base : Int)) ∧ W.cell? ⟨T, 5, none⟩ = some (.int .i64 k.lastI) ∧ W.cell? ⟨T, 6, none⟩ = some (.slice (some ⟨g, 0, none⟩) N a.cn)) ∧ W.cell? ⟨w.heap.size, 1, none⟩ = some (.int .i64 (b : Int)) ∧ W.cell? ⟨w1.heap.size, 1, none⟩ = some (.int .i64 z1) ∧ W.cell? ⟨w1.heap.size, 4, none⟩ = some (.int .u8 (z4 : Int))) 21 (by kernel_rfl) (by kernel_rfl) (hall.out _ (Below.refl _ _).drew) (fun hS => ?_)
  refine heldAny_take (i := 0) (v := ?_) rfl (by kernel_rfl) (by kernel_rfl) (by kernel_rfl) (by kernel_rfl) (fun _ _ _ h => h) (Or.inl ⟨by rfl, ?_⟩) (by assumption) ?_
  rotate_left
  ·(intro wS hSw; (try dsimp only at hSw); go_split_ands; go_simp; all_goals with_reducible rfl)
  try simp only [Act.put, List.setIfInBounds_toArray]
  refine heldAny_take (i := 1) (v := ?_) rfl (by kernel_rfl) (by kernel_rfl) (by kernel_rfl) (by kernel_rfl) (fun _ _ _ h => h) (Or.inl ⟨by rfl, ?_⟩) (by assumption) ?_
  rotate_left
  ·(intro wS hSw; (try dsimp only at hSw); go_split_ands; go_simp; all_goals with_reducible rfl)
  try simp only [Act.put]
  refine heldAny_take (i := 2) (v := ?_) rfl (by kernel_rfl) (by kernel_rfl) (by kernel_rfl) (by kernel_rfl) (fun _ _ _ h => h) (Or.inl ⟨by rfl, ?_⟩) (by assumption) ?_
  rotate_left
  ·(intro wS hSw; (try dsimp only at hSw); go_split_ands; go_simp; all_goals with_reducible rfl)
  try simp only [Act.put]
  refine heldAny_take (i := 3) (v := ?_) rfl (by kernel_rfl) (by kernel_rfl) (by kernel_rfl) (by kernel_rfl) (fun _ _ _ h => h) (Or.inl ⟨by rfl, ?_⟩) (by assumption) ?_
  rotate_left
  ·(intro wS hSw; (try dsimp only at hSw); go_split_ands; go_simp; all_goals with_reducible rfl)
  try simp only [Act.put]
  refine heldAny_take (i := 4) (v := ?_) rfl (by kernel_rfl) (by kernel_rfl) (by kernel_rfl) (by kernel_rfl) (fun _ _ _ h => h) (Or.inl ⟨by rfl, ?_⟩) (by assumption) ?_
  rotate_left
  ·(intro wS hSw; (try dsimp only at hSw); go_split_ands; go_simp; all_goals with_reducible rfl)
  try simp only [Act.put]
  refine heldAny_take (i := 5) (v := ?_) rfl (by kernel_rfl) (by kernel_rfl) (by kernel_rfl) (by kernel_rfl) (fun _ _ _ h => h) (Or.inl ⟨by rfl, ?_⟩) (by assumption) ?_
  rotate_left
  ·(intro wS hSw; (try dsimp only at hSw); go_split_ands; go_simp; all_goals with_reducible rfl)
  try simp only [Act.put]
  refine heldAny_take (i := 6) (v := ?_) rfl (by kernel_rfl) (by kernel_rfl) (by kernel_rfl) (by kernel_rfl) (fun _ _ _ h => h) (Or.inl ⟨by rfl, ?_⟩) (by assumption) ?_
  rotate_left
  ·(intro wS hSw; (try dsimp only at hSw); go_split_ands; go_simp; all_goals with_reducible rfl)
  try simp only [Act.put]
  refine heldAny_take (i := 7) (v := ?_) rfl (by kernel_rfl) (by kernel_rfl) (by kernel_rfl) (by kernel_rfl) (fun _ _ _ h => h) (Or.inl ⟨by rfl, ?_⟩) (by assumption) ?_
  rotate_left
  ·(intro wS hSw; (try dsimp only at hSw); go_split_ands; go_simp; all_goals with_reducible rfl)
  try simp only [Act.put]
  refine heldAny_take (i := 8) (v := ?_) rfl (by kernel_rfl) (by kernel_rfl) (by kernel_rfl) (by kernel_rfl) (fun _ _ _ h => h) (Or.inl ⟨by rfl, ?_⟩) (by assumption) ?_
  rotate_left
  ·(intro wS hSw; (try dsimp only at hSw); go_split_ands; go_simp; all_goals with_reducible rfl)
  try simp only [Act.put]
  refine heldAny_take (i := 9) (v := ?_) rfl (by kernel_rfl) (by kernel_rfl) (by kernel_rfl) (by kernel_rfl) (fun _ _ _ h => h) (Or.inl ⟨by rfl, ?_⟩) (by assumption) ?_
  rotate_left
  ·(intro wS hSw; (try dsimp only at hSw); go_split_ands; go_simp; all_goals with_reducible rfl)
  try simp only [Act.put]
  refine heldAny_take (i := 10) (v := ?_) rfl (by kernel_rfl) (by kernel_rfl) (by kernel_rfl) (by kernel_rfl) (fun _ _ _ h => h) (Or.inl ⟨by rfl, ?_⟩) (by assumption) ?_
  rotate_left
  ·(intro wS hSw; (try dsimp only at hSw); go_split_ands; go_simp; all_goals with_reducible rfl)
  try simp only [Act.put]
  refine heldAny_take (i := 11) (v := ?_) rfl (by kernel_rfl) (by kernel_rfl) (by kernel_rfl) (by kernel_rfl) (fun _ _ _ h => h) (Or.inl ⟨by rfl, ?_⟩) (by assumption) ?_
  rotate_left
  ·(intro wS hSw; (try dsimp only at hSw); go_split_ands; go_simp; all_goals with_reducible rfl)
  try simp only [Act.put]
  refine heldAny_take (i := 12) (v := ?_) rfl (by kernel_rfl) (by kernel_rfl) (by kernel_rfl) (by kernel_rfl) (fun _ _ _ h => h) (Or.inl ⟨by rfl, ?_⟩) (by assumption) ?_
  rotate_left
  ·(intro wS hSw; (try dsimp only at hSw); go_split_ands; go_simp; all_goals with_reducible rfl)
  try simp only [Act.put]
  refine heldAny_take (i := 13) (v := ?_) rfl (by kernel_rfl) (by kernel_rfl) (by kernel_rfl) (by kernel_rfl) (fun _ _ _ h => h) (Or.inl ⟨by rfl, ?_⟩) (by assumption) ?_
  rotate_left
  ·(intro wS hSw; (try dsimp only at hSw); go_split_ands; go_simp; all_goals with_reducible rfl)
  try simp only [Act.put]
  refine heldAny_take (i := 14) (v := ?_) rfl (by kernel_rfl) (by kernel_rfl) (by kernel_rfl) (by kernel_rfl) (fun _ _ _ h => h) (Or.inl ⟨by rfl, ?_⟩) (by assumption) ?_
  rotate_left
  ·(intro wS hSw; (try dsimp only at hSw); go_split_ands; go_simp; all_goals with_reducible rfl)
  try simp only [Act.put]
  refine heldAny_take (i := 15) (v := ?_) rfl (by kernel_rfl) (by kernel_rfl) (by kernel_rfl) (by kernel_rfl) (fun _ _ _ h => h) (Or.inl ⟨by rfl, ?_⟩) (by assumption) ?_
  rotate_left
  ·(intro wS hSw; (try dsimp only at hSw); go_split_ands; go_simp; all_goals with_reducible rfl)
  try simp only [Act.put]
  refine heldAny_take (i := 16) (v := ?_) rfl (by kernel_rfl) (by kernel_rfl) (by kernel_rfl) (by kernel_rfl) (fun _ _ _ h => h) (Or.inl ⟨by rfl, ?_⟩) (by assumption) ?_
  rotate_left
  ·(intro wS hSw; (try dsimp only at hSw); go_split_ands; go_simp; all_goals with_reducible rfl)
  try simp only [Act.put]
  refine heldAny_one (i := 17) rfl (by kernel_rfl) (by kernel_rfl) (fun K hK => ?_)
  go_simp
  go_at_call 175
  refine (HN.out _).mono ?_
  rintro e w4 ⟨rfl, hb4⟩
  have hb34 := (Below.refl w3.heap.size w3).drew.trans hb4
  refine hK.out _ _ (hall.out _ hb34) (fun hS => ?_)
  try simp only [Act.put, List.setIfInBounds_toArray, List.set_cons_zero, List.set_cons_succ]
  have hm4 := Lib.hid (hm2.out.below hb34)
  have P4 := Lib.hid (P2.out.below hb34)
  have U4 := Lib.hid (U2.out.below hb34)
  have hfr4 := Lib.hid (hfr2.out.trans (Fr.of_below (T := T) (a := a) hb34))
  clear hK K hb4 P2 U2 hm2 hfr2
  refine heldAny_take (i := 18) (v := ?_) rfl (by kernel_rfl) (by kernel_rfl) (by kernel_rfl) (by kernel_rfl) (fun _ _ _ h => h) (Or.inl ⟨by rfl, ?_⟩) (by assumption) ?_
  rotate_left
  ·(intro wS hSw; (try dsimp only at hSw); go_split_ands; go_simp; all_goals with_reducible rfl)
  try simp only [Act.put, List.setIfInBounds_toArray]
  refine heldAny_one (i := 19) rfl (by kernel_rfl) (by kernel_rfl) (fun K hK => ?_)
  go_simp
  refine hK.out _ _ (hall.out _ (hb34.alloc hb34.size _)) (fun hS => ?_)
  try simp only [Act.put, List.setIfInBounds_toArray, List.set_cons_zero, List.set_cons_succ]
  clear hK K
  refine heldAny_one (i := 20) rfl (by kernel_rfl) (by kernel_rfl) (fun K hK => ?_)
  have hns : w4.ownsRow (T + 1) 186 6 (.slice (some ⟨g, 0, none⟩) N a.cn) N (cellsN t) := by have := hm4.out.ns; rw [hgA, hN.out] at this; exact this
  have hnew : newCells t p b x = [.int .i64 (p : Int), .int .i64 (-1), .int .i64 z1, .int .u8 (b : Int), .int .u8 (z4 : Int), .int .i64 (x : Int)] := by unfold newCells; rw [hz1.out, hz4.out]
  have hT4 := hm4.out.box.lt
  refine step_append_row _ elemNode (by rfl) (.tmp 35) (.tmp 50) (by rfl) (T + 1) _ _ _ (by rfl) (hns.alloc _) _ _ 1 1 [.int .i64 (p : Int), .int .i64 (-1), .int .i64 z1, .int .u8 (b : Int), .int .u8 (z4 : Int), .int .i64 (x : Int)] (by rfl) (Row.newAt _ _ rfl _ [.int .i64 (p : Int), .int .i64 (-1), .int .i64 z1, .int .u8 (b : Int), .int .u8 (z4 : Int), .int .i64 (x : Int)] 1 6 rfl) ?_ ?_ ?_ ?_ ?_
  ·intro u hu; simp at hu; rcases hu with rfl | rfl | rfl | rfl | rfl | rfl <;> rfl
  ·unfold maxLen; omega
  ·omega
  ·simp; omega
  ·intro v5 w5 hv5 hg5 hat5
   obtain ⟨A5, c5, rfl, _, _⟩ := own_form hv5
   have hgw : g < w.heap.size := by have := hm.out.ns.lt g (by rw [hgA]; rfl); omega
   have hk5 := Keep.of_row hg5
   have hS5 : ∀ y, (Value.slice (some ⟨g, 0, none⟩) N a.cn).ownBlock = some y → y = g := fun y e => by injection e with e; exact e.symm
   have hG := hm4.out.grow6 (A' := A5) (c' := c5) (p := p) (b := b) (x := x) (w' := w5) (o := .cells #[.int .i64 (p : Int), .int .i64 (-1), .int .i64 z1, .int .u8 (b : Int), .int .u8 (z4 : Int), .int .i64 (x : Int)] 186) hnd.out (by rw [hN.out]; exact hP1) (by rw [hgA]; exact hg5) (by rw [hN.out, hnew]; exact hv5) (by rw [own_any A5, own_any (some _) N] at hat5; rw [hgA]; simpa using hat5)
   simp only [hN.out] at hG
   obtain ⟨g5, rfl, hgT5, ⟨d6, f6⟩, ⟨⟨vv, dv⟩, fv⟩, hm6, hfr6⟩ := hG
   obtain ⟨b0, b1, b2, b3, b4, b5, _, _⟩ := (show KBn w5 T (boxT k t a) from hm4.out.box.keep hk5 (fun e => by have := hS5 T e; omega)).c 0 _ rfl |> fun h0 => And.intro h0 (And.intro ((hm4.out.box.keep hk5 (fun e => by have := hS5 T e; omega)).c 1 _ rfl) (And.intro ((hm4.out.box.keep hk5 (fun e => by have := hS5 T e; omega)).c 2 _ rfl) (And.intro ((hm4.out.box.keep hk5 (fun e => by have := hS5 T e; omega)).c 3 _ rfl) (And.intro ((hm4.out.box.keep hk5 (fun e => by have := hS5 T e; omega)).c 4 _ rfl) (And.intro ((hm4.out.box.keep hk5 (fun e => by have := hS5 T e; omega)).c 5 _ rfl) (And.intro trivial trivial))))))
   have P5 := Lib.hid (P4.out.keep hk5 (fun e => by have := hS5 _ e; omega))
   have U5 := Lib.hid (U4.out.keep hk5 (fun e => by have := hS5 _ e; have := hfr1.out.keep.size; omega))
   rw [hgA] at d6
   have hfr46 := Lib.hid (hfr4.out.trans hfr6)
   have hg5H : ¬ w.heap.size = g5 := fun e => by
    have hPl := P4.out.lt
    rcases hat5 with h1 | h1
    ·have h2 : some g5 = some g := h1
     injection h2 with h2
     omega
    ·have h2 : some g5 = some (w4.alloc (.cells #[.int .i64 (p : Int), .int .i64 (-1), .int .i64 z1, .int .u8 (b : Int), .int .u8 (z4 : Int), .int .i64 (x : Int)] 186)).heap.size := h1
     injection h2 with h2
     rw [World.size_alloc] at h2
     omega
   have hne : ¬ g5 = T := by omega
   have hne2 : ¬ T = g5 := by omega
   refine hK.out _ _ ⟨⟨b0, b1, b2, b3, b4, b5, d6⟩, P5.out.c 1 _ rfl, U5.out.c 1 _ rfl, U5.out.c 4 _ rfl⟩ (fun hS => ?_)
   try simp only [Act.put, List.setIfInBounds_toArray]
   refine heldAny_done (by kernel_rfl) ⟨by kernel_rfl, ?_⟩
   simp only [List.drop_succ_cons, List.drop_zero]
   have hP10 : p < N + 1 := by omega
   replace hm6 := Lib.hid hm6
   replace d6 := d6
   clear hK K hS hfr6 hv5 hg5 hat5 hk5 hS5 b0 b1 b2 b3 b4 b5 hfr4 hm4 P4 U4 U5 hall
   go_upto_region 8 with (fail)
   obtain ⟨w8, hw8⟩ : ∃ W, (w5.setCell ⟨T, 6, none⟩ (.slice (some ⟨g5, 0, none⟩) (N + 1) c5)).setCell ⟨g5, p * 6 + 1, none⟩ (.int .i64 (N : Int)) = W := ⟨_, rfl⟩
   rw [hw8] at hm6 hfr46 ⊢
   have hm3 := hm6
   have hfr3 := hfr46
   have P3 : Hid (KBn w8 w.heap.size [.int .i64 (q : Int), .int .i64 (b : Int)]) := Lib.hid (by
    rw [← hw8]
    exact (P5.out.keep (S := fun y => y = T) (Keep.of_set (S := fun y => y = T) (p := ⟨T, 6, none⟩) rfl _) (by omega)).keep (S := fun y => y = g5) (Keep.of_set (S := fun y => y = g5) (p := ⟨g5, p * 6 + 1, none⟩) rfl _) hg5H)
   have hHT : w.heap.size < w8.heap.size := P3.out.lt
   obtain ⟨a1, ha1⟩ : ∃ a1 : TA, ({ a with An := some ⟨g5, 0, none⟩, cn := c5 } : TA) = a1 := ⟨_, rfl⟩
   obtain ⟨t1, ht1⟩ : ∃ t1 : Tr, ({ t.more p b x with pr := t.pr } : Tr) = t1 := ⟨_, rfl⟩
   have hH0 : ¬ a1.blk T w.heap.size := by
    subst ha1
    rintro (e | e | e | e)
    ·omega
    ·have e' : some g5 = some w.heap.size := e
     injection e' with e'
     omega
    ·have := (hm.out.blk_lt (Or.inr (Or.inr (Or.inl e)))).2; omega
    ·have := (hm.out.blk_lt (Or.inr (Or.inr (Or.inr e)))).2; omega
   have HTR : Hid (TrOk (k.push q b) { t1 with pr := t1.pr ++ [N] }) := Lib.hid (by
    have h1 := hmore.out hno
    subst ht1
    have h2 : t.more p b k.next = { ({ t.more p b x with pr := t.pr } : Tr) with pr := t.pr ++ [N] } := by
     unfold Tr.more
     rw [hx.out, hN.out]
    rw [h2] at h1
    exact h1)
   have hpr1 : t1.pr.length ≤ 2000 := by subst ht1; exact hprb
   rw [ha1, ht1] at hm3
   rw [ha1] at hfr3
   obtain ⟨n, rfl⟩ : ∃ n, n = N := ⟨N, rfl⟩
   clear hm6 hfr46 hw8 P5 d6 f6 dv fv ha1 ht1 hno hne hne2 hP10
   have hT3 := hm3.out.box.lt
   obtain ⟨b0, b1, b2, b3, b4, b5, b6, b7⟩ := hm3.out.cells
   go_wp2_with (first
    | (at_builtin; refine wpList_append_row _ elemInt rfl (.tmp 66) (.tmp 68) rfl (T + 1) _ _ _ rfl (hm3.out.pr.alloc _) _ _ 1 1 [.int .i64 (n : Int)] rfl (Row.newAt _ _ rfl _ [.int .i64 (n : Int)] 1 1 rfl) ?_ ?_ ?_ ?_ ?_))
   ·intro u hu; simp at hu; subst hu; rfl
   ·unfold maxLen; omega
   ·omega
   ·simp; omega
   ·intro v6 w6 hv6 hg6 hat6
    obtain ⟨A6, c6, rfl, _, _⟩ := own_form hv6
    have hl6 : (t1.pr ++ [n]).length = t1.pr.length + 1 := by simp
    obtain ⟨⟨d7, f7⟩, hm7, hfr7⟩ := hm3.out.grow7 (pr' := t1.pr ++ [n]) (A' := A6) (c' := c6) (by rw [own_any] at hg6; exact hg6) (by rw [hl6, List.map_append]; exact hv6) (by rw [own_any A6, own_any a1.Ap] at hat6; simpa using hat6)
    rw [hl6] at hm7 hfr7
    have hH2 : ¬ ({ a1 with Ap := A6, cp := c6 } : TA).blk T w.heap.size := by
     rintro (e | e | e | e)
     ·exact hH0 (Or.inl e)
     ·exact hH0 (Or.inr (Or.inl e))
     ·have e' : (Value.slice A6 0 0).ownBlock = some w.heap.size := e
      rw [own_any A6, own_any a1.Ap] at hat6
      rcases hat6 with h1 | h1
      ·exact hH0 (Or.inr (Or.inr (Or.inl (h1.symm.trans e'))))
      ·rw [e'] at h1
       injection h1 with h1
       have := P3.out.lt
       omega
     ·exact hH0 (Or.inr (Or.inr (Or.inr e)))
    have hfr37 := Lib.hid (hfr3.out.trans hfr7)
    have P7 := Lib.hid (hfr7.box P3.out hH0).1
    replace hm7 := Lib.hid hm7
    clear hfr7 hv6 hg6 hat6 b0 b1 b2 b3 b4 b5 b6 b7 P3 hm3 hfr3
    go_upto_region 9 with (fail)
    obtain ⟨w7, hw7⟩ : ∃ W, w6.setCell ⟨T, 7, none⟩ (.slice A6 (t1.pr.length + 1) c6) = W := ⟨_, rfl⟩
    obtain ⟨t2, ht2⟩ : ∃ t2 : Tr, ({ t1 with pr := t1.pr ++ [n] } : Tr) = t2 := ⟨_, rfl⟩
    obtain ⟨a2, ha2⟩ : ∃ a2 : TA, ({ a1 with Ap := A6, cp := c6 } : TA) = a2 := ⟨_, rfl⟩
    rw [hw7, ht2, ha2] at hm7
    rw [hw7, ha2] at hfr37
    rw [hw7] at P7 ⊢
    rw [ha2] at hH2
    rw [ht2] at HTR
    have hak : a1.Ak = a2.Ak := by rw [← ha2]
    have hT7 := hm7.out.box.lt
    clear hw7 ht2 ha2 d7 f7 hl6
    have hall9 : Hid (∀ W, Below w7.heap.size w7 W → W.cell? ⟨T, 3, none⟩ = some (.slice a2.Ak k.ps.length a2.ck) ∧ W.cell? ⟨w.heap.size, 0, none⟩ = some (.int .i64 (q : Int)) ∧ W.cell? ⟨w.heap.size, 1, none⟩ = some (.int .i64 (b : Int))) := Lib.hid (fun W hW => ⟨(hm7.out.below hW).cells.2.2.2.1, (P7.out.below hW).c 0 _ rfl, (P7.out.below hW).c 1 _ rfl⟩)
    refine wp_region_held_tail (S := fun W => W.cell? ⟨T, 3, none⟩ = some (.slice a2.Ak k.ps.length a2.ck) ∧ W.cell? ⟨w.heap.size, 0, none⟩ = some (.int .i64 (q : Int)) ∧ W.cell? ⟨w.heap.size, 1, none⟩ = some (.int .i64 (b : Int))) 9 (by kernel_rfl) (by kernel_rfl) (hall9.out _ (Below.refl _ _).drew) (fun hS => ?_)
    refine heldAny_take (i := 0) (v := ?_) rfl (by kernel_rfl) (by kernel_rfl) (by kernel_rfl) (by kernel_rfl) (fun _ _ _ h => h) (Or.inl ⟨by rfl, ?_⟩) (by assumption) ?_
    rotate_left
    ·(intro wS hSw; (try dsimp only at hSw); go_split_ands; go_simp; all_goals with_reducible rfl)
    try simp only [Act.put, List.setIfInBounds_toArray]
    refine heldAny_take (i := 1) (v := ?_) rfl (by kernel_rfl) (by kernel_rfl) (by kernel_rfl) (by kernel_rfl) (fun _ _ _ h => h) (Or.inl ⟨by rfl, ?_⟩) (by assumption) ?_
    rotate_left
    ·(intro wS hSw; (try dsimp only at hSw); go_split_ands; go_simp; all_goals with_reducible rfl)
    try simp only [Act.put]
    refine heldAny_take (i := 2) (v := ?_) rfl (by kernel_rfl) (by kernel_rfl) (by kernel_rfl) (by kernel_rfl) (fun _ _ _ h => h) (Or.inl ⟨by rfl, ?_⟩) (by assumption) ?_
    rotate_left
    ·(intro wS hSw; (try dsimp only at hSw); go_split_ands; go_simp; all_goals with_reducible rfl)
    try simp only [Act.put]
    refine heldAny_take (i := 3) (v := ?_) rfl (by kernel_rfl) (by kernel_rfl) (by kernel_rfl) (by kernel_rfl) (fun _ _ _ h => h) (Or.inl ⟨by rfl, ?_⟩) (by assumption) ?_
    rotate_left
    ·(intro wS hSw; (try dsimp only at hSw); go_split_ands; go_simp; all_goals with_reducible rfl)
    try simp only [Act.put]
    refine heldAny_take (i := 4) (v := ?_) rfl (by kernel_rfl) (by kernel_rfl) (by kernel_rfl) (by kernel_rfl) (fun _ _ _ h => h) (Or.inl ⟨by rfl, ?_⟩) (by assumption) ?_
    rotate_left
    ·(intro wS hSw; (try dsimp only at hSw); go_split_ands; go_simp; all_goals with_reducible rfl)
    try simp only [Act.put]
    refine heldAny_take (i := 5) (v := ?_) rfl (by kernel_rfl) (by kernel_rfl) (by kernel_rfl) (by kernel_rfl) (fun _ _ _ h => h) (Or.inl ⟨by rfl, ?_⟩) (by assumption) ?_
    rotate_left
    ·(intro wS hSw; (try dsimp only at hSw); go_split_ands; go_simp; all_goals with_reducible rfl)
    try simp only [Act.put]
    refine heldAny_take (i := 6) (v := ?_) rfl (by kernel_rfl) (by kernel_rfl) (by kernel_rfl) (by kernel_rfl) (fun _ _ _ h => h) (Or.inl ⟨by rfl, ?_⟩) (by assumption) ?_
    rotate_left
    ·(intro wS hSw; (try dsimp only at hSw); go_split_ands; go_simp; all_goals with_reducible rfl)
    try simp only [Act.put]
    refine heldAny_one (i := 7) rfl (by kernel_rfl) (by kernel_rfl) (fun K hK => ?_)
    go_simp
    refine hK.out _ _ (hall9.out _ ((Below.refl _ _).drew.alloc (Nat.le_refl _) _)) (fun hS => ?_)
    try simp only [Act.put, List.setIfInBounds_toArray, List.set_cons_zero, List.set_cons_succ]
    clear hK K
    refine heldAny_one (i := 8) rfl (by kernel_rfl) (by kernel_rfl) (fun K hK => ?_)
    have hkp : w7.drew.ownsRow (T + 1) 161 2 (.slice a2.Ak k.ps.length a2.ck) k.ps.length (cellsP k.ps) := hm7.out.drew.kp
    refine step_append_row _ elemPair (by rfl) (.tmp 77) (.tmp 79) (by rfl) (T + 1) _ _ _ (by rfl) (hkp.alloc _) _ _ 1 1 [.int .i64 (q : Int), .int .i64 (b : Int)] (by rfl) (Row.newAt _ _ rfl _ [.int .i64 (q : Int), .int .i64 (b : Int)] 1 2 rfl) ?_ ?_ ?_ ?_ ?_
    ·intro u hu; simp at hu; rcases hu with rfl | rfl <;> rfl
    ·unfold maxLen; omega
    ·omega
    ·simp; omega
    ·intro v9 w9 hv9 hg9 hat9
     obtain ⟨A9, c9, rfl, _, _⟩ := own_form hv9
     have hl9 : (k.ps ++ [(q, b)]).length = k.ps.length + 1 := by simp
     replace hg9 : (w7.drew.alloc (.cells #[.int .i64 (q : Int), .int .i64 (b : Int)] 161)).grownBy w9 (Value.slice a2.Ak k.ps.length a2.ck).ownBlock := hg9
     have hk9 := Keep.of_row hg9
     have hP9 := P7.out.below (Below.refl _ _).drew
     have P9 := hP9.keep hk9 (fun e => hH2 (Or.inr (Or.inr (Or.inr (by rw [own_any] at e; exact e)))))
     obtain ⟨⟨d3, f3⟩, hm9, hfr9⟩ := hm7.out.drew.grow3 (ps' := k.ps ++ [(q, b)]) (A' := A9) (c' := c9) (by rw [own_any] at hg9; exact hg9) (by rw [hl9, cellsP_append, cellsP_one]; exact hv9) (by rw [own_any A9, own_any a2.Ak] at hat9; simpa using hat9)
     rw [hl9] at hm9 hfr9
     have hfrD : Fr T a2 a2 w7 w7.drew := Fr.of_below (Below.refl _ _).drew
     have hfrZ := Lib.hid (hfr37.out.trans (hfrD.trans hfr9))
     replace hm9 := Lib.hid hm9
     refine hK.out _ _ ⟨d3, P9.c 0 _ rfl, P9.c 1 _ rfl⟩ (fun hS => ?_)
     try simp only [Act.put, List.setIfInBounds_toArray]
     refine heldAny_done (by kernel_rfl) ⟨by kernel_rfl, ?_⟩
     simp only [List.drop_succ_cons, List.drop_zero]
     clear hK K hS hfr9 hv9 hg9 hat9 hk9 hall9 P9 hP9 hm7 P7 hkp hfrD
     go_wp2_with fail
     refine bodyPost_end (results_none rfl _ _ _) rfl ?_
     exact ⟨⟨_, rfl⟩, _, _, HTR.out, hm9.out, hfrZ.out⟩
 ·have hm3 := hm1
  have hfr3 := hfr1
  have P3 := P1
  have hH0 : ¬ a.blk T w.heap.size := fun e => by have := (hm.out.blk_lt e).2; omega
  have HTR : Hid (TrOk (k.push q b) { t with pr := t.pr ++ [r] }) := Lib.hid (hsame.out r hk)
  clear hm1 P1 hfr1 q0 q1 hk
  have hT3 := hm3.out.box.lt
  obtain ⟨b0, b1, b2, b3, b4, b5, b6, b7⟩ := hm3.out.cells
  go_wp2_with (first
   | (at_builtin; refine wpList_append_row _ elemInt rfl (.tmp 66) (.tmp 68) rfl (T + 1) _ _ _ rfl (hm3.out.pr.alloc _) _ _ 1 1 [.int .i64 (r : Int)] rfl (Row.newAt _ _ rfl _ [.int .i64 (r : Int)] 1 1 rfl) ?_ ?_ ?_ ?_ ?_))
  ·intro u hu; simp at hu; subst hu; rfl
  ·unfold maxLen; omega
  ·omega
  ·simp; omega
  ·intro v6 w6 hv6 hg6 hat6
   obtain ⟨A6, c6, rfl, _, _⟩ := own_form hv6
   have hl6 : (t.pr ++ [r]).length = t.pr.length + 1 := by simp
   obtain ⟨⟨d7, f7⟩, hm7, hfr7⟩ := hm3.out.grow7 (pr' := t.pr ++ [r]) (A' := A6) (c' := c6) (by rw [own_any] at hg6; exact hg6) (by rw [hl6, List.map_append]; exact hv6) (by rw [own_any A6, own_any a.Ap] at hat6; simpa using hat6)
   rw [hl6] at hm7 hfr7
   have hH2 : ¬ ({ a with Ap := A6, cp := c6 } : TA).blk T w.heap.size := by
    rintro (e | e | e | e)
    ·exact hH0 (Or.inl e)
    ·exact hH0 (Or.inr (Or.inl e))
    ·have e' : (Value.slice A6 0 0).ownBlock = some w.heap.size := e
     rw [own_any A6, own_any a.Ap] at hat6
     rcases hat6 with h1 | h1
     ·exact hH0 (Or.inr (Or.inr (Or.inl (h1.symm.trans e'))))
     ·rw [e'] at h1
      injection h1 with h1
      have := P3.out.lt
      omega
    ·exact hH0 (Or.inr (Or.inr (Or.inr e)))
   have hfr37 := Lib.hid (hfr3.out.trans hfr7)
   have P7 := Lib.hid (hfr7.box P3.out hH0).1
   replace hm7 := Lib.hid hm7
   clear hfr7 hv6 hg6 hat6 b0 b1 b2 b3 b4 b5 b6 b7 P3 hm3 hfr3
   go_upto_region 9 with (fail)
   obtain ⟨w7, hw7⟩ : ∃ W, w6.setCell ⟨T, 7, none⟩ (.slice A6 (t.pr.length + 1) c6) = W := ⟨_, rfl⟩
   obtain ⟨t2, ht2⟩ : ∃ t2 : Tr, ({ t with pr := t.pr ++ [r] } : Tr) = t2 := ⟨_, rfl⟩
   obtain ⟨a2, ha2⟩ : ∃ a2 : TA, ({ a with Ap := A6, cp := c6 } : TA) = a2 := ⟨_, rfl⟩
   rw [hw7, ht2, ha2] at hm7
   rw [hw7, ha2] at hfr37
   rw [hw7] at P7 ⊢
   rw [ha2] at hH2
   rw [ht2] at HTR
   have hak : a.Ak = a2.Ak := by rw [← ha2]
   have hT7 := hm7.out.box.lt
   clear hw7 ht2 ha2 d7 f7 hl6
   have hall9 : Hid (∀ W, Below w7.heap.size w7 W → W.cell? ⟨T, 3, none⟩ = some (.slice a2.Ak k.ps.length a2.ck) ∧ W.cell? ⟨w.heap.size, 0, none⟩ = some (.int .i64 (q : Int)) ∧ W.cell? ⟨w.heap.size, 1, none⟩ = some (.int .i64 (b : Int))) := Lib.hid (fun W hW => ⟨(hm7.out.below hW).cells.2.2.2.1, (P7.out.below hW).c 0 _ rfl, (P7.out.below hW).c 1 _ rfl⟩)
   refine wp_region_held_tail (S := fun W => W.cell? ⟨T, 3, none⟩ = some (.slice a2.Ak k.ps.length a2.ck) ∧ W.cell? ⟨w.heap.size, 0, none⟩ = some (.int .i64 (q : Int)) ∧ W.cell? ⟨w.heap.size, 1, none⟩ = some (.int .i64 (b : Int))) 9 (by kernel_rfl) (by kernel_rfl) (hall9.out _ (Below.refl _ _).drew) (fun hS => ?_)
   refine heldAny_take (i := 0) (v := ?_) rfl (by kernel_rfl) (by kernel_rfl) (by kernel_rfl) (by kernel_rfl) (fun _ _ _ h => h) (Or.inl ⟨by rfl, ?_⟩) (by assumption) ?_
   rotate_left
   ·(intro wS hSw; (try dsimp only at hSw); go_split_ands; go_simp; all_goals with_reducible rfl)
   try simp only [Act.put, List.setIfInBounds_toArray]
   refine heldAny_take (i := 1) (v := ?_) rfl (by kernel_rfl) (by kernel_rfl) (by kernel_rfl) (by kernel_rfl) (fun _ _ _ h => h) (Or.inl ⟨by rfl, ?_⟩) (by assumption) ?_
   rotate_left
   ·(intro wS hSw; (try dsimp only at hSw); go_split_ands; go_simp; all_goals with_reducible rfl)
   try simp only [Act.put]
   refine heldAny_take (i := 2) (v := ?_) rfl (by kernel_rfl) (by kernel_rfl) (by kernel_rfl) (by kernel_rfl) (fun _ _ _ h => h) (Or.inl ⟨by rfl, ?_⟩) (by assumption) ?_
   rotate_left
   ·(intro wS hSw; (try dsimp only at hSw); go_split_ands; go_simp; all_goals with_reducible rfl)
   try simp only [Act.put]
   refine heldAny_take (i := 3) (v := ?_) rfl (by kernel_rfl) (by kernel_rfl) (by kernel_rfl) (by kernel_rfl) (fun _ _ _ h => h) (Or.inl ⟨by rfl, ?_⟩) (by assumption) ?_
   rotate_left
   ·(intro wS hSw; (try dsimp only at hSw); go_split_ands; go_simp; all_goals with_reducible rfl)
   try simp only [Act.put]
   refine heldAny_take (i := 4) (v := ?_) rfl (by kernel_rfl) (by kernel_rfl) (by kernel_rfl) (by kernel_rfl) (fun _ _ _ h => h) (Or.inl ⟨by rfl, ?_⟩) (by assumption) ?_
   rotate_left
   ·(intro wS hSw; (try dsimp only at hSw); go_split_ands; go_simp; all_goals with_reducible rfl)
   try simp only [Act.put]
   refine heldAny_take (i := 5) (v := ?_) rfl (by kernel_rfl) (by kernel_rfl) (by kernel_rfl) (by kernel_rfl) (fun _ _ _ h => h) (Or.inl ⟨by rfl, ?_⟩) (by assumption) ?_
   rotate_left
   ·(intro wS hSw; (try dsimp only at hSw); go_split_ands; go_simp; all_goals with_reducible rfl)
   try simp only [Act.put]
   refine heldAny_take (i := 6) (v := ?_) rfl (by kernel_rfl) (by kernel_rfl) (by kernel_rfl) (by kernel_rfl) (fun _ _ _ h => h) (Or.inl ⟨by rfl, ?_⟩) (by assumption) ?_
   rotate_left
   ·(intro wS hSw; (try dsimp only at hSw); go_split_ands; go_simp; all_goals with_reducible rfl)
   try simp only [Act.put]
   refine heldAny_one (i := 7) rfl (by kernel_rfl) (by kernel_rfl) (fun K hK => ?_)
   go_simp
   refine hK.out _ _ (hall9.out _ ((Below.refl _ _).drew.alloc (Nat.le_refl _) _)) (fun hS => ?_)
   try simp only [Act.put, List.setIfInBounds_toArray, List.set_cons_zero, List.set_cons_succ]
   clear hK K
   refine heldAny_one (i := 8) rfl (by kernel_rfl) (by kernel_rfl) (fun K hK => ?_)
   have hkp : w7.drew.ownsRow (T + 1) 161 2 (.slice a2.Ak k.ps.length a2.ck) k.ps.length (cellsP k.ps) := hm7.out.drew.kp
   refine step_append_row _ elemPair (by rfl) (.tmp 77) (.tmp 79) (by rfl) (T + 1) _ _ _ (by rfl) (hkp.alloc _) _ _ 1 1 [.int .i64 (q : Int), .int .i64 (b : Int)] (by rfl) (Row.newAt _ _ rfl _ [.int .i64 (q : Int), .int .i64 (b : Int)] 1 2 rfl) ?_ ?_ ?_ ?_ ?_
   ·intro u hu; simp at hu; rcases hu with rfl | rfl <;> rfl
   ·unfold maxLen; omega
   ·omega
   ·simp; omega
   ·intro v9 w9 hv9 hg9 hat9
    obtain ⟨A9, c9, rfl, _, _⟩ := own_form hv9
    have hl9 : (k.ps ++ [(q, b)]).length = k.ps.length + 1 := by simp
    replace hg9 : (w7.drew.alloc (.cells #[.int .i64 (q : Int), .int .i64 (b : Int)] 161)).grownBy w9 (Value.slice a2.Ak k.ps.length a2.ck).ownBlock := hg9
    have hk9 := Keep.of_row hg9
    have hP9 := P7.out.below (Below.refl _ _).drew
    have P9 := hP9.keep hk9 (fun e => hH2 (Or.inr (Or.inr (Or.inr (by rw [own_any] at e; exact e)))))
    obtain ⟨⟨d3, f3⟩, hm9, hfr9⟩ := hm7.out.drew.grow3 (ps' := k.ps ++ [(q, b)]) (A' := A9) (c' := c9) (by rw [own_any] at hg9; exact hg9) (by rw [hl9, cellsP_append, cellsP_one]; exact hv9) (by rw [own_any A9, own_any a2.Ak] at hat9; simpa using hat9)
    rw [hl9] at hm9 hfr9
    have hfrD : Fr T a2 a2 w7 w7.drew := Fr.of_below (Below.refl _ _).drew
    have hfrZ := Lib.hid (hfr37.out.trans (hfrD.trans hfr9))
    replace hm9 := Lib.hid hm9
    refine hK.out _ _ ⟨d3, P9.c 0 _ rfl, P9.c 1 _ rfl⟩ (fun hS => ?_)
    try simp only [Act.put, List.setIfInBounds_toArray]
    refine heldAny_done (by kernel_rfl) ⟨by kernel_rfl, ?_⟩
    simp only [List.drop_succ_cons, List.drop_zero]
    clear hK K hS hfr9 hv9 hg9 hat9 hk9 hall9 P9 hP9 hm7 P7 hkp hfrD
    go_wp2_with fail
    refine bodyPost_end (results_none rfl _ _ _) rfl ?_
    exact ⟨⟨_, rfl⟩, _, _, HTR.out, hm9.out, hfrZ.out⟩

end Go.Proofs.YthlgpgaeajfchaaGreat

