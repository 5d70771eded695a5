/-
  The program's tree of words: nodeOf and child.
  A tree in memory grows: a row of it is appended to, and the new row is stored in its box.
-/
import Derived.Test.YthlgpgaeajfchaaGreatDoorTreeMem
import Derived.Test.YthlgpgaeajfchaaGreatDoorImplKnown
import Derived.Test.YthlgpgaeajfchaaGreatDoorHeldTail

namespace Go.Proofs.YthlgpgaeajfchaaGreatDoor
open Go.RowKit
set_option linter.unusedVariables false
set_option maxRecDepth 100000

section
variable {k : Kn} {t : Tr} {T : Nat} {a : TA} {w w' : World}

theorem TrM.cells (h : TrM k t T a w) : w.cell? ⟨T, 0, none⟩ = some (.int .i64 (k.o : Int)) ∧ w.cell? ⟨T, 1, none⟩ = some (.int .i64 (k.l : Int)) ∧ w.cell? ⟨T, 2, none⟩ = some (.int .i64 (k.m : Int)) ∧ w.cell? ⟨T, 3, none⟩ = some (.slice a.Ak k.ps.length a.ck) ∧ w.cell? ⟨T, 4, none⟩ = some (.int .i64 (k.base : Int)) ∧ w.cell? ⟨T, 5, none⟩ = some (.int .i64 k.lastI) ∧ w.cell? ⟨T, 6, none⟩ = some (.slice a.An (t.c + t.ns.length) a.cn) ∧ w.cell? ⟨T, 7, none⟩ = some (.slice a.Ap t.pr.length a.cp) :=
  ⟨h.box.c 0 _ rfl, h.box.c 1 _ rfl, h.box.c 2 _ rfl, h.box.c 3 _ rfl, h.box.c 4 _ rfl, h.box.c 5 _ rfl, h.box.c 6 _ rfl, h.box.c 7 _ rfl⟩

theorem TrM.frz (h : TrM k t T a w) : w.frozen? ⟨T, 3, none⟩ = false ∧ w.frozen? ⟨T, 5, none⟩ = false ∧ w.frozen? ⟨T, 6, none⟩ = false ∧ w.frozen? ⟨T, 7, none⟩ = false :=
  ⟨h.box.f 3 _ rfl, h.box.f 5 _ rfl, h.box.f 6 _ rfl, h.box.f 7 _ rfl⟩

/-- The cells of a node in memory. -/
theorem TrM.node (h : TrM k t T a w) {i : Nat} (hi : i < t.c + t.ns.length) : ∃ g, a.An = some ⟨g, 0, none⟩ ∧ T < g ∧ g < w.heap.size ∧
    (w.cell? ⟨g, i * 6, none⟩ = some (.int .i64 (t.parI i)) ∧ w.cell? ⟨g, i * 6 + 1, none⟩ = some (.int .i64 (kidI t.c t.ns i t.ns.length)) ∧ w.cell? ⟨g, i * 6 + 2, none⟩ = some (.int .i64 (t.nxtI i)) ∧ w.cell? ⟨g, i * 6 + 3, none⟩ = some (.int .u8 (t.lastN i : Int)) ∧ w.cell? ⟨g, i * 6 + 4, none⟩ = some (.int .u8 (t.firstN i : Int)) ∧ w.cell? ⟨g, i * 6 + 5, none⟩ = some (.int .i64 (t.codeOf i : Int))) ∧ ∀ j, w.frozen? ⟨g, j, none⟩ = false := by
  obtain ⟨g, e, hg, hlt, _, hc, hf⟩ := own_place h.ns (by omega)
  exact ⟨g, e, by omega, hlt, ⟨hc _ _ (cellsN_get t hi (j := 0) (by omega)), hc _ _ (cellsN_get t hi (j := 1) (by omega)), hc _ _ (cellsN_get t hi (j := 2) (by omega)), hc _ _ (cellsN_get t hi (j := 3) (by omega)), hc _ _ (cellsN_get t hi (j := 4) (by omega)), hc _ _ (cellsN_get t hi (j := 5) (by omega))⟩, hf⟩

/-- The node of a pair in memory. -/
theorem TrM.pairNode (h : TrM k t T a w) {i n : Nat} (hi : t.pr[i]? = some n) : ∃ g, a.Ap = some ⟨g, 0, none⟩ ∧ T < g ∧ g < w.heap.size ∧ w.cell? ⟨g, i, none⟩ = some (.int .i64 (n : Int)) := by
  obtain ⟨hlt, _⟩ := List.getElem?_eq_some_iff.1 hi
  obtain ⟨g, e, hg, hlt, _, hc, hf⟩ := own_place h.pr (by omega)
  exact ⟨g, e, by omega, hlt, hc _ _ (by rw [List.getElem?_map, hi]; rfl)⟩
end

set_option maxHeartbeats 2000000 in
theorem implNodeOf (k : Kn) (t : Tr) (T : Nat) (a : TA) (x : Nat) (w : World) (hsv : sv k.o k.l k.m) (hnb : k.ps.length ≤ 1023) (ht : TrOk k t) (hm : TrM k t T a w) (hx : k.has k.ps.length x) :
    Calls Tryz.prog 124 #[.pointer (some ⟨T, 0, none⟩), .int .i64 (x : Int)] w fun e w' => e = .returned (.int .i64 (t.of k.fin x : Int)) ∧ Below w.heap.size w w' := by
  have hl8 : k.l ≤ 8 := by have := hsv.2.1.2; omega
  have hpw : k.clear ≤ 2 ^ 8 := Nat.pow_le_pow_right (by omega) hl8
  have hfe := k.fin_eq
  have HE := fun W => implEndCode k.o k.l k.m W hsv
  have hf : 2 ^ k.l + 1 = k.fin := rfl
  rw [hf] at HE
  obtain ⟨h1, h2, h3, h4⟩ := ht.of hx
  have hof : ¬ k.fin < x → t.of k.fin x = x := fun hh => by unfold Tr.of; rw [if_neg hh]
  have hxb : x ≤ 4000 := by unfold Kn.has at hx; omega
  replace hm := Lib.hid hm
  obtain ⟨q0, q1, q2, q3, q4, q5, q6, q7⟩ := hm.out.cells
  obtain ⟨f, hff⟩ : ∃ f, k.fin = f := ⟨_, rfl⟩
  rw [hff] at HE h4 hof hfe ⊢
  obtain ⟨y, hy⟩ : ∃ y, t.of f x = y := ⟨_, rfl⟩
  rw [hff] at h1 h2 h3
  rw [hy] at h4 hof h1 ⊢
  have hfb : f ≤ 300 := by omega
  have HEH := Lib.hid HE
  clear HE h2 h3 hf hff hy hl8 hpw hfe hx hsv hnb
  by_cases hfx : f < x
  · have hp := h4 hfx
    obtain ⟨j, hj⟩ : ∃ j : Nat, (x : Int) - f - 1 = j := ⟨x - f - 1, by omega⟩
    have hj2 : x - f - 1 = j := by omega
    obtain ⟨d, hd⟩ : ∃ d : Nat, (x : Int) - f = d := ⟨x - f, by omega⟩
    have hd1 : (d : Int) - 1 = j := by omega
    rw [hj2] at hp
    obtain ⟨hjl, _⟩ := List.getElem?_eq_some_iff.1 hp
    replace hp := Lib.hid hp
    have g1 : (f : Int) < x := by omega
    have hjb : j ≤ 4000 := by omega
    have hdb : d ≤ 4000 := by omega
    clear hj hj2 h4 hof h1
    go_enter Tryz.func124, Tryz.ntmps124
    go_wp2_with fail
    refine (HEH.out _).mono ?_
    rintro e w1 ⟨rfl, hb1⟩
    have hm1 := Lib.hid (hm.out.below hb1)
    clear q0 q1 q2 q3 q4 q5 q6 q7
    obtain ⟨q0, q1, q2, q3, q4, q5, q6, q7⟩ := hm1.out.cells
    obtain ⟨g, hg, _, _, hgc⟩ := hm1.out.pairNode hp.out
    rw [hg] at q7
    go_wp2_with fail
    go_ret
    exact ⟨rfl, hb1⟩
  · have hyx := hof hfx
    subst hyx
    have g1 : ¬ (f : Int) < y := by omega
    clear h4 hof h1
    go_enter Tryz.func124, Tryz.ntmps124
    go_wp2_with fail
    refine (HEH.out _).mono ?_
    rintro e w1 ⟨rfl, hb1⟩
    go_wp2_with fail
    go_ret
    exact ⟨rfl, hb1⟩

/-- What child finds. -/
def Tr.kid (t : Tr) (p b : Nat) (z : Int) : Prop := (z = -1 ∧ t.NoKid p b) ∨ ∃ r : Nat, z = r ∧ t.IsKid p b r

theorem Tr.nxt_node {t : Tr} {j : Nat} {d : Nd} (h : t.ns[j]? = some d) : t.nxtI (t.c + j) = kidI t.c t.ns d.par j ∧ t.lastN (t.c + j) = d.byte := by
  unfold Tr.nxtI Tr.lastN
  rw [if_neg (by omega), if_neg (by omega), show t.c + j - t.c = j by omega, h]
  exact ⟨rfl, rfl⟩

set_option maxHeartbeats 4000000 in
theorem implChild (k : Kn) (t : Tr) (T : Nat) (a : TA) (p b : Nat) (w : World) (hm : TrM k t T a w) (hp : p < t.c + t.ns.length) (hb : b < 256) :
    Calls Tryz.prog 125 #[.pointer (some ⟨T, 0, none⟩), .int .i64 (p : Int), .int .u8 (b : Int)] w fun e w' => (∃ z : Int, e = .returned (.int .i64 z) ∧ t.kid p b z) ∧ w = w' := by
  obtain ⟨g, hg, _, _, ⟨_, hk, _⟩, _⟩ := hm.node hp
  have hnode := Lib.hid (fun (i : Nat) (hi : i < t.c + t.ns.length) => (hm.node hi))
  obtain ⟨q0, q1, q2, q3, q4, q5, q6, q7⟩ := hm.cells
  rw [hg] at q6
  obtain ⟨N, hN⟩ : ∃ N, t.c + t.ns.length = N := ⟨_, rfl⟩
  rw [hN] at q6 hp
  have hp0 : (0 : Int) ≤ p := by omega
  replace hN := Lib.hid hN
  clear q0 q1 q2 q3 q4 q5 q7
  go_enter Tryz.func125, Tryz.ntmps125
  go_wp2_with fail
  go_loopw [7] (fun v wr => ∃ (z : Int) (m : Nat), v = .int .i64 z ∧ Hid (z = kidI t.c t.ns p m ∧ m ≤ t.ns.length ∧ ∀ (j : Nat) (d : Nd), m ≤ j → t.ns[j]? = some d → d.par = p → d.byte ≠ b) ∧ wr = w) (fun v _ => (intOf v + 1).toNat)
  case atStart => exact ⟨_, t.ns.length, rfl, Lib.hid ⟨rfl, Nat.le_refl _, fun j d hj hd => by have := (List.getElem?_eq_some_iff.1 hd).1; omega⟩, rfl⟩
  case round =>
    obtain ⟨z, m, rfl, hz, rfl⟩ := hrel
    rcases kidI_some (c := t.c) (ns := t.ns) (p := p) m hz.out.2.1 with ⟨h1, h2⟩ | ⟨j, d, h1, h2, h3, h4, h5⟩
    · obtain rfl : z = -1 := hz.out.1.trans h1
      have hno : t.NoKid p b := fun j d hd hdp => by
        by_cases hjm : j < m
        · exact absurd hdp (h2 j d hjm hd)
        · exact hz.out.2.2 j d (by omega) hd hdp
      clear h2
      go_wp2_with fail
      go_ret
      exact ⟨⟨-1, rfl, Or.inl ⟨rfl, hno⟩⟩, rfl⟩
    · obtain ⟨r, hr⟩ : ∃ r, t.c + j = r := ⟨_, rfl⟩
      have hjl := (List.getElem?_eq_some_iff.1 h2).1
      obtain rfl : z = (r : Int) := by rw [hz.out.1, h4, hr]
      have hrN : r < N := by have := hN.out; omega
      obtain ⟨g2, hg2, _, _, ⟨n0, n1, n2, n3, n4, n5⟩, _⟩ := hnode.out r (by rw [hN.out]; exact hrN)
      obtain rfl : g = g2 := by rw [hg] at hg2; injection hg2 with e; injection e
      obtain ⟨e1, e2⟩ := Tr.nxt_node h2
      rw [hr] at e1 e2
      rw [e1, h3] at n2
      rw [e2] at n3
      have hr0 : (0 : Int) ≤ r := by omega
      by_cases hbb : d.byte = b
      · rw [hbb] at n3
        have hk2 := Lib.hid (show t.kid p b r from Or.inr ⟨r, rfl, j, d, hr.symm, h2, h3, hbb⟩)
        clear n0 n1 n2 n4 n5 e1 e2 h4 h5 hz hbb h2 h3
        go_wp2_with fail
        go_ret
        exact ⟨⟨r, rfl, hk2.out⟩, rfl⟩
      · have hz2 := Lib.hid (show kidI t.c t.ns p j = kidI t.c t.ns p j ∧ j ≤ t.ns.length ∧ ∀ (i : Nat) (e : Nd), j ≤ i → t.ns[i]? = some e → e.par = p → e.byte ≠ b from ⟨rfl, by omega, fun i e hi he hep => by
          by_cases hij : i = j
          · subst hij
            rw [h2] at he
            injection he with he
            subst he
            exact hbb
          · by_cases him : i < m
            · exact absurd hep (h5 i e (by omega) him he)
            · exact hz.out.2.2 i e (by omega) he hep⟩)
        have hlt := (kidI_range t.c t.ns p j (by omega)).2
        have hge := (kidI_range t.c t.ns p j (by omega)).1
        obtain ⟨z2, hz2e⟩ : ∃ z2, kidI t.c t.ns p j = z2 := ⟨_, rfl⟩
        obtain ⟨y, hy⟩ : ∃ y, d.byte = y := ⟨_, rfl⟩
        rw [hz2e] at n2 hlt hge
        rw [hy] at n3 hbb
        have hyb : ((y : Int) != b) = true := by rw [bne_iff_ne]; omega
        have hz3 : Hid (z2 = kidI t.c t.ns p j ∧ j ≤ t.ns.length ∧ ∀ (i : Nat) (e : Nd), j ≤ i → t.ns[i]? = some e → e.par = p → e.byte ≠ b) := Lib.hid (by rw [← hz2e]; exact hz2.out)
        have hmeas : (z2 + 1).toNat < ((r : Int) + 1).toNat := by omega
        clear n0 n1 n4 n5 e1 e2 h4 h5 hz h2 h3 hz2 hz2e hy
        go_wp2_with fail
        go_roundw
        case rel => exact ⟨z2, j, rfl, hz3, trivial⟩
        case measure => simpa [intOf] using hmeas

end Go.Proofs.YthlgpgaeajfchaaGreatDoor

namespace Go.Proofs.YthlgpgaeajfchaaGreatDoor
open Go.RowKit
set_option linter.unusedVariables false

/-- A cell of an owned row is written. -/
theorem own_set {w : World} {base size n c g i : Nat} {e : TypeId} {A : Option Addr} {xs : List Value} (h : w.ownsRow base e size (.slice A n c) n xs) (hA : A = some ⟨g, 0, none⟩) (u : Value) : (w.setCell ⟨g, i, none⟩ u).ownsRow base e size (.slice A n c) n (xs.set i u) := by
  refine ⟨by rw [List.length_set]; exact h.1, ?_⟩
  rcases h.2 with ⟨h0, _⟩ | ⟨g', cap, cur, hv, hb, hg, hnc, hcm, hcs, htake⟩
  · injection h0 with h0; rw [hA] at h0; cases h0
  · injection hv with e1 e2 e3
    rw [hA] at e1
    injection e1 with e1
    injection e1 with e1
    subst e1 e3 hA
    have hlt := lt_of_block hg
    have h' : w.heap[g] = .cells cur e (0, 0) := by simpa [Array.getElem?_eq_getElem hlt] using hg
    refine .inr ⟨g, c, cur.setIfInBounds i u, rfl, hb, ?_, hnc, hcm, by simpa using hcs, ?_⟩
    · show (w.heap.modify g _)[g]? = _
      rw [Array.getElem?_eq_getElem (by simpa using hlt), Array.getElem_modify_self, h']
      rfl
    · rw [Array.toList_setIfInBounds, List.take_set, htake]

theorem Keep.mono {S S' : Nat → Prop} {w w' : World} (h : Keep S w w') (hs : ∀ g, S g → S' g) : Keep S' w w' :=
  ⟨h.os, h.tape, h.output, h.size, fun g hg hn => h.block g hg (fun e => hn (hs g e))⟩

theorem Keep.of_row {w w' : World} {o : Obj} {row : Option Nat} (hg : (w.alloc o).grownBy w' row) : Keep (fun g => row = some g) w w' :=
  (Keep.of_below ((Below.refl _ _).alloc (Nat.le_refl _) o)).trans (Keep.of_grown (S := fun g => row = some g) hg (fun g e => Or.inl e)) (fun _ _ e => e)

section
variable {k : Kn} {t : Tr} {T : Nat} {a : TA} {w w' : World} {o : Obj} {A' : Option Addr} {c' : Nat}

/-- The pairs' nodes are appended to. -/
theorem TrM.grow7 (h : TrM k t T a w) {pr' : List Nat} (hg : (w.alloc o).grownBy w' (Value.slice a.Ap 0 0).ownBlock) (hown : w'.ownsRow (T + 1) 3 1 (.slice A' pr'.length c') pr'.length (pr'.map natV))
    (hat : (Value.slice A' 0 0).ownBlock = (Value.slice a.Ap 0 0).ownBlock ∨ (Value.slice A' 0 0).ownBlock = some (w.heap.size + 1)) :
    (w'.cell? ⟨T, 7, none⟩ = some (.slice a.Ap t.pr.length a.cp) ∧ w'.frozen? ⟨T, 7, none⟩ = false) ∧
      TrM k { t with pr := pr' } T { a with Ap := A', cp := c' } (w'.setCell ⟨T, 7, none⟩ (.slice A' pr'.length c')) ∧ Fr T a { a with Ap := A', cp := c' } w (w'.setCell ⟨T, 7, none⟩ (.slice A' pr'.length c')) := by
  have hk := Keep.of_row hg
  have hlt : ∀ g, (Value.slice a.Ap 0 0).ownBlock = some g → T < g ∧ g < w.heap.size := fun g e => by have := h.pr.lt g (by rw [own_any]; exact e); omega
  have hltn : ∀ g, (Value.slice a.An 0 0).ownBlock = some g → T < g ∧ g < w.heap.size := fun g e => by have := h.ns.lt g (by rw [own_any]; exact e); omega
  have hltk : ∀ g, (Value.slice a.Ak 0 0).ownBlock = some g → T < g ∧ g < w.heap.size := fun g e => by have := h.kp.lt g (by rw [own_any]; exact e); omega
  have hT : ¬ (Value.slice a.Ap 0 0).ownBlock = some T := fun e => by have := hlt T e; omega
  have hbox := h.box.keep hk hT
  have hb2 := hbox.set (j := 7) (v0 := .slice a.Ap t.pr.length a.cp) rfl (.slice A' pr'.length c')
  have hTlt := h.box.lt
  refine ⟨⟨hbox.c 7 _ rfl, hbox.f 7 _ rfl⟩, ⟨hb2, ?_, ?_, ?_, ?_, h.ap2, ?_⟩, ?_, ?_⟩
  · refine ownsRow_setCell_other (own_keep h.ns hk (fun g e => ?_)) (fun e => ?_) _
    · rw [own_any] at e; exact h.ap1 g e
    · rw [own_any] at e; have := hltn T e; omega
  · refine ownsRow_setCell_other hown (fun e => ?_) _
    rw [own_any] at e
    rcases hat with h1 | h1
    · rw [h1] at e; exact hT e
    · rw [h1] at e; injection e with e; exact absurd e (by show ¬ w.heap.size + 1 = T; omega)
  · refine ownsRow_setCell_other (own_keep h.kp hk (fun g e => ?_)) (fun e => ?_) _
    · rw [own_any] at e; exact h.ap3.symm g e
    · rw [own_any] at e; have := hltk T e; omega
  · exact (Apart.step h.ap1.symm hat (fun g e => by have := hltn g e; omega)).symm
  · exact Apart.step h.ap3 hat (fun g e => by have := hltk g e; omega)
  · exact (hk.mono (fun g e => Or.inr (Or.inr (Or.inl e)))).trans (Keep.of_set (S := a.blk T) (Or.inl rfl) _) (fun _ _ e => e)
  · rintro g (e | e | e | e)
    · exact Or.inl (Or.inl e)
    · exact Or.inl (Or.inr (Or.inl e))
    · have e' : (Value.slice A' 0 0).ownBlock = some g := e
      rcases hat with h1 | h1
      · rw [h1] at e'; exact Or.inl (Or.inr (Or.inr (Or.inl e')))
      · rw [h1] at e'; injection e' with e'; exact Or.inr (by omega)
    · exact Or.inl (Or.inr (Or.inr (Or.inr e)))

/-- The pairs are appended to. -/
theorem TrM.grow3 (h : TrM k t T a w) {ps' : List (Nat × Nat)} (hg : (w.alloc o).grownBy w' (Value.slice a.Ak 0 0).ownBlock) (hown : w'.ownsRow (T + 1) 123 2 (.slice A' ps'.length c') ps'.length (cellsP ps'))
    (hat : (Value.slice A' 0 0).ownBlock = (Value.slice a.Ak 0 0).ownBlock ∨ (Value.slice A' 0 0).ownBlock = some (w.heap.size + 1)) :
    (w'.cell? ⟨T, 3, none⟩ = some (.slice a.Ak k.ps.length a.ck) ∧ w'.frozen? ⟨T, 3, none⟩ = false) ∧
      TrM { k with ps := ps' } t T { a with Ak := A', ck := c' } (w'.setCell ⟨T, 3, none⟩ (.slice A' ps'.length c')) ∧ Fr T a { a with Ak := A', ck := c' } w (w'.setCell ⟨T, 3, none⟩ (.slice A' ps'.length c')) := by
  have hk := Keep.of_row hg
  have hlt : ∀ g, (Value.slice a.Ak 0 0).ownBlock = some g → T < g ∧ g < w.heap.size := fun g e => by have := h.kp.lt g (by rw [own_any]; exact e); omega
  have hltn : ∀ g, (Value.slice a.An 0 0).ownBlock = some g → T < g ∧ g < w.heap.size := fun g e => by have := h.ns.lt g (by rw [own_any]; exact e); omega
  have hltp : ∀ g, (Value.slice a.Ap 0 0).ownBlock = some g → T < g ∧ g < w.heap.size := fun g e => by have := h.pr.lt g (by rw [own_any]; exact e); omega
  have hT : ¬ (Value.slice a.Ak 0 0).ownBlock = some T := fun e => by have := hlt T e; omega
  have hbox := h.box.keep hk hT
  have hb2 := hbox.set (j := 3) (v0 := .slice a.Ak k.ps.length a.ck) rfl (.slice A' ps'.length c')
  have hTlt := h.box.lt
  refine ⟨⟨hbox.c 3 _ rfl, hbox.f 3 _ rfl⟩, ⟨hb2, ?_, ?_, ?_, h.ap1, ?_, ?_⟩, ?_, ?_⟩
  · refine ownsRow_setCell_other (own_keep h.ns hk (fun g e => ?_)) (fun e => ?_) _
    · rw [own_any] at e; exact h.ap2 g e
    · rw [own_any] at e; have := hltn T e; omega
  · refine ownsRow_setCell_other (own_keep h.pr hk (fun g e => ?_)) (fun e => ?_) _
    · rw [own_any] at e; exact h.ap3 g e
    · rw [own_any] at e; have := hltp T e; omega
  · refine ownsRow_setCell_other hown (fun e => ?_) _
    rw [own_any] at e
    rcases hat with h1 | h1
    · rw [h1] at e; exact hT e
    · rw [h1] at e; injection e with e; exact absurd e (by show ¬ w.heap.size + 1 = T; omega)
  · exact (Apart.step h.ap2.symm hat (fun g e => by have := hltn g e; omega)).symm
  · exact (Apart.step h.ap3.symm hat (fun g e => by have := hltp g e; omega)).symm
  · exact (hk.mono (fun g e => Or.inr (Or.inr (Or.inr e)))).trans (Keep.of_set (S := a.blk T) (Or.inl rfl) _) (fun _ _ e => e)
  · rintro g (e | e | e | e)
    · exact Or.inl (Or.inl e)
    · exact Or.inl (Or.inr (Or.inl e))
    · exact Or.inl (Or.inr (Or.inr (Or.inl e)))
    · have e' : (Value.slice A' 0 0).ownBlock = some g := e
      rcases hat with h1 | h1
      · rw [h1] at e'; exact Or.inl (Or.inr (Or.inr (Or.inr e')))
      · rw [h1] at e'; injection e' with e'; exact Or.inr (by omega)

/-- A node is appended, and its parent's child is set. -/
theorem TrM.grow6 (h : TrM k t T a w) {p b x : Nat} (hnd : NdOk t.c t.ns) (hp : p < t.c + t.ns.length) (hg : (w.alloc o).grownBy w' (Value.slice a.An 0 0).ownBlock)
    (hown : w'.ownsRow (T + 1) 156 6 (.slice A' (t.c + t.ns.length + 1) c') (t.c + t.ns.length + 1) (cellsN t ++ newCells t p b x))
    (hat : (Value.slice A' 0 0).ownBlock = (Value.slice a.An 0 0).ownBlock ∨ (Value.slice A' 0 0).ownBlock = some (w.heap.size + 1)) :
    ∃ g, A' = some ⟨g, 0, none⟩ ∧ T < g ∧ (w'.cell? ⟨T, 6, none⟩ = some (.slice a.An (t.c + t.ns.length) a.cn) ∧ w'.frozen? ⟨T, 6, none⟩ = false) ∧
      ((∃ v, w'.cell? ⟨g, p * 6 + 1, none⟩ = some v) ∧ w'.frozen? ⟨g, p * 6 + 1, none⟩ = false) ∧
      TrM k { t.more p b x with pr := t.pr } T { a with An := A', cn := c' } ((w'.setCell ⟨T, 6, none⟩ (.slice A' (t.c + t.ns.length + 1) c')).setCell ⟨g, p * 6 + 1, none⟩ (.int .i64 ((t.c + t.ns.length : Nat) : Int))) ∧
      Fr T a { a with An := A', cn := c' } w ((w'.setCell ⟨T, 6, none⟩ (.slice A' (t.c + t.ns.length + 1) c')).setCell ⟨g, p * 6 + 1, none⟩ (.int .i64 ((t.c + t.ns.length : Nat) : Int))) := by
  have hk := Keep.of_row hg
  have hlt : ∀ g, (Value.slice a.An 0 0).ownBlock = some g → T < g ∧ g < w.heap.size := fun g e => by have := h.ns.lt g (by rw [own_any]; exact e); omega
  have hltp : ∀ g, (Value.slice a.Ap 0 0).ownBlock = some g → T < g ∧ g < w.heap.size := fun g e => by have := h.pr.lt g (by rw [own_any]; exact e); omega
  have hltk : ∀ g, (Value.slice a.Ak 0 0).ownBlock = some g → T < g ∧ g < w.heap.size := fun g e => by have := h.kp.lt g (by rw [own_any]; exact e); omega
  have hT : ¬ (Value.slice a.An 0 0).ownBlock = some T := fun e => by have := hlt T e; omega
  have hbox := h.box.keep hk hT
  have hb2 := hbox.set (j := 6) (v0 := .slice a.An (t.c + t.ns.length) a.cn) rfl (.slice A' (t.c + t.ns.length + 1) c')
  have hTlt := h.box.lt
  obtain ⟨g, hA, hgT, hgl, _, hcells, hfrz⟩ := own_place hown (by omega)
  have hgA : (Value.slice A' 0 0).ownBlock = some g := by rw [hA]; rfl
  have hlen : (t.more p b x).c + (t.more p b x).ns.length = t.c + t.ns.length + 1 := by
    show t.c + (t.ns ++ [_]).length = _
    rw [List.length_append]
    simp only [List.length_cons, List.length_nil]
    omega
  have hnp : ¬ (Value.slice a.Ap 0 0).ownBlock = some g := fun e => by
    rcases hat with h1 | h1
    · exact h.ap1 g (h1.symm.trans hgA) e
    · rw [hgA] at h1; injection h1 with h1; have := hltp g e; omega
  have hnk : ¬ (Value.slice a.Ak 0 0).ownBlock = some g := fun e => by
    rcases hat with h1 | h1
    · exact h.ap2 g (h1.symm.trans hgA) e
    · rw [hgA] at h1; injection h1 with h1; have := hltk g e; omega
  have hown2 := own_set (i := p * 6 + 1) (ownsRow_setCell_other (a := ⟨T, 6, none⟩) hown (fun e => by rw [own_any, hgA] at e; injection e with e; exact absurd e (by show ¬ g = T; omega)) (.slice A' (t.c + t.ns.length + 1) c')) hA (.int .i64 ((t.c + t.ns.length : Nat) : Int))
  rw [← cellsN_more hnd hp] at hown2
  refine ⟨g, hA, by omega, ⟨hbox.c 6 _ rfl, hbox.f 6 _ rfl⟩, ⟨⟨_, hcells (p * 6 + 1) _ (List.getElem?_eq_getElem (by rw [List.length_append, cellsN_length]; omega))⟩, hfrz _⟩, ⟨?_, ?_, ?_, ?_, ?_, ?_, h.ap3⟩, ?_, ?_⟩
  · have hb3 := hb2.keep (S := fun y => y = g) (Keep.of_set (S := fun y => y = g) (p := ⟨g, p * 6 + 1, none⟩) rfl (.int .i64 ((t.c + t.ns.length : Nat) : Int))) (by omega)
    have e : boxT k { t.more p b x with pr := t.pr } { a with An := A', cn := c' } = (boxT k t a).set 6 (.slice A' (t.c + t.ns.length + 1) c') := by
      unfold boxT
      show [_, _, _, _, _, _, Value.slice A' ((t.more p b x).c + (t.more p b x).ns.length) c', _] = _
      rw [hlen]
      rfl
    rw [e]
    exact hb3
  · show World.ownsRow _ _ _ _ (.slice A' ((t.more p b x).c + (t.more p b x).ns.length) c') ((t.more p b x).c + (t.more p b x).ns.length) (cellsN (t.more p b x))
    rw [hlen]
    exact hown2
  · refine ownsRow_setCell_other (ownsRow_setCell_other (own_keep h.pr hk (fun g2 e => ?_)) (fun e => ?_) _) (fun e => ?_) _
    · rw [own_any] at e; exact h.ap1.symm g2 e
    · rw [own_any] at e; have := hltp T e; omega
    · rw [own_any] at e; exact hnp e
  · refine ownsRow_setCell_other (ownsRow_setCell_other (own_keep h.kp hk (fun g2 e => ?_)) (fun e => ?_) _) (fun e => ?_) _
    · rw [own_any] at e; exact h.ap2.symm g2 e
    · rw [own_any] at e; have := hltk T e; omega
    · rw [own_any] at e; exact hnk e
  · exact Apart.step h.ap1 hat (fun g2 e => by have := hltp g2 e; omega)
  · exact Apart.step h.ap2 hat (fun g2 e => by have := hltk g2 e; omega)
  · have h1 : Keep (a.blk T) w (w'.setCell ⟨T, 6, none⟩ (.slice A' (t.c + t.ns.length + 1) c')) := (hk.mono (fun g2 e => Or.inr (Or.inl e))).trans (Keep.of_set (S := a.blk T) (Or.inl rfl) _) (fun _ _ e => e)
    refine h1.trans (Keep.of_set (S := fun y => y = g) rfl _) (fun g2 hg2 e => ?_)
    subst e
    rcases hat with h3 | h3
    · exact Or.inr (Or.inl (h3.symm.trans hgA))
    · rw [hgA] at h3; injection h3 with h3; omega
  · rintro g2 (e | e | e | e)
    · exact Or.inl (Or.inl e)
    · have e' : (Value.slice A' 0 0).ownBlock = some g2 := e
      rcases hat with h1 | h1
      · rw [h1] at e'; exact Or.inl (Or.inr (Or.inl e'))
      · rw [h1] at e'; injection e' with e'; exact Or.inr (by omega)
    · exact Or.inl (Or.inr (Or.inr (Or.inl e)))
    · exact Or.inl (Or.inr (Or.inr (Or.inr e)))

end

end Go.Proofs.YthlgpgaeajfchaaGreatDoor
