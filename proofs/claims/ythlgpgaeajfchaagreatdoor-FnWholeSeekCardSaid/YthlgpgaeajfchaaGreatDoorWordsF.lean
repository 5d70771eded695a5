/-
  The reference's l2Cleared, l2After and l2Step.
-/
import Derived.Test.YthlgpgaeajfchaaGreatDoorWordsC
import Derived.Test.YthlgpgaeajfchaaGreatDoorInts
import Derived.Deep.RegionLaw
namespace Go.Proofs.YthlgpgaeajfchaaGreatDoor
open Go.RowKit
set_option linter.unusedVariables false

theorem own_empty' {w : World} {e : TypeId} {size : Nat} (base : Nat) (hb : base ≤ w.heap.size) : (w.alloc (.cells #[] e)).ownsRow base e size (.slice (some ⟨w.heap.size, 0, none⟩) 0 0) 0 [] :=
  own_empty w _ rfl base hb e size

/-- The second of two boxes: its cells, which can be written. -/
theorem two6 {w w0 wx : World} {T : TypeId} {a b c d e f : Value} {H : Nat} (hH : w0.heap.size = H) (h : Below (H + 1) (w0.alloc (.cells #[a, b, c, d, e, f] T)) wx) :
    (wx.cell? ⟨H, 0, none⟩ = some a ∧ wx.cell? ⟨H, 1, none⟩ = some b ∧ wx.cell? ⟨H, 2, none⟩ = some c ∧ wx.cell? ⟨H, 3, none⟩ = some d ∧ wx.cell? ⟨H, 4, none⟩ = some e ∧ wx.cell? ⟨H, 5, none⟩ = some f) ∧
    (wx.frozen? ⟨H, 0, none⟩ = false ∧ wx.frozen? ⟨H, 1, none⟩ = false ∧ wx.frozen? ⟨H, 2, none⟩ = false ∧ wx.frozen? ⟨H, 3, none⟩ = false ∧ wx.frozen? ⟨H, 4, none⟩ = false ∧ wx.frozen? ⟨H, 5, none⟩ = false) := by
  subst hH
  have e : wx.heap[w0.heap.size]? = some (.cells #[a, b, c, d, e, f] T (0, 0)) := (h.block _ (by omega)).trans (heap_alloc_new w0 _)
  have hf : ∀ j, wx.frozen? ⟨w0.heap.size, j, none⟩ = false := fun j => (h.frozen (p := ⟨w0.heap.size, j, none⟩) (by simp)).trans (by simp)
  refine ⟨⟨?_, ?_, ?_, ?_, ?_, ?_⟩, hf 0, hf 1, hf 2, hf 3, hf 4, hf 5⟩ <;> simp [World.cell?, e]

/-- The pairs of what is known lie in a row of the call's own. -/
def Kn.Own (k : Kn) (w : World) (base : Nat) (A : Option Addr) (c : Nat) : Prop := w.ownsRow base 123 2 (.slice A k.ps.length c) k.ps.length (cellsP k.ps)

set_option maxHeartbeats 4000000 in
theorem specL2Cleared (k : Kn) (A : Option Addr) (c B : Nat) (w : World) (h : k.Valid) (hA : k.At w B A) (hB : B ≤ w.heap.size) (hc : k.ps.length ≤ c) :
    Calls Tryz.prog 168 #[k.val A c] w fun e w' => ∃ A' c', e = .returned (k.cleared.val A' c') ∧ k.cleared.Own w' w.heap.size A' c' ∧ Below w.heap.size w w' := by
  have hps := h.room
  have hpw := h.pow
  have hbn := h.keep
  have hcl : k.cleared.ps.length = k.base := by show (k.ps.take k.base).length = _; rw [List.length_take]; omega
  have hrow := Row.cut hA hbn
  rw [← cellsP_take] at hrow
  have hlen : (cellsP (k.ps.take k.base)).length = k.base * 2 := hrow.1
  obtain ⟨xs, hxs⟩ : ∃ xs, cellsP (k.ps.take k.base) = xs := ⟨_, rfl⟩
  have hx1 : ∀ u ∈ xs, u.oneCell' = true := by rw [← hxs]; exact cellsP_oneCell _
  have hat : ∀ (W : World) (base : Nat) (A' : Option Addr) (c' : Nat), W.ownsRow base 123 2 (.slice A' k.base c') k.base xs → k.cleared.Own W base A' c' := fun W base A' c' hr => by
    unfold Kn.Own
    rw [hcl]
    show W.ownsRow base _ 2 (.slice A' k.base c') k.base (cellsP (k.ps.take k.base))
    rw [hxs]; exact hr
  rw [hxs] at hrow hlen
  have hv : ∀ A' c', k.cleared.val A' c' = .agg #[.int .i64 (k.o : Int), .int .i64 (k.l : Int), .int .i64 (k.m : Int), .slice A' k.base c', .int .i64 (k.base : Int), .int .i64 (-1)] := fun A' c' => by
    unfold Kn.val; rw [hcl]; rfl
  have HAT := Lib.hid hat
  have HV := Lib.hid hv
  have HCL := Lib.hid hcl
  obtain ⟨D, hD⟩ : ∃ D, k.cleared = D := ⟨_, rfl⟩
  rw [hD] at HAT HV HCL ⊢
  have hnb : k.ps.length ≤ 1023 := by omega
  obtain ⟨n, hn⟩ : ∃ x, k.ps.length = x := ⟨_, rfl⟩
  obtain ⟨o, ho⟩ : ∃ x, k.o = x := ⟨_, rfl⟩
  obtain ⟨l, hl'⟩ : ∃ x, k.l = x := ⟨_, rfl⟩
  obtain ⟨m, hm⟩ : ∃ x, k.m = x := ⟨_, rfl⟩
  obtain ⟨b, hb⟩ : ∃ x, k.base = x := ⟨_, rfl⟩
  obtain ⟨q, hq⟩ : ∃ x, k.lastI = x := ⟨_, rfl⟩
  simp only [Kn.val, hn, ho, hl', hm, hb, hq]
  rw [hb] at HAT HV HCL hbn hrow hlen
  rw [hn] at hbn hnb hc
  simp only [ho, hl', hm] at HV
  have HX1 := Lib.hid hx1
  have HLN := Lib.hid hlen
  clear hps hpw hat hv hxs hcl hx1 hlen hD h hA hn ho hl' hm hb hq
  have b0 : (0 : Int) ≤ b := by omega
  have b1 : (b : Int) ≤ c := by omega
  go_enter Tryz.func168, Tryz.ntmps168
  go_upto_region 1 with (fail)
  have hz : ((w.alloc (.cells #[.int .i64 (o : Int), .int .i64 (l : Int), .int .i64 (m : Int), .slice A n c, .int .i64 (b : Int), .int .i64 q] 48)).alloc (.cells #[.int .i64 0, .int .i64 0, .int .i64 0, .slice none 0 0, .int .i64 0, .int .i64 0] 48)).heap.size = w.heap.size + 2 := by simp
  go_region_held3 (fun w' => w'.cell? ⟨w.heap.size, 0, none⟩ = some (.int .i64 (o : Int)) ∧ w'.cell? ⟨w.heap.size, 1, none⟩ = some (.int .i64 (l : Int)) ∧ w'.cell? ⟨w.heap.size, 2, none⟩ = some (.int .i64 (m : Int)) ∧ w'.cell? ⟨w.heap.size, 3, none⟩ = some (.slice A n c) ∧ w'.cell? ⟨w.heap.size, 4, none⟩ = some (.int .i64 (b : Int)) ∧ w'.cell? ⟨w.heap.size, 5, none⟩ = some (.int .i64 q) ∧ Below (w.heap.size + 1) (w.alloc (.cells #[.int .i64 (o : Int), .int .i64 (l : Int), .int .i64 (m : Int), .slice A n c, .int .i64 (b : Int), .int .i64 q] 48)) w') (first | with_reducible exact box6 HB3.out | with_reducible exact box6 ((((((HB3.out.setCell (by simp) _).setCell (by simp) _).setCell (by simp) _).setCell (by simp) _).setCell (by simp) _).setCell (by simp) _) | with_reducible exact box6 ((Below.refl _ _).alloc (by simp) _).drew | with_reducible exact box6 (((Below.refl _ _).alloc (by simp) _).drew.alloc (by simp) _)) (first | (refine step_append_row _ elemPair (by rfl) (.tmp 5) (.tmp 10) (by rfl) (w.heap.size + 2) _ _ _ (by rfl) (own_empty _ (w.heap.size + 2) (by simp) (w.heap.size + 2) (Nat.le_refl _) _ _) B A b c xs (by rfl) (((hrow.alloc hB _).alloc (by simp; omega) _).drew.alloc (by simp; omega) _) HX1.out (by unfold maxLen; omega) (by omega) (by simp) ?_; intro v2 w2 hv2 hg2 _; rw [Nat.zero_add, List.nil_append] at hv2; obtain ⟨A2, c2, rfl, hc2, _⟩ := own_form hv2; have hB2 : Below (w.heap.size + 2) ((w.alloc (.cells #[.int .i64 (o : Int), .int .i64 (l : Int), .int .i64 (m : Int), .slice A n c, .int .i64 (b : Int), .int .i64 q] 48)).alloc (.cells #[.int .i64 0, .int .i64 0, .int .i64 0, .slice none 0 0, .int .i64 0, .int .i64 0] 48)) w2 := ((Below.refl _ _).drew.alloc (by simp) _).grown hg2 (by simp) (fun g hg => by simp [Value.ownBlock] at hg; omega); obtain ⟨⟨r0, r1, r2, r3, r4, r5⟩, z0, z1, z2, z3, z4, z5⟩ := two6 (w := w) (by simp) hB2; have HB3 : Hid (Below (w.heap.size + 1) (w.alloc (.cells #[.int .i64 (o : Int), .int .i64 (l : Int), .int .i64 (m : Int), .slice A n c, .int .i64 (b : Int), .int .i64 q] 48)) w2) := Lib.hid (((Below.refl _ _).alloc (by simp) _).trans (hB2.mono (by omega))); have HV2 := Lib.hid hv2; have HC2 := Lib.hid hc2; clear hv2 hg2 hB2 hrow hc2))
  have hb6 := ((((((HB3.out.setCell (p := ⟨w.heap.size + 1, 0, none⟩) (by simp) (.int .i64 (o : Int))).setCell (p := ⟨w.heap.size + 1, 1, none⟩) (by simp) (.int .i64 (l : Int))).setCell (p := ⟨w.heap.size + 1, 2, none⟩) (by simp) (.int .i64 (m : Int))).setCell (p := ⟨w.heap.size + 1, 3, none⟩) (by simp) (.slice A2 b c2)).setCell (p := ⟨w.heap.size + 1, 4, none⟩) (by simp) (.int .i64 (b : Int))).setCell (p := ⟨w.heap.size + 1, 5, none⟩) (by simp) (.int .i64 (-1)))
  have hv6 := (ownsRow_setCell_below (ownsRow_setCell_below (ownsRow_setCell_below (ownsRow_setCell_below (ownsRow_setCell_below (ownsRow_setCell_below HV2.out (a := ⟨w.heap.size + 1, 0, none⟩) (by simp) (.int .i64 (o : Int))) (a := ⟨w.heap.size + 1, 1, none⟩) (by simp) (.int .i64 (l : Int))) (a := ⟨w.heap.size + 1, 2, none⟩) (by simp) (.int .i64 (m : Int))) (a := ⟨w.heap.size + 1, 3, none⟩) (by simp) (.slice A2 b c2)) (a := ⟨w.heap.size + 1, 4, none⟩) (by simp) (.int .i64 (b : Int))) (a := ⟨w.heap.size + 1, 5, none⟩) (by simp) (.int .i64 (-1)))
  go_wp2_with fail
  refine bodyPost_ret (v := .agg #[.int .i64 (o : Int), .int .i64 (l : Int), .int .i64 (m : Int), .slice A2 b c2, .int .i64 (b : Int), .int .i64 (-1)]) (by simp [results, Tryz.results168, go_sem, r0, r1, r2, r3, r4, r5]) rfl ?_
  exact ⟨A2, c2, congrArg Ending.returned (HV.out A2 c2).symm, HAT.out _ _ _ _ (own_base hv6 (by omega)), ((Below.refl _ _).alloc (Nat.le_refl _) _).trans (hb6.mono (by omega))⟩

theorem grown6 {w w2 : World} {row : Option Nat} {H : Nat} {a b c d e f : Value} (hg : w.grownBy w2 row)
    (hc : w.cell? ⟨H, 0, none⟩ = some a ∧ w.cell? ⟨H, 1, none⟩ = some b ∧ w.cell? ⟨H, 2, none⟩ = some c ∧ w.cell? ⟨H, 3, none⟩ = some d ∧ w.cell? ⟨H, 4, none⟩ = some e ∧ w.cell? ⟨H, 5, none⟩ = some f)
    (hf : w.frozen? ⟨H, 0, none⟩ = false ∧ w.frozen? ⟨H, 1, none⟩ = false ∧ w.frozen? ⟨H, 2, none⟩ = false ∧ w.frozen? ⟨H, 3, none⟩ = false ∧ w.frozen? ⟨H, 4, none⟩ = false ∧ w.frozen? ⟨H, 5, none⟩ = false) (hne : row ≠ some H) :
    (w2.cell? ⟨H, 0, none⟩ = some a ∧ w2.cell? ⟨H, 1, none⟩ = some b ∧ w2.cell? ⟨H, 2, none⟩ = some c ∧ w2.cell? ⟨H, 3, none⟩ = some d ∧ w2.cell? ⟨H, 4, none⟩ = some e ∧ w2.cell? ⟨H, 5, none⟩ = some f) ∧
    (w2.frozen? ⟨H, 0, none⟩ = false ∧ w2.frozen? ⟨H, 1, none⟩ = false ∧ w2.frozen? ⟨H, 2, none⟩ = false ∧ w2.frozen? ⟨H, 3, none⟩ = false ∧ w2.frozen? ⟨H, 4, none⟩ = false ∧ w2.frozen? ⟨H, 5, none⟩ = false) := by
  obtain ⟨c0, c1, c2, c3, c4, c5⟩ := hc
  obtain ⟨f0, f1, f2, f3, f4, f5⟩ := hf
  have hlt : H < w.heap.size := cell_lt c0
  have hne' : ∀ j, some (⟨H, j, none⟩ : Addr).block ≠ row := fun j e => hne e.symm
  have hff : ∀ j, w2.frozen? ⟨H, j, none⟩ = w.frozen? ⟨H, j, none⟩ := fun j => World.frozen?_of_block (hg.block _ hlt (hne' j))
  refine ⟨⟨hg.cell c0 (hne' 0), hg.cell c1 (hne' 1), hg.cell c2 (hne' 2), hg.cell c3 (hne' 3), hg.cell c4 (hne' 4), hg.cell c5 (hne' 5)⟩, (hff 0).trans f0, (hff 1).trans f1, (hff 2).trans f2, (hff 3).trans f3, (hff 4).trans f4, (hff 5).trans f5⟩

/-- What is made in l2After: the box of the new one at a, its pairs elsewhere. -/
structure Out6 (w0 : World) (B a : Nat) (v0 v1 v2 : Value) (A : Option Addr) (n c : Nat) (v4 v5 : Value) (xs : List Value) (w : World) : Prop where
  le : B ≤ a
  c0 : w.cell? ⟨a, 0, none⟩ = some v0
  c1 : w.cell? ⟨a, 1, none⟩ = some v1
  c2 : w.cell? ⟨a, 2, none⟩ = some v2
  c3 : w.cell? ⟨a, 3, none⟩ = some (.slice A n c)
  c4 : w.cell? ⟨a, 4, none⟩ = some v4
  c5 : w.cell? ⟨a, 5, none⟩ = some v5
  f3 : w.frozen? ⟨a, 3, none⟩ = false
  own : w.ownsRow B 123 2 (.slice A n c) n xs
  far : (Value.slice A n c).ownBlock ≠ some a
  bel : Below B w0 w

def set6 (w : World) (a : Nat) (v0 v1 v2 v3 v4 v5 : Value) : World := (((((w.setCell ⟨a, 0, none⟩ v0).setCell ⟨a, 1, none⟩ v1).setCell ⟨a, 2, none⟩ v2).setCell ⟨a, 3, none⟩ v3).setCell ⟨a, 4, none⟩ v4).setCell ⟨a, 5, none⟩ v5

theorem Out6.of_set {w0 w : World} {B a : Nat} {v0 v1 v2 v4 v5 u0 u1 u2 u3 u4 u5 : Value} {A : Option Addr} {n c : Nat} {xs : List Value}
    (hc : w.cell? ⟨a, 0, none⟩ = some u0 ∧ w.cell? ⟨a, 1, none⟩ = some u1 ∧ w.cell? ⟨a, 2, none⟩ = some u2 ∧ w.cell? ⟨a, 3, none⟩ = some u3 ∧ w.cell? ⟨a, 4, none⟩ = some u4 ∧ w.cell? ⟨a, 5, none⟩ = some u5)
    (hf : w.frozen? ⟨a, 3, none⟩ = false) (hle : B ≤ a) (hown : w.ownsRow B 123 2 (.slice A n c) n xs) (hfar : (Value.slice A n c).ownBlock ≠ some a) (hb : Below B w0 w) :
    Out6 w0 B a v0 v1 v2 A n c v4 v5 xs (set6 w a v0 v1 v2 (.slice A n c) v4 v5) := by
  obtain ⟨c0, c1, c2, c3, c4, c5⟩ := hc
  unfold set6
  refine ⟨hle, ?_, ?_, ?_, ?_, ?_, ?_, ?_, ?_, hfar, ?_⟩
  · simp [go_sem, c0]
  · simp [go_sem, c1]
  · simp [go_sem, c2]
  · simp [go_sem, c3]
  · simp [go_sem, c4]
  · simp [go_sem, c5]
  · simp [World.frozen?_setCell, hf]
  · exact ownsRow_setCell_other (ownsRow_setCell_other (ownsRow_setCell_other (ownsRow_setCell_other (ownsRow_setCell_other (ownsRow_setCell_other hown hfar _) hfar _) hfar _) hfar _) hfar _) hfar _
  · exact (((((hb.setCell hle _).setCell hle _).setCell hle _).setCell hle _).setCell hle _).setCell hle _

theorem Out6.of_alloc {w0 w : World} {B : Nat} {T : TypeId} {v0 v1 v2 v4 v5 : Value} {A : Option Addr} {n c : Nat} {xs : List Value}
    (hle : B ≤ w.heap.size) (hown : w.ownsRow B 123 2 (.slice A n c) n xs) (hb : Below B w0 w) :
    Out6 w0 B w.heap.size v0 v1 v2 A n c v4 v5 xs (w.alloc (.cells #[v0, v1, v2, .slice A n c, v4, v5] T)) := by
  have g := two6 (w := w) (w0 := w) (H := w.heap.size) (a := v0) (b := v1) (c := v2) (d := .slice A n c) (e := v4) (f := v5) (T := T) rfl (Below.refl _ _)
  obtain ⟨⟨c0, c1, c2, c3, c4, c5⟩, _, _, _, f3, _, _⟩ := g
  exact ⟨hle, c0, c1, c2, c3, c4, c5, f3, hown.alloc _, fun e => by have := (hown.lt _ e).2; omega, hb.alloc hle _⟩

theorem Out6.below {w0 w w' : World} {B a : Nat} {v0 v1 v2 v4 v5 : Value} {A : Option Addr} {n c : Nat} {xs : List Value} (h : Out6 w0 B a v0 v1 v2 A n c v4 v5 xs w) (hb : Below w.heap.size w w') (hBw : B ≤ w.heap.size) :
    Out6 w0 B a v0 v1 v2 A n c v4 v5 xs w' := by
  have hlt : a < w.heap.size := cell_lt h.c0
  exact ⟨h.le, (hb.cell (p := ⟨a, 0, none⟩) hlt).trans h.c0, (hb.cell (p := ⟨a, 1, none⟩) hlt).trans h.c1, (hb.cell (p := ⟨a, 2, none⟩) hlt).trans h.c2, (hb.cell (p := ⟨a, 3, none⟩) hlt).trans h.c3, (hb.cell (p := ⟨a, 4, none⟩) hlt).trans h.c4, (hb.cell (p := ⟨a, 5, none⟩) hlt).trans h.c5, (hb.frozen (p := ⟨a, 3, none⟩) hlt).trans h.f3, own_below h.own hb (Nat.le_refl _), h.far, h.bel.trans (hb.mono hBw)⟩

/-- Behind the append and the store of what it gave. -/
theorem Out6.appended {w0 w w' : World} {B a : Nat} {v0 v1 v2 v4 v5 : Value} {A A' : Option Addr} {n c n' c' : Nat} {xs ys : List Value} {o : Obj} (h : Out6 w0 B a v0 v1 v2 A n c v4 v5 xs w) (hBw : B ≤ w.heap.size)
    (hown : w'.ownsRow B 123 2 (.slice A' n' c') n' ys) (hg : (w.alloc o).grownBy w' (Value.slice A n c).ownBlock) (hat : (Value.slice A' n' c').ownBlock = (Value.slice A n c).ownBlock ∨ (Value.slice A' n' c').ownBlock = some (w.alloc o).heap.size) :
    (w'.cell? ⟨a, 3, none⟩ = some (.slice A n c) ∧ w'.frozen? ⟨a, 3, none⟩ = false) ∧ Out6 w0 B a v0 v1 v2 A' n' c' v4 v5 ys (w'.setCell ⟨a, 3, none⟩ (.slice A' n' c')) := by
  have hlt : a < w.heap.size := cell_lt h.c0
  have hne : ∀ j, some (⟨a, j, none⟩ : Addr).block ≠ (Value.slice A n c).ownBlock := fun j e => h.far e.symm
  have hc : ∀ j v, w.cell? ⟨a, j, none⟩ = some v → w'.cell? ⟨a, j, none⟩ = some v := fun j v hv => hg.cell ((World.cell?_alloc_some _ _ _ (by rw [hv]; rfl)).trans hv) (hne j)
  have hf : w'.frozen? ⟨a, 3, none⟩ = false := (World.frozen?_of_block (hg.block a (by simp; omega) (hne 3))).trans (((Below.refl w.heap.size w).alloc (Nat.le_refl _) o).frozen (p := ⟨a, 3, none⟩) hlt |>.trans h.f3)
  have hfar : (Value.slice A' n' c').ownBlock ≠ some a := fun e => by
    rcases hat with e1 | e1
    · exact h.far (e1.symm.trans e)
    · rw [e] at e1; simp at e1; omega
  have hb : Below B w0 w' := (h.bel.alloc hBw o).grown hg (by simp; omega) (fun g hgg => (h.own.lt g hgg).1)
  refine ⟨⟨hc 3 _ h.c3, hf⟩, h.le, ?_, ?_, ?_, ?_, ?_, ?_, ?_, ownsRow_setCell_other hown hfar _, hfar, hb.setCell h.le _⟩
  · exact (World.cell?_setCell_other _ _ _ _ (by simp)).trans (hc 0 _ h.c0)
  · exact (World.cell?_setCell_other _ _ _ _ (by simp)).trans (hc 1 _ h.c1)
  · exact (World.cell?_setCell_other _ _ _ _ (by simp)).trans (hc 2 _ h.c2)
  · exact World.cell?_setCell_same _ _ _ (hc 3 _ h.c3)
  · exact (World.cell?_setCell_other _ _ _ _ (by simp)).trans (hc 4 _ h.c4)
  · exact (World.cell?_setCell_other _ _ _ _ (by simp)).trans (hc 5 _ h.c5)
  · rw [World.frozen?_setCell]; exact hf

theorem ret6 {w w6 : World} {o1 o2 : Obj} {A : Option Addr} {n c : Nat} {xs : List Value} (hb : Below (w.heap.size + 2) ((w.alloc o1).alloc o2) w6) (hown : w6.ownsRow (w.heap.size + 2) 123 2 (.slice A n c) n xs) (v0 v1 v2 v3 v4 v5 : Value) :
    (set6 w6 (w.heap.size + 1) v0 v1 v2 v3 v4 v5).ownsRow (w.heap.size + 2) 123 2 (.slice A n c) n xs ∧ Below w.heap.size w (set6 w6 (w.heap.size + 1) v0 v1 v2 v3 v4 v5) := by
  unfold set6
  refine ⟨ownsRow_setCell_below (ownsRow_setCell_below (ownsRow_setCell_below (ownsRow_setCell_below (ownsRow_setCell_below (ownsRow_setCell_below hown (by simp) _) (by simp) _) (by simp) _) (by simp) _) (by simp) _) (by simp) _, ?_⟩
  have h0 : Below w.heap.size w w6 := (((Below.refl _ _).alloc (Nat.le_refl _) o1).alloc (by simp) o2).trans (hb.mono (by omega))
  exact (((((h0.setCell (by simp) _).setCell (by simp) _).setCell (by simp) _).setCell (by simp) _).setCell (by simp) _).setCell (by simp) _

theorem bsL_head {L : List UInt8} (h : 0 < (bsL L).size) : ((bsL L)[0]).toNat = (L.headD 0).toNat := by
  cases L with
  | nil => exact absurd h (Nat.lt_irrefl 0)
  | cons a l => rfl

theorem pairs_room {ps : List (Nat × Nat)} : ∀ u ∈ cellsP ps, u.oneCell' = true := cellsP_oneCell ps

set_option maxHeartbeats 8000000 in
theorem specL2After (k : Kn) (A : Option Addr) (c B x : Nat) (w : World) (h : k.Valid) (hA : k.At w B A) (hB : B ≤ w.heap.size) (hx : k.can x) :
    Calls Tryz.prog 170 #[k.val A c, .int .i64 (x : Int)] w fun e w' => ∃ A' c', e = .returned ((k.after x).val A' c') ∧ (k.after x).Own w' w.heap.size A' c' ∧ Below w.heap.size w w' := by
  have hps := h.room
  have hpw := h.pow
  have hrow := hA
  unfold Kn.At at hrow
  have hone := cellsP_oneCell k.ps
  obtain ⟨xs, hxs⟩ : ∃ xs, cellsP k.ps = xs := ⟨_, rfl⟩
  rw [hxs] at hrow hone
  have hnb : k.ps.length ≤ 1023 := by omega
  have HONE := Lib.hid hone
  have HY := fun (W : World) (hb : Below w.heap.size w W) => specL2Any k A c B x W h (hA.below hb hB) (Nat.le_trans hB hb.size) hx
  have hah := Kn.any_head h hx
  obtain ⟨y, hy⟩ : ∃ y, ((k.any x).headD 0).toNat = y := ⟨_, rfl⟩
  rw [hy] at hah
  have hyb : y < 256 := by omega
  obtain ⟨g, hg⟩ : ∃ g, decide k.grows = g := ⟨_, rfl⟩
  have HG := fun W => specL2Grows k A c g W h (by rw [← hg, decide_eq_true_eq])
  have hP : (g = true ∧ (k.after x).ps.length = k.ps.length + 1 ∧ (∀ (W : World) (C : Nat) (A' : Option Addr) (c' : Nat), W.ownsRow C 123 2 (.slice A' (k.ps.length + 1) c') (k.ps.length + 1) (xs ++ [.int .i64 k.lastI, .int .i64 (y : Int)]) → (k.after x).Own W C A' c') ∧
        (∀ A' c', (k.after x).val A' c' = .agg #[.int .i64 (k.o : Int), .int .i64 (k.l : Int), .int .i64 (k.m : Int), .slice A' (k.ps.length + 1) c', .int .i64 (k.base : Int), .int .i64 (x : Int)])) ∨
      (g = false ∧ (k.after x).ps.length = k.ps.length ∧ (∀ (W : World) (C : Nat) (A' : Option Addr) (c' : Nat), W.ownsRow C 123 2 (.slice A' k.ps.length c') k.ps.length xs → (k.after x).Own W C A' c') ∧
        (∀ A' c', (k.after x).val A' c' = .agg #[.int .i64 (k.o : Int), .int .i64 (k.l : Int), .int .i64 (k.m : Int), .slice A' k.ps.length c', .int .i64 (k.base : Int), .int .i64 (x : Int)])) := by
    by_cases hgr : k.grows
    · left
      obtain ⟨q0, hq0⟩ : ∃ q, k.last = some q := by
        have := hgr.1
        cases hl : k.last with
        | none => rw [hl] at this; cases this
        | some q => exact ⟨q, rfl⟩
      have hli : k.lastI = (q0 : Int) := Kn.lastI_nat hq0
      have ek : k.after x = { k with ps := k.ps ++ [(q0, y)], last := some x } := by
        unfold Kn.after
        rw [if_pos hgr, hq0, hy]
        rfl
      have hcl : (k.after x).ps.length = k.ps.length + 1 := by rw [ek]; simp
      refine ⟨by rw [← hg]; exact decide_eq_true hgr, hcl, fun W C A' c' hr => ?_, fun A' c' => ?_⟩
      · unfold Kn.Own
        rw [hcl, ek]
        show W.ownsRow C _ 2 _ _ (cellsP (k.ps ++ [(q0, y)]))
        rw [cellsP_append, hxs, cellsP_one]
        rw [hli] at hr
        exact hr
      · unfold Kn.val; rw [hcl, ek]; rfl
    · right
      have ek : k.after x = { k with last := some x } := by
        unfold Kn.after
        rw [if_neg hgr]
      have hcl : (k.after x).ps.length = k.ps.length := by rw [ek]
      refine ⟨by rw [← hg]; exact decide_eq_false hgr, hcl, fun W C A' c' hr => ?_, fun A' c' => ?_⟩
      · unfold Kn.Own
        rw [hcl, ek]
        show W.ownsRow C _ 2 _ _ (cellsP k.ps)
        rw [hxs]
        exact hr
      · unfold Kn.val; rw [hcl, ek]; rfl
  obtain ⟨T, hT⟩ : ∃ T, bsL (k.any x) = T := ⟨_, rfl⟩
  have hT1 : 0 < T.size := by rw [← hT]; exact List.length_pos_iff.2 hah.2
  have hT0 : T[0].toNat = y := by
    subst hT
    exact (bsL_head hT1).trans hy
  rw [hT] at HY
  obtain ⟨D, hD⟩ : ∃ D, k.after x = D := ⟨_, rfl⟩
  rw [hD] at hP ⊢
  obtain ⟨V, hV⟩ : ∃ V : Option Addr → Nat → Value, D.val = V := ⟨_, rfl⟩
  rw [hV] at hP ⊢
  simp only [Kn.val] at HY HG
  obtain ⟨n, hn⟩ : ∃ x, k.ps.length = x := ⟨_, rfl⟩
  obtain ⟨o, ho⟩ : ∃ x, k.o = x := ⟨_, rfl⟩
  obtain ⟨l, hl'⟩ : ∃ x, k.l = x := ⟨_, rfl⟩
  obtain ⟨m, hm⟩ : ∃ x, k.m = x := ⟨_, rfl⟩
  obtain ⟨b, hb⟩ : ∃ x, k.base = x := ⟨_, rfl⟩
  obtain ⟨q, hq⟩ : ∃ x, k.lastI = x := ⟨_, rfl⟩
  try unfold Kn.val at HY
  try rw [hn] at HY
  try rw [ho] at HY
  try rw [hl'] at HY
  try rw [hm] at HY
  try rw [hb] at HY
  try rw [hq] at HY
  try unfold Kn.val at HG
  try rw [hn] at HG
  try rw [ho] at HG
  try rw [hl'] at HG
  try rw [hm] at HG
  try rw [hb] at HG
  try rw [hq] at HG
  try unfold Kn.val at hP
  try rw [hn] at hP
  try rw [ho] at hP
  try rw [hl'] at hP
  try rw [hm] at hP
  try rw [hb] at hP
  try rw [hq] at hP
  simp only [Kn.val, hn, ho, hl', hm, hb, hq]
  rw [hn] at hrow hnb
  replace HY := Lib.hid HY
  replace HG := Lib.hid HG
  replace hrow := Lib.hid hrow
  replace hP := Lib.hid hP
  have wy : IntKind.i64.wrap (y : Int) = y := IntWalk.i64_in _ (by omega)
  have t0 : (0 : Int) < T.size := by omega
  clear hps hpw hxs hone hD hV h hA hn ho hl' hm hb hq hx hah hg hy hT
  go_enter Tryz.func170, Tryz.ntmps170
  go_upto_region 1 with (fail)
  go_cut [5, 11] (fun u v wx => ∃ a A' c', u = .pointer (some ⟨a, 0, none⟩) ∧ v = .slice A' n c' ∧ Out6 ((w.alloc (.cells #[.int .i64 (o : Int), .int .i64 (l : Int), .int .i64 (m : Int), .slice A n c, .int .i64 (b : Int), .int .i64 q] 48)).alloc (.cells #[.int .i64 0, .int .i64 0, .int .i64 0, .slice none 0 0, .int .i64 0, .int .i64 0] 48)) (w.heap.size + 2) a (.int .i64 (o : Int)) (.int .i64 (l : Int)) (.int .i64 (m : Int)) A' n c' (.int .i64 (b : Int)) (.int .i64 (x : Int)) xs wx)
  case first =>
    go_region_held3 (fun w' => w'.cell? ⟨w.heap.size, 0, none⟩ = some (.int .i64 (o : Int)) ∧ w'.cell? ⟨w.heap.size, 1, none⟩ = some (.int .i64 (l : Int)) ∧ w'.cell? ⟨w.heap.size, 2, none⟩ = some (.int .i64 (m : Int)) ∧ w'.cell? ⟨w.heap.size, 3, none⟩ = some (.slice A n c) ∧ w'.cell? ⟨w.heap.size, 4, none⟩ = some (.int .i64 (b : Int)) ∧ w'.cell? ⟨w.heap.size, 5, none⟩ = some (.int .i64 q) ∧ Below (w.heap.size + 1) (w.alloc (.cells #[.int .i64 (o : Int), .int .i64 (l : Int), .int .i64 (m : Int), .slice A n c, .int .i64 (b : Int), .int .i64 q] 48)) w') (first | with_reducible exact box6 HB3.out | with_reducible exact box6 (HB3.out.alloc (Nat.le_of_succ_le HZ3.out) _) | with_reducible exact box6 ((((((HB3.out.setCell (by simp) _).setCell (by simp) _).setCell (by simp) _).setCell (by simp) _).setCell (by simp) _).setCell (by simp) _) | with_reducible exact box6 (((((((HB3.out.alloc (Nat.le_of_succ_le HZ3.out) _).setCell (by have := HZ3.out; simp; omega) _).setCell (by have := HZ3.out; simp; omega) _).setCell (by have := HZ3.out; simp; omega) _).setCell (by have := HZ3.out; simp; omega) _).setCell (by have := HZ3.out; simp; omega) _).setCell (by have := HZ3.out; simp; omega) _) | with_reducible exact box6 (by repeat (first | with_reducible exact Below.refl _ _ | with_reducible refine Below.drew ?_ | (with_reducible refine Below.alloc ?_ ?_ _; rotate_left; (simp <;> omega))))) (first | (refine step_append_row _ elemPair (by rfl) (.tmp 8) (.tmp 10) (by rfl) (w.heap.size + 2) _ _ _ (by rfl) (by first | exact own_empty _ (w.heap.size + 2) (by simp) (w.heap.size + 2) (Nat.le_refl _) _ _ | exact own_empty _ (w.heap.size + 3) (by simp) (w.heap.size + 2) (by omega) _ _ | exact (own_empty _ (w.heap.size + 2) (by simp) (w.heap.size + 2) (by omega) _ _).alloc _) B A n c xs (by rfl) (hrow.out.below (C := w.heap.size) (by repeat (first | with_reducible exact Below.refl _ _ | with_reducible refine Below.drew ?_ | (with_reducible refine Below.alloc ?_ ?_ _; rotate_left; (simp <;> omega)))) hB) HONE.out (by unfold maxLen; omega) (by omega) (by simp) ?_; intro v2 w2 hv2 hg2 hat2; rw [Nat.zero_add, List.nil_append] at hv2; obtain ⟨A2, c2, rfl, hc2, _⟩ := own_form hv2; have hgr := hg2; (first | (replace hgr : World.grownBy _ w2 (some (w.heap.size + 2)) := hg2) | (replace hgr : World.grownBy _ w2 (some (w.heap.size + 3)) := hg2)); have HB3 : Hid (Below (w.heap.size + 1) (w.alloc (.cells #[.int .i64 (o : Int), .int .i64 (l : Int), .int .i64 (m : Int), .slice A n c, .int .i64 (b : Int), .int .i64 q] 48)) w2) := Lib.hid (Below.grown (by repeat (first | with_reducible exact Below.refl _ _ | with_reducible refine Below.drew ?_ | (with_reducible refine Below.alloc ?_ ?_ _; rotate_left; (simp <;> omega)))) hgr (by simp <;> omega) (fun g hg => by injection hg; omega)); have HW2 : Hid (Below (w.heap.size + 2) ((w.alloc (.cells #[.int .i64 (o : Int), .int .i64 (l : Int), .int .i64 (m : Int), .slice A n c, .int .i64 (b : Int), .int .i64 q] 48)).alloc (.cells #[.int .i64 0, .int .i64 0, .int .i64 0, .slice none 0 0, .int .i64 0, .int .i64 0] 48)) w2) := Lib.hid (Below.grown (by repeat (first | with_reducible exact Below.refl _ _ | with_reducible refine Below.drew ?_ | (with_reducible refine Below.alloc ?_ ?_ _; rotate_left; (simp <;> omega)))) hgr (by simp <;> omega) (fun g hg => by injection hg; omega)); have HZ3 : Hid (w.heap.size + 2 ≤ w2.heap.size) := Lib.hid (by have := HW2.out.size; simp only [World.size_alloc] at this; omega); (first | (have g2 := two6 (w := w) (w0 := (w.alloc (.cells #[.int .i64 (o : Int), .int .i64 (l : Int), .int .i64 (m : Int), .slice A n c, .int .i64 (b : Int), .int .i64 q] 48)).alloc (.cells #[.int .i64 0, .int .i64 0, .int .i64 0, .slice none 0 0, .int .i64 0, .int .i64 0] 48)) (H := w.heap.size + 2) (a := .int .i64 0) (b := .int .i64 0) (c := .int .i64 0) (d := .slice none 0 0) (e := .int .i64 0) (f := .int .i64 0) (T := 48) (by simp) (Below.drew (Below.alloc (Below.refl _ _) (by simp) (.cells #[] 123))); have g6 := grown6 (H := w.heap.size + 2) hgr g2.1 g2.2 (by simp); obtain ⟨⟨r0, r1, r2, r3, r4, r5⟩, z0, z1, z2, z3, z4, z5⟩ := g6) | (have g2 := two6 (w := w) (w0 := ((w.alloc (.cells #[.int .i64 (o : Int), .int .i64 (l : Int), .int .i64 (m : Int), .slice A n c, .int .i64 (b : Int), .int .i64 q] 48)).alloc (.cells #[.int .i64 0, .int .i64 0, .int .i64 0, .slice none 0 0, .int .i64 0, .int .i64 0] 48)).alloc (.cells #[] 123)) (H := w.heap.size + 3) (a := .int .i64 0) (b := .int .i64 0) (c := .int .i64 0) (d := .slice none 0 0) (e := .int .i64 0) (f := .int .i64 0) (T := 48) (by simp) (Below.drew (Below.refl _ _)); have g6 := grown6 (H := w.heap.size + 3) hgr g2.1 g2.2 (by simp); obtain ⟨⟨r0, r1, r2, r3, r4, r5⟩, z0, z1, z2, z3, z4, z5⟩ := g6) | skip); have HV2 := Lib.hid hv2; have HAT2 := Lib.hid hat2; have HC2 := Lib.hid hc2; clear hv2 hg2 hgr hat2 hc2))
    all_goals
      have hat2 := HAT2.out
    all_goals (go_wp2_with fail)
    all_goals go_meet
    · exact ⟨_, A2, c2, rfl, rfl, Out6.of_alloc HZ3.out HV2.out HW2.out⟩
    · exact ⟨_, A2, c2, rfl, rfl, Out6.of_set ⟨r0, r1, r2, r3, r4, r5⟩ z3 (by omega) HV2.out (fun e => by
        rw [e] at hat2
        rcases hat2 with e2 | e2
        · have e3 : some (w.heap.size + 3) = some (w.heap.size + 2) := e2
          simp at e3
        · simp at e2) HW2.out⟩
    · exact ⟨_, A2, c2, rfl, rfl, Out6.of_set ⟨r0, r1, r2, r3, r4, r5⟩ z3 (by omega) HV2.out (fun e => by
        rw [e] at hat2
        rcases hat2 with e2 | e2
        · have e3 : some (w.heap.size + 2) = some (w.heap.size + 3) := e2
          simp at e3
        · simp at e2) HW2.out⟩
  case rest =>
    obtain ⟨a, A1, c1, rfl, rfl, hout⟩ := hcut
    have hsz := hout.bel.size
    simp only [World.size_alloc] at hsz
    obtain ⟨q0, q1, q2, q3, q4, q5, hB1⟩ := box6 (((Below.refl _ _).alloc (by simp) _).trans (hout.bel.mono (by omega)))
    go_wp2_with fail
    refine (HG.out _).mono ?_
    rintro e w1 ⟨rfl, hb1⟩
    have hout1 := hout.below hb1 (by omega)
    have hsz1 := hb1.size
    clear q0 q1 q2 q3 q4 q5 hB1 hout
    rcases hP.out with ⟨rfl, hcl, hat, hv⟩ | ⟨rfl, hcl, hat, hv⟩
    · have HO1 := Lib.hid hout1
      have HB1 : Hid (Below (w.heap.size + 1) (w.alloc (.cells #[.int .i64 (o : Int), .int .i64 (l : Int), .int .i64 (m : Int), .slice A n c, .int .i64 (b : Int), .int .i64 q] 48)) w1) := Lib.hid (((Below.refl _ _).alloc (by simp) _).trans (hout1.bel.mono (by omega)))
      obtain ⟨q0, q1, q2, q3, q4, q5, _⟩ := box6 HB1.out
      have d3 := hout1.c3
      have HW1 : Hid (Below w.heap.size w w1.drew) := Lib.hid (((Below.refl _ _).alloc (Nat.le_refl _) _).trans (HB1.out.mono (by omega))).drew
      have HS1 : Hid (w.heap.size + 2 ≤ w1.heap.size) := Lib.hid (by omega)
      replace hat := Lib.hid hat
      replace hv := Lib.hid hv
      replace hcl := Lib.hid hcl
      clear hout1 hb1 hP
      go_upto_region 3 with (fail)
      go_cut [5] (fun u wx => ∃ A5 c5, u = .pointer (some ⟨a, 0, none⟩) ∧ Out6 ((w.alloc (.cells #[.int .i64 (o : Int), .int .i64 (l : Int), .int .i64 (m : Int), .slice A n c, .int .i64 (b : Int), .int .i64 q] 48)).alloc (.cells #[.int .i64 0, .int .i64 0, .int .i64 0, .slice none 0 0, .int .i64 0, .int .i64 0] 48)) (w.heap.size + 2) a (.int .i64 (o : Int)) (.int .i64 (l : Int)) (.int .i64 (m : Int)) A5 (n + 1) c5 (.int .i64 (b : Int)) (.int .i64 (x : Int)) (xs ++ [.int .i64 q, .int .i64 (y : Int)]) wx)
      case first =>
        go_region_law (first | (go_simp; go_at_call 179; refine (HY.out _ HW1.out).mono ?_; rintro e w2 ⟨rfl, hb2⟩; have HO2 := Lib.hid (HO1.out.below ((Below.refl _ w1).drew.trans hb2) HS1.out); have HS2 : Hid (w.heap.size + 2 ≤ w2.heap.size) := Lib.hid (Nat.le_trans HS1.out hb2.size); have hB2 : Below (w.heap.size + 1) (w.alloc (.cells #[.int .i64 (o : Int), .int .i64 (l : Int), .int .i64 (m : Int), .slice A n c, .int .i64 (b : Int), .int .i64 q] 48)) w2 := (((Below.refl _ _).alloc (by simp) _).trans (HO2.out.bel.mono (by omega))); have hx2 := box6 hB2; obtain ⟨p0, p1, p2, p3, p4, p5, _⟩ := hx2; have d3b := HO2.out.c3; have n3 : ∀ o, (w2.alloc o).cell? ⟨a, 3, none⟩ = some (.slice A1 n c1) := fun o => (World.cell?_alloc_some _ _ _ (by rw [d3b]; rfl)).trans d3b; clear hb2 hB2) | (refine step_append_row _ elemPair (by rfl) (.tmp 19) (.tmp 28) (by rfl) (w.heap.size + 2) _ _ _ (by rfl) (HO2.out.own.alloc _) _ _ 1 1 [_, _] (by rfl) (Row.newAt _ _ rfl _ [_, _] 1 2 rfl) (by intro u hu; simp at hu; rcases hu with rfl | rfl <;> rfl) (by unfold maxLen; omega) (by omega) (Nat.le_trans HS2.out (by simp)) ?_; intro v5 w5 hv5 hg5 hat5; obtain ⟨A5, c5, rfl, hc5, _⟩ := own_form hv5; have hap := HO2.out.appended HS2.out hv5 hg5 hat5; obtain ⟨⟨s3, s4⟩, hap2⟩ := hap; replace hap2 := Lib.hid hap2; clear hv5 hg5 hat5 hc5))
        all_goals (go_wp2_with fail)
        all_goals go_meet
        all_goals exact ⟨_, _, rfl, hap2.out⟩
      case rest =>
        obtain ⟨A5, c5, rfl, hout1⟩ := hcut
        obtain ⟨c0, c1', c2', c3, c4, c5'⟩ := And.intro hout1.c0 (And.intro hout1.c1 (And.intro hout1.c2 (And.intro hout1.c3 (And.intro hout1.c4 hout1.c5))))
        have hb := hout1.bel
        have hown := hout1.own
        obtain ⟨⟨r0, r1, r2, r3, r4, r5⟩, z0, z1, z2, z3, z4, z5⟩ := two6 (w := w) (by simp) hb
        have hr := ret6 hb hown (.int .i64 (o : Int)) (.int .i64 (l : Int)) (.int .i64 (m : Int)) (.slice A5 (n + 1) c5) (.int .i64 (b : Int)) (.int .i64 (x : Int))
        replace hr := Lib.hid hr
        clear hout1 hb hown d3 q0 q1 q2 q3 q4 q5
        go_wp2_with fail
        refine bodyPost_ret (v := .agg #[.int .i64 (o : Int), .int .i64 (l : Int), .int .i64 (m : Int), .slice A5 (n + 1) c5, .int .i64 (b : Int), .int .i64 (x : Int)]) (by simp [results, Tryz.results170, go_sem, r0, r1, r2, r3, r4, r5]) rfl ?_
        exact ⟨A5, c5, congrArg Ending.returned (hv.out A5 c5).symm, hat.out _ _ _ _ (own_base hr.out.1 (by omega)), hr.out.2⟩
    · obtain ⟨c0, c1', c2', c3, c4, c5⟩ := And.intro hout1.c0 (And.intro hout1.c1 (And.intro hout1.c2 (And.intro hout1.c3 (And.intro hout1.c4 hout1.c5))))
      have hb := hout1.bel
      have hown := hout1.own
      obtain ⟨⟨r0, r1, r2, r3, r4, r5⟩, z0, z1, z2, z3, z4, z5⟩ := two6 (w := w) (by simp) hb
      have hr := ret6 hb hown (.int .i64 (o : Int)) (.int .i64 (l : Int)) (.int .i64 (m : Int)) (.slice A1 n c1) (.int .i64 (b : Int)) (.int .i64 (x : Int))
      replace hr := Lib.hid hr
      replace hat := Lib.hid hat
      replace hv := Lib.hid hv
      replace hcl := Lib.hid hcl
      clear hout1 hb hown hb1 hP
      go_wp2_with fail
      refine bodyPost_ret (v := .agg #[.int .i64 (o : Int), .int .i64 (l : Int), .int .i64 (m : Int), .slice A1 n c1, .int .i64 (b : Int), .int .i64 (x : Int)]) (by simp [results, Tryz.results170, go_sem, r0, r1, r2, r3, r4, r5]) rfl ?_
      exact ⟨A1, c1, congrArg Ending.returned (hv.out A1 c1).symm, hat.out _ _ _ _ (own_base hr.out.1 (by omega)), hr.out.2⟩

end Go.Proofs.YthlgpgaeajfchaaGreatDoor
