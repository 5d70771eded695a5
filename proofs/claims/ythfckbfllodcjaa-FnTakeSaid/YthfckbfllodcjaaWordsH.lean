/-
  What is known lies apart from other memory; a box that holds what is known; the reference's l2Greedy.
-/
import Derived.Test.YthfckbfllodcjaaWordsG
namespace Go.Proofs.Ythfckbfllodcjaa
open Go.RowKit
set_option linter.unusedVariables false

/-- What is known lies in memory, neither in block H nor in the row of the value v. -/
structure Kn.Lies (k : Kn) (w : World) (A : Option Addr) (H : Nat) (v : Value) : Prop where
  row : k.At w w.heap.size A
  ne : 0 < k.ps.length → ∀ b off, A = some ⟨b, off, none⟩ → b ≠ H ∧ v.ownBlock ≠ some b

theorem Kn.Lies.below {k : Kn} {w w' : World} {A : Option Addr} {H : Nat} {v : Value} (h : k.Lies w A H v) (hb : Below w.heap.size w w') : k.Lies w' A H v :=
  ⟨(Row.below h.row hb (Nat.le_refl _)).more hb.size, h.ne⟩

theorem Kn.Lies.setH {k : Kn} {w : World} {A : Option Addr} {H : Nat} {v : Value} (h : k.Lies w A H v) {p : Addr} (hp : p.block = H) (u : Value) : k.Lies (w.setCell p u) A H v := by
  refine ⟨⟨h.row.1, fun hn => ?_⟩, h.ne⟩
  obtain ⟨b, off, e, hb, hc⟩ := h.row.2 hn
  refine ⟨b, off, e, by simpa [World.setCell] using hb, fun j x hx => ?_⟩
  have := (h.ne hn b off e).1
  exact (World.cell?_setCell_other _ _ _ _ (fun e2 => by subst e2; exact this hp)).trans (hc j x hx)

theorem Kn.Lies.alloc {k : Kn} {w : World} {A : Option Addr} {H : Nat} {v : Value} (h : k.Lies w A H v) (o : Obj) : k.Lies (w.alloc o) A H v :=
  h.below ((Below.refl _ _).alloc (Nat.le_refl _) o)

/-- Behind an append onto the row of the value v. -/
theorem Kn.Lies.grown {k : Kn} {w w' : World} {A : Option Addr} {H : Nat} {v v' : Value} (h : k.Lies w A H v) (hg : w.grownBy w' v.ownBlock) (hat : v'.ownBlock = v.ownBlock ∨ v'.ownBlock = some w.heap.size) : k.Lies w' A H v' := by
  refine ⟨⟨h.row.1, fun hn => ?_⟩, fun hn b off e => ?_⟩
  · obtain ⟨b, off, e, hb, hc⟩ := h.row.2 hn
    refine ⟨b, off, e, Nat.lt_of_lt_of_le hb hg.size, fun j x hx => hg.cell (hc j x hx) (fun e2 => (h.ne hn b off e).2 e2.symm)⟩
  · obtain ⟨b', off', e', hb', _⟩ := h.row.2 hn
    rw [e] at e'
    injection e' with e'
    injection e' with e1 e2
    subst e1
    refine ⟨(h.ne hn b off e).1, fun e3 => ?_⟩
    rcases hat with e4 | e4
    · exact (h.ne hn b off e).2 (e4.symm.trans e3)
    · rw [e3] at e4; injection e4 with e4; omega

/-- Behind an append onto the row of another value. -/
theorem Kn.Lies.grownO {k : Kn} {w w' : World} {A : Option Addr} {H : Nat} {v v2 : Value} (h : k.Lies w A H v) (hg : w.grownBy w' v.ownBlock) (h2 : k.Lies w A H v2) : k.Lies w' A H v2 := by
  refine ⟨⟨h.row.1, fun hn => ?_⟩, h2.ne⟩
  obtain ⟨b, off, e, hb, hc⟩ := h.row.2 hn
  exact ⟨b, off, e, Nat.lt_of_lt_of_le hb hg.size, fun j x hx => hg.cell (hc j x hx) (fun e2 => (h.ne hn b off e).2 e2.symm)⟩

theorem Kn.Lies.of_own {k : Kn} {w : World} {base : Nat} {A : Option Addr} {c H : Nat} {v : Value} (h : k.Own w base A c) (hH : H < base) (hv : ∀ g, v.ownBlock = some g → g < base) : k.Lies w A H v := by
  refine ⟨h.at, fun hn b off e => ?_⟩
  subst e
  obtain ⟨A', c', e, _, _⟩ := own_form h
  have hl : base ≤ b := by
    rcases h.2 with ⟨h0, h1⟩ | ⟨g, cap, cur, hv, hb, hg, _⟩
    · omega
    · injection hv with e1 e2 e3
      injection e1 with e1
      injection e1 with e1
      omega
  exact ⟨by omega, fun e3 => by have := hv _ e3; omega⟩

theorem Kn.Lies.of_at {k : Kn} {w : World} {A : Option Addr} {B H : Nat} {v : Value} (h : k.At w B A) (hB : B ≤ w.heap.size) (hH : B ≤ H) (hv : ∀ g, v.ownBlock = some g → B ≤ g) : k.Lies w A H v := by
  refine ⟨Row.more h hB, fun hn b off e => ?_⟩
  obtain ⟨b', off', e', hb', _⟩ := h.2 hn
  rw [e] at e'
  injection e' with e'
  injection e' with e1 e2
  subst e1
  exact ⟨by omega, fun e3 => by have := hv _ e3; omega⟩

theorem Kn.Lies.other {k : Kn} {w : World} {A : Option Addr} {H : Nat} {v v2 : Value} (h : k.Lies w A H v) (hv : ∀ g, v2.ownBlock = some g → w.heap.size ≤ g) : k.Lies w A H v2 := by
  refine ⟨h.row, fun hn b off e => ⟨(h.ne hn b off e).1, fun e3 => ?_⟩⟩
  obtain ⟨b', off', e', hb', _⟩ := h.row.2 hn
  rw [e] at e'
  injection e' with e'
  injection e' with e1 e2
  subst e1
  have := hv _ e3
  omega

/-- A box of six cells that can be written. -/
structure KB (w : World) (H : Nat) (a b c d e f : Value) : Prop where
  c : w.cell? ⟨H, 0, none⟩ = some a ∧ w.cell? ⟨H, 1, none⟩ = some b ∧ w.cell? ⟨H, 2, none⟩ = some c ∧ w.cell? ⟨H, 3, none⟩ = some d ∧ w.cell? ⟨H, 4, none⟩ = some e ∧ w.cell? ⟨H, 5, none⟩ = some f
  f : w.frozen? ⟨H, 0, none⟩ = false ∧ w.frozen? ⟨H, 1, none⟩ = false ∧ w.frozen? ⟨H, 2, none⟩ = false ∧ w.frozen? ⟨H, 3, none⟩ = false ∧ w.frozen? ⟨H, 4, none⟩ = false ∧ w.frozen? ⟨H, 5, none⟩ = false

section
variable {w w' : World} {H : Nat} {a b c d e f : Value}

theorem KB.start (w : World) (T : TypeId) (a b c d e f : Value) : KB (w.alloc (.cells #[a, b, c, d, e, f] T)) w.heap.size a b c d e f :=
  let g := two6 (w := w) (w0 := w) (T := T) rfl (Below.refl _ _)
  ⟨g.1, g.2⟩

theorem KB.lt (h : KB w H a b c d e f) : H < w.heap.size := cell_lt h.c.1

theorem KB.below (h : KB w H a b c d e f) (hb : Below w.heap.size w w') : KB w' H a b c d e f := by
  have hlt := h.lt
  obtain ⟨⟨c0, c1, c2, c3, c4, c5⟩, f0, f1, f2, f3, f4, f5⟩ := h
  have hc : ∀ j, w'.cell? ⟨H, j, none⟩ = w.cell? ⟨H, j, none⟩ := fun j => hb.cell (p := ⟨H, j, none⟩) hlt
  have hf : ∀ j, w'.frozen? ⟨H, j, none⟩ = w.frozen? ⟨H, j, none⟩ := fun j => hb.frozen (p := ⟨H, j, none⟩) hlt
  exact ⟨⟨(hc 0).trans c0, (hc 1).trans c1, (hc 2).trans c2, (hc 3).trans c3, (hc 4).trans c4, (hc 5).trans c5⟩, (hf 0).trans f0, (hf 1).trans f1, (hf 2).trans f2, (hf 3).trans f3, (hf 4).trans f4, (hf 5).trans f5⟩

theorem KB.alloc (h : KB w H a b c d e f) (o : Obj) : KB (w.alloc o) H a b c d e f := h.below ((Below.refl _ _).alloc (Nat.le_refl _) o)

theorem KB.grown {row : Option Nat} (h : KB w H a b c d e f) (hg : w.grownBy w' row) (hne : row ≠ some H) : KB w' H a b c d e f := by
  have g := grown6 hg h.c h.f hne
  exact ⟨g.1, g.2⟩

theorem KB.set (h : KB w H a b c d e f) (a' b' c' d' e' f' : Value) : KB (set6 w H a' b' c' d' e' f') H a' b' c' d' e' f' := by
  obtain ⟨⟨c0, c1, c2, c3, c4, c5⟩, f0, f1, f2, f3, f4, f5⟩ := h
  unfold set6
  refine ⟨⟨?_, ?_, ?_, ?_, ?_, ?_⟩, ?_, ?_, ?_, ?_, ?_, ?_⟩
  · simp [go_sem, c0]
  · simp [go_sem, c1]
  · simp [go_sem, c2]
  · simp [go_sem, c3]
  · simp [go_sem, c4]
  · simp [go_sem, c5]
  · simp [World.frozen?_setCell, f0]
  · simp [World.frozen?_setCell, f1]
  · simp [World.frozen?_setCell, f2]
  · simp [World.frozen?_setCell, f3]
  · simp [World.frozen?_setCell, f4]
  · simp [World.frozen?_setCell, f5]

theorem own_set6 {base : Nat} {t : TypeId} {size n : Nat} {v : Value} {xs : List Value} (h : w.ownsRow base t size v n xs) (hH : H < base) (a b c d e f : Value) : (set6 w H a b c d e f).ownsRow base t size v n xs := by
  unfold set6
  exact ownsRow_setCell_below (ownsRow_setCell_below (ownsRow_setCell_below (ownsRow_setCell_below (ownsRow_setCell_below (ownsRow_setCell_below h hH _) hH _) hH _) hH _) hH _) hH _

theorem lies_set6 {k : Kn} {A : Option Addr} {v : Value} (h : k.Lies w A H v) (a b c d e f : Value) : k.Lies (set6 w H a b c d e f) A H v := by
  unfold set6
  exact (((((h.setH rfl _).setH rfl _).setH rfl _).setH rfl _).setH rfl _).setH rfl _

theorem below_set6 {B : Nat} {w0 : World} (h : Below B w0 w) (hH : B ≤ H) (a b c d e f : Value) : Below B w0 (set6 w H a b c d e f) := by
  unfold set6
  exact (((((h.setCell hH _).setCell hH _).setCell hH _).setCell hH _).setCell hH _).setCell hH _

theorem size_set6 (a b c d e f : Value) : (set6 w H a b c d e f).heap.size = w.heap.size := by
  unfold set6
  simp [World.setCell]

end

/-- Codes as numbers. -/
def natV (x : Nat) : Value := .int .i64 (x : Int)

/-- The size of a string value. -/
def szOf : Value → Nat
  | .string s => s.size
  | _ => 0

end Go.Proofs.Ythfckbfllodcjaa
