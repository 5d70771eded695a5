/-
  Slices of integers of the call's own; the law's own helpers for them: eqIntS, markIntS, heldIntS; a world in which one block alone has turned.
-/
import Derived.Test.YthfckbfllodcjaaMem
namespace Go.Proofs.Ythfckbfllodcjaa
open Go.RowKit
set_option linter.unusedVariables false

theorem Row.newAt (w : World) (H : Nat) (hH : w.heap.size = H) (e : TypeId) (cs : List Value) (n size : Nat) (h : cs.length = n * size) : Row (w.alloc (.cells cs.toArray e)) (H + 1) size (some ⟨H, 0, none⟩) n cs := by
  subst hH; exact Row.new w e cs n size h

/-- An empty slice that is not nil. -/
theorem own_empty (w : World) (H : Nat) (hH : w.heap.size = H) (base : Nat) (hb : base ≤ H) (e : TypeId) (size : Nat) : (w.alloc (.cells #[] e)).ownsRow base e size (.slice (some ⟨H, 0, none⟩) 0 0) 0 [] := by
  subst hH
  exact World.ownsRow_lit (size := size) (e := e) w #[] 0 hb (Nat.zero_le _) (by simp)

/-- An empty slice with a capacity. -/
theorem own_made (w : World) (cs : Array Value) (c base size : Nat) (e : TypeId) (hb : base ≤ w.heap.size) (hm : c ≤ maxLen) (hs : cs.size = c * size) : (w.alloc (.cells cs e)).ownsRow base e size (.slice (some ⟨w.heap.size, 0, none⟩) 0 c) 0 [] :=
  ⟨by simp, .inr ⟨w.heap.size, c, cs, rfl, hb, heap_alloc_new w _, Nat.zero_le _, hm, hs, by simp⟩⟩

/-- What make leaves: elements of several cells. -/
theorem run_make_rowN {P : Program} (t e : TypeId) (i : TypeInfo) (z : Value) (ht : P.underlying t = some (.slice e)) (hi : P.info? e = some i) (hz : i.zero = some z)
    (kl kc : IntKind) (n c : Nat) (hnc : n ≤ c) (hbytes : i.bytes * c ≤ 281474976710656) (h63 : c ≤ 9223372036854775807) (w : World) :
    (Instr.makeSlice t (.int kl (n : Int)) (.int kc (c : Int))).run P w = .ok (.slice (some ⟨w.heap.size, 0, none⟩) n c) (w.alloc (.cells (madeCells z.cells (c * i.size)) e)) := by
  have hb : (i.bytes : Int) * (c : Int) ≤ 281474976710656 := by
    have h : ((i.bytes * c : Nat) : Int) ≤ 281474976710656 := by omega
    rwa [Int.natCast_mul] at h
  have hr := run_make (P := P) w t e i z ht hi hz kl kc n c (by omega) (by omega) hb (by omega)
  simp only [Int.toNat_natCast] at hr
  exact hr

theorem infoByte : (Try.prog.info? 5).map (fun i => (i.zero, i.size, i.bytes)) = some (some (.int .u8 0), 1, 1) := by kernel_rfl

theorem elemByte : Elem Try.prog 22 5 (.int .u8 0) 1 1 := ⟨Try.underlying22, infoByte, rfl, by decide⟩

/-- An integer as a value. -/
abbrev intV (z : Int) : Value := .int .i64 z

theorem infoInt : (Try.prog.info? 3).map (fun i => (i.zero, i.size, i.bytes)) = some (some (.int .i64 0), 1, 8) := by kernel_rfl

theorem elemInt : Elem Try.prog 76 3 (.int .i64 0) 1 8 := ⟨Try.underlying76, infoInt, rfl, by decide⟩

theorem ints_oneCell (zs : List Int) : ∀ u ∈ zs.map intV, u.oneCell' = true := by
  intro u hu
  obtain ⟨s, _, rfl⟩ := List.mem_map.1 hu
  rfl

theorem only_setCell {a w : World} {g : Nat} (h : a.grownBy w (some g)) {p : Addr} (hp : p.block = g) (u : Value) : a.grownBy (w.setCell p u) (some g) :=
  ⟨h.os, h.tape, h.output, by simpa [World.setCell] using h.size, fun i hi hne => (Below.heap_setCell w p u i (by
    rintro rfl
    exact hne (by rw [hp]))).trans (h.block i hi hne)⟩

theorem only_below {a w w' : World} {row : Option Nat} (h : a.grownBy w row) (hb : Below w.heap.size w w') : a.grownBy w' row :=
  ⟨hb.os.trans h.os, hb.tape.trans h.tape, hb.output.trans h.output, Nat.le_trans h.size hb.size, fun i hi hn => (hb.block i (Nat.lt_of_lt_of_le hi h.size)).trans (h.block i hi hn)⟩

theorem only_drawn {a w w' : World} {row : Option Nat} (h : a.grownBy w row) (hd : Drawn w w') : a.grownBy w' row := only_below h (hd.below _)

/-- What is above a block is nothing that one keeps below it. -/
theorem Below.only {B : Nat} {a w w' : World} {row : Option Nat} (h : Below B a w) (hg : w.grownBy w' row) (hB : B ≤ w.heap.size) (hr : ∀ g, row = some g → B ≤ g) : Below B a w' := h.grown hg hB hr

/-- The place of a slice that is owned and not empty. -/
theorem own_addr {w : World} {base size : Nat} {e : TypeId} {A : Option Addr} {n c : Nat} {xs : List Value} (h : w.ownsRow base e size (.slice A n c) n xs) (hn : 0 < n) :
    ∃ g, A = some ⟨g, 0, none⟩ ∧ base ≤ g ∧ g < w.heap.size := by
  rcases h.2 with ⟨h0, h1⟩ | ⟨g, cap, cur, hv, hb, hg, _⟩
  · omega
  · simp only [Value.slice.injEq] at hv
    obtain ⟨rfl, _, rfl⟩ := hv
    exact ⟨g, rfl, hb, (Array.getElem?_eq_some_iff.1 hg).1⟩

/-- Marks: numbers from k on. -/
def marks (k : Int) (n : Nat) : List Int := (List.range n).map fun i : Nat => k + (i : Int)

theorem marks_length (k : Int) (n : Nat) : (marks k n).length = n := by simp [marks]

end Go.Proofs.Ythfckbfllodcjaa
