/-
  A strings.Builder of the call's own that holds a text: what it is to write to it and to read it.
-/
import Derived.Test.YtopklampiaecdaaGreatMem
import Derived.Test.YtopklampiaecdaaGreatShelf
namespace Go.Proofs.YtopklampiaecdaaGreat
open Go.RowKit
set_option linter.unusedVariables false

/-- A builder in block b holds a text; all of it lies from block B on. -/
def Bld (w : World) (B b : Nat) (t : ByteArray) : Prop := Lib.IsBuilder 105 5 B b (Lib.byteCells t.data.toList) w

theorem bldAt_below {T e : TypeId} {B b : Nat} {p : Value} {bs : List Value} {w w' : World} (h : Lib.BuilderAt T e B b p bs w) (hb : Below w.heap.size w w') : Lib.BuilderAt T e B b p bs w' := by
  have hlt := h.lt
  obtain ⟨hB, v, h1, h2, h3⟩ := h
  exact ⟨hB, v, (hb.block b hlt).trans h1, own_below h2 hb (Nat.le_refl _), h3⟩

theorem Bld.below {B b : Nat} {t : ByteArray} {w w' : World} (h : Bld w B b t) (hb : Below w.heap.size w w') : Bld w' B b t := by
  rcases h with h | h
  · exact .inl (bldAt_below h hb)
  · exact .inr (bldAt_below h hb)

theorem Bld.alloc {B b : Nat} {t : ByteArray} {w : World} (h : Bld w B b t) (o : Obj) : Bld (w.alloc o) B b t := h.below ((Below.refl _ _).alloc (Nat.le_refl _) _)

theorem Bld.new (w : World) : Bld (w.alloc (.cells #[.pointer none, .slice none 0 0] 105)) w.heap.size w.heap.size ByteArray.empty := Lib.fresh_isBuilder 105 5 w

theorem Bld.lt {B b : Nat} {t : ByteArray} {w : World} (h : Bld w B b t) : b < w.heap.size ∧ B ≤ b := by
  rcases h with h | h
  · exact ⟨h.lt, h.1⟩
  · exact ⟨h.lt, h.1⟩

theorem bldWrite (B b : Nat) (t s : ByteArray) (w : World) (h : Bld w B b t) (hl : t.size + s.size ≤ 16777216) :
    Calls Tryz.prog 88 #[.pointer (some ⟨b, 0, none⟩), .string s] w fun e w' => e = .returned (.tuple #[.int .i64 s.size, .nilIface]) ∧ Bld w' B b (t ++ s) ∧ Below B w w' := by
  have hlt := h.lt
  refine (Tryz.Builder_WriteString B b _ s w h (by rw [Lib.byteCells_length]; simp; omega) (by omega)).mono ?_
  rintro e w' ⟨rfl, h1, h2⟩
  refine ⟨rfl, .inr ?_, h2⟩
  rw [ByteArray.data_append, Array.toList_append, Lib.byteCells_append, ← Lib.strCells_eq]
  exact h1

theorem bldString (B b : Nat) (t : ByteArray) (w : World) (h : Bld w B b t) :
    Calls Tryz.prog 89 #[.pointer (some ⟨b, 0, none⟩)] w fun e w' => e = .returned (.string t) ∧ Below B w w' := by
  have hlt := h.lt
  refine (Tryz.Builder_String_any B b t.data.toList w h (by omega)).mono ?_
  rintro e w' ⟨rfl, h1⟩
  exact ⟨rfl, h1⟩

theorem bldAt_above {T e : TypeId} {B b : Nat} {p : Value} {bs : List Value} {w w' : World} (h : Lib.BuilderAt T e B b p bs w) (hk : ∀ i, B ≤ i → w'.heap[i]? = w.heap[i]?) : Lib.BuilderAt T e B b p bs w' := by
  obtain ⟨hB, v, h1, h2, h3⟩ := h
  refine ⟨hB, v, (hk b hB).trans h1, ⟨h2.1, ?_⟩, h3⟩
  rcases h2.2 with hn | ⟨g, cap, cur, hv, hg, hgg, rest⟩
  · exact .inl hn
  · exact .inr ⟨g, cap, cur, hv, hg, (hk g hg).trans hgg, rest⟩

/-- What is turned below a builder leaves it as it is. -/
theorem Bld.above {B b : Nat} {t : ByteArray} {w w' : World} (h : Bld w B b t) (hk : ∀ i, B ≤ i → w'.heap[i]? = w.heap[i]?) : Bld w' B b t := by
  rcases h with h | h
  · exact .inl (bldAt_above h hk)
  · exact .inr (bldAt_above h hk)

theorem Bld.setCell {B b : Nat} {t : ByteArray} {w : World} (h : Bld w B b t) {p : Addr} (hp : p.block < B) (u : Value) : Bld (w.setCell p u) B b t :=
  h.above fun i hi => Below.heap_setCell w p u i (by omega)

theorem Bld.drewN {B b : Nat} {t : ByteArray} {w : World} (h : Bld w B b t) (n : Nat) : Bld (w.drewN n) B b t := h

/-- A row of one's own below a builder stays as it is when the builder is written to. -/
theorem own_under {w w' : World} {base size n C : Nat} {e : TypeId} {v : Value} {xs : List Value} (h : w.ownsRow base e size v n xs) (hb : Below C w w') (hC : ∀ g, v.ownBlock = some g → g < C) : w'.ownsRow base e size v n xs := by
  refine ⟨h.1, ?_⟩
  rcases h.2 with hn | ⟨g, cap, cur, rfl, hg, hgg, rest⟩
  · exact .inl hn
  · exact .inr ⟨g, cap, cur, rfl, hg, (hb.block g (hC g rfl)).trans hgg, rest⟩

end Go.Proofs.YtopklampiaecdaaGreat
