/-
  A slice of integers that came in; the law's own helper toIntS.
-/
import Derived.Test.YtcafejahdiedpaaInts
namespace Go.Proofs.Ytcafejahdiedpaa
open Go.RowKit Go.WideShapes Go.ChangeShapes
set_option linter.unusedVariables false

/-- A slice of integers that came in. -/
structure IntRow (w : World) (A : Option Addr) (n : Nat) (zs : List Int) : Prop where
  le : n ≤ maxLen
  len : zs.length = n
  each : ∀ z ∈ zs, -9223372036854775808 ≤ z ∧ z ≤ 9223372036854775807
  row : Row w w.heap.size 1 A n (zs.map intV)

theorem IntRow.below {w w' : World} {A : Option Addr} {n : Nat} {zs : List Int} (h : IntRow w A n zs) (hb : Below w.heap.size w w') : IntRow w' A n zs :=
  ⟨h.le, h.len, h.each, (h.row.below hb (Nat.le_refl _)).more hb.size⟩

section
variable {H : Type} {enc : TypeId × Value → H} {P : Program} {w : World} {base : Nat} {held : Bool}

theorem reads_ints {t e : TypeId} {A : Option Addr} {len cap : Nat} {d : DataW H} {p : List MemPlace} (ht : P.underlying t = some (.slice e)) (he : P.underlying e = some (.int .i64)) (hc : P.cellsOf e = 1)
    (h : DataW.Trod enc P w base (fun _ => true) held t (.slice A len cap) d p) (_hp : ∀ x ∈ p, x.block < w.heap.size) : ∃ zs, IntRow w A len zs := by
  obtain ⟨fuel, hf⟩ := h
  rcases open_ints ht he hc hf with ⟨hcs, _⟩ | ⟨x, l, c, zs, hcs, _, hl, hm, hz, _, hcell, hws⟩
  · simp [Value.cells] at hcs
    obtain ⟨rfl, rfl, rfl⟩ := hcs
    exact ⟨[], ⟨Nat.zero_le _, rfl, by simp, Row.none_⟩⟩
  · simp [Value.cells] at hcs
    obtain ⟨rfl, rfl, rfl⟩ := hcs
    have hz' : zs.length = cap := by simpa using hz
    refine ⟨zs.take len, ⟨by omega, by simp; omega, fun z hzm => ?_, row_of_cells (by simp; omega) fun i u hu => ?_⟩⟩
    · have hwf := hws z (List.mem_of_mem_take hzm)
      simpa [Lit.wf, IntKind.min, IntKind.max, IntKind.signed, IntKind.bits] using hwf
    · rw [List.getElem?_map, List.getElem?_take] at hu
      split at hu
      · rename_i hi
        have := hcell i (by omega)
        rw [this, ← hu]
        simp [List.getD, List.getElem?_eq_getElem (show i < zs.length by omega)]
      · simp at hu
end

/-- What toIntS returns: new memory that holds the same numbers. -/
def NewInts (w : World) (zs : List Int) (e : Ending) (w' : World) : Prop :=
  ∃ A c, e = .returned (.slice A zs.length c) ∧ w'.ownsRow w.heap.size 3 1 (.slice A zs.length c) zs.length (zs.map intV) ∧ Below w.heap.size w w'

set_option maxHeartbeats 400000 in
theorem lawsToIntS (A : Option Addr) (n c : Nat) (zs : List Int) (w : World) (h : IntRow w A n zs) (hn : n ≤ 1048576) :
    Calls Try.prog 20 #[.slice A n c] w (NewInts w zs) := by
  have hmk := run_make_row' (P := Try.prog) 30 3 (.int .i64 0) 8 Try.underlying30 infoInt rfl .i64 .i64 n (by omega) (by omega)
  go_enter Try.func20, Try.ntmps20
  go_wp2
  go_loopw [4] (fun i wr => ∃ k : Nat, k ≤ n ∧ i = .int .i64 k ∧ wr.rowIs w.heap.size 3 n (fun j => if j < k then .int .i64 (zs.getD j 0) else .int .i64 0) ∧ Below w.heap.size w wr) (fun i _ => n - (intOf i).toNat)
  case atStart => exact ⟨0, Nat.zero_le _, rfl, (World.rowIs_made _ _ _ _).congr (fun i _ => by simp), (Below.refl _ _).alloc (Nat.le_refl _) _⟩
  case round =>
    obtain ⟨k, hk, rfl, hrow, hbel⟩ := hrel
    have hlen := h.len
    by_cases hlt : k < n
    · obtain ⟨b, off, rfl, hbl, hc⟩ := h.row.2 (by omega)
      have hkl : k < zs.length := by omega
      obtain ⟨s, hs⟩ : ∃ s, zs[k] = s := ⟨_, rfl⟩
      have hcell : wr.cell? ⟨b, off + k, none⟩ = some (.int .i64 s) := (hbel.cell (p := ⟨b, off + k, none⟩) hbl).trans (hc k _ (by simp [hs, hkl]))
      have hout := hrow.cell hlt
      have hfr := hrow.frozen k
      have hset := hrow.set k (.int .i64 s)
      have hnew : (wr.setCell ⟨w.heap.size, k, none⟩ (.int .i64 s)).rowIs w.heap.size 3 n (fun j => if j < k + 1 then .int .i64 (zs.getD j 0) else .int .i64 0) := by
        refine hset.congr fun i hi => ?_
        by_cases hik : i = k
        · subst hik
          simp [List.getD, hs, hkl]
        · simp only [if_neg hik]
          by_cases h1 : i < k
          · rw [if_pos h1, if_pos (by omega)]
          · rw [if_neg h1, if_neg (by omega)]
      have hb2 : Below w.heap.size w (wr.setCell ⟨w.heap.size, k, none⟩ (.int .i64 s)) := hbel.setCell (Nat.le_refl _) _
      have HN := Lib.hid hnew
      clear hnew hset hc hrow hbel hs hmk hlen
      go_wp2
      go_roundw
      case rel => exact ⟨k + 1, by omega, by go_num, HN.out, hb2⟩
      case measure => simp [intOf]; omega
    · obtain rfl : k = n := by omega
      have hown := own_of_rowIs (base := w.heap.size) hrow (Nat.le_refl _) h.le
      have hxs : (List.range k).map (fun j => if j < k then Value.int .i64 (zs.getD j 0) else .int .i64 0) = zs.map intV := by
        rw [← range_getD zs intV 0, hlen]
        refine List.map_congr_left fun j hj => ?_
        rw [if_pos (by simpa using hj)]
      rw [hxs] at hown
      clear hmk hrow
      have HL := Lib.hid hlen
      clear hlen
      go_wp2
      go_ret
      exact ⟨some ⟨w.heap.size, 0, none⟩, k, by rw [HL.out]; rfl, by rw [HL.out]; exact hown, hbel⟩

end Go.Proofs.Ytcafejahdiedpaa
