/-
  Pieces: as plain data, in memory, as an argument; the law's own helpers for slices of pieces.
-/
import Derived.Test.YtcafejahdiedpaaMem
import Derived.Deep.SlicePairs
import Derived.Deep.Fields
import Derived.Deep.RegionHeld3
namespace Go.Proofs.Ytcafejahdiedpaa
open Go.RowKit Go.WideShapes Go.ChangeShapes Go.Deep
set_option linter.unusedVariables false

/-- A piece. -/
structure Pc where
  num : Int
  data : ByteArray

/-- The two cells of a piece. -/
def pcCells (p : Pc) : List Value := [.int .i64 p.num, .string p.data]

/-- The cells of pieces, one behind the other. -/
def cellsP (ps : List Pc) : List Value := ps.flatMap pcCells

theorem cellsP_cons (x : Pc) (xs : List Pc) : cellsP (x :: xs) = pcCells x ++ cellsP xs := by simp [cellsP]

theorem cellsP_append (a b : List Pc) : cellsP (a ++ b) = cellsP a ++ cellsP b := by unfold cellsP; exact List.flatMap_append

theorem cellsP_length (ps : List Pc) : (cellsP ps).length = ps.length * 2 := by
  induction ps with
  | nil => rfl
  | cons x xs ih => rw [cellsP_cons, List.length_append, ih]; simp [pcCells]; omega

theorem cellsP_oneCell (ps : List Pc) : ∀ u ∈ cellsP ps, u.oneCell' = true := by
  intro u hu
  unfold cellsP at hu
  obtain ⟨b, _, hb⟩ := List.mem_flatMap.1 hu
  simp only [pcCells, List.mem_cons, List.not_mem_nil, or_false] at hb
  rcases hb with rfl | rfl <;> rfl

theorem cellsP_get (ps : List Pc) (k j : Nat) (p : Pc) (hp : ps[k]? = some p) (hj : j < 2) : (cellsP ps)[k * 2 + j]? = (pcCells p)[j]? := by
  induction ps generalizing k with
  | nil => simp at hp
  | cons x xs ih =>
    have hl : (pcCells x).length = 2 := rfl
    rw [cellsP_cons]
    cases k with
    | zero =>
      simp only [List.getElem?_cons_zero, Option.some.injEq] at hp
      subst hp
      rw [List.getElem?_append_left (by omega), Nat.zero_mul, Nat.zero_add]
    | succ k =>
      rw [List.getElem?_append_right (by omega), hl, show (k + 1) * 2 + j - 2 = k * 2 + j from by omega]
      exact ih k (by simpa using hp)

theorem Row.pc {w : World} {B n : Nat} {A : Option Addr} {ps : List Pc} (h : Row w B 2 A n (cellsP ps)) {k : Nat} {num : Int} {data : ByteArray} (hk : k < n) (hb : ps[k]? = some ⟨num, data⟩) :
    ∃ b off, A = some ⟨b, off, none⟩ ∧ b < B ∧ w.cell? ⟨b, off + k * 2, none⟩ = some (.int .i64 num) ∧ w.cell? ⟨b, off + k * 2 + 1, none⟩ = some (.string data) := by
  obtain ⟨b, off, e, hB, hc⟩ := h.2 (by omega)
  refine ⟨b, off, e, hB, ?_, ?_⟩
  · exact hc (k * 2 + 0) _ ((cellsP_get ps k 0 _ hb (by omega)).trans rfl)
  · exact hc (k * 2 + 1) _ ((cellsP_get ps k 1 _ hb (by omega)).trans rfl)

theorem Row.len2 {w : World} {B n : Nat} {A : Option Addr} {ps : List Pc} (h : Row w B 2 A n (cellsP ps)) : ps.length = n := by
  have := h.1; rw [cellsP_length] at this; omega

/-- That a piece can be a value: its number and its data are in range. -/
def Pc.wf (p : Pc) : Prop := -9223372036854775808 ≤ p.num ∧ p.num ≤ 9223372036854775807 ∧ p.data.size ≤ maxLen

/-- A slice of pieces that came in. -/
structure PcRow (w : World) (A : Option Addr) (n : Nat) (ps : List Pc) : Prop where
  le : n ≤ maxLen
  len : ps.length = n
  each : ∀ p ∈ ps, p.wf
  row : Row w w.heap.size 2 A n (cellsP ps)

theorem PcRow.below {w w' : World} {A : Option Addr} {n : Nat} {ps : List Pc} (h : PcRow w A n ps) (hb : Below w.heap.size w w') : PcRow w' A n ps :=
  ⟨h.le, h.len, h.each, (h.row.below hb (Nat.le_refl _)).more hb.size⟩

/-- The bytes of a string value. -/
def strOf : Value → ByteArray
  | .string s => s
  | _ => ByteArray.empty

/-- The integer of an integer value. -/
def numOf : Value → Int
  | .int _ z => z
  | _ => 0

section
variable {H : Type} {enc : TypeId × Value → H} {P : Program} {w : World} {base : Nat} {held : Bool}

theorem reads_pieces {t e : TypeId} {f0 f1 : Field} {A : Option Addr} {len cap : Nat} {d : DataW H} {p : List MemPlace} (ht : P.underlying t = some (.slice e)) (he : P.underlying e = some (.struct #[f0, f1]))
    (hone : oneCellFields P #[f0, f1] = true) (ce : P.cellsOf e = 2) (hi : P.underlying f0.type = some (.int .i64)) (hs : P.underlying f1.type = some .string)
    (h : DataW.Trod enc P w base (fun _ => true) held t (.slice A len cap) d p) (_hp : ∀ x ∈ p, x.block < w.heap.size) : ∃ ps, PcRow w A len ps := by
  obtain ⟨fuel, hf⟩ := h
  obtain ⟨o0, k0⟩ := hone_of hone 0 f0 rfl
  obtain ⟨o1, k1⟩ := hone_of hone 1 f1 rfl
  rcases open_slice_pairs ht he ce o0 o1 k0 k1 hf with ⟨hcs, _⟩ | ⟨x, l, c, m, n, V0, V1, D0, D1, P0, P1, hcs, _, hl, hm, hmm, _, hcell⟩
  · simp [Value.cells] at hcs
    obtain ⟨rfl, rfl, rfl⟩ := hcs
    exact ⟨[], ⟨Nat.zero_le _, rfl, by simp, Row.none_⟩⟩
  · simp [Value.cells] at hcs
    obtain ⟨rfl, rfl, rfl⟩ := hcs
    simp only [if_true] at hmm
    subst hmm
    have hv : ∀ i, i < len → V0 i = .int .i64 (numOf (V0 i)) ∧ V1 i = .string (strOf (V1 i)) ∧ (⟨numOf (V0 i), strOf (V1 i)⟩ : Pc).wf := by
      intro i hil
      obtain ⟨_, _, g0, g1⟩ := hcell i (by omega)
      obtain ⟨z, ez, _, wz⟩ := DataW.trod_int hi g0
      obtain ⟨s, es, _, ws⟩ := DataW.trod_string hs g1
      simp only [List.cons.injEq, and_true] at ez es
      rw [ez, es]
      have hb : -9223372036854775808 ≤ z ∧ z ≤ 9223372036854775807 := by simpa [Lit.wf, IntKind.min, IntKind.max, IntKind.signed, IntKind.bits] using wz
      exact ⟨rfl, rfl, hb.1, hb.2, ws⟩
    refine ⟨(List.range len).map fun i => ⟨numOf (V0 i), strOf (V1 i)⟩, ⟨by omega, by simp, ?_, ?_⟩⟩
    · intro q hq
      obtain ⟨i, hi', rfl⟩ := List.mem_map.1 hq
      exact (hv i (by simpa using hi')).2.2
    · refine ⟨by rw [cellsP_length]; simp, fun hn => ?_⟩
      have h0 := (hcell 0 (by omega)).1
      obtain ⟨b, off, spot⟩ := x
      have hs' : spot = none := by simpa [Addr.add] using World.cell?_spot h0
      subst hs'
      refine ⟨b, off, rfl, ?_, fun j u hu => ?_⟩
      · have := World.block_lt_of_cell? w _ h0
        simpa [Addr.add] using this
      · have hjl : j < len * 2 := by
          have := (List.getElem?_eq_some_iff.1 hu).1
          rw [cellsP_length] at this
          simpa using this
        have hi2 : j / 2 < len := by omega
        obtain ⟨c0, c1, _, _⟩ := hcell (j / 2) (by omega)
        obtain ⟨v0, v1, _⟩ := hv (j / 2) hi2
        rw [addr_add] at c0 c1
        have hget : ((List.range len).map fun i => (⟨numOf (V0 i), strOf (V1 i)⟩ : Pc))[j / 2]? = some ⟨numOf (V0 (j / 2)), strOf (V1 (j / 2))⟩ := by
          rw [List.getElem?_map, List.getElem?_range hi2]; rfl
        rcases (show j % 2 = 0 ∨ j % 2 = 1 by omega) with hj | hj
        · have e1 : j = j / 2 * 2 + 0 := by omega
          have e2 := cellsP_get _ (j / 2) 0 _ hget (by omega)
          rw [← e1, hu] at e2
          have e3 : u = .int .i64 (numOf (V0 (j / 2))) := by simpa [pcCells] using e2
          rw [e3, ← v0, ← c0]
          congr 2
          omega
        · have e1 : j = j / 2 * 2 + 1 := by omega
          have e2 := cellsP_get _ (j / 2) 1 _ hget (by omega)
          rw [← e1, hu] at e2
          have e3 : u = .string (strOf (V1 (j / 2))) := by simpa [pcCells] using e2
          rw [e3, ← v1, ← c1]
          congr 2
          omega
end

/-- How many bytes the data of pieces have together. -/
def sumPc : List Pc → Nat
  | [] => 0
  | p :: ps => p.data.size + sumPc ps

theorem sumPc_append (a b : List Pc) : sumPc (a ++ b) = sumPc a + sumPc b := by
  induction a with
  | nil => simp [sumPc]
  | cons x xs ih => simp [sumPc, ih]; omega

theorem sumPc_take_succ (ps : List Pc) (k : Nat) (p : Pc) (h : ps[k]? = some p) : sumPc (ps.take (k + 1)) = sumPc (ps.take k) + p.data.size := by
  obtain ⟨hk, hb⟩ := List.getElem?_eq_some_iff.1 h
  rw [List.take_succ_eq_append_getElem hk, sumPc_append, hb]; simp [sumPc]

theorem sumPc_mem {ps : List Pc} {p : Pc} (h : p ∈ ps) : p.data.size ≤ sumPc ps := by
  induction ps with
  | nil => cases h
  | cons x xs ih =>
    simp [sumPc]
    rcases List.mem_cons.1 h with rfl | h
    · omega
    · have := ih h; omega

/-- What szPieceS says: what is left, if this is not negative. -/
def SzPcPost (tot : Nat) (left : Int) (w : World) (e : Ending) (w' : World) : Prop := Below w.heap.size w w' ∧ ∃ r : Int, e = .returned (.int .i64 r) ∧ (r < 0 ∨ (r = left - tot ∧ tot ≤ left))

theorem lawsSzPiece (num : Int) (data : ByteArray) (l : Int) (w : World) (hd : data.size ≤ maxLen) (h1 : 0 ≤ l) (h2 : l ≤ 1048576) :
    Calls Try.prog 63 #[.agg #[.int .i64 num, .string data], .int .i64 l] w (SzPcPost data.size l w) := by
  unfold maxLen at hd
  go_enter Try.func63, Try.ntmps63
  go_wp2
  all_goals go_ret
  all_goals refine ⟨by go_grown, _, rfl, by omega⟩

set_option maxHeartbeats 400000 in
theorem lawsSzPieceS (A : Option Addr) (n c : Nat) (ps : List Pc) (l : Int) (w : World) (h : PcRow w A n ps) (h1 : 0 ≤ l) (h2 : l ≤ 1048576) :
    Calls Try.prog 34 #[.slice A n c, .int .i64 l] w (SzPcPost (n + sumPc ps) l w) := by
  have hn := h.le
  unfold maxLen at hn
  by_cases hl : l < n
  · go_enter Try.func34, Try.ntmps34
    go_wp2
    go_ret
    exact ⟨Below.refl _ _, -1, rfl, Or.inl (by omega)⟩
  · go_enter Try.func34, Try.ntmps34
    go_wp2_with fail
    go_loopw [1, 5] (fun v i wr => ∃ k : Nat, k ≤ n ∧ i = .int .i64 k ∧ v = .int .i64 (l - n - sumPc (ps.take k)) ∧ 0 ≤ l - n - sumPc (ps.take k) ∧ Below w.heap.size w wr) (fun _ i _ => n - (intOf i).toNat)
    case atStart => exact ⟨0, Nat.zero_le _, rfl, by simp [sumPc], by simp [sumPc]; omega, Below.refl _ _⟩
    case round =>
      obtain ⟨k, hk, rfl, rfl, hpos, hbel⟩ := hrel
      have hlen := h.len
      by_cases hlt : k < n
      · obtain ⟨⟨num, data⟩, hp⟩ : ∃ p, ps[k]? = some p := ⟨_, List.getElem?_eq_getElem (by omega)⟩
        obtain ⟨b, off, rfl, _, g0, g1⟩ := (h.below hbel).row.pc hlt hp
        have hsz := sumPc_take_succ ps k _ hp
        have hle : data.size ≤ maxLen := (h.each _ (List.mem_of_getElem? hp)).2.2
        simp only at hsz
        obtain ⟨q, hq⟩ : ∃ q, sumPc (ps.take k) = q := ⟨_, rfl⟩
        obtain ⟨q', hq'⟩ : ∃ q, sumPc (ps.take (k + 1)) = q := ⟨_, rfl⟩
        rw [hq] at hsz hpos ⊢
        rw [hq'] at hsz
        have HQ := Lib.hid hq'
        have HS := Lib.hid hsz
        obtain ⟨L, hL⟩ : ∃ L : Int, l - n - q = L := ⟨_, rfl⟩
        rw [hL] at hpos ⊢
        have hL2 : L ≤ 1048576 := by omega
        have HL := Lib.hid hL
        have HN := Lib.hid hlen
        clear hp hsz hq' hq hL hlen
        go_wp2_with fail
        refine (lawsSzPiece num data L _ hle hpos hL2).mono ?_
        rintro e w' ⟨hb, r, rfl, hr⟩
        have hbel' := hbel.trans (hb.mono hbel.size)
        rcases hr with hr | ⟨hr, hr2⟩
        · go_wp2_with fail
          go_ret
          exact ⟨hbel', -1, rfl, Or.inl (by omega)⟩
        · have hr0 : 0 ≤ r := by omega
          have HR := Lib.hid hr
          clear hr
          go_wp2_with fail
          go_roundw
          case rel => exact ⟨k + 1, by omega, by go_num, by rw [HQ.out, HS.out, HR.out, ← HL.out]; congr 1; omega, by rw [HQ.out, HS.out]; have := HR.out; have := HL.out; omega, hbel'⟩
          case measure => simp [intOf]; omega
      · obtain rfl : k = n := by omega
        have ht : ps.take k = ps := List.take_of_length_le (by omega)
        rw [ht] at hpos ⊢
        clear hlen ht
        go_wp2_with fail
        go_ret
        exact ⟨hbel, _, rfl, Or.inr ⟨by omega, by omega⟩⟩

end Go.Proofs.Ytcafejahdiedpaa
