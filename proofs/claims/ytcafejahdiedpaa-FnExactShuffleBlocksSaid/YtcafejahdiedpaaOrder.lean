/-
  Orders of blocks: the plain facts; the contract of l7Order of the reference.
-/
import Derived.Test.YtcafejahdiedpaaInts
namespace Go.Proofs.Ytcafejahdiedpaa
open Go.RowKit
set_option linter.unusedVariables false

/-- Whether a number fits behind those that were taken before. -/
def ordFits (os : List Int) (n k : Nat) : Prop := 0 ≤ os.getD k 0 ∧ os.getD k 0 < n ∧ os.getD k 0 ∉ os.take k

instance (os : List Int) (n k : Nat) : Decidable (ordFits os n k) := by unfold ordFits; infer_instance

/-- Whether each number is one below n and stands there once. -/
def ordOk (os : List Int) (n : Nat) : Prop := ∀ k, k < os.length → ordFits os n k

instance (os : List Int) (n : Nat) : Decidable (ordOk os n) := by unfold ordOk; infer_instance

/-- Whether the first numbers fit. -/
def ordTo (os : List Int) (n k : Nat) : Prop := ∀ j, j < k → ordFits os n j

theorem ordTo_zero (os : List Int) (n : Nat) : ordTo os n 0 := fun j h => absurd h (by omega)

theorem ordTo_succ {os : List Int} {n k : Nat} (h : ordTo os n k) (h2 : ordFits os n k) : ordTo os n (k + 1) := fun j hj => by
  by_cases e : j = k
  · subst e; exact h2
  · exact h j (by omega)

theorem take_ints (os : List Int) (k : Nat) (z : Int) (h : os[k]? = some z) : os.take (k + 1) = os.take k ++ [z] := by
  obtain ⟨hk, hz⟩ := List.getElem?_eq_some_iff.1 h
  rw [List.take_succ_eq_append_getElem hk, hz]

theorem ordFits_of {os : List Int} {n k : Nat} {z : Int} (h : os[k]? = some z) : ordFits os n k ↔ 0 ≤ z ∧ z < n ∧ z ∉ os.take k := by
  have e : os.getD k 0 = z := by rw [List.getD_eq_getElem?_getD, h]; rfl
  unfold ordFits
  rw [e]

theorem infoBool : (Try.prog.info? 4).map (fun i => (i.zero, i.size, i.bytes)) = some (some (.bool false), 1, 1) := by kernel_rfl

/-- The cells of the numbers that were taken. -/
def seenF (os : List Int) (k : Nat) : Nat → Value := fun j => .bool (decide ((j : Int) ∈ os.take k))

theorem seen_set {w : World} {U n k m : Nat} {os : List Int} (h : w.rowIs U 4 n (seenF os k)) (hz : os[k]? = some (m : Int)) : (w.setCell ⟨U, m, none⟩ (.bool true)).rowIs U 4 n (seenF os (k + 1)) := by
  refine (h.set m (.bool true)).congr fun i hi => ?_
  unfold seenF
  rw [take_ints os k _ hz]
  by_cases e : i = m
  · subst e
    simp
  · rw [if_neg e]
    congr 1
    rw [Bool.eq_iff_iff]
    simp
    intro h
    omega

set_option maxHeartbeats 1000000 in
theorem specL7Order (A : Option Addr) (n c Q : Nat) (os : List Int) (r : Bool) (w : World) (hl : os.length = n) (hn : n ≤ 1048576) (hrow : Row w Q 1 A n (os.map intV)) (hQ : Q ≤ w.heap.size)
    (hr : r = true ↔ ordOk os n) :
    Calls Try.prog 53 #[.slice A n c] w fun e w' => e = .returned (.bool r) ∧ Below w.heap.size w w' := by
  have hmk := run_make_row' (P := Try.prog) 75 4 (.bool false) 1 Try.underlying75 infoBool rfl .i64 .i64 n (by omega) (by omega)
  have HR := Lib.hid hr
  have HL := Lib.hid hl
  clear hr hl
  go_enter Try.func53, Try.ntmps53
  go_wp2_with fail
  go_loopw [4] (fun i wr => ∃ k : Nat, k ≤ n ∧ i = .int .i64 k ∧ ordTo os n k ∧ wr.rowIs w.heap.size 4 n (seenF os k) ∧ Below w.heap.size w wr) (fun i _ => n - (intOf i).toNat)
  case atStart => exact ⟨0, Nat.zero_le _, rfl, ordTo_zero _ _, (World.rowIs_made _ _ _ _).congr (fun i _ => by simp [seenF]), (Below.refl _ _).alloc (Nat.le_refl _) _⟩
  case round =>
    obtain ⟨k, hk, rfl, hto, hseen, hbel⟩ := hrel
    by_cases hlt : k < n
    · obtain ⟨z, hz⟩ : ∃ z, os[k]? = some z := ⟨_, List.getElem?_eq_getElem (by have := HL.out; omega)⟩
      obtain ⟨b, off, rfl, hbl, hc⟩ := hrow.2 (by omega)
      have hcell : wr.cell? ⟨b, off + k, none⟩ = some (.int .i64 z) := (hbel.cell (p := ⟨b, off + k, none⟩) (by show b < _; omega)).trans (hc k _ (by simp [hz]))
      have hfits := ordFits_of (n := n) hz
      have hno : ¬ ordFits os n k → r = false := fun h => by
        rcases hb : r with _ | _
        · rfl
        · exact absurd (HR.out.1 hb k (by have := HL.out; omega)) h
      clear hc
      by_cases c1 : 0 ≤ z
      · by_cases c2 : z < n
        · obtain ⟨m, rfl⟩ := Int.eq_ofNat_of_zero_le c1
          have hm : m < n := by omega
          have hsc := hseen.cell hm
          have hsf := hseen.frozen m
          by_cases c3 : (m : Int) ∈ os.take k
          · have hrf := hno (fun h => (hfits.1 h).2.2 c3)
            have hsc2 : wr.cell? ⟨w.heap.size, m, none⟩ = some (.bool true) := by rw [hsc]; simp [seenF, c3]
            subst hrf
            clear hsc hno hfits hz c3 hseen hto hmk
            go_wp2_with fail
            go_ret
            exact ⟨rfl, hbel⟩
          · have hsc2 : wr.cell? ⟨w.heap.size, m, none⟩ = some (.bool false) := by rw [hsc]; simp [seenF, c3]
            have HT := Lib.hid (ordTo_succ hto (hfits.2 ⟨c1, c2, c3⟩))
            have HS := Lib.hid (seen_set hseen hz)
            have hb2 : Below w.heap.size w (wr.setCell ⟨w.heap.size, m, none⟩ (.bool true)) := hbel.setCell (Nat.le_refl _) _
            clear hsc hno hfits hz c3 hseen hto hmk hbel
            go_wp2_with fail
            go_roundw
            case rel => exact ⟨k + 1, by omega, by go_num, HT.out, HS.out, hb2⟩
            case measure => simp [intOf]; omega
        · have hrf := hno (fun h => c2 (hfits.1 h).2.1)
          subst hrf
          clear hno hfits hz hseen hto hmk
          go_wp2_with fail
          go_ret
          exact ⟨rfl, hbel⟩
      · have hrf := hno (fun h => c1 (hfits.1 h).1)
        subst hrf
        clear hno hfits hz hseen hto hmk
        go_wp2_with fail
        go_ret
        exact ⟨rfl, hbel⟩
    · obtain rfl : k = n := by omega
      have hrt : r = true := HR.out.2 (fun j hj => hto j (by have := HL.out; omega))
      subst hrt
      clear hmk hto hseen
      go_wp2_with fail
      go_ret
      exact ⟨rfl, hbel⟩

end Go.Proofs.Ytcafejahdiedpaa
