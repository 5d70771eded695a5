/-
  Slices of integers of the call's own; the law's own helpers for them: eqIntS, markIntS, heldIntS; a world in which one block alone has turned.
-/
import Derived.Test.YtcafejahdiedpaaMem
namespace Go.Proofs.Ytcafejahdiedpaa
open Go.RowKit
set_option linter.unusedVariables false

theorem Row.newAt (w : World) (H : Nat) (hH : w.heap.size = H) (e : TypeId) (cs : List Value) (n size : Nat) (h : cs.length = n * size) : Row (w.alloc (.cells cs.toArray e)) (H + 1) size (some ⟨H, 0, none⟩) n cs := by
  subst hH; exact Row.new w e cs n size h

/-- An empty slice that is not nil. -/
theorem own_empty (w : World) (H : Nat) (hH : w.heap.size = H) (base : Nat) (hb : base ≤ H) (e : TypeId) (size : Nat) : (w.alloc (.cells #[] e)).ownsRow base e size (.slice (some ⟨H, 0, none⟩) 0 0) 0 [] := by
  subst hH
  exact World.ownsRow_lit (size := size) (e := e) w #[] 0 hb (Nat.zero_le _) (by simp)

/-- An empty slice with a capacity. -/
theorem own_made (w : World) (cs : Array Value) (c base size : Nat) (e : TypeId) (hb : base ≤ w.heap.size) (hm : c ≤ maxLen) (hs : cs.size = c * size) : (w.alloc (.cells cs e)).ownsRow base e size (.slice (some ⟨w.heap.size, 0, none⟩) 0 c) 0 [] :=
  ⟨by simp, .inr ⟨w.heap.size, c, cs, rfl, hb, heap_alloc_new w _, Nat.zero_le _, hm, hs, by simp⟩⟩

/-- What make leaves: elements of several cells. -/
theorem run_make_rowN {P : Program} (t e : TypeId) (i : TypeInfo) (z : Value) (ht : P.underlying t = some (.slice e)) (hi : P.info? e = some i) (hz : i.zero = some z)
    (kl kc : IntKind) (n c : Nat) (hnc : n ≤ c) (hbytes : i.bytes * c ≤ 281474976710656) (h63 : c ≤ 9223372036854775807) (w : World) :
    (Instr.makeSlice t (.int kl (n : Int)) (.int kc (c : Int))).run P w = .ok (.slice (some ⟨w.heap.size, 0, none⟩) n c) (w.alloc (.cells (madeCells z.cells (c * i.size)) e)) := by
  have hb : (i.bytes : Int) * (c : Int) ≤ 281474976710656 := by
    have h : ((i.bytes * c : Nat) : Int) ≤ 281474976710656 := by omega
    rwa [Int.natCast_mul] at h
  have hr := run_make (P := P) w t e i z ht hi hz kl kc n c (by omega) (by omega) hb (by omega)
  simp only [Int.toNat_natCast] at hr
  exact hr

theorem infoByte : (Try.prog.info? 5).map (fun i => (i.zero, i.size, i.bytes)) = some (some (.int .u8 0), 1, 1) := by kernel_rfl

theorem elemByte : Elem Try.prog 52 5 (.int .u8 0) 1 1 := ⟨Try.underlying52, infoByte, rfl, by decide⟩

/-- An integer as a value. -/
abbrev intV (z : Int) : Value := .int .i64 z

theorem infoInt : (Try.prog.info? 3).map (fun i => (i.zero, i.size, i.bytes)) = some (some (.int .i64 0), 1, 8) := by kernel_rfl

theorem elemInt : Elem Try.prog 30 3 (.int .i64 0) 1 8 := ⟨Try.underlying30, infoInt, rfl, by decide⟩

theorem ints_oneCell (zs : List Int) : ∀ u ∈ zs.map intV, u.oneCell' = true := by
  intro u hu
  obtain ⟨s, _, rfl⟩ := List.mem_map.1 hu
  rfl

/-- eqIntS at two slices that hold the same numbers. -/
theorem lawsEqIntS (A B : Option Addr) (n c d Q R : Nat) (zs : List Int) (w : World) (hl : zs.length = n) (hn : n ≤ 1048576) (h1 : Row w Q 1 A n (zs.map intV)) (h2 : Row w R 1 B n (zs.map intV)) :
    Calls Try.prog 22 #[.slice A n c, .slice B n d] w fun e w' => e = .returned (.bool true) ∧ Drawn w w' := by
  go_enter Try.func22, Try.ntmps22
  go_wp2
  go_loopw [5] (fun i wr => ∃ k : Nat, k ≤ n ∧ i = .int .i64 k ∧ Drawn w wr) (fun i _ => n - (intOf i).toNat)
  case atStart => exact ⟨0, Nat.zero_le _, rfl, Drawn.refl _⟩
  case round =>
    obtain ⟨k, hk, rfl, hd⟩ := hrel
    by_cases hlt : k < n
    · obtain ⟨b, off, rfl, hbl, hc⟩ := h1.2 (by omega)
      obtain ⟨b', off', rfl, hbl', hc'⟩ := h2.2 (by omega)
      have hkl : k < zs.length := by omega
      obtain ⟨z, hz⟩ : ∃ z, zs[k] = z := ⟨_, rfl⟩
      have hcell : wr.cell? ⟨b, off + k, none⟩ = some (.int .i64 z) := (hd.cells.1 _).trans (hc k _ (by simp [hz, hkl]))
      have hcell' : wr.cell? ⟨b', off' + k, none⟩ = some (.int .i64 z) := (hd.cells.1 _).trans (hc' k _ (by simp [hz, hkl]))
      clear hc hc' hz
      go_wp2
      go_quiet (fail)
      go_wp2
      go_roundw
      case rel => exact ⟨k + 1, by omega, by go_num, hd.more _⟩
      case measure => simp [intOf]; omega
    · go_wp2
      go_ret
      exact ⟨rfl, hd⟩

theorem only_setCell {a w : World} {g : Nat} (h : a.grownBy w (some g)) {p : Addr} (hp : p.block = g) (u : Value) : a.grownBy (w.setCell p u) (some g) :=
  ⟨h.os, h.tape, h.output, by simpa [World.setCell] using h.size, fun i hi hne => (Below.heap_setCell w p u i (by
    rintro rfl
    exact hne (by rw [hp]))).trans (h.block i hi hne)⟩

theorem only_below {a w w' : World} {row : Option Nat} (h : a.grownBy w row) (hb : Below w.heap.size w w') : a.grownBy w' row :=
  ⟨hb.os.trans h.os, hb.tape.trans h.tape, hb.output.trans h.output, Nat.le_trans h.size hb.size, fun i hi hn => (hb.block i (Nat.lt_of_lt_of_le hi h.size)).trans (h.block i hi hn)⟩

theorem only_drawn {a w w' : World} {row : Option Nat} (h : a.grownBy w row) (hd : Drawn w w') : a.grownBy w' row := only_below h (hd.below _)

/-- What is above a block is nothing that one keeps below it. -/
theorem Below.only {B : Nat} {a w w' : World} {row : Option Nat} (h : Below B a w) (hg : w.grownBy w' row) (hB : B ≤ w.heap.size) (hr : ∀ g, row = some g → B ≤ g) : Below B a w' := h.grown hg hB hr

/-- The place of a slice that is owned and not empty. -/
theorem own_addr {w : World} {base size : Nat} {e : TypeId} {A : Option Addr} {n c : Nat} {xs : List Value} (h : w.ownsRow base e size (.slice A n c) n xs) (hn : 0 < n) :
    ∃ g, A = some ⟨g, 0, none⟩ ∧ base ≤ g ∧ g < w.heap.size := by
  rcases h.2 with ⟨h0, h1⟩ | ⟨g, cap, cur, hv, hb, hg, _⟩
  · omega
  · simp only [Value.slice.injEq] at hv
    obtain ⟨rfl, _, rfl⟩ := hv
    exact ⟨g, rfl, hb, (Array.getElem?_eq_some_iff.1 hg).1⟩

/-- Marks: numbers from k on. -/
def marks (k : Int) (n : Nat) : List Int := (List.range n).map fun i : Nat => k + (i : Int)

theorem marks_length (k : Int) (n : Nat) : (marks k n).length = n := by simp [marks]

set_option maxHeartbeats 400000 in
theorem lawsMarkIntS (base : Nat) (A : Option Addr) (n c : Nat) (zs : List Int) (k : Int) (w : World) (hl : zs.length = n) (hn : n ≤ 1048576) (hk0 : 0 ≤ k) (hk1 : k ≤ 1048576)
    (h : w.ownsRow base 3 1 (.slice A n c) n (zs.map intV)) :
    Calls Try.prog 27 #[.slice A n c, .int .i64 k] w fun e w' => e = .returned (.int .i64 (k + n)) ∧ w'.ownsRow base 3 1 (.slice A n c) n ((marks k n).map intV) ∧ w.grownBy w' (Value.slice A n c).ownBlock := by
  rcases Nat.eq_zero_or_pos n with h0 | h0
  · subst h0
    have hz : zs = [] := List.eq_nil_of_length_eq_zero hl
    subst hz
    go_enter Try.func27, Try.ntmps27
    go_wp2_with fail
    go_loopw [1, 5] (fun v i wr => v = .int .i64 k ∧ i = .int .i64 0 ∧ w = wr) (fun _ _ _ => 0)
    case atStart => exact ⟨rfl, rfl, rfl⟩
    case round =>
      obtain ⟨rfl, rfl, rfl⟩ := hrel
      go_wp2_with fail
      go_ret
      exact ⟨ret_int (by simp), h, World.grownBy.refl _ _⟩
  · obtain ⟨g, rfl, hbg, hlt, _, _⟩ := own_at h h0
    go_enter Try.func27, Try.ntmps27
    go_wp2_with fail
    go_loopw [1, 5] (fun v i wr => ∃ j : Nat, j ≤ n ∧ i = .int .i64 j ∧ v = .int .i64 (k + j) ∧ (∃ ys : List Value, wr.ownsRow base 3 1 (.slice (some ⟨g, 0, none⟩) n c) n ys ∧ ys.take j = (marks k j).map intV) ∧ w.grownBy wr (some g)) (fun _ i _ => n - (intOf i).toNat)
    case atStart => exact ⟨0, Nat.zero_le _, rfl, by simp, ⟨_, h, by simp [marks]⟩, World.grownBy.refl _ _⟩
    case round =>
      obtain ⟨j, hj, rfl, rfl, ⟨ys, hown, hys⟩, hgr⟩ := hrel
      by_cases hlt2 : j < n
      · have hyl : ys.length = n := by have := hown.1; omega
        have hcell : wr.cell? ⟨g, j, none⟩ = some (ys[j]'(by omega)) := by rw [hown.cellAt j (by omega)]; exact List.getElem?_eq_getElem _
        have hfr := hown.frozenAt j
        obtain ⟨y, hy⟩ : ∃ y, ys[j]'(by omega) = y := ⟨_, rfl⟩
        rw [hy] at hcell
        have hset := hown.stored j (.int .i64 (k + j))
        have hnew : (ys.set j (.int .i64 (k + j))).take (j + 1) = (marks k (j + 1)).map intV := by
          rw [List.take_succ_eq_append_getElem (by simp; omega), List.take_set_of_le (by omega), hys]
          simp [marks, List.range_succ]
        have HS := Lib.hid hset
        have HN := Lib.hid hnew
        clear hy hset hnew hown hys
        go_wp2_with fail
        go_roundw
        case rel => exact ⟨j + 1, by omega, by go_num, by go_num, ⟨_, HS.out.1, HN.out⟩, only_setCell hgr rfl _⟩
        case measure => simp [intOf]; omega
      · obtain rfl : j = n := by omega
        have hyl : ys.length = j := by have := hown.1; omega
        rw [List.take_of_length_le (by omega)] at hys
        subst hys
        clear hyl
        go_wp2_with fail
        go_ret
        exact ⟨rfl, hown, hgr⟩

theorem lawsHeldIntS (A : Option Addr) (n c Q : Nat) (k : Int) (w : World) (hn : n ≤ 1048576) (hk0 : 0 ≤ k) (hk1 : k ≤ 1048576) (h : Row w Q 1 A n ((marks k n).map intV)) :
    Calls Try.prog 28 #[.slice A n c, .int .i64 k] w fun e w' => e = .returned (.int .i64 (k + n)) ∧ w = w' := by
  go_enter Try.func28, Try.ntmps28
  go_wp2_with fail
  go_loop [1, 5] (fun v i => ∃ j : Nat, j ≤ n ∧ i = .int .i64 j ∧ v = .int .i64 (k + j)) (fun _ i => n - (intOf i).toNat)
  case atStart => exact ⟨0, Nat.zero_le _, rfl, by simp⟩
  case round =>
    obtain ⟨j, hj, rfl, rfl⟩ := hrel
    by_cases hlt : j < n
    · obtain ⟨b, off, rfl, hbl, hc⟩ := h.2 (by omega)
      have hcell : w.cell? ⟨b, off + j, none⟩ = some (.int .i64 (k + j)) := hc j _ (by simp [marks, hlt])
      clear hc h
      go_wp2_with fail
      go_round
      case rel => exact ⟨j + 1, by omega, by go_num, by go_num⟩
      case measure => simp [intOf]; omega
    · obtain rfl : j = n := by omega
      go_wp2_with fail
      go_ret
      exact ⟨rfl, rfl⟩

end Go.Proofs.Ytcafejahdiedpaa
