/-
  The law's own helpers for slices of strings: szStringS, toStringS, eqStringS.
-/
import Derived.Test.YtgjoolnlckddiaaMem
namespace Go.Proofs.Ytgjoolnlckddiaa
open Go.RowKit
set_option linter.unusedVariables false

/-- How many bytes some strings have together. -/
def sumSz : List ByteArray → Nat
  | [] => 0
  | s :: ss => s.size + sumSz ss

theorem sumSz_append (a b : List ByteArray) : sumSz (a ++ b) = sumSz a + sumSz b := by
  induction a with
  | nil => simp [sumSz]
  | cons x xs ih => simp [sumSz, ih]; omega

theorem sumSz_take_succ (ss : List ByteArray) (k : Nat) (h : k < ss.length) : sumSz (ss.take (k + 1)) = sumSz (ss.take k) + ss[k].size := by
  rw [List.take_succ_eq_append_getElem h, sumSz_append]; simp [sumSz]

theorem sumSz_take_le (ss : List ByteArray) (k : Nat) : sumSz (ss.take k) ≤ sumSz ss := by
  conv => rhs; rw [← List.take_append_drop k ss]
  rw [sumSz_append]; omega

theorem sumSz_mem {ss : List ByteArray} {s : ByteArray} (h : s ∈ ss) : s.size ≤ sumSz ss := by
  induction ss with
  | nil => cases h
  | cons x xs ih =>
    simp [sumSz]
    rcases List.mem_cons.1 h with rfl | h
    · omega
    · have := ih h; omega

/-- What szStringS says: what is left, if this is not negative. -/
def SzPost (tot : Nat) (left : Int) (w : World) (e : Ending) (w' : World) : Prop := w = w' ∧ ∃ r : Int, e = .returned (.int .i64 r) ∧ (r < 0 ∨ (r = left - tot ∧ tot ≤ left))

set_option maxHeartbeats 400000 in
theorem lawsSzStringS (A : Option Addr) (n c : Nat) (ss : List ByteArray) (l : Int) (w : World) (h : StrRow w A n ss) (h1 : 0 ≤ l) (h2 : l ≤ 1048576) :
    Calls Try.prog 7 #[.slice A n c, .int .i64 l] w (SzPost (n + sumSz ss) l w) := by
  have hn := h.le
  unfold maxLen at hn
  by_cases hl : l < n
  · go_enter Try.func7, Try.ntmps7
    go_wp2
    go_ret
    exact ⟨rfl, -1, rfl, Or.inl (by omega)⟩
  · go_enter Try.func7, Try.ntmps7
    go_wp2
    go_loop [1, 5] (fun v i => ∃ k : Nat, k ≤ n ∧ i = .int .i64 k ∧ v = .int .i64 (l - n - sumSz (ss.take k)) ∧ 0 ≤ l - n - sumSz (ss.take k)) (fun _ i => n - (intOf i).toNat)
    case atStart => exact ⟨0, Nat.zero_le _, rfl, by simp [sumSz], by simp [sumSz]; omega⟩
    case round =>
      obtain ⟨k, hk, rfl, rfl, hpos⟩ := hrel
      by_cases hlt : k < n
      · obtain ⟨b, off, rfl, _, hc⟩ := h.row.2 (by omega)
        have hkl : k < ss.length := by rw [h.len]; exact hlt
        obtain ⟨s, hs⟩ : ∃ s, ss[k] = s := ⟨_, rfl⟩
        have hcell : w.cell? ⟨b, off + k, none⟩ = some (.string s) := hc k _ (by simp [hs, hkl])
        have hsz := sumSz_take_succ ss k hkl
        rw [hs] at hsz
        have hle : s.size ≤ maxLen := h.each s (by rw [← hs]; exact List.getElem_mem hkl)
        unfold maxLen at hle
        obtain ⟨q, hq⟩ : ∃ q, sumSz (ss.take k) = q := ⟨_, rfl⟩
        obtain ⟨q', hq'⟩ : ∃ q, sumSz (ss.take (k + 1)) = q := ⟨_, rfl⟩
        rw [hq] at hsz hpos ⊢
        rw [hq'] at hsz
        have HQ := Lib.hid hq'
        have HS := Lib.hid hsz
        clear hc hs hsz hq' hq
        go_wp2
        · go_ret
          exact ⟨rfl, -1, rfl, Or.inl (by omega)⟩
        · have hp : 0 ≤ l - ↑n - ↑q - ↑s.size := by assumption
          have hS := HS.out
          go_round
          case rel => exact ⟨k + 1, by omega, by go_num, by rw [HQ.out, hS]; congr 1; omega, by rw [HQ.out]; omega⟩
          case measure => simp [intOf]; omega
      · obtain rfl : k = n := by omega
        have ht : ss.take k = ss := List.take_of_length_le (by rw [h.len]; omega)
        rw [ht] at hpos ⊢
        go_wp2
        go_ret
        exact ⟨rfl, _, rfl, Or.inr ⟨by omega, by omega⟩⟩

/-- Strings as cells. -/
theorem strs_oneCell (ss : List ByteArray) : ∀ u ∈ ss.map Value.string, u.oneCell' = true := by
  intro u hu
  obtain ⟨s, _, rfl⟩ := List.mem_map.1 hu
  rfl

theorem infoStr : (Try.prog.info? 9).map (fun i => (i.zero, i.size, i.bytes)) = some (some (.string ByteArray.empty), 1, 16) := by kernel_rfl

theorem elemStr : Elem Try.prog 22 9 (.string ByteArray.empty) 1 16 := ⟨Try.underlying22, infoStr, rfl, by decide⟩

/-- What toStringS returns: new memory that holds the same strings. -/
def NewStrs (w : World) (ss : List ByteArray) (e : Ending) (w' : World) : Prop :=
  ∃ A c, e = .returned (.slice A ss.length c) ∧ w'.ownsRow w.heap.size 9 1 (.slice A ss.length c) ss.length (ss.map .string) ∧ Below w.heap.size w w'

set_option maxHeartbeats 400000 in
theorem lawsToStringS (A : Option Addr) (n c : Nat) (ss : List ByteArray) (w : World) (h : StrRow w A n ss) (hn : n ≤ 1048576) :
    Calls Try.prog 9 #[.slice A n c] w (NewStrs w ss) := by
  have hmk := run_make_row' (P := Try.prog) 22 9 (.string ByteArray.empty) 16 Try.underlying22 infoStr rfl .i64 .i64 n (by omega) (by omega)
  go_enter Try.func9, Try.ntmps9
  go_wp2
  go_loopw [4] (fun i wr => ∃ k : Nat, k ≤ n ∧ i = .int .i64 k ∧ wr.rowIs w.heap.size 9 n (fun j => if j < k then .string (ss.getD j ByteArray.empty) else .string ByteArray.empty) ∧ Below w.heap.size w wr) (fun i _ => n - (intOf i).toNat)
  case atStart => exact ⟨0, Nat.zero_le _, rfl, (World.rowIs_made _ _ _ _).congr (fun i _ => by simp), (Below.refl _ _).alloc (Nat.le_refl _) _⟩
  case round =>
    obtain ⟨k, hk, rfl, hrow, hbel⟩ := hrel
    have hlen := h.len
    by_cases hlt : k < n
    · obtain ⟨b, off, rfl, hbl, hc⟩ := h.row.2 (by omega)
      have hkl : k < ss.length := by omega
      obtain ⟨s, hs⟩ : ∃ s, ss[k] = s := ⟨_, rfl⟩
      have hcell : wr.cell? ⟨b, off + k, none⟩ = some (.string s) := (hbel.cell (p := ⟨b, off + k, none⟩) hbl).trans (hc k _ (by simp [hs, hkl]))
      have hout := hrow.cell hlt
      have hfr := hrow.frozen k
      have hset := hrow.set k (.string s)
      have hnew : (wr.setCell ⟨w.heap.size, k, none⟩ (.string s)).rowIs w.heap.size 9 n (fun j => if j < k + 1 then .string (ss.getD j ByteArray.empty) else .string ByteArray.empty) := by
        refine hset.congr fun i hi => ?_
        by_cases hik : i = k
        · subst hik
          simp [List.getD, hs, hkl]
        · simp only [if_neg hik]
          by_cases h1 : i < k
          · rw [if_pos h1, if_pos (by omega)]
          · rw [if_neg h1, if_neg (by omega)]
      have hb2 : Below w.heap.size w (wr.setCell ⟨w.heap.size, k, none⟩ (.string s)) := hbel.setCell (Nat.le_refl _) _
      have HN := Lib.hid hnew
      clear hnew hset hc hrow hbel hs hmk hlen
      go_wp2
      go_roundw
      case rel => exact ⟨k + 1, by omega, by go_num, HN.out, hb2⟩
      case measure => simp [intOf]; omega
    · obtain rfl : k = n := by omega
      have hown := own_of_rowIs (base := w.heap.size) hrow (Nat.le_refl _) h.le
      have hxs : (List.range k).map (fun j => if j < k then Value.string (ss.getD j ByteArray.empty) else .string ByteArray.empty) = ss.map .string := by
        rw [← range_getD ss Value.string ByteArray.empty, hlen]
        refine List.map_congr_left fun j hj => ?_
        rw [if_pos (by simpa using hj)]
      rw [hxs] at hown
      clear hmk hrow
      have HL := Lib.hid hlen
      clear hlen
      go_wp2
      go_ret
      exact ⟨some ⟨w.heap.size, 0, none⟩, k, by rw [HL.out]; rfl, by rw [HL.out]; exact hown, hbel⟩

/-- eqStringS at two slices that hold the same strings. -/
theorem lawsEqStringS (A B : Option Addr) (n c d Q R : Nat) (ss : List ByteArray) (w : World) (hl : ss.length = n) (hn : n ≤ 1048576) (h1 : Row w Q 1 A n (ss.map .string)) (h2 : Row w R 1 B n (ss.map .string)) :
    Calls Try.prog 11 #[.slice A n c, .slice B n d] w fun e w' => e = .returned (.bool true) ∧ Drawn w w' := by
  go_enter Try.func11, Try.ntmps11
  go_wp2
  go_loopw [5] (fun i wr => ∃ k : Nat, k ≤ n ∧ i = .int .i64 k ∧ Drawn w wr) (fun i _ => n - (intOf i).toNat)
  case atStart => exact ⟨0, Nat.zero_le _, rfl, Drawn.refl _⟩
  case round =>
    obtain ⟨k, hk, rfl, hd⟩ := hrel
    by_cases hlt : k < n
    · obtain ⟨b, off, rfl, hbl, hc⟩ := h1.2 (by omega)
      obtain ⟨b', off', rfl, hbl', hc'⟩ := h2.2 (by omega)
      have hkl : k < ss.length := by omega
      obtain ⟨s, hs⟩ : ∃ s, ss[k] = s := ⟨_, rfl⟩
      have hcell : wr.cell? ⟨b, off + k, none⟩ = some (.string s) := (hd.cells.1 _).trans (hc k _ (by simp [hs, hkl]))
      have hcell' : wr.cell? ⟨b', off' + k, none⟩ = some (.string s) := (hd.cells.1 _).trans (hc' k _ (by simp [hs, hkl]))
      clear hc hc' hs
      go_wp2
      go_quiet (fail)
      go_wp2
      go_roundw
      case rel => exact ⟨k + 1, by omega, by go_num, hd.more _⟩
      case measure => simp [intOf]; omega
    · go_wp2
      go_ret
      exact ⟨rfl, hd⟩

end Go.Proofs.Ytgjoolnlckddiaa
