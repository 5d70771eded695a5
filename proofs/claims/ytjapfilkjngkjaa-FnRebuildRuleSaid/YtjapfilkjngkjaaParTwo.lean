/-
  The parity of some strings: l7Parity of the reference.
-/
import Derived.Test.YtjapfilkjngkjaaRebuild
import Derived.Test.YtjapfilkjngkjaaTexts
import Derived.Test.YtjapfilkjngkjaaInts
import Derived.Test.YtjapfilkjngkjaaXorMath
namespace Go.Proofs.Ytjapfilkjngkjaa
open Go.RowKit
set_option linter.unusedVariables false

/-- The parity of strings. -/
def parT (ts : List ByteArray) : ByteArray := xorAll (ts.map fun t => two t.size) ++ xorAll ts

theorem xorLens_size (ts : List ByteArray) : (xorAll (ts.map fun t => two t.size)).size ≤ 2 := by
  rw [xorAll_size]
  refine maxSz_le fun s hs => ?_
  obtain ⟨t, _, rfl⟩ := List.mem_map.1 hs
  exact Nat.le_refl 2

theorem xorAll_le {ts : List ByteArray} {M : Nat} (h : ∀ t ∈ ts, t.size ≤ M) : (xorAll ts).size ≤ M := by
  rw [xorAll_size]; exact maxSz_le h

set_option maxHeartbeats 1000000 in
theorem specL7Parity (A : Option Addr) (n c B : Nat) (ts : List ByteArray) (w : World) (hrow : Row w B 1 A n (ts.map .string)) (hB : B ≤ w.heap.size) (hn : n ≤ 1048576) (hs : ∀ t ∈ ts, t.size ≤ 1000) :
    Calls Try.prog 21 #[.slice A n c] w fun e w' => e = .returned (.string (parT ts)) ∧ Below w.heap.size w w' := by
  have hl : ts.length = n := by have := hrow.1; simpa using this
  obtain ⟨us, hus⟩ : ∃ us, (ts.map fun t => two t.size) = us := ⟨_, rfl⟩
  have hul : us.length = n := by rw [← hus]; simpa using hl
  have hu2 : ∀ u ∈ us, u.size ≤ 1048576 := fun u hu => by
    rw [← hus] at hu
    obtain ⟨t, _, rfl⟩ := List.mem_map.1 hu
    exact Nat.le_trans (show (two t.size).size ≤ 2 from Nat.le_refl 2) (by omega)
  have hP : parT ts = xorAll us ++ xorAll ts := by unfold parT; rw [hus]
  have hx1 : (xorAll us).size ≤ 2 := by rw [← hus]; exact xorLens_size ts
  have hx2 : (xorAll ts).size ≤ 1000 := xorAll_le hs
  have H1 := Lib.hid (fun A c B W h1 h2 => specXorTexts A n c B us W hul h1 h2 hn hu2)
  have H2 := Lib.hid (fun W h1 h2 => specXorTexts A n c B ts W hl h1 h2 hn (fun t ht => Nat.le_trans (hs t ht) (by omega)))
  have hadd : ∀ W, (Op.stringOp .add (xorAll us) (xorAll ts)).run Try.prog W = .ok (.string (parT ts)) W := fun W => by rw [hP]; exact run_string_add_sum W _ _ (by omega)
  have hget : ∀ k, k < n → ∃ t, ts[k]? = some t ∧ (us.take (k + 1)).map Value.string = (us.take k).map Value.string ++ [.string (two t.size)] ∧ t.size ≤ 1000 := fun k hk => by
    have hk' : k < ts.length := by omega
    refine ⟨ts[k], List.getElem?_eq_getElem hk', ?_, hs _ (List.getElem_mem hk')⟩
    rw [List.take_succ_eq_append_getElem (by omega), List.map_append]
    simp [← hus]
  have HG := Lib.hid hget
  have HU := Lib.hid hul
  have HADD := Lib.hid hadd
  clear hP hus hadd hget hul hl hs hu2
  go_enter Try.func21, Try.ntmps21
  go_wp2_with fail
  go_loopw [3, 4] (fun v i wr => ∃ k : Nat, k ≤ n ∧ i = .int .i64 k ∧ wr.ownsRow w.heap.size 9 1 v k ((us.take k).map .string) ∧ Below w.heap.size w wr) (fun _ i _ => n - (intOf i).toNat)
  case atStart => exact ⟨0, Nat.zero_le _, rfl, own_empty w w.heap.size rfl w.heap.size (Nat.le_refl _) 9 1, (Below.refl _ _).alloc (Nat.le_refl _) _⟩
  case round =>
    obtain ⟨k, hk, rfl, hown, hbel⟩ := hrel
    have hwz := hbel.size
    obtain ⟨Av, cv, rfl, _, _⟩ := own_form hown
    by_cases hlt : k < n
    · obtain ⟨t, ht, hu, htz⟩ := HG.out k hlt
      obtain ⟨b, off, rfl, hbl, hc⟩ := hrow.2 (by omega)
      have hcell : wr.cell? ⟨b, off + k, none⟩ = some (.string t) := (hbel.cell (p := ⟨b, off + k, none⟩) (by show b < _; omega)).trans (hc k _ (by simp [ht]))
      have HT := Lib.hid (fun W => specL4Two t.size W (by omega))
      obtain ⟨u, hue⟩ : ∃ u, two t.size = u := ⟨_, rfl⟩
      rw [hue] at hu HT
      have HU2 := Lib.hid hu
      clear hc ht hue hu
      go_wp2_with fail
      refine (HT.out _).mono ?_
      rintro e w2 ⟨rfl, hb2⟩
      have hown2 := own_below hown hb2 (Nat.le_refl _)
      have hbel2 := hbel.trans (hb2.mono hwz)
      have hz2 := hbel2.size
      clear hown hbel hb2
      go_wp2_with (first
        | (at_builtin; refine wpList_append_row _ elemStr rfl (.tmp 12) (.tmp 19) rfl w.heap.size _ _ _ rfl (hown2.alloc _) _ _ 1 1 [.string u] rfl (Row.newAt _ w2.heap.size rfl _ [.string u] 1 1 rfl) ?_ ?_ ?_ ?_ ?_))
      · intro u hu; simp at hu; subst hu; rfl
      · unfold maxLen; omega
      · omega
      · simp; omega
      · intro v4 w4 hv4 hg4 _
        have hbel4 : Below w.heap.size w w4 := (hbel2.alloc hz2 _).grown hg4 (by simp; omega) (fun g hg => (hown2.lt g hg).1)
        have hv4' : w4.ownsRow w.heap.size 9 1 v4 (k + 1) ((us.take (k + 1)).map .string) := by rw [HU2.out]; simpa using hv4
        clear hown2 hbel2 hg4
        go_wp2_with fail
        go_roundw
        case rel => exact ⟨k + 1, by omega, by go_num, hv4', hbel4⟩
        case measure => simp [intOf]; omega
    · obtain rfl : k = n := by omega
      have ht : us.take k = us := List.take_of_length_le (by rw [HU.out]; omega)
      rw [ht] at hown
      have hr1 := Row.of_own hown
      have hr2 := hrow.below hbel hB
      clear hown ht
      go_wp2_with fail
      refine (H1.out _ _ _ _ hr1 (Nat.le_refl _)).mono ?_
      rintro e w2 ⟨rfl, hb2⟩
      have hr22 := hr2.below hb2 (by omega)
      have hz2 := hb2.size
      go_wp2_with fail
      refine (H2.out _ hr22 (by omega)).mono ?_
      rintro e w3 ⟨rfl, hb3⟩
      have hadd := HADD.out
      go_wp2_with fail
      go_ret
      exact ⟨rfl, hbel.trans ((hb2.trans (hb3.mono hz2)).mono hwz)⟩

end Go.Proofs.Ytjapfilkjngkjaa
