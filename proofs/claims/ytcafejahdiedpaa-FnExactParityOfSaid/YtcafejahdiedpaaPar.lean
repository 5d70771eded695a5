/-
  Parities: the plain facts; the contracts of parity of the program and l7Parity, l7Group of the reference.
-/
import Derived.Test.YtcafejahdiedpaaXor
import Derived.Test.YtcafejahdiedpaaTexts
import Derived.Test.YtcafejahdiedpaaMakeC
namespace Go.Proofs.Ytcafejahdiedpaa
open Go.RowKit
set_option linter.unusedVariables false

/-- The parity of strings. -/
def parT (ts : List ByteArray) : ByteArray := xorAll (ts.map fun t => two t.size) ++ xorAll ts

/-- The parities of blocks from an index on, in groups. -/
def parFrom (bs : List Blk) (g k : Nat) : List ByteArray :=
  if h : k < bs.length ∧ 0 < g then parT (((bs.drop k).take g).map textB) :: parFrom bs g (k + g) else []
termination_by bs.length - k
decreasing_by omega

theorem parFrom_next {bs : List Blk} {g k : Nat} (h : k < bs.length) (hg : 0 < g) : parFrom bs g k = parT (((bs.drop k).take g).map textB) :: parFrom bs g (k + g) := by
  rw [parFrom, dif_pos ⟨h, hg⟩]

theorem parFrom_end {bs : List Blk} {g k : Nat} (h : ¬ k < bs.length) : parFrom bs g k = [] := by
  rw [parFrom, dif_neg (fun h' => h h'.1)]

/-- What ParityOf returns. -/
def parO (o : Option (List Blk)) (g : Int) : Option (List ByteArray) :=
  match o with
  | some bs => if 1 ≤ g ∧ g ≤ 40 then some (parFrom bs g.toNat 0) else none
  | none => none

theorem parO_yes {bs : List Blk} {g : Nat} (h : 1 ≤ g) (h2 : g ≤ 40) : parO (some bs) (g : Int) = some (parFrom bs g 0) := if_pos ⟨by omega, by omega⟩

theorem parO_no {bs : List Blk} {g : Int} (h : ¬ (1 ≤ g ∧ g ≤ 40)) : parO (some bs) g = none := if_neg h

/-- New memory that holds strings, and a bool; or nothing. -/
def StrsPost (W : World) (o : Option (List ByteArray)) (e : Ending) (w' : World) : Prop :=
  ∃ A c, e = .returned (.tuple #[.slice A (o.getD []).length c, .bool o.isSome]) ∧ w'.ownsRow W.heap.size 9 1 (.slice A (o.getD []).length c) (o.getD []).length ((o.getD []).map .string) ∧ Below W.heap.size W w'

theorem strs_of_own {w : World} {base : Nat} {v : Value} {n : Nat} {ss : List ByteArray} (h : w.ownsRow base 9 1 v n (ss.map .string)) : ss.length = n := by
  have := h.1; simpa using this

theorem xorLens_size (ts : List ByteArray) : (xorAll (ts.map fun t => two t.size)).size ≤ 2 := by
  rw [xorAll_size]
  refine maxSz_le fun s hs => ?_
  obtain ⟨t, _, rfl⟩ := List.mem_map.1 hs
  exact Nat.le_refl 2

theorem xorAll_le {ts : List ByteArray} {M : Nat} (h : ∀ t ∈ ts, t.size ≤ M) : (xorAll ts).size ≤ M := by
  rw [xorAll_size]; exact maxSz_le h

set_option maxHeartbeats 1000000 in
theorem implParity (A : Option Addr) (n c B : Nat) (ts : List ByteArray) (w : World) (hrow : Row w B 1 A n (ts.map .string)) (hB : B ≤ w.heap.size) (hn : n ≤ 1048576) (hs : ∀ t ∈ ts, t.size ≤ 1000) :
    Calls Try.prog 62 #[.slice A n c] w fun e w' => e = .returned (.string (parT ts)) ∧ Below w.heap.size w w' := by
  have hl : ts.length = n := by have := hrow.1; simpa using this
  have hmk := run_make_row' (P := Try.prog) 39 9 (.string ByteArray.empty) 16 Try.underlying39 infoStr rfl .i64 .i64 n (by omega) (by omega)
  obtain ⟨us, hus⟩ : ∃ us, (ts.map fun t => two t.size) = us := ⟨_, rfl⟩
  have hul : us.length = n := by rw [← hus]; simpa using hl
  have hu2 : ∀ u ∈ us, u.size ≤ 1048576 := fun u hu => by
    rw [← hus] at hu
    obtain ⟨t, _, rfl⟩ := List.mem_map.1 hu
    exact Nat.le_trans (show (two t.size).size ≤ 2 from Nat.le_refl 2) (by omega)
  have hP : parT ts = xorAll us ++ xorAll ts := by unfold parT; rw [hus]
  have hx1 : (xorAll us).size ≤ 2 := by rw [← hus]; exact xorLens_size ts
  have hx2 : (xorAll ts).size ≤ 1000 := xorAll_le hs
  have H1 := Lib.hid (fun A c B W h1 h2 => implXorTexts A n c B us W hul h1 h2 hn hu2)
  have H2 := Lib.hid (fun W h1 h2 => implXorTexts A n c B ts W hl h1 h2 hn (fun t ht => Nat.le_trans (hs t ht) (by omega)))
  have hadd : ∀ W, (Op.stringOp .add (xorAll us) (xorAll ts)).run Try.prog W = .ok (.string (parT ts)) W := fun W => by rw [hP]; exact run_string_add_sum W _ _ (by omega)
  have hget : ∀ k, k < n → ∃ t, ts[k]? = some t ∧ us[k]? = some (two t.size) ∧ t.size ≤ 1000 := fun k hk => by
    have hk' : k < ts.length := by omega
    exact ⟨ts[k], List.getElem?_eq_getElem hk', by rw [← hus]; simp [hk'], hs _ (List.getElem_mem hk')⟩
  have HG := Lib.hid hget
  have HU := Lib.hid hul
  have HADD := Lib.hid hadd
  clear hP hus hadd hget hul hl hs hu2
  go_enter Try.func62, Try.ntmps62
  go_wp2_with fail
  go_loopw [11] (fun i wr => ∃ k : Nat, k ≤ n ∧ i = .int .i64 k ∧ wr.rowIs w.heap.size 9 n (fun j => if j < k then .string (us.getD j ByteArray.empty) else .string ByteArray.empty) ∧ Below w.heap.size w wr) (fun i _ => n - (intOf i).toNat)
  case atStart => exact ⟨0, Nat.zero_le _, rfl, (World.rowIs_made _ _ _ _).congr (fun i _ => by simp), (Below.refl _ _).alloc (Nat.le_refl _) _⟩
  case round =>
    obtain ⟨k, hk, rfl, hrowi, hbel⟩ := hrel
    have hwz := hbel.size
    by_cases hlt : k < n
    · obtain ⟨t, ht, hu, htz⟩ := HG.out k hlt
      obtain ⟨b, off, rfl, hbl, hc⟩ := hrow.2 (by omega)
      have hcell : wr.cell? ⟨b, off + k, none⟩ = some (.string t) := (hbel.cell (p := ⟨b, off + k, none⟩) (by show b < _; omega)).trans (hc k _ (by simp [ht]))
      have HT := Lib.hid (fun W => implTwoBytes t.size W (by omega))
      obtain ⟨u, hue⟩ : ∃ u, two t.size = u := ⟨_, rfl⟩
      rw [hue] at hu HT
      have hlt2 := hrowi.lt
      clear hc ht hue hmk
      go_wp2_with fail
      refine (HT.out _).mono ?_
      rintro e w2 ⟨rfl, hb2⟩
      have hrow2 := hrowi.of_block (hb2.block _ hlt2)
      have hbel2 := hbel.trans (hb2.mono hwz)
      have hout := hrow2.cell hlt
      have hfr := hrow2.frozen k
      have hset := hrow2.set k (.string u)
      have hnew : (w2.setCell ⟨w.heap.size, k, none⟩ (.string u)).rowIs w.heap.size 9 n (fun j => if j < k + 1 then .string (us.getD j ByteArray.empty) else .string ByteArray.empty) := by
        refine hset.congr fun i hi => ?_
        by_cases hik : i = k
        · subst hik
          simp [List.getD, hu]
        · simp only [if_neg hik]
          by_cases h1 : i < k
          · rw [if_pos h1, if_pos (by omega)]
          · rw [if_neg h1, if_neg (by omega)]
      have hb3 : Below w.heap.size w (w2.setCell ⟨w.heap.size, k, none⟩ (.string u)) := hbel2.setCell (Nat.le_refl _) _
      have HN := Lib.hid hnew
      clear hnew hset hrow2 hrowi hbel hb2 hbel2 hu
      go_wp2_with fail
      go_roundw
      case rel => exact ⟨k + 1, by omega, by go_num, HN.out, hb3⟩
      case measure => simp [intOf]; omega
    · obtain rfl : k = n := by omega
      have hown := own_of_rowIs (base := w.heap.size) hrowi (Nat.le_refl _) (by unfold maxLen; omega)
      have hxs : (List.range k).map (fun j => if j < k then Value.string (us.getD j ByteArray.empty) else .string ByteArray.empty) = us.map .string := by
        rw [← range_getD us Value.string ByteArray.empty, HU.out]
        refine List.map_congr_left fun j hj => ?_
        rw [if_pos (by simpa using hj)]
      rw [hxs] at hown
      have hr1 := Row.of_own hown
      have hr2 := hrow.below hbel hB
      clear hmk hrowi hown hxs
      go_wp2_with fail
      refine (H1.out _ _ _ _ hr1 (Nat.le_refl _)).mono ?_
      rintro e w2 ⟨rfl, hb2⟩
      have hr22 := hr2.below hb2 (by omega)
      have hz2 := hb2.size
      go_wp2_with fail
      refine (H2.out _ hr22 (by omega)).mono ?_
      rintro e w3 ⟨rfl, hb3⟩
      have hadd := HADD.out
      go_wp2_with fail
      go_ret
      exact ⟨rfl, hbel.trans ((hb2.trans (hb3.mono hz2)).mono hwz)⟩

end Go.Proofs.Ytcafejahdiedpaa
