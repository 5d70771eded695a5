/-
  The contracts of RebuildText: the program's and the reference's return the same.
-/
import Derived.Test.YtjapfilkjngkjaaNums
import Derived.Test.YtjapfilkjngkjaaXor
namespace Go.Proofs.Ytjapfilkjngkjaa
open Go.RowKit
set_option linter.unusedVariables false

/-- The number that the first two bytes of a string make. -/
def num2 (s : ByteArray) : Nat := 256 * (bAt s 0).toNat + (bAt s 1).toNat

/-- The first two bytes of a parity, and the lengths of the strings. -/
def rbLens (ss : List ByteArray) (p : ByteArray) : List ByteArray := p.extract 0 2 :: ss.map fun s => two s.size

/-- The rest of a parity, and the strings. -/
def rbTexts (ss : List ByteArray) (p : ByteArray) : List ByteArray := p.extract 2 p.size :: ss

/-- When RebuildText has a result. -/
def rbOk (ss : List ByteArray) (p : ByteArray) : Prop := 2 ≤ p.size ∧ ss.length ≤ 40 ∧ (∀ s ∈ ss, s.size ≤ p.size - 2) ∧ num2 (xorAll (rbLens ss p)) ≤ p.size - 2

instance (ss : List ByteArray) (p : ByteArray) : Decidable (rbOk ss p) := by unfold rbOk; infer_instance

/-- What RebuildText returns. -/
def rebuild (ss : List ByteArray) (p : ByteArray) : ByteArray × Bool :=
  if rbOk ss p then ((xorAll (rbTexts ss p)).extract 0 (num2 (xorAll (rbLens ss p))), true) else (ByteArray.empty, false)

theorem rebuild_yes {ss : List ByteArray} {p : ByteArray} (h : rbOk ss p) : rebuild ss p = ((xorAll (rbTexts ss p)).extract 0 (num2 (xorAll (rbLens ss p))), true) := by
  unfold rebuild; rw [if_pos h]

theorem rebuild_no {ss : List ByteArray} {p : ByteArray} (h : ¬ rbOk ss p) : rebuild ss p = (ByteArray.empty, false) := by
  unfold rebuild; rw [if_neg h]

theorem rbLens_le (ss : List ByteArray) (p : ByteArray) (hp : p.size ≤ 1048576) : ∀ s ∈ rbLens ss p, s.size ≤ 1048576 := by
  intro s hs
  rcases List.mem_cons.1 hs with rfl | h
  · simp; omega
  · obtain ⟨t, _, rfl⟩ := List.mem_map.1 h
    show 2 ≤ 1048576
    omega

theorem rbLens_two (ss : List ByteArray) (p : ByteArray) (h : 2 ≤ p.size) : 0 + 1 < (xorAll (rbLens ss p)).size := by
  rw [xorAll_size]
  have := maxSz_mem (ss := rbLens ss p) (s := p.extract 0 2) (List.mem_cons_self ..)
  simp at this
  omega

theorem rbTexts_le (ss : List ByteArray) (p : ByteArray) (hp : p.size ≤ 1048576) (hs : ∀ s ∈ ss, s.size ≤ 1048576) : ∀ s ∈ rbTexts ss p, s.size ≤ 1048576 := by
  intro s h
  rcases List.mem_cons.1 h with rfl | h
  · simp; omega
  · exact hs s h

theorem rbTexts_max (ss : List ByteArray) (p : ByteArray) : p.size - 2 ≤ maxSz (rbTexts ss p) := by
  have := maxSz_mem (ss := rbTexts ss p) (s := p.extract 2 p.size) (List.mem_cons_self ..)
  simpa using this

set_option maxHeartbeats 2000000 in
theorem implRebuildText (A : Option Addr) (n c B : Nat) (ss : List ByteArray) (p : ByteArray) (w : World) (hl : ss.length = n) (hrow : Row w B 1 A n (ss.map .string)) (hB : B ≤ w.heap.size) (hn : n ≤ 1048576) (hs : ∀ s ∈ ss, s.size ≤ 1048576) (hp : p.size ≤ 1048576) :
    Calls Try.prog 11 #[.slice A n c, .string p] w fun e w' => e = .returned (.tuple #[.string (rebuild ss p).1, .bool (rebuild ss p).2]) ∧ Below w.heap.size w w' := by
  by_cases h1 : 2 ≤ p.size
  · by_cases h2 : n ≤ 40
    · go_enter Try.func11, Try.ntmps11
      go_wp2
      go_loopw [7, 8, 29] (fun v u i wr => ∃ k : Nat, k ≤ n ∧ i = .int .i64 k ∧ (∀ s ∈ ss.take k, s.size ≤ p.size - 2) ∧
          wr.ownsRow w.heap.size 9 1 v (k + 1) ((rbLens (ss.take k) p).map .string) ∧ wr.ownsRow w.heap.size 9 1 u (k + 1) ((rbTexts (ss.take k) p).map .string) ∧ Apart v u ∧ Below w.heap.size w wr) (fun _ _ i _ => n - (intOf i).toNat)
      case atStart =>
        refine ⟨0, Nat.zero_le _, rfl, by simp, ?_, ?_, ?_, ?_⟩
        · exact (World.ownsRow_lit (base := w.heap.size) (size := 1) (e := 9) w #[.string (p.extract 0 2)] 1 (Nat.le_refl _) (by unfold maxLen; omega) rfl).alloc _
        · have := World.ownsRow_lit (base := w.heap.size) (size := 1) (e := 9) (w.alloc (.cells #[.string (p.extract 0 2)] 9)) #[.string (p.extract 2 p.size)] 1 (by simp) (by unfold maxLen; omega) rfl
          simpa [rbTexts] using this
        · intro g hg hu
          simp [Value.ownBlock] at hg hu
          omega
        · exact ((Below.refl _ _).alloc (Nat.le_refl _) _).alloc (by simp) _
      case round =>
        obtain ⟨k, hk, rfl, hsm, hv, hu, hap, hbel⟩ := hrel
        obtain ⟨Av, cv, rfl, _, _⟩ := own_form hv
        obtain ⟨Au, cu, rfl, _, _⟩ := own_form hu
        by_cases hlt : k < n
        · obtain ⟨b, off, rfl, hbl, hc⟩ := hrow.2 (by omega)
          have hkl : k < ss.length := by omega
          obtain ⟨s, hsk⟩ : ∃ s, ss[k] = s := ⟨_, rfl⟩
          have hcell : wr.cell? ⟨b, off + k, none⟩ = some (.string s) := (hbel.cell (p := ⟨b, off + k, none⟩) (by show b < _; omega)).trans (hc k _ (by simp [hsk, hkl]))
          have hle := hs s (by rw [← hsk]; exact List.getElem_mem hkl)
          have hmem : s ∈ ss := by rw [← hsk]; exact List.getElem_mem hkl
          have htake : ss.take (k + 1) = ss.take k ++ [s] := by rw [List.take_succ_eq_append_getElem hkl, hsk]
          have HT := Lib.hid htake
          have HP := Lib.hid (rfl : p.extract 2 p.size = p.extract 2 p.size)
          clear hc hsk htake
          by_cases hfit : s.size ≤ p.size - 2
          · go_wp2_with fail
            refine (implTwoBytes s.size _ hle).mono ?_
            rintro e w1 ⟨rfl, hb1⟩
            have hv1 := own_below hv hb1 (Nat.le_refl _)
            have hu1 := own_below hu hb1 (Nat.le_refl _)
            have hbel1 := hbel.trans (hb1.mono hbel.size)
            have hsz1 := hbel1.size
            clear hv hu hb1 hbel hcell
            go_wp2_with (first
              | (at_builtin; refine wpList_append_row _ elemStr rfl (.tmp 38) (.tmp 42) rfl w.heap.size _ _ _ rfl (hv1.alloc _) _ _ 1 1 [.string (two s.size)] rfl (Row.new _ _ [.string (two s.size)] 1 1 rfl) ?_ ?_ ?_ ?_ ?_))
            · intro u hu; simp at hu; subst hu; rfl
            · unfold maxLen; omega
            · omega
            · simp; omega
            · intro v2 w2 hv2 hg2 hat2
              have hu2 : w2.ownsRow w.heap.size 9 1 (.slice Au (k + 1) cu) (k + 1) ((rbTexts (ss.take k) p).map .string) := (hu1.alloc _).kept hg2 hap.kept
              have hbel2 : Below w.heap.size w w2 := (hbel1.alloc hsz1 _).grown hg2 (by simp; omega) (fun g hg => (hv1.lt g hg).1)
              have hap2 : Apart v2 (.slice Au (k + 1) cu) := hap.step hat2 (fun g hg => by have := (hu1.lt g hg).2; omega)
              have hsz2 := hbel2.size
              clear hv1 hu1 hbel1 hg2 hat2 hsz1 hap
              go_wp2_with (first
                | (at_builtin; refine wpList_append_row _ elemStr rfl (.tmp 44) (.tmp 46) rfl w.heap.size _ _ _ rfl (hu2.alloc _) _ _ 1 1 [.string s] rfl (Row.new _ _ [.string s] 1 1 rfl) ?_ ?_ ?_ ?_ ?_))
              · intro u hu; simp at hu; subst hu; rfl
              · unfold maxLen; omega
              · omega
              · simp; omega
              · intro u3 w3 hu3 hg3 hat3
                have hv3 : w3.ownsRow w.heap.size 9 1 v2 (k + 1 + 1) _ := (hv2.alloc _).kept hg3 hap2.symm.kept
                have hbel3 : Below w.heap.size w w3 := (hbel2.alloc hsz2 _).grown hg3 (by simp; omega) (fun g hg => (hu2.lt g hg).1)
                have hap3 : Apart v2 u3 := (hap2.symm.step hat3 (fun g hg => by have := (hv2.lt g hg).2; omega)).symm
                obtain ⟨A2, c2, rfl, _, _⟩ := own_form hv2
                obtain ⟨A3, c3, rfl, _, _⟩ := own_form hu3
                clear hv2 hu2 hbel2 hg3 hat3 hsz2 hap2
                go_wp2
                go_roundw
                case rel =>
                  refine ⟨k + 1, by omega, by go_num, ?_, ?_, ?_, hap3, hbel3⟩
                  · intro x hx
                    rw [HT.out] at hx
                    rcases List.mem_append.1 hx with h | h
                    · exact hsm x h
                    · have : x = s := by simpa using h
                      subst this; exact hfit
                  · rw [HT.out]; simpa [rbLens] using hv3
                  · rw [HT.out]; simpa [rbTexts] using hu3
                case measure => simp [intOf]; omega
          · have HC := Lib.hid (rebuild_no (ss := ss) (p := p) (fun h => hfit (h.2.2.1 s hmem)))
            go_wp2_with fail
            go_ret2
            exact ⟨ret_sb HC.out, hbel⟩
        · obtain rfl : k = n := by omega
          have ht : ss.take k = ss := List.take_of_length_le (by omega)
          rw [ht] at hv hu hsm
          clear ht
          have hlv : (rbLens ss p).length = k + 1 := by simp [rbLens, hl]
          have hlu : (rbTexts ss p).length = k + 1 := by simp [rbTexts, hl]
          have HLV := Lib.hid hlv
          have HLU := Lib.hid hlu
          clear hlv hlu
          go_wp2_with fail
          refine (implXorTexts Av (k + 1) cv wr.heap.size (rbLens ss p) _ HLV.out (Row.of_own hv) (Nat.le_refl _) (by omega) (rbLens_le ss p hp)).mono ?_
          rintro e w1 ⟨rfl, hb1⟩
          have hu1 := (Row.of_own hu).below hb1 (Nat.le_refl _)
          have hbel1 := hbel.trans (hb1.mono hbel.size)
          have hz1 := hb1.size
          clear hv hu hb1 hbel
          go_wp2_with fail
          refine (implNumberAt (xorAll (rbLens ss p)) 0 _ _ rfl (by rw [xorAll_size]; exact maxSz_le (rbLens_le ss p hp)) (rbLens_two ss p h1)).mono ?_
          rintro e w2 ⟨rfl, hd2⟩
          have hbel2 := hbel1.trans (hd2.below _)
          have hu2 := hu1.drawn hd2
          have hz2 := hd2.cells.2.2
          clear hbel1 hd2 hu1
          have hnum : (256 * ((bAt (xorAll (rbLens ss p)) 0).toNat : Int) + ((bAt (xorAll (rbLens ss p)) (0 + 1)).toNat : Int)) = ((num2 (xorAll (rbLens ss p)) : Nat) : Int) := by
            show (256 * ((bAt (xorAll (rbLens ss p)) 0).toNat : Int) + ((bAt (xorAll (rbLens ss p)) 1).toNat : Int)) = _
            unfold num2; omega
          rw [hnum]
          clear hnum
          obtain ⟨N, hN⟩ : ∃ N, num2 (xorAll (rbLens ss p)) = N := ⟨_, rfl⟩
          rw [hN]
          by_cases hfit : N ≤ p.size - 2
          · have HC := Lib.hid (rebuild_yes (ss := ss) (p := p) ⟨h1, by omega, hsm, by omega⟩)
            rw [hN] at HC
            clear hN
            have HZ := Lib.hid (xorAll_size (rbTexts ss p))
            have hmx := rbTexts_max ss p
            go_wp2_with fail
            refine (implXorTexts Au (k + 1) cu wr.heap.size (rbTexts ss p) _ HLU.out hu2 (by omega) (by omega) (rbTexts_le ss p hp hs)).mono ?_
            rintro e w3 ⟨rfl, hb3⟩
            have hbel3 := hbel2.trans (hb3.mono hbel2.size)
            obtain ⟨T, hT⟩ : ∃ T, xorAll (rbTexts ss p) = T := ⟨_, rfl⟩
            have hTs : N ≤ T.size := by rw [← hT, HZ.out]; omega
            rw [hT] at HC ⊢
            clear hT HZ
            go_wp2_with fail
            go_ret2
            exact ⟨ret_sb HC.out, hbel3⟩
          · have HC := Lib.hid (rebuild_no (ss := ss) (p := p) (fun h => hfit (by have := h.2.2.2; omega)))
            clear hN
            go_wp2_with fail
            go_ret2
            exact ⟨ret_sb HC.out, hbel2⟩
    · have HC := Lib.hid (rebuild_no (ss := ss) (p := p) (fun h => by have := h.2.1; omega))
      go_enter Try.func11, Try.ntmps11
      go_wp2
      go_ret2
      exact ⟨ret_sb HC.out, Below.refl _ _⟩
  · have HC := Lib.hid (rebuild_no (ss := ss) (p := p) (fun h => by have := h.1; omega))
    go_enter Try.func11, Try.ntmps11
    go_wp2
    go_ret2
    exact ⟨ret_sb HC.out, Below.refl _ _⟩

set_option maxHeartbeats 2000000 in
theorem specRebuildText (A : Option Addr) (n c B : Nat) (ss : List ByteArray) (p : ByteArray) (w : World) (hl : ss.length = n) (hrow : Row w B 1 A n (ss.map .string)) (hB : B ≤ w.heap.size) (hn : n ≤ 1048576) (hs : ∀ s ∈ ss, s.size ≤ 1048576) (hp : p.size ≤ 1048576) :
    Calls Try.prog 12 #[.slice A n c, .string p] w fun e w' => e = .returned (.tuple #[.string (rebuild ss p).1, .bool (rebuild ss p).2]) ∧ Below w.heap.size w w' := by
  by_cases h1 : 2 ≤ p.size
  · by_cases h2 : n ≤ 40
    · go_enter Try.func12, Try.ntmps12
      go_wp2
      go_loopw [6, 7, 8] (fun v u i wr => ∃ k : Nat, k ≤ n ∧ i = .int .i64 k ∧ (∀ s ∈ ss.take k, s.size ≤ p.size - 2) ∧
          wr.ownsRow w.heap.size 9 1 v (k + 1) ((rbLens (ss.take k) p).map .string) ∧ wr.ownsRow w.heap.size 9 1 u (k + 1) ((rbTexts (ss.take k) p).map .string) ∧ Apart v u ∧ Below w.heap.size w wr) (fun _ _ i _ => n - (intOf i).toNat)
      case atStart =>
        refine ⟨0, Nat.zero_le _, rfl, by simp, ?_, ?_, ?_, ?_⟩
        · exact (World.ownsRow_lit (base := w.heap.size) (size := 1) (e := 9) w #[.string (p.extract 0 2)] 1 (Nat.le_refl _) (by unfold maxLen; omega) rfl).alloc _
        · have := World.ownsRow_lit (base := w.heap.size) (size := 1) (e := 9) (w.alloc (.cells #[.string (p.extract 0 2)] 9)) #[.string (p.extract 2 p.size)] 1 (by simp) (by unfold maxLen; omega) rfl
          simpa [rbTexts] using this
        · intro g hg hu
          simp [Value.ownBlock] at hg hu
          omega
        · exact ((Below.refl _ _).alloc (Nat.le_refl _) _).alloc (by simp) _
      case round =>
        obtain ⟨k, hk, rfl, hsm, hv, hu, hap, hbel⟩ := hrel
        obtain ⟨Av, cv, rfl, _, _⟩ := own_form hv
        obtain ⟨Au, cu, rfl, _, _⟩ := own_form hu
        by_cases hlt : k < n
        · obtain ⟨b, off, rfl, hbl, hc⟩ := hrow.2 (by omega)
          have hkl : k < ss.length := by omega
          obtain ⟨s, hsk⟩ : ∃ s, ss[k] = s := ⟨_, rfl⟩
          have hcell0 : w.cell? ⟨b, off + k, none⟩ = some (.string s) := hc k _ (by simp [hsk, hkl])
          have HC0 := Lib.hid hcell0
          clear hcell0
          have hbB : b < w.heap.size := by omega
          have hcell : wr.cell? ⟨b, off + k, none⟩ = some (.string s) := (hbel.cell (p := ⟨b, off + k, none⟩) (by show b < _; omega)).trans (hc k _ (by simp [hsk, hkl]))
          have hle := hs s (by rw [← hsk]; exact List.getElem_mem hkl)
          have hmem : s ∈ ss := by rw [← hsk]; exact List.getElem_mem hkl
          have htake : ss.take (k + 1) = ss.take k ++ [s] := by rw [List.take_succ_eq_append_getElem hkl, hsk]
          have HT := Lib.hid htake
          have HP := Lib.hid (rfl : p.extract 2 p.size = p.extract 2 p.size)
          clear hc hsk htake
          by_cases hfit : s.size ≤ p.size - 2
          · go_wp2_with fail
            refine (specL4Two s.size _ hle).mono ?_
            rintro e w1 ⟨rfl, hb1⟩
            have hv1 := own_below hv hb1 (Nat.le_refl _)
            have hu1 := own_below hu hb1 (Nat.le_refl _)
            have hbel1 := hbel.trans (hb1.mono hbel.size)
            have hsz1 := hbel1.size
            clear hv hu hb1 hbel hcell
            go_wp2_with (first
              | (at_builtin; refine wpList_append_row _ elemStr rfl (.tmp 39) (.tmp 46) rfl w.heap.size _ _ _ rfl (hv1.alloc _) _ _ 1 1 [.string (two s.size)] rfl (Row.new _ _ [.string (two s.size)] 1 1 rfl) ?_ ?_ ?_ ?_ ?_))
            · intro u hu; simp at hu; subst hu; rfl
            · unfold maxLen; omega
            · omega
            · simp; omega
            · intro v2 w2 hv2 hg2 hat2
              have hu2 : w2.ownsRow w.heap.size 9 1 (.slice Au (k + 1) cu) (k + 1) ((rbTexts (ss.take k) p).map .string) := (hu1.alloc _).kept hg2 hap.kept
              have hbel2 : Below w.heap.size w w2 := (hbel1.alloc hsz1 _).grown hg2 (by simp; omega) (fun g hg => (hv1.lt g hg).1)
              have hap2 : Apart v2 (.slice Au (k + 1) cu) := hap.step hat2 (fun g hg => by have := (hu1.lt g hg).2; omega)
              have hsz2 := hbel2.size
              have hcell2 : w2.cell? ⟨b, off + k, none⟩ = some (.string s) := (hbel2.cell (p := ⟨b, off + k, none⟩) hbB).trans HC0.out
              clear hv1 hu1 hbel1 hg2 hat2 hsz1 hap
              go_wp2_with (first
                | (at_builtin; refine wpList_append_row _ elemStr rfl (.tmp 48) (.tmp 53) rfl w.heap.size _ _ _ rfl (hu2.alloc _) _ _ 1 1 [.string s] rfl (Row.new _ _ [.string s] 1 1 rfl) ?_ ?_ ?_ ?_ ?_))
              · intro u hu; simp at hu; subst hu; rfl
              · unfold maxLen; omega
              · omega
              · simp; omega
              · intro u3 w3 hu3 hg3 hat3
                have hv3 : w3.ownsRow w.heap.size 9 1 v2 (k + 1 + 1) _ := (hv2.alloc _).kept hg3 hap2.symm.kept
                clear hcell2
                have hbel3 : Below w.heap.size w w3 := (hbel2.alloc hsz2 _).grown hg3 (by simp; omega) (fun g hg => (hu2.lt g hg).1)
                have hap3 : Apart v2 u3 := (hap2.symm.step hat3 (fun g hg => by have := (hv2.lt g hg).2; omega)).symm
                obtain ⟨A2, c2, rfl, _, _⟩ := own_form hv2
                obtain ⟨A3, c3, rfl, _, _⟩ := own_form hu3
                clear hv2 hu2 hbel2 hg3 hat3 hsz2 hap2
                go_wp2
                go_roundw
                case rel =>
                  refine ⟨k + 1, by omega, by go_num, ?_, ?_, ?_, hap3, hbel3⟩
                  · intro x hx
                    rw [HT.out] at hx
                    rcases List.mem_append.1 hx with h | h
                    · exact hsm x h
                    · have : x = s := by simpa using h
                      subst this; exact hfit
                  · rw [HT.out]; simpa [rbLens] using hv3
                  · rw [HT.out]; simpa [rbTexts] using hu3
                case measure => simp [intOf]; omega
          · have HC := Lib.hid (rebuild_no (ss := ss) (p := p) (fun h => hfit (h.2.2.1 s hmem)))
            go_wp2_with fail
            go_ret2
            exact ⟨ret_sb HC.out, hbel⟩
        · obtain rfl : k = n := by omega
          have ht : ss.take k = ss := List.take_of_length_le (by omega)
          rw [ht] at hv hu hsm
          clear ht
          have hlv : (rbLens ss p).length = k + 1 := by simp [rbLens, hl]
          have hlu : (rbTexts ss p).length = k + 1 := by simp [rbTexts, hl]
          have HLV := Lib.hid hlv
          have HLU := Lib.hid hlu
          clear hlv hlu
          go_wp2_with fail
          refine (specXorTexts Av (k + 1) cv wr.heap.size (rbLens ss p) _ HLV.out (Row.of_own hv) (Nat.le_refl _) (by omega) (rbLens_le ss p hp)).mono ?_
          rintro e w1 ⟨rfl, hb1⟩
          have hu1 := (Row.of_own hu).below hb1 (Nat.le_refl _)
          have hbel1 := hbel.trans (hb1.mono hbel.size)
          have hz1 := hb1.size
          clear hv hu hb1 hbel
          go_wp2_with fail
          refine (specL5Pair (xorAll (rbLens ss p)) _ (by rw [xorAll_size]; exact maxSz_le (rbLens_le ss p hp)) (rbLens_two ss p h1)).mono ?_
          rintro e w2 ⟨rfl, hd2⟩
          have hbel2 := hbel1.trans (hd2.below _)
          have hu2 := hu1.drawn hd2
          have hz2 := hd2.cells.2.2
          clear hbel1 hd2 hu1
          have hnum : (256 * ((bAt (xorAll (rbLens ss p)) 0).toNat : Int) + ((bAt (xorAll (rbLens ss p)) 1).toNat : Int)) = ((num2 (xorAll (rbLens ss p)) : Nat) : Int) := by
            show (256 * ((bAt (xorAll (rbLens ss p)) 0).toNat : Int) + ((bAt (xorAll (rbLens ss p)) 1).toNat : Int)) = _
            unfold num2; omega
          rw [hnum]
          clear hnum
          obtain ⟨N, hN⟩ : ∃ N, num2 (xorAll (rbLens ss p)) = N := ⟨_, rfl⟩
          rw [hN]
          by_cases hfit : N ≤ p.size - 2
          · have HC := Lib.hid (rebuild_yes (ss := ss) (p := p) ⟨h1, by omega, hsm, by omega⟩)
            rw [hN] at HC
            clear hN
            have HZ := Lib.hid (xorAll_size (rbTexts ss p))
            have hmx := rbTexts_max ss p
            go_wp2_with fail
            refine (specXorTexts Au (k + 1) cu wr.heap.size (rbTexts ss p) _ HLU.out hu2 (by omega) (by omega) (rbTexts_le ss p hp hs)).mono ?_
            rintro e w3 ⟨rfl, hb3⟩
            have hbel3 := hbel2.trans (hb3.mono hbel2.size)
            obtain ⟨T, hT⟩ : ∃ T, xorAll (rbTexts ss p) = T := ⟨_, rfl⟩
            have hTs : N ≤ T.size := by rw [← hT, HZ.out]; omega
            rw [hT] at HC ⊢
            clear hT HZ
            go_wp2_with fail
            go_ret2
            exact ⟨ret_sb HC.out, hbel3⟩
          · have HC := Lib.hid (rebuild_no (ss := ss) (p := p) (fun h => hfit (by have := h.2.2.2; omega)))
            clear hN
            go_wp2_with fail
            go_ret2
            exact ⟨ret_sb HC.out, hbel2⟩
    · have HC := Lib.hid (rebuild_no (ss := ss) (p := p) (fun h => by have := h.2.1; omega))
      go_enter Try.func12, Try.ntmps12
      go_wp2
      go_ret2
      exact ⟨ret_sb HC.out, Below.refl _ _⟩
  · have HC := Lib.hid (rebuild_no (ss := ss) (p := p) (fun h => by have := h.1; omega))
    go_enter Try.func12, Try.ntmps12
    go_wp2
    go_ret2
    exact ⟨ret_sb HC.out, Below.refl _ _⟩

end Go.Proofs.Ytjapfilkjngkjaa
