/-
  The contract of Survivors of the reference: it returns the same numbers as the program's.
-/
import Derived.Test.YtcafejahdiedpaaSurv
import Derived.Test.YtcafejahdiedpaaFoundSpec
namespace Go.Proofs.Ytcafejahdiedpaa
open Go.RowKit
set_option linter.unusedVariables false

/-- A slice value of the call's own lies in one block, or from another one on. -/
def OutAt (g0 B : Nat) (v : Value) : Prop := ∀ g, v.ownBlock = some g → g = g0 ∨ B ≤ g

/-- A row that one reads stays as it is when another block is written to. -/
theorem Row.other {w w' : World} {B size n : Nat} {A : Option Addr} {xs : List Value} {row : Option Nat} (h : Row w B size A n xs) (hg : w.grownBy w' row) (hB : B ≤ w.heap.size) (hr : ∀ b off, A = some ⟨b, off, none⟩ → row ≠ some b) : Row w' B size A n xs :=
  ⟨h.1, fun hn => by
    obtain ⟨b, off, e, hb, hc⟩ := h.2 hn
    exact ⟨b, off, e, hb, fun j u hu => (World.cell?_of_block (hg.block b (by omega) (fun e' => hr b off e e'.symm))).trans (hc j u hu)⟩⟩

set_option maxHeartbeats 4000000 in
theorem specSurvivors (s t : ByteArray) (w : World) (hs : s.size ≤ 1048576) (ht : t.size ≤ 1048576) :
    Calls Try.prog 25 #[.string s, .string t] w fun e w' => ∃ A c, e = .returned (.slice A (survOf (contB s) (foundB t)).length c) ∧ w'.ownsRow w.heap.size 3 1 (.slice A (survOf (contB s) (foundB t)).length c) (survOf (contB s) (foundB t)).length ((survOf (contB s) (foundB t)).map intV) ∧ Below w.heap.size w w' := by
  have H0 := fun W => specL5Blocks s W hs
  have hnx : Numbered ((contB s).getD []) := by
    rcases hx : contB s with _ | x
    · exact Numbered.nil
    · exact contB_numbered hx
  unfold survOf
  obtain ⟨x, hx⟩ : ∃ x, (contB s).getD [] = x := ⟨_, rfl⟩
  obtain ⟨ok, hok⟩ : ∃ ok, (contB s).isSome = ok := ⟨_, rfl⟩
  unfold BlksPost at H0
  rw [hx, hok] at H0
  rw [hx] at hnx ⊢
  obtain ⟨n, hn⟩ : ∃ n, x.length = n := ⟨_, rfl⟩
  have hn40 := hnx.length
  rw [hn] at hn40 H0
  have H1 := Lib.hid H0
  have HF := fun W => specFindBlocks t W ht
  obtain ⟨fs, hfs⟩ : ∃ fs, foundB t = fs := ⟨_, rfl⟩
  unfold FndsPost at HF
  rw [hfs] at HF ⊢
  obtain ⟨N, hN⟩ : ∃ N, fs.length = N := ⟨_, rfl⟩
  rw [hN] at HF
  have HF := Lib.hid HF
  obtain ⟨R, hR⟩ : ∃ R, survI x fs = R := ⟨_, rfl⟩
  rw [hR]
  have HR := Lib.hid hR
  have HN := Lib.hid hn
  clear hx hok hn hfs hN hR H0
  go_enter Try.func25, Try.ntmps25
  go_wp2_with fail
  refine (H1.out _).mono ?_
  rintro e w1 ⟨A1, c1, rfl, ho1, hb1x⟩
  have hb1 : Below w.heap.size w w1 := ((Below.refl _ _).alloc (Nat.le_refl _) _).trans (hb1x.mono (by simp))
  have hz1 := hb1.size
  have hz1' : w.heap.size + 1 ≤ w1.heap.size := by have := hb1x.size; simpa using this
  have hr1 := Row.of_own ho1
  have hA1 : ∀ b off, A1 = some ⟨b, off, none⟩ → w.heap.size < b ∧ b < w1.heap.size := fun b off e => by
    have h := ho1.lt b (by subst e; rfl)
    simp at h; omega
  have hout := own_below (own_empty w w.heap.size rfl w.heap.size (Nat.le_refl _) 3 1) hb1x (Nat.le_refl _)
  clear ho1 hb1x
  go_wp2_with fail
  refine (HF.out _).mono ?_
  rintro e w2 ⟨A2, c2, rfl, ho2, hb2, hN2⟩
  have hz2 := hb2.size
  have hr2 := Row.of_own ho2
  have hA2 : ∀ b off, A2 = some ⟨b, off, none⟩ → w1.heap.size ≤ b ∧ b < w2.heap.size := fun b off e => ho2.lt b (by subst e; rfl)
  have hr1 := hr1.below hb2 (Nat.le_refl _)
  have hout := own_below hout hb2 (Nat.le_refl _)
  have hb02 := hb1.trans (hb2.mono hz1)
  clear ho2 hb1 hb2
  go_wp2_with fail
  go_loopw [5, 9] (fun v i wr => ∃ (k L : Nat), k ≤ n ∧ i = .int .i64 k ∧ Hid ((survI (x.take k) fs).length = L) ∧ L ≤ k ∧ wr.ownsRow w.heap.size 3 1 v L ((survI (x.take k) fs).map intV) ∧ OutAt w.heap.size w2.heap.size v ∧
      Row wr w2.heap.size 4 A1 n (cellsB x) ∧ Row wr w2.heap.size 5 A2 N (cellsF fs) ∧ w2.heap.size ≤ wr.heap.size ∧ Below w.heap.size w wr) (fun _ i _ => n - (intOf i).toNat)
  case atStart => exact ⟨0, 0, Nat.zero_le _, rfl, Lib.hid (by simp [survI]), Nat.le_refl _, hout, fun g hg => Or.inl (by injection hg with hg; exact hg.symm), hr1.more hz2, hr2, Nat.le_refl _, hb02⟩
  case round =>
    obtain ⟨k, L, hk, rfl, HL, hLk, hown, hog, hr1, hr2, hwz, hbel⟩ := hrel
    have hwz0 := hbel.size
    obtain ⟨Av, cv, rfl, _, _⟩ := own_form hown
    by_cases hlt : k < n
    · obtain ⟨⟨num, raw, size, body⟩, hb⟩ : ∃ b, x[k]? = some b := ⟨_, List.getElem?_eq_getElem (by rw [HN.out]; exact hlt)⟩
      have hnum : num = k := (hnx k _ hb).1
      subst hnum
      have hyes := survI_yes (fs := fs) hb
      have hno := survI_no (fs := fs) hb
      simp only at hyes hno
      have HFF := Lib.hid (fun W h => specL7First A2 N c2 w2.heap.size fs num W hN2 h)
      rcases hf : firstF fs num with _ | ⟨num', raw', size', body'⟩
      · rw [hf] at HFF
        simp only [firstV] at HFF
        have HX := Lib.hid (hno (by rw [hf]; exact fun h => by cases h))
        clear hyes hno hf
        go_wp2_with fail
        refine (HFF.out _ (by first | exact hr2 | exact hr2.more (by omega)) (by omega) (by omega)).mono ?_
        rintro e w3 ⟨rfl, hb3⟩
        have hown3 := own_below hown hb3 (Nat.le_refl _)
        have hbel3 : Below w.heap.size w w3 := hbel.trans (hb3.mono (by omega))
        have hr13 := hr1.below hb3 hwz
        have hr23 := hr2.below hb3 hwz
        have hz3 : wr.heap.size ≤ w3.heap.size := hb3.size
        obtain ⟨b, off, e0, hg, p0, p1, p2, p3⟩ := hr13.blk hlt hb
        subst e0
        have hgw : b < w3.heap.size := by omega
        have i1 : (0 : Int) ≤ num := by omega
        have i2 : (num : Int) < n := by omega
        clear hb3 hbel hown hb hr1 hr2
        go_wp2_with fail
        go_quiet (fail)
        go_wp2_with fail
        go_roundw
        case rel => exact ⟨num + 1, L, by omega, by go_num, by rw [HX.out]; exact HL, by omega, by rw [HX.out]; exact own_drewN (hown3.alloc _) _, hog, (hr13.alloc (by omega) _).drewN _, (hr23.alloc (by omega) _).drewN _, by simp; omega, below_drewN (hbel3.alloc (by omega) _) _⟩
        case measure => simp [intOf]; omega
      · have hn' : num' = num := firstF_num hf
        subst hn'
        rw [hf] at HFF hyes
        simp only [firstV] at HFF
        by_cases c1 : raw' = raw
        · by_cases c2 : (size' : Int) = size
          · by_cases c3 : body'.toList = body.toList
            · have c2' : size' = size := by omega
              have c3' : body' = body := ba_toList c3
              subst c1 c2' c3'
              have HX := Lib.hid (hyes rfl)
              clear hyes hno c2 c3 hf
              go_wp2_with fail
              refine (HFF.out _ (by first | exact hr2 | exact hr2.more (by omega)) (by omega) (by omega)).mono ?_
              rintro e w3 ⟨rfl, hb3⟩
              have hown3 := own_below hown hb3 (Nat.le_refl _)
              have hbel3 : Below w.heap.size w w3 := hbel.trans (hb3.mono (by omega))
              have hr13 := hr1.below hb3 hwz
              have hr23 := hr2.below hb3 hwz
              have hz3 : wr.heap.size ≤ w3.heap.size := hb3.size
              obtain ⟨b, off, e0, hg, p0, p1, p2, p3⟩ := hr13.blk hlt hb
              subst e0
              have hgw : b < w3.heap.size := by omega
              have i1 : (0 : Int) ≤ num' := by omega
              have i2 : (num' : Int) < n := by omega
              clear hb3 hbel hown hb hr1 hr2
              go_wp2_with fail
              go_quiet (fail)
              go_wp2_with (first
                | (at_builtin; refine wpList_append_row _ elemInt rfl (.tmp 41) (.tmp 43) rfl w.heap.size _ _ _ rfl ((own_drewN (hown3.alloc _) _).alloc _) _ _ 1 1 [.int .i64 num'] rfl (Row.newAt _ (w3.heap.size + 1) (by simp) _ [.int .i64 num'] 1 1 rfl) ?_ ?_ ?_ ?_ ?_))
              · intro u hu; simp at hu; subst hu; rfl
              · unfold maxLen; omega
              · omega
              · simp; omega
              · intro v4 w4 hv4 hg4 hv4o
                have hb4 : Below w.heap.size w w4 := ((below_drewN (hbel3.alloc (by omega) (blkObj ⟨num', raw', size', body'⟩)) _).alloc (by simp; omega) _).grown hg4 (by simp; omega) (fun g hg => (hown3.lt g hg).1)
                have hr14 := (((hr13.alloc (by omega) (blkObj ⟨num', raw', size', body'⟩)).drewN _).alloc (by simp; omega) _).other hg4 (by simp; omega) (fun b' off' e h => by
                  have k1 := hA1 b' off' e
                  rcases hog b' h with k2 | k2 <;> omega)
                have hr24 := (((hr23.alloc (by omega) (blkObj ⟨num', raw', size', body'⟩)).drewN _).alloc (by simp; omega) _).other hg4 (by simp; omega) (fun b' off' e h => by
                  have k1 := hA2 b' off' e
                  rcases hog b' h with k2 | k2 <;> omega)
                have hog4 : OutAt w.heap.size w2.heap.size v4 := fun g' hg' => by
                  rcases hv4o with k1 | k1
                  · exact hog g' (k1 ▸ hg')
                  · rw [hg'] at k1
                    injection k1 with k1
                    refine Or.inr ?_
                    have hk : w3.heap.size ≤ g' := by
                      subst k1
                      omega
                    omega
                have hz4 : w2.heap.size ≤ w4.heap.size := Nat.le_trans (by simp; omega) hg4.size
                clear hown3 hbel3 hg4 hr13 hr23 hv4o hog
                go_wp2_with fail
                go_roundw
                case rel => exact ⟨num' + 1, L + 1, by omega, by go_num, Lib.hid (by rw [HX.out, List.length_append, HL.out]; rfl), by omega, by rw [HX.out, List.map_append]; exact hv4, hog4, hr14, hr24, hz4, hb4⟩
                case measure => simp [intOf]; omega
            · have HX := Lib.hid (hno (fun h => by rw [hf] at h; simp at h; exact c3 (by rw [h.2.2])))
              clear hyes hno hf
              go_wp2_with fail
              refine (HFF.out _ (by first | exact hr2 | exact hr2.more (by omega)) (by omega) (by omega)).mono ?_
              rintro e w3 ⟨rfl, hb3⟩
              have hown3 := own_below hown hb3 (Nat.le_refl _)
              have hbel3 : Below w.heap.size w w3 := hbel.trans (hb3.mono (by omega))
              have hr13 := hr1.below hb3 hwz
              have hr23 := hr2.below hb3 hwz
              have hz3 : wr.heap.size ≤ w3.heap.size := hb3.size
              obtain ⟨b, off, e0, hg, p0, p1, p2, p3⟩ := hr13.blk hlt hb
              subst e0
              have hgw : b < w3.heap.size := by omega
              have i1 : (0 : Int) ≤ num' := by omega
              have i2 : (num' : Int) < n := by omega
              clear hb3 hbel hown hb hr1 hr2
              go_wp2_with fail
              go_quiet (fail)
              go_wp2_with fail
              go_roundw
              case rel => exact ⟨num' + 1, L, by omega, by go_num, by rw [HX.out]; exact HL, by omega, by rw [HX.out]; exact own_drewN (hown3.alloc _) _, hog, (hr13.alloc (by omega) _).drewN _, (hr23.alloc (by omega) _).drewN _, by simp; omega, below_drewN (hbel3.alloc (by omega) _) _⟩
              case measure => simp [intOf]; omega
          · have HX := Lib.hid (hno (fun h => by rw [hf] at h; simp at h; exact c2 (by rw [h.2.1])))
            clear hyes hno hf
            go_wp2_with fail
            refine (HFF.out _ (by first | exact hr2 | exact hr2.more (by omega)) (by omega) (by omega)).mono ?_
            rintro e w3 ⟨rfl, hb3⟩
            have hown3 := own_below hown hb3 (Nat.le_refl _)
            have hbel3 : Below w.heap.size w w3 := hbel.trans (hb3.mono (by omega))
            have hr13 := hr1.below hb3 hwz
            have hr23 := hr2.below hb3 hwz
            have hz3 : wr.heap.size ≤ w3.heap.size := hb3.size
            obtain ⟨b, off, e0, hg, p0, p1, p2, p3⟩ := hr13.blk hlt hb
            subst e0
            have hgw : b < w3.heap.size := by omega
            have i1 : (0 : Int) ≤ num' := by omega
            have i2 : (num' : Int) < n := by omega
            clear hb3 hbel hown hb hr1 hr2
            go_wp2_with fail
            go_quiet (fail)
            go_wp2_with fail
            go_roundw
            case rel => exact ⟨num' + 1, L, by omega, by go_num, by rw [HX.out]; exact HL, by omega, by rw [HX.out]; exact own_drewN (hown3.alloc _) _, hog, (hr13.alloc (by omega) _).drewN _, (hr23.alloc (by omega) _).drewN _, by simp; omega, below_drewN (hbel3.alloc (by omega) _) _⟩
            case measure => simp [intOf]; omega
        · have HX := Lib.hid (hno (fun h => by rw [hf] at h; simp at h; exact c1 h.1))
          clear hyes hno hf
          go_wp2_with fail
          refine (HFF.out _ (by first | exact hr2 | exact hr2.more (by omega)) (by omega) (by omega)).mono ?_
          rintro e w3 ⟨rfl, hb3⟩
          have hown3 := own_below hown hb3 (Nat.le_refl _)
          have hbel3 : Below w.heap.size w w3 := hbel.trans (hb3.mono (by omega))
          have hr13 := hr1.below hb3 hwz
          have hr23 := hr2.below hb3 hwz
          have hz3 : wr.heap.size ≤ w3.heap.size := hb3.size
          obtain ⟨b, off, e0, hg, p0, p1, p2, p3⟩ := hr13.blk hlt hb
          subst e0
          have hgw : b < w3.heap.size := by omega
          have i1 : (0 : Int) ≤ num' := by omega
          have i2 : (num' : Int) < n := by omega
          clear hb3 hbel hown hb hr1 hr2
          go_wp2_with fail
          go_quiet (fail)
          go_wp2_with fail
          go_roundw
          case rel => exact ⟨num' + 1, L, by omega, by go_num, by rw [HX.out]; exact HL, by omega, by rw [HX.out]; exact own_drewN (hown3.alloc _) _, hog, (hr13.alloc (by omega) _).drewN _, (hr23.alloc (by omega) _).drewN _, by simp; omega, below_drewN (hbel3.alloc (by omega) _) _⟩
          case measure => simp [intOf]; omega
    · have ht : x.take k = x := List.take_of_length_le (by rw [HN.out]; omega)
      rw [ht] at hown
      have hown' := hown
      rw [HR.out] at hown'
      have HLR := Lib.hid (show R.length = L by rw [← HR.out, ← ht]; exact HL.out)
      clear ht hown
      go_wp2_with fail
      go_ret
      exact ⟨Av, cv, by rw [HLR.out]; rfl, by rw [HLR.out]; exact hown', hbel⟩

end Go.Proofs.Ytcafejahdiedpaa
