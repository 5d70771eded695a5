/-
  The contract of LostNumbers of the program: the numbers without pieces.
-/
import Derived.Test.YtjbicmlilgimlaaLost
namespace Go.Proofs.Ytjbicmlilgimlaa
open Go.RowKit
set_option linter.unusedVariables false

theorem dec_eq_false {a b : Int} (h : a ≠ b) : (a == b) = false := by rw [beq_eq_false_iff_ne]; exact h

set_option maxHeartbeats 2000000 in
theorem implLostNumbers (A : Option Addr) (n c B : Nat) (ps : List Pc) (count : Int) (w : World) (h : Row w B 2 A n (cellsP ps)) (hB : B ≤ w.heap.size) (hn : n ≤ 1048576)
    (hw : ∀ p ∈ ps, p.wf) (hcl : -9223372036854775808 ≤ count) (hch : count ≤ 9223372036854775807) :
    Calls Try.prog 36 #[.slice A n c, .int .i64 count] w (IntsPost w (lostOf ps count)) := by
  by_cases hok : pcOk ps count
  · have hR : lostOf ps count = lostI ps count.toNat := if_pos hok
    rw [hR]
    obtain ⟨N, rfl⟩ := Int.eq_ofNat_of_zero_le hok.1
    rw [Int.toNat_natCast]
    have hN : N ≤ 40 := by have := hok.2.1; omega
    have HV := Lib.hid (implPiecesValid A n c B ps N true w h hB hn hw (btrue hok))
    have HO := Lib.hid hok
    have hlen := h.len2
    have HL0 := Lib.hid hlen
    clear hok hR hlen
    go_enter Try.func36, Try.ntmps36
    go_wp2_with fail
    refine HV.out.mono ?_
    rintro e w0 ⟨rfl, hb0⟩
    have hrow0 := h.below hb0 hB
    have hB0 : B ≤ w0.heap.size := Nat.le_trans hB hb0.size
    go_wp2_with fail
    go_loopw [5, 6, 13] (fun v a i wr => ∃ (m k l : Nat), m ≤ N ∧ i = .int .i64 m ∧ a = .int .i64 k ∧ k ≤ n ∧ Hid (SplitAt ps k m) ∧ Hid ((lostI ps m).length = l) ∧ l ≤ m ∧ wr.ownsRow w.heap.size 3 1 v l ((lostI ps m).map intV) ∧ Below w.heap.size w wr) (fun _ _ i _ => N - (intOf i).toNat)
    case atStart => exact ⟨0, 0, 0, Nat.zero_le _, rfl, rfl, Nat.zero_le _, Lib.hid (split_zero HO.out), Lib.hid rfl, Nat.le_refl _, ⟨rfl, .inl ⟨rfl, rfl⟩⟩, hb0⟩
    case round =>
      obtain ⟨m, k, l, hm, rfl, rfl, hk, HS, HL, hlm, hown, hbel⟩ := hrel
      have hwz := hbel.size
      obtain ⟨Av, cv, rfl, _, _⟩ := own_form hown
      by_cases hlt : m < N
      · have hrow := h.below hbel hB
        by_cases hkn : k < n
        · obtain ⟨⟨num, data⟩, hp⟩ : ∃ p, ps[k]? = some p := ⟨_, List.getElem?_eq_getElem (by rw [HL0.out]; exact hkn)⟩
          obtain ⟨g, off, hA, hg, p0, p1⟩ := hrow.pc hkn hp
          subst hA
          by_cases hnm : num = m
          · have HX := Lib.hid (lostI_yes (split_has hp hnm))
            have HS2 := Lib.hid (split_hit HO.out HS.out hp hnm)
            subst hnm
            clear hp hrow hrow0 h
            go_wp2_with fail
            go_roundw
            case rel => exact ⟨m + 1, k + 1, l, by omega, by go_num, by go_num, by omega, by simpa using HS2, Lib.hid (by rw [HX.out, HL.out]), by omega, by rw [HX.out]; exact hown, hbel⟩
            case measure => simp [intOf]; omega
          · have hms := split_miss HO.out HS.out (k := k) (m := m) (fun p hp2 => by rw [hp] at hp2; injection hp2 with hp2; subst hp2; exact hnm)
            have HX := Lib.hid (lostI_no hms.2)
            have HS2 := Lib.hid hms.1
            have hne := dec_eq_false hnm
            clear hp hrow hrow0 h hms hnm
            go_wp2_with (first
              | (at_builtin; refine wpList_append_row _ elemInt rfl (.tmp 31) (.tmp 33) rfl w.heap.size _ _ _ rfl (hown.alloc _) _ _ 1 1 [.int .i64 m] rfl (Row.newAt _ wr.heap.size rfl _ [.int .i64 m] 1 1 rfl) ?_ ?_ ?_ ?_ ?_))
            · intro u hu; simp at hu; subst hu; rfl
            · unfold maxLen; omega
            · omega
            · simp; omega
            · intro v2 w2 hv2 hg2 _
              have hbel2 : Below w.heap.size w w2 := (hbel.alloc hwz _).grown hg2 (by simp; omega) (fun g hg => (hown.lt g hg).1)
              clear hown hbel hwz hg2
              go_wp2_with fail
              go_roundw
              case rel => exact ⟨m + 1, k, l + 1, by omega, by go_num, rfl, hk, by simpa using HS2, Lib.hid (by rw [HX.out, List.length_append, HL.out]; rfl), by omega, by rw [HX.out, List.map_append]; exact hv2, hbel2⟩
              case measure => simp [intOf]; omega
        · have hms := split_miss HO.out HS.out (k := k) (m := m) (fun p hp2 => by
            have := (List.getElem?_eq_some_iff.1 hp2).1
            rw [HL0.out] at this; omega)
          have HX := Lib.hid (lostI_no hms.2)
          have HS2 := Lib.hid hms.1
          clear hrow hrow0 h hms
          go_wp2_with (first
            | (at_builtin; refine wpList_append_row _ elemInt rfl (.tmp 31) (.tmp 33) rfl w.heap.size _ _ _ rfl (hown.alloc _) _ _ 1 1 [.int .i64 m] rfl (Row.newAt _ wr.heap.size rfl _ [.int .i64 m] 1 1 rfl) ?_ ?_ ?_ ?_ ?_))
          · intro u hu; simp at hu; subst hu; rfl
          · unfold maxLen; omega
          · omega
          · simp; omega
          · intro v2 w2 hv2 hg2 _
            have hbel2 : Below w.heap.size w w2 := (hbel.alloc hwz _).grown hg2 (by simp; omega) (fun g hg => (hown.lt g hg).1)
            clear hown hbel hwz hg2
            go_wp2_with fail
            go_roundw
            case rel => exact ⟨m + 1, k, l + 1, by omega, by go_num, rfl, hk, by simpa using HS2, Lib.hid (by rw [HX.out, List.length_append, HL.out]; rfl), by omega, by rw [HX.out, List.map_append]; exact hv2, hbel2⟩
            case measure => simp [intOf]; omega
      · obtain rfl : m = N := by omega
        go_wp2_with fail
        go_ret
        exact ⟨Av, cv, by rw [HL.out]; rfl, by rw [HL.out]; exact hown, hbel⟩
  · have hR : lostOf ps count = [] := if_neg hok
    rw [hR]
    have HV := Lib.hid (implPiecesValid A n c B ps count false w h hB hn hw (bfalse hok))
    clear hok hR
    go_enter Try.func36, Try.ntmps36
    go_wp2_with fail
    refine HV.out.mono ?_
    rintro e w0 ⟨rfl, hb0⟩
    go_wp2_with fail
    go_ret
    exact ⟨none, 0, rfl, ⟨rfl, .inl ⟨rfl, rfl⟩⟩, hb0⟩

end Go.Proofs.Ytjbicmlilgimlaa
