/-
  What JoinPieces returns; its contracts, of the program and of the reference.
-/
import Derived.Test.YtcafejahdiedpaaLost
import Derived.Test.YtcafejahdiedpaaBld
import Derived.Test.YtcafejahdiedpaaRep
namespace Go.Proofs.Ytcafejahdiedpaa
open Go.RowKit
set_option linter.unusedVariables false

/-- The data of pieces below a number, with a filler in place of lost ones. -/
def joinT (ps : List Pc) (fill : ByteArray) : Nat → ByteArray
  | 0 => ByteArray.empty
  | n + 1 => joinT ps fill n ++ (if hasN ps (n : Int) then dataN ps (n : Int) else fill)

theorem joinT_yes {ps : List Pc} {fill : ByteArray} {n : Nat} (h : hasN ps (n : Int) = true) : joinT ps fill (n + 1) = joinT ps fill n ++ dataN ps n := by
  simp only [joinT]; rw [if_pos h]

theorem joinT_no {ps : List Pc} {fill : ByteArray} {n : Nat} (h : hasN ps (n : Int) = false) : joinT ps fill (n + 1) = joinT ps fill n ++ fill := by
  simp only [joinT]; rw [if_neg (by rw [h]; decide)]

theorem joinT_size {ps : List Pc} {fill : ByteArray} {count : Int} (h : pcOk ps count) (hf : fill.size ≤ 64) (n : Nat) : (joinT ps fill n).size ≤ 64 * n := by
  induction n with
  | zero => exact Nat.zero_le _
  | succ n ih =>
    simp only [joinT, ByteArray.size_append]
    have := (dataN_size (m := (n : Int)) h).1
    split <;> omega

/-- When JoinPieces has a result. -/
def joinOk (ps : List Pc) (count size filler : Int) : Prop := pcOk ps count ∧ (1 ≤ size ∧ size ≤ 64) ∧ 0 ≤ filler ∧ filler ≤ 255

instance (ps : List Pc) (count size filler : Int) : Decidable (joinOk ps count size filler) := by unfold joinOk; infer_instance

/-- What JoinPieces returns. -/
def joinP (ps : List Pc) (count size filler : Int) : ByteArray × Bool :=
  if joinOk ps count size filler then (joinT ps (repB ⟨#[UInt8.ofNat filler.toNat]⟩ size.toNat) count.toNat, true) else (ByteArray.empty, false)

theorem joinP_no {ps : List Pc} {count size filler : Int} (h : ¬ joinOk ps count size filler) : joinP ps count size filler = (ByteArray.empty, false) := if_neg h

theorem joinP_yes {ps : List Pc} {n z f : Nat} (h1 : pcOk ps n) (h2 : 1 ≤ z ∧ z ≤ 64) (h3 : f ≤ 255) : joinP ps n z f = (joinT ps (repB ⟨#[UInt8.ofNat f]⟩ z) n, true) := by
  unfold joinP
  rw [if_pos ⟨h1, ⟨by omega, by omega⟩, by omega, by omega⟩]
  simp only [Int.toNat_natCast]

theorem one_fill (f : Nat) (z : Nat) : (repB ⟨#[UInt8.ofNat f]⟩ z).size = z := by
  rw [repB_size]; show 1 * z = z; omega

theorem not_join_1 {ps : List Pc} {count size filler : Int} (h : ¬ pcOk ps count) : ¬ joinOk ps count size filler := fun h' => h h'.1
theorem not_join_2 {ps : List Pc} {count size filler : Int} (h : ¬ (1 ≤ size ∧ size ≤ 64)) : ¬ joinOk ps count size filler := fun h' => h h'.2.1
theorem not_join_3 {ps : List Pc} {count size filler : Int} (h : ¬ (0 ≤ filler ∧ filler ≤ 255)) : ¬ joinOk ps count size filler := fun h' => h h'.2.2

set_option maxHeartbeats 4000000 in
theorem implJoinPieces (A : Option Addr) (n c B : Nat) (ps : List Pc) (count size filler : Int) (w : World) (h : Row w B 2 A n (cellsP ps)) (hB : B ≤ w.heap.size) (hn : n ≤ 1048576) (hw : ∀ p ∈ ps, p.wf)
    (hf1 : -9223372036854775808 ≤ filler) (hf2 : filler ≤ 9223372036854775807) :
    Calls Try.prog 37 #[.slice A n c, .int .i64 count, .int .i64 size, .int .i64 filler] w fun e w' => e = .returned (.tuple #[.string (joinP ps count size filler).1, .bool (joinP ps count size filler).2]) ∧ Below w.heap.size w w' := by
  by_cases hok : pcOk ps count
  · have HV := Lib.hid (implPiecesValid A n c B ps count true w h hB hn hw (btrue hok))
    by_cases hz : 1 ≤ size ∧ size ≤ 64
    · have HZ := Lib.hid (fun W => implSizeValid' size true W (btrue hz))
      by_cases hf : 0 ≤ filler ∧ filler ≤ 255
      · obtain ⟨N, rfl⟩ := Int.eq_ofNat_of_zero_le hok.1
        obtain ⟨z, rfl⟩ := Int.eq_ofNat_of_zero_le (show 0 ≤ size by omega)
        obtain ⟨f, rfl⟩ := Int.eq_ofNat_of_zero_le hf.1
        have hN : N ≤ 40 := by have := hok.2.1; omega
        have hf256 : f < 256 := by omega
        have hz64 : z ≤ 64 := by omega
        have hz1 : 1 ≤ z := by omega
        obtain ⟨F, hF⟩ : ∃ F, repB ⟨#[UInt8.ofNat f]⟩ z = F := ⟨_, rfl⟩
        have hFz : F.size = z := by rw [← hF]; exact one_fill f z
        have HRET := Lib.hid (ret_sb (joinP_yes (ps := ps) hok ⟨hz1, hz64⟩ (show f ≤ 255 by omega)))
        rw [hF] at HRET
        have HR := Lib.hid (fun W => Try.strings_Repeat ⟨#[UInt8.ofNat f]⟩ z W (by omega) (by show 1 * z ≤ _; omega))
        rw [repL_eq, hF] at HR
        have HSZ := Lib.hid (fun m => joinT_size (fill := F) hok (by omega) m)
        have HDS := Lib.hid (fun m => dataN_size (m := m) hok)
        have HO := Lib.hid hok
        have hlen := h.len2
        have HL0 := Lib.hid hlen
        have hcv := run_one_byte (P := Try.prog) Try.underlying52 Try.underlying5 Try.underlying9 f hf256
        have wf8 : IntKind.u8.wrap (f : Int) = f := by simp [IntKind.wrap, IntKind.signed, IntKind.bits]; omega
        have hF64 : F.size ≤ 64 := by omega
        clear hok hz hf hF hFz hlen hf1 hf2
        go_enter Try.func37, Try.ntmps37
        go_wp2_with fail
        refine HV.out.mono ?_
        rintro e w0 ⟨rfl, hb0⟩
        have hrow0 := h.below hb0 hB
        have hB0 : B ≤ w0.heap.size := Nat.le_trans hB hb0.size
        have hz0 := hb0.size
        go_wp2_with fail
        refine (HZ.out _).mono ?_
        rintro e w1 ⟨rfl, rfl⟩
        go_wp2_with fail
        refine (HR.out _).mono ?_
        rintro e w2 ⟨rfl, hb2⟩
        have hb02 : Below w.heap.size w w2 := (hb0.alloc hz0 _).trans (hb2.mono (by simp; omega))
        have hrow2 := h.below hb02 hB
        have hz2 := hb02.size
        clear hb2 hb0 hrow0 hcv wf8 h
        go_wp2_with fail
        go_loopw [12, 38] (fun a i wr => ∃ (m k : Nat), m ≤ N ∧ i = .int .i64 m ∧ a = .int .i64 k ∧ k ≤ n ∧ Hid (SplitAt ps k m) ∧ Bld wr w2.heap.size w2.heap.size (joinT ps F m) ∧ Below w2.heap.size w2 wr) (fun _ i _ => N - (intOf i).toNat)
        case atStart => exact ⟨0, 0, Nat.zero_le _, rfl, rfl, Nat.zero_le _, Lib.hid (split_zero HO.out), Bld.new w2, (Below.refl _ _).alloc (Nat.le_refl _) _⟩
        case round =>
          obtain ⟨m, k, hm, rfl, rfl, hk, HS, hbld, hbel⟩ := hrel
          have hwz := hbel.size
          have hts := HSZ.out m
          by_cases hlt : m < N
          · have hrow := hrow2.below hbel (by omega)
            by_cases hkn : k < n
            · obtain ⟨⟨num, data⟩, hp⟩ : ∃ p, ps[k]? = some p := ⟨_, List.getElem?_eq_getElem (by rw [HL0.out]; exact hkn)⟩
              obtain ⟨g, off, hA, hg, p0, p1⟩ := hrow.pc hkn hp
              subst hA
              by_cases hnm : num = m
              · have hy := joinT_yes (fill := F) (split_has hp hnm)
                have hd : dataN ps (m : Int) = data := by
                  obtain ⟨q, hq, hqn, hqd⟩ := dataN_mem (split_has hp hnm)
                  rw [hqd]
                  obtain ⟨i, hi⟩ := List.getElem?_of_mem hq
                  have : i = k := by
                    rcases Nat.lt_trichotomy i k with h1 | h1 | h1
                    · have := pcOk_asc HO.out h1 hi hp; simp only at this; omega
                    · exact h1
                    · have := pcOk_asc HO.out h1 hp hi; simp only at this; omega
                  subst this
                  rw [hp] at hi; injection hi with hi; subst hi; rfl
                rw [hd] at hy
                have hds := (HDS.out m).1
                rw [hd] at hds
                have HS2 := Lib.hid (split_hit HO.out HS.out hp hnm)
                obtain ⟨t, ht⟩ : ∃ t, joinT ps F m = t := ⟨_, rfl⟩
                rw [ht] at hy hbld hts
                have HX := Lib.hid hy
                subst hnm
                clear hp hrow hd ht hy
                go_wp2_with fail
                refine (bldWrite _ _ t data _ hbld (by omega)).mono ?_
                rintro e w3 ⟨rfl, hbld3, hb3⟩
                have hbel3 := hbel.trans (hb3.mono (Nat.le_refl _))
                clear hbld hb3
                go_wp2_with fail
                go_roundw
                case rel => exact ⟨m + 1, k + 1, by omega, by go_num, by go_num, by omega, by simpa using HS2, by rw [HX.out]; exact hbld3, hbel3⟩
                case measure => simp [intOf]; omega
              · have hms := split_miss HO.out HS.out (k := k) (m := m) (fun p hp2 => by rw [hp] at hp2; injection hp2 with hp2; subst hp2; exact hnm)
                have hy := joinT_no (fill := F) hms.2
                have HS2 := Lib.hid hms.1
                have hne : (num == (m : Int)) = false := by rw [beq_eq_false_iff_ne]; exact hnm
                obtain ⟨t, ht⟩ : ∃ t, joinT ps F m = t := ⟨_, rfl⟩
                rw [ht] at hy hbld hts
                have HX := Lib.hid hy
                clear hp hrow hms hnm ht hy
                go_wp2_with fail
                refine (bldWrite _ _ t F _ hbld (by omega)).mono ?_
                rintro e w3 ⟨rfl, hbld3, hb3⟩
                have hbel3 := hbel.trans (hb3.mono (Nat.le_refl _))
                clear hbld hb3
                go_wp2_with fail
                go_roundw
                case rel => exact ⟨m + 1, k, by omega, by go_num, rfl, hk, by simpa using HS2, by rw [HX.out]; exact hbld3, hbel3⟩
                case measure => simp [intOf]; omega
            · have hms := split_miss HO.out HS.out (k := k) (m := m) (fun p hp2 => by
                have := (List.getElem?_eq_some_iff.1 hp2).1
                rw [HL0.out] at this; omega)
              have hy := joinT_no (fill := F) hms.2
              have HS2 := Lib.hid hms.1
              obtain ⟨t, ht⟩ : ∃ t, joinT ps F m = t := ⟨_, rfl⟩
              rw [ht] at hy hbld hts
              have HX := Lib.hid hy
              clear hrow hms ht hy
              go_wp2_with fail
              refine (bldWrite _ _ t F _ hbld (by omega)).mono ?_
              rintro e w3 ⟨rfl, hbld3, hb3⟩
              have hbel3 := hbel.trans (hb3.mono (Nat.le_refl _))
              clear hbld hb3
              go_wp2_with fail
              go_roundw
              case rel => exact ⟨m + 1, k, by omega, by go_num, rfl, hk, by simpa using HS2, by rw [HX.out]; exact hbld3, hbel3⟩
              case measure => simp [intOf]; omega
          · obtain rfl : m = N := by omega
            go_wp2_with fail
            refine (bldString _ _ _ _ hbld).mono ?_
            rintro e w3 ⟨rfl, hb3⟩
            go_wp2_with fail
            go_ret2
            exact ⟨HRET.out, hb02.trans ((hbel.trans (hb3.mono (Nat.le_refl _))).mono hz2)⟩
      · have HRET := Lib.hid (ret_sb (joinP_no (not_join_3 (ps := ps) (count := count) (size := size) hf)))
        have hc : filler < 0 ∨ 255 < filler := by omega
        clear hok hz hf
        rcases hc with hc | hc
        all_goals
          go_enter Try.func37, Try.ntmps37
          go_wp2_with fail
          refine HV.out.mono ?_
          rintro e w0 ⟨rfl, hb0⟩
          go_wp2_with fail
          refine (HZ.out _).mono ?_
          rintro e w1 ⟨rfl, rfl⟩
          go_wp2_with fail
          go_ret2
          exact ⟨HRET.out, hb0⟩
    · have HZ := Lib.hid (fun W => implSizeValid' size false W (bfalse hz))
      have HRET := Lib.hid (ret_sb (joinP_no (not_join_2 (ps := ps) (count := count) (filler := filler) hz)))
      clear hok hz
      go_enter Try.func37, Try.ntmps37
      go_wp2_with fail
      refine HV.out.mono ?_
      rintro e w0 ⟨rfl, hb0⟩
      go_wp2_with fail
      refine (HZ.out _).mono ?_
      rintro e w1 ⟨rfl, rfl⟩
      go_wp2_with fail
      go_ret2
      exact ⟨HRET.out, hb0⟩
  · have HV := Lib.hid (implPiecesValid A n c B ps count false w h hB hn hw (bfalse hok))
    have HRET := Lib.hid (ret_sb (joinP_no (not_join_1 (size := size) (filler := filler) hok)))
    clear hok
    go_enter Try.func37, Try.ntmps37
    go_wp2_with fail
    refine HV.out.mono ?_
    rintro e w0 ⟨rfl, hb0⟩
    go_wp2_with fail
    go_ret2
    exact ⟨HRET.out, hb0⟩

set_option maxHeartbeats 4000000 in
theorem specJoinPieces (A : Option Addr) (n c B : Nat) (ps : List Pc) (count size filler : Int) (w : World) (h : Row w B 2 A n (cellsP ps)) (hB : B ≤ w.heap.size) (hn : n ≤ 1048576) (hw : ∀ p ∈ ps, p.wf)
    (hcl : -9223372036854775808 ≤ count) (hch : count ≤ 9223372036854775807) (hf1 : -9223372036854775808 ≤ filler) (hf2 : filler ≤ 9223372036854775807) :
    Calls Try.prog 35 #[.slice A n c, .int .i64 count, .int .i64 size, .int .i64 filler] w fun e w' => e = .returned (.tuple #[.string (joinP ps count size filler).1, .bool (joinP ps count size filler).2]) ∧ Below w.heap.size w w' := by
  by_cases hok : pcOk ps count
  · have HV := Lib.hid (specL7Pieces A n c B ps count true w h hB hn hw hcl hch (btrue hok))
    by_cases hz : 1 ≤ size ∧ size ≤ 64
    · have HZ := Lib.hid (fun W => specL1In size 1 64 true W (btrue hz))
      by_cases hf : 0 ≤ filler ∧ filler ≤ 255
      · have HFF := Lib.hid (fun W => specL1In filler 0 255 true W (btrue hf))
        obtain ⟨N, rfl⟩ := Int.eq_ofNat_of_zero_le hok.1
        obtain ⟨z, rfl⟩ := Int.eq_ofNat_of_zero_le (show 0 ≤ size by omega)
        obtain ⟨f, rfl⟩ := Int.eq_ofNat_of_zero_le hf.1
        have hN : N ≤ 40 := by have := hok.2.1; omega
        have hf256 : f < 256 := by omega
        have hz64 : z ≤ 64 := by omega
        have hz1 : 1 ≤ z := by omega
        obtain ⟨F, hF⟩ : ∃ F, repB ⟨#[UInt8.ofNat f]⟩ z = F := ⟨_, rfl⟩
        have hFz : F.size = z := by rw [← hF]; exact one_fill f z
        have HRET := Lib.hid (ret_sb (joinP_yes (ps := ps) hok ⟨hz1, hz64⟩ (show f ≤ 255 by omega)))
        rw [hF] at HRET
        have hr := fun W => specL9Many ⟨#[UInt8.ofNat f]⟩ z W (by show 1 ≤ _; omega) (by omega) (by rw [Int.toNat_natCast]; show 1 * z ≤ _; omega)
        rw [Int.toNat_natCast, hF] at hr
        have HR := Lib.hid hr
        have HSZ := Lib.hid (fun m => joinT_size (fill := F) hok (by omega) m)
        have HDS := Lib.hid (fun m => dataN_size (m := m) hok)
        have HNO := Lib.hid (fun m (hm : hasN ps m = false) => dataN_not hm)
        have hcv := run_one_byte (P := Try.prog) Try.underlying52 Try.underlying5 Try.underlying9 f hf256
        have wf8 : IntKind.u8.wrap (f : Int) = f := by simp [IntKind.wrap, IntKind.signed, IntKind.bits]; omega
        have hF64 : F.size ≤ 64 := by omega
        clear hok hz hf hF hFz hf1 hf2 hcl hch hr
        go_enter Try.func35, Try.ntmps35
        go_wp2_with fail
        refine HV.out.mono ?_
        rintro e w0 ⟨rfl, hd0⟩
        have hb0 := hd0.below w.heap.size
        have hrow0 := h.below hb0 hB
        have hz0 := hb0.size
        clear hd0
        go_wp2_with fail
        refine (HZ.out _).mono ?_
        rintro e w1 ⟨rfl, rfl⟩
        go_wp2_with fail
        refine (HFF.out _).mono ?_
        rintro e w1 ⟨rfl, rfl⟩
        go_wp2_with fail
        go_loopw [10, 11] (fun v i wr => ∃ (m : Nat), m ≤ N ∧ i = .int .i64 m ∧ v = .string (joinT ps F m) ∧ Below w.heap.size w wr) (fun _ i _ => N - (intOf i).toNat)
        case atStart => exact ⟨0, Nat.zero_le _, rfl, rfl, hb0⟩
        case round =>
          obtain ⟨m, hm, rfl, rfl, hbel⟩ := hrel
          have hwz := hbel.size
          have hts := HSZ.out m
          by_cases hlt : m < N
          · have hrow := h.below hbel hB
            have HH := Lib.hid (specL7Has A n c B ps m wr hrow hn)
            obtain ⟨t, ht⟩ : ∃ t, joinT ps F m = t := ⟨_, rfl⟩
            obtain ⟨d, hd⟩ : ∃ d, dataN ps (m : Int) = d := ⟨_, rfl⟩
            have hds := HDS.out (m : Int)
            rw [hd] at HH hds
            rw [ht] at hts ⊢
            rcases hh : hasN ps (m : Int) with _ | _
            · have hy := joinT_no (fill := F) hh
              rw [ht] at hy
              have hde : d = ByteArray.empty := by rw [← hd]; exact HNO.out _ hh
              subst hde
              have hadd : ∀ W, (Op.stringOp .add t F).run Try.prog W = .ok (.string (t ++ F)) W := fun W => run_string_add_sum W _ _ (by omega)
              have HX := Lib.hid hy
              clear ht hd hds hh hy hrow hrow0
              go_wp2_with fail
              refine HH.out.mono ?_
              rintro e w2 ⟨rfl, rfl⟩
              go_wp2_with fail
              refine (HR.out _).mono ?_
              rintro e w2 ⟨rfl, rfl⟩
              go_wp2_with fail
              go_roundw
              case rel => exact ⟨m + 1, by omega, by go_num, by rw [HX.out], hbel.alloc hwz _⟩
              case measure => simp [intOf]; omega
            · have hy := joinT_yes (fill := F) hh
              rw [ht, hd] at hy
              have hd1 := hds.2 hh
              have hd2 := hds.1
              have hne : ¬ d.toList = [] := fun h => by
                have := ba_nil h
                subst this
                exact absurd hd1 (by decide)
              have hne2 : d.toList.isEmpty = false := by cases hd3 : d.toList with
                | nil => exact absurd hd3 hne
                | cons a b => rfl
              have hadd : ∀ W, (Op.stringOp .add t d).run Try.prog W = .ok (.string (t ++ d)) W := fun W => run_string_add_sum W _ _ (by omega)
              have HX := Lib.hid hy
              clear ht hd hds hh hy hrow hrow0
              go_wp2_with fail
              refine HH.out.mono ?_
              rintro e w2 ⟨rfl, rfl⟩
              go_wp2_with fail
              go_roundw
              case rel => exact ⟨m + 1, by omega, by go_num, by rw [HX.out], hbel⟩
              case measure => simp [intOf]; omega
          · obtain rfl : m = N := by omega
            go_wp2_with fail
            go_ret2
            exact ⟨HRET.out, hbel⟩
      · have HRET := Lib.hid (ret_sb (joinP_no (not_join_3 (ps := ps) (count := count) (size := size) hf)))
        have HFF := Lib.hid (fun W => specL1In filler 0 255 false W (bfalse hf))
        clear hok hz hf
        go_enter Try.func35, Try.ntmps35
        go_wp2_with fail
        refine HV.out.mono ?_
        rintro e w0 ⟨rfl, hb0⟩
        go_wp2_with fail
        refine (HZ.out _).mono ?_
        rintro e w1 ⟨rfl, rfl⟩
        go_wp2_with fail
        refine (HFF.out _).mono ?_
        rintro e w1 ⟨rfl, rfl⟩
        go_wp2_with fail
        go_ret2
        exact ⟨HRET.out, hb0.below _⟩
    · have HZ := Lib.hid (fun W => specL1In size 1 64 false W (bfalse hz))
      have HRET := Lib.hid (ret_sb (joinP_no (not_join_2 (ps := ps) (count := count) (filler := filler) hz)))
      clear hok hz
      go_enter Try.func35, Try.ntmps35
      go_wp2_with fail
      refine HV.out.mono ?_
      rintro e w0 ⟨rfl, hb0⟩
      go_wp2_with fail
      refine (HZ.out _).mono ?_
      rintro e w1 ⟨rfl, rfl⟩
      go_wp2_with fail
      go_ret2
      exact ⟨HRET.out, hb0.below _⟩
  · have HV := Lib.hid (specL7Pieces A n c B ps count false w h hB hn hw hcl hch (bfalse hok))
    have HRET := Lib.hid (ret_sb (joinP_no (not_join_1 (size := size) (filler := filler) hok)))
    clear hok
    go_enter Try.func35, Try.ntmps35
    go_wp2_with fail
    refine HV.out.mono ?_
    rintro e w0 ⟨rfl, hb0⟩
    go_wp2_with fail
    go_ret2
    exact ⟨HRET.out, hb0.below _⟩

end Go.Proofs.Ytcafejahdiedpaa
