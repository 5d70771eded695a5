/-
  The walk of the law FnPatchText: it returns true for all drawn patches and texts.
-/
import Derived.Test.YtlcflddjbhlloaaDoorPatchMath
import Derived.Test.YtlcflddjbhlloaaDoorParsePatchI
import Derived.Test.YtlcflddjbhlloaaDoorDrawText
namespace Go.Proofs.YtlcflddjbhlloaaDoor
open Go.RowKit
set_option linter.unusedVariables false

theorem pp_fmt (t : ByteArray) : (ppOf t).ok = true → fmtO (ppOf t).f (ppOf t).t (ppOf t).d = t := by
  unfold ppOf
  split
  · split
    · rename_i hc
      intro _
      simp only
      unfold fmtO
      rw [if_pos hc.1]
      exact hc.2.symm
    · intro h; cases h
  · intro h; cases h

theorem mid_lists (A D B : List UInt8) (i u : Nat) (hA : A.length = i) (hD : i + D.length = u) :
    (A ++ D ++ B).take i = A ∧ ((A ++ D ++ B).take u).drop i = D ∧ (A ++ D ++ B).drop u = B := by
  subst hA
  have e : u = (A ++ D).length := by simp; omega
  subst e
  refine ⟨by rw [List.append_assoc, List.take_left'] ; rfl, ?_, by rw [List.drop_left']; rfl⟩
  rw [List.take_left' rfl, List.drop_left' rfl]

/-- A patch that fits is undone by its inverse, whose inverse it is. -/
theorem undo {s d : ByteArray} {f t : Int} (h : pfits s.size f t d.size) : ∃ (i j u : Nat) (x : ByteArray), f = i ∧ t = j ∧ apl s i j d = (x, true) ∧ inv s i j d = ⟨i, u, s.extract i j, true⟩ ∧
    apl x i u (s.extract i j) = (s, true) ∧ inv x i u (s.extract i j) = ⟨i, j, d, true⟩ ∧ x.size ≤ 2000 ∧ (s.extract i j).size ≤ 2000 := by
  have h' := h
  unfold pfits at h'
  obtain ⟨i, rfl⟩ := Int.eq_ofNat_of_zero_le (show 0 ≤ f by omega)
  obtain ⟨j, rfl⟩ := Int.eq_ofNat_of_zero_le (show 0 ≤ t by omega)
  have hij : i ≤ j := by omega
  have hjs : j ≤ s.size := by omega
  obtain ⟨x, hx⟩ : ∃ x, s.extract 0 i ++ d ++ s.extract j s.size = x := ⟨_, rfl⟩
  have hxz : x.size = i + d.size + (s.size - j) := by rw [← hx]; simp only [ByteArray.size_append, ByteArray.size_extract]; omega
  have hyz : (s.extract i j).size = j - i := by simp; omega
  have hA : (s.extract 0 i).data.toList.length = i := by rw [ext_list]; simp; omega
  have hxl : x.data.toList = (s.extract 0 i).data.toList ++ d.data.toList ++ (s.extract j s.size).data.toList := by rw [← hx]; simp
  obtain ⟨m1, m2, m3⟩ := mid_lists (s.extract 0 i).data.toList d.data.toList (s.extract j s.size).data.toList i (i + d.size) hA (by simp)
  rw [← hxl] at m1 m2 m3
  have x1 : x.extract 0 i = s.extract 0 i := by apply ba_ext_list; rw [ext_list, List.drop_zero, m1]
  have x2 : x.extract i (i + d.size) = d := by apply ba_ext_list; rw [ext_list, m2]
  have x3 : x.extract (i + d.size) x.size = s.extract j s.size := by
    apply ba_ext_list
    rw [ext_list, List.take_of_length_le (by simp), m3]
  refine ⟨i, j, i + d.size, x, rfl, rfl, ?_, ?_, ?_, ?_, by omega, by omega⟩
  · unfold apl
    rw [if_pos h, Int.toNat_natCast, Int.toNat_natCast, hx]
  · rw [inv_yes h]; congr 1
  · unfold apl
    rw [if_pos (by unfold pfits; omega), Int.toNat_natCast, Int.toNat_natCast, x1, x3, three_parts s i j hij hjs]
  · rw [inv_yes (by unfold pfits; omega), x2, hyz]
    congr 1
    omega

set_option maxHeartbeats 8000000 in
set_option maxRecDepth 100000 in
theorem lawFnPatchText (A : Option Addr) (n c : Nat) (bs : List UInt8) (A2 : Option Addr) (n2 c2 : Nat) (bs2 : List UInt8) (w : World) (h : ByteRow w A n bs) (hnc : n ≤ c) (h2 : ByteRow w A2 n2 bs2) (hnc2 : n2 ≤ c2) (hL : LaidW w) :
    Calls Tryd.prog 5 #[.slice A n c, .slice A2 n2 c2] w fun e w' => e = .returned (.bool true) ∧ Below w.heap.size w w' := by
  have hle := h.le
  have hle2 := h2.le
  unfold maxLen at hle hle2
  by_cases hn : n ≤ 1048576
  · by_cases hn2 : n2 ≤ 1048576
    · go_enter Tryd.func5, Tryd.ntmps5
      go_wp2_with fail
      refine (specDrawInvertPatch A n c bs _ h hnc).mono ?_
      rintro e w1 ⟨s, f, t, d, rfl, hs, hd, hb1⟩
      have P0 := Lib.hid hb1
      clear hb1
      by_cases hpf : pfits s.size f t d.size
      · obtain ⟨i, j, u, x, rfl, rfl, e1, e2, e3, e4, hxz, hyz⟩ := undo hpf
        have FI := fun W => implInvertPatch s i j d W (by omega) (by omega)
        have FS := fun W => specInvertPatch s i j d W (by omega) (by omega)
        have FA := fun W => implApplyPatch s i j d W (by omega) (by omega)
        obtain ⟨y, hy⟩ : ∃ y, s.extract i j = y := ⟨_, rfl⟩
        rw [hy] at e2 e3 e4 hyz
        rw [e2] at FI FS
        rw [e1] at FA
        have FB := fun W => implApplyPatch x i u y W (by omega) (by omega)
        rw [e3] at FB
        have FC := fun W => implInvertPatch x i u y W (by omega) (by omega)
        rw [e4] at FC
        unfold PB.val at FI FS FC
        have FI := Lib.hid FI
        have FS := Lib.hid FS
        have FA := Lib.hid FA
        have FB := Lib.hid FB
        have FC := Lib.hid FC
        clear e1 e2 e3 e4 hxz hyz hy hpf
        go_upto_region 4 with fail
        have P2 := Lib.hid (And.intro (show BoxAt (w1.alloc (.cells #[.int .i64 (i : Int), .int .i64 (j : Int), .string d] 23)) w1.heap.size (i : Int) (j : Int) d from heap_alloc_new w1 _) ((P0.out).alloc (P0.out).size (.cells #[.int .i64 (i : Int), .int .i64 (j : Int), .string d] 23)))
        clear P0
        generalize w1.alloc (.cells #[.int .i64 (i : Int), .int .i64 (j : Int), .string d] 23) = w2 at P2 ⊢
        generalize w1.heap.size = gp at P2 ⊢
        obtain ⟨c2_0a, c2_0b, c2_0c, c2_0f⟩ := (P2.out.1).cells
        go_wp2_with fail
        refine (FI.out _).mono ?_
        rintro e w3 ⟨rfl, hb3⟩
        have P3 := Lib.hid (And.intro ((P2.out.1).below hb3 (Nat.le_refl _)) ((P2.out.2).trans (hb3.mono (P2.out.2).size)))
        clear c2_0a c2_0b c2_0c c2_0f
        clear hb3 P2
        go_upto_region 5 with fail
        have P4 := Lib.hid (And.intro ((P3.out.1).alloc (.cells #[.int .i64 (i : Int), .int .i64 (u : Int), .string y] 23)) (And.intro (show BoxAt (w3.alloc (.cells #[.int .i64 (i : Int), .int .i64 (u : Int), .string y] 23)) w3.heap.size (i : Int) (u : Int) y from heap_alloc_new w3 _) ((P3.out.2).alloc (P3.out.2).size (.cells #[.int .i64 (i : Int), .int .i64 (u : Int), .string y] 23))))
        clear P3
        generalize w3.alloc (.cells #[.int .i64 (i : Int), .int .i64 (u : Int), .string y] 23) = w4 at P4 ⊢
        generalize w3.heap.size = gq at P4 ⊢
        obtain ⟨c4_0a, c4_0b, c4_0c, c4_0f⟩ := (P4.out.1).cells
        go_wp2_with fail
        refine (FS.out _).mono ?_
        rintro e w5 ⟨rfl, hb5⟩
        have P5 := Lib.hid (And.intro ((P4.out.1).below hb5 (Nat.le_refl _)) (And.intro ((P4.out.2.1).below hb5 (Nat.le_refl _)) ((P4.out.2.2).trans (hb5.mono (P4.out.2.2).size))))
        clear c4_0a c4_0b c4_0c c4_0f
        clear hb5 P4
        go_upto_region 6 with fail
        have P6 := Lib.hid (And.intro ((P5.out.1).alloc (.cells #[.int .i64 (i : Int), .int .i64 (u : Int), .string y] 23)) (And.intro ((P5.out.2.1).alloc (.cells #[.int .i64 (i : Int), .int .i64 (u : Int), .string y] 23)) (And.intro (show BoxAt (w5.alloc (.cells #[.int .i64 (i : Int), .int .i64 (u : Int), .string y] 23)) w5.heap.size (i : Int) (u : Int) y from heap_alloc_new w5 _) ((P5.out.2.2).alloc (P5.out.2.2).size (.cells #[.int .i64 (i : Int), .int .i64 (u : Int), .string y] 23)))))
        clear P5
        generalize w5.alloc (.cells #[.int .i64 (i : Int), .int .i64 (u : Int), .string y] 23) = w6 at P6 ⊢
        generalize w5.heap.size = gw at P6 ⊢
        obtain ⟨c6_0a, c6_0b, c6_0c, c6_0f⟩ := (P6.out.1).cells
        go_wp2_with fail
        refine (FA.out _).mono ?_
        rintro e w7 ⟨rfl, hb7⟩
        have P7 := Lib.hid (And.intro ((P6.out.1).below hb7 (Nat.le_refl _)) (And.intro ((P6.out.2.1).below hb7 (Nat.le_refl _)) (And.intro ((P6.out.2.2.1).below hb7 (Nat.le_refl _)) ((P6.out.2.2.2).trans (hb7.mono (P6.out.2.2.2).size)))))
        clear c6_0a c6_0b c6_0c c6_0f
        clear hb7 P6
        obtain ⟨c7_1a, c7_1b, c7_1c, c7_1f⟩ := (P7.out.2.1).cells
        obtain ⟨c7_2a, c7_2b, c7_2c, c7_2f⟩ := (P7.out.2.2.1).cells
        go_wp2_with fail
        refine (FB.out _).mono ?_
        rintro e w8 ⟨rfl, hb8⟩
        have P8 := Lib.hid (And.intro ((P7.out.1).below hb8 (Nat.le_refl _)) (And.intro ((P7.out.2.1).below hb8 (Nat.le_refl _)) (And.intro ((P7.out.2.2.1).below hb8 (Nat.le_refl _)) ((P7.out.2.2.2).trans (hb8.mono (P7.out.2.2.2).size)))))
        clear c7_1a c7_1b c7_1c c7_1f c7_2a c7_2b c7_2c c7_2f
        clear hb8 P7
        obtain ⟨c8_1a, c8_1b, c8_1c, c8_1f⟩ := (P8.out.2.1).cells
        go_wp2_with fail
        refine (FC.out _).mono ?_
        rintro e w9 ⟨rfl, hb9⟩
        have P9 := Lib.hid (And.intro ((P8.out.1).below hb9 (Nat.le_refl _)) (And.intro ((P8.out.2.1).below hb9 (Nat.le_refl _)) (And.intro ((P8.out.2.2.1).below hb9 (Nat.le_refl _)) ((P8.out.2.2.2).trans (hb9.mono (P8.out.2.2.2).size)))))
        clear c8_1a c8_1b c8_1c c8_1f
        clear hb9 P8
        go_upto_region 11 with fail
        have P10 := Lib.hid (And.intro ((P9.out.1).alloc (.cells #[.int .i64 (i : Int), .int .i64 (j : Int), .string d] 23)) (And.intro ((P9.out.2.1).alloc (.cells #[.int .i64 (i : Int), .int .i64 (j : Int), .string d] 23)) (And.intro ((P9.out.2.2.1).alloc (.cells #[.int .i64 (i : Int), .int .i64 (j : Int), .string d] 23)) (And.intro (show BoxAt (w9.alloc (.cells #[.int .i64 (i : Int), .int .i64 (j : Int), .string d] 23)) w9.heap.size (i : Int) (j : Int) d from heap_alloc_new w9 _) ((P9.out.2.2.2).alloc (P9.out.2.2.2).size (.cells #[.int .i64 (i : Int), .int .i64 (j : Int), .string d] 23))))))
        clear P9
        generalize w9.alloc (.cells #[.int .i64 (i : Int), .int .i64 (j : Int), .string d] 23) = w10 at P10 ⊢
        generalize w9.heap.size = gr at P10 ⊢
        go_wp2_with fail
        refine (specDrawParsePatch A2 n2 c2 bs2 _ (h2.below P10.out.2.2.2.2) hnc2).mono ?_
        rintro e w11 ⟨T, rfl, hTz, hb11⟩
        have P11 := Lib.hid (And.intro ((P10.out.1).below hb11 (Nat.le_refl _)) (And.intro ((P10.out.2.1).below hb11 (Nat.le_refl _)) (And.intro ((P10.out.2.2.1).below hb11 (Nat.le_refl _)) (And.intro ((P10.out.2.2.2.1).below hb11 (Nat.le_refl _)) ((P10.out.2.2.2.2).trans (hb11.mono (P10.out.2.2.2.2).size))))))
        clear hb11 P10
        have GI := fun W hl => implParsePatch T W (by omega) hl
        have GS := fun W => specParsePatch T W (by omega)
        have hpf := pp_fmt T
        obtain ⟨PP, hPP⟩ : ∃ P, ppOf T = P := ⟨_, rfl⟩
        rw [hPP] at GI GS hpf
        obtain ⟨F, V, D, b⟩ := PP
        unfold PB.val at GI GS
        simp only at hpf
        have GF := fun W hl => implFormatPatch F V D W hl
        have GI := Lib.hid GI
        have GS := Lib.hid GS
        have GF := Lib.hid GF
        have HPF := Lib.hid hpf
        clear hPP hpf hTz
        have hLa := hL.below P11.out.2.2.2.2 (Nat.le_refl _)
        go_wp2_with fail
        refine (GI.out _ hLa).mono ?_
        rintro e w12 ⟨rfl, hb12⟩
        have P12 := Lib.hid (And.intro ((P11.out.1).below hb12 (Nat.le_refl _)) (And.intro ((P11.out.2.1).below hb12 (Nat.le_refl _)) (And.intro ((P11.out.2.2.1).below hb12 (Nat.le_refl _)) (And.intro ((P11.out.2.2.2.1).below hb12 (Nat.le_refl _)) ((P11.out.2.2.2.2).trans (hb12.mono (P11.out.2.2.2.2).size))))))
        clear hb12 P11
        clear hLa
        go_upto_region 13 with fail
        have P13 := Lib.hid (And.intro ((P12.out.1).alloc (.cells #[.int .i64 F, .int .i64 V, .string D] 23)) (And.intro ((P12.out.2.1).alloc (.cells #[.int .i64 F, .int .i64 V, .string D] 23)) (And.intro ((P12.out.2.2.1).alloc (.cells #[.int .i64 F, .int .i64 V, .string D] 23)) (And.intro ((P12.out.2.2.2.1).alloc (.cells #[.int .i64 F, .int .i64 V, .string D] 23)) (And.intro (show BoxAt (w12.alloc (.cells #[.int .i64 F, .int .i64 V, .string D] 23)) w12.heap.size F V D from heap_alloc_new w12 _) ((P12.out.2.2.2.2).alloc (P12.out.2.2.2.2).size (.cells #[.int .i64 F, .int .i64 V, .string D] 23)))))))
        clear P12
        generalize w12.alloc (.cells #[.int .i64 F, .int .i64 V, .string D] 23) = w13 at P13 ⊢
        generalize w12.heap.size = gg at P13 ⊢
        go_wp2_with fail
        refine (GS.out _).mono ?_
        rintro e w14 ⟨rfl, hb14⟩
        have P14 := Lib.hid (And.intro ((P13.out.1).below hb14 (Nat.le_refl _)) (And.intro ((P13.out.2.1).below hb14 (Nat.le_refl _)) (And.intro ((P13.out.2.2.1).below hb14 (Nat.le_refl _)) (And.intro ((P13.out.2.2.2.1).below hb14 (Nat.le_refl _)) (And.intro ((P13.out.2.2.2.2.1).below hb14 (Nat.le_refl _)) ((P13.out.2.2.2.2.2).trans (hb14.mono (P13.out.2.2.2.2.2).size)))))))
        clear hb14 P13
        go_upto_region 14 with fail
        have P15 := Lib.hid (And.intro ((P14.out.1).alloc (.cells #[.int .i64 F, .int .i64 V, .string D] 23)) (And.intro ((P14.out.2.1).alloc (.cells #[.int .i64 F, .int .i64 V, .string D] 23)) (And.intro ((P14.out.2.2.1).alloc (.cells #[.int .i64 F, .int .i64 V, .string D] 23)) (And.intro ((P14.out.2.2.2.1).alloc (.cells #[.int .i64 F, .int .i64 V, .string D] 23)) (And.intro ((P14.out.2.2.2.2.1).alloc (.cells #[.int .i64 F, .int .i64 V, .string D] 23)) (And.intro (show BoxAt (w14.alloc (.cells #[.int .i64 F, .int .i64 V, .string D] 23)) w14.heap.size F V D from heap_alloc_new w14 _) ((P14.out.2.2.2.2.2).alloc (P14.out.2.2.2.2.2).size (.cells #[.int .i64 F, .int .i64 V, .string D] 23))))))))
        clear P14
        generalize w14.alloc (.cells #[.int .i64 F, .int .i64 V, .string D] 23) = w15 at P15 ⊢
        generalize w14.heap.size = gz at P15 ⊢
        obtain ⟨c15_0a, c15_0b, c15_0c, c15_0f⟩ := (P15.out.1).cells
        obtain ⟨c15_3a, c15_3b, c15_3c, c15_3f⟩ := (P15.out.2.2.2.1).cells
        obtain ⟨c15_4a, c15_4b, c15_4c, c15_4f⟩ := (P15.out.2.2.2.2.1).cells
        obtain ⟨c15_5a, c15_5b, c15_5c, c15_5f⟩ := (P15.out.2.2.2.2.2.1).cells
        cases b with
        | false =>
          go_wp2_with fail
          go_ret
          exact ⟨rfl, P15.out.2.2.2.2.2.2⟩
        | true =>
          have hLb := (hL.below P15.out.2.2.2.2.2.2 (Nat.le_refl _)).tab
          have hfin := HPF.out rfl
          rw [hfin] at GF
          clear hfin
          go_wp2_with fail
          refine (GF.out _ hLb).mono ?_
          rintro e w16 ⟨rfl, hb16⟩
          have P16 := Lib.hid (And.intro ((P15.out.1).below hb16 (Nat.le_refl _)) (And.intro ((P15.out.2.1).below hb16 (Nat.le_refl _)) (And.intro ((P15.out.2.2.1).below hb16 (Nat.le_refl _)) (And.intro ((P15.out.2.2.2.1).below hb16 (Nat.le_refl _)) (And.intro ((P15.out.2.2.2.2.1).below hb16 (Nat.le_refl _)) (And.intro ((P15.out.2.2.2.2.2.1).below hb16 (Nat.le_refl _)) ((P15.out.2.2.2.2.2.2).trans (hb16.mono (P15.out.2.2.2.2.2.2).size))))))))
          clear c15_0a c15_0b c15_0c c15_0f c15_3a c15_3b c15_3c c15_3f c15_4a c15_4b c15_4c c15_4f c15_5a c15_5b c15_5c c15_5f
          clear hb16 P15
          go_wp2_with fail
          go_ret
          exact ⟨rfl, P16.out.2.2.2.2.2.2⟩
      · have FI := fun W => implInvertPatch s f t d W (by omega) (by omega)
        have FS := fun W => specInvertPatch s f t d W (by omega) (by omega)
        have FA := fun W => implApplyPatch s f t d W (by omega) (by omega)
        have e1 : apl s f t d = (ByteArray.empty, false) := if_neg hpf
        have e2 : inv s f t d = ⟨0, 0, ByteArray.empty, false⟩ := if_neg hpf
        rw [e2] at FI FS
        rw [e1] at FA
        unfold PB.val at FI FS
        obtain ⟨em, hem⟩ : ∃ d, ByteArray.empty = d := ⟨_, rfl⟩
        obtain ⟨z, hz⟩ : ∃ z : Int, 0 = z := ⟨_, rfl⟩
        simp only [hem, hz] at FI FS FA
        clear hem hz e1 e2 hpf
        have FI := Lib.hid FI
        have FS := Lib.hid FS
        have FA := Lib.hid FA
        go_upto_region 4 with fail
        have P2 := Lib.hid (And.intro (show BoxAt (w1.alloc (.cells #[.int .i64 f, .int .i64 t, .string d] 23)) w1.heap.size f t d from heap_alloc_new w1 _) ((P0.out).alloc (P0.out).size (.cells #[.int .i64 f, .int .i64 t, .string d] 23)))
        clear P0
        generalize w1.alloc (.cells #[.int .i64 f, .int .i64 t, .string d] 23) = w2 at P2 ⊢
        generalize w1.heap.size = gp at P2 ⊢
        obtain ⟨c2_0a, c2_0b, c2_0c, c2_0f⟩ := (P2.out.1).cells
        go_wp2_with fail
        refine (FI.out _).mono ?_
        rintro e w3 ⟨rfl, hb3⟩
        have P3 := Lib.hid (And.intro ((P2.out.1).below hb3 (Nat.le_refl _)) ((P2.out.2).trans (hb3.mono (P2.out.2).size)))
        clear c2_0a c2_0b c2_0c c2_0f
        clear hb3 P2
        go_upto_region 5 with fail
        have P4 := Lib.hid (And.intro ((P3.out.1).alloc (.cells #[.int .i64 z, .int .i64 z, .string em] 23)) (And.intro (show BoxAt (w3.alloc (.cells #[.int .i64 z, .int .i64 z, .string em] 23)) w3.heap.size z z em from heap_alloc_new w3 _) ((P3.out.2).alloc (P3.out.2).size (.cells #[.int .i64 z, .int .i64 z, .string em] 23))))
        clear P3
        generalize w3.alloc (.cells #[.int .i64 z, .int .i64 z, .string em] 23) = w4 at P4 ⊢
        generalize w3.heap.size = gq at P4 ⊢
        obtain ⟨c4_0a, c4_0b, c4_0c, c4_0f⟩ := (P4.out.1).cells
        go_wp2_with fail
        refine (FS.out _).mono ?_
        rintro e w5 ⟨rfl, hb5⟩
        have P5 := Lib.hid (And.intro ((P4.out.1).below hb5 (Nat.le_refl _)) (And.intro ((P4.out.2.1).below hb5 (Nat.le_refl _)) ((P4.out.2.2).trans (hb5.mono (P4.out.2.2).size))))
        clear c4_0a c4_0b c4_0c c4_0f
        clear hb5 P4
        go_upto_region 6 with fail
        have P6 := Lib.hid (And.intro ((P5.out.1).alloc (.cells #[.int .i64 z, .int .i64 z, .string em] 23)) (And.intro ((P5.out.2.1).alloc (.cells #[.int .i64 z, .int .i64 z, .string em] 23)) (And.intro (show BoxAt (w5.alloc (.cells #[.int .i64 z, .int .i64 z, .string em] 23)) w5.heap.size z z em from heap_alloc_new w5 _) ((P5.out.2.2).alloc (P5.out.2.2).size (.cells #[.int .i64 z, .int .i64 z, .string em] 23)))))
        clear P5
        generalize w5.alloc (.cells #[.int .i64 z, .int .i64 z, .string em] 23) = w6 at P6 ⊢
        generalize w5.heap.size = gw at P6 ⊢
        obtain ⟨c6_0a, c6_0b, c6_0c, c6_0f⟩ := (P6.out.1).cells
        go_wp2_with fail
        refine (FA.out _).mono ?_
        rintro e w7 ⟨rfl, hb7⟩
        have P7 := Lib.hid (And.intro ((P6.out.1).below hb7 (Nat.le_refl _)) (And.intro ((P6.out.2.1).below hb7 (Nat.le_refl _)) (And.intro ((P6.out.2.2.1).below hb7 (Nat.le_refl _)) ((P6.out.2.2.2).trans (hb7.mono (P6.out.2.2.2).size)))))
        clear c6_0a c6_0b c6_0c c6_0f
        clear hb7 P6
        obtain ⟨c7_1a, c7_1b, c7_1c, c7_1f⟩ := (P7.out.2.1).cells
        obtain ⟨c7_2a, c7_2b, c7_2c, c7_2f⟩ := (P7.out.2.2.1).cells
        go_wp2_with fail
        go_ret
        exact ⟨rfl, P7.out.2.2.2⟩
    · have hn2' : (1048576 : Int) < n2 := by omega
      go_enter Tryd.func5, Tryd.ntmps5
      go_wp2_with fail
      go_ret
      exact ⟨rfl, Below.refl _ _⟩
  · have hn' : (1048576 : Int) < n := by omega
    go_enter Tryd.func5, Tryd.ntmps5
    go_wp2_with fail
    go_ret
    exact ⟨rfl, Below.refl _ _⟩

end Go.Proofs.YtlcflddjbhlloaaDoor
