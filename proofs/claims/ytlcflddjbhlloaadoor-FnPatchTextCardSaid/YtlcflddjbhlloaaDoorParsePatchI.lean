/-
  The contract of the program's ParsePatch.
-/
import Derived.Test.YtlcflddjbhlloaaDoorParsePatch
namespace Go.Proofs.YtlcflddjbhlloaaDoor
open Go.RowKit
set_option linter.unusedVariables false

theorem implSplit (t : ByteArray) (w : World) (ht : t.size ≤ 1048576) (hL : LaidW w) :
    Calls Tryd.prog 23 #[.string t, .string ⟨#[32]⟩] w fun e w' => e = .returned (.slice (some ⟨w.heap.size, 0, none⟩) (cutB t).length (cutB t).length) ∧ Row w' w'.heap.size 1 (some ⟨w.heap.size, 0, none⟩) (cutB t).length ((cutB t).map .string) ∧ Below w.heap.size w w' := by
  obtain ⟨m, hm⟩ := hL.max
  refine (Tryd.strings_Split t ⟨#[32]⟩ m w (by omega) hm (by show 1 ≤ 1; omega)).mono ?_
  rintro e w' ⟨rfl, rfl⟩
  rw [splitB_cut, cutB_length]
  refine ⟨rfl, ?_, (Below.refl _ _).alloc (Nat.le_refl _) _⟩
  have h := Row.newAt w w.heap.size rfl 9 ((cutB t).map Value.string) (Lib.countB t ⟨#[32]⟩ + 1) 1 (by rw [List.length_map, cutB_length]; omega)
  simpa using h

set_option maxHeartbeats 4000000 in
theorem implParsePatch (t : ByteArray) (w : World) (ht : t.size ≤ 1048576) (hL : LaidW w) :
    Calls Tryd.prog 7 #[.string t] w fun e w' => e = .returned (ppOf t).val ∧ Below w.heap.size w w' := by
  have HSP := Lib.hid (fun W hl => implSplit t W ht hl)
  obtain ⟨ps, hps⟩ : ∃ ps, cutB t = ps := ⟨_, rfl⟩
  rw [hps] at HSP
  have hsz : ∀ p ∈ ps, p.size ≤ 1048576 := fun p hp => by
    rw [← hps] at hp
    unfold cutB at hp
    obtain ⟨l, hl, rfl⟩ := List.mem_map.1 hp
    have := cutL_size t.data.toList l hl
    show l.toArray.size ≤ _
    simp at this ⊢
    omega
  obtain ⟨n, hn⟩ : ∃ n, ps.length = n := ⟨_, rfl⟩
  rw [hn] at HSP
  have HPS := Lib.hid hps
  have HSZ := Lib.hid hsz
  have HLN := Lib.hid hn
  clear hps hsz hn
  go_enter Tryd.func7, Tryd.ntmps7
  go_wp2_with fail
  have hbox0 : BoxAt (w.alloc (.cells #[.int .i64 0, .int .i64 0, .string ⟨#[]⟩] 23)) w.heap.size 0 0 ⟨#[]⟩ := heap_alloc_new w _
  have hL0 := hL.below ((Below.refl _ _).alloc (Nat.le_refl _) (.cells #[.int .i64 0, .int .i64 0, .string ⟨#[]⟩] 23)) (Nat.le_refl _)
  refine (HSP.out _ hL0).mono ?_
  rintro e w1 ⟨rfl, hrow, hb1⟩
  have hbox1 := hbox0.below hb1 (Nat.le_refl _)
  have hL1 := hL0.below hb1 (Nat.le_refl _)
  have hB1 : Below w.heap.size w w1 := ((Below.refl _ _).alloc (Nat.le_refl _) _).trans (hb1.mono (by simp))
  have hz1 := hB1.size
  clear hbox0 hb1 hL0
  by_cases h3 : n = 3
  · subst h3
    obtain ⟨p0, p1, p2, hp⟩ : ∃ a b c, ps = [a, b, c] := by
      have := HLN.out
      match ps, this with
      | [a, b, c], _ => exact ⟨a, b, c, rfl⟩
    subst hp
    have hw1 : (w.alloc (.cells #[.int .i64 0, .int .i64 0, .string ⟨#[]⟩] 23)).heap.size = w.heap.size + 1 := by simp
    rw [hw1] at hrow
    rw [hw1]
    clear hw1
    have s0 := HSZ.out p0 (by simp)
    have s1 := HSZ.out p1 (by simp)
    have s2 := HSZ.out p2 (by simp)
    have k0 := row_cell hrow 0 (s := p0) rfl
    have HB1 := Lib.hid (And.intro hbox1 hB1)
    clear hbox1 hB1
    go_wp2_with fail
    refine (implParseNumber p0 _ s0 hL1).mono ?_
    rintro e w2 ⟨v0, b0, rfl, hv0, hn0, hb2⟩
    have HV0 := Lib.hid (And.intro hv0 hn0)
    have HB2 := Lib.hid (And.intro (HB1.out.1.below hb2 (Nat.le_refl _)) (HB1.out.2.trans (hb2.mono hz1)))
    have hL2 := hL1.below hb2 (Nat.le_refl _)
    have hrow2 := hrow.below hb2 (Nat.le_refl _)
    have hz2 := HB2.out.2.size
    have k1 := row_cell hrow2 1 (s := p1) rfl
    have hz12 := hb2.size
    clear hv0 hn0 hb2 k0 hL1 hrow HB1
    go_wp2_with fail
    refine (implParseNumber p1 _ s1 hL2).mono ?_
    rintro e w3 ⟨v1, b1, rfl, hv1, hn1, hb3⟩
    have HV1 := Lib.hid (And.intro hv1 hn1)
    have HB3 := Lib.hid (And.intro (HB2.out.1.below hb3 (Nat.le_refl _)) (HB2.out.2.trans (hb3.mono hz2)))
    have hrow3 := hrow2.below hb3 hz12
    have hz3 := HB3.out.2.size
    have k2 := row_cell hrow3 2 (s := p2) rfl
    clear hv1 hn1 hb3 k1 hL2 hrow2 HB2 hz12 hrow3
    go_wp2_with fail
    refine (implParseHexOrDash p2 _ s2).mono ?_
    rintro e w4 ⟨d, b2, rfl, hd, hx, hb4⟩
    have HD := Lib.hid (And.intro hd hx)
    have HB := Lib.hid (And.intro (HB3.out.1.below hb4 (Nat.le_refl _)) (HB3.out.2.trans (hb4.mono hz3)))
    have hz4 := HB.out.2.size
    clear hd hx hb4 k2 HB3
    cases b0 with
    | false =>
      have HPP := Lib.hid (show ppOf t = ⟨0, 0, ByteArray.empty, false⟩ from pp_no fun F T x hv e => by
        obtain ⟨e0, e1, e2⟩ := parts_of HPS.out hv.2.2.2 e
        have hF : F ≤ 2000 := by have := hv.2.1; have := hv.2.2.1; omega
        have hT : T ≤ 2000 := by have := hv.2.2.1; omega
        exact absurd (HV0.out.2 F hF e0).1 (by simp))
      go_upto_region 8 with fail
      have hbx := HB.out.1.alloc (.cells #[.int .i64 v0, .int .i64 v1, .string d] 23)
      have HBB := Lib.hid (HB.out.2.alloc HB.out.2.size (.cells #[.int .i64 v0, .int .i64 v1, .string d] 23))
      generalize w4.alloc (.cells #[.int .i64 v0, .int .i64 v1, .string d] 23) = wx at hbx HBB ⊢
      obtain ⟨q0, q1, q2, qf⟩ := hbx.cells
      have hlt := HB.out.1.lt
      clear hbx
      go_wp2_with fail
      refine bodyPost_ret (v := .tuple #[.agg #[.int .i64 0, .int .i64 0, .string ByteArray.empty], .bool false]) (by simp [results, Tryd.results7, go_sem, q0, q1, q2]; rfl) rfl ?_
      refine ⟨ret_pp HPP.out, ?_⟩
      have hBz := HBB.out
      clear q0 q1 q2 qf HBB HPP
      go_grown
    | true =>
      cases b1 with
      | false =>
        have HPP := Lib.hid (show ppOf t = ⟨0, 0, ByteArray.empty, false⟩ from pp_no fun F T x hv e => by
          obtain ⟨e0, e1, e2⟩ := parts_of HPS.out hv.2.2.2 e
          have hF : F ≤ 2000 := by have := hv.2.1; have := hv.2.2.1; omega
          have hT : T ≤ 2000 := by have := hv.2.2.1; omega
          exact absurd (HV1.out.2 T hT e1).1 (by simp))
        go_upto_region 8 with fail
        have hbx := HB.out.1.alloc (.cells #[.int .i64 v0, .int .i64 v1, .string d] 23)
        have HBB := Lib.hid (HB.out.2.alloc HB.out.2.size (.cells #[.int .i64 v0, .int .i64 v1, .string d] 23))
        generalize w4.alloc (.cells #[.int .i64 v0, .int .i64 v1, .string d] 23) = wx at hbx HBB ⊢
        obtain ⟨q0, q1, q2, qf⟩ := hbx.cells
        have hlt := HB.out.1.lt
        clear hbx
        go_wp2_with fail
        refine bodyPost_ret (v := .tuple #[.agg #[.int .i64 0, .int .i64 0, .string ByteArray.empty], .bool false]) (by simp [results, Tryd.results7, go_sem, q0, q1, q2]; rfl) rfl ?_
        refine ⟨ret_pp HPP.out, ?_⟩
        have hBz := HBB.out
        clear q0 q1 q2 qf HBB HPP
        go_grown
      | true =>
        cases b2 with
        | false =>
          have HPP := Lib.hid (show ppOf t = ⟨0, 0, ByteArray.empty, false⟩ from pp_no fun F T x hv e => by
            obtain ⟨e0, e1, e2⟩ := parts_of HPS.out hv.2.2.2 e
            have hF : F ≤ 2000 := by have := hv.2.1; have := hv.2.2.1; omega
            have hT : T ≤ 2000 := by have := hv.2.2.1; omega
            exact absurd (HD.out.2 x hv.2.2.2 e2).1 (by simp))
          go_upto_region 8 with fail
          have hbx := HB.out.1.alloc (.cells #[.int .i64 v0, .int .i64 v1, .string d] 23)
          have HBB := Lib.hid (HB.out.2.alloc HB.out.2.size (.cells #[.int .i64 v0, .int .i64 v1, .string d] 23))
          generalize w4.alloc (.cells #[.int .i64 v0, .int .i64 v1, .string d] 23) = wx at hbx HBB ⊢
          obtain ⟨q0, q1, q2, qf⟩ := hbx.cells
          have hlt := HB.out.1.lt
          clear hbx
          go_wp2_with fail
          refine bodyPost_ret (v := .tuple #[.agg #[.int .i64 0, .int .i64 0, .string ByteArray.empty], .bool false]) (by simp [results, Tryd.results7, go_sem, q0, q1, q2]; rfl) rfl ?_
          refine ⟨ret_pp HPP.out, ?_⟩
          have hBz := HBB.out
          clear q0 q1 q2 qf HBB HPP
          go_grown
        | true =>
          go_upto_region 8 with fail
          have hbx := HB.out.1.alloc (.cells #[.int .i64 v0, .int .i64 v1, .string d] 23)
          have hBx := HB.out.2.alloc HB.out.2.size (.cells #[.int .i64 v0, .int .i64 v1, .string d] 23)
          have hp5 : BoxAt (w4.alloc (.cells #[.int .i64 v0, .int .i64 v1, .string d] 23)) w4.heap.size v0 v1 d := heap_alloc_new w4 _
          have hlt := HB.out.1.lt
          have hgne : w.heap.size ≠ w4.heap.size := by omega
          by_cases hv : pvalid v0 v1 d.size
          · obtain ⟨F, rfl⟩ : ∃ F : Nat, v0 = F := ⟨v0.toNat, by have := hv.1; omega⟩
            obtain ⟨T, rfl⟩ : ∃ T : Nat, v1 = T := ⟨v1.toNat, by have := hv.1; have := hv.2.1; omega⟩
            have hpp : ppOf t = ⟨F, T, d, true⟩ := pp_yes hv (by
              have e0 := HV0.out.1 (by simp) (by omega)
              have e1 := HV1.out.1 (by simp) (by omega)
              have e2 := HD.out.1 (by simp)
              have h3 := three_of HPS.out
              apply ba_of_list
              rw [h3, fmtP_list, e0, e1, ← e2]
              rfl)
            have HPP := Lib.hid hpp
            clear hpp
            go_wp2_with fail
            refine (implPatchValid (F : Int) (T : Int) d true _ (btrue hv)).mono ?_
            rintro e w5 ⟨rfl, hb5⟩
            have hbox5 := hbx.below hb5 (Nat.le_refl _)
            have HBB := Lib.hid (hBx.trans (hb5.mono hBx.size))
            have hp6 := hp5.below hb5 (Nat.le_refl _)
            obtain ⟨q0, q1, q2, qf⟩ := hbox5.cells
            obtain ⟨r0, r1, r2, rf⟩ := hp6.cells
            clear hv hbx hBx hp5 hb5 hbox5 hp6
            go_wp2_with fail
            refine bodyPost_ret (v := .tuple #[.agg #[.int .i64 (F : Int), .int .i64 (T : Int), .string d], .bool true]) (by simp [results, Tryd.results7, go_sem, q0, q1, q2]) rfl ?_
            refine ⟨ret_pp HPP.out, ?_⟩
            have hBz := HBB.out
            clear q0 q1 q2 qf r0 r1 r2 rf HBB HPP
            go_grown
          · have HPP := Lib.hid (show ppOf t = ⟨0, 0, ByteArray.empty, false⟩ from pp_no fun F T x hv' e => by
              obtain ⟨e0, e1, e2⟩ := parts_of HPS.out hv'.2.2.2 e
              have hF : F ≤ 2000 := by have := hv'.2.1; have := hv'.2.2.1; omega
              have hT : T ≤ 2000 := by have := hv'.2.2.1; omega
              apply hv
              rw [(HV0.out.2 F hF e0).2, (HV1.out.2 T hT e1).2, (HD.out.2 x hv'.2.2.2 e2).2]
              exact hv')
            go_wp2_with fail
            refine (implPatchValid v0 v1 d false _ (bfalse hv)).mono ?_
            rintro e w5 ⟨rfl, hb5⟩
            have hbox5 := hbx.below hb5 (Nat.le_refl _)
            have HBB := Lib.hid (hBx.trans (hb5.mono hBx.size))
            obtain ⟨q0, q1, q2, qf⟩ := hbox5.cells
            clear hv hbx hBx hp5 hb5 hbox5
            go_wp2_with fail
            refine bodyPost_ret (v := .tuple #[.agg #[.int .i64 0, .int .i64 0, .string ByteArray.empty], .bool false]) (by simp [results, Tryd.results7, go_sem, q0, q1, q2]; rfl) rfl ?_
            refine ⟨ret_pp HPP.out, ?_⟩
            have hBz := HBB.out
            clear q0 q1 q2 qf HBB HPP
            go_grown
  · have hpp : ppOf t = ⟨0, 0, ByteArray.empty, false⟩ := pp_no fun F T x hv e => by
      have h1 := cut_fmt (F := F) (T := T) hv.2.2.2
      rw [← e, HPS.out] at h1
      have := HLN.out
      rw [h1] at this
      simp at this
      omega
    have HPP := Lib.hid hpp
    have hn3 : ((n : Int) == 3) = false := by rw [beq_eq_false_iff_ne]; omega
    obtain ⟨q0, q1, q2, qf⟩ := hbox1.cells
    have HBB := Lib.hid hB1
    clear hpp hrow hbox1 hB1
    go_wp2_with fail
    refine bodyPost_ret (v := .tuple #[.agg #[.int .i64 0, .int .i64 0, .string ByteArray.empty], .bool false]) (by simp [results, Tryd.results7, go_sem, q0, q1, q2]; rfl) rfl ?_
    refine ⟨ret_pp HPP.out, ?_⟩
    have hBz := HBB.out
    clear q0 q1 q2 qf HBB HPP
    go_grown

end Go.Proofs.YtlcflddjbhlloaaDoor
