/-
 The contract of the reference's ParseBlock: it returns the same as the program's.
-/
import Derived.Test.YthlgpgaeajfchaaGreatPwCont

namespace Go.Proofs.YthlgpgaeajfchaaGreat
open Go.RowKit
set_option linter.unusedVariables false
attribute [local go_sem ↓] Go.wp_at_zero Go.wp_at_succ

set_option maxHeartbeats 8000000 in
set_option maxRecDepth 100000 in
theorem specParseBlock (s : ByteArray) (a : Int) (w : World) (hs : s.size ≤ 1048576) :
  Calls Tryz.prog 103 #[.string s, .int .i64 a] w fun e w' => e = .returned (parse s a).val ∧ Below w.heap.size w w' := by
 by_cases h0 : 0 ≤ a ∧ a + 10 ≤ s.size
 ·obtain ⟨k, rfl⟩ := Int.eq_ofNat_of_zero_le h0.1
  have hk : k + 10 ≤ s.size := by omega
  obtain ⟨x0, hx0⟩ : ∃ x, (bAt s k).toNat = x := ⟨_, rfl⟩
  obtain ⟨x1, hx1⟩ : ∃ x, (bAt s (k + 1)).toNat = x := ⟨_, rfl⟩
  have hl0 : x0 < 256 := by rw [← hx0]; exact UInt8.toNat_lt _
  have hl1 : x1 < 256 := by rw [← hx1]; exact UInt8.toNat_lt _
  obtain ⟨k1, hk1⟩ : ∃ k1, k + 1 = k1 := ⟨_, rfl⟩
  have hks : k < s.size := by omega
  have hk1s : k1 < s.size := by omega
  have e1 : (k : Int) + 1 = k1 := by omega
  have ex0 : s[k].toNat = x0 := by rw [← bAt_lt hks]; exact hx0
  have ex1 : s[k1].toNat = x1 := by rw [← bAt_lt hk1s, ← hk1]; exact hx1
  by_cases c0 : x0 = 181
  ·by_cases c1 : x1 ≤ 1
   ·subst c0
    obtain ⟨k6, hk6⟩ : ∃ k6, k + 6 = k6 := ⟨_, rfl⟩
    obtain ⟨k8, hk8⟩ : ∃ k8, k + 8 = k8 := ⟨_, rfl⟩
    obtain ⟨k2, hk2⟩ : ∃ k2, k + 2 = k2 := ⟨_, rfl⟩
    obtain ⟨k4, hk4⟩ : ∃ k4, k + 4 = k4 := ⟨_, rfl⟩
    have e6 : (k : Int) + 6 = k6 := by omega
    have e8 : (k : Int) + 8 = k8 := by omega
    have e2 : (k : Int) + 2 = k2 := by omega
    have e4 : (k : Int) + 4 = k4 := by omega
    obtain ⟨n, hn⟩ : ∃ n, numAt s k6 = n := ⟨_, rfl⟩
    obtain ⟨e, he⟩ : ∃ e, k8 + n = e := ⟨_, rfl⟩
    have hE : pbEnd s k = e := by unfold pbEnd; rw [hk6, hn, hk8, he]
    have ee : (k8 : Int) + n = e := by omega
    have hn2 : n < 65536 := by rw [← hn]; exact numAt_lt _ _
    have HE := Lib.hid hE
    have HN := Lib.hid hn
    have HX1 := Lib.hid hx1
    have h6s : k6 + 1 < s.size := by omega
    have h2s : k2 + 1 < s.size := by omega
    have h4s : k4 + 1 < s.size := by omega
    have h8s : k8 ≤ s.size := by omega
    have h8e : k8 ≤ e := by omega
    have h1e : k1 ≤ e := by omega
    have hes : e ≤ 1200000 := by omega
    clear hE hn hx0 hx1
    have HK := Lib.hid (And.intro hk1 (And.intro hk2 (And.intro hk4 (And.intro hk6 (And.intro hk8 he)))))
    clear hk1 hk2 hk4 hk6 hk8 he
    have h68 : k6 ≤ k8 := by omega
    go_enter Tryz.func103, Tryz.ntmps103
    go_wp2_with fail
    refine (specPairAt (s.extract k6 k8) _ (by simp; omega) (by simp; omega)).mono ?_
    rintro _ w1 ⟨rfl, rfl⟩
    rw [numAt_extract s k6 k8 0 (by omega) h8s, Nat.add_zero, HN.out]
    by_cases c2 : e + 2 ≤ s.size
    ·have w1k : IntKind.i64.wrap (k1 : Int) = k1 := IntWalk.i64_in _ (by omega)
     have w2k : IntKind.i64.wrap (k2 : Int) = k2 := IntWalk.i64_in _ (by omega)
     have w4k : IntKind.i64.wrap (k4 : Int) = k4 := IntWalk.i64_in _ (by omega)
     have i0 : (0 : Int) ≤ k1 := by omega
     have i1 : (k1 : Int) < s.size := by omega
     have i2 : (k8 : Int) ≤ e := by omega
     have i3 : (e : Int) ≤ s.size := by omega
     obtain ⟨n2, hn2'⟩ : ∃ x, numAt s k2 = x := ⟨_, rfl⟩
     obtain ⟨n4, hn4'⟩ : ∃ x, numAt s k4 = x := ⟨_, rfl⟩
     have hb2 : n2 ≤ 65535 := by rw [← hn2']; have := numAt_lt s k2; omega
     have hb4 : n4 ≤ 65535 := by rw [← hn4']; have := numAt_lt s k4; omega
     have hE1 : ((x1 : Int) == 0) = (x1 == 0) := by rw [Bool.eq_iff_iff]; simp
     obtain ⟨r, hr⟩ : ∃ r, (x1 == 0) = r := ⟨_, rfl⟩
     rw [hr] at hE1
     obtain ⟨e2', he2'⟩ : ∃ e2', e + 2 = e2' := ⟨_, rfl⟩
     have i4 : (k2 : Int) ≤ k4 := by omega
     have i5 : (k4 : Int) ≤ s.size := by omega
     have i6 : (k4 : Int) ≤ k6 := by omega
     have i7 : (k6 : Int) ≤ s.size := by omega
     have i8 : (0 : Int) ≤ k2 := by omega
     have i9 : (0 : Int) ≤ k4 := by omega
     have i10 : (0 : Int) ≤ k8 := by omega
     have w6k : IntKind.i64.wrap (k6 : Int) = k6 := IntWalk.i64_in _ (by omega)
     have w8k : IntKind.i64.wrap (k8 : Int) = k8 := IntWalk.i64_in _ (by omega)
     have wek : IntKind.i64.wrap (e : Int) = e := IntWalk.i64_in _ (by omega)
     have z2 : ∀ w, Calls Tryz.prog 127 #[.string (s.extract k2 k4)] w fun e w' => e = .returned (.int .i64 (n2 : Int)) ∧ w.drew = w' := fun w => by
      refine (specPairAt (s.extract k2 k4) w (by simp; omega) (by simp; omega)).mono ?_
      rintro _ _ ⟨rfl, rfl⟩
      exact ⟨by rw [numAt_extract s k2 k4 0 (by omega) (by omega), Nat.add_zero, hn2'], rfl⟩
     have z4 : ∀ w, Calls Tryz.prog 127 #[.string (s.extract k4 k6)] w fun e w' => e = .returned (.int .i64 (n4 : Int)) ∧ w.drew = w' := fun w => by
      refine (specPairAt (s.extract k4 k6) w (by simp; omega) (by simp; omega)).mono ?_
      rintro _ _ ⟨rfl, rfl⟩
      exact ⟨by rw [numAt_extract s k4 k6 0 (by omega) (by omega), Nat.add_zero, hn4'], rfl⟩
     have Z2 := Lib.hid z2
     have Z4 := Lib.hid z4
     clear z2 z4
     obtain ⟨k10, hk10⟩ : ∃ k10, k + 10 = k10 := ⟨_, rfl⟩
     have e10 : (k : Int) + 10 = k10 := by omega
     have ef : (k10 : Int) + n = e2' := by omega
     have hke2 : k ≤ e2' := by omega
     have he2s : e2' ≤ s.size := by omega
     have HE2 := Lib.hid he2'
     clear he2' hk10
     go_upto_region 6 with (fail)
     go_cut [8] (fun v wx => ∃ N : Nat, v = .pointer (some ⟨w.heap.size + 1, 0, none⟩) ∧
      wx = ((w.alloc (.cells #[.int .i64 0, .bool false, .int .i64 0, .string ⟨#[]⟩] 36)).alloc (.cells #[.int .i64 n2, .bool r, .int .i64 n4, .string (s.extract k8 e)] 36)).drewN N)
     case first =>
      go_region_with (first | (go_at_call_of 127 (Value.string (s.extract k2 k4)); refine (Z2.out _).mono ?_; rintro _ w' ⟨rfl, rfl⟩) | (go_at_call_of 127 (Value.string (s.extract k4 k6)); refine (Z4.out _).mono ?_; rintro _ w' ⟨rfl, rfl⟩))
      all_goals (go_wp2_with fail; go_meet; exact ⟨4, rfl, rfl⟩)
     case rest =>
      obtain ⟨N, rfl, rfl⟩ := hcut
      have hB : pbBlk s k = ⟨n2, r, n4, s.extract k8 e⟩ := by
       obtain ⟨a1, a2, a4, a6, a8, ae⟩ := HK.out
       unfold pbBlk
       rw [HE.out, a1, a2, a4, a8, hn2', hn4', ← hr]
       congr 1
       have hx := HX1.out
       rw [a1] at hx
       rw [Bool.eq_iff_iff, beq_iff_eq, beq_iff_eq, ← UInt8.toNat_inj, hx]
       rfl
      have htx := text_pbBlk s k hk (by rw [bAt_lt hks]; exact ex0) (by rw [HX1.out]; exact c1) (by rw [HE.out]; exact c2)
      rw [HE.out, hB, HE2.out] at htx
      have hbs : (s.extract k8 e).size ≤ 100000 := by simp; omega
      have HB := Lib.hid hB
      have HT := Lib.hid htx
      clear w1k w2k w4k w6k w8k wek hE1 hB hr htx Z2 Z4 hn2' hn4'
      have hbox : ((w.alloc (.cells #[.int .i64 0, .bool false, .int .i64 0, .string ⟨#[]⟩] 36)).alloc (.cells #[.int .i64 n2, .bool r, .int .i64 n4, .string (s.extract k8 e)] 36)).heap[w.heap.size + 1]? = some (.cells #[.int .i64 n2, .bool r, .int .i64 n4, .string (s.extract k8 e)] 36 (0, 0)) := heap_alloc2_new w _ _
      have HBX := Lib.hid hbox
      clear hbox
      by_cases c3 : (⟨n2, r, n4, s.extract k8 e⟩ : Blk).ok
      ·have hlt : (textB ⟨n2, r, n4, s.extract k8 e⟩).size ≤ 1048576 := by
        unfold textB innerB
        simp only [ByteArray.size_append, kindB_size, two_size]
        have : (⟨#[181]⟩ : ByteArray).size = 1 := rfl
        omega
       have hl5 : ∀ W, Calls Tryz.prog 118 #[.agg #[.int .i64 n2, .bool r, .int .i64 n4, .string (s.extract k8 e)]] W fun en w' => en = .returned (.string (textB ⟨n2, r, n4, s.extract k8 e⟩)) ∧ Below W.heap.size W w' := fun W => specL5Text ⟨n2, r, n4, s.extract k8 e⟩ W (by simp only; omega) (by simp only; omega) (by simp only; omega)
       have hfm : ∀ W, Calls Tryz.prog 128 #[.agg #[.int .i64 n2, .bool r, .int .i64 n4, .string (s.extract k8 e)]] W fun en w' => en = .returned (.bool true) ∧ Below W.heap.size W w' := fun W => specL5Form ⟨n2, r, n4, s.extract k8 e⟩ true W (by simp only; omega) (by simp only; omega) (by simp only; omega) (btrue c3)
       obtain ⟨T, hT⟩ : ∃ T, textB ⟨n2, r, n4, s.extract k8 e⟩ = T := ⟨_, rfl⟩
       rw [hT] at hlt hl5
       have HTT := HT.out
       rw [hT] at HTT
       have HL5 := Lib.hid hl5
       have HFM := Lib.hid hfm
       clear hl5 hT hfm
       by_cases c4 : T = s.extract k e2'
       ·have HC := Lib.hid (parse_yes (s := s) (k := k) ⟨hk, by rw [bAt_lt hks]; exact ex0, by rw [HX1.out]; exact c1, by rw [HE.out]; exact c2, by rw [HB.out]; exact c3, by rw [HE.out]; exact HTT.1 c4⟩)
        rw [HB.out, HE.out, HE2.out] at HC
        have hte : (T.toList == (s.extract k e2').toList) = true := by rw [c4]; simp
        clear HTT c4
        have j1 : (k : Int) ≤ e2' := by omega
        have j2 : (e2' : Int) ≤ s.size := by omega
        have j3 : (0 : Int) ≤ k := by omega
        go_wp2_with fail
        (go_region_with (first | (go_at_call 128; refine (HFM.out _).mono ?_; rintro _ w3 ⟨rfl, hb3⟩; obtain ⟨hc3, hf3⟩ := bcell hb3; have hz3 : w.heap.size + 1 < w3.heap.size := by have := hb3.size; simp at this; omega) | (go_at_call 118; refine (HL5.out _).mono ?_; rintro _ w4 ⟨rfl, hb4⟩; obtain ⟨hc4, hf4⟩ := bcell hb4)))
        have hBz : Below (w.heap.size + 1) (w.alloc (.cells #[.int .i64 0, .bool false, .int .i64 0, .string ⟨#[]⟩] 36)) w4 := (((Below.refl _ _).alloc (by simp) _).trans ((below_drewN (Below.refl _ _) _).trans (hb3.mono (by simp)))).trans (hb4.mono (by omega))
        obtain ⟨q0, q1, q2, q3, _⟩ := box4 hBz
        have hW : Below w.heap.size w w4 := ((((Below.refl _ _).alloc (Nat.le_refl _) _).alloc (by simp) _).trans ((below_drewN (Below.refl _ _) _).trans (hb3.mono (by simp; omega)))).trans (hb4.mono (by omega))
        have hz4 : w.heap.size + 1 < w4.heap.size := by have := hb4.size; omega
        have hfr : ∀ o, w4.frozen? ⟨w.heap.size, o, none⟩ = false := fun o => by rw [hf4 _ _ (by omega), hf3 _ _ (by simp; omega)]; simp
        go_wp2_with fail
        refine bodyPost_ret (v := .tuple #[.agg #[.int .i64 n2, .bool r, .int .i64 n4, .string (s.extract k8 e)], .int .i64 (e2' : Int), .bool true]) (by simp [results, Tryz.results103, go_sem, q0, q1, q2, q3]) rfl ?_
        refine ⟨ret_parsed HC.out, ?_⟩
        clear hc3 hf3 hb3 hc4 hf4 hb4 HC HB q0 q1 q2 q3 hBz
        go_grown
       ·have HC := Lib.hid (parse_no' (s := s) (k := k) (fun h => c4 (HTT.2 (by have := h.2.2.2.2.2; rw [HE.out] at this; exact this))))
        have hte : (T.toList == (s.extract k e2').toList) = false := by rw [beq_eq_false_iff_ne]; intro h; exact c4 (ba_toList h)
        clear HTT c4
        have j1 : (k : Int) ≤ e2' := by omega
        have j2 : (e2' : Int) ≤ s.size := by omega
        have j3 : (0 : Int) ≤ k := by omega
        go_wp2_with fail
        (go_region_with (first | (go_at_call 128; refine (HFM.out _).mono ?_; rintro _ w3 ⟨rfl, hb3⟩; obtain ⟨hc3, hf3⟩ := bcell hb3; have hz3 : w.heap.size + 1 < w3.heap.size := by have := hb3.size; simp at this; omega) | (go_at_call 118; refine (HL5.out _).mono ?_; rintro _ w4 ⟨rfl, hb4⟩; obtain ⟨hc4, hf4⟩ := bcell hb4)))
        have hBz : Below (w.heap.size + 1) (w.alloc (.cells #[.int .i64 0, .bool false, .int .i64 0, .string ⟨#[]⟩] 36)) w4 := (((Below.refl _ _).alloc (by simp) _).trans ((below_drewN (Below.refl _ _) _).trans (hb3.mono (by simp)))).trans (hb4.mono (by omega))
        obtain ⟨q0, q1, q2, q3, _⟩ := box4 hBz
        have hW : Below w.heap.size w w4 := ((((Below.refl _ _).alloc (Nat.le_refl _) _).alloc (by simp) _).trans ((below_drewN (Below.refl _ _) _).trans (hb3.mono (by simp; omega)))).trans (hb4.mono (by omega))
        have hz4 : w.heap.size + 1 < w4.heap.size := by have := hb4.size; omega
        have hfr : ∀ o, w4.frozen? ⟨w.heap.size, o, none⟩ = false := fun o => by rw [hf4 _ _ (by omega), hf3 _ _ (by simp; omega)]; simp
        go_wp2_with fail
        refine bodyPost_ret (v := .tuple #[.agg #[.int .i64 0, .bool false, .int .i64 0, .string ByteArray.empty], .int .i64 0, .bool false]) (by simp [results, Tryz.results103, go_sem, q0, q1, q2, q3]; rfl) rfl ?_
        refine ⟨ret_noParse HC.out, ?_⟩
        clear hc3 hf3 hb3 hc4 hf4 hb4 HC HB q0 q1 q2 q3 hBz
        go_grown
      ·have HC := Lib.hid (parse_no' (s := s) (k := k) (fun h => c3 (by have := h.2.2.2.2.1; rw [HB.out] at this; exact this)))
       have hfm : ∀ W, Calls Tryz.prog 128 #[.agg #[.int .i64 n2, .bool r, .int .i64 n4, .string (s.extract k8 e)]] W fun en w' => en = .returned (.bool false) ∧ Below W.heap.size W w' := fun W => specL5Form ⟨n2, r, n4, s.extract k8 e⟩ false W (by simp only; omega) (by simp only; omega) (by simp only; omega) (bfalse c3)
       have HFM := Lib.hid hfm
       clear hfm c3
       go_wp2_with fail
       refine wp_region_any (by kernel_rfl) ?_
       change wpAny _ _ _ _ _ _ _ (World.drew _)
       refine wpAny_ready (rs := [0]) (by kernel_rfl) (by simp) ?_
       refine AllReady.cons rfl (fun K hK => ?_) AllReady.nil
       go_simp
       refine hK _ _ ?_
       clear hK K
       refine wpAny_ready (rs := [1]) (by kernel_rfl) (by simp) ?_
       refine AllReady.cons rfl (fun K hK => ?_) AllReady.nil
       go_simp
       go_wp2_with (go_at_call 128; refine (HFM.out _).mono ?_; rintro _ w3 ⟨rfl, hb3⟩; obtain ⟨hc3, hf3⟩ := bcell hb3; have hz3 : w.heap.size + 1 < w3.heap.size := by have := hb3.size; simp at this; omega)
       refine wpAny_take (i := 2) (v := .bool true) rfl (by kernel_rfl) (by kernel_rfl) (by kernel_rfl) (fun _ _ _ h => h) (Or.inl ⟨by kernel_rfl, fun w => by go_simp⟩) ?_
       refine wpAny_take (i := 3) (v := .bool true) rfl (by kernel_rfl) (by kernel_rfl) (by kernel_rfl) (fun _ _ _ h => h) (Or.inl ⟨by kernel_rfl, fun w => by go_simp⟩) ?_
       refine wpAny_take (i := 4) (v := undef) rfl (by kernel_rfl) (by kernel_rfl) (by kernel_rfl) (fun _ _ _ h => h) (Or.inr ⟨by kernel_rfl, rfl⟩) ?_
       refine wpAny_take (i := 5) (v := undef) rfl (by kernel_rfl) (by kernel_rfl) (by kernel_rfl) (fun _ _ _ h => h) (Or.inr ⟨by kernel_rfl, rfl⟩) ?_
       refine wpAny_take (i := 6) (v := undef) rfl (by kernel_rfl) (by kernel_rfl) (by kernel_rfl) (fun _ _ _ h => h) (Or.inr ⟨by kernel_rfl, rfl⟩) ?_
       refine wpAny_take (i := 7) (v := undef) rfl (by kernel_rfl) (by kernel_rfl) (by kernel_rfl) (fun _ _ _ h => h) (Or.inr ⟨by kernel_rfl, rfl⟩) ?_
       refine wpAny_take (i := 8) (v := undef) rfl (by kernel_rfl) (by kernel_rfl) (by kernel_rfl) (fun _ _ _ h => h) (Or.inr ⟨by kernel_rfl, rfl⟩) ?_
       refine wpAny_take (i := 9) (v := undef) rfl (by kernel_rfl) (by kernel_rfl) (by kernel_rfl) (fun _ _ _ h => h) (Or.inr ⟨by kernel_rfl, rfl⟩) ?_
       refine wpAny_take (i := 10) (v := undef) rfl (by kernel_rfl) (by kernel_rfl) (by kernel_rfl) (fun _ _ _ h => h) (Or.inr ⟨by kernel_rfl, rfl⟩) ?_
       refine wpAny_take (i := 11) (v := .bool true) rfl (by kernel_rfl) (by kernel_rfl) (by kernel_rfl) (fun _ _ _ h => h) (Or.inl ⟨by kernel_rfl, fun w => by go_simp⟩) ?_
       refine wpAny_done (by kernel_rfl) ?_ _
       simp only [List.getElem_toArray, List.getElem_cons_succ, List.getElem_cons_zero, Act.put, List.setIfInBounds_toArray, List.set_cons_succ, List.set_cons_zero]
       have hBz : Below (w.heap.size + 1) (w.alloc (.cells #[.int .i64 0, .bool false, .int .i64 0, .string ⟨#[]⟩] 36)) w3 := ((Below.refl _ _).alloc (by simp) _).trans ((below_drewN (Below.refl _ _) _).trans (hb3.mono (by simp)))
       obtain ⟨q0, q1, q2, q3, _⟩ := box4 hBz
       have hfr : ∀ o, w3.frozen? ⟨w.heap.size, o, none⟩ = false := fun o => by rw [hf3 _ _ (by simp; omega)]; simp
       have hW : Below w.heap.size w w3 := (((Below.refl _ _).alloc (Nat.le_refl _) _).alloc (by simp) _).trans ((below_drewN (Below.refl _ _) _).trans (hb3.mono (by simp; omega)))
       go_wp2_with fail
       refine bodyPost_ret (v := .tuple #[.agg #[.int .i64 0, .bool false, .int .i64 0, .string ByteArray.empty], .int .i64 0, .bool false]) (by simp [results, Tryz.results103, go_sem, q0, q1, q2, q3]; rfl) rfl ?_
       refine ⟨ret_noParse HC.out, ?_⟩
       clear hc3 hf3 hb3 HC HB q0 q1 q2 q3 hBz
       go_grown
    ·have HC := Lib.hid (parse_no' (s := s) (k := k) (fun h => c2 (by have := h.2.2.2.1; rw [HE.out] at this; exact this)))
     go_wp2_with fail
     refine bodyPost_ret (v := .tuple #[.agg #[.int .i64 0, .bool false, .int .i64 0, .string ByteArray.empty], .int .i64 0, .bool false]) (by simp [results, Tryz.results103, go_sem]; rfl) rfl ?_
     exact ⟨ret_noParse HC.out, by go_grown⟩
   ·have HC := Lib.hid (parse_no' (s := s) (k := k) (fun h => c1 (by have := h.2.2.1; omega)))
    clear hx0 hx1 hk1
    go_enter Tryz.func103, Tryz.ntmps103
    go_wp2_with fail
    refine bodyPost_ret (v := .tuple #[.agg #[.int .i64 0, .bool false, .int .i64 0, .string ByteArray.empty], .int .i64 0, .bool false]) (by simp [results, Tryz.results103, go_sem]; rfl) rfl ?_
    exact ⟨ret_noParse HC.out, by go_grown⟩
  ·have HC := Lib.hid (parse_no' (s := s) (k := k) (fun h => c0 (by have := h.2.1; omega)))
   clear hx0 hx1 hk1
   go_enter Tryz.func103, Tryz.ntmps103
   go_wp2_with fail
   refine bodyPost_ret (v := .tuple #[.agg #[.int .i64 0, .bool false, .int .i64 0, .string ByteArray.empty], .int .i64 0, .bool false]) (by simp [results, Tryz.results103, go_sem]; rfl) rfl ?_
   exact ⟨ret_noParse HC.out, by go_grown⟩
 ·have HC := Lib.hid (parse_no (s := s) (a := a) (fun h => h0 ⟨h.1, by have := h.2.1; omega⟩))
  go_enter Tryz.func103, Tryz.ntmps103
  go_wp2_with fail
  all_goals refine bodyPost_ret (v := .tuple #[.agg #[.int .i64 0, .bool false, .int .i64 0, .string ByteArray.empty], .int .i64 0, .bool false]) (by simp [results, Tryz.results103, go_sem]; rfl) rfl ?_
  all_goals exact ⟨ret_noParse HC.out, by go_grown⟩

theorem specParseYes (s : ByteArray) (k : Nat) (a : Int) (w : World) (hs : s.size ≤ 1048576) (ha : a = k) (h : pbOk s k) (num size n : Nat) (raw : Bool) (body : ByteArray) (hb : pbBlk s k = ⟨num, raw, size, body⟩) (hn : pbEnd s k + 2 = n) :
  Calls Tryz.prog 103 #[.string s, .int .i64 a] w fun e w' => e = .returned (.tuple #[.agg #[.int .i64 num, .bool raw, .int .i64 size, .string body], .int .i64 n, .bool true]) ∧ Below w.heap.size w w' := by
 refine (specParseBlock s a w hs).mono ?_
 rintro e w' ⟨rfl, h'⟩
 subst ha
 exact ⟨by rw [parse_yes h, hb, hn], h'⟩

theorem specParseNo (s : ByteArray) (k : Nat) (a : Int) (w : World) (hs : s.size ≤ 1048576) (ha : a = k) (h : ¬ pbOk s k) :
  Calls Tryz.prog 103 #[.string s, .int .i64 a] w fun e w' => e = .returned (.tuple #[.agg #[.int .i64 0, .bool false, .int .i64 0, .string ByteArray.empty], .int .i64 0, .bool false]) ∧ Below w.heap.size w w' := by
 refine (specParseBlock s a w hs).mono ?_
 rintro e w' ⟨rfl, h'⟩
 subst ha
 exact ⟨by rw [parse_no' h]; rfl, h'⟩

set_option maxHeartbeats 2000000 in
theorem specL5Blocks (s : ByteArray) (w : World) (hs : s.size ≤ 1048576) :
  Calls Tryz.prog 63 #[.string s] w (BlksPost w (contB s)) := by
 obtain ⟨R, hR⟩ : ∃ R, contB s = R := ⟨_, rfl⟩
 rw [hR]
 unfold contB at hR
 have HR := Lib.hid hR
 clear hR
 go_enter Tryz.func63, Tryz.ntmps63
 go_wp2_with fail
 go_loopw [4, 5, 6] (fun v vz i wr => ∃ (k : Nat) (acc : List Blk) (n z : Nat), i = .int .i64 k ∧ vz = .int .i64 z ∧ Hid (szs acc = z) ∧ k ≤ s.size ∧ Numbered acc ∧ Hid (acc.length = n) ∧ n ≤ 40 ∧ Hid (conts s k acc = R) ∧ wr.ownsRow w.heap.size 36 4 v n (cellsB acc) ∧ Below w.heap.size w wr) (fun _ _ i _ => s.size - (intOf i).toNat)
 case atStart => exact ⟨0, [], 0, 0, rfl, rfl, Lib.hid rfl, Nat.zero_le _, Numbered.nil, Lib.hid rfl, by omega, HR, World.ownsRow_lit (base := w.heap.size) (size := 4) (e := 36) w #[] 0 (Nat.le_refl _) (by unfold maxLen; omega) rfl, (Below.refl _ _).alloc (Nat.le_refl _) _⟩
 case round =>
  obtain ⟨k, acc, n, z, rfl, rfl, HZ, hks, hnum, HN, hn40, HK, hown, hbel⟩ := hrel
  have hzs := szs_le (fun b hb => hnum.of_mem hb)
  rw [HN.out, HZ.out] at hzs
  have hwz := hbel.size
  obtain ⟨Av, cv, rfl, _, _⟩ := own_form hown
  by_cases hk : k < s.size
  ·by_cases hp : pbOk s k
   ·have hok := pbBlk_ok hp
    have hne := pbOk_end hp
    have hge := pbEnd_ge s k
    have hnx := @conts_next s k acc hk hp
    have hbd := @conts_bad s k acc hk
    rw [HK.out, HN.out] at hnx hbd
    obtain ⟨⟨num, raw, size, body⟩, hb⟩ : ∃ b, pbBlk s k = b := ⟨_, rfl⟩
    obtain ⟨m, hm⟩ : ∃ m, pbEnd s k + 2 = m := ⟨_, rfl⟩
    have HP := fun W => specParseYes s k k W hs rfl hp num size m raw body hb hm
    have HP := Lib.hid HP
    rw [hb, hm] at hnx
    rw [hb] at hbd hok
    rw [hm] at hne
    have hkm : k < m := by omega
    have hok' := hok
    obtain ⟨hb1, hb2, hb3, _⟩ := hok
    have HOK := Lib.hid hok'
    simp only at hb1 hb2 hb3 hnx hbd
    clear hb hm hp hge hok'
    by_cases c1 : num = n
    ·subst c1
     have HX := Lib.hid (hnx rfl)
     clear hnx hbd
     go_wp2_with fail
     refine (HP.out _).mono ?_
     rintro e w1 ⟨rfl, hb1⟩
     have hown1 := own_below hown hb1 (Nat.le_refl _)
     have hbel1 := hbel.trans (hb1.mono hwz)
     have hsz1 := hbel1.size
     clear hown hb1 hbel hwz
     go_wp2_with (first
      | (at_builtin; refine wpList_append_row _ elemBlk rfl (.tmp 32) (.tmp 34) rfl w.heap.size _ _ _ rfl ((hown1.alloc _).alloc _) _ _ 1 1 (blkCells ⟨num, raw, size, body⟩) rfl (Row.newAt _ (w1.heap.size + 1) (by simp) _ (blkCells ⟨num, raw, size, body⟩) 1 4 rfl) ?_ ?_ ?_ ?_ ?_))
     ·intro u hu; exact cellsB_oneCell [⟨num, raw, size, body⟩] u (by rw [cellsB_one]; exact hu)
     ·unfold maxLen; omega
     ·omega
     ·simp; omega
     ·intro v2 w2 hv2 hg2 _
      have hbel2 : Below w.heap.size w w2 := ((hbel1.alloc hsz1 _).alloc (by simp; omega) _).grown hg2 (by simp; omega) (fun g hg => (hown1.lt g hg).1)
      have hc2 : w2.cell? ⟨w1.heap.size, 2, none⟩ = some (.int .i64 size) := (World.cell?_of_block (hg2.block w1.heap.size (by simp; omega) (fun e => by have := (hown1.lt _ e.symm).2; omega))).trans (by rw [World.cell?_alloc_lt _ _ _ (by simp), World.cell?_alloc_mark]; rfl)
      rw [← cellsB_one, ← cellsB_append] at hv2
      clear hown1 hbel1 hsz1 hg2
      go_wp2_with fail
      go_roundw
      case rel => exact ⟨m, acc ++ [⟨num, raw, size, body⟩], num + 1, z + size, rfl, by go_num, Lib.hid (by rw [szs_append, HZ.out]; rfl), by omega, hnum.snoc (b := ⟨num, raw, size, body⟩) HN.out.symm HOK.out, Lib.hid (by rw [List.length_append, HN.out]; rfl), by omega, Lib.hid HX.out.symm, hv2, hbel2⟩
      case measure => simp [intOf]; omega
    ·have HX := Lib.hid (hbd (fun h => c1 h.2))
     have hcb : ((num : Int) != n) = true := by rw [bne_iff_ne]; omega
     clear hnx hbd
     go_wp2_with fail
     refine (HP.out _).mono ?_
     rintro e w1 ⟨rfl, hb1⟩
     go_wp2_with fail
     go_ret2
     rw [HX.out]
     exact ⟨_, 0, rfl, own_empty _ (w1.heap.size + 1) (by simp) _ (by have := hb1.size; omega) _ _, ((hbel.trans (hb1.mono hwz)).alloc (by have := hb1.size; omega) _).alloc (by have := hb1.size; simp; omega) _⟩
   ·have hv := @conts_bad s k acc hk (fun h => hp h.1)
    rw [HK.out] at hv
    have HX := Lib.hid hv
    have HP := Lib.hid (fun W => specParseNo s k k W hs rfl hp)
    clear hv hp
    go_wp2_with fail
    refine (HP.out _).mono ?_
    rintro e w1 ⟨rfl, hb1⟩
    go_wp2_with fail
    go_ret2
    rw [HX.out]
    exact ⟨_, 0, rfl, own_empty _ (w1.heap.size + 1) (by simp) _ (by have := hb1.size; omega) _ _, ((hbel.trans (hb1.mono hwz)).alloc (by have := hb1.size; omega) _).alloc (by have := hb1.size; simp; omega) _⟩
  ·have hv := @conts_end s k acc (by omega)
   rw [HK.out] at hv
   rw [HZ.out] at hv
   by_cases c2 : z ≤ 2000
   ·rw [if_pos c2] at hv
    have HX := Lib.hid hv
    clear hv
    go_wp2_with fail
    go_ret2
    rw [HX.out]
    refine ⟨Av, cv, ?_, ?_, hbel⟩
    ·simp only [Option.getD_some, HN.out]; rfl
    ·simp only [Option.getD_some, HN.out]; exact hown
   ·rw [if_neg c2] at hv
    have HX := Lib.hid hv
    clear hv
    go_wp2_with fail
    go_ret2
    rw [HX.out]
    exact ⟨_, 0, rfl, World.ownsRow_lit (size := 4) (e := 36) wr #[] 0 hwz (by unfold maxLen; omega) rfl, hbel.alloc hwz _⟩

theorem specL5BlocksYes (s : ByteArray) (bs : List Blk) (n : Nat) (w : World) (hs : s.size ≤ 1048576) (h : contB s = some bs) (hn : bs.length = n) :
  Calls Tryz.prog 63 #[.string s] w fun e w' => ∃ A c, e = .returned (.tuple #[.slice A n c, .bool true]) ∧ w'.ownsRow w.heap.size 36 4 (.slice A n c) n (cellsB bs) ∧ Below w.heap.size w w' := by
 refine (specL5Blocks s w hs).mono ?_
 rintro e w' ⟨A, c, he, ho, hb⟩
 rw [h] at he ho
 subst hn
 exact ⟨A, c, he, ho, hb⟩

theorem specL5BlocksNo (s : ByteArray) (w : World) (hs : s.size ≤ 1048576) (h : contB s = none) :
  Calls Tryz.prog 63 #[.string s] w fun e w' => ∃ A c, e = .returned (.tuple #[.slice A 0 c, .bool false]) ∧ w'.ownsRow w.heap.size 36 4 (.slice A 0 c) 0 [] ∧ Below w.heap.size w w' := by
 refine (specL5Blocks s w hs).mono ?_
 rintro e w' ⟨A, c, he, ho, hb⟩
 rw [h] at he ho
 exact ⟨A, c, he, ho, hb⟩

end Go.Proofs.YthlgpgaeajfchaaGreat

