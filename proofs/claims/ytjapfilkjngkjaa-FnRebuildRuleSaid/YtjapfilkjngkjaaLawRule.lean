/-
  The walk of the law FnRebuildRule: it returns true for all drawn strings and parities.
-/
import Derived.Test.YtjapfilkjngkjaaDrawReb
import Derived.Test.YtjapfilkjngkjaaXorMath
import Derived.Deep.RegionHeld3
namespace Go.Proofs.Ytjapfilkjngkjaa
open Go.RowKit
set_option linter.unusedVariables false

theorem bAt_two0 (n : Nat) : bAt (two n) 0 = UInt8.ofNat (n / 256) := rfl

theorem bAt_two1 (n : Nat) : bAt (two n) 1 = UInt8.ofNat n := rfl

theorem two_num2 (x : ByteArray) (h : x.size = 2) : two (num2 x) = x := by
  have h0 := (bAt x 0).toNat_lt
  have h1 := (bAt x 1).toNat_lt
  refine ba_same (by rw [h]; rfl) fun i hi => ?_
  have hi2 : i < 2 := hi
  have hc : i = 0 ∨ i = 1 := by omega
  rcases hc with rfl | rfl
  · rw [bAt_two0]; apply UInt8.toNat.inj; rw [UInt8.toNat_ofNat']; unfold num2; omega
  · rw [bAt_two1]; apply UInt8.toNat.inj; rw [UInt8.toNat_ofNat']; unfold num2; omega

theorem maxSz_two (ss : List ByteArray) : maxSz (ss.map fun s => two s.size) ≤ 2 := by
  refine maxSz_le fun s hs => ?_
  obtain ⟨t, _, rfl⟩ := List.mem_map.1 hs
  exact Nat.le_refl 2

theorem rule_text {ss : List ByteArray} {p : ByteArray} (h : rbOk ss p) : (rebuild ss p).1.size = num2 (xorAll (rbLens ss p)) := by
  rw [rebuild_yes h]
  have h1 := rbTexts_max ss p
  have h2 := h.2.2.2
  simp only [ByteArray.size_extract]
  rw [xorAll_size]
  omega

/-- The parity of the lengths of the strings and of the restored one. -/
theorem rule_lens {ss : List ByteArray} {p : ByteArray} (h : rbOk ss p) : xorAll ((ss ++ [(rebuild ss p).1]).map fun s => two s.size) = p.extract 0 2 := by
  have hp := h.1
  have h2 : (p.extract 0 2).size = 2 := by simp; omega
  have hX : (xorAll (rbLens ss p)).size = 2 := by
    rw [xorAll_size]; unfold rbLens; rw [maxSz_cons, h2]
    have := maxSz_two ss
    omega
  rw [List.map_append, List.map_cons, List.map_nil, rule_text h, two_num2 _ hX]
  refine ba_same ?_ fun i _ => ?_
  · rw [xorAll_size, maxSz_append, maxSz_cons, hX, h2]
    have := maxSz_two ss
    have : maxSz [] = 0 := rfl
    omega
  · rw [bAt_xorAll, xorAt_append, xorAt_cons, bAt_xorAll]
    unfold rbLens
    rw [xorAt_cons]
    have : xorAt [] i = 0 := rfl
    rw [this, UInt8.xor_zero, UInt8.xor_comm (bAt _ _), ← UInt8.xor_assoc, UInt8.xor_self, UInt8.zero_xor]

set_option maxHeartbeats 4000000 in
theorem lawFnRebuildRule (A : Option Addr) (n c : Nat) (bs : List UInt8) (w : World) (h : ByteRow w A n bs) (hnc : n ≤ c) :
    Calls Try.prog 4 #[.slice A n c] w fun e w' => e = .returned (.bool true) ∧ Below w.heap.size w w' := by
  have hle := h.le
  unfold maxLen at hle
  by_cases hn : n ≤ 1048576
  · go_enter Try.func4, Try.ntmps4
    go_wp2_with fail
    refine (specDrawRebuildText A n c bs _ h hnc).mono ?_
    rintro e w1 ⟨A1, m, c1, ss, p, rfl, hrow1, hm6, hss, hp11, hb1⟩
    have hsl : ss.length = m := by have := hrow1.1; simpa using this
    have hz1 := hb1.size
    have hs2 : ∀ s ∈ ss, s.size ≤ 1048576 := fun s hs => by have := hss s hs; omega
    have HI := Lib.hid (fun W h1 h2 => implRebuildText A1 m c1 w1.heap.size ss p W hsl h1 h2 (by omega) hs2 (by omega))
    have HS := Lib.hid (fun W h1 h2 => specRebuildText A1 m c1 w1.heap.size ss p W hsl h1 h2 (by omega) hs2 (by omega))
    have HL := Lib.hid hsl
    have HSS := Lib.hid hss
    clear hsl hss hs2
    go_wp2_with fail
    refine (HI.out _ hrow1 (Nat.le_refl _)).mono ?_
    rintro e w2 ⟨rfl, hb2⟩
    have hrow2 := hrow1.below hb2 (Nat.le_refl _)
    have hz2 := hb2.size
    have hb02 := hb1.trans (hb2.mono hz1)
    go_wp2_with fail
    refine (HS.out _ hrow2 hz2).mono ?_
    rintro e w3 ⟨rfl, hb3⟩
    have hrow3 := hrow2.below hb3 hz2
    have hz3 := hb3.size
    have hb03 := hb02.trans (hb3.mono hb02.size)
    have hz03 := hb03.size
    have hz13 : w1.heap.size ≤ w3.heap.size := Nat.le_trans hz2 hz3
    clear hb1 hb2 hb02 hb3 hrow1 hrow2
    by_cases hok : rbOk ss p
    · have hl := rule_lens hok
      have ht := rule_text hok
      have h2 := hok.2.2.2
      have hp2 := hok.1
      rw [← ht] at h2
      obtain ⟨t, hte⟩ : ∃ t, (rebuild ss p).1 = t := ⟨_, rfl⟩
      have hb : (rebuild ss p).2 = true := by rw [rebuild_yes hok]
      rw [hb, hte]
      rw [hte] at h2 hl
      obtain ⟨ts, hts⟩ : ∃ ts, ss ++ [t] = ts := ⟨_, rfl⟩
      rw [hts] at hl
      obtain ⟨us, hus⟩ : ∃ us, (ts.map fun s => two s.size) = us := ⟨_, rfl⟩
      rw [hus] at hl
      have htl : ts.length = m + 1 := by rw [← hts, List.length_append, HL.out]; rfl
      have hul : us.length = m + 1 := by rw [← hus, List.length_map, htl]
      have hts9 : ∀ s ∈ ts, s.size ≤ 9 := fun s hs => by
        rw [← hts] at hs
        rcases List.mem_append.1 hs with h | h
        · exact HSS.out s h
        · simp at h; subst h; omega
      have hus2 : ∀ u ∈ us, u.size ≤ 1048576 := fun u hu => by
        rw [← hus] at hu
        obtain ⟨s, _, rfl⟩ := List.mem_map.1 hu
        exact Nat.le_trans (show (two s.size).size ≤ 2 from Nat.le_refl 2) (by omega)
      have hget : ∀ k, k < m + 1 → ∃ s, ts[k]? = some s ∧ (us.take (k + 1)).map Value.string = (us.take k).map Value.string ++ [.string (two s.size)] ∧ s.size ≤ 9 := fun k hk => by
        have hk' : k < ts.length := by omega
        refine ⟨ts[k], List.getElem?_eq_getElem hk', ?_, hts9 _ (List.getElem_mem hk')⟩
        rw [List.take_succ_eq_append_getElem (by omega), List.map_append]
        simp [← hus]
      have HX := fun A c B W h1 h2 => implXorTexts A (m + 1) c B us W hul h1 h2 (by omega) hus2
      rw [hl] at HX
      have HX := Lib.hid HX
      have HG := Lib.hid hget
      have HUL := Lib.hid hul
      have HTS := Lib.hid (show (ss.map Value.string) ++ [.string t] = ts.map Value.string by rw [← hts]; simp)
      clear hl ht hte hb hts hus htl hul hts9 hus2 hget hok HI HS HSS
      have he0 : ((w3.alloc (.cells #[] 9)).alloc (.cells #[] 9)).ownsRow w3.heap.size 9 1 (.slice (some ⟨w3.heap.size + 1, 0, none⟩) 0 0) 0 [] := own_empty _ _ (by simp) w3.heap.size (by simp) 9 1
      have hr2 := (hrow3.alloc hz13 (.cells #[] 9)).alloc (by simp; omega) (.cells #[] 9)
      go_wp2_with (first
        | (at_builtin; refine wpList_append_row _ elemStr rfl (.tmp 53) (.tmp 54) rfl w3.heap.size _ _ _ rfl he0 _ _ m c1 (ss.map Value.string) rfl hr2 ?_ ?_ ?_ ?_ ?_))
      · intro u hu
        obtain ⟨s, _, rfl⟩ := List.mem_map.1 hu
        rfl
      · unfold maxLen; omega
      · omega
      · simp; omega
      · intro v4 w4 hv4 hg4 hat4
        have hb4 : Below w3.heap.size w3 w4 := (((Below.refl w3.heap.size w3).alloc (Nat.le_refl _) _).alloc (by simp) _).grown hg4 (by simp; omega) (fun g hg => by simp [Value.ownBlock] at hg; omega)
        have hlen4 : w4.ownsRow w3.heap.size 9 1 (.slice (some ⟨w3.heap.size, 0, none⟩) 0 0) 0 [] := by
          refine ((own_empty w3 _ rfl w3.heap.size (Nat.le_refl _) 9 1).alloc _).kept hg4 ?_
          refine Or.inr fun e => ?_
          simp [Value.ownBlock] at e
        have hap4 : Apart (.slice (some ⟨w3.heap.size, 0, none⟩) 0 0) v4 := by
          intro g hg hv
          simp [Value.ownBlock] at hg
          subst hg
          rcases hat4 with e | e
          · rw [hv] at e; simp [Value.ownBlock] at e
          · rw [hv] at e; simp at e; omega
        have hz4 := hb4.size
        obtain ⟨A4, c4, rfl, _, _⟩ := own_form hv4
        clear hg4 hat4
        go_wp2_with (first
          | (at_builtin; refine wpList_append_row _ elemStr rfl (.tmp 55) (.tmp 57) rfl w3.heap.size _ _ _ rfl (hv4.alloc _) _ _ 1 1 [.string t] rfl (Row.newAt _ w4.heap.size rfl _ [.string t] 1 1 rfl) ?_ ?_ ?_ ?_ ?_))
        · intro u hu; simp at hu; subst hu; rfl
        · unfold maxLen; omega
        · omega
        · simp; omega
        · intro v5 w5 hv5 hg5 hat5
          have hb5 : Below w3.heap.size w3 w5 := (hb4.alloc hz4 _).grown hg5 (by simp; omega) (fun g hg => (hv4.lt g hg).1)
          have hlen5 := (hlen4.alloc _).kept hg5 hap4.symm.kept
          have hap5 : Apart v5 (.slice (some ⟨w3.heap.size, 0, none⟩) 0 0) := hap4.symm.step hat5 (fun g hg => by have := (hlen4.lt g hg).2; omega)
          have hv5' : w5.ownsRow w3.heap.size 9 1 v5 (m + 1) (ts.map .string) := by rw [← HTS.out]; simpa using hv5
          have hz5 := hb5.size
          obtain ⟨A5, c5, rfl, _, _⟩ := own_form hv5'
          clear hv4 hlen4 hap4 hb4 hg5 hat5 hv5
          obtain ⟨M, hM⟩ : ∃ M, m + 1 = M := ⟨_, rfl⟩
          rw [hM] at hv5' HX HG HUL hap5
          rw [hM]
          go_wp2_with fail
          go_loopw [9, 11] (fun v i wr => ∃ k : Nat, k ≤ M ∧ i = .int .i64 k ∧ wr.ownsRow w3.heap.size 9 1 v k ((us.take k).map .string) ∧ wr.ownsRow w3.heap.size 9 1 (.slice A5 M c5) M (ts.map .string) ∧ Apart (.slice A5 M c5) v ∧ Below w3.heap.size w3 wr) (fun _ i _ => M - (intOf i).toNat)
          case atStart => exact ⟨0, Nat.zero_le _, rfl, hlen5, hv5', hap5, hb5⟩
          case round =>
            obtain ⟨k, hk, rfl, hown, hall, hap, hbel⟩ := hrel
            have hwz := hbel.size
            obtain ⟨Av, cv, rfl, _, _⟩ := own_form hown
            by_cases hlt : k < M
            · obtain ⟨s, hs1, hu, hs9⟩ := HG.out k hlt
              obtain ⟨b, off, rfl, hbl, hc⟩ := (Row.of_own hall).2 (by omega)
              have hcell : wr.cell? ⟨b, off + k, none⟩ = some (.string s) := hc k _ (by simp [hs1])
              have hcA : ∀ o, (wr.alloc o).cell? ⟨b, off + k, none⟩ = some (.string s) := fun o => by rw [World.cell?_alloc_lt _ _ _ (by show b < _; omega)]; exact hcell
              have hcB : ∀ o o', ((wr.alloc o).alloc o').cell? ⟨b, off + k, none⟩ = some (.string s) := fun o o' => by rw [World.cell?_alloc_lt _ _ _ (by show b < _; simp; omega)]; exact hcA o
              have hcv : (convert 22 9 (.slice (some ⟨wr.heap.size, 0, none⟩) 2 2)).run Try.prog ((wr.alloc (.cells #[.int .u8 ((s.size : Int) / 256 % 256), .int .u8 ((s.size : Int) % 256)] 5)).drew) = .ok (.string (two s.size)) ((wr.alloc (.cells #[.int .u8 ((s.size : Int) / 256 % 256), .int .u8 ((s.size : Int) % 256)] 5)).drew) :=
                run_two (P := Try.prog) Try.underlying22 Try.underlying5 Try.underlying9 s.size wr.drew
              obtain ⟨u, hue⟩ : ∃ u, two s.size = u := ⟨_, rfl⟩
              rw [hue] at hu
              simp only [hue] at hcv
              have HU := Lib.hid hu
              have q1 : IntKind.i64.wrap ((s.size : Int) / 256) = (s.size : Int) / 256 := IntWalk.i64_in _ (by omega)
              have q2 : IntKind.u8.wrap ((s.size : Int) / 256) = (s.size : Int) / 256 % 256 := by rw [IntKind.wrap_u8]
              have q3 : IntKind.u8.wrap ((s.size : Int).tmod 256) = (s.size : Int) % 256 := by rw [IntKind.wrap_u8, Int.tmod_eq_emod_of_nonneg (by omega)]; omega
              clear hc hs1 hue hu
              have hnew : Row ((wr.alloc (.cells #[.int .u8 ((s.size : Int) / 256 % 256), .int .u8 ((s.size : Int) % 256)] 5)).alloc (.cells #[.string u] 9)) (wr.heap.size + 1 + 1) 1 (some ⟨wr.heap.size + 1, 0, none⟩) 1 [.string u] := Row.newAt _ (wr.heap.size + 1) (by simp) _ [.string u] 1 1 rfl
              have hown2 := (hown.alloc (.cells #[.int .u8 ((s.size : Int) / 256 % 256), .int .u8 ((s.size : Int) % 256)] 5)).alloc (.cells #[.string u] 9)
              have hall2 := (hall.alloc (.cells #[.int .u8 ((s.size : Int) / 256 % 256), .int .u8 ((s.size : Int) % 256)] 5)).alloc (.cells #[.string u] 9)
              have hbel2 := (hbel.alloc hwz (.cells #[.int .u8 ((s.size : Int) / 256 % 256), .int .u8 ((s.size : Int) % 256)] 5)).alloc (by simp; omega) (.cells #[.string u] 9)
              go_wp2_with fail
              refine wp_region_any (by kernel_rfl) ?_
              change wpAny _ _ _ _ _ _ _ (World.drew _)
              refine wpAny_take (i := 0) (v := .slice Av k cv) rfl (by kernel_rfl) (by kernel_rfl) (by kernel_rfl) (fun _ _ _ h => h) (Or.inl ⟨by kernel_rfl, fun w => by go_simp⟩) ?_
              refine wpAny_take (i := 1) (v := .slice (some ⟨b, off, none⟩) M c5) rfl (by kernel_rfl) (by kernel_rfl) (by kernel_rfl) (fun _ _ _ h => h) (Or.inl ⟨by kernel_rfl, fun w => by go_simp⟩) ?_
              refine wpAny_take (i := 2) (v := .int .i64 (k : Int)) rfl (by kernel_rfl) (by kernel_rfl) (by kernel_rfl) (fun _ _ _ h => h) (Or.inl ⟨by kernel_rfl, fun w => by go_simp⟩) ?_
              refine wpAny_take (i := 3) (v := .pointer (some ⟨b, off + k, none⟩)) rfl (by kernel_rfl) (by kernel_rfl) (by kernel_rfl) (fun _ _ _ h => h) (Or.inl ⟨by kernel_rfl, fun w => by go_simp⟩) ?_
              refine wpAny_take (i := 8) (v := .slice (some ⟨b, off, none⟩) M c5) rfl (by kernel_rfl) (by kernel_rfl) (by kernel_rfl) (fun _ _ _ h => h) (Or.inl ⟨by kernel_rfl, fun w => by go_simp⟩) ?_
              refine wpAny_take (i := 9) (v := .int .i64 (k : Int)) rfl (by kernel_rfl) (by kernel_rfl) (by kernel_rfl) (fun _ _ _ h => h) (Or.inl ⟨by kernel_rfl, fun w => by go_simp⟩) ?_
              refine wpAny_take (i := 10) (v := .pointer (some ⟨b, off + k, none⟩)) rfl (by kernel_rfl) (by kernel_rfl) (by kernel_rfl) (fun _ _ _ h => h) (Or.inl ⟨by kernel_rfl, fun w => by go_simp⟩) ?_
              refine wpAny_ready (rs := [4, 11]) (by kernel_rfl) (by simp) ?_
              refine AllReady.cons rfl (fun K hK => ?_) (AllReady.cons rfl (fun K hK => ?_) AllReady.nil)
              · go_simp
                refine hK _ _ ?_
                clear hK K
                refine wpAny_take (i := 5) (v := .int .i64 (s.size : Int)) rfl (by kernel_rfl) (by kernel_rfl) (by kernel_rfl) (fun _ _ _ h => h) (Or.inl ⟨by kernel_rfl, fun w => by go_simp⟩) ?_
                refine wpAny_take (i := 6) (v := .int .i64 ((s.size : Int) / 256)) rfl (by kernel_rfl) (by kernel_rfl) (by kernel_rfl) (fun _ _ _ h => h) (Or.inl ⟨by kernel_rfl, fun w => by go_simp⟩) ?_
                refine wpAny_take (i := 7) (v := .int .u8 ((s.size : Int) / 256 % 256)) rfl (by kernel_rfl) (by kernel_rfl) (by kernel_rfl) (fun _ _ _ h => h) (Or.inl ⟨by kernel_rfl, fun w => by go_simp⟩) ?_
                refine wpAny_ready (rs := [11]) (by kernel_rfl) (by simp) ?_
                refine AllReady.cons rfl (fun K hK => ?_) AllReady.nil
                go_simp
                refine hK _ _ ?_
                clear hK K
                refine wpAny_take (i := 12) (v := .int .i64 (s.size : Int)) rfl (by kernel_rfl) (by kernel_rfl) (by kernel_rfl) (fun _ _ _ h => h) (Or.inl ⟨by kernel_rfl, fun w => by go_simp⟩) ?_
                refine wpAny_take (i := 13) (v := .int .i64 ((s.size : Int).tmod 256)) rfl (by kernel_rfl) (by kernel_rfl) (by kernel_rfl) (fun _ _ _ h => h) (Or.inl ⟨by kernel_rfl, fun w => by go_simp⟩) ?_
                refine wpAny_take (i := 14) (v := .int .u8 ((s.size : Int) % 256)) rfl (by kernel_rfl) (by kernel_rfl) (by kernel_rfl) (fun _ _ _ h => h) (Or.inl ⟨by kernel_rfl, fun w => by go_simp⟩) ?_
                refine wpAny_ready (rs := [15]) (by kernel_rfl) (by simp) ?_
                refine AllReady.cons rfl (fun K hK => ?_) AllReady.nil
                go_simp
                refine hK _ _ ?_
                clear hK K
                refine wpAny_ready (rs := [16]) (by kernel_rfl) (by simp) ?_
                refine AllReady.cons rfl (fun K hK => ?_) AllReady.nil
                go_simp
                refine hK _ _ ?_
                clear hK K
                refine wpAny_ready (rs := [17]) (by kernel_rfl) (by simp) ?_
                refine AllReady.cons rfl (fun K hK => ?_) AllReady.nil
                go_simp
                refine hK _ _ ?_
                clear hK K
                refine wpAny_ready (rs := [18]) (by kernel_rfl) (by simp) ?_
                refine AllReady.cons rfl (fun K hK => ?_) AllReady.nil
                refine step_append_row _ elemStr (by rfl) (.tmp 65) (.tmp 82) (by rfl) w3.heap.size _ _ _ (by rfl) (World.ownsRow.drew hown2) _ _ 1 1 [.string u] (by rfl) (Row.drew hnew) (by intro u hu; simp at hu; subst hu; rfl) (by unfold maxLen; omega) (by omega) (by simp; omega) ?_
                intro v6 w6 hv6 hg6 hat6
                refine hK _ _ ?_
                clear hK K
                refine wpAny_take (i := 19) (v := v6) rfl (by kernel_rfl) (by kernel_rfl) (by kernel_rfl) (fun _ _ _ h => h) (Or.inl ⟨by kernel_rfl, fun w => by go_simp⟩) ?_
                refine wpAny_done (by kernel_rfl) ?_ _
                simp only [List.getElem_toArray, List.getElem_cons_succ, List.getElem_cons_zero, Act.put, List.setIfInBounds_toArray, List.set_cons_succ, List.set_cons_zero]
                have hv6' : w6.ownsRow w3.heap.size 9 1 v6 (k + 1) ((us.take (k + 1)).map .string) := by rw [HU.out]; exact hv6
                have hall6 : w6.ownsRow w3.heap.size 9 1 (.slice (some ⟨b, off, none⟩) M c5) M (ts.map .string) := hall2.drew.kept hg6 hap.symm.kept
                have hbel6 : Below w3.heap.size w3 w6 := hbel2.drew.grown hg6 (by simp; omega) (fun g hg => (hown2.lt g hg).1)
                have hap6 : Apart (.slice (some ⟨b, off, none⟩) M c5) v6 := (hap.symm.step hat6 (fun g hg => by have := (hall2.lt g hg).2; simp at this ⊢; omega)).symm
                clear hg6 hat6 hv6 hown hall hap hbel hown2 hall2 hbel2 hnew hcv
                go_wp2_with fail
                go_roundw
                case rel => exact ⟨k + 1, by omega, by go_num, hv6', hall6, hap6, hbel6⟩
                case measure => simp [intOf]; omega
              · go_simp
                refine hK _ _ ?_
                clear hK K
                refine wpAny_take (i := 12) (v := .int .i64 (s.size : Int)) rfl (by kernel_rfl) (by kernel_rfl) (by kernel_rfl) (fun _ _ _ h => h) (Or.inl ⟨by kernel_rfl, fun w => by go_simp⟩) ?_
                refine wpAny_take (i := 13) (v := .int .i64 ((s.size : Int).tmod 256)) rfl (by kernel_rfl) (by kernel_rfl) (by kernel_rfl) (fun _ _ _ h => h) (Or.inl ⟨by kernel_rfl, fun w => by go_simp⟩) ?_
                refine wpAny_take (i := 14) (v := .int .u8 ((s.size : Int) % 256)) rfl (by kernel_rfl) (by kernel_rfl) (by kernel_rfl) (fun _ _ _ h => h) (Or.inl ⟨by kernel_rfl, fun w => by go_simp⟩) ?_
                refine wpAny_ready (rs := [4]) (by kernel_rfl) (by simp) ?_
                refine AllReady.cons rfl (fun K hK => ?_) AllReady.nil
                go_simp
                refine hK _ _ ?_
                clear hK K
                refine wpAny_take (i := 5) (v := .int .i64 (s.size : Int)) rfl (by kernel_rfl) (by kernel_rfl) (by kernel_rfl) (fun _ _ _ h => h) (Or.inl ⟨by kernel_rfl, fun w => by go_simp⟩) ?_
                refine wpAny_take (i := 6) (v := .int .i64 ((s.size : Int) / 256)) rfl (by kernel_rfl) (by kernel_rfl) (by kernel_rfl) (fun _ _ _ h => h) (Or.inl ⟨by kernel_rfl, fun w => by go_simp⟩) ?_
                refine wpAny_take (i := 7) (v := .int .u8 ((s.size : Int) / 256 % 256)) rfl (by kernel_rfl) (by kernel_rfl) (by kernel_rfl) (fun _ _ _ h => h) (Or.inl ⟨by kernel_rfl, fun w => by go_simp⟩) ?_
                refine wpAny_ready (rs := [15]) (by kernel_rfl) (by simp) ?_
                refine AllReady.cons rfl (fun K hK => ?_) AllReady.nil
                go_simp
                refine hK _ _ ?_
                clear hK K
                refine wpAny_ready (rs := [16]) (by kernel_rfl) (by simp) ?_
                refine AllReady.cons rfl (fun K hK => ?_) AllReady.nil
                go_simp
                refine hK _ _ ?_
                clear hK K
                refine wpAny_ready (rs := [17]) (by kernel_rfl) (by simp) ?_
                refine AllReady.cons rfl (fun K hK => ?_) AllReady.nil
                go_simp
                refine hK _ _ ?_
                clear hK K
                refine wpAny_ready (rs := [18]) (by kernel_rfl) (by simp) ?_
                refine AllReady.cons rfl (fun K hK => ?_) AllReady.nil
                refine step_append_row _ elemStr (by rfl) (.tmp 65) (.tmp 82) (by rfl) w3.heap.size _ _ _ (by rfl) (World.ownsRow.drew hown2) _ _ 1 1 [.string u] (by rfl) (Row.drew hnew) (by intro u hu; simp at hu; subst hu; rfl) (by unfold maxLen; omega) (by omega) (by simp; omega) ?_
                intro v6 w6 hv6 hg6 hat6
                refine hK _ _ ?_
                clear hK K
                refine wpAny_take (i := 19) (v := v6) rfl (by kernel_rfl) (by kernel_rfl) (by kernel_rfl) (fun _ _ _ h => h) (Or.inl ⟨by kernel_rfl, fun w => by go_simp⟩) ?_
                refine wpAny_done (by kernel_rfl) ?_ _
                simp only [List.getElem_toArray, List.getElem_cons_succ, List.getElem_cons_zero, Act.put, List.setIfInBounds_toArray, List.set_cons_succ, List.set_cons_zero]
                have hv6' : w6.ownsRow w3.heap.size 9 1 v6 (k + 1) ((us.take (k + 1)).map .string) := by rw [HU.out]; exact hv6
                have hall6 : w6.ownsRow w3.heap.size 9 1 (.slice (some ⟨b, off, none⟩) M c5) M (ts.map .string) := hall2.drew.kept hg6 hap.symm.kept
                have hbel6 : Below w3.heap.size w3 w6 := hbel2.drew.grown hg6 (by simp; omega) (fun g hg => (hown2.lt g hg).1)
                have hap6 : Apart (.slice (some ⟨b, off, none⟩) M c5) v6 := (hap.symm.step hat6 (fun g hg => by have := (hall2.lt g hg).2; simp at this ⊢; omega)).symm
                clear hg6 hat6 hv6 hown hall hap hbel hown2 hall2 hbel2 hnew hcv
                go_wp2_with fail
                go_roundw
                case rel => exact ⟨k + 1, by omega, by go_num, hv6', hall6, hap6, hbel6⟩
                case measure => simp [intOf]; omega
            · obtain rfl : k = M := by omega
              have ht : us.take k = us := List.take_of_length_le (by rw [HUL.out]; omega)
              rw [ht] at hown
              have hr1 := Row.of_own hown
              clear hown ht
              have h2' : ((t.size : Int) ≤ (p.size : Int) - 2) := by omega
              have hdd : decide ((t.size : Int) ≤ (p.size : Int) - 2) = true := decide_eq_true h2'
              have hpp : (2 : Int) ≤ (p.size : Int) := by omega
              have ep2 : IntKind.i64.wrap ((p.size : Int) - 2) = (p.size : Int) - 2 := IntWalk.i64_in _ (by omega)
              obtain ⟨x, hx⟩ : ∃ x, p.extract 0 2 = x := ⟨_, rfl⟩
              rw [hx] at HX
              go_wp2_with fail
              refine wp_region_any (by kernel_rfl) ?_
              change wpAny _ _ _ _ _ _ _ (World.drew _)
              refine wpAny_take (i := 0) (v := .slice Av k cv) rfl (by kernel_rfl) (by kernel_rfl) (by kernel_rfl) (fun _ _ _ h => h) (Or.inl ⟨by kernel_rfl, fun w => by go_simp⟩) ?_
              refine wpAny_take (i := 2) (v := .string p) rfl (by kernel_rfl) (by kernel_rfl) (by kernel_rfl) (fun _ _ _ h => h) (Or.inl ⟨by kernel_rfl, fun w => by go_simp⟩) ?_
              refine wpAny_take (i := 3) (v := .string x) rfl (by kernel_rfl) (by kernel_rfl) (by kernel_rfl) (fun _ _ _ h => h) (Or.inl ⟨by kernel_rfl, fun w => by go_simp⟩) ?_
              refine wpAny_ready (rs := [1]) (by kernel_rfl) (by simp) ?_
              refine AllReady.cons rfl (fun K hK => ?_) AllReady.nil
              go_simp
              go_wp2_with (go_at_call 7; refine (HX.out _ _ wr.heap.size _ (hr1.below ((Below.refl _ _).drew) (Nat.le_refl _)) (by simp)).mono ?_; rintro e wa ⟨rfl, hba⟩)
              refine wpAny_take (i := 4) (v := .bool true) rfl (by kernel_rfl) (by kernel_rfl) (by kernel_rfl) (fun _ _ _ h => h) (Or.inl ⟨by kernel_rfl, fun w => by go_simp⟩) ?_
              refine wpAny_take (i := 5) (v := .bool true) rfl (by kernel_rfl) (by kernel_rfl) (by kernel_rfl) (fun _ _ _ h => h) (Or.inl ⟨by kernel_rfl, fun w => by go_simp⟩) ?_
              refine wpAny_take (i := 6) (v := .string t) rfl (by kernel_rfl) (by kernel_rfl) (by kernel_rfl) (fun _ _ _ h => h) (Or.inl ⟨by kernel_rfl, fun w => by go_simp⟩) ?_
              refine wpAny_take (i := 7) (v := .int .i64 (t.size : Int)) rfl (by kernel_rfl) (by kernel_rfl) (by kernel_rfl) (fun _ _ _ h => h) (Or.inl ⟨by kernel_rfl, fun w => by go_simp⟩) ?_
              refine wpAny_take (i := 8) (v := .string p) rfl (by kernel_rfl) (by kernel_rfl) (by kernel_rfl) (fun _ _ _ h => h) (Or.inl ⟨by kernel_rfl, fun w => by go_simp⟩) ?_
              refine wpAny_take (i := 9) (v := .int .i64 (p.size : Int)) rfl (by kernel_rfl) (by kernel_rfl) (by kernel_rfl) (fun _ _ _ h => h) (Or.inl ⟨by kernel_rfl, fun w => by go_simp⟩) ?_
              refine wpAny_take (i := 10) (v := .int .i64 ((p.size : Int) - 2)) rfl (by kernel_rfl) (by kernel_rfl) (by kernel_rfl) (fun _ _ _ h => h) (Or.inl ⟨by kernel_rfl, fun w => by go_simp⟩) ?_
              refine wpAny_take (i := 11) (v := .bool true) rfl (by kernel_rfl) (by kernel_rfl) (by kernel_rfl) (fun _ _ _ h => h) (Or.inl ⟨by kernel_rfl, fun w => by go_simp⟩) ?_
              refine wpAny_take (i := 12) (v := .bool true) rfl (by kernel_rfl) (by kernel_rfl) (by kernel_rfl) (fun _ _ _ h => h) (Or.inl ⟨by kernel_rfl, fun w => by go_simp⟩) ?_
              refine wpAny_take (i := 13) (v := .bool true) rfl (by kernel_rfl) (by kernel_rfl) (by kernel_rfl) (fun _ _ _ h => h) (Or.inl ⟨by kernel_rfl, fun w => by go_simp⟩) ?_
              refine wpAny_done (by kernel_rfl) ?_ _
              simp only [List.getElem_toArray, List.getElem_cons_succ, List.getElem_cons_zero, Act.put, List.setIfInBounds_toArray, List.set_cons_succ, List.set_cons_zero]
              go_wp2_with fail
              go_ret
              exact ⟨rfl, hb03.trans ((hbel.trans (((Below.refl _ _).drew.trans (hba.mono (by simp))).mono hwz)).mono hz03)⟩
    · have hb : (rebuild ss p).1 = ByteArray.empty ∧ (rebuild ss p).2 = false := by rw [rebuild_no hok]; exact ⟨rfl, rfl⟩
      rw [hb.1, hb.2]
      clear hb hok
      go_wp2_with fail
      go_ret
      exact ⟨rfl, hb03⟩
  · go_enter Try.func4, Try.ntmps4
    go_wp2_with fail
    go_ret
    exact ⟨rfl, Below.refl _ _⟩

end Go.Proofs.Ytjapfilkjngkjaa
