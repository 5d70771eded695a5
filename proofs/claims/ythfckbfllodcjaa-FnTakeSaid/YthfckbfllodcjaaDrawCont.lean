/-
  Draws of containers: l4Dict, l5Setup, l5Wild, MakeContainer with whatever arguments, l5Some, l5Bad, l5Range.
-/
import Derived.Test.YthfckbfllodcjaaMakeS
import Derived.Test.YthfckbfllodcjaaDrawWild
namespace Go.Proofs.Ythfckbfllodcjaa
open Go.RowKit
set_option linter.unusedVariables false

theorem Dr.setSelf {w w1 : World} {g P : Nat} (h : Dr g P w w1) : Dr g P w w1.drew := h.drewN 1

set_option maxHeartbeats 4000000 in
theorem specL4Dict (g P o l m : Nat) (s : ByteArray) (w : World) (h : RdAt w g P) (hP : P ≤ 700000) (hl1 : 1 ≤ l) (hl : l ≤ 8) (hs : s.size ≤ 1000) :
    Calls Try.prog 43 #[.pointer (some ⟨g, 0, none⟩), .agg #[.int .i64 (o : Int), .int .i64 (l : Int), .int .i64 (m : Int)], .string s] w (DrawStr g (P + 50) 1000 w) := by
  have hg := h.lt
  have HD := fun (n P : Nat) (W : World) (h1 : RdAt W g P) (h2 : P ≤ 800000) (h3 : n ≤ 5000) => specL1Data g P o l m n W h1 h2 hl1 hl h3
  unfold setV at HD
  have HD := Lib.hid HD
  obtain ⟨b, hb⟩ : ∃ b, w.heap.size = b := ⟨_, rfl⟩
  have hset : SetAt (w.alloc (.cells #[.int .i64 (o : Int), .int .i64 (l : Int), .int .i64 (m : Int)] 38)) b o l m := by subst hb; exact heap_alloc_new w _
  have hbg : b ≠ g := by omega
  have hd0 : Dr g P w (w.alloc (.cells #[.int .i64 (o : Int), .int .i64 (l : Int), .int .i64 (m : Int)] 38)) := (Dr.refl h).alloc _
  go_enter Try.func43, Try.ntmps43
  go_wp2_with fail
  refine (specPick g P 4 _ hd0.rd (by omega) (by omega) (by omega)).mono ?_
  rintro e w1 ⟨r, rfl, hr, _, hd1⟩
  have hset1 := hset.dr hd1 hbg
  have hd1' := hd0.trans hd1
  have hz1 := hd1'.size
  obtain ⟨q0, q1, q2⟩ := hset1.cells
  clear hr hd1 hd0 hset
  by_cases h0 : r = 0
  · subst h0
    go_wp2_with fail
    go_ret
    exact ⟨_, rfl, Nat.zero_le _, hd1'.more (by omega)⟩
  by_cases h1 : r = 1
  · subst h1
    by_cases hs0 : 0 < s.size
    · have hs0i : (0 : Int) < s.size := by omega
      go_wp2_with fail
      refine (specPick g (P + 1) s.size _ hd1'.rd (by omega) (by omega) (by omega)).mono ?_
      rintro e w2 ⟨c, rfl, hc, _, hd2⟩
      have hcs : c ≤ s.size := by omega
      clear hc
      go_wp2_with fail
      go_ret
      exact ⟨_, rfl, by rw [ByteArray.size_extract]; omega, (hd1'.trans hd2).more (by omega)⟩
    · have hs0i : ¬ (0 : Int) < s.size := by omega
      go_wp2_with fail
      refine (HD.out 20 (P + 1) _ hd1'.rd (by omega) (by omega)).mono ?_
      rintro e w2 ⟨t, rfl, ht, hd2⟩
      go_wp2_with fail
      go_ret
      exact ⟨_, rfl, by omega, (hd1'.trans hd2).more (by omega)⟩
  · go_wp2_with fail
    refine (HD.out 20 (P + 1) _ hd1'.rd (by omega) (by omega)).mono ?_
    rintro e w2 ⟨t, rfl, ht, hd2⟩
    go_wp2_with fail
    go_ret
    exact ⟨_, rfl, by omega, (hd1'.trans hd2).more (by omega)⟩

theorem SetAt.frozen {w : World} {b o l m : Nat} (h : SetAt w b o l m) (j : Nat) : w.frozen? ⟨b, j, none⟩ = false := by
  have h' : w.heap[b]? = some (.cells #[.int .i64 (o : Int), .int .i64 (l : Int), .int .i64 (m : Int)] 38 (0, 0)) := h
  simp [World.frozen?, h']

/-- A drawn setting and a dictionary. -/
def SetStr (g P : Nat) (w : World) (e : Ending) (w' : World) : Prop := ∃ (o l m : Nat) (s : ByteArray), e = .returned (.tuple #[.agg #[.int .i64 (o : Int), .int .i64 (l : Int), .int .i64 (m : Int)], .string s]) ∧ o < 2 ∧ 1 ≤ l ∧ l ≤ 8 ∧ l + 2 ≤ m ∧ m ≤ 10 ∧ s.size ≤ 1000 ∧ Dr g P w w'

theorem SetAt.three {w : World} {b o l m b0 : Nat} (h : SetAt w b o l m) (hne : b0 ≠ b) (x y z : Value) :
    (((w.setCell ⟨b0, 0, none⟩ x).setCell ⟨b0, 1, none⟩ y).setCell ⟨b0, 2, none⟩ z).cell? ⟨b, 0, none⟩ = some (.int .i64 (o : Int)) ∧
    (((w.setCell ⟨b0, 0, none⟩ x).setCell ⟨b0, 1, none⟩ y).setCell ⟨b0, 2, none⟩ z).cell? ⟨b, 1, none⟩ = some (.int .i64 (l : Int)) ∧
    (((w.setCell ⟨b0, 0, none⟩ x).setCell ⟨b0, 1, none⟩ y).setCell ⟨b0, 2, none⟩ z).cell? ⟨b, 2, none⟩ = some (.int .i64 (m : Int)) := by
  obtain ⟨q0, q1, q2⟩ := h.cells
  have hc : ∀ (W : World) (j i : Nat) (u : Value), (W.setCell ⟨b0, i, none⟩ u).cell? ⟨b, j, none⟩ = W.cell? ⟨b, j, none⟩ := fun W j i u => World.cell?_setCell_other _ _ _ _ (by intro e; injection e; omega)
  simp only [hc]
  exact ⟨q0, q1, q2⟩

set_option maxHeartbeats 4000000 in
theorem specL5Setup (g P : Nat) (w : World) (h : RdAt w g P) (hP : P ≤ 600000) :
    Calls Try.prog 27 #[.pointer (some ⟨g, 0, none⟩)] w (SetStr g (P + 100) w) := by
  have hg := h.lt
  go_enter Try.func27, Try.ntmps27
  go_wp2_with fail
  have hd0 : Dr g P w (w.alloc (.cells #[.int .i64 0, .int .i64 0, .int .i64 0] 38)) := (Dr.refl h).alloc _
  have hset0 : SetAt (w.alloc (.cells #[.int .i64 ((0 : Nat) : Int), .int .i64 ((0 : Nat) : Int), .int .i64 ((0 : Nat) : Int)] 38)) w.heap.size 0 0 0 := heap_alloc_new w _
  refine (specL1Some g P _ hd0.rd (by omega)).mono ?_
  rintro e w1 ⟨o, l, m, rfl, ho, hl1, hl8, hlm, hm, hd1⟩
  have hz1 := hd1.size
  rw [World.size_alloc] at hz1
  have hset0' : SetAt w1 w.heap.size 0 0 0 := hset0.dr hd1 (by omega)
  have hd1' := hd0.trans hd1
  have HD := fun (n P : Nat) (W : World) (h1 : RdAt W g P) (h2 : P ≤ 800000) (h3 : n ≤ 5000) => specL1Data g P o l m n W h1 h2 hl1 hl8 h3
  have HT := fun (P : Nat) (s : ByteArray) (W : World) (h1 : RdAt W g P) (h2 : P ≤ 700000) (h3 : s.size ≤ 1000) => specL4Dict g P o l m s W h1 h2 hl1 hl8 h3
  unfold setV at HD ⊢
  have HD := Lib.hid HD
  have HT := Lib.hid HT
  obtain ⟨b0, hb0⟩ : ∃ b, w.heap.size = b := ⟨_, rfl⟩
  obtain ⟨b, hb⟩ : ∃ b, w1.heap.size = b := ⟨_, rfl⟩
  have hset : SetAt (w1.alloc (.cells #[.int .i64 (o : Int), .int .i64 (l : Int), .int .i64 (m : Int)] 38)) b o l m := by subst hb; exact heap_alloc_new w1 _
  have hdA := hd1'.alloc (.cells #[.int .i64 (o : Int), .int .i64 (l : Int), .int .i64 (m : Int)] 38)
  have hsetA := hset0'.alloc (.cells #[.int .i64 (o : Int), .int .i64 (l : Int), .int .i64 (m : Int)] 38)
  rw [hb0] at hsetA hz1
  have hbg : b ≠ g := by omega
  have hb0g : b0 ≠ g := by omega
  have hb0b : b0 ≠ b := by omega
  have D1 : Hid (Dr g (P + 5) w (w1.alloc (.cells #[.int .i64 (o : Int), .int .i64 (l : Int), .int .i64 (m : Int)] 38)).drew) := Lib.hid hdA.drew
  have T1 := Lib.hid (show SetAt (w1.alloc (.cells #[.int .i64 (o : Int), .int .i64 (l : Int), .int .i64 (m : Int)] 38)).drew b o l m from hset)
  have U1 := Lib.hid (show SetAt (w1.alloc (.cells #[.int .i64 (o : Int), .int .i64 (l : Int), .int .i64 (m : Int)] 38)).drew b0 0 0 0 from hsetA)
  have S1 := Lib.hid T1.out.cells
  clear hd0 hset0 hset0' hd1' hd1 hset hdA hsetA h
  go_wp2_with fail
  go_region_held3 (fun w' => w'.cell? ⟨b, 0, none⟩ = some (.int .i64 (o : Int)) ∧ w'.cell? ⟨b, 1, none⟩ = some (.int .i64 (l : Int)) ∧ w'.cell? ⟨b, 2, none⟩ = some (.int .i64 (m : Int))) (first | with_reducible exact S1.out | with_reducible exact S2.out | with_reducible exact S3.out | with_reducible exact S4.out _ _ _) (first
    | (go_at_call 30; refine (HD.out 12 (P + 5) _ D1.out.rd (by omega) (by omega)).mono ?_; rintro e w2 ⟨t, rfl, ht, hd2⟩; have S2 := Lib.hid (T1.out.dr hd2 hbg).cells; have T2 := Lib.hid (T1.out.dr hd2 hbg); have U2 := Lib.hid (U1.out.dr hd2 hb0g); have D2 := Lib.hid (D1.out.trans hd2); clear hd2)
    | (go_at_call 43; refine (HT.out (P + 33) t _ (D2.out.rd.more (by omega)) (by omega) (by omega)).mono ?_; rintro e w3 ⟨d, rfl, hds, hd3⟩; have S3 := Lib.hid (T2.out.dr hd3 hbg).cells; have U3 := Lib.hid (U2.out.dr hd3 hb0g); have S4 := Lib.hid (fun x y z => (T2.out.dr hd3 hbg).three hb0b x y z); have D3 := Lib.hid (D2.out.trans hd3); obtain ⟨r0, r1, r2⟩ := U3.out.cells; have y0 := U3.out.frozen 0; have y1 := U3.out.frozen 1; have y2 := U3.out.frozen 2; clear hd3))
  have hD := Lib.hid (((D3.out.set (b := b0) (j := 0) (by omega) hg (.int .i64 (o : Int))).set (b := b0) (j := 1) (by omega) hg (.int .i64 (l : Int))).set (b := b0) (j := 2) (by omega) hg (.int .i64 (m : Int)))
  go_wp2_with fail
  refine bodyPost_ret (v := .tuple #[.agg #[.int .i64 (o : Int), .int .i64 (l : Int), .int .i64 (m : Int)], .string d]) (by simp [results, Try.results27, go_sem, r0, r1, r2]) rfl ?_
  exact ⟨o, l, m, d, rfl, ho, hl1, hl8, hlm, hm, hds, hD.out.more (by omega)⟩

set_option maxHeartbeats 4000000 in
theorem specL5Wild (g P o l m n : Nat) (w : World) (h : RdAt w g P) (hP : P ≤ 700000) (hl1 : 1 ≤ l) (hl : l ≤ 8) (hn : n ≤ 500) :
    Calls Try.prog 16 #[.pointer (some ⟨g, 0, none⟩), .agg #[.int .i64 (o : Int), .int .i64 (l : Int), .int .i64 (m : Int)], .int .i64 (n : Int)] w (DrawStr g (P + 1100) 600 w) := by
  have hg := h.lt
  have HD := fun (n P : Nat) (W : World) (h1 : RdAt W g P) (h2 : P ≤ 800000) (h3 : n ≤ 5000) => specL1Data g P o l m n W h1 h2 hl1 hl h3
  unfold setV at HD
  have HD := Lib.hid HD
  obtain ⟨b, hb⟩ : ∃ b, w.heap.size = b := ⟨_, rfl⟩
  have hset : SetAt (w.alloc (.cells #[.int .i64 (o : Int), .int .i64 (l : Int), .int .i64 (m : Int)] 38)) b o l m := by subst hb; exact heap_alloc_new w _
  have hbg : b ≠ g := by omega
  have hd0 : Dr g P w (w.alloc (.cells #[.int .i64 (o : Int), .int .i64 (l : Int), .int .i64 (m : Int)] 38)) := (Dr.refl h).alloc _
  obtain ⟨q0, q1, q2⟩ := hset.cells
  have hd0' := Lib.hid hd0
  clear hset hd0 h
  go_enter Try.func16, Try.ntmps16
  clear q0 q1 q2
  go_wp2_with fail
  refine (HD.out n P _ hd0'.out.rd (by omega) (by omega)).mono ?_
  rintro e w1 ⟨t, rfl, ht, hd1⟩
  have hd1' := Lib.hid (hd0'.out.trans hd1)
  clear hd1 hd0'
  go_wp2_with fail
  refine (specPick g (P + 4 + 2 * n) 5 _ hd1'.out.rd (by omega) (by omega) (by omega)).mono ?_
  rintro e w2 ⟨r, rfl, hr, _, hd2⟩
  have hd2' := Lib.hid (hd1'.out.trans hd2)
  clear hr hd2 hd1'
  by_cases h0 : r = 0
  · subst h0
    go_wp2_with fail
    refine (specL1Bytes g (P + 4 + 2 * n + 1) 6 _ hd2'.out.rd (by omega) (by omega)).mono ?_
    rintro e w3 ⟨u, rfl, hu, hd3⟩
    have hd3' := Lib.hid (hd2'.out.trans hd3)
    have hadd : ∀ W, (Op.stringOp .add t u).run Try.prog W = .ok (.string (t ++ u)) W := fun W => run_string_add_sum W _ _ (by omega)
    clear hd3 hd2'
    go_wp2_with fail
    go_ret
    exact ⟨_, rfl, by rw [ByteArray.size_append]; omega, hd3'.out.more (by omega)⟩
  · go_wp2_with fail
    go_ret
    exact ⟨_, rfl, by omega, hd2'.out.more (by omega)⟩

/-- A string and a bool, whatever they are. -/
def AnyStr (M : Nat) (w : World) (e : Ending) (w' : World) : Prop := ∃ (s : ByteArray) (b : Bool), e = .returned (.tuple #[.string s, .bool b]) ∧ s.size ≤ M ∧ Below w.heap.size w w'

theorem bsL_of (s : ByteArray) : bsL s.data.toList = s := by apply ba_ext2; simp

theorem specMakeAny (o l m size : Nat) (d s : ByteArray) (w : World) (hd : d.size ≤ 1048576) (hs : s.size ≤ 1048576) :
    Calls Try.prog 15 #[.agg #[.int .i64 (o : Int), .int .i64 (l : Int), .int .i64 (m : Int)], .string d, .string s, .int .i64 (size : Int)] w (AnyStr 3000 w) := by
  by_cases h : dfits o l m d.data.toList ∧ (1 ≤ (size : Int) ∧ (size : Int) ≤ 64) ∧ (s.size : Int) ≤ size * 40 ∧ s.size ≤ 2000
  · have hsz : s.data.toList.length = s.size := by simp
    have := specMakeContainerYes o l m size d.data.toList s.data.toList w h.1 (by omega) (by omega) (by rw [hsz]; omega) (by rw [hsz]; omega)
    rw [bsL_of, bsL_of] at this
    refine this.mono ?_
    rintro e w' ⟨rfl, hb⟩
    refine ⟨_, _, rfl, ?_, hb⟩
    have h1 := textsFrom_size ((Kn.dict o l m d.data.toList).split size s.data.toList) (splitF_okb (Kn.dict_fresh h.1).1.val (by omega) (by omega) _ _) 0
    have h2 : ((Kn.dict o l m d.data.toList).split size s.data.toList).length ≤ 40 := splitF_length_le _ (by omega) _ _ (Nat.le_refl _) (by rw [hsz]; omega)
    omega
  · refine (specMakeContainerNo o l m size d s w hd hs h).mono ?_
    rintro e w' ⟨rfl, hb⟩
    exact ⟨_, _, rfl, Nat.zero_le _, hb⟩

/-- A drawn setting, a dictionary and a container. -/
def SetStr2 (g P : Nat) (w : World) (e : Ending) (w' : World) : Prop := ∃ (o l m : Nat) (d s : ByteArray), e = .returned (.tuple #[.agg #[.int .i64 (o : Int), .int .i64 (l : Int), .int .i64 (m : Int)], .string d, .string s]) ∧ o < 2 ∧ 1 ≤ l ∧ l ≤ 8 ∧ l + 2 ≤ m ∧ m ≤ 10 ∧ d.size ≤ 1000 ∧ s.size ≤ 3000 ∧ Dr g P w w'

set_option maxHeartbeats 4000000 in
theorem specL5Some (g P : Nat) (w : World) (h : RdAt w g P) (hP : P ≤ 500000) :
    Calls Try.prog 14 #[.pointer (some ⟨g, 0, none⟩)] w (SetStr2 g (P + 2000) w) := by
  have hg := h.lt
  have hd0 : Dr g P w (w.alloc (.cells #[.int .i64 0, .int .i64 0, .int .i64 0] 38)) := (Dr.refl h).alloc _
  have hset0 : SetAt (w.alloc (.cells #[.int .i64 ((0 : Nat) : Int), .int .i64 ((0 : Nat) : Int), .int .i64 ((0 : Nat) : Int)] 38)) w.heap.size 0 0 0 := heap_alloc_new w _
  replace hd0 := Lib.hid hd0
  go_enter Try.func14, Try.ntmps14
  go_wp2_with fail
  refine (specL5Setup g P _ hd0.out.rd (by omega)).mono ?_
  rintro e w1 ⟨o, l, m, dct, rfl, ho, hl1, hl8, hlm, hm, hds, hd1⟩
  have hz1 := hd1.size
  rw [World.size_alloc] at hz1
  have hset0' : SetAt w1 w.heap.size 0 0 0 := hset0.dr hd1 (by omega)
  have hd1' := hd0.out.trans hd1
  have HD := Lib.hid (fun (n P : Nat) (W : World) (h1 : RdAt W g P) (h2 : P ≤ 700000) (h3 : n ≤ 500) => specL5Wild g P o l m n W h1 h2 hl1 hl8 h3)
  obtain ⟨b0, hb0⟩ : ∃ b, w.heap.size = b := ⟨_, rfl⟩
  obtain ⟨b, hb⟩ : ∃ b, w1.heap.size = b := ⟨_, rfl⟩
  have hset : SetAt (w1.alloc (.cells #[.int .i64 (o : Int), .int .i64 (l : Int), .int .i64 (m : Int)] 38)) b o l m := by subst hb; exact heap_alloc_new w1 _
  have hdA := hd1'.alloc (.cells #[.int .i64 (o : Int), .int .i64 (l : Int), .int .i64 (m : Int)] 38)
  have hsetA := hset0'.alloc (.cells #[.int .i64 (o : Int), .int .i64 (l : Int), .int .i64 (m : Int)] 38)
  rw [hb0] at hsetA hz1
  have hbg : b ≠ g := by omega
  have hb0g : b0 ≠ g := by omega
  have hb0b : b0 ≠ b := by omega
  clear hd0 hset0 hset0' hd1' hd1 h
  replace hdA := Lib.hid hdA
  replace hset := Lib.hid hset
  replace hsetA := Lib.hid hsetA
  go_wp2_with fail
  refine (HD.out 60 (P + 100) _ hdA.out.rd (by omega) (by omega)).mono ?_
  rintro e w2 ⟨dat, rfl, hdat, hd2⟩
  have D2 := Lib.hid (hdA.out.trans hd2)
  have T2 := Lib.hid (hset.out.dr hd2 hbg)
  have U2 := Lib.hid (hsetA.out.dr hd2 hb0g)
  have D2' : Hid (Dr g (P + 100 + 1100) w w2.drew) := Lib.hid D2.out.drew
  have T2' : Hid (SetAt w2.drew b o l m) := Lib.hid T2.out
  have U2' : Hid (SetAt w2.drew b0 0 0 0) := Lib.hid U2.out
  have S2 := Lib.hid T2'.out.cells
  clear hdA hset hsetA hd2
  go_wp2_with fail
  go_region_held3 (fun w' => w'.cell? ⟨b, 0, none⟩ = some (.int .i64 (o : Int)) ∧ w'.cell? ⟨b, 1, none⟩ = some (.int .i64 (l : Int)) ∧ w'.cell? ⟨b, 2, none⟩ = some (.int .i64 (m : Int))) (first | with_reducible exact S2.out | with_reducible exact S3.out | with_reducible exact S4.out) (first
    | (go_at_call 17; refine (specPick g (P + 100 + 1100) 24 _ D2'.out.rd (by omega) (by omega) (by omega)).mono ?_; rintro e w3 ⟨r, rfl, hr, _, hd3⟩; have S3 := Lib.hid (T2'.out.dr hd3 hbg).cells; have T3 := Lib.hid (T2'.out.dr hd3 hbg); have U3 := Lib.hid (U2'.out.dr hd3 hb0g); have D3 := Lib.hid (D2'.out.trans hd3); obtain ⟨r2, hr2⟩ : ∃ r2 : Nat, (2 : Int) + r = r2 := ⟨2 + r, by omega⟩; have wr2 : IntKind.i64.wrap (r2 : Int) = r2 := IntWalk.i64_in _ (by omega); clear hd3 hr)
    | (go_at_call 15; refine (specMakeAny o l m r2 dct dat _ (by omega) (by omega)).mono ?_; rintro e w4 ⟨s, bb, rfl, hs, hb4⟩; have T4 := Lib.hid (T3.out.below hb4 (Nat.le_refl _)); have S4 := Lib.hid T4.out.cells; have U4 := Lib.hid (U3.out.below hb4 (Nat.le_refl _)); have D4 := Lib.hid (D3.out.then_below hb4); clear hb4))
  obtain ⟨q0, q1, q2⟩ := T4.out.cells
  obtain ⟨r0, r1, r2'⟩ := U4.out.cells
  have y0 := U4.out.frozen 0
  have y1 := U4.out.frozen 1
  have y2 := U4.out.frozen 2
  have hD := Lib.hid (((D4.out.set (b := b0) (j := 0) (by omega) hg (.int .i64 (o : Int))).set (b := b0) (j := 1) (by omega) hg (.int .i64 (l : Int))).set (b := b0) (j := 2) (by omega) hg (.int .i64 (m : Int)))
  go_wp2_with fail
  refine bodyPost_ret (v := .tuple #[.agg #[.int .i64 (o : Int), .int .i64 (l : Int), .int .i64 (m : Int)], .string dct, .string s]) (by simp [results, Try.results14, go_sem, r0, r1, r2']) rfl ?_
  exact ⟨o, l, m, dct, s, rfl, ho, hl1, hl8, hlm, hm, hds, hs, hD.out.more (by omega)⟩

end Go.Proofs.Ythfckbfllodcjaa
