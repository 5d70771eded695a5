/-
  The walk of the law FnPatchLeast: it returns true for all drawn strings.
-/
import Derived.Test.YtjapfilkjngkjaaDrawSix
import Derived.Test.YtjapfilkjngkjaaLeastMath
import Derived.Deep.RegionHeld3
import Derived.Deep.DeepCutAuto
import Derived.Deep.CutBlock
import Derived.BigQuiet
namespace Go.Proofs.Ytjapfilkjngkjaa
open Go.RowKit
set_option linter.unusedVariables false

theorem empty_isEmpty {d : ByteArray} (h : d.size = 0) : d.toList.isEmpty = true := by
  rw [ByteArray.toList_eq]
  have : d.data.toList = [] := List.eq_nil_of_length_eq_zero (by simpa using h)
  rw [this]; rfl

theorem not_isEmpty {d : ByteArray} (h : d.size ≠ 0) : d.toList.isEmpty = false := by
  rw [ByteArray.toList_eq]
  cases hd : d.data.toList with
  | nil => exact absurd (show d.data.toList.length = 0 by rw [hd]; rfl) (by simpa using h)
  | cons a b => rfl

/-- A patch in a cell block. -/
def PatAt (w : World) (g : Nat) (s t : Int) (d : ByteArray) : Prop := w.heap[g]? = some (.cells #[.int .i64 s, .int .i64 t, .string d] 35 (0, 0))

theorem PatAt.cells {w : World} {g : Nat} {s t : Int} {d : ByteArray} (h : PatAt w g s t d) : w.cell? ⟨g, 0, none⟩ = some (.int .i64 s) ∧ w.cell? ⟨g, 1, none⟩ = some (.int .i64 t) ∧ w.cell? ⟨g, 2, none⟩ = some (.string d) := by
  refine ⟨?_, ?_, ?_⟩ <;> simp [World.cell?, show w.heap[g]? = _ from h]

theorem PatAt.below {w w' : World} {g C : Nat} {s t : Int} {d : ByteArray} (h : PatAt w g s t d) (hb : Below C w w') (hC : w.heap.size ≤ C) : PatAt w' g s t d :=
  (hb.block g (by have := (Array.getElem?_eq_some_iff.1 h).1; omega)).trans h

theorem PatAt.alloc {w : World} {g : Nat} {s t : Int} {d : ByteArray} (h : PatAt w g s t d) (x : Obj) : PatAt (w.alloc x) g s t d := h.below ((Below.refl _ _).alloc (Nat.le_refl _) x) (Nat.le_refl _)

set_option maxHeartbeats 8000000 in
set_option maxRecDepth 100000 in
theorem lawFnPatchLeast (A : Option Addr) (n c : Nat) (bs : List UInt8) (w : World) (h : ByteRow w A n bs) (hnc : n ≤ c) :
    Calls Try.prog 5 #[.slice A n c] w fun e w' => e = .returned (.bool true) ∧ Below w.heap.size w w' := by
  have hle := h.le
  unfold maxLen at hle
  by_cases hn : n ≤ 1048576
  · go_enter Try.func5, Try.ntmps5
    go_wp2_with fail
    refine (specDrawPatchOf A n c bs _ h hnc).mono ?_
    rintro e w1 ⟨a, b, rfl, ha, hb, hb1⟩
    have hz1 := hb1.size
    by_cases h2000 : a.size ≤ 2000 ∧ b.size ≤ 2000
    · obtain ⟨ha2, hb2⟩ := h2000
      have HL := fun (f t : Nat) h1 h2 h3 h4 h5 h6 h7 => least a b f t h1 h2 h3 h4 h5 h6 h7
      have HD := start_differ a b
      have hK := endK_eq a b (shStart a b)
      have hS := shStart_le a b
      have hE := shEnd_le a b
      obtain ⟨s, hs⟩ : ∃ s, shStart a b = s := ⟨_, rfl⟩
      obtain ⟨k, hk⟩ : ∃ k, shEnd a b = k := ⟨_, rfl⟩
      have hpat : pat a b = ⟨s, a.size - endK a b s, b.extract s (b.size - endK a b s), true⟩ := by
        unfold pat; rw [if_pos ⟨ha2, hb2⟩, ← hs]; rfl
      rw [hs] at HL HD hK hS
      rw [hk] at hK hE
      obtain ⟨K, hKe⟩ : ∃ K, endK a b s = K := ⟨_, rfl⟩
      rw [hKe] at HL hK hpat
      obtain ⟨t, ht⟩ : ∃ t, a.size - K = t := ⟨_, rfl⟩
      obtain ⟨u, hu⟩ : ∃ u, b.size - K = u := ⟨_, rfl⟩
      have et : (a.size : Int) - (K : Int) = t := by omega
      rw [hu] at hpat
      rw [et] at hpat
      obtain ⟨d, hd⟩ : ∃ d, b.extract s u = d := ⟨_, rfl⟩
      have hds : d.size = u - s := by rw [← hd]; simp; omega
      rw [hd] at hpat
      have HI := fun W => implPatchOf a b W (by omega) (by omega)
      have HS := fun W => specPatchOf a b W (by omega) (by omega)
      rw [hpat] at HI HS
      unfold PB.val at HI HS
      have HI := Lib.hid HI
      have HS := Lib.hid HS
      have H1 := fun W => implSharedStart a b W (by omega) (by omega)
      have H2 := fun W => implSharedEnd a b W (by omega) (by omega)
      have hs' : lcp a.data.toList b.data.toList = s := hs
      have hk' : lcp a.data.toList.reverse b.data.toList.reverse = k := hk
      rw [hs'] at H1
      rw [hk'] at H2
      have H1 := Lib.hid H1
      have H2 := Lib.hid H2
      have HL := Lib.hid HL
      have HD := Lib.hid HD
      have HDD := Lib.hid hd
      have HT := Lib.hid ht
      clear hs hk hs' hk' hpat hKe hd ht
      go_wp2_with fail
      refine (HI.out _).mono ?_
      rintro e w2 ⟨rfl, hb2⟩
      have hb02 := hb1.trans (hb2.mono hz1)
      have hz2 := hb02.size
      clear hb1 hb2
      obtain ⟨g, hg⟩ : ∃ g, w2.heap.size = g := ⟨_, rfl⟩
      have hp : PatAt (w2.alloc (.cells #[.int .i64 (s : Int), .int .i64 (t : Int), .string d] 35)) g s t d := by subst hg; exact heap_alloc_new w2 _
      have hb02a := hb02.alloc hz2 (.cells #[.int .i64 (s : Int), .int .i64 (t : Int), .string d] 35)
      go_wp2_with fail
      refine (HS.out _).mono ?_
      rintro e w3 ⟨rfl, hb3⟩
      have hp3 := hp.below hb3 (Nat.le_refl _)
      have hb03 := hb02a.trans (hb3.mono hb02a.size)
      have hz3 := hb03.size
      clear hb02 hb02a hb3 hp
      have H3 := Lib.hid (And.intro hp3 hb03)
      clear hp3 hb03 hz3
      go_upto_region 6 with fail
      have hp4 := H3.out.1.alloc (.cells #[.int .i64 (s : Int), .int .i64 (t : Int), .string d] 35)
      have hb04 := H3.out.2.alloc H3.out.2.size (.cells #[.int .i64 (s : Int), .int .i64 (t : Int), .string d] 35)
      obtain ⟨q0, q1, q2⟩ := hp4.cells
      have hz4 := hb04.size
      by_cases ha1 : a.size ≤ 100
      · by_cases hb1 : b.size ≤ 100
        · have ha1' : (a.size : Int) ≤ 100 := by omega
          have hb1' : (b.size : Int) ≤ 100 := by omega
          go_wp2_with fail
          refine (H1.out _).mono ?_
          rintro e w5 ⟨rfl, hd5⟩
          go_wp2_with fail
          refine (H2.out _).mono ?_
          rintro e w6 ⟨rfl, hd6⟩
          have hb06 := (hb04.trans (hd5.below _)).trans (hd6.below _)
          have hp6 := (hp4.below (hd5.below _) (Nat.le_refl _)).below (hd6.below _) (Nat.le_refl _)
          obtain ⟨q0, q1, q2⟩ := hp6.cells
          have hz6 := hb06.size
          clear hd5 hd6 hb04 hp4
          have hsu : s ≤ u := by omega
          have hst : s ≤ t := by have := HT.out; omega
          have hta : t ≤ a.size := by have := HT.out; omega
          obtain ⟨v, hv⟩ : ∃ v : Nat, (t : Int) - s = v := ⟨t - s, by omega⟩
          obtain ⟨v2, hv2⟩ : ∃ k : Nat, (v : Int) + d.size = k := ⟨v + d.size, by omega⟩
          have wv : IntKind.i64.wrap (v : Int) = v := IntWalk.i64_in _ (by omega)
          have wv2 : IntKind.i64.wrap (v2 : Int) = v2 := IntWalk.i64_in _ (by omega)
          have hdz : d.size ≤ 100 := by omega
          have HDS := Lib.hid hds
          clear hds
          go_upto_region 10 with fail
          go_cut [107] (fun x wx => x = .bool false ∧ ∃ N : Nat, wx = w6.drewN N)
          case first =>
            by_cases c2 : 0 < v2
            · have g2 : decide ((0 : Int) < (v2 : Int)) = true := decide_eq_true (by omega)
              have g2n : decide (0 < v2) = true := decide_eq_true c2
              by_cases c3 : s < t
              · have g3 : decide ((s : Int) < (t : Int)) = true := decide_eq_true (by omega)
                have g3' : decide (s < t) = true := decide_eq_true c3
                by_cases c4 : d.size = 0
                · have g4 := empty_isEmpty c4
                  clear c2 c3 c4
                  go_quiet (fail)
                  go_wp2
                  go_meet
                  exact ⟨rfl, _, rfl⟩
                · have g4 := not_isEmpty c4
                  have i1 : (0 : Int) ≤ s := by omega
                  have i2 : (s : Int) < a.size := by omega
                  have i3 : (0 : Int) < d.size := by omega
                  have hd0 : 0 < d.size := by omega
                  have hsb : s < b.size := by have := HDS.out; omega
                  have hsa : s < a.size := by omega
                  have hne := HD.out hsa hsb
                  obtain ⟨x, hx⟩ : ∃ x, (a[s]'hsa).toNat = x := ⟨_, rfl⟩
                  obtain ⟨y, hy⟩ : ∃ y, (d[0]'hd0).toNat = y := ⟨_, rfl⟩
                  have hxy : x ≠ y := by
                    intro e
                    apply hne
                    apply UInt8.toNat.inj
                    rw [hx, e, ← hy]
                    have := HDD.out
                    subst this
                    simp [ByteArray.getElem_extract]
                  have gx : ((x : Int) == y) = false := by rw [beq_eq_false_iff_ne]; omega
                  clear c2 c3 c4 hne
                  go_quiet (fail)
                  go_wp2
                  go_meet
                  exact ⟨rfl, _, rfl⟩
              · have g3 : decide (s < t) = false := decide_eq_false c3
                have g3' : decide ((s : Int) < (t : Int)) = false := decide_eq_false (by omega)
                clear c2 c3
                go_quiet (fail)
                go_wp2
                go_meet
                exact ⟨rfl, _, rfl⟩
            · have g2 : decide (0 < v2) = false := decide_eq_false c2
              have g2' : decide ((0 : Int) < (v2 : Int)) = false := decide_eq_false (by omega)
              clear c2
              go_quiet (fail)
              go_wp2
              go_meet
              exact ⟨rfl, _, rfl⟩
          case rest =>
            obtain ⟨rfl, N, rfl⟩ := hcut
            clear hv hv2 wv wv2
            go_wp2_with fail
            go_loopw [11] (fun i wr => ∃ f M : Nat, f ≤ a.size + 1 ∧ i = .int .i64 (f : Int) ∧ wr = w6.drewN M) (fun i _ => a.size + 1 - (intOf i).toNat)
            case atStart => exact ⟨0, N, by omega, rfl, rfl⟩
            case round =>
              obtain ⟨f, M, hf, rfl, rfl⟩ := hrel
              by_cases hfa : f ≤ a.size
              · obtain ⟨ft, hft⟩ : ∃ x : Nat, (f : Int) + t = x := ⟨f + t, by omega⟩
                obtain ⟨fs, hfs⟩ : ∃ x : Nat, (ft : Int) - s = x := ⟨ft - s, by omega⟩
                go_wp2_with fail
                go_loopw [12] (fun i wr => ∃ j M : Nat, f ≤ j ∧ j ≤ a.size + 1 ∧ i = .int .i64 (j : Int) ∧ wr = w6.drewN M) (fun i _ => a.size + 1 - (intOf i).toNat)
                case atStart => exact ⟨f, _, Nat.le_refl _, by omega, rfl, rfl⟩
                case round =>
                  obtain ⟨j, M2, hj1, hj2, rfl, rfl⟩ := hrel
                  by_cases hj3 : j < fs
                  · by_cases hj4 : j ≤ a.size
                    · obtain ⟨r, hr⟩ : ∃ x : Nat, (a.size : Int) - j = x := ⟨a.size - j, by omega⟩
                      obtain ⟨en, hen⟩ : ∃ x : Int, (b.size : Int) - r = x := ⟨_, rfl⟩
                      have wen : IntKind.i64.wrap en = en := IntWalk.i64_in _ (by omega)
                      have hj5 : j < f + t - s := by omega
                      go_upto_region 19 with fail
                      go_cut [165] (fun x wx => x = .bool false ∧ ∃ N : Nat, wx = w6.drewN N)
                      case first =>
                        clear wen
                        by_cases g1 : (f : Int) ≤ en
                        · obtain ⟨e9, rfl⟩ : ∃ x : Nat, en = (x : Int) := ⟨en.toNat, by omega⟩
                          have g1a : decide ((f : Int) ≤ (e9 : Int)) = true := decide_eq_true g1
                          have g1b : decide (f ≤ e9) = true := decide_eq_true (by omega)
                          have e9b : e9 ≤ b.size := by omega
                          have i1 : (0 : Int) ≤ f := by omega
                          have i2 : (f : Int) ≤ a.size := by omega
                          have i3 : (0 : Int) ≤ j := by omega
                          have i4 : (j : Int) ≤ a.size := by omega
                          have i5 : (0 : Int) ≤ e9 := by omega
                          have i6 : (e9 : Int) ≤ b.size := by omega
                          by_cases g2 : f ≤ b.size
                          · have g2a : decide ((f : Int) ≤ (b.size : Int)) = true := decide_eq_true (by omega)
                            have g2b : decide (f ≤ b.size) = true := decide_eq_true (by omega)
                            have i7 : (f : Int) ≤ b.size := by omega
                            by_cases g3 : a.extract 0 f = b.extract 0 f
                            · have g3a : ((a.extract 0 f).toList == (b.extract 0 f).toList) = true := by rw [g3]; exact beq_self_eq_true _
                              have g4 : ((a.extract j a.size).toList == (b.extract e9 b.size).toList) = false := by
                                rw [beq_eq_false_iff_ne]
                                intro h
                                rw [ByteArray.toList_eq, ByteArray.toList_eq] at h
                                have h' : a.extract j a.size = b.extract e9 b.size := ByteArray.ext (Array.toList_inj.1 h)
                                have he : b.size - (a.size - j) = e9 := by omega
                                exact HL.out f j hj1 hj4 (by have := HT.out; omega) g2 (by omega) g3 (by rw [he]; exact h')
                              clear g1 g2 g3 hr hen
                              go_quiet (fail)
                              go_wp2
                              go_meet
                              exact ⟨rfl, _, World.drewN_drewN _ _ _⟩
                            · have g3a : ((a.extract 0 f).toList == (b.extract 0 f).toList) = false := by
                                rw [beq_eq_false_iff_ne]
                                intro h
                                rw [ByteArray.toList_eq, ByteArray.toList_eq] at h
                                exact g3 (ByteArray.ext (Array.toList_inj.1 h))
                              clear g1 g2 g3 hr hen
                              go_quiet (fail)
                              go_wp2
                              go_meet
                              exact ⟨rfl, _, World.drewN_drewN _ _ _⟩
                          · have g2a : decide ((f : Int) ≤ (b.size : Int)) = false := decide_eq_false (by omega)
                            have g2b : decide (f ≤ b.size) = false := decide_eq_false (by omega)
                            clear g1 g2 hr hen
                            go_quiet (fail)
                            go_wp2
                            go_meet
                            exact ⟨rfl, _, World.drewN_drewN _ _ _⟩
                        · have g1a : decide ((f : Int) ≤ en) = false := decide_eq_false (by omega)
                          clear g1 hr hen
                          go_quiet (fail)
                          go_wp2
                          go_meet
                          exact ⟨rfl, _, World.drewN_drewN _ _ _⟩
                      case rest =>
                        obtain ⟨rfl, N2, rfl⟩ := hcut
                        go_wp2_with fail
                        go_roundw
                        case rel => exact ⟨j + 1, _, by omega, by omega, by go_num, rfl⟩
                        case measure => simp [intOf]; omega
                    · go_wp2_with fail
                      go_roundw
                      case rel => exact ⟨f + 1, _, by omega, by go_num, rfl⟩
                      case measure => simp [intOf]; omega
                  · go_wp2_with fail
                    go_roundw
                    case rel => exact ⟨f + 1, _, by omega, by go_num, rfl⟩
                    case measure => simp [intOf]; omega
              · obtain rfl : f = a.size + 1 := by omega
                obtain ⟨sk, hsk⟩ : ∃ x : Nat, (s : Int) + k = x := ⟨s + k, by omega⟩
                obtain ⟨ak, hak⟩ : ∃ x : Nat, (a.size : Int) - k = x := ⟨a.size - k, by omega⟩
                have hT := HT.out
                by_cases hab : a.size ≤ b.size
                · have hab' : (a.size : Int) ≤ b.size := by omega
                  by_cases hm : a.size ≤ sk
                  · have hm' : decide ((a.size : Int) ≤ (sk : Int)) = true := decide_eq_true (by omega)
                    go_wp2_with fail
                    go_ret
                    exact ⟨rfl, hb06.trans ((Drawn.of _ _).below _ |>.mono hz6)⟩
                  · have hm' : (sk : Int) < (a.size : Int) := by omega
                    have hq : ((t : Int) == ak) = true := by rw [beq_iff_eq]; omega
                    go_wp2_with fail
                    go_ret
                    exact ⟨rfl, hb06.trans ((Drawn.of _ _).below _ |>.mono hz6)⟩
                · have hab' : (b.size : Int) < a.size := by omega
                  by_cases hm : b.size ≤ sk
                  · have hm' : decide ((b.size : Int) ≤ (sk : Int)) = true := decide_eq_true (by omega)
                    go_wp2_with fail
                    go_ret
                    exact ⟨rfl, hb06.trans ((Drawn.of _ _).below _ |>.mono hz6)⟩
                  · have hm' : (sk : Int) < (b.size : Int) := by omega
                    have hq : ((t : Int) == ak) = true := by rw [beq_iff_eq]; omega
                    go_wp2_with fail
                    go_ret
                    exact ⟨rfl, hb06.trans ((Drawn.of _ _).below _ |>.mono hz6)⟩
        · have hb1' : (100 : Int) < (b.size : Int) := by omega
          have ha1' : (a.size : Int) ≤ 100 := by omega
          go_wp2_with fail
          go_ret
          exact ⟨rfl, hb04⟩
      · have ha1' : (100 : Int) < (a.size : Int) := by omega
        go_wp2_with fail
        go_ret
        exact ⟨rfl, hb04⟩
    · have hpat := pat_no a b h2000
      have HI := fun W => implPatchOf a b W (by omega) (by omega)
      have HS := fun W => specPatchOf a b W (by omega) (by omega)
      rw [hpat] at HI HS
      unfold PB.val at HI HS
      obtain ⟨d, hde⟩ : ∃ d, ByteArray.empty = d := ⟨_, rfl⟩
      obtain ⟨z, hz⟩ : ∃ z : Int, 0 = z := ⟨_, rfl⟩
      simp only [hde, hz] at HI HS
      clear hde hz
      have HI := Lib.hid HI
      have HS := Lib.hid HS
      go_wp2_with fail
      refine (HI.out _).mono ?_
      rintro e w2 ⟨rfl, hb2⟩
      have hb02 := hb1.trans (hb2.mono hz1)
      have hz2 := hb02.size
      clear hb1 hb2 hpat
      obtain ⟨g, hg⟩ : ∃ g, w2.heap.size = g := ⟨_, rfl⟩
      have hp : PatAt (w2.alloc (.cells #[.int .i64 z, .int .i64 z, .string d] 35)) g z z d := by subst hg; exact heap_alloc_new w2 _
      have hb02a := hb02.alloc hz2 (.cells #[.int .i64 z, .int .i64 z, .string d] 35)
      go_wp2_with fail
      refine (HS.out _).mono ?_
      rintro e w3 ⟨rfl, hb3⟩
      have hp3 := hp.below hb3 (Nat.le_refl _)
      have hb03 := hb02a.trans (hb3.mono hb02a.size)
      clear hb02 hb02a hb3 hp
      have H3 := Lib.hid (And.intro hp3 hb03)
      clear hp3 hb03
      go_upto_region 6 with fail
      have hp4 := H3.out.1.alloc (.cells #[.int .i64 z, .int .i64 z, .string d] 35)
      have hb04 := H3.out.2.alloc H3.out.2.size (.cells #[.int .i64 z, .int .i64 z, .string d] 35)
      obtain ⟨q0, q1, q2⟩ := hp4.cells
      go_wp2_with fail
      go_ret
      exact ⟨rfl, hb04⟩
  · go_enter Try.func5, Try.ntmps5
    go_wp2_with fail
    go_ret
    exact ⟨rfl, Below.refl _ _⟩

end Go.Proofs.Ytjapfilkjngkjaa
