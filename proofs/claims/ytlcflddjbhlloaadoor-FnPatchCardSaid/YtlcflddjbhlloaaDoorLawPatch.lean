/-
  The walk of the law FnPatch: it returns true for all drawn strings.
-/
import Derived.Test.YtlcflddjbhlloaaDoorPatchMath
import Derived.Test.YtlcflddjbhlloaaDoorParsePatchI
import Derived.Test.YtlcflddjbhlloaaDoorDrawSix
namespace Go.Proofs.YtlcflddjbhlloaaDoor
open Go.RowKit
set_option linter.unusedVariables false

theorem empty_isEmpty' {d : ByteArray} (h : d = ByteArray.empty) : d.toList.isEmpty = true := by
  rw [toList_data, h]; rfl

set_option maxHeartbeats 8000000 in
set_option maxRecDepth 100000 in
theorem lawFnPatch (A : Option Addr) (n c : Nat) (bs : List UInt8) (w : World) (h : ByteRow w A n bs) (hnc : n ≤ c) (hL : LaidW w) :
    Calls Tryd.prog 4 #[.slice A n c] w fun e w' => e = .returned (.bool true) ∧ Below w.heap.size w w' := by
  have hle := h.le
  unfold maxLen at hle
  by_cases hn : n ≤ 1048576
  · go_enter Tryd.func4, Tryd.ntmps4
    go_wp2_with fail
    refine (specDrawPatchOf A n c bs _ h hnc).mono ?_
    rintro e w1 ⟨a, b, rfl, ha, hb, hb1⟩
    have hz1 := hb1.size
    by_cases h2000 : a.size ≤ 2000 ∧ b.size ≤ 2000
    · obtain ⟨s, t, u, d, R⟩ := patchOf_at a b h2000.1 h2000.2
      have HI := fun W => implPatchOf a b W (by omega) (by omega)
      have HS := fun W => specPatchOf a b W (by omega) (by omega)
      rw [R.pat] at HI HS
      unfold PB.val at HI HS
      have F1 := fun W => implApplyPatch a s t d W (by omega) (by have := R.dsz; omega)
      rw [R.fwd] at F1
      obtain ⟨x, hx⟩ : ∃ x, a.extract s t = x := ⟨_, rfl⟩
      have F2 := fun W => implInvertPatch a s t d W (by omega) (by have := R.dsz; omega)
      rw [R.inv, hx] at F2
      unfold PB.val at F2
      have hxz := R.asz
      rw [hx] at hxz
      have F3 := fun W => implApplyPatch b s u x W (by omega) (by omega)
      have hbw := R.bwd
      rw [hx] at hbw
      rw [hbw] at F3
      obtain ⟨T, hT⟩ : ∃ T, fmtP s t d = T := ⟨_, rfl⟩
      have F4 := fun W hl => implFormatPatch (s : Int) (t : Int) d W hl
      have hfo : fmtO (s : Int) (t : Int) d = T := by unfold fmtO; rw [if_pos R.valid, ← hT]; rfl
      rw [hfo] at F4
      have hTz : T.size ≤ 1048576 := by
        rw [← hT]
        have z1 := decB_size s
        have z2 := decB_size t
        have z3 := dash_hex_size d R.dsz
        have h1 := R.valid.2.1
        have h2 := R.valid.2.2.1
        unfold fmtP
        simp only [ByteArray.size_append]
        have h3 : (⟨#[32]⟩ : ByteArray).size = 1 := rfl
        rw [h3]
        omega
      have F5 := fun W hl => implParsePatch T W hTz hl
      rw [pp_yes R.valid hT.symm] at F5
      unfold PB.val at F5
      have HE := Lib.hid R.same
      have HI := Lib.hid HI
      have HS := Lib.hid HS
      have F1 := Lib.hid F1
      have F2 := Lib.hid F2
      have F3 := Lib.hid F3
      have F4 := Lib.hid F4
      have F5 := Lib.hid F5
      clear R hx hxz hbw hT hfo hTz h2000 ha hb
      go_wp2_with fail
      refine (HI.out _).mono ?_
      rintro e w2 ⟨rfl, hb2⟩
      have P2 := Lib.hid (hb1.trans (hb2.mono hz1))
      clear hb1 hb2
      go_upto_region 5 with fail
      have P2' := Lib.hid (And.intro (show BoxAt (w2.alloc (.cells #[.int .i64 (s : Int), .int .i64 (t : Int), .string d] 23)) w2.heap.size s t d from heap_alloc_new w2 _) (P2.out.alloc P2.out.size (.cells #[.int .i64 (s : Int), .int .i64 (t : Int), .string d] 23)))
      go_wp2_with fail
      refine (HS.out _).mono ?_
      rintro e w3 ⟨rfl, hb3⟩
      have P3 := Lib.hid (And.intro (P2'.out.1.below hb3 (Nat.le_refl _)) (P2'.out.2.trans (hb3.mono P2'.out.2.size)))
      clear hb3 P2 P2'
      generalize w2.heap.size = g at P3 ⊢
      go_upto_region 6 with fail
      have P4 := Lib.hid (And.intro (P3.out.1.alloc (.cells #[.int .i64 (s : Int), .int .i64 (t : Int), .string d] 23)) (P3.out.2.alloc P3.out.2.size (.cells #[.int .i64 (s : Int), .int .i64 (t : Int), .string d] 23)))
      have hq3 : BoxAt (w3.alloc (.cells #[.int .i64 (s : Int), .int .i64 (t : Int), .string d] 23)) w3.heap.size s t d := heap_alloc_new w3 _
      generalize w3.alloc (.cells #[.int .i64 (s : Int), .int .i64 (t : Int), .string d] 23) = w4 at P4 hq3 ⊢
      obtain ⟨q0, q1, q2, qf⟩ := P4.out.1.cells
      obtain ⟨r0, r1, r2, rf⟩ := hq3.cells
      clear hq3 P3
      go_wp2_with fail
      refine (F1.out _).mono ?_
      rintro e w5 ⟨rfl, hb5⟩
      have P5 := Lib.hid (And.intro (P4.out.1.below hb5 (Nat.le_refl _)) (P4.out.2.trans (hb5.mono P4.out.2.size)))
      clear q0 q1 q2 qf r0 r1 r2 rf hb5 P4
      obtain ⟨q0, q1, q2, qf⟩ := P5.out.1.cells
      go_wp2_with fail
      refine (F2.out _).mono ?_
      rintro e w6 ⟨rfl, hb6⟩
      have P6 := Lib.hid (And.intro (P5.out.1.below hb6 (Nat.le_refl _)) (P5.out.2.trans (hb6.mono P5.out.2.size)))
      clear q0 q1 q2 qf hb6 P5
      go_upto_region 10 with fail
      have P7 := Lib.hid (And.intro (P6.out.1.alloc (.cells #[.int .i64 (s : Int), .int .i64 (u : Int), .string x] 23)) (P6.out.2.alloc P6.out.2.size (.cells #[.int .i64 (s : Int), .int .i64 (u : Int), .string x] 23)))
      have hq7 : BoxAt (w6.alloc (.cells #[.int .i64 (s : Int), .int .i64 (u : Int), .string x] 23)) w6.heap.size s u x := heap_alloc_new w6 _
      generalize w6.alloc (.cells #[.int .i64 (s : Int), .int .i64 (u : Int), .string x] 23) = w7 at P7 hq7 ⊢
      obtain ⟨r0, r1, r2, rf⟩ := hq7.cells
      clear hq7 P6
      go_wp2_with fail
      refine (F3.out _).mono ?_
      rintro e w8 ⟨rfl, hb8⟩
      have P8 := Lib.hid (And.intro (P7.out.1.below hb8 (Nat.le_refl _)) (P7.out.2.trans (hb8.mono P7.out.2.size)))
      clear r0 r1 r2 rf hb8 P7
      obtain ⟨q0, q1, q2, qf⟩ := P8.out.1.cells
      have hL8 := hL.below P8.out.2 (Nat.le_refl _)
      go_wp2_with fail
      refine (F4.out _ hL8.tab).mono ?_
      rintro e w9 ⟨rfl, hb9⟩
      have P9 := Lib.hid (And.intro (P8.out.1.below hb9 (Nat.le_refl _)) (P8.out.2.trans (hb9.mono P8.out.2.size)))
      have hL9 := hL8.below hb9 (Nat.le_refl _)
      clear q0 q1 q2 qf hb9 P8 hL8
      go_wp2_with fail
      refine (F5.out _ hL9).mono ?_
      rintro e wa ⟨rfl, hba⟩
      have Pa := Lib.hid (And.intro (P9.out.1.below hba (Nat.le_refl _)) (P9.out.2.trans (hba.mono P9.out.2.size)))
      clear hba P9 hL9
      go_upto_region 12 with fail
      have Pb := Lib.hid (And.intro (Pa.out.1.alloc (.cells #[.int .i64 (s : Int), .int .i64 (t : Int), .string d] 23)) (Pa.out.2.alloc Pa.out.2.size (.cells #[.int .i64 (s : Int), .int .i64 (t : Int), .string d] 23)))
      have hqb : BoxAt (wa.alloc (.cells #[.int .i64 (s : Int), .int .i64 (t : Int), .string d] 23)) wa.heap.size s t d := heap_alloc_new wa _
      generalize wa.alloc (.cells #[.int .i64 (s : Int), .int .i64 (t : Int), .string d] 23) = wb at Pb hqb ⊢
      obtain ⟨q0, q1, q2, qf⟩ := Pb.out.1.cells
      obtain ⟨r0, r1, r2, rf⟩ := hqb.cells
      clear hqb Pa
      by_cases hab : a = b
      · obtain ⟨hst, hde⟩ := HE.out hab
        have g1 := empty_isEmpty' hde
        have g2 : ((s : Int) == t) = true := by rw [beq_iff_eq]; omega
        subst hab
        clear hde HE
        go_wp2_with fail
        go_ret
        exact ⟨rfl, Pb.out.2⟩
      · have g1 : (a.toList == b.toList) = false := by
          rw [beq_eq_false_iff_ne, toList_data, toList_data]
          exact fun h => hab (ba_of_list h)
        clear hab HE
        go_wp2_with fail
        go_ret
        exact ⟨rfl, Pb.out.2⟩
    · have hpat := pat_no a b h2000
      have HI := fun W => implPatchOf a b W (by omega) (by omega)
      have HS := fun W => specPatchOf a b W (by omega) (by omega)
      rw [hpat] at HI HS
      unfold PB.val at HI HS
      obtain ⟨d, hde⟩ : ∃ d, ByteArray.empty = d := ⟨_, rfl⟩
      obtain ⟨z, hz⟩ : ∃ z : Int, 0 = z := ⟨_, rfl⟩
      simp only [hde, hz] at HI HS
      clear hde hz
      have HI := Lib.hid HI
      have HS := Lib.hid HS
      go_wp2_with fail
      refine (HI.out _).mono ?_
      rintro e w2 ⟨rfl, hb2⟩
      have P2 := Lib.hid (hb1.trans (hb2.mono hz1))
      clear hb1 hb2 hpat
      go_upto_region 5 with fail
      have P2' := Lib.hid (And.intro (show BoxAt (w2.alloc (.cells #[.int .i64 z, .int .i64 z, .string d] 23)) w2.heap.size z z d from heap_alloc_new w2 _) (P2.out.alloc P2.out.size (.cells #[.int .i64 z, .int .i64 z, .string d] 23)))
      go_wp2_with fail
      refine (HS.out _).mono ?_
      rintro e w3 ⟨rfl, hb3⟩
      have P3 := Lib.hid (And.intro (P2'.out.1.below hb3 (Nat.le_refl _)) (P2'.out.2.trans (hb3.mono P2'.out.2.size)))
      clear hb3 P2 P2'
      generalize w2.heap.size = g at P3 ⊢
      go_upto_region 6 with fail
      have P4 := Lib.hid (And.intro (P3.out.1.alloc (.cells #[.int .i64 z, .int .i64 z, .string d] 23)) (P3.out.2.alloc P3.out.2.size (.cells #[.int .i64 z, .int .i64 z, .string d] 23)))
      have hq3 : BoxAt (w3.alloc (.cells #[.int .i64 z, .int .i64 z, .string d] 23)) w3.heap.size z z d := heap_alloc_new w3 _
      generalize w3.alloc (.cells #[.int .i64 z, .int .i64 z, .string d] 23) = w4 at P4 hq3 ⊢
      obtain ⟨q0, q1, q2, qf⟩ := P4.out.1.cells
      obtain ⟨r0, r1, r2, rf⟩ := hq3.cells
      clear hq3 P3
      go_wp2_with fail
      go_ret
      exact ⟨rfl, P4.out.2⟩
  · go_enter Tryd.func4, Tryd.ntmps4
    go_wp2_with fail
    go_ret
    exact ⟨rfl, Below.refl _ _⟩

end Go.Proofs.YtlcflddjbhlloaaDoor
