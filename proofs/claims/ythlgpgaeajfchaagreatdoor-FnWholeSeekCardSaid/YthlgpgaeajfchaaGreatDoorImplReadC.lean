/-
  The program's readCodes: the codes of bits, what they know and their data.
-/
import Derived.Test.YthlgpgaeajfchaaGreatDoorImplRead
import Derived.Test.YthlgpgaeajfchaaGreatDoorHeldTail
namespace Go.Proofs.YthlgpgaeajfchaaGreatDoor
open Go.RowKit
set_option linter.unusedVariables false
set_option linter.unusedSimpArgs false
set_option maxRecDepth 100000

set_option maxHeartbeats 2000000 in
theorem implReadCodes (k : Kn) (A : Option Addr) (c B : Nat) (Bt : List UInt8) (w : World) (h : k.Valid) (hA : k.At w B A) (hB : B ≤ w.heap.size) (hdg : Digs Bt) (hl : Bt.length ≤ 32000) :
    Calls Tryz.prog 119 #[k.val A c, .string (bsL Bt), .int .i64 0, .int .i64 0] w (RdPost k (unF Bt 3100 k 0 0 []) w) := by
  have HC := fun W => implClearCode k.o k.l k.m W h.sv
  have hz : 2 ^ k.l = k.clear := rfl
  rw [hz] at HC
  have HE := fun W => implEndCode k.o k.l k.m W h.sv
  have hz3 : 2 ^ k.l + 1 = k.fin := rfl
  rw [hz3] at HE
  have hpw := h.pow
  have hfe := k.fin_eq
  have hord := h.ord
  have HCp := fun (W : World) (hb : Below w.heap.size w W) => implCopyKnown k A c B W h (hA.below hb hB) (Nat.le_trans hB hb.size)
  have HN := fun (s : List UInt8) (W : World) (hs : s.length ≤ 16) (hd : Digs s) => implBitsNumber k.o (bsL s) W (by omega) hs hd
  obtain ⟨N, hNn⟩ : ∃ N, Bt.length = N := ⟨_, rfl⟩
  have hBs : (bsL Bt).size = N := hNn
  rw [hNn] at hl
  obtain ⟨z, hz2⟩ : ∃ z, k.clear = z := ⟨_, rfl⟩
  obtain ⟨fi, hfin⟩ : ∃ z, k.fin = z := ⟨_, rfl⟩
  have hzb : z ≤ 256 := by omega
  have hfib : fi ≤ 300 ∧ z < fi := by omega
  obtain ⟨hfib, hzfi⟩ := hfib
  rw [hz2] at HC
  rw [hfin] at HE
  have hval := Kn.val_eq k
  simp only [hval] at HCp ⊢
  have kb0 := KBn.start w 48 [.int .i64 (k.o : Int), .int .i64 (k.l : Int), .int .i64 (k.m : Int), .slice A k.ps.length c, .int .i64 (k.base : Int), .int .i64 k.lastI]
  have kb1 := kb0.below ((Below.refl w.heap.size w |>.alloc (Nat.le_refl _) (.cells #[.int .i64 (k.o : Int), .int .i64 (k.l : Int), .int .i64 (k.m : Int), .slice A k.ps.length c, .int .i64 (k.base : Int), .int .i64 k.lastI] 48) |> fun _ => Below.refl _ _).alloc (Nat.le_refl _) (.cells #[.int .i64 0, .int .i64 0, .int .i64 0, .slice none 0 0, .int .i64 0, .int .i64 0, .slice none 0 0, .slice none 0 0, .int .i64 0, .int .i64 0] 119))
  have kr1 := KBn.start (w.alloc (.cells #[.int .i64 (k.o : Int), .int .i64 (k.l : Int), .int .i64 (k.m : Int), .slice A k.ps.length c, .int .i64 (k.base : Int), .int .i64 k.lastI] 48)) 119 rd0
  have hW0 := ((Below.refl w.heap.size w).alloc (Nat.le_refl _) (.cells #[.int .i64 (k.o : Int), .int .i64 (k.l : Int), .int .i64 (k.m : Int), .slice A k.ps.length c, .int .i64 (k.base : Int), .int .i64 k.lastI] 48)).alloc (by simp) (.cells #[.int .i64 0, .int .i64 0, .int .i64 0, .slice none 0 0, .int .i64 0, .int .i64 0, .slice none 0 0, .slice none 0 0, .int .i64 0, .int .i64 0] 119)
  rw [World.size_alloc] at kr1
  replace HC := Lib.hid HC
  replace HE := Lib.hid HE
  replace HCp := Lib.hid HCp
  replace HN := Lib.hid HN
  replace hdg := Lib.hid hdg
  have hz2' := Lib.hid hz2
  have hfin' := Lib.hid hfin
  have h' := Lib.hid h
  have hNn' := Lib.hid hNn
  clear hz hz3 hpw hfe hA hz2 hfin hval h hord kb0 hNn
  go_enter Tryz.func119, Tryz.ntmps119
  go_upto_region 1 with (fail)
  obtain ⟨w2, hw2⟩ : ∃ W, (w.alloc (.cells #[.int .i64 (k.o : Int), .int .i64 (k.l : Int), .int .i64 (k.m : Int), .slice A k.ps.length c, .int .i64 (k.base : Int), .int .i64 k.lastI] 48)).alloc (.cells #[.int .i64 0, .int .i64 0, .int .i64 0, .slice none 0 0, .int .i64 0, .int .i64 0, .slice none 0 0, .slice none 0 0, .int .i64 0, .int .i64 0] 119) = W := ⟨_, rfl⟩
  have hs2 : w2.heap.size = w.heap.size + 2 := by rw [← hw2]; simp
  have kb2 : KBn w2 w.heap.size [.int .i64 (k.o : Int), .int .i64 (k.l : Int), .int .i64 (k.m : Int), .slice A k.ps.length c, .int .i64 (k.base : Int), .int .i64 k.lastI] := by rw [← hw2]; exact kb1
  have kr2 : KBn w2 (w.heap.size + 1) rd0 := by rw [← hw2]; exact kr1
  rw [hw2] at hW0 ⊢
  clear hw2 kb1 kr1
  replace hs2 := Lib.hid hs2
  have hC2 := Lib.hid (HCp.out w2 hW0)
  have q0 := kb2.c 0 _ rfl
  have q1 := kb2.c 1 _ rfl
  have q2 := kb2.c 2 _ rfl
  have q3 := kb2.c 3 _ rfl
  have q4 := kb2.c 4 _ rfl
  have q5 := kb2.c 5 _ rfl
  replace kb2 := Lib.hid kb2
  replace kr2 := Lib.hid kr2
  replace hW0 := Lib.hid hW0
  go_wp2_with fail
  refine hC2.out.mono ?_
  rintro e w3 ⟨A3, c3, rfl, hown3, hb3⟩
  have hM3 : RdM k [.int .i64 (k.o : Int), .int .i64 (k.l : Int), .int .i64 (k.m : Int), .slice A k.ps.length c, .int .i64 (k.base : Int), .int .i64 k.lastI] w w.heap.size w3.heap.size k A3 c3 [] [] (.slice none 0 0) (.slice none 0 0) 1 0 (w3.alloc (.cells #[.int .i64 (k.o : Int), .int .i64 (k.l : Int), .int .i64 (k.m : Int), .slice A3 k.ps.length c3, .int .i64 (k.base : Int), .int .i64 k.lastI, .slice none 0 0, .slice none 0 0, .int .i64 1, .int .i64 0] 119)) := by
    have hsz := hb3.size
    have hs2' := hs2.out
    have hal := (Below.refl w3.heap.size w3).alloc (Nat.le_refl _) (.cells #[.int .i64 (k.o : Int), .int .i64 (k.l : Int), .int .i64 (k.m : Int), .slice A3 k.ps.length c3, .int .i64 (k.base : Int), .int .i64 k.lastI, .slice none 0 0, .slice none 0 0, .int .i64 1, .int .i64 0] 119)
    refine ⟨KBn.start w3 119 [.int .i64 (k.o : Int), .int .i64 (k.l : Int), .int .i64 (k.m : Int), .slice A3 k.ps.length c3, .int .i64 (k.base : Int), .int .i64 k.lastI, .slice none 0 0, .slice none 0 0, .int .i64 1, .int .i64 0], (kb2.out.below hb3).below hal, (kr2.out.below hb3).below hal, own_base (own_below hown3 hal (Nat.le_refl _)) (by omega), World.ownsRow_nil _ _ _ _, World.ownsRow_nil _ _ _ _, fun e => ?_, (fun e => by cases e), (fun e => by cases e), (fun g e => by cases e), (fun g _ e => by cases e), (fun g _ e => by cases e), ?_, by omega⟩
    · have := (World.ownsRow.lt hown3 w3.heap.size (by rw [own_any]; exact e)).2
      omega
    · exact (hW0.out.trans (hb3.mono hW0.out.size)).trans (hal.mono (by have := hW0.out.size; omega))
  replace hM3 := Lib.hid hM3
  clear q0 q1 q2 q3 q4 q5 hb3 hown3 hC2 HCp hW0 kb2 kr2
  go_upto_region 2 with (fail)
  obtain ⟨G, hG⟩ : ∃ G, w3.heap.size = G := ⟨_, rfl⟩
  obtain ⟨w4, hw4⟩ : ∃ W, w3.alloc (.cells #[.int .i64 (k.o : Int), .int .i64 (k.l : Int), .int .i64 (k.m : Int), .slice A3 k.ps.length c3, .int .i64 (k.base : Int), .int .i64 k.lastI, .slice none 0 0, .slice none 0 0, .int .i64 1, .int .i64 0] 119) = W := ⟨_, rfl⟩
  rw [hw4, hG] at hM3
  rw [hw4, hG]
  clear hw4 hG
  have c0 := clsCell (hM3.out.kb.c 0 _ rfl)
  have c1 := clsCell (hM3.out.kb.c 1 _ rfl)
  have c2 := clsCell (hM3.out.kb.c 2 _ rfl)
  refine wp_region_cls (by kernel_rfl) (by kernel_rfl) ?_
  repeat (go_big_quiet_step (first | (go_at_call 91; exact clsCall (HC.out _)) | (go_at_call 89; exact clsCall (HE.out _))))
  refine wpQuiet_nil ?_
  rintro w6 ⟨⟨w6, hb6⟩, rfl⟩
  have hM6 := Lib.hid (hM3.out.below hb6)
  clear c0 c1 c2 hb6 hM3 HC HE
  go_wp2_with fail
  go_loopw [12] (fun _ wr => ∃ (k' : Kn) (A' : Option Addr) (c' p i m f : Nat) (acc : List Nat) (ds : List UInt8) (A1 : Option Addr) (c1 : Nat) (A2 : Option Addr) (c2 : Nat), p ≤ N ∧ Hid (acc.length = i) ∧ Hid (ds.length = m) ∧ Hid (RdS k Bt k' p acc ds f) ∧ Hid (RdM k [.int .i64 (k.o : Int), .int .i64 (k.l : Int), .int .i64 (k.m : Int), .slice A k.ps.length c, .int .i64 (k.base : Int), .int .i64 k.lastI] w w.heap.size G k' A' c' acc ds (.slice A1 i c1) (.slice A2 m c2) 1 p wr)) (fun _ wr => N - atOf wr G)
  case atStart => exact ⟨k, A3, c3, 0, 0, 0, 3099, [], [], none, 0, none, 0, Nat.zero_le _, Lib.hid rfl, Lib.hid rfl, Lib.hid (RdS.start h'.out Bt), hM6⟩
  case round =>
    clear hM6
    obtain ⟨k', A', c', p, i, m, f, acc, ds, A1, c1, A2, c2, hp, hai, hdm, hS, hM⟩ := hrel
    have hv' := hS.out.val
    have hlk := hS.out.like
    have hwd10 := Kn.width_le hv'
    have hm10 := hv'.most10
    have HWd := fun W => implWidth k' A' c' W hv'
    rw [hlk.val] at HWd
    obtain ⟨wd, hwd⟩ : ∃ z, k'.width = z := ⟨_, rfl⟩
    rw [hwd] at HWd hwd10
    have hwd1 := hwd10.1
    replace HWd := Lib.hid HWd
    have hwdb : wd ≤ 10 := by omega
    have hat0 := atOf_cell hM.out.cells.2.2.2.2
    obtain ⟨⟨q0, q1, q2, q3, q4, q5⟩, q6, q7, q8, q9⟩ := hM.out.cells
    obtain ⟨pw, hpw⟩ : ∃ pw, p + wd = pw := ⟨_, rfl⟩
    obtain ⟨Np, hNp⟩ : ∃ x, N - p = x := ⟨_, rfl⟩
    have hNpi : (N : Int) - p = Np := by omega
    have wNp : IntKind.i64.wrap (Np : Int) = Np := IntWalk.i64_in _ (by omega)
    have hpwi : (p : Int) + wd = pw := by omega
    have wpw : IntKind.i64.wrap (pw : Int) = pw := IntWalk.i64_in _ (by omega)
    by_cases hshort : Np < wd
    · have g1 : decide ((Np : Int) < wd) = true := decide_eq_true (by omega)
      have g2 : decide (Np < wd) = true := decide_eq_true hshort
      have hu : Hid (unF Bt 3100 k 0 0 [] = ⟨acc, 1, p⟩) := Lib.hid (by rw [hS.out.run, unF, hwd, if_pos (by rw [hNn'.out]; omega)])
      replace hpw := Lib.hid hpw
      replace hNp := Lib.hid hNp
      replace hwd := Lib.hid hwd
      replace hat0 := Lib.hid hat0
      clear hv' hlk hwd10 hm10
      go_wp2_with fail
      refine (HWd.out _).mono ?_
      rintro e w7 ⟨rfl, hb7⟩
      have M7 := Lib.hid (hM.out.below hb7)
      clear q0 q1 q2 q3 q4 q5 q6 q7 q8 q9 hb7 hM
      obtain ⟨⟨q0, q1, q2, q3, q4, q5⟩, q6, q7, q8, q9⟩ := M7.out.cells
      have r0 := M7.out.res.c 0 _ rfl
      have r1 := M7.out.res.c 1 _ rfl
      have r2 := M7.out.res.c 2 _ rfl
      have r3 := M7.out.res.c 3 _ rfl
      have r4 := M7.out.res.c 4 _ rfl
      have r5 := M7.out.res.c 5 _ rfl
      have r6 := M7.out.res.c 6 _ rfl
      have r7 := M7.out.res.c 7 _ rfl
      have r8 := M7.out.res.c 8 _ rfl
      have r9 := M7.out.res.c 9 _ rfl
      have y0 := M7.out.res.f 0 _ rfl
      have y1 := M7.out.res.f 1 _ rfl
      have y2 := M7.out.res.f 2 _ rfl
      have y3 := M7.out.res.f 3 _ rfl
      have y4 := M7.out.res.f 4 _ rfl
      have y5 := M7.out.res.f 5 _ rfl
      have y6 := M7.out.res.f 6 _ rfl
      have y7 := M7.out.res.f 7 _ rfl
      have y8 := M7.out.res.f 8 _ rfl
      have y9 := M7.out.res.f 9 _ rfl
      go_wp2_with fail
      refine bodyPost_ret (v := .agg #[.int .i64 (k.o : Int), .int .i64 (k.l : Int), .int .i64 (k.m : Int), .slice A' k'.ps.length c', .int .i64 (k.base : Int), .int .i64 k'.lastI, .slice A1 i c1, .slice A2 m c2, .int .i64 1, .int .i64 (p : Int)]) (by simp [results, Tryz.results119, go_sem, r0, r1, r2, r3, r4, r5, r6, r7, r8, r9]) rfl ?_
      exact M7.out.post rfl hu.out hS.out.here hai.out hdm.out (keep10 _ _ _ _ _ _ _ _ _ _)
    · have g1 : decide ((Np : Int) < wd) = false := decide_eq_false (by omega)
      have g2 : decide (Np < wd) = false := decide_eq_false hshort
      have hpwN : pw ≤ N := by omega
      obtain ⟨x, hx⟩ : ∃ x, k'.peek Bt p = x := ⟨_, rfl⟩
      have hxn : numO k.o ((Bt.drop p).take wd) = x := by rw [← hx]; unfold Kn.peek; rw [hwd, hlk.o]
      have hsl : (bsL Bt).extract p pw = bsL ((Bt.drop p).take wd) := by rw [bsL_part, show pw - p = wd by omega]
      have HNm := fun W => HN.out ((Bt.drop p).take wd) W (by rw [List.length_take]; omega) (digs_take (digs_drop hdg.out p) wd)
      have hdl : (bsL ((Bt.drop p).take wd)).data.toList = (Bt.drop p).take wd := rfl
      simp only [hdl, hxn] at HNm
      have hx2 : x < 2 ^ wd := by
        rw [← hxn]
        exact numO_lt k.o wd (by rw [List.length_take, List.length_drop, hNn'.out]; omega) (digs_take (digs_drop hdg.out p) wd)
      have hx1024 : x < 1024 := Nat.lt_of_lt_of_le hx2 (Nat.pow_le_pow_right (by omega) hwdb)
      obtain ⟨X, hX⟩ : ∃ X, bsL ((Bt.drop p).take wd) = X := ⟨_, rfl⟩
      rw [hX] at hsl HNm
      have hrun : Hid (unF Bt 3100 k 0 0 [] = if x = fi then ⟨acc ++ [x], 0, pw⟩ else if x ≠ z ∧ ¬ k'.can x then ⟨acc, 2, pw⟩ else if 2000 < m + (if x = z then 0 else (k'.any x).length) then ⟨acc, 3, pw⟩ else unF Bt f (k'.step x) pw (m + (if x = z then 0 else (k'.any x).length)) (acc ++ [x])) := Lib.hid (by
        rw [hS.out.run, unF, hwd, hx, if_neg (by rw [hNn'.out]; omega), hpw, hlk.fin, hfin'.out, hlk.clear, hz2'.out, hdm.out])
      replace HNm := Lib.hid HNm
      have hp0 : (0 : Int) ≤ p := by omega
      have hppw : (p : Int) ≤ pw := by omega
      have hpwN2 : (pw : Int) ≤ N := by omega
      have ho0 := hM.out.kb.c 0 _ rfl
      have hmeas : N - pw < N - p := by omega
      obtain ⟨gb, hgb⟩ : ∃ gb : Bool, gb = decide (x ≤ k'.great) := ⟨_, rfl⟩
      have HCan := fun W => implCanFollow k' A' c' x gb W hv' (by rw [hgb]; exact decide_eq_true_iff)
      rw [hlk.val] at HCan
      replace HCan := Lib.hid HCan
      replace hpw := Lib.hid hpw
      replace hNp := Lib.hid hNp
      replace hwd := Lib.hid hwd
      replace hat0 := Lib.hid hat0
      replace hx := Lib.hid hx
      replace hv' := Lib.hid hv'
      replace hlk := Lib.hid hlk
      replace hgb := Lib.hid hgb
      replace hmeas := Lib.hid hmeas
      clear hwd10 hm10 hxn hdl hx2 hX hshort
      go_wp2_with fail
      refine (HWd.out _).mono ?_
      rintro e w7 ⟨rfl, hb7⟩
      have M7 := Lib.hid (hM.out.below hb7)
      clear q0 q1 q2 q3 q4 q5 q6 q7 q8 q9 ho0 hb7 hM
      obtain ⟨⟨q0, q1, q2, q3, q4, q5⟩, q6, q7, q8, q9⟩ := M7.out.cells
      have ho0 := M7.out.kb.c 0 _ rfl
      go_upto_region 6 with (fail)
      have cc0 := clsCell ho0
      have cc9 := clsCell q9
      refine wp_region_cls (by kernel_rfl) (by kernel_rfl) ?_
      repeat (go_big_quiet_step (first | (go_at_call 146; exact clsSame (HNm.out _))))
      refine wpQuiet_nil ?_
      rintro w8 ⟨⟨w8, hB8⟩, rfl⟩
      have M8 := Lib.hid (M7.out.below hB8)
      clear q0 q1 q2 q3 q4 q5 q6 q7 q8 q9 ho0 cc0 cc9 hB8 M7
      obtain ⟨⟨q0, q1, q2, q3, q4, q5⟩, q6, q7, q8, q9⟩ := M8.out.cells
      have f9 := M8.out.box.f 9 _ rfl
      have M9 := Lib.hid (M8.out.setG (j := 9) (u := .int .i64 (pw : Int)) (fin2 := 1) (p2 := pw) rfl rfl)
      go_upto_region 8 with (fail)
      obtain ⟨w9, hw9⟩ : ∃ W, w8.setCell ⟨G, 9, none⟩ (.int .i64 (pw : Int)) = W := ⟨_, rfl⟩
      rw [hw9] at M9 ⊢
      clear q0 q1 q2 q3 q4 q5 q6 q7 q8 q9 f9 M8 hw9
      obtain ⟨⟨q0, q1, q2, q3, q4, q5⟩, q6, q7, q8, q9⟩ := M9.out.cells
      go_wp2_with fail
      refine (HCan.out _).mono ?_
      rintro e w10 ⟨rfl, hb10⟩
      have M10 := Lib.hid (M9.out.below hb10)
      clear q0 q1 q2 q3 q4 q5 q6 q7 q8 q9 hb10 M9 HCan HNm HWd
      obtain ⟨⟨q0, q1, q2, q3, q4, q5⟩, q6, q7, q8, q9⟩ := M10.out.cells
      rcases gb with _ | _
      · have hgr : ¬ x ≤ k'.great := of_decide_eq_false hgb.out.symm
        have hgi := Kn.goes_iff hv'.out (x := x)
        have hu : Hid (unF Bt 3100 k 0 0 [] = ⟨acc, 2, pw⟩) := Lib.hid (by
          rw [hrun.out]
          have h1 : ¬ x = fi := fun e => hgr (hgi.1 (Or.inr (by rw [hlk.out.fin, hfin'.out]; exact e)))
          have h2 : ¬ x = z := fun e => hgr (hgi.1 (Or.inl (Or.inl (by rw [hlk.out.clear, hz2'.out]; exact e))))
          have h3 : ¬ k'.can x := fun e => hgr (hgi.1 (Or.inl (Or.inr e)))
          rw [if_neg h1, if_pos ⟨h2, h3⟩])
        have f8 := M10.out.box.f 8 _ rfl
        have M11 := Lib.hid (M10.out.setG (j := 8) (u := .int .i64 2) (fin2 := 2) (p2 := pw) rfl rfl)
        clear hgi hgr
        go_upto_region 10 with (fail)
        obtain ⟨w11, hw11⟩ : ∃ W, w10.setCell ⟨G, 8, none⟩ (.int .i64 2) = W := ⟨_, rfl⟩
        rw [hw11] at M11 ⊢
        clear q0 q1 q2 q3 q4 q5 q6 q7 q8 q9 f8 M10 hw11
        obtain ⟨⟨q0, q1, q2, q3, q4, q5⟩, q6, q7, q8, q9⟩ := M11.out.cells
        have r0 := M11.out.res.c 0 _ rfl
        have r1 := M11.out.res.c 1 _ rfl
        have r2 := M11.out.res.c 2 _ rfl
        have r3 := M11.out.res.c 3 _ rfl
        have r4 := M11.out.res.c 4 _ rfl
        have r5 := M11.out.res.c 5 _ rfl
        have r6 := M11.out.res.c 6 _ rfl
        have r7 := M11.out.res.c 7 _ rfl
        have r8 := M11.out.res.c 8 _ rfl
        have r9 := M11.out.res.c 9 _ rfl
        have y0 := M11.out.res.f 0 _ rfl
        have y1 := M11.out.res.f 1 _ rfl
        have y2 := M11.out.res.f 2 _ rfl
        have y3 := M11.out.res.f 3 _ rfl
        have y4 := M11.out.res.f 4 _ rfl
        have y5 := M11.out.res.f 5 _ rfl
        have y6 := M11.out.res.f 6 _ rfl
        have y7 := M11.out.res.f 7 _ rfl
        have y8 := M11.out.res.f 8 _ rfl
        have y9 := M11.out.res.f 9 _ rfl
        go_wp2_with fail
        refine bodyPost_ret (v := .agg #[.int .i64 (k.o : Int), .int .i64 (k.l : Int), .int .i64 (k.m : Int), .slice A' k'.ps.length c', .int .i64 (k.base : Int), .int .i64 k'.lastI, .slice A1 i c1, .slice A2 m c2, .int .i64 2, .int .i64 (pw : Int)]) (by simp [results, Tryz.results119, go_sem, r0, r1, r2, r3, r4, r5, r6, r7, r8, r9]) rfl ?_
        exact M11.out.post rfl hu.out hS.out.here hai.out hdm.out (keep10 _ _ _ _ _ _ _ _ _ _)
      · have hgr : x ≤ k'.great := of_decide_eq_true hgb.out.symm
        have hgi := (Kn.goes_iff hv'.out (x := x)).2 hgr
        rw [hlk.out.fin, hfin'.out] at hgi
        clear hgb
        by_cases hxf : x = fi
        · have e1 : ((x : Int) == (fi : Int)) = true := by rw [beq_iff_eq]; omega
          have e2 : decide ((x : Int) = (fi : Int)) = true := decide_eq_true (by omega)
          have e3 : (x == fi) = true := by rw [beq_iff_eq]; omega
          have e4 : decide (x = fi) = true := decide_eq_true hxf
          have hu : Hid (unF Bt 3100 k 0 0 [] = ⟨acc ++ [x], 0, pw⟩) := Lib.hid (by rw [hrun.out, if_pos hxf])
          have hdx : Hid (k.data (acc ++ [x]) = ds) := Lib.hid (by
            rw [hS.out.dat]
            show ds ++ (if x = k'.fin then [] else _) = ds
            rw [if_pos (by rw [hlk.out.fin, hfin'.out]; exact hxf), List.append_nil])
          have hi31 : i + 1 ≤ 3100 := by have := hS.out.cnt; have := hai.out; omega
          replace hxf := Lib.hid hxf
          clear hgr hgi hrun
          have ownC := M10.out.o1
          rw [hai.out] at ownC
          have hsc : w.heap.size + 2 ≤ w10.heap.size := by have := M10.out.hG; have := M10.out.lt; omega
          go_wp2_with (first
            | (at_builtin; refine wpList_append_row _ elemInt rfl (.tmp 91) (.tmp 93) rfl (w.heap.size + 2) _ _ _ rfl (ownC.alloc _) _ _ 1 1 [.int .i64 (x : Int)] rfl (Row.newAt _ _ rfl _ [.int .i64 (x : Int)] 1 1 rfl) ?_ ?_ ?_ ?_ ?_))
          · first | rfl | (intro z hz; simp at hz; subst hz; rfl)
          · unfold maxLen; omega
          · omega
          · first | omega | (simp; omega)
          · intro vc wc hvc hgc hatc
            obtain ⟨Ac, cc, rfl, _, _⟩ := own_form hvc
            have M12 := Lib.hid (M10.out.pushC (y := x) (by rw [hai.out]; exact hvc) hgc (by simpa using hatc))
            have kbc := M10.out.box.keep (Keep.of_row hgc) (fun e => M10.out.n1 e)
            have b6 := kbc.c 6 _ rfl
            have bf6 := kbc.f 6 _ rfl
            have hai2 : Hid ((acc ++ [x]).length = i + 1) := Lib.hid (by rw [List.length_append, hai.out]; rfl)
            clear hvc hgc hatc ownC kbc q0 q1 q2 q3 q4 q5 q6 q7 q8 q9
            go_upto_region 20 with (fail)
            obtain ⟨w12, hw12⟩ : ∃ W, wc.setCell ⟨G, 6, none⟩ (.slice Ac (i + 1) cc) = W := ⟨_, rfl⟩
            rw [hw12] at M12 ⊢
            clear b6 bf6 hw12 M10
            have f8 := M12.out.box.f 8 _ rfl
            obtain ⟨⟨q0, q1, q2, q3, q4, q5⟩, q6, q7, q8, q9⟩ := M12.out.cells
            have M13 := Lib.hid (M12.out.setG (j := 8) (u := .int .i64 0) (fin2 := 0) (p2 := pw) rfl rfl)
            go_upto_region 21 with (fail)
            obtain ⟨w13, hw13⟩ : ∃ W, w12.setCell ⟨G, 8, none⟩ (.int .i64 0) = W := ⟨_, rfl⟩
            rw [hw13] at M13 ⊢
            clear q0 q1 q2 q3 q4 q5 q6 q7 q8 q9 f8 M12 hw13
            obtain ⟨⟨q0, q1, q2, q3, q4, q5⟩, q6, q7, q8, q9⟩ := M13.out.cells
            have r0 := M13.out.res.c 0 _ rfl
            have r1 := M13.out.res.c 1 _ rfl
            have r2 := M13.out.res.c 2 _ rfl
            have r3 := M13.out.res.c 3 _ rfl
            have r4 := M13.out.res.c 4 _ rfl
            have r5 := M13.out.res.c 5 _ rfl
            have r6 := M13.out.res.c 6 _ rfl
            have r7 := M13.out.res.c 7 _ rfl
            have r8 := M13.out.res.c 8 _ rfl
            have r9 := M13.out.res.c 9 _ rfl
            have y0 := M13.out.res.f 0 _ rfl
            have y1 := M13.out.res.f 1 _ rfl
            have y2 := M13.out.res.f 2 _ rfl
            have y3 := M13.out.res.f 3 _ rfl
            have y4 := M13.out.res.f 4 _ rfl
            have y5 := M13.out.res.f 5 _ rfl
            have y6 := M13.out.res.f 6 _ rfl
            have y7 := M13.out.res.f 7 _ rfl
            have y8 := M13.out.res.f 8 _ rfl
            have y9 := M13.out.res.f 9 _ rfl
            go_wp2_with fail
            refine bodyPost_ret (v := .agg #[.int .i64 (k.o : Int), .int .i64 (k.l : Int), .int .i64 (k.m : Int), .slice A' k'.ps.length c', .int .i64 (k.base : Int), .int .i64 k'.lastI, .slice Ac (i + 1) cc, .slice A2 m c2, .int .i64 0, .int .i64 (pw : Int)]) (by simp [results, Tryz.results119, go_sem, r0, r1, r2, r3, r4, r5, r6, r7, r8, r9]) rfl ?_
            exact M13.out.post rfl hu.out hdx.out hai2.out hdm.out (keep10 _ _ _ _ _ _ _ _ _ _)
        · have e1 : ((x : Int) == (fi : Int)) = false := by rw [beq_eq_false_iff_ne]; omega
          have e2 : decide ((x : Int) = (fi : Int)) = false := decide_eq_false (by omega)
          have e3 : (x == fi) = false := by rw [beq_eq_false_iff_ne]; omega
          have e4 : decide (x = fi) = false := decide_eq_false (by omega)
          have hg : k'.goes x := hgi.resolve_right hxf
          have hv2 := Lib.hid (Kn.step_valid hv'.out hg)
          have hlk2 := Lib.hid (hlk.out.trans (k'.like_step x))
          have hi31 : i + 1 ≤ 3100 := by have := hS.out.cnt; have := hai.out; omega
          by_cases hxc : x = z
          · have hst : k'.step x = k'.cleared := by unfold Kn.step; rw [if_pos (by rw [hlk.out.clear, hz2'.out]; exact hxc)]
            have HAd := fun (W : World) (ho : k'.Own W (w.heap.size + 2) A' c') => implAdvanceClear k' A' c' (w.heap.size + 2) W hv'.out ho
            rw [hlk.out.clear, hz2'.out, ← hst, hlk.out.val, hlk2.out.val, ← hxc] at HAd
            replace HAd := Lib.hid HAd
            have f1 : ((x : Int) == (z : Int)) = true := by rw [beq_iff_eq]; omega
            have f2 : decide ((x : Int) = (z : Int)) = true := decide_eq_true (by omega)
            have f3 : (x == z) = true := by rw [beq_iff_eq]; omega
            have f4 : decide (x = z) = true := decide_eq_true (by omega)
            have hnext : Hid (k'.peek Bt p = x ∧ p + k'.width = pw ∧ p + k'.width ≤ Bt.length ∧ k'.goes (k'.peek Bt p) ∧ ds.length + (if k'.peek Bt p = k'.clear then 0 else (k'.any (k'.peek Bt p)).length) ≤ 2000 ∧ (if k'.peek Bt p = k'.clear then ([] : List UInt8) else k'.any (k'.peek Bt p)) = []) := Lib.hid (by
              have h1 : k'.peek Bt p = x := hx.out
              have h2 : p + k'.width = pw := by rw [hwd.out]; exact hpw.out
              have h3 : x = k'.clear := by rw [hlk.out.clear, hz2'.out]; exact hxc
              rw [h1, if_pos h3, if_pos h3]
              exact ⟨rfl, h2, by rw [h2, hNn'.out]; omega, hg, by have := hS.out.len; omega, rfl⟩)
            obtain ⟨k2, hk2⟩ : ∃ k2, k'.step x = k2 := ⟨_, rfl⟩
            rw [hk2] at HAd hv2 hlk2
            replace hk2 := Lib.hid hk2
            replace hxc := Lib.hid hxc
            clear hgr hgi hrun hst hg hxf
            go_wp2_with fail
            refine (HAd.out _ M10.out.kp).mono ?_
            rintro e wa ⟨rfl, hown, hba⟩
            have Ma := Lib.hid (M10.out.setK hown ⟨(App.of_below (v := .slice A' k'.ps.length c') hba).grow, Or.inl (by rw [own_any A' k2.ps.length c', own_any A' k'.ps.length c'])⟩)
            have kba := M10.out.box.below hba
            clear q0 q1 q2 q3 q4 q5 q6 q7 q8 q9 hown hba HAd M10
            have q0 := kba.c 0 _ rfl
            have q1 := kba.c 1 _ rfl
            have q2 := kba.c 2 _ rfl
            have q3 := kba.c 3 _ rfl
            have q4 := kba.c 4 _ rfl
            have q5 := kba.c 5 _ rfl
            have y0 := kba.f 0 _ rfl
            have y1 := kba.f 1 _ rfl
            have y2 := kba.f 2 _ rfl
            have y3 := kba.f 3 _ rfl
            have y4 := kba.f 4 _ rfl
            have y5 := kba.f 5 _ rfl
            go_upto_region 24 with (fail)
            unfold set6 at Ma
            obtain ⟨wb, hwb⟩ : ∃ W, ((((((wa.setCell ⟨G, 0, none⟩ (.int .i64 (k.o : Int))).setCell ⟨G, 1, none⟩ (.int .i64 (k.l : Int))).setCell ⟨G, 2, none⟩ (.int .i64 (k.m : Int))).setCell ⟨G, 3, none⟩ (.slice A' k2.ps.length c')).setCell ⟨G, 4, none⟩ (.int .i64 (k.base : Int))).setCell ⟨G, 5, none⟩ (.int .i64 k2.lastI)) = W := ⟨_, rfl⟩
            rw [hwb] at Ma ⊢
            clear q0 q1 q2 q3 q4 q5 y0 y1 y2 y3 y4 y5 kba hwb
            obtain ⟨⟨q0, q1, q2, q3, q4, q5⟩, q6, q7, q8, q9⟩ := Ma.out.cells
            have ownC := Ma.out.o1
            rw [hai.out] at ownC
            have hsc : w.heap.size + 2 ≤ wb.heap.size := by have := Ma.out.hG; have := Ma.out.lt; omega
            go_wp2_with (first
              | (at_builtin; refine wpList_append_row _ elemInt rfl (.tmp 107) (.tmp 109) rfl (w.heap.size + 2) _ _ _ rfl (ownC.alloc _) _ _ 1 1 [.int .i64 (x : Int)] rfl (Row.newAt _ _ rfl _ [.int .i64 (x : Int)] 1 1 rfl) ?_ ?_ ?_ ?_ ?_))
            · first | rfl | (intro z hz; simp at hz; subst hz; rfl)
            · unfold maxLen; omega
            · omega
            · first | omega | (simp; omega)
            · intro vc wc hvc hgc hatc
              obtain ⟨Ac, cc, rfl, _, _⟩ := own_form hvc
              have M12 := Lib.hid (Ma.out.pushC (y := x) (by rw [hai.out]; exact hvc) hgc (by simpa using hatc))
              have kbc := Ma.out.box.keep (Keep.of_row hgc) (fun e => Ma.out.n1 e)
              have b6 := kbc.c 6 _ rfl
              have bf6 := kbc.f 6 _ rfl
              have hai2 : Hid ((acc ++ [x]).length = i + 1) := Lib.hid (by rw [List.length_append, hai.out]; rfl)
              clear hvc hgc hatc ownC kbc q0 q1 q2 q3 q4 q5 q6 q7 q8 q9
              go_upto_region 25 with (fail)
              obtain ⟨w12, hw12⟩ : ∃ W, wc.setCell ⟨G, 6, none⟩ (.slice Ac (i + 1) cc) = W := ⟨_, rfl⟩
              rw [hw12] at M12 ⊢
              clear b6 bf6 hw12 Ma
              obtain ⟨⟨q0, q1, q2, q3, q4, q5⟩, q6, q7, q8, q9⟩ := M12.out.cells
              have wi1 : IntKind.i64.wrap ((i : Int) + 1) = (i : Int) + 1 := IntWalk.i64_in _ (by omega)
              by_cases hfull : 3100 ≤ i + 1
              · have g5 : decide ((3100 : Int) ≤ (i : Int) + 1) = true := decide_eq_true (by omega)
                have g6 : decide (3100 ≤ i + 1) = true := decide_eq_true hfull
                have hf0 : f = 0 := by have := hS.out.cnt; have := hai.out; omega
                subst hf0
                have hfu := hS.out.full hnext.out.2.2.1 hnext.out.2.2.2.1 hnext.out.2.2.2.2.1
                rw [hnext.out.2.2.2.2.2, hnext.out.2.1, hnext.out.1] at hfu
                have hu : Hid (unF Bt 3100 k 0 0 [] = ⟨acc ++ [x], 3, pw⟩) := Lib.hid hfu.1
                have hdx : Hid (k.data (acc ++ [x]) = ds) := Lib.hid (by rw [hfu.2]; rw [List.append_nil])
                have f8 := M12.out.box.f 8 _ rfl
                have M13 := Lib.hid (M12.out.setG (j := 8) (u := .int .i64 3) (fin2 := 3) (p2 := pw) rfl rfl)
                clear hfu
                go_upto_region 27 with (fail)
                obtain ⟨w13, hw13⟩ : ∃ W, w12.setCell ⟨G, 8, none⟩ (.int .i64 3) = W := ⟨_, rfl⟩
                rw [hw13] at M13 ⊢
                clear q0 q1 q2 q3 q4 q5 q6 q7 q8 q9 f8 M12 hw13
                obtain ⟨⟨q0, q1, q2, q3, q4, q5⟩, q6, q7, q8, q9⟩ := M13.out.cells
                have r0 := M13.out.res.c 0 _ rfl
                have r1 := M13.out.res.c 1 _ rfl
                have r2 := M13.out.res.c 2 _ rfl
                have r3 := M13.out.res.c 3 _ rfl
                have r4 := M13.out.res.c 4 _ rfl
                have r5 := M13.out.res.c 5 _ rfl
                have r6 := M13.out.res.c 6 _ rfl
                have r7 := M13.out.res.c 7 _ rfl
                have r8 := M13.out.res.c 8 _ rfl
                have r9 := M13.out.res.c 9 _ rfl
                have y0 := M13.out.res.f 0 _ rfl
                have y1 := M13.out.res.f 1 _ rfl
                have y2 := M13.out.res.f 2 _ rfl
                have y3 := M13.out.res.f 3 _ rfl
                have y4 := M13.out.res.f 4 _ rfl
                have y5 := M13.out.res.f 5 _ rfl
                have y6 := M13.out.res.f 6 _ rfl
                have y7 := M13.out.res.f 7 _ rfl
                have y8 := M13.out.res.f 8 _ rfl
                have y9 := M13.out.res.f 9 _ rfl
                go_wp2_with fail
                refine bodyPost_ret (v := .agg #[.int .i64 (k.o : Int), .int .i64 (k.l : Int), .int .i64 (k.m : Int), .slice A' k2.ps.length c', .int .i64 (k.base : Int), .int .i64 k2.lastI, .slice Ac (i + 1) cc, .slice A2 m c2, .int .i64 3, .int .i64 (pw : Int)]) (by simp [results, Tryz.results119, go_sem, r0, r1, r2, r3, r4, r5, r6, r7, r8, r9]) rfl ?_
                exact M13.out.post rfl hu.out hdx.out hai2.out hdm.out (keep10 _ _ _ _ _ _ _ _ _ _)
              · have g5 : decide ((3100 : Int) ≤ (i : Int) + 1) = false := decide_eq_false (by omega)
                have g6 : decide (3100 ≤ i + 1) = false := decide_eq_false hfull
                obtain ⟨f', rfl⟩ : ∃ f', f = f' + 1 := ⟨f - 1, by have := hS.out.cnt; have := hai.out; omega⟩
                have hst2 := hS.out.step hnext.out.2.2.1 hnext.out.2.2.2.1 hnext.out.2.2.2.2.1
                rw [hnext.out.2.2.2.2.2, hnext.out.2.1, hnext.out.1, hk2.out] at hst2
                have hS2 : Hid (RdS k Bt k2 pw (acc ++ [x]) (ds) f') := Lib.hid (by rw [List.append_nil] at hst2; exact hst2)
                have hat2 := atOf_cell M12.out.cells.2.2.2.2
                replace hat2 := Lib.hid hat2
                clear hst2
                go_wp2_with fail
                go_roundw
                case rel => exact ⟨k2, A', c', pw, i + 1, m, f', acc ++ [x], ds, Ac, cc, A2, c2, hpwN, hai2, hdm, hS2, M12⟩
                case measure =>
                  show N - atOf w12 G < N - atOf _ G
                  rw [hat2.out, hat0.out]
                  exact hmeas.out
          · have hcan : k'.can x := by
              rcases hg with h1 | h1
              · exact absurd (h1.trans (hlk.out.clear.trans hz2'.out)) hxc
              · exact h1
            have hst : k'.step x = k'.after x := Kn.step_can hv'.out hcan
            have HWo := fun (W : World) (ho : k'.Own W (w.heap.size + 2) A' c') => implWordText k' A' c' W.heap.size x W hv'.out ho.at (Nat.le_refl _) hcan
            have hale := k'.any_le x
            have hroom := hv'.out.room
            have hpow := hv'.out.pow
            obtain ⟨L, hL⟩ : ∃ L, k'.any x = L := ⟨_, rfl⟩
            have hLn := (Kn.any_head hv'.out hcan).2
            rw [hL] at HWo hLn hale
            have hL0 : 0 < (bsL L).size := by rw [bsL_size]; cases L with | nil => exact absurd rfl hLn | cons a l => simp
            obtain ⟨y, hy⟩ : ∃ y, ((bsL L)[0]'hL0).toNat = y := ⟨_, rfl⟩
            have hyh : ((k'.any x).headD 0).toNat = y := by
              rw [hL, ← hy, bsL_at hL0 (by rw [bsL_size] at hL0; exact hL0)]
              cases L with | nil => exact absurd rfl hLn | cons a l => rfl
            have hy256 : y < 256 := by rw [← hy]; exact UInt8.toNat_lt _
            have HAd := fun (W : World) (ho : k'.Own W (w.heap.size + 2) A' c') (hW : w.heap.size + 2 ≤ W.heap.size) => implAdvance k' A' c' (w.heap.size + 2) x y W hv'.out ho hW hcan hyh
            simp only [← hst, hlk.out.val, hlk2.out.val] at HAd
            rw [hlk.out.val] at HWo
            replace HAd := Lib.hid HAd
            replace HWo := Lib.hid HWo
            have f1 : ((x : Int) == (z : Int)) = false := by rw [beq_eq_false_iff_ne]; omega
            have f2 : decide ((x : Int) = (z : Int)) = false := decide_eq_false (by omega)
            have f3 : (x == z) = false := by rw [beq_eq_false_iff_ne]; omega
            have f4 : decide (x = z) = false := decide_eq_false (by omega)
            have hLs : (bsL L).size = L.length := rfl
            have hL2000 : L.length ≤ 1026 := by omega
            have hm2000 : m ≤ 2000 := by have := hS.out.len; have := hdm.out; omega
            obtain ⟨k2, hk2⟩ : ∃ k2, k'.step x = k2 := ⟨_, rfl⟩
            rw [hk2] at HAd hv2 hlk2
            obtain ⟨T, hT⟩ : ∃ T, bsL L = T := ⟨_, rfl⟩
            obtain ⟨lL, hlL⟩ : ∃ l, L.length = l := ⟨_, rfl⟩
            have hTl : T.data.toList = L := by rw [← hT]
            have hlL' := Lib.hid hlL
            rw [hlL] at hLs hL2000
            simp only [hT] at hLs hL0 hy HWo
            have hL0i : (0 : Int) < T.size := by omega
            replace hTl := Lib.hid hTl
            obtain ⟨ml, hml⟩ : ∃ s, m + lL = s := ⟨_, rfl⟩
            have hmli : (m : Int) + lL = ml := by omega
            have wml : IntKind.i64.wrap (ml : Int) = ml := IntWalk.i64_in _ (by omega)
            have wm0 : IntKind.i64.wrap (m : Int) = m := IntWalk.i64_in _ (by omega)
            have hmlb : ml ≤ 4000 := by omega
            have hLk := Lib.hid hL
            replace hml := Lib.hid hml
            replace hk2 := Lib.hid hk2
            replace hcan := Lib.hid hcan
            replace hxc := Lib.hid hxc
            replace hxf := Lib.hid hxf
            replace hg := Lib.hid hg
            have HW10 := Lib.hid (HWo.out w10 M10.out.kp)
            by_cases hlong : 2000 < ml
            · have g3 : decide ((2000 : Int) < ml) = true := decide_eq_true (by omega)
              have g4 : decide (2000 < ml) = true := decide_eq_true hlong
              have hu : Hid (unF Bt 3100 k 0 0 [] = ⟨acc, 3, pw⟩) := Lib.hid (by
                rw [hrun.out, if_neg hxf.out, if_neg (fun hh => hh.2 hcan.out), if_neg hxc.out, hLk.out, hlL'.out, hml.out, if_pos hlong])
              clear hgr hgi hrun hst hL hLn hyh hlL hale hroom hpow
              go_wp2_with fail
              refine HW10.out.mono ?_
              rintro e wa ⟨rfl, hba⟩
              have Ma := Lib.hid (M10.out.below hba)
              clear q0 q1 q2 q3 q4 q5 q6 q7 q8 q9 hba HW10 M10
              obtain ⟨⟨q0, q1, q2, q3, q4, q5⟩, q6, q7, q8, q9⟩ := Ma.out.cells
              have f8 := Ma.out.box.f 8 _ rfl
              have M11 := Lib.hid (Ma.out.setG (j := 8) (u := .int .i64 3) (fin2 := 3) (p2 := pw) rfl rfl)
              go_upto_region 15 with (fail)
              obtain ⟨w11, hw11⟩ : ∃ W, wa.setCell ⟨G, 8, none⟩ (.int .i64 3) = W := ⟨_, rfl⟩
              rw [hw11] at M11 ⊢
              clear q0 q1 q2 q3 q4 q5 q6 q7 q8 q9 f8 Ma hw11
              obtain ⟨⟨q0, q1, q2, q3, q4, q5⟩, q6, q7, q8, q9⟩ := M11.out.cells
              have r0 := M11.out.res.c 0 _ rfl
              have r1 := M11.out.res.c 1 _ rfl
              have r2 := M11.out.res.c 2 _ rfl
              have r3 := M11.out.res.c 3 _ rfl
              have r4 := M11.out.res.c 4 _ rfl
              have r5 := M11.out.res.c 5 _ rfl
              have r6 := M11.out.res.c 6 _ rfl
              have r7 := M11.out.res.c 7 _ rfl
              have r8 := M11.out.res.c 8 _ rfl
              have r9 := M11.out.res.c 9 _ rfl
              have y0 := M11.out.res.f 0 _ rfl
              have y1 := M11.out.res.f 1 _ rfl
              have y2 := M11.out.res.f 2 _ rfl
              have y3 := M11.out.res.f 3 _ rfl
              have y4 := M11.out.res.f 4 _ rfl
              have y5 := M11.out.res.f 5 _ rfl
              have y6 := M11.out.res.f 6 _ rfl
              have y7 := M11.out.res.f 7 _ rfl
              have y8 := M11.out.res.f 8 _ rfl
              have y9 := M11.out.res.f 9 _ rfl
              go_wp2_with fail
              refine bodyPost_ret (v := .agg #[.int .i64 (k.o : Int), .int .i64 (k.l : Int), .int .i64 (k.m : Int), .slice A' k'.ps.length c', .int .i64 (k.base : Int), .int .i64 k'.lastI, .slice A1 i c1, .slice A2 m c2, .int .i64 3, .int .i64 (pw : Int)]) (by simp [results, Tryz.results119, go_sem, r0, r1, r2, r3, r4, r5, r6, r7, r8, r9]) rfl ?_
              exact M11.out.post rfl hu.out hS.out.here hai.out hdm.out (keep10 _ _ _ _ _ _ _ _ _ _)
            · have g3 : decide ((2000 : Int) < ml) = false := decide_eq_false (by omega)
              have g4 : decide (2000 < ml) = false := decide_eq_false hlong
              have hnext : Hid (k'.peek Bt p = x ∧ p + k'.width = pw ∧ p + k'.width ≤ Bt.length ∧ k'.goes (k'.peek Bt p) ∧ ds.length + (if k'.peek Bt p = k'.clear then 0 else (k'.any (k'.peek Bt p)).length) ≤ 2000 ∧ (if k'.peek Bt p = k'.clear then ([] : List UInt8) else k'.any (k'.peek Bt p)) = L) := Lib.hid (by
                have h1 : k'.peek Bt p = x := hx.out
                have h2 : p + k'.width = pw := by rw [hwd.out]; exact hpw.out
                have h3 : ¬ x = k'.clear := by rw [hlk.out.clear, hz2'.out]; exact hxc.out
                rw [h1, if_neg h3, if_neg h3, hLk.out, hlL'.out, hdm.out]
                exact ⟨rfl, h2, by rw [h2, hNn'.out]; omega, hg.out, by have := hml.out; omega, rfl⟩)
              have hdm2 : Hid ((ds ++ L).length = ml) := Lib.hid (by rw [List.length_append, hdm.out, hlL'.out]; exact hml.out)
              have hTs : T.size = lL := hLs
              have h0L : 0 < lL := by omega
              clear hgr hgi hrun hst hL hLn hyh hlL hale hroom hpow
              go_wp2_with fail
              refine HW10.out.mono ?_
              rintro e wa ⟨rfl, hba⟩
              have Ma := Lib.hid (M10.out.below hba)
              clear q0 q1 q2 q3 q4 q5 q6 q7 q8 q9 hba HW10 M10
              obtain ⟨⟨q0, q1, q2, q3, q4, q5⟩, q6, q7, q8, q9⟩ := Ma.out.cells
              have ownA := Ma.out.o2
              rw [hdm.out] at ownA
              have hsa : w.heap.size + 2 ≤ wa.heap.size := by have := Ma.out.hG; have := Ma.out.lt; omega
              go_wp2_with (first
                | (at_builtin; refine wpList_append_str elemByte Tryz.underlying9 rfl (.tmp 76) (.tmp 77) rfl (w.heap.size + 2) _ _ _ rfl ownA T rfl (by omega) (by omega) ?_))
              intro vb wb hvb hgb2 hatb
              obtain ⟨Ab, cb, rfl, _, _⟩ := own_form hvb
              rw [hTl.out] at hvb
              have Mb := Lib.hid (Ma.out.pushD (bs := L) (n := lL) hlL'.out.symm (by rw [hdm.out]; exact hvb) hgb2 hatb)
              have kbb := Ma.out.box.keep (Keep.of_grown hgb2 (S := fun g => (Value.slice A2 m c2).ownBlock = some g) (fun g e => Or.inl e)) (fun e => Ma.out.n2 e)
              have b7 := kbb.c 7 _ rfl
              have bf7 := kbb.f 7 _ rfl
              clear hvb hgb2 hatb ownA Ma kbb q0 q1 q2 q3 q4 q5 q6 q7 q8 q9
              go_upto_region 17 with (fail)
              obtain ⟨wb2, hwb2⟩ : ∃ W, wb.setCell ⟨G, 7, none⟩ (.slice Ab (m + lL) cb) = W := ⟨_, rfl⟩
              rw [hwb2] at Mb ⊢
              rw [hml.out] at Mb
              clear b7 bf7 hwb2
              have hSX : Hid (∀ W, Below wb2.heap.size wb2 W → W.cell? ⟨G, 0, none⟩ = some (.int .i64 (k.o : Int)) ∧ W.cell? ⟨G, 1, none⟩ = some (.int .i64 (k.l : Int)) ∧ W.cell? ⟨G, 2, none⟩ = some (.int .i64 (k.m : Int)) ∧ W.cell? ⟨G, 3, none⟩ = some (.slice A' k'.ps.length c') ∧ W.cell? ⟨G, 4, none⟩ = some (.int .i64 (k.base : Int)) ∧ W.cell? ⟨G, 5, none⟩ = some (.int .i64 k'.lastI)) := Lib.hid (fun W hW => (Mb.out.below hW).cells.1)
              have hRS := hS
              refine wp_region_held_tail (S := fun W => W.cell? ⟨G, 0, none⟩ = some (.int .i64 (k.o : Int)) ∧ W.cell? ⟨G, 1, none⟩ = some (.int .i64 (k.l : Int)) ∧ W.cell? ⟨G, 2, none⟩ = some (.int .i64 (k.m : Int)) ∧ W.cell? ⟨G, 3, none⟩ = some (.slice A' k'.ps.length c') ∧ W.cell? ⟨G, 4, none⟩ = some (.int .i64 (k.base : Int)) ∧ W.cell? ⟨G, 5, none⟩ = some (.int .i64 k'.lastI)) 7 (by kernel_rfl) (by kernel_rfl) (hSX.out _ (Below.refl _ _).drew) (fun hS => ?_)
              have Mc := Lib.hid (Mb.out.below (Below.refl _ _).drew)
              have hAd := Lib.hid (HAd.out wb2.drew Mc.out.kp (by have := Mc.out.hG; have := Mc.out.lt; omega))
              refine heldAny_take (i := 0) (v := ?_) rfl (by kernel_rfl) (by kernel_rfl) (by kernel_rfl) (by kernel_rfl) (fun _ _ _ h => h) (Or.inl ⟨by rfl, ?_⟩) (by assumption) ?_
              rotate_left
              · (intro wS hSw; (try dsimp only at hSw); go_split_ands; go_simp; all_goals with_reducible rfl)
              try simp only [Act.put]
              refine heldAny_take (i := 1) (v := ?_) rfl (by kernel_rfl) (by kernel_rfl) (by kernel_rfl) (by kernel_rfl) (fun _ _ _ h => h) (Or.inl ⟨by rfl, ?_⟩) (by assumption) ?_
              rotate_left
              · (intro wS hSw; (try dsimp only at hSw); go_split_ands; go_simp; all_goals with_reducible rfl)
              try simp only [Act.put]
              refine heldAny_take (i := 2) (v := ?_) rfl (by kernel_rfl) (by kernel_rfl) (by kernel_rfl) (by kernel_rfl) (fun _ _ _ h => h) (Or.inl ⟨by rfl, ?_⟩) (by assumption) ?_
              rotate_left
              · (intro wS hSw; (try dsimp only at hSw); go_split_ands; go_simp; all_goals with_reducible rfl)
              try simp only [Act.put]
              refine heldAny_take (i := 3) (v := ?_) rfl (by kernel_rfl) (by kernel_rfl) (by kernel_rfl) (by kernel_rfl) (fun _ _ _ h => h) (Or.inl ⟨by rfl, ?_⟩) (by assumption) ?_
              rotate_left
              · (intro wS hSw; (try dsimp only at hSw); go_split_ands; go_simp; all_goals with_reducible rfl)
              try simp only [Act.put]
              refine heldAny_take (i := 4) (v := ?_) rfl (by kernel_rfl) (by kernel_rfl) (by kernel_rfl) (by kernel_rfl) (fun _ _ _ h => h) (Or.inl ⟨by rfl, ?_⟩) (by assumption) ?_
              rotate_left
              · (intro wS hSw; (try dsimp only at hSw); go_split_ands; go_simp; all_goals with_reducible rfl)
              try simp only [Act.put]
              refine heldAny_one (i := 5) rfl (by kernel_rfl) (by kernel_rfl) (fun K hK => ?_)
              go_simp
              go_at_call 148
              refine hAd.out.mono ?_
              rintro e wd2 ⟨Ad, cd, rfl, hownd, hapd⟩
              have Md := Lib.hid (Mc.out.setK hownd hapd)
              have kbd := Mc.out.box.keep (Keep.of_grown hapd.grow (S := fun g => (Value.slice A' k'.ps.length c').ownBlock = some g) (fun g e => Or.inl e)) (fun e => Mc.out.n0 (by rw [own_any] at e; exact e))
              have q0 := kbd.c 0 _ rfl
              have q1 := kbd.c 1 _ rfl
              have q2 := kbd.c 2 _ rfl
              have q3 := kbd.c 3 _ rfl
              have q4 := kbd.c 4 _ rfl
              have q5 := kbd.c 5 _ rfl
              have y0 := kbd.f 0 _ rfl
              have y1 := kbd.f 1 _ rfl
              have y2 := kbd.f 2 _ rfl
              have y3 := kbd.f 3 _ rfl
              have y4 := kbd.f 4 _ rfl
              have y5 := kbd.f 5 _ rfl
              refine hK.out _ _ ⟨q0, q1, q2, q3, q4, q5⟩ (fun hS => ?_)
              try simp only [Act.put]
              refine heldAny_take (i := 6) (v := ?_) rfl (by kernel_rfl) (by kernel_rfl) (by kernel_rfl) (by kernel_rfl) (fun _ _ _ h => h) (Or.inl ⟨by rfl, ?_⟩) (by assumption) ?_
              rotate_left
              · (intro wS hSw; (try dsimp only at hSw); go_split_ands; go_simp; all_goals with_reducible rfl)
              try simp only [Act.put]
              refine heldAny_done (by kernel_rfl) ⟨by kernel_rfl, ?_⟩
              simp only [List.drop_succ_cons, List.drop_zero]
              clear hK K hS hownd hapd hAd Mc Mb hSX kbd
              try rw [hlk2.out.val]
              go_upto_region 24 with (fail)
              unfold set6 at Md
              obtain ⟨we, hwe⟩ : ∃ W, ((((((wd2.setCell ⟨G, 0, none⟩ (.int .i64 (k.o : Int))).setCell ⟨G, 1, none⟩ (.int .i64 (k.l : Int))).setCell ⟨G, 2, none⟩ (.int .i64 (k.m : Int))).setCell ⟨G, 3, none⟩ (.slice Ad k2.ps.length cd)).setCell ⟨G, 4, none⟩ (.int .i64 (k.base : Int))).setCell ⟨G, 5, none⟩ (.int .i64 k2.lastI)) = W := ⟨_, rfl⟩
              rw [hwe] at Md ⊢
              clear q0 q1 q2 q3 q4 q5 y0 y1 y2 y3 y4 y5 hwe
              obtain ⟨⟨q0, q1, q2, q3, q4, q5⟩, q6, q7, q8, q9⟩ := Md.out.cells
              have ownC := Md.out.o1
              rw [hai.out] at ownC
              have hsc : w.heap.size + 2 ≤ we.heap.size := by have := Md.out.hG; have := Md.out.lt; omega
              go_wp2_with (first
                | (at_builtin; refine wpList_append_row _ elemInt rfl (.tmp 107) (.tmp 109) rfl (w.heap.size + 2) _ _ _ rfl (ownC.alloc _) _ _ 1 1 [.int .i64 (x : Int)] rfl (Row.newAt _ _ rfl _ [.int .i64 (x : Int)] 1 1 rfl) ?_ ?_ ?_ ?_ ?_))
              · first | rfl | (intro z hz; simp at hz; subst hz; rfl)
              · unfold maxLen; omega
              · omega
              · first | omega | (simp; omega)
              · intro vc wc hvc hgc hatc
                obtain ⟨Ac, cc, rfl, _, _⟩ := own_form hvc
                have M12 := Lib.hid (Md.out.pushC (y := x) (by rw [hai.out]; exact hvc) hgc (by simpa using hatc))
                have kbc := Md.out.box.keep (Keep.of_row hgc) (fun e => Md.out.n1 e)
                have b6 := kbc.c 6 _ rfl
                have bf6 := kbc.f 6 _ rfl
                have hai2 : Hid ((acc ++ [x]).length = i + 1) := Lib.hid (by rw [List.length_append, hai.out]; rfl)
                clear hvc hgc hatc ownC kbc q0 q1 q2 q3 q4 q5 q6 q7 q8 q9
                go_upto_region 25 with (fail)
                obtain ⟨w12, hw12⟩ : ∃ W, wc.setCell ⟨G, 6, none⟩ (.slice Ac (i + 1) cc) = W := ⟨_, rfl⟩
                rw [hw12] at M12 ⊢
                clear b6 bf6 hw12 Md
                obtain ⟨⟨q0, q1, q2, q3, q4, q5⟩, q6, q7, q8, q9⟩ := M12.out.cells
                have wi1 : IntKind.i64.wrap ((i : Int) + 1) = (i : Int) + 1 := IntWalk.i64_in _ (by omega)
                by_cases hfull : 3100 ≤ i + 1
                · have g5 : decide ((3100 : Int) ≤ (i : Int) + 1) = true := decide_eq_true (by omega)
                  have g6 : decide (3100 ≤ i + 1) = true := decide_eq_true hfull
                  have hf0 : f = 0 := by have := hRS.out.cnt; have := hai.out; omega
                  subst hf0
                  have hfu := hRS.out.full hnext.out.2.2.1 hnext.out.2.2.2.1 hnext.out.2.2.2.2.1
                  rw [hnext.out.2.2.2.2.2, hnext.out.2.1, hnext.out.1] at hfu
                  have hu : Hid (unF Bt 3100 k 0 0 [] = ⟨acc ++ [x], 3, pw⟩) := Lib.hid hfu.1
                  have hdx : Hid (k.data (acc ++ [x]) = ds ++ L) := Lib.hid (by rw [hfu.2])
                  have f8 := M12.out.box.f 8 _ rfl
                  have M13 := Lib.hid (M12.out.setG (j := 8) (u := .int .i64 3) (fin2 := 3) (p2 := pw) rfl rfl)
                  clear hfu
                  go_upto_region 27 with (fail)
                  obtain ⟨w13, hw13⟩ : ∃ W, w12.setCell ⟨G, 8, none⟩ (.int .i64 3) = W := ⟨_, rfl⟩
                  rw [hw13] at M13 ⊢
                  clear q0 q1 q2 q3 q4 q5 q6 q7 q8 q9 f8 M12 hw13
                  obtain ⟨⟨q0, q1, q2, q3, q4, q5⟩, q6, q7, q8, q9⟩ := M13.out.cells
                  have r0 := M13.out.res.c 0 _ rfl
                  have r1 := M13.out.res.c 1 _ rfl
                  have r2 := M13.out.res.c 2 _ rfl
                  have r3 := M13.out.res.c 3 _ rfl
                  have r4 := M13.out.res.c 4 _ rfl
                  have r5 := M13.out.res.c 5 _ rfl
                  have r6 := M13.out.res.c 6 _ rfl
                  have r7 := M13.out.res.c 7 _ rfl
                  have r8 := M13.out.res.c 8 _ rfl
                  have r9 := M13.out.res.c 9 _ rfl
                  have y0 := M13.out.res.f 0 _ rfl
                  have y1 := M13.out.res.f 1 _ rfl
                  have y2 := M13.out.res.f 2 _ rfl
                  have y3 := M13.out.res.f 3 _ rfl
                  have y4 := M13.out.res.f 4 _ rfl
                  have y5 := M13.out.res.f 5 _ rfl
                  have y6 := M13.out.res.f 6 _ rfl
                  have y7 := M13.out.res.f 7 _ rfl
                  have y8 := M13.out.res.f 8 _ rfl
                  have y9 := M13.out.res.f 9 _ rfl
                  go_wp2_with fail
                  refine bodyPost_ret (v := .agg #[.int .i64 (k.o : Int), .int .i64 (k.l : Int), .int .i64 (k.m : Int), .slice Ad k2.ps.length cd, .int .i64 (k.base : Int), .int .i64 k2.lastI, .slice Ac (i + 1) cc, .slice Ab ml cb, .int .i64 3, .int .i64 (pw : Int)]) (by simp [results, Tryz.results119, go_sem, r0, r1, r2, r3, r4, r5, r6, r7, r8, r9]) rfl ?_
                  exact M13.out.post rfl hu.out hdx.out hai2.out hdm2.out (keep10 _ _ _ _ _ _ _ _ _ _)
                · have g5 : decide ((3100 : Int) ≤ (i : Int) + 1) = false := decide_eq_false (by omega)
                  have g6 : decide (3100 ≤ i + 1) = false := decide_eq_false hfull
                  obtain ⟨f', rfl⟩ : ∃ f', f = f' + 1 := ⟨f - 1, by have := hRS.out.cnt; have := hai.out; omega⟩
                  have hst2 := hRS.out.step hnext.out.2.2.1 hnext.out.2.2.2.1 hnext.out.2.2.2.2.1
                  rw [hnext.out.2.2.2.2.2, hnext.out.2.1, hnext.out.1, hk2.out] at hst2
                  have hS2 : Hid (RdS k Bt k2 pw (acc ++ [x]) (ds ++ L) f') := Lib.hid (by exact hst2)
                  have hat2 := atOf_cell M12.out.cells.2.2.2.2
                  replace hat2 := Lib.hid hat2
                  clear hst2
                  go_wp2_with fail
                  go_roundw
                  case rel => exact ⟨k2, Ad, cd, pw, i + 1, ml, f', acc ++ [x], ds ++ L, Ac, cc, Ab, cb, hpwN, hai2, hdm2, hS2, M12⟩
                  case measure =>
                    show N - atOf w12 G < N - atOf _ G
                    rw [hat2.out, hat0.out]
                    exact hmeas.out

end Go.Proofs.YthlgpgaeajfchaaGreatDoor
