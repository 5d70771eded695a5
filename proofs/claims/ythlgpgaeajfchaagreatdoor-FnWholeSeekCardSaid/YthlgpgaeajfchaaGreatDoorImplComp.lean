/-
  The program's GreedyCodes, PackBits, PackCodes and Compress.
-/
import Derived.Test.YthlgpgaeajfchaaGreatDoorImplWalk
import Derived.Test.YthlgpgaeajfchaaGreatDoorImplGreedy
import Derived.Test.YthlgpgaeajfchaaGreatDoorImplLearn
import Derived.Test.YthlgpgaeajfchaaGreatDoorImplBits
namespace Go.Proofs.YthlgpgaeajfchaaGreatDoor
open Go.RowKit
set_option linter.unusedVariables false
set_option maxRecDepth 100000

set_option maxHeartbeats 2000000 in
theorem implGreedyCodesYes (k : Kn) (A : Option Addr) (c B : Nat) (L : List UInt8) (w : World) (h : k.Fresh) (hA : k.At w B A) (hB : B ≤ w.heap.size) (hf : dfits k.o k.l k.m L) :
    Calls Tryz.prog 98 #[k.val A c, .string (bsL L)] w fun e w' => ∃ A', e = .returned (.tuple #[.slice A' (k.greedy L).length (k.greedy L).length, .bool true]) ∧ Row w' w'.heap.size 1 A' (k.greedy L).length ((k.greedy L).map natV) ∧ Below w.heap.size w w' := by
  have hff := h.val.dfits.1 hf
  have HK := fun W (hb : Below w.heap.size w W) => implKnownValid k A c B W h (hA.below hb hB) (Nat.le_trans hB hb.size)
  have HD := fun W => implDataFits k.o k.l k.m (bsL L) true W (by show L.length ≤ _; omega) (btrue hf)
  have HG := fun W (hb : Below w.heap.size w W) => implGreedy k A c B L W h.val (hA.below hb hB) (Nat.le_trans hB hb.size) hff.2 hff.1
  have hgl := Kn.greedy_len h.val hff.2
  obtain ⟨n, hn⟩ : ∃ n, (k.greedy L).length = n := ⟨_, rfl⟩
  rw [hn] at HG hgl ⊢
  have hval := Kn.val_eq k
  simp only [hval] at HK HG ⊢
  have HCl := Lib.hid (fun (A' : Option Addr) (c' : Nat) (W : World) (hc : n ≤ c') => goClip A' n c' W (by omega) hc)
  have kb0 := KB.start w 48 (.int .i64 (k.o : Int)) (.int .i64 (k.l : Int)) (.int .i64 (k.m : Int)) (.slice A k.ps.length c) (.int .i64 (k.base : Int)) (.int .i64 k.lastI)
  have hW0 := (Below.refl w.heap.size w).alloc (Nat.le_refl _) (.cells #[.int .i64 (k.o : Int), .int .i64 (k.l : Int), .int .i64 (k.m : Int), .slice A k.ps.length c, .int .i64 (k.base : Int), .int .i64 k.lastI] 48)
  replace HK := Lib.hid HK
  replace HD := Lib.hid HD
  replace HG := Lib.hid HG
  clear hval h hA hf hff hn
  go_enter Tryz.func98, Tryz.ntmps98
  go_upto_region 1 with (fail)
  obtain ⟨w2, hw2⟩ : ∃ W, w.alloc (.cells #[.int .i64 (k.o : Int), .int .i64 (k.l : Int), .int .i64 (k.m : Int), .slice A k.ps.length c, .int .i64 (k.base : Int), .int .i64 k.lastI] 48) = W := ⟨_, rfl⟩
  rw [hw2] at kb0 hW0 ⊢
  clear hw2
  have hX := Lib.hid (fun (W : World) (hb : Below w2.heap.size w2 W) => And.intro (kb0.below hb).c (hW0.trans (hb.mono hW0.size)))
  obtain ⟨⟨q0, q1, q2, q3, q4, q5⟩, _⟩ := kb0
  have hK2 := Lib.hid (HK.out w2 hW0)
  clear hW0
  go_wp2_with fail
  refine hK2.out.mono ?_
  rintro e w3 ⟨rfl, hb3⟩
  clear q0 q1 q2 q3 q4 q5
  obtain ⟨⟨q0, q1, q2, q3, q4, q5⟩, _⟩ := hX.out _ hb3
  replace hb3 := Lib.hid hb3
  go_wp2_with fail
  refine (HD.out _).mono ?_
  rintro e w4 ⟨rfl, hb4⟩
  have hb4' := Lib.hid (hb3.out.trans (hb4.mono hb3.out.size))
  clear q0 q1 q2 q3 q4 q5 hb4 hb3
  obtain ⟨⟨q0, q1, q2, q3, q4, q5⟩, hW4⟩ := hX.out _ hb4'.out
  have hG4 := Lib.hid (HG.out w4 hW4)
  replace hW4 := Lib.hid hW4
  go_wp2_with fail
  refine hG4.out.mono ?_
  rintro e w5 ⟨A5, c5, rfl, hown5, hb5⟩
  have hW5 := Lib.hid (hW4.out.trans (hb5.mono hW4.out.size))
  have hc5 : n ≤ c5 := by
    obtain ⟨_, _, e, h, _⟩ := own_form hown5
    injection e with _ _ e
    rw [e]; exact h
  have hR5 := Lib.hid (Row.of_own hown5)
  have hC5 := Lib.hid (HCl.out A5 c5 w5 hc5)
  clear q0 q1 q2 q3 q4 q5 hb5 hown5
  go_wp2_with fail
  refine hC5.out.mono ?_
  rintro e w6 ⟨rfl, rfl⟩
  go_wp2_with fail
  refine bodyPost_ret (v := .tuple #[.slice A5 n n, .bool true]) (by simp [results, Tryz.results98, go_sem]) rfl ?_
  exact ⟨A5, rfl, hR5.out, hW5.out⟩

set_option maxHeartbeats 2000000 in
theorem implGreedyCodesNo (k : Kn) (A : Option Addr) (c B : Nat) (s : ByteArray) (w : World) (h : k.Fresh) (hA : k.At w B A) (hB : B ≤ w.heap.size) (hs : s.size ≤ 1048576) (hf : ¬ dfits k.o k.l k.m s.data.toList) :
    Calls Tryz.prog 98 #[k.val A c, .string s] w fun e w' => e = .returned (.tuple #[.slice none 0 0, .bool false]) ∧ Below w.heap.size w w' := by
  have HK := fun W (hb : Below w.heap.size w W) => implKnownValid k A c B W h (hA.below hb hB) (Nat.le_trans hB hb.size)
  have HD := fun W => implDataFits k.o k.l k.m s false W hs (bfalse hf)
  have hval := Kn.val_eq k
  simp only [hval] at HK ⊢
  have kb0 := KB.start w 48 (.int .i64 (k.o : Int)) (.int .i64 (k.l : Int)) (.int .i64 (k.m : Int)) (.slice A k.ps.length c) (.int .i64 (k.base : Int)) (.int .i64 k.lastI)
  have hW0 := (Below.refl w.heap.size w).alloc (Nat.le_refl _) (.cells #[.int .i64 (k.o : Int), .int .i64 (k.l : Int), .int .i64 (k.m : Int), .slice A k.ps.length c, .int .i64 (k.base : Int), .int .i64 k.lastI] 48)
  replace HK := Lib.hid HK
  replace HD := Lib.hid HD
  clear hval h hA hf
  go_enter Tryz.func98, Tryz.ntmps98
  go_upto_region 1 with (fail)
  obtain ⟨w2, hw2⟩ : ∃ W, w.alloc (.cells #[.int .i64 (k.o : Int), .int .i64 (k.l : Int), .int .i64 (k.m : Int), .slice A k.ps.length c, .int .i64 (k.base : Int), .int .i64 k.lastI] 48) = W := ⟨_, rfl⟩
  rw [hw2] at kb0 hW0 ⊢
  clear hw2
  have hX := Lib.hid (fun (W : World) (hb : Below w2.heap.size w2 W) => And.intro (kb0.below hb).c (hW0.trans (hb.mono hW0.size)))
  obtain ⟨⟨q0, q1, q2, q3, q4, q5⟩, _⟩ := kb0
  have hK2 := Lib.hid (HK.out w2 hW0)
  clear hW0
  go_wp2_with fail
  refine hK2.out.mono ?_
  rintro e w3 ⟨rfl, hb3⟩
  clear q0 q1 q2 q3 q4 q5
  obtain ⟨⟨q0, q1, q2, q3, q4, q5⟩, _⟩ := hX.out _ hb3
  replace hb3 := Lib.hid hb3
  go_wp2_with fail
  refine (HD.out _).mono ?_
  rintro e w4 ⟨rfl, hb4⟩
  have hb4' := hb3.out.trans (hb4.mono hb3.out.size)
  obtain ⟨_, hW4⟩ := hX.out _ hb4'
  replace hW4 := Lib.hid hW4
  clear q0 q1 q2 q3 q4 q5 hb4 hb4' hb3
  go_wp2_with fail
  refine bodyPost_ret (v := .tuple #[.slice none 0 0, .bool false]) (by simp [results, Tryz.results98, go_sem]) rfl ?_
  exact ⟨rfl, hW4.out⟩

set_option maxHeartbeats 2000000 in
theorem implPackBits (o : Nat) (l : List UInt8) (w : World) (ho : o ≤ 1) (hl : l.length ≤ 32000) (hd : Digs l) :
    Calls Tryz.prog 130 #[.int .i64 (o : Int), .string (bsL l)] w fun e w' => e = .returned (.tuple #[.string (bsL (packL o l)), .bool true]) ∧ Below w.heap.size w w' := by
  have H1 := Lib.hid (fun W => implOrderValid (o : Int) true W (btrue (by omega)))
  have H2 := Lib.hid (fun W => implBitsValid (bsL l) W hl hd)
  have H3 := Lib.hid (fun W => implPackBytes o (bsL l) W ho (by show l.length ≤ _; omega) hd)
  obtain ⟨T, hT⟩ : ∃ T, bsL l = T := ⟨_, rfl⟩
  obtain ⟨R, hR⟩ : ∃ R, bsL (packL o l) = R := ⟨_, rfl⟩
  have e3 : bsL (packL o (bsL l).data.toList) = R := hR
  rw [e3] at H3
  rw [hT] at H2 H3
  rw [hT, hR]
  clear hT hR e3 hd hl
  go_enter Tryz.func130, Tryz.ntmps130
  go_wp2_with fail
  refine (H1.out _).mono ?_
  rintro e w1 ⟨rfl, rfl⟩
  go_wp2_with fail
  refine (H2.out _).mono ?_
  rintro e w1 ⟨rfl, rfl⟩
  go_wp2_with fail
  refine (H3.out _).mono ?_
  rintro e w1 ⟨rfl, hb⟩
  go_wp2_with fail
  refine bodyPost_ret (v := .tuple #[.string R, .bool true]) (by simp [results, Tryz.results130, go_sem]) rfl ?_
  exact ⟨rfl, hb⟩

set_option maxHeartbeats 2000000 in
theorem implPackCodes (k : Kn) (A : Option Addr) (c B : Nat) (codes : List Nat) (Ac : Option Addr) (cc : Nat) (w : World) (h : k.Fresh) (hA : k.At w B A) (hB : B ≤ w.heap.size) (hF : k.Follow codes)
    (hrow : Row w B 1 Ac codes.length (codes.map natV)) (hn : codes.length ≤ 3100) (hd : (k.data codes).length ≤ 2000) :
    Calls Tryz.prog 99 #[k.val A c, .slice Ac codes.length cc] w fun e w' => e = .returned (.tuple #[.string (bsL (packL k.o (k.bits codes))), .bool true]) ∧ Below w.heap.size w w' := by
  have HW := fun W (hb : Below w.heap.size w W) => implWalkCodes k A c B codes Ac cc W h (hA.below hb hB) (Nat.le_trans hB hb.size) hF (hrow.below hb hB) hn hd
  have hwl := hF.widths_length h.val
  have hbd := hF.bounds h.val
  have hbits := packW_length k.o codes (k.widths codes) hbd.2
  have hdg := k.bits_digs codes
  have ho := h.val.ord
  have hb0 : k.bits codes = packW k.o codes (k.widths codes) := rfl
  rw [← hb0] at hbits
  have hrow' := Lib.hid (fun (W : World) (hb : Below w.heap.size w W) => hrow.below hb hB)
  have HP := fun W => implPackBits k.o (k.bits codes) W (by omega) (by omega) hdg
  obtain ⟨n, hnn⟩ : ∃ n, codes.length = n := ⟨_, rfl⟩
  rw [hnn] at HW hrow' hwl hn hbits ⊢
  obtain ⟨ws, hws⟩ : ∃ ws, k.widths codes = ws := ⟨_, rfl⟩
  rw [hws] at HW hwl hbd hb0
  obtain ⟨bs0, hbs0⟩ : ∃ bs, k.bits codes = bs := ⟨_, rfl⟩
  rw [hbs0] at hb0 HP hbits ⊢
  obtain ⟨R, hR⟩ : ∃ R, bsL (packL k.o bs0) = R := ⟨_, rfl⟩
  rw [hR] at HP ⊢
  have hval := Kn.val_eq k
  simp only [hval] at HW ⊢
  have kb0 := KB.start w 48 (.int .i64 (k.o : Int)) (.int .i64 (k.l : Int)) (.int .i64 (k.m : Int)) (.slice A k.ps.length c) (.int .i64 (k.base : Int)) (.int .i64 k.lastI)
  have hW0 := (Below.refl w.heap.size w).alloc (Nat.le_refl _) (.cells #[.int .i64 (k.o : Int), .int .i64 (k.l : Int), .int .i64 (k.m : Int), .slice A k.ps.length c, .int .i64 (k.base : Int), .int .i64 k.lastI] 48)
  replace HW := Lib.hid HW
  replace HP := Lib.hid HP
  replace hb0 := Lib.hid hb0
  replace hbd := Lib.hid hbd
  replace hwl := Lib.hid hwl
  have hN := Lib.hid hnn
  clear hval h hA hF hrow hd hdg hnn hws hbs0 hR
  obtain ⟨o, hoo⟩ : ∃ o, k.o = o := ⟨_, rfl⟩
  rw [hoo] at HW HP hb0 kb0 hW0 ho ⊢
  clear hoo
  go_enter Tryz.func99, Tryz.ntmps99
  go_upto_region 1 with (fail)
  obtain ⟨w2, hw2⟩ : ∃ W, w.alloc (.cells #[.int .i64 (o : Int), .int .i64 (k.l : Int), .int .i64 (k.m : Int), .slice A k.ps.length c, .int .i64 (k.base : Int), .int .i64 k.lastI] 48) = W := ⟨_, rfl⟩
  rw [hw2] at kb0 hW0 ⊢
  clear hw2
  have hX := Lib.hid (fun (W : World) (hb : Below w2.heap.size w2 W) => And.intro (kb0.below hb).c (hW0.trans (hb.mono hW0.size)))
  obtain ⟨⟨q0, q1, q2, q3, q4, q5⟩, _⟩ := kb0
  have hW2 := Lib.hid (HW.out w2 hW0)
  clear hW0
  go_wp2_with fail
  refine hW2.out.mono ?_
  rintro e w3 ⟨A3, c3, rfl, hown3, hb3⟩
  have hR3 := Lib.hid (Row.of_own hown3)
  clear q0 q1 q2 q3 q4 q5 hown3 hW2
  replace hb3 := Lib.hid hb3
  go_wp2_with fail
  go_loopw [9, 23] (fun u j wr => ∃ (A' : Option Addr) (c' i m : Nat) (bs : List UInt8), u = .slice A' m c' ∧ j = .int .i64 (i : Int) ∧ i ≤ n ∧ m ≤ 10 * i ∧ Hid (bs.length = m) ∧ Hid (bs0 = bs ++ packW o (codes.drop i) (ws.drop i)) ∧ Hid (wr.ownsRow w3.heap.size 5 1 (.slice A' m c') m (bs.map byteV)) ∧ Hid (Below w3.heap.size w3 wr)) (fun _ j _ => n - (intOf j).toNat)
  case atStart => exact ⟨none, 0, 0, 0, [], rfl, rfl, Nat.zero_le _, Nat.zero_le _, Lib.hid rfl, Lib.hid (by rw [hb0.out]; rfl), Lib.hid (World.ownsRow_nil _ _ _ _), Lib.hid (Below.refl _ _)⟩
  case round =>
    obtain ⟨A', c', i, m, bs, rfl, rfl, hin, hmi, hbl, hbe, hO, hBl⟩ := hrel
    have hB2 := hb3.out.trans (hBl.out.mono hb3.out.size)
    obtain ⟨⟨q0, q1, q2, q3, q4, q5⟩, hWw⟩ := hX.out _ hB2
    by_cases hi : i < n
    · obtain ⟨x, hx⟩ : ∃ x, codes[i]? = some x := ⟨_, List.getElem?_eq_getElem (by have := hN.out; omega)⟩
      obtain ⟨wd, hwd⟩ : ∃ x, ws[i]? = some x := ⟨_, List.getElem?_eq_getElem (by have := hwl.out; omega)⟩
      have hx1 : x ≤ 1023 := hbd.out.1 x (List.mem_of_getElem? hx)
      have hwd1 : wd ≤ 10 := hbd.out.2 wd (List.mem_of_getElem? hwd)
      obtain ⟨bc, off, rfl, hbB, hcells⟩ := (hrow'.out wr hWw).2 (by omega)
      have qx : wr.cell? ⟨bc, off + i, none⟩ = some (.int .i64 (x : Int)) := hcells i _ (by rw [List.getElem?_map, hx]; rfl)
      obtain ⟨b3, off3, rfl, hbB3, hcells3⟩ := (hR3.out.below hBl.out (Nat.le_refl _)).2 (by omega)
      have qw : wr.cell? ⟨b3, off3 + i, none⟩ = some (.int .i64 (wd : Int)) := hcells3 i _ (by rw [List.getElem?_map, hwd]; rfl)
      have hbe2 : Hid (bs0 = (bs ++ codeL o x wd) ++ packW o (codes.drop (i + 1)) (ws.drop (i + 1))) := Lib.hid (by rw [hbe.out, packW_drop o codes ws i x wd hx hwd]; simp)
      have HA := Lib.hid (fun (W : World) (hW : W.ownsRow w3.heap.size 5 1 (.slice A' m c') m (bs.map byteV)) (hs : w3.heap.size ≤ W.heap.size) => implAppendBits A' c' w3.heap.size o x wd bs W (by rw [hbl.out]; exact hW) hs (by rw [hbl.out]; omega) (by omega) (by omega) (by omega))
      rw [hbl.out] at HA
      have i0 : (0 : Int) ≤ i := by omega
      have i1 : (i : Int) < n := by omega
      clear hx hwd hcells hcells3 hB2 hWw
      go_upto_region 8 with (fail)
      refine wp_region_cls_tail 9 (by kernel_rfl) (by kernel_rfl) ?_
      have c0 := clsCell q0
      have c1 := clsCell qw
      simp only [List.take_succ_cons, List.take_zero]
      repeat (go_big_quiet_step (fail))
      refine wpQuiet_nil ?_
      rintro wc ⟨⟨wc, hB⟩, rfl⟩
      simp only [List.drop_succ_cons, List.drop_zero]
      have hO2 := own_below hO.out hB (Nat.le_refl _)
      have hBl2 := Lib.hid (hBl.out.trans (hB.mono hBl.out.size))
      have hA2 := Lib.hid (HA.out wc hO2 hBl2.out.size)
      have hgx := Lib.hid (fun g (hg : (Value.slice A' m c').ownBlock = some g) => (hO2.lt g hg).1)
      clear c0 c1 q0 q1 q2 q3 q4 q5 qx qw hB hO2
      go_wp2_with fail
      refine hA2.out.mono ?_
      rintro e wd2 ⟨Ad, cd, rfl, hownd, hapd⟩
      have hBd := Lib.hid (hBl2.out.trans (hapd.out hBl2.out.size hgx.out))
      replace hownd := Lib.hid hownd
      clear hapd hA2
      have hbl2 : Hid ((bs ++ codeL o x wd).length = m + wd) := Lib.hid (by rw [List.length_append, codeL_length, hbl.out])
      go_wp2_with fail
      go_roundw
      case rel => exact ⟨Ad, cd, i + 1, m + wd, bs ++ codeL o x wd, rfl, by go_num, by omega, by omega, hbl2, hbe2, hownd, hBd⟩
      case measure => simp [intOf]; omega
    · have hin2 : i = n := by omega
      have hbe2 : bs0 = bs := by
        rw [hbe.out, List.drop_eq_nil_of_le (by rw [hN.out]; omega)]
        cases ws.drop i <;> simp [packW]
      have hO2 := hO.out
      have hcv := run_convert_own (n := m) elemByte Tryz.underlying5 Tryz.underlying9 bs (by rw [hbl.out]; exact hO2) hbl.out
      have hcb : (⟨bs.toArray⟩ : ByteArray) = bsL bs0 := by rw [hbe2]
      rw [hcb] at hcv
      have hnin : ¬ (i : Int) < n := by omega
      replace hWw := Lib.hid hWw
      replace hbe2 := Lib.hid hbe2
      clear hO2 hB2 hcb
      go_wp2_with fail
      refine (HP.out _).mono ?_
      rintro e wz ⟨rfl, hbz⟩
      have hfin := Lib.hid (hWw.out.trans (hbz.mono hWw.out.size))
      clear q0 q1 q2 q3 q4 q5 hbz
      go_wp2_with fail
      refine bodyPost_ret (v := .tuple #[.string R, .bool true]) (by simp [results, Tryz.results99, go_sem]) rfl ?_
      exact ⟨rfl, hfin.out⟩

set_option maxHeartbeats 2000000 in
theorem implCompressYes (k : Kn) (A : Option Addr) (c B : Nat) (L : List UInt8) (w : World) (h : k.Fresh) (hA : k.At w B A) (hB : B ≤ w.heap.size) (hf : dfits k.o k.l k.m L) :
    Calls Tryz.prog 69 #[k.val A c, .string (bsL L)] w fun e w' => e = .returned (.tuple #[.string (bsL (k.comp L)), .bool true]) ∧ Below w.heap.size w w' := by
  have hff := h.val.dfits.1 hf
  obtain ⟨hF, hdat, _⟩ := Kn.greedy_spec h.val hff.2
  have hgl := Kn.greedy_len h.val hff.2
  have HG := fun W (hb : Below w.heap.size w W) => implGreedyCodesYes k A c B L W h (hA.below hb hB) (Nat.le_trans hB hb.size) hf
  have HP := fun (W : World) (B' : Nat) (Ac : Option Addr) (hb : Below w.heap.size w W) (hr : Row W W.heap.size 1 Ac (k.greedy L).length ((k.greedy L).map natV)) => implPackCodes k A c W.heap.size (k.greedy L) Ac (k.greedy L).length W h ((hA.below hb hB).more (Nat.le_trans hB hb.size)) (Nat.le_refl _) hF hr (by omega) (by rw [hdat]; exact hff.1)
  have hk : packL k.o (k.bits (k.greedy L)) = k.comp L := rfl
  rw [hk] at HP
  obtain ⟨gs, hgs⟩ : ∃ gs, k.greedy L = gs := ⟨_, rfl⟩
  rw [hgs] at HG HP
  obtain ⟨n, hn⟩ : ∃ n, gs.length = n := ⟨_, rfl⟩
  rw [hn] at HG HP
  obtain ⟨R, hR⟩ : ∃ R, bsL (k.comp L) = R := ⟨_, rfl⟩
  rw [hR] at HP ⊢
  have hval := Kn.val_eq k
  simp only [hval] at HG HP ⊢
  have kb0 := KB.start w 48 (.int .i64 (k.o : Int)) (.int .i64 (k.l : Int)) (.int .i64 (k.m : Int)) (.slice A k.ps.length c) (.int .i64 (k.base : Int)) (.int .i64 k.lastI)
  have hW0 := (Below.refl w.heap.size w).alloc (Nat.le_refl _) (.cells #[.int .i64 (k.o : Int), .int .i64 (k.l : Int), .int .i64 (k.m : Int), .slice A k.ps.length c, .int .i64 (k.base : Int), .int .i64 k.lastI] 48)
  replace HG := Lib.hid HG
  replace HP := Lib.hid HP
  clear hval h hA hf hff hn hgs hR hF hdat hgl hk
  go_enter Tryz.func69, Tryz.ntmps69
  go_upto_region 1 with (fail)
  obtain ⟨w2, hw2⟩ : ∃ W, w.alloc (.cells #[.int .i64 (k.o : Int), .int .i64 (k.l : Int), .int .i64 (k.m : Int), .slice A k.ps.length c, .int .i64 (k.base : Int), .int .i64 k.lastI] 48) = W := ⟨_, rfl⟩
  rw [hw2] at kb0 hW0 ⊢
  clear hw2
  have hX := Lib.hid (fun (W : World) (hb : Below w2.heap.size w2 W) => And.intro (kb0.below hb).c (hW0.trans (hb.mono hW0.size)))
  obtain ⟨⟨q0, q1, q2, q3, q4, q5⟩, _⟩ := kb0
  have hG2 := Lib.hid (HG.out w2 hW0)
  clear hW0
  go_wp2_with fail
  refine hG2.out.mono ?_
  rintro e w3 ⟨A3, rfl, hr3, hb3⟩
  clear q0 q1 q2 q3 q4 q5
  obtain ⟨⟨q0, q1, q2, q3, q4, q5⟩, hW3⟩ := hX.out _ hb3
  have hP3 := Lib.hid (HP.out w3 0 A3 hW3 hr3)
  replace hW3 := Lib.hid hW3
  clear hr3 hb3
  go_wp2_with fail
  refine hP3.out.mono ?_
  rintro e w4 ⟨rfl, hb4⟩
  have hfin := Lib.hid (hW3.out.trans (hb4.mono hW3.out.size))
  clear q0 q1 q2 q3 q4 q5 hb4
  go_wp2_with fail
  refine bodyPost_ret (v := .tuple #[.string R, .bool true]) (by simp [results, Tryz.results69, go_sem]) rfl ?_
  exact ⟨rfl, hfin.out⟩

set_option maxHeartbeats 2000000 in
theorem implCompressNo (k : Kn) (A : Option Addr) (c B : Nat) (s : ByteArray) (w : World) (h : k.Fresh) (hA : k.At w B A) (hB : B ≤ w.heap.size) (hs : s.size ≤ 1048576) (hf : ¬ dfits k.o k.l k.m s.data.toList) :
    Calls Tryz.prog 69 #[k.val A c, .string s] w fun e w' => e = .returned (.tuple #[.string ⟨#[]⟩, .bool false]) ∧ Below w.heap.size w w' := by
  have HG := fun W (hb : Below w.heap.size w W) => implGreedyCodesNo k A c B s W h (hA.below hb hB) (Nat.le_trans hB hb.size) hs hf
  have hval := Kn.val_eq k
  simp only [hval] at HG ⊢
  have hW0 := (Below.refl w.heap.size w).alloc (Nat.le_refl _) (.cells #[.int .i64 (k.o : Int), .int .i64 (k.l : Int), .int .i64 (k.m : Int), .slice A k.ps.length c, .int .i64 (k.base : Int), .int .i64 k.lastI] 48)
  have hG2 := Lib.hid (HG _ hW0)
  replace hW0 := Lib.hid hW0
  clear hval h hA hf HG
  go_enter Tryz.func69, Tryz.ntmps69
  go_wp2_with fail
  refine hG2.out.mono ?_
  rintro e w3 ⟨rfl, hb3⟩
  have hfin := Lib.hid (hW0.out.trans (hb3.mono hW0.out.size))
  clear hb3
  go_wp2_with fail
  refine bodyPost_ret (v := .tuple #[.string ⟨#[]⟩, .bool false]) (by simp [results, Tryz.results69, go_sem]) rfl ?_
  exact ⟨rfl, hfin.out⟩

end Go.Proofs.YthlgpgaeajfchaaGreatDoor
