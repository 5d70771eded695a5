/-
 The reference's unpacking of streams, the data of containers and ResizeBlocks.
-/
import Derived.Test.YthlgpgaeajfchaaGreatPwImplRead
import Derived.Test.YthlgpgaeajfchaaGreatPwContSpec

namespace Go.Proofs.YthlgpgaeajfchaaGreat
open Go.RowKit
set_option linter.unusedVariables false
set_option linter.unusedSimpArgs false
set_option maxRecDepth 100000

set_option maxHeartbeats 2000000 in
theorem specL1Unpack (o : Nat) (L : List UInt8) (w : World) (ho : o ≤ 1) (hL : L.length ≤ 4000) :
  Calls Tryz.prog 181 #[.int .i64 (o : Int), .string (bsL L)] w fun e w' => e = .returned (.string (bsL (unpL o L))) ∧ Below w.heap.size w w' := by
 obtain ⟨n, hn⟩ : ∃ n, L.length = n := ⟨_, rfl⟩
 have hLs : (bsL L).size = n := hn
 rw [hn] at hL
 obtain ⟨i0, hi0, hz0, hz1, hz2⟩ := info_parts infoByte
 obtain ⟨c2, hc2⟩ : ∃ c2, 8 * n = c2 := ⟨_, rfl⟩
 have hmk := fun W => run_make_rowN (P := Tryz.prog) 22 5 i0 _ Tryz.underlying22 hi0 hz0 .i64 .i64 0 c2 (Nat.zero_le _) (by rw [hz2]; omega) (by omega) W
 obtain ⟨cs, hcs⟩ : ∃ cs, madeCells (Value.int .u8 0).cells (c2 * i0.size) = cs := ⟨_, rfl⟩
 have hcsz : cs.size = c2 * 1 := by rw [← hcs, hz1]; simp [madeCells]
 rw [hcs, Int.natCast_zero] at hmk
 have ec2 : 8 * (n : Int) = c2 := by omega
 have hc2m : c2 ≤ 32000 := by omega
 have HO := Lib.hid (own_made w cs c2 w.heap.size 1 5 (Nat.le_refl _) (by unfold maxLen; omega) hcsz)
 have HN := Lib.hid hn
 clear hcs hcsz hi0 hz0 hz1 hz2 hc2 hn
 go_enter Tryz.func181, Tryz.ntmps181
 go_wp2_with fail
 clear ec2 hmk
 go_loopw [5, 6] (fun v i wr => ∃ (A' : Option Addr) (c' k m : Nat) (bs : List UInt8), v = .slice A' m c' ∧ i = .int .i64 (k : Int) ∧ k ≤ n ∧ m ≤ 8 * k ∧ Hid (bs.length = m) ∧ Hid (unpL o L = bs ++ unpL o (L.drop k)) ∧ Hid (wr.ownsRow w.heap.size 5 1 (.slice A' m c') m (bs.map byteV)) ∧ Hid (Below w.heap.size w wr)) (fun _ i _ => n - (intOf i).toNat)
 case atStart => exact ⟨_, _, 0, 0, [], rfl, rfl, Nat.zero_le _, Nat.zero_le _, Lib.hid rfl, Lib.hid rfl, HO, Lib.hid ((Below.refl _ _).alloc (Nat.le_refl _) _)⟩
 case round =>
  obtain ⟨A', c', k, m, bs, rfl, rfl, hk, hmk, hbl, hbe, hO, hB⟩ := hrel
  by_cases hlt : k < n
  ·have hkl : k < L.length := by rw [HN.out]; exact hlt
   have hks : k < (bsL L).size := by rw [hLs]; exact hlt
   obtain ⟨x, hx⟩ : ∃ x, ((bsL L)[k]'hks).toNat = x := ⟨_, rfl⟩
   have hx2 : x < 256 := by rw [← hx]; exact UInt8.toNat_lt _
   have hxL : L[k].toNat = x := by rw [← hx, bsL_at hks hkl]
   have hbe2 : Hid (unpL o L = (bs ++ codeL o x 8) ++ unpL o (L.drop (k + 1))) := Lib.hid (by
    rw [hbe.out, List.drop_eq_getElem_cons hkl]
    have : unpL o (L[k] :: L.drop (k + 1)) = codeL o L[k].toNat 8 ++ unpL o (L.drop (k + 1)) := rfl
    rw [this, hxL]; simp)
   have HA := Lib.hid (fun W => specL1Code o x 8 W (by omega) (by omega) ho)
   have hcl : (codeL o x 8).length = 8 := codeL_length _ _ _
   obtain ⟨D, hD⟩ : ∃ D, codeL o x 8 = D := ⟨_, rfl⟩
   rw [hD] at HA hbe2 hcl
   obtain ⟨T, hT⟩ : ∃ T, bsL D = T := ⟨_, rfl⟩
   have hTl : T.data.toList = D := by rw [← hT]
   have hTs : T.size = 8 := by rw [← hT]; exact hcl
   rw [hT] at HA
   replace hTl := Lib.hid hTl
   have hgx := Lib.hid (fun g (hg : (Value.slice A' m c').ownBlock = some g) => (hO.out.lt g hg).1)
   have i1 : (0 : Int) ≤ k := by omega
   have i2 : (k : Int) < n := by omega
   have hbl2 : Hid ((bs ++ D).length = m + 8) := Lib.hid (by rw [List.length_append, hcl, hbl.out])
   clear hxL hkl hD hT hcl
   go_wp2_with fail
   refine (HA.out _).mono ?_
   rintro e w2 ⟨rfl, hb2⟩
   have hO2 := own_below hO.out hb2 (Nat.le_refl _)
   have hB2 := Lib.hid (hB.out.trans (hb2.mono hB.out.size))
   have hs2 := hB2.out.size
   clear hb2
   go_wp2_with (first
    | (at_builtin; refine wpList_append_str elemByte Tryz.underlying9 rfl (.tmp 17) (.tmp 23) rfl w.heap.size _ _ _ rfl hO2 T rfl (by omega) (by omega) ?_))
   intro v3 w3 hv3 hg3 _
   obtain ⟨A3, c3, rfl, _, _⟩ := own_form hv3
   rw [hTl.out] at hv3
   have hB3 := Lib.hid (hB2.out.grown hg3 hs2 hgx.out)
   have hO3 : Hid (w3.ownsRow w.heap.size 5 1 (.slice A3 (m + 8) c3) (m + 8) ((bs ++ D).map byteV)) := Lib.hid (by rw [List.map_append]; exact hv3)
   clear hv3 hg3 hO2
   go_wp2_with fail
   go_roundw
   case rel => exact ⟨A3, c3, k + 1, m + 8, bs ++ D, rfl, by go_num, by omega, by omega, hbl2, hbe2, hO3, hB3⟩
   case measure => simp [intOf]; omega
  ·have hfin : unpL o L = bs := by
    rw [hbe.out, List.drop_eq_nil_of_le (by rw [HN.out]; omega)]
    simp [unpL]
   have hO2 := hO.out
   have hcv := run_convert_own (n := m) elemByte Tryz.underlying5 Tryz.underlying9 bs (by rw [hbl.out]; exact hO2) hbl.out
   have hnk : ¬ (k : Int) < n := by omega
   replace hfin := Lib.hid hfin
   clear hO2
   go_wp2_with fail
   go_ret
   exact ⟨by rw [hfin.out]; rfl, hB.out⟩

theorem Row.grownO {w w' : World} {B size n : Nat} {A : Option Addr} {xs : List Value} {row : Option Nat} (h : Row w B size A n xs) (hB : B ≤ w.heap.size) (hg : w.grownBy w' row) (hne : 0 < n → ∀ b off, A = some ⟨b, off, none⟩ → row ≠ some b) : Row w' B size A n xs := by
 refine ⟨h.1, fun hn => ?_⟩
 obtain ⟨b, off, rfl, hb, hc⟩ := h.2 hn
 exact ⟨b, off, rfl, hb, fun j v hj => hg.cell (hc j v hj) (fun e => hne hn b off rfl e.symm)⟩

structure UnM (k : Kn) (w0 : World) (H : Nat) (k' : Kn) (A : Option Addr) (c : Nat) (cs : List Nat) (v1 : Value) (w : World) : Prop where
 box : KB w H (.int .i64 (k.o : Int)) (.int .i64 (k.l : Int)) (.int .i64 (k.m : Int)) (.slice A k'.ps.length c) (.int .i64 (k.base : Int)) (.int .i64 k'.lastI)
 at_ : k'.At w w.heap.size A
 far : 0 < k'.ps.length → ∀ b off, A = some ⟨b, off, none⟩ → b ≠ H ∧ v1.ownBlock ≠ some b
 cap : k'.ps.length ≤ c
 o1 : w.ownsRow (H + 1) 3 1 v1 cs.length (cs.map natV)
 bel : Below H w0 w

section
variable {k : Kn} {w0 : World} {H : Nat} {k' : Kn} {A : Option Addr} {c : Nat} {cs : List Nat} {v1 : Value} {w w' : World}

theorem UnM.lt (h : UnM k w0 H k' A c cs v1 w) : H < w.heap.size := h.box.lt

theorem UnM.below (h : UnM k w0 H k' A c cs v1 w) (hb : Below w.heap.size w w') : UnM k w0 H k' A c cs v1 w' :=
 ⟨h.box.below hb, Row.more (Row.below h.at_ hb (Nat.le_refl _)) hb.size, h.far, h.cap, own_below h.o1 hb (Nat.le_refl _), h.bel.trans (hb.mono (Nat.le_of_lt h.lt))⟩

theorem UnM.pushC (h : UnM k w0 H k' A c cs v1 w) {v1' : Value} {o : Obj} {y : Nat} (hv : w'.ownsRow (H + 1) 3 1 v1' (cs.length + 1) (cs.map natV ++ [.int .i64 (y : Int)])) (hg : (w.alloc o).grownBy w' v1.ownBlock) (hat : v1'.ownBlock = v1.ownBlock ∨ v1'.ownBlock = some (w.heap.size + 1)) :
  UnM k w0 H k' A c (cs ++ [y]) v1' w' := by
 have hlt := h.lt
 have h1 : ∀ g, v1.ownBlock = some g → H + 1 ≤ g := fun g hg => (h.o1.lt g hg).1
 have hsz := hg.size
 rw [World.size_alloc] at hsz
 refine ⟨(h.box.alloc o).grown hg (fun e => by have := h1 _ e; omega), ?_, fun hn b off e => ⟨(h.far hn b off e).1, fun e2 => ?_⟩, h.cap, ?_, ?_⟩
 ·have h2 : Row (w.alloc o) w.heap.size 2 A k'.ps.length (cellsP k'.ps) := Row.alloc h.at_ (Nat.le_refl _) o
  exact Row.more (Row.grownO h2 (by simp) hg (fun hn b off e => (h.far hn b off e).2)) (by omega)
 ·rcases hat with h3 | h3
  ·rw [h3] at e2; exact (h.far hn b off e).2 e2
  ·rw [h3] at e2
   injection e2 with e2
   obtain ⟨b', off', e3, hb3, _⟩ := h.at_.2 hn
   rw [e] at e3
   injection e3 with e3
   injection e3 with e3
   omega
 ·rw [List.length_append, List.map_append]; exact hv
 ·exact (h.bel.alloc (Nat.le_of_lt hlt) o).grown hg (by simp; omega) (fun g e => by have := h1 _ e; omega)

theorem UnM.setK (h : UnM k w0 H k' A c cs v1 w) {k2 : Kn} {A2 : Option Addr} {c2 : Nat} (hb : Below w.heap.size w w') (hown : k2.Own w' w.heap.size A2 c2) :
  UnM k w0 H k2 A2 c2 cs v1 (set6 w' H (.int .i64 (k.o : Int)) (.int .i64 (k.l : Int)) (.int .i64 (k.m : Int)) (.slice A2 k2.ps.length c2) (.int .i64 (k.base : Int)) (.int .i64 k2.lastI)) := by
 have hlt := h.lt
 have hS := (Keep.refl (fun g => g = H) w').set6 (H := H) rfl (.int .i64 (k.o : Int)) (.int .i64 (k.l : Int)) (.int .i64 (k.m : Int)) (.slice A2 k2.ps.length c2) (.int .i64 (k.base : Int)) (.int .i64 k2.lastI)
 have hnew := hown.new
 have ho := own_keep (own_below h.o1 hb (Nat.le_refl _)) hS (fun g e1 e2 => by have := (h.o1.lt g e1).1; omega)
 have hk2 := own_keep hown hS (fun g e1 e2 => by have := (World.ownsRow.lt hown g e1).1; omega)
 refine ⟨(h.box.below hb).set _ _ _ _ _ _, Row.of_own hk2, fun hn b off e => ⟨by have := hnew hn b off e; omega, fun e2 => by have := hnew hn b off e; have := (h.o1.lt b e2).2; omega⟩, hown.cap, ho, ?_⟩
 exact below_set6 (h.bel.trans (hb.mono (Nat.le_of_lt hlt))) (Nat.le_refl _) _ _ _ _ _ _

end

set_option maxHeartbeats 2000000 in
theorem specUnpackCodes (k : Kn) (A : Option Addr) (c B : Nat) (L : List UInt8) (w : World) (h : k.Fresh) (hA : k.At w B A) (hB : B ≤ w.heap.size) (hcap : k.ps.length ≤ c) (hL : L.length ≤ 4000) :
  Calls Tryz.prog 161 #[k.val A c, .string (bsL L)] w fun e w' => ∃ A' c', e = .returned (.tuple #[.slice A' (k.unpack L).codes.length c', .int .i64 ((k.unpack L).fin : Int), .int .i64 (k.used L : Int)]) ∧ w'.ownsRow w.heap.size 3 1 (.slice A' (k.unpack L).codes.length c') (k.unpack L).codes.length ((k.unpack L).codes.map natV) ∧ Below w.heap.size w w' := by
 have hord := h.val.ord
 have hl8 := h.val.lit8
 have HC := fun W => specL1Clear k.o k.l k.m W (by omega)
 unfold setV at HC
 have hz : 2 ^ k.l = k.clear := rfl
 rw [hz] at HC
 have HE := fun W => specL1End k.o k.l k.m W (by omega)
 have hz3 : 2 ^ k.l + 1 = k.fin := rfl
 rw [hz3] at HE
 have hpw := h.val.pow
 have hfe := k.fin_eq
 have HK := fun (W : World) (hb : Below w.heap.size w W) => specKnownValid k A c B W h (hA.below hb hB) (Nat.le_trans hB hb.size)
 have HU := fun W => specL1Unpack k.o L W (by omega) hL
 have hdg : Digs (unpL k.o L) := unpL_digs _ _
 have hBl : (unpL k.o L).length = 8 * L.length := unpL_length _ _
 have hun : k.unpack L = unF (unpL k.o L) 3100 k 0 0 [] := rfl
 have hus : k.used L = if (unF (unpL k.o L) 3100 k 0 0 []).fin = 1 then L.length else ((unF (unpL k.o L) 3100 k 0 0 []).bits + 7) / 8 := rfl
 rw [hun, hus]
 clear hun hus
 obtain ⟨Bt, hBt⟩ : ∃ Bt, unpL k.o L = Bt := ⟨_, rfl⟩
 rw [hBt] at HU hdg hBl ⊢
 have HNm := fun (s : List UInt8) (W : World) (hs : s.length ≤ 20) (hd : Digs s) => specL1Number k.o (bsL s) W (by omega) hs hd
 obtain ⟨N, hNn⟩ : ∃ N, Bt.length = N := ⟨_, rfl⟩
 have hBs : (bsL Bt).size = N := hNn
 obtain ⟨NL, hNL⟩ : ∃ N, L.length = N := ⟨_, rfl⟩
 have hLs : (bsL L).size = NL := hNL
 rw [hNn, hNL] at hBl
 rw [hNL] at hL
 have hl : N ≤ 32000 := by omega
 obtain ⟨z, hz2⟩ : ∃ z, k.clear = z := ⟨_, rfl⟩
 obtain ⟨fi, hfin⟩ : ∃ z, k.fin = z := ⟨_, rfl⟩
 have hzb : z ≤ 256 := by omega
 have hfib : fi ≤ 300 ∧ z < fi := by omega
 obtain ⟨hfib, hzfi⟩ := hfib
 rw [hz2] at HC
 rw [hfin] at HE
 have hval := Kn.val_eq k
 simp only [hval] at HK ⊢
 obtain ⟨u, hu0⟩ : ∃ u, unF Bt 3100 k 0 0 [] = u := ⟨_, rfl⟩
 rw [hu0, hNL]
 obtain ⟨us, hus⟩ : ∃ us, (if u.fin = 1 then NL else (u.bits + 7) / 8) = us := ⟨_, rfl⟩
 rw [hus]
 replace hus := Lib.hid hus
 replace hBl := Lib.hid hBl
 have g1 : decide ((4000 : Int) < NL) = false := decide_eq_false (by omega)
 have g2 : decide (4000 < NL) = false := decide_eq_false (by omega)
 have kb0 := KB.start w 74 (.int .i64 (k.o : Int)) (.int .i64 (k.l : Int)) (.int .i64 (k.m : Int)) (.slice A k.ps.length c) (.int .i64 (k.base : Int)) (.int .i64 k.lastI)
 have hM0 : UnM k w w.heap.size k A c [] (.slice (some ⟨w.heap.size + 1, 0, none⟩) 0 0) ((w.alloc (.cells #[.int .i64 (k.o : Int), .int .i64 (k.l : Int), .int .i64 (k.m : Int), .slice A k.ps.length c, .int .i64 (k.base : Int), .int .i64 k.lastI] 74)).alloc (.cells #[] 3)) := by
  have hal := ((Below.refl w.heap.size w).alloc (Nat.le_refl _) (.cells #[.int .i64 (k.o : Int), .int .i64 (k.l : Int), .int .i64 (k.m : Int), .slice A k.ps.length c, .int .i64 (k.base : Int), .int .i64 k.lastI] 74)).alloc (by simp) (.cells #[] 3)
  refine ⟨kb0.alloc _, Row.more (Row.below hA hal hB) (by simp; omega), fun hn b off e => ?_, hcap, ?_, hal⟩
  ·obtain ⟨b', off', e3, hb3, _⟩ := hA.2 hn
   rw [e] at e3
   injection e3 with e3
   injection e3 with e3
   refine ⟨by omega, fun e4 => ?_⟩
   injection e4 with e4
   have e5 : w.heap.size + 1 = b := e4
   omega
  ·have := World.ownsRow_lit (base := w.heap.size + 1) (size := 1) (e := 3) (w.alloc (.cells #[.int .i64 (k.o : Int), .int .i64 (k.l : Int), .int .i64 (k.m : Int), .slice A k.ps.length c, .int .i64 (k.base : Int), .int .i64 k.lastI] 74)) #[] 0 (by simp) (by unfold maxLen; omega) rfl
   rw [World.size_alloc] at this
   exact this
 have hK0 := Lib.hid (fun (W : World) (hW : Below w.heap.size w W) => HK W hW)
 replace hM0 := Lib.hid hM0
 replace HC := Lib.hid HC
 replace HE := Lib.hid HE
 replace HU := Lib.hid HU
 replace HNm := Lib.hid HNm
 replace hdg := Lib.hid hdg
 have hz2' := Lib.hid hz2
 have hfin' := Lib.hid hfin
 have h' := Lib.hid h
 have hNn' := Lib.hid hNn
 have hu0' := Lib.hid hu0
 clear hz hz3 hpw hfe hA hz2 hfin hval h hord kb0 hNn hNL hBt HK hl8 hu0
 go_enter Tryz.func161, Tryz.ntmps161
 go_upto_region 4 with (fail)
 obtain ⟨w2, hw2⟩ : ∃ W, (w.alloc (.cells #[.int .i64 (k.o : Int), .int .i64 (k.l : Int), .int .i64 (k.m : Int), .slice A k.ps.length c, .int .i64 (k.base : Int), .int .i64 k.lastI] 74)).alloc (.cells #[] 3) = W := ⟨_, rfl⟩
 rw [hw2] at hM0 ⊢
 clear hw2
 obtain ⟨⟨q0, q1, q2, q3, q4, q5⟩, _⟩ := hM0.out.box
 have hK2 := Lib.hid (hK0.out w2 hM0.out.bel)
 go_wp2_with fail
 refine hK2.out.mono ?_
 rintro e w3 ⟨rfl, hb3⟩
 have hM3 := Lib.hid (hM0.out.below hb3)
 clear q0 q1 q2 q3 q4 q5 hb3 hM0 hK2 hK0
 obtain ⟨⟨q0, q1, q2, q3, q4, q5⟩, _⟩ := hM3.out.box
 go_wp2_with fail
 refine (HU.out _).mono ?_
 rintro e w4 ⟨rfl, hb4⟩
 have hM4 := Lib.hid (hM3.out.below hb4)
 clear q0 q1 q2 q3 q4 q5 hb4 hM3 HU
 go_wp2_with fail
 go_loopw [7, 8, 9] (fun v t s wr => ∃ (k' : Kn) (A' : Option Addr) (c' p i m f : Nat) (acc : List Nat) (ds : List UInt8) (A1 : Option Addr) (c1 : Nat), v = .slice A1 i c1 ∧ t = .int .i64 (p : Int) ∧ s = .int .i64 (m : Int) ∧ p ≤ N ∧ Hid (acc.length = i) ∧ Hid (ds.length = m) ∧ Hid (RdS k Bt k' p acc ds f) ∧ Hid (UnM k w w.heap.size k' A' c' acc (.slice A1 i c1) wr)) (fun _ t _ _ => N - (intOf t).toNat)
 case atStart => exact ⟨k, A, c, 0, 0, 0, 3099, [], [], _, _, rfl, rfl, rfl, Nat.zero_le _, Lib.hid rfl, Lib.hid rfl, Lib.hid (RdS.start h'.out.val Bt), hM4⟩
 case round =>
  clear hM4
  obtain ⟨k', A', c', p, i, m, f, acc, ds, A1, c1, rfl, rfl, rfl, hp, hai, hdm, hS, hM⟩ := hrel
  have hv' := hS.out.val
  have hlk := hS.out.like
  have hwd10 := Kn.width_le hv'
  have hm10 := hv'.most10
  have HWd := fun W => specL2Width k' A' c' W hv'
  rw [hlk.val] at HWd
  obtain ⟨wd, hwd⟩ : ∃ z, k'.width = z := ⟨_, rfl⟩
  rw [hwd] at HWd hwd10
  have hwd1 := hwd10.1
  have hwdb : wd ≤ 10 := by omega
  replace HWd := Lib.hid HWd
  obtain ⟨⟨q0, q1, q2, q3, q4, q5⟩, _⟩ := hM.out.box
  obtain ⟨pw, hpw⟩ : ∃ pw, p + wd = pw := ⟨_, rfl⟩
  have hpwi : (p : Int) + wd = pw := by omega
  have wpw : IntKind.i64.wrap (pw : Int) = pw := IntWalk.i64_in _ (by omega)
  have hm2000 : m ≤ 2000 := by have := hS.out.len; have := hdm.out; omega
  have hi31 : i + 1 ≤ 3100 := by have := hS.out.cnt; have := hai.out; omega
  by_cases hshort : N < pw
  ·have g3 : decide ((pw : Int) ≤ N) = false := decide_eq_false (by omega)
   have g4 : decide (pw ≤ N) = false := decide_eq_false (by omega)
   have hu : Hid (u = ⟨acc, 1, p⟩) := Lib.hid (by rw [← hu0'.out, hS.out.run, unF, hwd, if_pos (by rw [hNn'.out]; omega)])
   replace hpw := Lib.hid hpw
   replace hwd := Lib.hid hwd
   clear hv' hlk hwd10 hm10
   go_wp2_with fail
   refine (HWd.out _).mono ?_
   rintro e w7 ⟨rfl, hb7⟩
   have M7 := Lib.hid (hM.out.below hb7)
   clear q0 q1 q2 q3 q4 q5 hb7 hM
   go_wp2_with fail
   refine bodyPost_ret (v := .tuple #[.slice A1 i c1, .int .i64 1, .int .i64 (NL : Int)]) (by simp [results, Tryz.results161, go_sem]) rfl ?_
   have e9 : us = NL := by rw [← hus.out, hu.out]; rfl
   rw [e9, hu.out]
   refine ⟨A1, c1, by show Ending.returned (.tuple #[.slice A1 i c1, .int .i64 1, .int .i64 (NL : Int)]) = Ending.returned (.tuple #[.slice A1 acc.length c1, .int .i64 1, .int .i64 (NL : Int)]); rw [hai.out], ?_, M7.out.bel⟩
   show World.ownsRow _ _ _ _ (.slice A1 acc.length c1) acc.length _
   have ho := M7.out.o1
   rw [hai.out] at ho ⊢
   exact own_base ho (by omega)
  ·have g3 : decide ((pw : Int) ≤ N) = true := decide_eq_true (by omega)
   have g4 : decide (pw ≤ N) = true := decide_eq_true (by omega)
   have hpwN : pw ≤ N := by omega
   obtain ⟨x, hx⟩ : ∃ x, k'.peek Bt p = x := ⟨_, rfl⟩
   have hxn : numO k.o ((Bt.drop p).take wd) = x := by rw [← hx]; unfold Kn.peek; rw [hwd, hlk.o]
   have hsl : (bsL Bt).extract p pw = bsL ((Bt.drop p).take wd) := by rw [bsL_part, show pw - p = wd by omega]
   have HN2 := fun W => HNm.out ((Bt.drop p).take wd) W (by rw [List.length_take]; omega) (digs_take (digs_drop hdg.out p) wd)
   have hdl : (bsL ((Bt.drop p).take wd)).data.toList = (Bt.drop p).take wd := rfl
   simp only [hxn] at HN2
   have hx2 : x < 2 ^ wd := by
    rw [← hxn]
    exact numO_lt k.o wd (by rw [List.length_take, List.length_drop, hNn'.out]; omega) (digs_take (digs_drop hdg.out p) wd)
   have hx1024 : x < 1024 := Nat.lt_of_lt_of_le hx2 (Nat.pow_le_pow_right (by omega) hwdb)
   obtain ⟨X, hX⟩ : ∃ X, bsL ((Bt.drop p).take wd) = X := ⟨_, rfl⟩
   rw [hX] at hsl HN2
   have hrun : Hid (u = if x = fi then ⟨acc ++ [x], 0, pw⟩ else if x ≠ z ∧ ¬ k'.can x then ⟨acc, 2, pw⟩ else if 2000 < m + (if x = z then 0 else (k'.any x).length) then ⟨acc, 3, pw⟩ else unF Bt f (k'.step x) pw (m + (if x = z then 0 else (k'.any x).length)) (acc ++ [x])) := Lib.hid (by
    rw [← hu0'.out, hS.out.run, unF, hwd, hx, if_neg (by rw [hNn'.out]; omega), hpw, hlk.fin, hfin'.out, hlk.clear, hz2'.out, hdm.out])
   obtain ⟨p7, hp7⟩ : ∃ x, pw + 7 = x := ⟨_, rfl⟩
   have hp7i : (pw : Int) + 7 = p7 := by omega
   have wp7 : IntKind.i64.wrap (p7 : Int) = p7 := IntWalk.i64_in _ (by omega)
   obtain ⟨q8, hq8⟩ : ∃ x, p7 / 8 = x := ⟨_, rfl⟩
   have hq8i : Int.tdiv (p7 : Int) 8 = (q8 : Int) := by rw [← hq8]; rfl
   have hq8j : (p7 : Int) / 8 = (q8 : Int) := by omega
   have wq8 : IntKind.i64.wrap (q8 : Int) = q8 := IntWalk.i64_in _ (by omega)
   have hused : Hid ((pw + 7) / 8 = q8) := Lib.hid (by rw [hp7]; exact hq8)
   replace HN2 := Lib.hid HN2
   have hp0 : (0 : Int) ≤ p := by omega
   have hppw : (p : Int) ≤ pw := by omega
   have hpwN2 : (pw : Int) ≤ N := by omega
   have hmeas : N - pw < N - p := by omega
   replace hpw := Lib.hid hpw
   replace hwd := Lib.hid hwd
   replace hx := Lib.hid hx
   replace hv' := Lib.hid hv'
   replace hlk := Lib.hid hlk
   replace hmeas := Lib.hid hmeas
   replace hp7 := Lib.hid hp7
   replace hq8 := Lib.hid hq8
   clear hwd10 hm10 hxn hdl hx2 hX hshort
   go_wp2_with fail
   refine (HWd.out _).mono ?_
   rintro e w7 ⟨rfl, hb7⟩
   have M7 := Lib.hid (hM.out.below hb7)
   clear q0 q1 q2 q3 q4 q5 hb7 hM
   obtain ⟨⟨q0, q1, q2, q3, q4, q5⟩, _⟩ := M7.out.box
   go_upto_region 8 with (fail)
   have c0 := clsCell q0
   have c1' := clsCell q1
   have c2 := clsCell q2
   have c3 := clsCell q3
   have c4 := clsCell q4
   have c5 := clsCell q5
   refine wp_region_cls (by kernel_rfl) (by kernel_rfl) ?_
   repeat (go_big_quiet_step (first | (go_at_call 182; exact clsCall (HWd.out _)) | (go_at_call 183; exact clsSame (HN2.out _))))
   refine wpQuiet_nil ?_
   rintro w8 ⟨⟨w8, hB8⟩, rfl⟩
   have M8 := Lib.hid (M7.out.below hB8)
   clear q0 q1 q2 q3 q4 q5 c0 c1' c2 c3 c4 c5 hB8 M7
   obtain ⟨⟨q0, q1, q2, q3, q4, q5⟩, _⟩ := M8.out.box
   go_wp2_with fail
   refine (HWd.out _).mono ?_
   rintro e w9 ⟨rfl, hb9⟩
   have M9 := Lib.hid (M8.out.below hb9)
   clear q0 q1 q2 q3 q4 q5 hb9 M8
   obtain ⟨⟨q0, q1, q2, q3, q4, q5⟩, _⟩ := M9.out.box
   have e1 : ((x : Int) == (fi : Int)) = decide (x = fi) := by rw [Bool.eq_iff_iff]; simp [Int.ofNat_inj]
   have e2 : decide ((x : Int) = (fi : Int)) = decide (x = fi) := by rw [Bool.eq_iff_iff]; simp [Int.ofNat_inj]
   have e3 : (x == fi) = decide (x = fi) := by rw [Bool.eq_iff_iff]; simp
   have ez1 : ((x : Int) != (z : Int)) = decide (x ≠ z) := by rw [Bool.eq_iff_iff]; simp [Int.ofNat_inj]
   have ez2 : (x != z) = decide (x ≠ z) := by rw [Bool.eq_iff_iff]; simp
   by_cases hxf : x = fi
   ·rw [decide_eq_true hxf] at e1 e2 e3
    have hu : Hid (u = ⟨acc ++ [x], 0, pw⟩) := Lib.hid (by rw [hrun.out, if_pos hxf])
    replace hxf := Lib.hid hxf
    clear hrun
    go_wp2_with fail
    refine (HE.out _).mono ?_
    rintro e w10 ⟨rfl, hb10⟩
    have M10 := Lib.hid (M9.out.below hb10)
    clear q0 q1 q2 q3 q4 q5 hb10 M9
    have ownC := M10.out.o1
    rw [hai.out] at ownC
    have hsc : w.heap.size + 1 ≤ w10.heap.size := M10.out.lt
    go_wp2_with (first
     | (at_builtin; refine wpList_append_row _ elemInt rfl (.tmp 54) (.tmp 56) rfl (w.heap.size + 1) _ _ _ rfl (ownC.alloc _) _ _ 1 1 [.int .i64 (x : Int)] rfl (Row.newAt _ _ rfl _ [.int .i64 (x : Int)] 1 1 rfl) ?_ ?_ ?_ ?_ ?_))
    ·first | rfl | (intro z hz; simp at hz; subst hz; rfl)
    ·unfold maxLen; omega
    ·omega
    ·first | omega | (simp; omega)
    ·intro vc wc hvc hgc hatc
     obtain ⟨Ac, cc, rfl, _, _⟩ := own_form hvc
     have M11 := Lib.hid (M10.out.pushC (y := x) (by rw [hai.out]; exact hvc) hgc (by simpa using hatc))
     have hov := Lib.hid hvc
     clear hvc hgc hatc ownC M10
     go_wp2_with fail
     refine bodyPost_ret (v := .tuple #[.slice Ac (i + 1) cc, .int .i64 0, .int .i64 (q8 : Int)]) (by simp [results, Tryz.results161, go_sem]) rfl ?_
     have e9 : us = q8 := by rw [← hus.out, hu.out, ← hused.out]; rfl
     rw [e9, hu.out]
     have hlen : (acc ++ [x]).length = i + 1 := by rw [List.length_append, hai.out]; rfl
     refine ⟨Ac, cc, by show Ending.returned (.tuple #[.slice Ac (i + 1) cc, .int .i64 0, .int .i64 (q8 : Int)]) = Ending.returned (.tuple #[.slice Ac (acc ++ [x]).length cc, .int .i64 0, .int .i64 (q8 : Int)]); rw [hlen], ?_, M11.out.bel⟩
     show World.ownsRow _ _ _ _ (.slice Ac (acc ++ [x]).length cc) (acc ++ [x]).length ((acc ++ [x]).map natV)
     rw [hlen, List.map_append]
     exact own_base hov.out (by omega)
   ·rw [decide_eq_false hxf] at e1 e2 e3
    by_cases hxc : x = z
    ·rw [decide_eq_false (fun hh : x ≠ z => hh hxc)] at ez1 ez2
     have hg : k'.goes x := Or.inl (by rw [hlk.out.clear, hz2'.out]; exact hxc)
     have hnext : Hid (k'.peek Bt p = x ∧ p + k'.width = pw ∧ p + k'.width ≤ Bt.length ∧ k'.goes (k'.peek Bt p) ∧ ds.length + (if k'.peek Bt p = k'.clear then 0 else (k'.any (k'.peek Bt p)).length) ≤ 2000 ∧ (if k'.peek Bt p = k'.clear then ([] : List UInt8) else k'.any (k'.peek Bt p)) = []) := Lib.hid (by
      have h1 : k'.peek Bt p = x := hx.out
      have h2 : p + k'.width = pw := by rw [hwd.out]; exact hpw.out
      have h3 : x = k'.clear := by rw [hlk.out.clear, hz2'.out]; exact hxc
      rw [h1, if_pos h3, if_pos h3]
      exact ⟨rfl, h2, by rw [h2, hNn'.out]; omega, hg, by have := hdm.out; omega, rfl⟩)
     replace hxf := Lib.hid hxf
     replace hxc := Lib.hid hxc
     replace hg := Lib.hid hg
     have g5 : decide ((2000 : Int) < m) = false := decide_eq_false (by omega)
     have g6 : decide (2000 < m) = false := decide_eq_false (by omega)
     clear hrun
     go_wp2_with fail
     refine (HE.out _).mono ?_
     rintro e w10 ⟨rfl, hb10⟩
     have M10 := Lib.hid (M9.out.below hb10)
     clear q0 q1 q2 q3 q4 q5 hb10 M9
     obtain ⟨⟨q0, q1, q2, q3, q4, q5⟩, _⟩ := M10.out.box
     go_wp2_with fail
     refine (HC.out _).mono ?_
     rintro e w11 ⟨rfl, hb11⟩
     have M11 := Lib.hid (M10.out.below hb11)
     clear q0 q1 q2 q3 q4 q5 hb11 M10
     have ownC := M11.out.o1
     rw [hai.out] at ownC
     have hsc : w.heap.size + 1 ≤ w11.heap.size := M11.out.lt
     go_wp2_with (first
      | (at_builtin; refine wpList_append_row _ elemInt rfl (.tmp 86) (.tmp 88) rfl (w.heap.size + 1) _ _ _ rfl (ownC.alloc _) _ _ 1 1 [.int .i64 (x : Int)] rfl (Row.newAt _ _ rfl _ [.int .i64 (x : Int)] 1 1 rfl) ?_ ?_ ?_ ?_ ?_))
     ·first | rfl | (intro z hz; simp at hz; subst hz; rfl)
     ·unfold maxLen; omega
     ·omega
     ·first | omega | (simp; omega)
     ·intro vc wc hvc hgc hatc
      obtain ⟨Ac, cc, rfl, _, _⟩ := own_form hvc
      have N1 := Lib.hid (M11.out.pushC (y := x) (by rw [hai.out]; exact hvc) hgc (by simpa using hatc))
      have hai2 : Hid ((acc ++ [x]).length = i + 1) := Lib.hid (by rw [List.length_append, hai.out]; rfl)
      clear hvc hgc hatc ownC M11
      obtain ⟨⟨q0, q1, q2, q3, q4, q5⟩, _⟩ := N1.out.box
      have HSt := specL2Step k' A' c' wc.heap.size x wc hv'.out N1.out.at_ (Nat.le_refl _) N1.out.cap hg.out
      have hlk2 := hlk.out.trans (k'.like_step x)
      obtain ⟨k2, hk2⟩ : ∃ k2, k'.step x = k2 := ⟨_, rfl⟩
      rw [hk2] at HSt hlk2
      simp only [hlk.out.val, hlk2.val] at HSt
      replace HSt := Lib.hid HSt
      replace hk2 := Lib.hid hk2
      clear hlk2
      go_wp2_with fail
      refine HSt.out.mono ?_
      rintro e wd2 ⟨A8, c8, rfl, hown8, hb8⟩
      have N2 := Lib.hid (N1.out.setK hb8 hown8)
      have kb8 := N1.out.box.below hb8
      clear q0 q1 q2 q3 q4 q5 hown8 hb8 HSt N1
      obtain ⟨⟨q0, q1, q2, q3, q4, q5⟩, z0, z1, z2, z3, z4, z5⟩ := kb8
      unfold set6 at N2
      have wi1 : IntKind.i64.wrap ((i : Int) + 1) = (i : Int) + 1 := IntWalk.i64_in _ (by omega)
      by_cases hfull : i + 1 = 3100
      ·have f1 : ((i : Int) + 1 == 3100) = true := by rw [beq_iff_eq]; omega
       have f2 : decide ((i : Int) + 1 = 3100) = true := decide_eq_true (by omega)
       have f3 : (i : Int) + 1 = 3100 := by omega
       have hf0 : f = 0 := by have := hS.out.cnt; have := hai.out; omega
       have hfu := (show RdS k Bt k' p acc ds 0 from hf0 ▸ hS.out).full hnext.out.2.2.1 hnext.out.2.2.2.1 hnext.out.2.2.2.2.1
       rw [hnext.out.2.1, hnext.out.1] at hfu
       have hu : Hid (u = ⟨acc ++ [x], 3, pw⟩) := Lib.hid (by rw [← hu0'.out]; exact hfu.1)
       replace f3 := Lib.hid f3
       replace hfull := Lib.hid hfull
       clear hfu
       go_wp2_with fail
       refine bodyPost_ret (v := .tuple #[.slice Ac (i + 1) cc, .int .i64 3, .int .i64 (q8 : Int)]) (by simp [results, Tryz.results161, go_sem]) rfl ?_
       have e9 : us = q8 := by rw [← hus.out, hu.out, ← hused.out]; rfl
       rw [e9, hu.out]
       refine ⟨Ac, cc, by show Ending.returned (.tuple #[.slice Ac (i + 1) cc, .int .i64 3, .int .i64 (q8 : Int)]) = Ending.returned (.tuple #[.slice Ac (acc ++ [x]).length cc, .int .i64 3, .int .i64 (q8 : Int)]); rw [hai2.out], ?_, N2.out.bel⟩
       show World.ownsRow _ _ _ _ (.slice Ac (acc ++ [x]).length cc) (acc ++ [x]).length _
       have ho := N2.out.o1
       rw [hai2.out] at ho ⊢
       exact own_base ho (by omega)
      ·have f1 : ((i : Int) + 1 == 3100) = false := by rw [beq_eq_false_iff_ne]; omega
       have f2 : decide ((i : Int) + 1 = 3100) = false := decide_eq_false (by omega)
       have f3 : ¬ (i : Int) + 1 = 3100 := by omega
       obtain ⟨f', hf'⟩ : ∃ f', f = f' + 1 := ⟨f - 1, by have := hS.out.cnt; have := hai.out; omega⟩
       have hst2 := (show RdS k Bt k' p acc ds (f' + 1) from hf' ▸ hS.out).step hnext.out.2.2.1 hnext.out.2.2.2.1 hnext.out.2.2.2.2.1
       rw [hnext.out.2.2.2.2.2, hnext.out.2.1, hnext.out.1, hk2.out] at hst2
       have hS2 : Hid (RdS k Bt k2 pw (acc ++ [x]) (ds) f') := Lib.hid (by rw [List.append_nil] at hst2; exact hst2)
       clear hst2
       go_wp2_with fail
       go_roundw
       case rel => exact ⟨k2, A8, c8, pw, i + 1, m, f', acc ++ [x], ds, Ac, cc, rfl, rfl, rfl, hpwN, hai2, hdm, hS2, N2⟩
       case measure => exact hmeas.out
    ·rw [decide_eq_true hxc] at ez1 ez2
     obtain ⟨gb, hgb⟩ : ∃ gb : Bool, gb = decide (k'.can x) := ⟨_, rfl⟩
     have HFo := fun W => specL2Follows k' A' c' x gb W hv'.out (by rw [hgb]; exact decide_eq_true_iff)
     rw [hlk.out.val] at HFo
     replace HFo := Lib.hid HFo
     replace hxf := Lib.hid hxf
     replace hxc := Lib.hid hxc
     replace hgb := Lib.hid hgb
     go_wp2_with fail
     refine (HE.out _).mono ?_
     rintro e w10 ⟨rfl, hb10⟩
     have M10 := Lib.hid (M9.out.below hb10)
     clear q0 q1 q2 q3 q4 q5 hb10 M9
     obtain ⟨⟨q0, q1, q2, q3, q4, q5⟩, _⟩ := M10.out.box
     go_wp2_with fail
     refine (HC.out _).mono ?_
     rintro e w11 ⟨rfl, hb11⟩
     have M11 := Lib.hid (M10.out.below hb11)
     clear q0 q1 q2 q3 q4 q5 hb11 M10
     obtain ⟨⟨q0, q1, q2, q3, q4, q5⟩, _⟩ := M11.out.box
     go_wp2_with fail
     refine (HFo.out _).mono ?_
     rintro e w12 ⟨rfl, hb12⟩
     have M12 := Lib.hid (M11.out.below hb12)
     clear q0 q1 q2 q3 q4 q5 hb12 M11 HFo
     obtain ⟨⟨q0, q1, q2, q3, q4, q5⟩, _⟩ := M12.out.box
     rcases gb with _ | _
     ·have hu : Hid (u = ⟨acc, 2, pw⟩) := Lib.hid (by
       rw [hrun.out, if_neg hxf.out, if_pos ⟨hxc.out, of_decide_eq_false hgb.out.symm⟩])
      clear hrun
      go_wp2_with fail
      refine bodyPost_ret (v := .tuple #[.slice A1 i c1, .int .i64 2, .int .i64 (q8 : Int)]) (by simp [results, Tryz.results161, go_sem]) rfl ?_
      have e9 : us = q8 := by rw [← hus.out, hu.out, ← hused.out]; rfl
      rw [e9, hu.out]
      refine ⟨A1, c1, by show Ending.returned (.tuple #[.slice A1 i c1, .int .i64 2, .int .i64 (q8 : Int)]) = Ending.returned (.tuple #[.slice A1 acc.length c1, .int .i64 2, .int .i64 (q8 : Int)]); rw [hai.out], ?_, M12.out.bel⟩
      show World.ownsRow _ _ _ _ (.slice A1 acc.length c1) acc.length _
      have ho := M12.out.o1
      rw [hai.out] at ho ⊢
      exact own_base ho (by omega)
     ·have hcan : k'.can x := of_decide_eq_true hgb.out.symm
      have hg : k'.goes x := Or.inr hcan
      have HY := fun (W : World) (M : UnM k w w.heap.size k' A' c' acc (.slice A1 i c1) W) => specL2Any k' A' c' W.heap.size x W hv'.out M.at_ (Nat.le_refl _) hcan
      rw [hlk.out.val] at HY
      have hale := k'.any_le x
      have hroom := hv'.out.room
      have hpow := hv'.out.pow
      obtain ⟨D, hD⟩ : ∃ D, k'.any x = D := ⟨_, rfl⟩
      rw [hD] at HY hale
      obtain ⟨lL, hlL⟩ : ∃ l, D.length = l := ⟨_, rfl⟩
      have hDs : (bsL D).size = lL := hlL
      have hlLb : lL ≤ 1026 := by rw [← hlL]; omega
      obtain ⟨ml, hml⟩ : ∃ s, m + lL = s := ⟨_, rfl⟩
      have hmli : (m : Int) + lL = ml := by omega
      have wml : IntKind.i64.wrap (ml : Int) = ml := IntWalk.i64_in _ (by omega)
      have hmlb : ml ≤ 4000 := by omega
      have hDk := Lib.hid hD
      have hlLk := Lib.hid hlL
      replace hml := Lib.hid hml
      replace hcan := Lib.hid hcan
      replace hg := Lib.hid hg
      have HY12 := Lib.hid (HY w12 M12.out)
      clear HY hale hroom hpow hD hlL hgb
      go_wp2_with fail
      refine HY12.out.mono ?_
      rintro e w13 ⟨rfl, hb13⟩
      have M13 := Lib.hid (M12.out.below hb13)
      clear q0 q1 q2 q3 q4 q5 hb13 M12 HY12
      by_cases hlong : 2000 < ml
      ·have g5 : decide ((2000 : Int) < ml) = true := decide_eq_true (by omega)
       have g6 : decide (2000 < ml) = true := decide_eq_true hlong
       have hu : Hid (u = ⟨acc, 3, pw⟩) := Lib.hid (by
        rw [hrun.out, if_neg hxf.out, if_neg (fun hh => hh.2 hcan.out), if_neg hxc.out, hDk.out, hlLk.out, hml.out, if_pos hlong])
       clear hrun
       go_wp2_with fail
       refine bodyPost_ret (v := .tuple #[.slice A1 i c1, .int .i64 3, .int .i64 (q8 : Int)]) (by simp [results, Tryz.results161, go_sem]) rfl ?_
       have e9 : us = q8 := by rw [← hus.out, hu.out, ← hused.out]; rfl
       rw [e9, hu.out]
       refine ⟨A1, c1, by show Ending.returned (.tuple #[.slice A1 i c1, .int .i64 3, .int .i64 (q8 : Int)]) = Ending.returned (.tuple #[.slice A1 acc.length c1, .int .i64 3, .int .i64 (q8 : Int)]); rw [hai.out], ?_, M13.out.bel⟩
       show World.ownsRow _ _ _ _ (.slice A1 acc.length c1) acc.length _
       have ho := M13.out.o1
       rw [hai.out] at ho ⊢
       exact own_base ho (by omega)
      ·have g5 : decide ((2000 : Int) < ml) = false := decide_eq_false (by omega)
       have g6 : decide (2000 < ml) = false := decide_eq_false hlong
       have hnext : Hid (k'.peek Bt p = x ∧ p + k'.width = pw ∧ p + k'.width ≤ Bt.length ∧ k'.goes (k'.peek Bt p) ∧ ds.length + (if k'.peek Bt p = k'.clear then 0 else (k'.any (k'.peek Bt p)).length) ≤ 2000 ∧ (if k'.peek Bt p = k'.clear then ([] : List UInt8) else k'.any (k'.peek Bt p)) = D) := Lib.hid (by
        have h1 : k'.peek Bt p = x := hx.out
        have h2 : p + k'.width = pw := by rw [hwd.out]; exact hpw.out
        have h3 : ¬ x = k'.clear := by rw [hlk.out.clear, hz2'.out]; exact hxc.out
        rw [h1, if_neg h3, if_neg h3, hDk.out, hlLk.out, hdm.out]
        exact ⟨rfl, h2, by rw [h2, hNn'.out]; omega, hg.out, by have := hml.out; omega, rfl⟩)
       have hdm2 : Hid ((ds ++ D).length = ml) := Lib.hid (by rw [List.length_append, hdm.out, hlLk.out]; exact hml.out)
       clear hrun
       have ownC := M13.out.o1
       rw [hai.out] at ownC
       have hsc : w.heap.size + 1 ≤ w13.heap.size := M13.out.lt
       go_wp2_with (first
        | (at_builtin; refine wpList_append_row _ elemInt rfl (.tmp 86) (.tmp 88) rfl (w.heap.size + 1) _ _ _ rfl (ownC.alloc _) _ _ 1 1 [.int .i64 (x : Int)] rfl (Row.newAt _ _ rfl _ [.int .i64 (x : Int)] 1 1 rfl) ?_ ?_ ?_ ?_ ?_))
       ·first | rfl | (intro z hz; simp at hz; subst hz; rfl)
       ·unfold maxLen; omega
       ·omega
       ·first | omega | (simp; omega)
       ·intro vc wc hvc hgc hatc
        obtain ⟨Ac, cc, rfl, _, _⟩ := own_form hvc
        have N1 := Lib.hid (M13.out.pushC (y := x) (by rw [hai.out]; exact hvc) hgc (by simpa using hatc))
        have hai2 : Hid ((acc ++ [x]).length = i + 1) := Lib.hid (by rw [List.length_append, hai.out]; rfl)
        clear hvc hgc hatc ownC M13
        obtain ⟨⟨q0, q1, q2, q3, q4, q5⟩, _⟩ := N1.out.box
        have HSt := specL2Step k' A' c' wc.heap.size x wc hv'.out N1.out.at_ (Nat.le_refl _) N1.out.cap hg.out
        have hlk2 := hlk.out.trans (k'.like_step x)
        obtain ⟨k2, hk2⟩ : ∃ k2, k'.step x = k2 := ⟨_, rfl⟩
        rw [hk2] at HSt hlk2
        simp only [hlk.out.val, hlk2.val] at HSt
        replace HSt := Lib.hid HSt
        replace hk2 := Lib.hid hk2
        clear hlk2
        go_wp2_with fail
        refine HSt.out.mono ?_
        rintro e wd2 ⟨A8, c8, rfl, hown8, hb8⟩
        have N2 := Lib.hid (N1.out.setK hb8 hown8)
        have kb8 := N1.out.box.below hb8
        clear q0 q1 q2 q3 q4 q5 hown8 hb8 HSt N1
        obtain ⟨⟨q0, q1, q2, q3, q4, q5⟩, z0, z1, z2, z3, z4, z5⟩ := kb8
        unfold set6 at N2
        have wi1 : IntKind.i64.wrap ((i : Int) + 1) = (i : Int) + 1 := IntWalk.i64_in _ (by omega)
        by_cases hfull : i + 1 = 3100
        ·have f1 : ((i : Int) + 1 == 3100) = true := by rw [beq_iff_eq]; omega
         have f2 : decide ((i : Int) + 1 = 3100) = true := decide_eq_true (by omega)
         have f3 : (i : Int) + 1 = 3100 := by omega
         have hf0 : f = 0 := by have := hS.out.cnt; have := hai.out; omega
         have hfu := (show RdS k Bt k' p acc ds 0 from hf0 ▸ hS.out).full hnext.out.2.2.1 hnext.out.2.2.2.1 hnext.out.2.2.2.2.1
         rw [hnext.out.2.1, hnext.out.1] at hfu
         have hu : Hid (u = ⟨acc ++ [x], 3, pw⟩) := Lib.hid (by rw [← hu0'.out]; exact hfu.1)
         replace f3 := Lib.hid f3
         replace hfull := Lib.hid hfull
         clear hfu
         go_wp2_with fail
         refine bodyPost_ret (v := .tuple #[.slice Ac (i + 1) cc, .int .i64 3, .int .i64 (q8 : Int)]) (by simp [results, Tryz.results161, go_sem]) rfl ?_
         have e9 : us = q8 := by rw [← hus.out, hu.out, ← hused.out]; rfl
         rw [e9, hu.out]
         refine ⟨Ac, cc, by show Ending.returned (.tuple #[.slice Ac (i + 1) cc, .int .i64 3, .int .i64 (q8 : Int)]) = Ending.returned (.tuple #[.slice Ac (acc ++ [x]).length cc, .int .i64 3, .int .i64 (q8 : Int)]); rw [hai2.out], ?_, N2.out.bel⟩
         show World.ownsRow _ _ _ _ (.slice Ac (acc ++ [x]).length cc) (acc ++ [x]).length _
         have ho := N2.out.o1
         rw [hai2.out] at ho ⊢
         exact own_base ho (by omega)
        ·have f1 : ((i : Int) + 1 == 3100) = false := by rw [beq_eq_false_iff_ne]; omega
         have f2 : decide ((i : Int) + 1 = 3100) = false := decide_eq_false (by omega)
         have f3 : ¬ (i : Int) + 1 = 3100 := by omega
         obtain ⟨f', hf'⟩ : ∃ f', f = f' + 1 := ⟨f - 1, by have := hS.out.cnt; have := hai.out; omega⟩
         have hst2 := (show RdS k Bt k' p acc ds (f' + 1) from hf' ▸ hS.out).step hnext.out.2.2.1 hnext.out.2.2.2.1 hnext.out.2.2.2.2.1
         rw [hnext.out.2.2.2.2.2, hnext.out.2.1, hnext.out.1, hk2.out] at hst2
         have hS2 : Hid (RdS k Bt k2 pw (acc ++ [x]) (ds ++ D) f') := Lib.hid (by exact hst2)
         clear hst2
         go_wp2_with fail
         go_roundw
         case rel => exact ⟨k2, A8, c8, pw, i + 1, ml, f', acc ++ [x], ds ++ D, Ac, cc, rfl, rfl, rfl, hpwN, hai2, hdm2, hS2, N2⟩
         case measure => exact hmeas.out

set_option maxHeartbeats 2000000 in
theorem specDecompress (k : Kn) (A : Option Addr) (c B : Nat) (L : List UInt8) (w : World) (h : k.Fresh) (hA : k.At w B A) (hB : B ≤ w.heap.size) (hc : k.ps.length ≤ c) (hL : L.length ≤ 4000) :
  Calls Tryz.prog 130 #[k.val A c, .string (bsL L)] w fun e w' => e = .returned (.tuple #[.string (bsL (k.data (k.unpack L).codes)), .int .i64 ((k.unpack L).fin : Int), .int .i64 (k.used L : Int)]) ∧ Below w.heap.size w w' := by
 have hok := unF_ok (unpL k.o L) 3100 k 0 0 [] h.val (by omega) (Nat.zero_le _)
 have hun : unF (unpL k.o L) 3100 k 0 0 [] = k.unpack L := rfl
 rw [hun] at hok
 obtain ⟨more, hm1, hm2, hm3, hm4, _⟩ := hok.ex
 have hfin := hok.fin
 rw [List.nil_append] at hm1
 have HU := fun (W : World) (hb : Below w.heap.size w W) => specUnpackCodes k A c B L W h (hA.below hb hB) (Nat.le_trans hB hb.size) hc hL
 have HW := fun (W : World) (Ac : Option Addr) (cc : Nat) (hb : Below w.heap.size w W) (hr : Row W W.heap.size 1 Ac more.length (more.map natV)) => specL2Walk k A c W.heap.size more Ac cc W h.val ((hA.below hb hB).more (Nat.le_trans hB hb.size)) (Nat.le_refl _) hc hm2 hr (by omega) (by omega)
 rw [hm1] at HU ⊢
 obtain ⟨fi, hfi⟩ : ∃ x, (k.unpack L).fin = x := ⟨_, rfl⟩
 obtain ⟨us, hus⟩ : ∃ x, k.used L = x := ⟨_, rfl⟩
 obtain ⟨nc, hnc⟩ : ∃ x, more.length = x := ⟨_, rfl⟩
 rw [hfi, hus] at HU ⊢
 rw [hfi] at hfin
 rw [hnc] at HU HW
 have hval := Kn.val_eq k
 simp only [hval] at HU HW ⊢
 have e1 : ((fi : Int) == 4) = false := by rw [beq_eq_false_iff_ne]; omega
 have e2 : decide ((fi : Int) = 4) = false := decide_eq_false (by omega)
 have e3 : (fi == 4) = false := by rw [beq_eq_false_iff_ne]; omega
 have e4 : decide (fi = 4) = false := decide_eq_false (by omega)
 have e5 : ¬ (fi : Int) = 4 := by omega
 have kb0 := Lib.hid (KB.start w 74 (.int .i64 (k.o : Int)) (.int .i64 (k.l : Int)) (.int .i64 (k.m : Int)) (.slice A k.ps.length c) (.int .i64 (k.base : Int)) (.int .i64 k.lastI))
 have hW0 := Lib.hid ((Below.refl w.heap.size w).alloc (Nat.le_refl _) (.cells #[.int .i64 (k.o : Int), .int .i64 (k.l : Int), .int .i64 (k.m : Int), .slice A k.ps.length c, .int .i64 (k.base : Int), .int .i64 k.lastI] 74))
 replace HU := Lib.hid HU
 replace HW := Lib.hid HW
 have HN := Lib.hid hnc
 clear hok hun hm1 hm2 hm3 hm4 hfin hfi hus hnc hval h hA hc
 go_enter Tryz.func130, Tryz.ntmps130
 go_wp2_with fail
 refine (HU.out _ hW0.out).mono ?_
 rintro e w2 ⟨A2, c2, rfl, hown2, hb2⟩
 have hr2 := Lib.hid (Row.of_own hown2)
 have hW2 := Lib.hid (hW0.out.trans (hb2.mono hW0.out.size))
 have kb2 := kb0.out.below hb2
 clear hown2 hb2 hW0 kb0 HU
 obtain ⟨⟨q0, q1, q2, q3, q4, q5⟩, _⟩ := kb2
 go_wp2_with fail
 refine (HW.out _ _ _ hW2.out hr2.out).mono ?_
 rintro e w4 ⟨⟨Ak, nk, ck, qk, A', c', rfl, _, hb4⟩⟩
 have hW4 := Lib.hid ((hW2.out.trans (hb4.mono hW2.out.size)).alloc (hW2.out.trans (hb4.mono hW2.out.size)).size (.cells #[.int .i64 (k.o : Int), .int .i64 (k.l : Int), .int .i64 (k.m : Int), .slice Ak nk ck, .int .i64 (k.base : Int), .int .i64 qk] 74))
 rw [HN.out]
 clear hb4 hW2 hr2 q0 q1 q2 q3 q4 q5
 go_wp2_with fail
 refine bodyPost_ret (v := .tuple #[.string (bsL (k.data more)), .int .i64 (fi : Int), .int .i64 (us : Int)]) (by simp [results, Tryz.results130, go_sem]) rfl ?_
 exact ⟨rfl, hW4.out⟩

set_option maxHeartbeats 2000000 in
theorem specDecompressWith (o l m : Nat) (d L : List UInt8) (w : World) (h : dfits o l m d) (hL : L.length ≤ 4000) :
  Calls Tryz.prog 104 #[.agg #[.int .i64 (o : Int), .int .i64 (l : Int), .int .i64 (m : Int)], .string (bsL d), .string (bsL L)] w fun e w' => e = .returned (.tuple #[.string (bsL ((Kn.dict o l m d).data ((Kn.dict o l m d).unpack L).codes)), .int .i64 (((Kn.dict o l m d).unpack L).fin : Int), .int .i64 ((Kn.dict o l m d).used L : Int)]) ∧ Below w.heap.size w w' := by
 have HS := fun W => specStartWithYes o l m d W h
 obtain ⟨hfr, e1, e2, e3⟩ := Kn.dict_fresh h
 obtain ⟨k2, hk2⟩ : ∃ k2, Kn.dict o l m d = k2 := ⟨_, rfl⟩
 rw [hk2] at HS hfr e1 e2 e3 ⊢
 have HC := fun (W : World) (A : Option Addr) (c : Nat) (hA : k2.At W W.heap.size A) (hc : k2.ps.length ≤ c) => specDecompress k2 A c W.heap.size L W hfr hA (Nat.le_refl _) hc hL
 unfold Kn.val at HS HC
 obtain ⟨R, hR⟩ : ∃ R, bsL (k2.data (k2.unpack L).codes) = R := ⟨_, rfl⟩
 obtain ⟨fi, hfi⟩ : ∃ x, (k2.unpack L).fin = x := ⟨_, rfl⟩
 obtain ⟨us, hus⟩ : ∃ x, k2.used L = x := ⟨_, rfl⟩
 rw [hR, hfi, hus] at HC ⊢
 replace HS := Lib.hid HS
 replace HC := Lib.hid HC
 have hW0 := Lib.hid ((Below.refl w.heap.size w).alloc (Nat.le_refl _) (.cells #[.int .i64 (o : Int), .int .i64 (l : Int), .int .i64 (m : Int)] 24))
 clear h hk2 e1 e2 e3 hL hR hfr hfi hus
 go_enter Tryz.func104, Tryz.ntmps104
 go_wp2_with fail
 refine (HS.out _).mono ?_
 rintro e w1 ⟨A1, c1, rfl, hnew, hcp, hb1⟩
 have hal : Below w1.heap.size w1 (w1.alloc (.cells #[.int .i64 (k2.o : Int), .int .i64 (k2.l : Int), .int .i64 (k2.m : Int), .slice A1 k2.ps.length c1, .int .i64 (k2.base : Int), .int .i64 k2.lastI] 74)) := (Below.refl _ _).alloc (Nat.le_refl _) _
 have hrow := Lib.hid (hnew.below hal).row
 have hW1 := Lib.hid ((hW0.out.trans (hb1.mono hW0.out.size)).alloc (hW0.out.trans (hb1.mono hW0.out.size)).size (.cells #[.int .i64 (k2.o : Int), .int .i64 (k2.l : Int), .int .i64 (k2.m : Int), .slice A1 k2.ps.length c1, .int .i64 (k2.base : Int), .int .i64 k2.lastI] 74))
 clear hb1 hW0 hnew hal
 go_wp2_with fail
 refine (HC.out _ _ _ hrow.out hcp).mono ?_
 rintro e w3 ⟨rfl, hb3⟩
 have hW3 := Lib.hid (hW1.out.trans (hb3.mono hW1.out.size))
 clear hb3 hW1
 go_wp2_with fail
 refine bodyPost_ret (v := .tuple #[.string R, .int .i64 (fi : Int), .int .i64 (us : Int)]) (by simp [results, Tryz.results104, go_sem]) rfl ?_
 exact ⟨rfl, hW3.out⟩

set_option maxHeartbeats 2000000 in
theorem specL5Data (o l m : Nat) (d : List UInt8) (b : Blk) (w : World) (h : dfits o l m d) (hb : b.okb) :
  Calls Tryz.prog 65 #[.agg #[.int .i64 (o : Int), .int .i64 (l : Int), .int .i64 (m : Int)], .string (bsL d), b.val] w fun e w' => e = .returned (.tuple #[.string (bsL (((Kn.dict o l m d).blockData b).getD [])), .bool ((Kn.dict o l m d).blockData b).isSome]) ∧ Below w.heap.size w w' := by
 have hbody := Blk.okb_body hb
 obtain ⟨hfr, _, _, _⟩ := Kn.dict_fresh h
 have HD := fun W => specDecompressWith o l m d b.body.data.toList W h (by simp; omega)
 obtain ⟨k, hk⟩ : ∃ k, Kn.dict o l m d = k := ⟨_, rfl⟩
 rw [hk] at HD hfr ⊢
 have kb0 := (KBn.start w 24 [.int .i64 (o : Int), .int .i64 (l : Int), .int .i64 (m : Int)]).below ((Below.refl _ _).alloc (Nat.le_refl _) (.cells #[.int .i64 (b.num : Int), .bool b.raw, .int .i64 (b.size : Int), .string b.body] 36))
 have kc0 := KBn.start (w.alloc (.cells #[.int .i64 (o : Int), .int .i64 (l : Int), .int .i64 (m : Int)] 24)) 36 [.int .i64 (b.num : Int), .bool b.raw, .int .i64 (b.size : Int), .string b.body]
 rw [World.size_alloc] at kc0
 have hW0 := ((Below.refl w.heap.size w).alloc (Nat.le_refl _) (.cells #[.int .i64 (o : Int), .int .i64 (l : Int), .int .i64 (m : Int)] 24)).alloc (by simp) (.cells #[.int .i64 (b.num : Int), .bool b.raw, .int .i64 (b.size : Int), .string b.body] 36)
 have hD0 := HD ((w.alloc (.cells #[.int .i64 (o : Int), .int .i64 (l : Int), .int .i64 (m : Int)] 24)).alloc (.cells #[.int .i64 (b.num : Int), .bool b.raw, .int .i64 (b.size : Int), .string b.body] 36))
 clear HD hk
 have hbd : bsL b.body.data.toList = b.body := rfl
 rw [hbd] at hD0
 unfold Blk.val
 rcases hraw : b.raw with _ | _
 ·have hdef : k.blockData b = if (k.unpack b.body.data.toList).fin = 0 ∧ k.used b.body.data.toList = b.body.size ∧ (k.data (k.unpack b.body.data.toList).codes).length = b.size then some (k.data (k.unpack b.body.data.toList).codes) else none := by
   unfold Kn.blockData
   rw [hraw]
   rfl
  rw [hdef]
  have hfb : (k.unpack b.body.data.toList).fin ≤ 3 := (unF_ok (unpL k.o b.body.data.toList) 3100 k 0 0 [] hfr.val (by omega) (Nat.zero_le _)).fin
  obtain ⟨fi, hfi⟩ : ∃ x, (k.unpack b.body.data.toList).fin = x := ⟨_, rfl⟩
  obtain ⟨us, hus⟩ : ∃ x, k.used b.body.data.toList = x := ⟨_, rfl⟩
  obtain ⟨ds, hds⟩ : ∃ x, k.data (k.unpack b.body.data.toList).codes = x := ⟨_, rfl⟩
  rw [hfi, hus, hds] at hD0
  rw [hfi, hus, hds]
  rw [hfi] at hfb
  obtain ⟨T, hT⟩ : ∃ T, b.body = T := ⟨_, rfl⟩
  obtain ⟨n, hn⟩ : ∃ n, T.size = n := ⟨_, rfl⟩
  obtain ⟨sz, hsz⟩ : ∃ n, b.size = n := ⟨_, rfl⟩
  have hsz64 : sz ≤ 64 := by rw [← hsz]; exact hb.2.1
  rw [hT, hraw, hsz] at hD0 kb0 kc0 hW0
  rw [hT] at hbody ⊢
  rw [hn] at hbody ⊢
  rw [hsz]
  obtain ⟨nd, hnd⟩ : ∃ n, ds.length = n := ⟨_, rfl⟩
  have hds2 : (bsL ds).size = nd := hnd
  rw [hnd]
  obtain ⟨D, hD⟩ : ∃ D, bsL ds = D := ⟨_, rfl⟩
  rw [hD] at hD0 hds2
  have hD' := Lib.hid hD
  replace hD0 := Lib.hid hD0
  replace hW0 := Lib.hid hW0
  replace kb0 := Lib.hid kb0
  replace kc0 := Lib.hid kc0
  clear hdef hfi hus hds hT hsz hb h hfr hbd hraw hD hnd
  have f1 : ((fi : Int) != 0) = decide (fi ≠ 0) := by rw [Bool.eq_iff_iff]; simp
  have f2 : (fi != 0) = decide (fi ≠ 0) := by rw [Bool.eq_iff_iff]; simp
  have u1 : ((us : Int) != (n : Int)) = decide (us ≠ n) := by rw [Bool.eq_iff_iff]; simp [Int.ofNat_inj]
  have u2 : (us != n) = decide (us ≠ n) := by rw [Bool.eq_iff_iff]; simp
  have d1 : ((nd : Int) != (sz : Int)) = decide (nd ≠ sz) := by rw [Bool.eq_iff_iff]; simp [Int.ofNat_inj]
  have d2 : (nd != sz) = decide (nd ≠ sz) := by rw [Bool.eq_iff_iff]; simp
  by_cases h1 : fi = 0
  ·have g1 : decide (fi ≠ 0) = false := decide_eq_false (fun hh => hh h1)
   by_cases h2 : us = n
   ·have g2 : decide (us ≠ n) = false := decide_eq_false (fun hh => hh h2)
    by_cases h3 : nd = sz
    ·have g3 : decide (nd ≠ sz) = false := decide_eq_false (fun hh => hh h3)
     rw [if_pos ⟨h1, h2, h3⟩]
     rw [g1] at f1 f2
     rw [g2] at u1 u2
     rw [g3] at d1 d2
     replace h1 := Lib.hid h1
     replace h2 := Lib.hid h2
     replace h3 := Lib.hid h3
     clear g1 g2 g3
     go_enter Tryz.func65, Tryz.ntmps65
     go_upto_region 1 with (fail)
     obtain ⟨w2, hw2⟩ : ∃ W, (w.alloc (.cells #[.int .i64 (o : Int), .int .i64 (l : Int), .int .i64 (m : Int)] 24)).alloc (.cells #[.int .i64 (b.num : Int), .bool false, .int .i64 (sz : Int), .string T] 36) = W := ⟨_, rfl⟩
     rw [hw2] at hD0 hW0 kb0 kc0 ⊢
     clear hw2
     have q0 := kb0.out.c 0 _ rfl
     have q1 := kb0.out.c 1 _ rfl
     have q2 := kb0.out.c 2 _ rfl
     have c1 := kc0.out.c 1 _ rfl
     have c2 := kc0.out.c 2 _ rfl
     have c3 := kc0.out.c 3 _ rfl
     go_wp2_with fail
     refine hD0.out.mono ?_
     rintro e w3 ⟨rfl, hb3⟩
     have hfin := Lib.hid (hW0.out.trans (hb3.mono hW0.out.size))
     have kc3 := kc0.out.below hb3
     clear q0 q1 q2 c1 c2 c3 hb3 hD0 kb0 kc0
     have c2 := kc3.c 2 _ rfl
     have c3 := kc3.c 3 _ rfl
     clear kc3
     go_wp2_with fail
     refine bodyPost_ret (v := .tuple #[.string D, .bool true]) (by simp [results, Tryz.results65, go_sem]) rfl ?_
     exact ⟨by show _ = Ending.returned (.tuple #[.string (bsL ds), .bool true]); rw [hD'.out], hfin.out⟩
    ·have g3 : decide (nd ≠ sz) = true := decide_eq_true h3
     rw [if_neg (fun hh => h3 hh.2.2)]
     rw [g1] at f1 f2
     rw [g2] at u1 u2
     rw [g3] at d1 d2
     replace h1 := Lib.hid h1
     replace h2 := Lib.hid h2
     clear g1 g2 g3
     go_enter Tryz.func65, Tryz.ntmps65
     go_upto_region 1 with (fail)
     obtain ⟨w2, hw2⟩ : ∃ W, (w.alloc (.cells #[.int .i64 (o : Int), .int .i64 (l : Int), .int .i64 (m : Int)] 24)).alloc (.cells #[.int .i64 (b.num : Int), .bool false, .int .i64 (sz : Int), .string T] 36) = W := ⟨_, rfl⟩
     rw [hw2] at hD0 hW0 kb0 kc0 ⊢
     clear hw2
     have q0 := kb0.out.c 0 _ rfl
     have q1 := kb0.out.c 1 _ rfl
     have q2 := kb0.out.c 2 _ rfl
     have c1 := kc0.out.c 1 _ rfl
     have c2 := kc0.out.c 2 _ rfl
     have c3 := kc0.out.c 3 _ rfl
     go_wp2_with fail
     refine hD0.out.mono ?_
     rintro e w3 ⟨rfl, hb3⟩
     have hfin := Lib.hid (hW0.out.trans (hb3.mono hW0.out.size))
     have kc3 := kc0.out.below hb3
     clear q0 q1 q2 c1 c2 c3 hb3 hD0 kb0 kc0
     have c2 := kc3.c 2 _ rfl
     have c3 := kc3.c 3 _ rfl
     clear kc3
     go_wp2_with fail
     refine bodyPost_ret (v := .tuple #[.string ⟨#[]⟩, .bool false]) (by simp [results, Tryz.results65, go_sem]) rfl ?_
     exact ⟨rfl, hfin.out⟩
   ·have g2 : decide (us ≠ n) = true := decide_eq_true h2
    rw [if_neg (fun hh => h2 hh.2.1)]
    rw [g1] at f1 f2
    rw [g2] at u1 u2
    replace h1 := Lib.hid h1
    clear g1 g2 d1 d2
    go_enter Tryz.func65, Tryz.ntmps65
    go_upto_region 1 with (fail)
    obtain ⟨w2, hw2⟩ : ∃ W, (w.alloc (.cells #[.int .i64 (o : Int), .int .i64 (l : Int), .int .i64 (m : Int)] 24)).alloc (.cells #[.int .i64 (b.num : Int), .bool false, .int .i64 (sz : Int), .string T] 36) = W := ⟨_, rfl⟩
    rw [hw2] at hD0 hW0 kb0 kc0 ⊢
    clear hw2
    have q0 := kb0.out.c 0 _ rfl
    have q1 := kb0.out.c 1 _ rfl
    have q2 := kb0.out.c 2 _ rfl
    have c1 := kc0.out.c 1 _ rfl
    have c2 := kc0.out.c 2 _ rfl
    have c3 := kc0.out.c 3 _ rfl
    go_wp2_with fail
    refine hD0.out.mono ?_
    rintro e w3 ⟨rfl, hb3⟩
    have hfin := Lib.hid (hW0.out.trans (hb3.mono hW0.out.size))
    have kc3 := kc0.out.below hb3
    clear q0 q1 q2 c1 c2 c3 hb3 hD0 kb0 kc0
    have c2 := kc3.c 2 _ rfl
    have c3 := kc3.c 3 _ rfl
    clear kc3
    go_wp2_with fail
    refine bodyPost_ret (v := .tuple #[.string ⟨#[]⟩, .bool false]) (by simp [results, Tryz.results65, go_sem]) rfl ?_
    exact ⟨rfl, hfin.out⟩
  ·have g1 : decide (fi ≠ 0) = true := decide_eq_true h1
   rw [if_neg (fun hh => h1 hh.1)]
   rw [g1] at f1 f2
   clear g1 u1 u2 d1 d2
   go_enter Tryz.func65, Tryz.ntmps65
   go_upto_region 1 with (fail)
   obtain ⟨w2, hw2⟩ : ∃ W, (w.alloc (.cells #[.int .i64 (o : Int), .int .i64 (l : Int), .int .i64 (m : Int)] 24)).alloc (.cells #[.int .i64 (b.num : Int), .bool false, .int .i64 (sz : Int), .string T] 36) = W := ⟨_, rfl⟩
   rw [hw2] at hD0 hW0 kb0 kc0 ⊢
   clear hw2
   have q0 := kb0.out.c 0 _ rfl
   have q1 := kb0.out.c 1 _ rfl
   have q2 := kb0.out.c 2 _ rfl
   have c1 := kc0.out.c 1 _ rfl
   have c2 := kc0.out.c 2 _ rfl
   have c3 := kc0.out.c 3 _ rfl
   go_wp2_with fail
   refine hD0.out.mono ?_
   rintro e w3 ⟨rfl, hb3⟩
   have hfin := Lib.hid (hW0.out.trans (hb3.mono hW0.out.size))
   have kc3 := kc0.out.below hb3
   clear q0 q1 q2 c1 c2 c3 hb3 hD0 kb0 kc0
   have c2 := kc3.c 2 _ rfl
   have c3 := kc3.c 3 _ rfl
   clear kc3
   go_wp2_with fail
   refine bodyPost_ret (v := .tuple #[.string ⟨#[]⟩, .bool false]) (by simp [results, Tryz.results65, go_sem]) rfl ?_
   exact ⟨rfl, hfin.out⟩
 ·have hdef : k.blockData b = some b.body.data.toList := by
   unfold Kn.blockData
   rw [hraw]
   rfl
  rw [hdef]
  obtain ⟨T, hT⟩ : ∃ T, b.body = T := ⟨_, rfl⟩
  rw [hraw, hT] at kc0 hW0
  rw [hT]
  have hTb : bsL T.data.toList = T := rfl
  show Calls _ _ _ _ fun e w' => e = .returned (.tuple #[.string (bsL T.data.toList), .bool true]) ∧ _
  rw [hTb]
  have c1 := kc0.c 1 _ rfl
  have c3 := kc0.c 3 _ rfl
  replace hW0 := Lib.hid hW0
  clear hdef hb h hfr hbd hraw hT hTb kc0 kb0 hD0
  go_enter Tryz.func65, Tryz.ntmps65
  go_wp2_with fail
  go_ret2
  exact ⟨rfl, hW0.out⟩

theorem Kn.datas_take {k : Kn} {bs : List Blk} {i : Nat} {b : Blk} (hb : bs[i]? = some b) {d e : List UInt8} (h1 : k.datas (bs.take i) = some d) (h2 : k.blockData b = some e) : k.datas (bs.take (i + 1)) = some (d ++ e) := by
 rw [List.take_add_one, hb]
 show k.datas (bs.take i ++ [b]) = _
 rw [Kn.datas_append, h1]
 simp [Kn.datas, h2]

theorem Kn.datas_none {k : Kn} {bs : List Blk} {i : Nat} {b : Blk} (hb : bs[i]? = some b) (h2 : k.blockData b = none) : k.datas bs = none := by
 obtain ⟨hi, e⟩ := List.getElem?_eq_some_iff.1 hb
 rw [← List.take_append_drop i bs, List.drop_eq_getElem_cons hi, e, Kn.datas_append]
 have : k.datas (b :: List.drop (i + 1) bs) = none := by simp [Kn.datas, h2]
 rw [this]
 cases k.datas (List.take i bs) <;> rfl

def contD (o l m : Int) (d : List UInt8) (ob : Option (List Blk)) : Option (List UInt8) :=
 match ob with
 | some bs => if dfits o l m d then (kdict o l m d).datas bs else none
 | none => none

end Go.Proofs.YthlgpgaeajfchaaGreat

