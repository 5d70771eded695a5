/-
 The program's cutBlocks and CutContainer, and the walk of the law FnExactCutContainer.
-/
import Derived.Test.YthlgpgaeajfchaaGreatPwImplUnp

namespace Go.Proofs.YthlgpgaeajfchaaGreat
open Go.RowKit
set_option linter.unusedVariables false
set_option linter.unusedSimpArgs false
set_option maxRecDepth 100000

set_option maxHeartbeats 2000000 in
theorem implCutBlocks (k : Kn) (A : Option Addr) (c B : Nat) (f t : Nat) (Ab : Option Addr) (n cb Bb : Nat) (bs : List Blk) (w : World) (h : k.Fresh) (hA : k.At w B A) (hB : B ≤ w.heap.size) (hr : Row w Bb 4 Ab n (cellsB bs)) (hBb : Bb ≤ w.heap.size) (hn : n ≤ 40) (hok : ∀ b ∈ bs, b.okb) (hf : f ≤ 100000) (ht : t ≤ 100000) :
  Calls Tryz.prog 71 #[k.val A c, .slice Ab n cb, .int .i64 (f : Int), .int .i64 (t : Int)] w fun e w' => ∃ A' n' c', e = .returned (.tuple #[.slice A' n' c', .bool (k.cut f t 0 bs).isSome]) ∧ (∀ r, k.cut f t 0 bs = some r → r.length = n' ∧ w'.ownsRow w.heap.size 36 4 (.slice A' n' c') n' (cellsB r)) ∧ Below w.heap.size w w' := by
 have hlen := hr.len4
 have HD := fun (b : Blk) (hb : b.okb) (W : World) (hW : Below w.heap.size w W) => implBlockData k A c B b W h (hA.below hW hB) (Nat.le_trans hB hW.size) hb
 have HM := fun (L : List UInt8) (hL : L.length ≤ 100000) (W : World) (hW : Below w.heap.size w W) => implMakeBlock k A c B L W h (hA.below hW hB) (Nat.le_trans hB hW.size) hL
 have hval := Kn.val_eq k
 simp only [hval] at HD HM ⊢
 obtain ⟨u, hu⟩ : ∃ u, k.cut f t 0 bs = u := ⟨_, rfl⟩
 rw [hu]
 replace hu := Lib.hid hu
 have kb0 := Lib.hid (KBn.start w 74 [.int .i64 (k.o : Int), .int .i64 (k.l : Int), .int .i64 (k.m : Int), .slice A k.ps.length c, .int .i64 (k.base : Int), .int .i64 k.lastI])
 have hW0 := Lib.hid ((Below.refl w.heap.size w).alloc (Nat.le_refl _) (.cells #[.int .i64 (k.o : Int), .int .i64 (k.l : Int), .int .i64 (k.m : Int), .slice A k.ps.length c, .int .i64 (k.base : Int), .int .i64 k.lastI] 74))
 have hO0 : Hid ((w.alloc (.cells #[.int .i64 (k.o : Int), .int .i64 (k.l : Int), .int .i64 (k.m : Int), .slice A k.ps.length c, .int .i64 (k.base : Int), .int .i64 k.lastI] 74)).ownsRow (w.heap.size + 1) 36 4 (.slice none 0 0) 0 (cellsB [])) := Lib.hid ⟨rfl, Or.inl ⟨rfl, rfl⟩⟩
 replace HD := Lib.hid HD
 replace HM := Lib.hid HM
 replace hr := Lib.hid hr
 replace hok := Lib.hid hok
 have hlen' := Lib.hid hlen
 clear hval h hlen hA
 go_enter Tryz.func71, Tryz.ntmps71
 go_wp2_with fail
 go_loopw [10, 11, 21] (fun v q i wr => ∃ (A' : Option Addr) (c' j p mm : Nat) (acc : List Blk), v = .slice A' mm c' ∧ q = .int .i64 (p : Int) ∧ i = .int .i64 (j : Int) ∧ j ≤ n ∧ p ≤ 64 * j ∧ mm ≤ j ∧ Hid (acc.length = mm) ∧ Hid (u = (k.cut f t p (bs.drop j)).map (acc ++ ·)) ∧ Hid (wr.ownsRow (w.heap.size + 1) 36 4 (.slice A' mm c') mm (cellsB acc)) ∧ Hid (KBn wr w.heap.size [.int .i64 (k.o : Int), .int .i64 (k.l : Int), .int .i64 (k.m : Int), .slice A k.ps.length c, .int .i64 (k.base : Int), .int .i64 k.lastI]) ∧ Hid (Below w.heap.size w wr)) (fun _ _ i _ => n - (intOf i).toNat)
 case atStart => exact ⟨_, _, 0, 0, 0, [], rfl, rfl, rfl, Nat.zero_le _, Nat.zero_le _, Nat.le_refl _, Lib.hid rfl, Lib.hid (by rw [← hu.out, List.drop_zero]; cases k.cut f t 0 bs <;> rfl), hO0, kb0, hW0⟩
 case round =>
  obtain ⟨A', c', j, p, mm, acc, rfl, rfl, rfl, hj, hp, hmj, hal, hcut, hO, hK, hbel⟩ := hrel
  clear hO0 kb0 hW0
  have hwz := hbel.out.size
  by_cases hlt : j < n
  ·obtain ⟨b, hb⟩ : ∃ b, bs[j]? = some b := ⟨_, List.getElem?_eq_getElem (by rw [hlen'.out]; exact hlt)⟩
   have hdr : bs.drop j = b :: bs.drop (j + 1) := by
    obtain ⟨hi, e⟩ := List.getElem?_eq_some_iff.1 hb
    rw [List.drop_eq_getElem_cons hi, e]
   obtain ⟨g, off, rfl, hg, p0, p1, p2', p3⟩ := (hr.out.below hbel.out hBb).blk (num := b.num) (raw := b.raw) (size := b.size) (body := b.body) hlt hb
   have hob := hok.out b (List.mem_of_getElem? hb)
   have h64 := hob.2.1
   have hbv : b.val = .agg #[.int .i64 b.num, .bool b.raw, .int .i64 b.size, .string b.body] := rfl
   have hc0 : k.cut f t p (bs.drop j) = if min (p + b.size) t ≤ max p f then k.cut f t (p + b.size) (bs.drop (j + 1)) else if max p f = p ∧ min (p + b.size) t = p + b.size then (k.cut f t (p + b.size) (bs.drop (j + 1))).map (b :: ·) else match k.blockData b, k.cut f t (p + b.size) (bs.drop (j + 1)) with | some D, some r => some (k.block ((D.drop (max p f - p)).take (min (p + b.size) t - max p f)) :: r) | _, _ => none := by rw [hdr]; rfl
   have hDl : ∀ D, k.blockData b = some D → D.length = b.size := fun D hD => Kn.blockData_size hob hD
   have hDb := fun W hW => HD.out b hob W hW
   rw [hbv] at hDb
   obtain ⟨x0, hx0⟩ : ∃ x : Nat, b.num = x := ⟨_, rfl⟩
   obtain ⟨x1, hx1⟩ : ∃ x, b.raw = x := ⟨_, rfl⟩
   obtain ⟨x2, hx2⟩ : ∃ x : Nat, b.size = x := ⟨_, rfl⟩
   obtain ⟨x3, hx3⟩ : ∃ x, b.body = x := ⟨_, rfl⟩
   simp only [hx0, hx1, hx2, hx3] at hDb
   rw [hx2] at hc0 h64 hDl
   rw [hx0] at p0
   rw [hx1] at p1
   rw [hx2] at p2'
   rw [hx3] at p3
   obtain ⟨p2, hp2e⟩ : ∃ z, p + x2 = z := ⟨_, rfl⟩
   rw [hp2e] at hc0
   have hp2 : p2 ≤ 64 * (j + 1) := by omega
   have ep2 : (p : Int) + x2 = p2 := by omega
   have wp2 : IntKind.i64.wrap (p2 : Int) = p2 := IntWalk.i64_in _ (by omega)
   obtain ⟨st, hst⟩ : ∃ z : Nat, max p f = z := ⟨_, rfl⟩
   obtain ⟨en, hen⟩ : ∃ z : Nat, min p2 t = z := ⟨_, rfl⟩
   rw [hst, hen] at hc0
   have hsti : max (p : Int) (f : Int) = (st : Int) := by omega
   have heni : min (p2 : Int) (t : Int) = (en : Int) := by omega
   have hj0 : (0 : Int) ≤ j := by omega
   have hji : (j : Int) < n := by omega
   have hbl5 := (Below.refl wr.heap.size wr).alloc (Nat.le_refl _) (.cells #[.int .i64 (x0 : Int), .bool x1, .int .i64 (x2 : Int), .string x3] 36)
   have hb5 := Lib.hid hbl5
   have X5 := Lib.hid (KBn.start wr 36 [.int .i64 (x0 : Int), .bool x1, .int .i64 (x2 : Int), .string x3])
   have hAll : Hid (∀ W, Below wr.heap.size wr W → W.ownsRow (w.heap.size + 1) 36 4 (.slice A' mm c') mm (cellsB acc) ∧ KBn W w.heap.size [.int .i64 (k.o : Int), .int .i64 (k.l : Int), .int .i64 (k.m : Int), .slice A k.ps.length c, .int .i64 (k.base : Int), .int .i64 k.lastI] ∧ Below w.heap.size w W) := Lib.hid (fun W hW => ⟨own_below hO.out hW (Nat.le_refl _), hK.out.below hW, hbel.out.trans (hW.mono hwz)⟩)
   have hcb : Hid (cellsB (acc ++ [b]) = cellsB acc ++ [.int .i64 (x0 : Int), .bool x1, .int .i64 (x2 : Int), .string x3]) := Lib.hid (by rw [cellsB_append, cellsB_one, ← hx0, ← hx1, ← hx2, ← hx3]; rfl)
   have hal2' : ∀ pb : Blk, (acc ++ [pb]).length = mm + 1 := fun pb => by rw [List.length_append, hal.out]; rfl
   have hst' := Lib.hid hst
   have hen' := Lib.hid hen
   have hp2e' := Lib.hid hp2e
   go_upto_region 6 with (fail)
   obtain ⟨X, hX⟩ : ∃ X, wr.heap.size = X := ⟨_, rfl⟩
   obtain ⟨w5, hw5⟩ : ∃ W, wr.alloc (.cells #[.int .i64 (x0 : Int), .bool x1, .int .i64 (x2 : Int), .string x3] 36) = W := ⟨_, rfl⟩
   rw [hw5] at hb5 X5 ⊢
   rw [hX] at X5 hb5 hAll hwz ⊢
   clear hw5 hX p0 p1 p2' p3 hbl5 hO hK hbel hst hen hp2e
   have y0 := X5.out.c 0 _ rfl
   have y1 := X5.out.c 1 _ rfl
   have y2 := X5.out.c 2 _ rfl
   have y3 := X5.out.c 3 _ rfl
   obtain ⟨oo5, kk5, bb5⟩ := hAll.out _ hb5.out
   have O5 := Lib.hid oo5
   have K5 := Lib.hid kk5
   have b5 := Lib.hid bb5
   clear oo5 kk5 bb5
   by_cases hskip : en ≤ st
   ·have hcut2 : Hid (u = (k.cut f t p2 (bs.drop (j + 1))).map (acc ++ ·)) := Lib.hid (by rw [hcut.out, hc0, if_pos hskip])
    have g1 : decide ((en : Int) ≤ (st : Int)) = true := decide_eq_true (by omega)
    have g2 : decide (en ≤ st) = true := decide_eq_true hskip
    clear hc0 hdr hb hbv hx0 hx1 hx2 hx3 hob hcut hskip hDl hDb hal2' hcb
    go_wp2_with fail
    go_roundw
    case rel => exact ⟨A', c', j + 1, p2, mm, acc, rfl, rfl, by go_num, by omega, hp2, by omega, hal, hcut2, O5, K5, b5⟩
    case measure => simp [intOf]; omega
   ·have g1 : decide ((en : Int) ≤ (st : Int)) = false := decide_eq_false (by omega)
    have g2 : decide (en ≤ st) = false := decide_eq_false hskip
    have hsle : p ≤ st ∧ en ≤ p2 := by have := hst'.out; have := hen'.out; omega
    by_cases hwh : st = p ∧ en = p2
    ·have i1 : ((st : Int) == (p : Int)) = true := by rw [beq_iff_eq]; omega
     have i2 : ((en : Int) == (p2 : Int)) = true := by rw [beq_iff_eq]; omega
     have i3 : (st == p) = true := by rw [beq_iff_eq]; omega
     have i4 : (en == p2) = true := by rw [beq_iff_eq]; omega
     have i5 : decide ((st : Int) = (p : Int)) = true := decide_eq_true (by omega)
     have i6 : decide ((en : Int) = (p2 : Int)) = true := decide_eq_true (by omega)
     have i7 : decide (st = p) = true := decide_eq_true hwh.1
     have i8 : decide (en = p2) = true := decide_eq_true hwh.2
     have hcut2 : Hid (u = (k.cut f t p2 (bs.drop (j + 1))).map ((acc ++ [b]) ++ ·)) := Lib.hid (by
      rw [hcut.out, hc0, if_neg hskip, if_pos hwh]
      cases k.cut f t p2 (bs.drop (j + 1)) <;> simp)
     have hal2 := Lib.hid (hal2' b)
     clear hc0 hdr hb hbv hx0 hx1 hx2 hx3 hob hcut hskip hDl hDb hal2' hwh
     have hsc : w.heap.size + 1 ≤ w5.heap.size := by have := b5.out.size; have := K5.out.lt; omega
     have ownC := O5.out
     go_wp2_with (first
      | (at_builtin; refine wpList_append_row _ elemBlk rfl (.tmp 69) (.tmp 71) rfl (w.heap.size + 1) _ _ _ rfl (ownC.alloc _) _ _ 1 1 [.int .i64 (x0 : Int), .bool x1, .int .i64 (x2 : Int), .string x3] rfl (Row.newAt _ _ rfl _ [.int .i64 (x0 : Int), .bool x1, .int .i64 (x2 : Int), .string x3] 1 4 rfl) ?_ ?_ ?_ ?_ ?_))
     ·intro z hz; simp at hz; rcases hz with rfl | rfl | rfl | rfl <;> rfl
     ·unfold maxLen; omega
     ·omega
     ·first | omega | (simp; omega)
     ·intro ve we hve hge _
      obtain ⟨Ae, ce, rfl, _, _⟩ := own_form hve
      have hgx := fun g (hg : (Value.slice A' mm c').ownBlock = some g) => (ownC.lt g hg).1
      have hbE := Lib.hid ((b5.out.alloc (by omega) _).grown hge (by simp; omega) (fun g hg => by have := hgx g hg; omega))
      have hKe := Lib.hid ((K5.out.below ((Below.refl _ _).alloc (Nat.le_refl _) _)).keep (Keep.of_grown hge (S := fun g => (Value.slice A' mm c').ownBlock = some g) (fun g e => Or.inl e)) (fun e => by have := hgx _ e; omega))
      have hOe : Hid (we.ownsRow (w.heap.size + 1) 36 4 (.slice Ae (mm + 1) ce) (mm + 1) (cellsB (acc ++ [b]))) := Lib.hid (by rw [hcb.out]; exact hve)
      clear hve hge ownC hgx O5 K5 b5 y0 y1 y2 y3
      go_wp2_with fail
      go_roundw
      case rel => exact ⟨Ae, ce, j + 1, p2, mm + 1, acc ++ [b], rfl, rfl, rfl, by omega, hp2, by omega, hal2, hcut2, hOe, hKe, hbE⟩
      case measure => simp [intOf]; omega
    ·obtain ⟨sp, hsp⟩ : ∃ z : Nat, st - p = z := ⟨_, rfl⟩
     obtain ⟨ep, hep⟩ : ∃ z : Nat, en - p = z := ⟨_, rfl⟩
     have hspi : (st : Int) - p = sp := by omega
     have hepi : (en : Int) - p = ep := by omega
     have wsp : IntKind.i64.wrap (sp : Int) = sp := IntWalk.i64_in _ (by omega)
     have wep : IntKind.i64.wrap (ep : Int) = ep := IntWalk.i64_in _ (by have := hst'.out; have := hen'.out; omega)
     have hse : sp ≤ ep ∧ ep ≤ x2 ∧ en - st = ep - sp := by have := hp2e'.out; omega
     rw [hsp] at hc0
     obtain ⟨R, hR⟩ : ∃ R, bsL ((k.blockData b).getD []) = R := ⟨_, rfl⟩
     obtain ⟨sb, hsb⟩ : ∃ sb, (k.blockData b).isSome = sb := ⟨_, rfl⟩
     simp only [hR, hsb] at hDb
     obtain ⟨bo, hbo⟩ : ∃ x, k.blockData b = x := ⟨_, rfl⟩
     rw [hbo] at hsb hc0 hDl hR
     have hno : Hid (bo = none → u = none) := Lib.hid (fun e => by
      rw [hcut.out, hc0, if_neg hskip, if_neg hwh, e]
      rfl)
     have hyes : Hid (∀ D, bo = some D → u = (k.cut f t p2 (bs.drop (j + 1))).map ((acc ++ [k.block ((D.drop sp).take (en - st))]) ++ ·)) := Lib.hid (fun D e => by
      rw [hcut.out, hc0, if_neg hskip, if_neg hwh, e]
      cases k.cut f t p2 (bs.drop (j + 1)) <;> simp)
     have hM' : Hid (∀ (L : List UInt8), L.length ≤ 100000 → ∀ (W : World), Below w.heap.size w W → Calls Tryz.prog 62 #[.agg #[.int .i64 (k.o : Int), .int .i64 (k.l : Int), .int .i64 (k.m : Int), .slice A k.ps.length c, .int .i64 (k.base : Int), .int .i64 k.lastI], .string (bsL L)] W fun e w' => e = .returned (k.block L).val ∧ Below W.heap.size W w') := HM
     replace hDb := Lib.hid hDb
     replace hR := Lib.hid hR
     obtain ⟨hs1, hs2, hs3⟩ := hse
     replace hsp := Lib.hid hsp
     replace hep := Lib.hid hep
     have q0 := K5.out.c 0 _ rfl
     have q1 := K5.out.c 1 _ rfl
     have q2 := K5.out.c 2 _ rfl
     have q3 := K5.out.c 3 _ rfl
     have q4 := K5.out.c 4 _ rfl
     have q5 := K5.out.c 5 _ rfl
     by_cases h9 : st = p
     ·have i1 : ((st : Int) == (p : Int)) = true := by rw [beq_iff_eq]; omega
      have i2 : ((en : Int) == (p2 : Int)) = false := by rw [beq_eq_false_iff_ne]; omega
      have i3 : (st == p) = true := by rw [beq_iff_eq]; omega
      have i4 : (en == p2) = false := by rw [beq_eq_false_iff_ne]; omega
      have i5 : decide ((st : Int) = (p : Int)) = true := decide_eq_true (by omega)
      have i6 : decide ((en : Int) = (p2 : Int)) = false := decide_eq_false (by omega)
      have i7 : decide (st = p) = true := decide_eq_true h9
      have i8 : decide (en = p2) = false := decide_eq_false (by omega)
      clear hc0 hdr hb hbv hx0 hx1 hx2 hx3 hob hcut hskip hwh hcb h9 hbo
      go_wp2_with fail
      refine (hDb.out w5 b5.out).mono ?_
      rintro e w6 ⟨rfl, hb6⟩
      have hb6x := Lib.hid (hb5.out.trans (hb6.mono (by have := X5.out.lt; have := hb5.out.size; omega)))
      obtain ⟨oo6, kk6, bb6⟩ := hAll.out _ hb6x.out
      have O6 := Lib.hid oo6
      have K6 := Lib.hid kk6
      have b6 := Lib.hid bb6
      clear oo6 kk6 bb6 hb6 y0 y1 y2 y3 q0 q1 q2 q3 q4 q5 O5 K5 b5 X5 hb5 hb6x hDb
      rcases bo with _ | D
      ·obtain rfl : sb = false := hsb.symm
       have hn2 := Lib.hid (hno.out rfl)
       clear hno hyes hDl hM' hAll
       go_wp2_with fail
       refine bodyPost_ret (v := .tuple #[.slice none 0 0, .bool false]) (by simp [results, Tryz.results71, go_sem]) rfl ?_
       exact ⟨none, 0, 0, by rw [hn2.out]; rfl, (fun r hr => by rw [hn2.out] at hr; cases hr), b6.out⟩
      ·obtain rfl : sb = true := hsb.symm
       have hcut2 := Lib.hid (hyes.out D rfl)
       have hDx := hDl D rfl
       have hDs : (bsL D).size = x2 := hDx
       have hB2 := hM'.out ((D.drop sp).take (en - st)) (by rw [List.length_take, List.length_drop]; omega) w6
       obtain ⟨T, hT⟩ : ∃ T, bsL ((D.drop sp).take (en - st)) = T := ⟨_, rfl⟩
       obtain ⟨pb, hpb⟩ : ∃ pb, k.block ((D.drop sp).take (en - st)) = pb := ⟨_, rfl⟩
       rw [hT, hpb] at hB2
       rw [hpb] at hcut2
       have hpv : pb.val = .agg #[.int .i64 pb.num, .bool pb.raw, .int .i64 pb.size, .string pb.body] := rfl
       rw [hpv] at hB2
       obtain ⟨z0, hz0⟩ : ∃ x : Nat, pb.num = x := ⟨_, rfl⟩
       obtain ⟨z1, hz1⟩ : ∃ x, pb.raw = x := ⟨_, rfl⟩
       obtain ⟨z2, hz2⟩ : ∃ x : Nat, pb.size = x := ⟨_, rfl⟩
       obtain ⟨z3, hz3⟩ : ∃ x, pb.body = x := ⟨_, rfl⟩
       have hcbp : Hid (cellsB (acc ++ [pb]) = cellsB acc ++ [.int .i64 (z0 : Int), .bool z1, .int .i64 (z2 : Int), .string z3]) := Lib.hid (by rw [cellsB_append, cellsB_one, ← hz0, ← hz1, ← hz2, ← hz3]; rfl)
       rw [hz0, hz1, hz2, hz3] at hB2
       have hal2 := Lib.hid (hal2' pb)
       have hsl : (bsL D).extract sp ep = T := by rw [← hT, show en - st = ep - sp by omega]; exact bsL_part _ _ _
       obtain ⟨XD, hXD⟩ : ∃ X, bsL D = X := ⟨_, rfl⟩
       have hR2 : R = XD := by rw [← hXD, ← hR.out]; rfl
       rw [hXD] at hDs hsl
       subst hR2
       have j0 : (0 : Int) ≤ sp := by omega
       have j1 : (sp : Int) ≤ ep := by omega
       have j2 : (ep : Int) ≤ x2 := by omega
       have hB3 := Lib.hid (fun W (hb : Below w6.heap.size w6 W) => hM'.out ((D.drop sp).take (en - st)) (by rw [List.length_take, List.length_drop]; omega) W (b6.out.trans (hb.mono b6.out.size)))
       have hB4 : Hid (∀ W, Below w6.heap.size w6 W → Calls Tryz.prog 62 #[.agg #[.int .i64 (k.o : Int), .int .i64 (k.l : Int), .int .i64 (k.m : Int), .slice A k.ps.length c, .int .i64 (k.base : Int), .int .i64 k.lastI], .string T] W fun e w' => e = .returned (.agg #[.int .i64 (z0 : Int), .bool z1, .int .i64 (z2 : Int), .string z3]) ∧ Below W.heap.size W w') := Lib.hid (fun W hb => by
        have := hB3.out W hb
        rw [hT, hpb, hpv, hz0, hz1, hz2, hz3] at this
        exact this)
       clear hB2 hB3 hno hyes hDl hM' hAll hT hpb hpv hz0 hz1 hz2 hz3 hXD hR hDx
       go_upto_region 11 with (fail)
       have hSX : Hid (∀ W, Below w6.heap.size w6 W → W.cell? ⟨w.heap.size, 0, none⟩ = some (.int .i64 (k.o : Int)) ∧ W.cell? ⟨w.heap.size, 1, none⟩ = some (.int .i64 (k.l : Int)) ∧ W.cell? ⟨w.heap.size, 2, none⟩ = some (.int .i64 (k.m : Int)) ∧ W.cell? ⟨w.heap.size, 3, none⟩ = some (.slice A k.ps.length c) ∧ W.cell? ⟨w.heap.size, 4, none⟩ = some (.int .i64 (k.base : Int)) ∧ W.cell? ⟨w.heap.size, 5, none⟩ = some (.int .i64 k.lastI)) := Lib.hid (fun W hW => by
        have kx := K6.out.below hW
        exact ⟨kx.c 0 _ rfl, kx.c 1 _ rfl, kx.c 2 _ rfl, kx.c 3 _ rfl, kx.c 4 _ rfl, kx.c 5 _ rfl⟩)
       refine wp_region_held_tail (S := fun W => W.cell? ⟨w.heap.size, 0, none⟩ = some (.int .i64 (k.o : Int)) ∧ W.cell? ⟨w.heap.size, 1, none⟩ = some (.int .i64 (k.l : Int)) ∧ W.cell? ⟨w.heap.size, 2, none⟩ = some (.int .i64 (k.m : Int)) ∧ W.cell? ⟨w.heap.size, 3, none⟩ = some (.slice A k.ps.length c) ∧ W.cell? ⟨w.heap.size, 4, none⟩ = some (.int .i64 (k.base : Int)) ∧ W.cell? ⟨w.heap.size, 5, none⟩ = some (.int .i64 k.lastI)) 13 (by kernel_rfl) (by kernel_rfl) (hSX.out _ (Below.refl _ _).drew) (fun hS => ?_)
       have hb7 := Lib.hid ((Below.refl w6.heap.size w6).drew)
       refine heldAny_take (i := 0) (v := ?_) rfl (by kernel_rfl) (by kernel_rfl) (by kernel_rfl) (by kernel_rfl) (fun _ _ _ h => h) (Or.inl ⟨by rfl, ?_⟩) (by assumption) ?_
       rotate_left
       ·(intro wS hSw; (try dsimp only at hSw); go_split_ands; go_simp; all_goals with_reducible rfl)
       try simp only [Act.put]
       refine heldAny_take (i := 1) (v := ?_) rfl (by kernel_rfl) (by kernel_rfl) (by kernel_rfl) (by kernel_rfl) (fun _ _ _ h => h) (Or.inl ⟨by rfl, ?_⟩) (by assumption) ?_
       rotate_left
       ·(intro wS hSw; (try dsimp only at hSw); go_split_ands; go_simp; all_goals with_reducible rfl)
       try simp only [Act.put]
       refine heldAny_take (i := 2) (v := ?_) rfl (by kernel_rfl) (by kernel_rfl) (by kernel_rfl) (by kernel_rfl) (fun _ _ _ h => h) (Or.inl ⟨by rfl, ?_⟩) (by assumption) ?_
       rotate_left
       ·(intro wS hSw; (try dsimp only at hSw); go_split_ands; go_simp; all_goals with_reducible rfl)
       try simp only [Act.put]
       refine heldAny_take (i := 3) (v := ?_) rfl (by kernel_rfl) (by kernel_rfl) (by kernel_rfl) (by kernel_rfl) (fun _ _ _ h => h) (Or.inl ⟨by rfl, ?_⟩) (by assumption) ?_
       rotate_left
       ·(intro wS hSw; (try dsimp only at hSw); go_split_ands; go_simp; all_goals with_reducible rfl)
       try simp only [Act.put]
       refine heldAny_take (i := 4) (v := ?_) rfl (by kernel_rfl) (by kernel_rfl) (by kernel_rfl) (by kernel_rfl) (fun _ _ _ h => h) (Or.inl ⟨by rfl, ?_⟩) (by assumption) ?_
       rotate_left
       ·(intro wS hSw; (try dsimp only at hSw); go_split_ands; go_simp; all_goals with_reducible rfl)
       try simp only [Act.put]
       refine heldAny_take (i := 5) (v := ?_) rfl (by kernel_rfl) (by kernel_rfl) (by kernel_rfl) (by kernel_rfl) (fun _ _ _ h => h) (Or.inl ⟨by rfl, ?_⟩) (by assumption) ?_
       rotate_left
       ·(intro wS hSw; (try dsimp only at hSw); go_split_ands; go_simp; all_goals with_reducible rfl)
       try simp only [Act.put]
       refine heldAny_take (i := 6) (v := ?_) rfl (by kernel_rfl) (by kernel_rfl) (by kernel_rfl) (by kernel_rfl) (fun _ _ _ h => h) (Or.inl ⟨by rfl, ?_⟩) (by assumption) ?_
       rotate_left
       ·(intro wS hSw; (try dsimp only at hSw); go_split_ands; go_simp; all_goals with_reducible rfl)
       try simp only [Act.put]
       refine heldAny_take (i := 7) (v := ?_) rfl (by kernel_rfl) (by kernel_rfl) (by kernel_rfl) (by kernel_rfl) (fun _ _ _ h => h) (Or.inl ⟨by rfl, ?_⟩) (by assumption) ?_
       rotate_left
       ·(intro wS hSw; (try dsimp only at hSw); go_split_ands; go_simp; all_goals with_reducible rfl)
       try simp only [Act.put]
       refine heldAny_take (i := 8) (v := ?_) rfl (by kernel_rfl) (by kernel_rfl) (by kernel_rfl) (by kernel_rfl) (fun _ _ _ h => h) (Or.inl ⟨by rfl, ?_⟩) (by assumption) ?_
       rotate_left
       ·(intro wS hSw; (try dsimp only at hSw); go_split_ands; go_simp; all_goals with_reducible rfl)
       try simp only [Act.put]
       refine heldAny_take (i := 9) (v := ?_) rfl (by kernel_rfl) (by kernel_rfl) (by kernel_rfl) (by kernel_rfl) (fun _ _ _ h => h) (Or.inl ⟨by rfl, ?_⟩) (by assumption) ?_
       rotate_left
       ·(intro wS hSw; (try dsimp only at hSw); go_split_ands; go_simp; all_goals with_reducible rfl)
       try simp only [Act.put]
       refine heldAny_one (i := 10) rfl (by kernel_rfl) (by kernel_rfl) (fun K hK => ?_)
       go_simp
       go_at_call 62
       refine (hB4.out _ hb7.out).mono ?_
       rintro e w8 ⟨rfl, hb8⟩
       have hb8x := Lib.hid (hb7.out.trans (hb8.mono hb7.out.size))
       have hO8 := own_below O6.out hb8x.out (Nat.le_refl _)
       have hs8 : w.heap.size + 1 ≤ w8.heap.size := by have := hb8x.out.size; have := K6.out.lt; omega
       refine hK.out _ _ (hSX.out _ hb8x.out) (fun hS => ?_)
       try simp only [Act.put]
       clear hK K hb8
       refine heldAny_one (i := 11) rfl (by kernel_rfl) (by kernel_rfl) (fun K hK => ?_)
       go_simp
       refine hK.out _ _ (hSX.out _ (hb8x.out.alloc hb8x.out.size _)) (fun hS => ?_)
       try simp only [Act.put]
       clear hK K
       refine heldAny_one (i := 12) rfl (by kernel_rfl) (by kernel_rfl) (fun K hK => ?_)
       refine step_append_row _ elemBlk (by rfl) (.tmp 43) (.tmp 54) (by rfl) (w.heap.size + 1) _ _ _ (by rfl) (hO8.alloc _) _ _ 1 1 [.int .i64 (z0 : Int), .bool z1, .int .i64 (z2 : Int), .string z3] (by rfl) (Row.newAt _ _ rfl _ [.int .i64 (z0 : Int), .bool z1, .int .i64 (z2 : Int), .string z3] 1 4 rfl) ?_ ?_ ?_ ?_ ?_
       ·intro z hz; simp at hz; rcases hz with rfl | rfl | rfl | rfl <;> rfl
       ·unfold maxLen; omega
       ·omega
       ·first | omega | (simp; omega)
       ·intro ve we hve hge _
        obtain ⟨Ae, ce, rfl, _, _⟩ := own_form hve
        have hgx := fun g (hg : (Value.slice A' mm c').ownBlock = some g) => (hO8.lt g hg).1
        have hKe := Lib.hid (((K6.out.below hb8x.out).below ((Below.refl _ _).alloc (Nat.le_refl _) _)).keep (Keep.of_grown hge (S := fun g => (Value.slice A' mm c').ownBlock = some g) (fun g e => Or.inl e)) (fun e => by have := hgx _ e; omega))
        have hbE := Lib.hid (((b6.out.trans (hb8x.out.mono b6.out.size)).alloc (by omega) _).grown hge (by simp; omega) (fun g hg => by have := hgx g hg; omega))
        have hOe : Hid (we.ownsRow (w.heap.size + 1) 36 4 (.slice Ae (mm + 1) ce) (mm + 1) (cellsB (acc ++ [pb]))) := Lib.hid (by rw [hcbp.out]; exact hve)
        refine hK.out _ _ ⟨hKe.out.c 0 _ rfl, hKe.out.c 1 _ rfl, hKe.out.c 2 _ rfl, hKe.out.c 3 _ rfl, hKe.out.c 4 _ rfl, hKe.out.c 5 _ rfl⟩ (fun hS => ?_)
        try simp only [Act.put]
        refine heldAny_done (by kernel_rfl) ⟨by kernel_rfl, ?_⟩
        simp only [List.drop_succ_cons, List.drop_zero]
        clear hK K hS hve hge hO8 hgx hSX hB4 hb7 hb8x O6 K6 b6
        go_wp2_with fail
        go_roundw
        case rel => exact ⟨Ae, ce, j + 1, p2, mm + 1, acc ++ [pb], rfl, rfl, rfl, by omega, hp2, by omega, hal2, hcut2, hOe, hKe, hbE⟩
        case measure => simp [intOf]; omega
     ·have i1 : ((st : Int) == (p : Int)) = false := by rw [beq_eq_false_iff_ne]; omega
      have i3 : (st == p) = false := by rw [beq_eq_false_iff_ne]; exact h9
      have i5 : decide ((st : Int) = (p : Int)) = false := decide_eq_false (by omega)
      have i7 : decide (st = p) = false := decide_eq_false h9
      clear hc0 hdr hb hbv hx0 hx1 hx2 hx3 hob hcut hskip hwh hcb h9 hbo
      go_wp2_with fail
      refine (hDb.out w5 b5.out).mono ?_
      rintro e w6 ⟨rfl, hb6⟩
      have hb6x := Lib.hid (hb5.out.trans (hb6.mono (by have := X5.out.lt; have := hb5.out.size; omega)))
      obtain ⟨oo6, kk6, bb6⟩ := hAll.out _ hb6x.out
      have O6 := Lib.hid oo6
      have K6 := Lib.hid kk6
      have b6 := Lib.hid bb6
      clear oo6 kk6 bb6 hb6 y0 y1 y2 y3 q0 q1 q2 q3 q4 q5 O5 K5 b5 X5 hb5 hb6x hDb
      rcases bo with _ | D
      ·obtain rfl : sb = false := hsb.symm
       have hn2 := Lib.hid (hno.out rfl)
       clear hno hyes hDl hM' hAll
       go_wp2_with fail
       refine bodyPost_ret (v := .tuple #[.slice none 0 0, .bool false]) (by simp [results, Tryz.results71, go_sem]) rfl ?_
       exact ⟨none, 0, 0, by rw [hn2.out]; rfl, (fun r hr => by rw [hn2.out] at hr; cases hr), b6.out⟩
      ·obtain rfl : sb = true := hsb.symm
       have hcut2 := Lib.hid (hyes.out D rfl)
       have hDx := hDl D rfl
       have hDs : (bsL D).size = x2 := hDx
       have hB2 := hM'.out ((D.drop sp).take (en - st)) (by rw [List.length_take, List.length_drop]; omega) w6
       obtain ⟨T, hT⟩ : ∃ T, bsL ((D.drop sp).take (en - st)) = T := ⟨_, rfl⟩
       obtain ⟨pb, hpb⟩ : ∃ pb, k.block ((D.drop sp).take (en - st)) = pb := ⟨_, rfl⟩
       rw [hT, hpb] at hB2
       rw [hpb] at hcut2
       have hpv : pb.val = .agg #[.int .i64 pb.num, .bool pb.raw, .int .i64 pb.size, .string pb.body] := rfl
       rw [hpv] at hB2
       obtain ⟨z0, hz0⟩ : ∃ x : Nat, pb.num = x := ⟨_, rfl⟩
       obtain ⟨z1, hz1⟩ : ∃ x, pb.raw = x := ⟨_, rfl⟩
       obtain ⟨z2, hz2⟩ : ∃ x : Nat, pb.size = x := ⟨_, rfl⟩
       obtain ⟨z3, hz3⟩ : ∃ x, pb.body = x := ⟨_, rfl⟩
       have hcbp : Hid (cellsB (acc ++ [pb]) = cellsB acc ++ [.int .i64 (z0 : Int), .bool z1, .int .i64 (z2 : Int), .string z3]) := Lib.hid (by rw [cellsB_append, cellsB_one, ← hz0, ← hz1, ← hz2, ← hz3]; rfl)
       rw [hz0, hz1, hz2, hz3] at hB2
       have hal2 := Lib.hid (hal2' pb)
       have hsl : (bsL D).extract sp ep = T := by rw [← hT, show en - st = ep - sp by omega]; exact bsL_part _ _ _
       obtain ⟨XD, hXD⟩ : ∃ X, bsL D = X := ⟨_, rfl⟩
       have hR2 : R = XD := by rw [← hXD, ← hR.out]; rfl
       rw [hXD] at hDs hsl
       subst hR2
       have j0 : (0 : Int) ≤ sp := by omega
       have j1 : (sp : Int) ≤ ep := by omega
       have j2 : (ep : Int) ≤ x2 := by omega
       have hB3 := Lib.hid (fun W (hb : Below w6.heap.size w6 W) => hM'.out ((D.drop sp).take (en - st)) (by rw [List.length_take, List.length_drop]; omega) W (b6.out.trans (hb.mono b6.out.size)))
       have hB4 : Hid (∀ W, Below w6.heap.size w6 W → Calls Tryz.prog 62 #[.agg #[.int .i64 (k.o : Int), .int .i64 (k.l : Int), .int .i64 (k.m : Int), .slice A k.ps.length c, .int .i64 (k.base : Int), .int .i64 k.lastI], .string T] W fun e w' => e = .returned (.agg #[.int .i64 (z0 : Int), .bool z1, .int .i64 (z2 : Int), .string z3]) ∧ Below W.heap.size W w') := Lib.hid (fun W hb => by
        have := hB3.out W hb
        rw [hT, hpb, hpv, hz0, hz1, hz2, hz3] at this
        exact this)
       clear hB2 hB3 hno hyes hDl hM' hAll hT hpb hpv hz0 hz1 hz2 hz3 hXD hR hDx
       go_upto_region 11 with (fail)
       have hSX : Hid (∀ W, Below w6.heap.size w6 W → W.cell? ⟨w.heap.size, 0, none⟩ = some (.int .i64 (k.o : Int)) ∧ W.cell? ⟨w.heap.size, 1, none⟩ = some (.int .i64 (k.l : Int)) ∧ W.cell? ⟨w.heap.size, 2, none⟩ = some (.int .i64 (k.m : Int)) ∧ W.cell? ⟨w.heap.size, 3, none⟩ = some (.slice A k.ps.length c) ∧ W.cell? ⟨w.heap.size, 4, none⟩ = some (.int .i64 (k.base : Int)) ∧ W.cell? ⟨w.heap.size, 5, none⟩ = some (.int .i64 k.lastI)) := Lib.hid (fun W hW => by
        have kx := K6.out.below hW
        exact ⟨kx.c 0 _ rfl, kx.c 1 _ rfl, kx.c 2 _ rfl, kx.c 3 _ rfl, kx.c 4 _ rfl, kx.c 5 _ rfl⟩)
       refine wp_region_held_tail (S := fun W => W.cell? ⟨w.heap.size, 0, none⟩ = some (.int .i64 (k.o : Int)) ∧ W.cell? ⟨w.heap.size, 1, none⟩ = some (.int .i64 (k.l : Int)) ∧ W.cell? ⟨w.heap.size, 2, none⟩ = some (.int .i64 (k.m : Int)) ∧ W.cell? ⟨w.heap.size, 3, none⟩ = some (.slice A k.ps.length c) ∧ W.cell? ⟨w.heap.size, 4, none⟩ = some (.int .i64 (k.base : Int)) ∧ W.cell? ⟨w.heap.size, 5, none⟩ = some (.int .i64 k.lastI)) 13 (by kernel_rfl) (by kernel_rfl) (hSX.out _ (Below.refl _ _).drew) (fun hS => ?_)
       have hb7 := Lib.hid ((Below.refl w6.heap.size w6).drew)
       refine heldAny_take (i := 0) (v := ?_) rfl (by kernel_rfl) (by kernel_rfl) (by kernel_rfl) (by kernel_rfl) (fun _ _ _ h => h) (Or.inl ⟨by rfl, ?_⟩) (by assumption) ?_
       rotate_left
       ·(intro wS hSw; (try dsimp only at hSw); go_split_ands; go_simp; all_goals with_reducible rfl)
       try simp only [Act.put]
       refine heldAny_take (i := 1) (v := ?_) rfl (by kernel_rfl) (by kernel_rfl) (by kernel_rfl) (by kernel_rfl) (fun _ _ _ h => h) (Or.inl ⟨by rfl, ?_⟩) (by assumption) ?_
       rotate_left
       ·(intro wS hSw; (try dsimp only at hSw); go_split_ands; go_simp; all_goals with_reducible rfl)
       try simp only [Act.put]
       refine heldAny_take (i := 2) (v := ?_) rfl (by kernel_rfl) (by kernel_rfl) (by kernel_rfl) (by kernel_rfl) (fun _ _ _ h => h) (Or.inl ⟨by rfl, ?_⟩) (by assumption) ?_
       rotate_left
       ·(intro wS hSw; (try dsimp only at hSw); go_split_ands; go_simp; all_goals with_reducible rfl)
       try simp only [Act.put]
       refine heldAny_take (i := 3) (v := ?_) rfl (by kernel_rfl) (by kernel_rfl) (by kernel_rfl) (by kernel_rfl) (fun _ _ _ h => h) (Or.inl ⟨by rfl, ?_⟩) (by assumption) ?_
       rotate_left
       ·(intro wS hSw; (try dsimp only at hSw); go_split_ands; go_simp; all_goals with_reducible rfl)
       try simp only [Act.put]
       refine heldAny_take (i := 4) (v := ?_) rfl (by kernel_rfl) (by kernel_rfl) (by kernel_rfl) (by kernel_rfl) (fun _ _ _ h => h) (Or.inl ⟨by rfl, ?_⟩) (by assumption) ?_
       rotate_left
       ·(intro wS hSw; (try dsimp only at hSw); go_split_ands; go_simp; all_goals with_reducible rfl)
       try simp only [Act.put]
       refine heldAny_take (i := 5) (v := ?_) rfl (by kernel_rfl) (by kernel_rfl) (by kernel_rfl) (by kernel_rfl) (fun _ _ _ h => h) (Or.inl ⟨by rfl, ?_⟩) (by assumption) ?_
       rotate_left
       ·(intro wS hSw; (try dsimp only at hSw); go_split_ands; go_simp; all_goals with_reducible rfl)
       try simp only [Act.put]
       refine heldAny_take (i := 6) (v := ?_) rfl (by kernel_rfl) (by kernel_rfl) (by kernel_rfl) (by kernel_rfl) (fun _ _ _ h => h) (Or.inl ⟨by rfl, ?_⟩) (by assumption) ?_
       rotate_left
       ·(intro wS hSw; (try dsimp only at hSw); go_split_ands; go_simp; all_goals with_reducible rfl)
       try simp only [Act.put]
       refine heldAny_take (i := 7) (v := ?_) rfl (by kernel_rfl) (by kernel_rfl) (by kernel_rfl) (by kernel_rfl) (fun _ _ _ h => h) (Or.inl ⟨by rfl, ?_⟩) (by assumption) ?_
       rotate_left
       ·(intro wS hSw; (try dsimp only at hSw); go_split_ands; go_simp; all_goals with_reducible rfl)
       try simp only [Act.put]
       refine heldAny_take (i := 8) (v := ?_) rfl (by kernel_rfl) (by kernel_rfl) (by kernel_rfl) (by kernel_rfl) (fun _ _ _ h => h) (Or.inl ⟨by rfl, ?_⟩) (by assumption) ?_
       rotate_left
       ·(intro wS hSw; (try dsimp only at hSw); go_split_ands; go_simp; all_goals with_reducible rfl)
       try simp only [Act.put]
       refine heldAny_take (i := 9) (v := ?_) rfl (by kernel_rfl) (by kernel_rfl) (by kernel_rfl) (by kernel_rfl) (fun _ _ _ h => h) (Or.inl ⟨by rfl, ?_⟩) (by assumption) ?_
       rotate_left
       ·(intro wS hSw; (try dsimp only at hSw); go_split_ands; go_simp; all_goals with_reducible rfl)
       try simp only [Act.put]
       refine heldAny_one (i := 10) rfl (by kernel_rfl) (by kernel_rfl) (fun K hK => ?_)
       go_simp
       go_at_call 62
       refine (hB4.out _ hb7.out).mono ?_
       rintro e w8 ⟨rfl, hb8⟩
       have hb8x := Lib.hid (hb7.out.trans (hb8.mono hb7.out.size))
       have hO8 := own_below O6.out hb8x.out (Nat.le_refl _)
       have hs8 : w.heap.size + 1 ≤ w8.heap.size := by have := hb8x.out.size; have := K6.out.lt; omega
       refine hK.out _ _ (hSX.out _ hb8x.out) (fun hS => ?_)
       try simp only [Act.put]
       clear hK K hb8
       refine heldAny_one (i := 11) rfl (by kernel_rfl) (by kernel_rfl) (fun K hK => ?_)
       go_simp
       refine hK.out _ _ (hSX.out _ (hb8x.out.alloc hb8x.out.size _)) (fun hS => ?_)
       try simp only [Act.put]
       clear hK K
       refine heldAny_one (i := 12) rfl (by kernel_rfl) (by kernel_rfl) (fun K hK => ?_)
       refine step_append_row _ elemBlk (by rfl) (.tmp 43) (.tmp 54) (by rfl) (w.heap.size + 1) _ _ _ (by rfl) (hO8.alloc _) _ _ 1 1 [.int .i64 (z0 : Int), .bool z1, .int .i64 (z2 : Int), .string z3] (by rfl) (Row.newAt _ _ rfl _ [.int .i64 (z0 : Int), .bool z1, .int .i64 (z2 : Int), .string z3] 1 4 rfl) ?_ ?_ ?_ ?_ ?_
       ·intro z hz; simp at hz; rcases hz with rfl | rfl | rfl | rfl <;> rfl
       ·unfold maxLen; omega
       ·omega
       ·first | omega | (simp; omega)
       ·intro ve we hve hge _
        obtain ⟨Ae, ce, rfl, _, _⟩ := own_form hve
        have hgx := fun g (hg : (Value.slice A' mm c').ownBlock = some g) => (hO8.lt g hg).1
        have hKe := Lib.hid (((K6.out.below hb8x.out).below ((Below.refl _ _).alloc (Nat.le_refl _) _)).keep (Keep.of_grown hge (S := fun g => (Value.slice A' mm c').ownBlock = some g) (fun g e => Or.inl e)) (fun e => by have := hgx _ e; omega))
        have hbE := Lib.hid (((b6.out.trans (hb8x.out.mono b6.out.size)).alloc (by omega) _).grown hge (by simp; omega) (fun g hg => by have := hgx g hg; omega))
        have hOe : Hid (we.ownsRow (w.heap.size + 1) 36 4 (.slice Ae (mm + 1) ce) (mm + 1) (cellsB (acc ++ [pb]))) := Lib.hid (by rw [hcbp.out]; exact hve)
        refine hK.out _ _ ⟨hKe.out.c 0 _ rfl, hKe.out.c 1 _ rfl, hKe.out.c 2 _ rfl, hKe.out.c 3 _ rfl, hKe.out.c 4 _ rfl, hKe.out.c 5 _ rfl⟩ (fun hS => ?_)
        try simp only [Act.put]
        refine heldAny_done (by kernel_rfl) ⟨by kernel_rfl, ?_⟩
        simp only [List.drop_succ_cons, List.drop_zero]
        clear hK K hS hve hge hO8 hgx hSX hB4 hb7 hb8x O6 K6 b6
        go_wp2_with fail
        go_roundw
        case rel => exact ⟨Ae, ce, j + 1, p2, mm + 1, acc ++ [pb], rfl, rfl, rfl, by omega, hp2, by omega, hal2, hcut2, hOe, hKe, hbE⟩
        case measure => simp [intOf]; omega
  ·have hfin : u = some acc := by
    rw [hcut.out, List.drop_of_length_le (by rw [hlen'.out]; omega)]
    simp [Kn.cut]
   replace hfin := Lib.hid hfin
   have hO9 := Lib.hid (own_base (base' := w.heap.size) hO.out (by omega))
   go_wp2_with fail
   refine bodyPost_ret (v := .tuple #[.slice A' mm c', .bool true]) (by simp [results, Tryz.results71, go_sem]) rfl ?_
   exact ⟨A', mm, c', by rw [hfin.out]; rfl, (fun r hr => by rw [hfin.out] at hr; injection hr with hr; subst hr; exact ⟨hal.out, hO9.out⟩), hbel.out⟩

end Go.Proofs.YthlgpgaeajfchaaGreat

