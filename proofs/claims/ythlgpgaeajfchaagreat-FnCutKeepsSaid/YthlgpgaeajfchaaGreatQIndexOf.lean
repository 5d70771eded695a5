/-
 The program's IndexOf, of a container that is read: where its blocks begin in the data.
-/
import Derived.Test.YthlgpgaeajfchaaGreatQPropR
import Derived.Test.YthlgpgaeajfchaaGreatQTreeMem
import Derived.Test.YthlgpgaeajfchaaGreatQImplTLearn

namespace Go.Proofs.YthlgpgaeajfchaaGreat
open Go.RowKit
set_option linter.unusedVariables false
set_option linter.unusedSimpArgs false
set_option maxRecDepth 100000

def PlOk (bs : List Blk) (n j : Nat) (xs : List Value) : Prop := xs.length = n * 2 ∧ ∀ i, i < j → xs[i * 2 + 1]? = some (.int .i64 (szs (bs.take i) : Int))

theorem PlOk.set {bs : List Blk} {n j : Nat} {xs : List Value} (h : PlOk bs n j xs) (hj : j < n) (v : Value) {q : Nat} (hq : szs (bs.take j) = q) : PlOk bs n (j + 1) ((xs.set (j * 2) v).set (j * 2 + 1) (.int .i64 (q : Int))) := by
 subst hq
 refine ⟨by rw [List.length_set, List.length_set]; exact h.1, fun i hi => ?_⟩
 have hl := h.1
 by_cases e : i = j
 ·subst e
  rw [List.getElem?_set_self (by rw [List.length_set]; omega)]
 ·rw [List.getElem?_set_ne (by omega), List.getElem?_set_ne (by omega)]
  exact h.2 i (by omega)

theorem infoPl : (Tryz.prog.info? 46).map (fun i => (i.zero, i.size, i.bytes)) = some (some (.agg #[.int .i64 0, .int .i64 0]), 2, 16) := by kernel_rfl

set_option maxHeartbeats 4000000 in
theorem implIndexOf (s : ByteArray) (bs : List Blk) (n : Nat) (w : World) (hs : s.size ≤ 1048576) (h : contB s = some bs) (hn : bs.length = n) :
  Calls Tryz.prog 26 #[.string s] w fun e w' => ∃ A c xs, e = .returned (.tuple #[.slice A n c, .bool true]) ∧ PlOk bs n n xs ∧ Row w' w'.heap.size 2 A n xs ∧ Below w.heap.size w w' := by
 have hnum := contB_numbered h
 have h40 := hnum.length
 have hok := numbered_okb hnum
 have hz := contB_szs h
 have H1 := Lib.hid (fun W => implContainerBlocksYes s bs n W hs h hn)
 rw [hn] at h40
 replace hn := Lib.hid hn
 replace hok := Lib.hid hok
 replace hz := Lib.hid hz
 clear h hnum
 obtain ⟨i0, hi0, hz0, hzi, hz2⟩ := info_parts infoPl
 have hmk := fun W => run_make_rowN (P := Tryz.prog) 40 46 i0 _ Tryz.underlying40 hi0 hz0 .i64 .i64 n n (Nat.le_refl _) (by rw [hz2]; omega) (by omega) W
 obtain ⟨cs, hcs⟩ : ∃ cs, madeCells (Value.agg #[.int .i64 0, .int .i64 0]).cells (n * i0.size) = cs := ⟨_, rfl⟩
 have hcsz : cs.size = n * 2 := by rw [← hcs, hzi]; simp [madeCells]
 rw [hcs] at hmk
 have hP0 : Hid (PlOk bs n 0 cs.toList) := Lib.hid ⟨by simpa using hcsz, fun i hi => absurd hi (Nat.not_lt_zero _)⟩
 clear hcs hi0 hz0 hzi hz2
 go_enter Tryz.func26, Tryz.ntmps26
 go_wp2_with fail
 refine (H1.out _).mono ?_
 rintro e w1 ⟨A1, c1, rfl, ho1, hb1⟩
 have hr := Lib.hid (Row.of_own ho1)
 have hz1 := hb1.size
 replace hb1 := Lib.hid hb1
 have hal : Below w1.heap.size w1 ((w1.alloc (.cells cs 46)).alloc (.cells #[.int .i64 0, .int .i64 0] 46)) := ((Below.refl _ _).alloc (Nat.le_refl _) _).alloc (by simp) _
 have own3 : ((w1.alloc (.cells cs 46)).alloc (.cells #[.int .i64 0, .int .i64 0] 46)).ownsRow w1.heap.size 46 2 (.slice (some ⟨w1.heap.size, 0, none⟩) n n) n cs.toList := (World.ownsRow_lit (size := 2) w1 cs n (Nat.le_refl _) (by unfold maxLen; omega) hcsz).alloc _
 have nb3 : KBn ((w1.alloc (.cells cs 46)).alloc (.cells #[.int .i64 0, .int .i64 0] 46)) (w1.heap.size + 1) [.int .i64 0, .int .i64 0] := by
  have := KBn.start (w1.alloc (.cells cs 46)) 46 [.int .i64 0, .int .i64 0]
  rw [World.size_alloc] at this
  exact this
 clear ho1 hcsz
 go_upto_region 6 with (fail)
 clear hmk
 obtain ⟨L, hL⟩ : ∃ L, w1.heap.size = L := ⟨_, rfl⟩
 obtain ⟨w3, hw3⟩ : ∃ W, (w1.alloc (.cells cs 46)).alloc (.cells #[.int .i64 0, .int .i64 0] 46) = W := ⟨_, rfl⟩
 rw [hw3] at hal own3 nb3 ⊢
 rw [hL] at hal own3 nb3 hz1 hr ⊢
 clear hw3
 replace hL := Lib.hid hL
 replace hal := Lib.hid hal
 replace own3 := Lib.hid own3
 replace nb3 := Lib.hid nb3
 go_wp2_with fail
 go_loopw [23] (fun i wr => ∃ (j a p : Nat) (xs : List Value), i = .int .i64 (j : Int) ∧ j ≤ n ∧ a ≤ 74 * j ∧ p ≤ 64 * j ∧ Hid (szs (bs.take j) = p) ∧ Hid (PlOk bs n j xs) ∧ Hid (wr.ownsRow L 46 2 (.slice (some ⟨L, 0, none⟩) n n) n xs) ∧ Hid (KBn wr (L + 1) [.int .i64 (a : Int), .int .i64 (p : Int)]) ∧ Hid (Below L w1 wr)) (fun i _ => n - (intOf i).toNat)
 case atStart => exact ⟨0, 0, 0, cs.toList, rfl, Nat.zero_le _, Nat.zero_le _, Nat.zero_le _, Lib.hid rfl, hP0, own3, nb3, hal⟩
 case round =>
  obtain ⟨j, a, p, xs, rfl, hj, ha, hp, hpz, hP, hO, hN, hbel⟩ := hrel
  clear own3 nb3 hal hP0
  have hwz := hN.out.lt
  by_cases hlt : j < n
  ·obtain ⟨b, hb⟩ : ∃ b, bs[j]? = some b := ⟨_, List.getElem?_eq_getElem (by rw [hn.out]; exact hlt)⟩
   obtain ⟨g, off, rfl, hg, p0, p1, p2', p3⟩ := (hr.out.below hbel.out (Nat.le_refl _)).blk (num := b.num) (raw := b.raw) (size := b.size) (body := b.body) hlt hb
   have hob := hok.out b (List.mem_of_getElem? hb)
   have h64 := hob.2.1
   have hbd := Blk.okb_body hob
   have hsk := szs_take_succ bs j b hb
   rw [hpz.out] at hsk
   obtain ⟨x0, hx0⟩ : ∃ x : Nat, b.num = x := ⟨_, rfl⟩
   obtain ⟨x1, hx1⟩ : ∃ x, b.raw = x := ⟨_, rfl⟩
   obtain ⟨x2, hx2⟩ : ∃ x : Nat, b.size = x := ⟨_, rfl⟩
   obtain ⟨x3, hx3⟩ : ∃ x, b.body = x := ⟨_, rfl⟩
   rw [hx0] at p0
   rw [hx1] at p1
   rw [hx2] at p2' hsk h64
   rw [hx3] at p3 hbd
   obtain ⟨p2, hp2e⟩ : ∃ z, p + x2 = z := ⟨_, rfl⟩
   rw [hp2e] at hsk
   have hp2 : p2 ≤ 64 * (j + 1) := by omega
   have ep2 : (p : Int) + x2 = p2 := by omega
   have wp2 : IntKind.i64.wrap (p2 : Int) = p2 := IntWalk.i64_in _ (by omega)
   obtain ⟨xl, hxl⟩ : ∃ z, x3.size = z := ⟨_, rfl⟩
   obtain ⟨t1, ht1⟩ : ∃ z : Nat, (10 : Int) + xl = z := ⟨10 + xl, by omega⟩
   have wt1 : IntKind.i64.wrap (t1 : Int) = t1 := IntWalk.i64_in _ (by omega)
   obtain ⟨a2, ha2⟩ : ∃ z : Nat, (a : Int) + t1 = z := ⟨a + t1, by omega⟩
   have wa2 : IntKind.i64.wrap (a2 : Int) = a2 := IntWalk.i64_in _ (by omega)
   have ha3 : a2 ≤ 74 * (j + 1) := by omega
   have hj0 : (0 : Int) ≤ j := by omega
   have hji : (j : Int) < n := by omega
   have hpz2 : Hid (szs (bs.take (j + 1)) = p2) := Lib.hid hsk
   have hbl5 := (Below.refl wr.heap.size wr).alloc (Nat.le_refl _) (.cells #[.int .i64 (x0 : Int), .bool x1, .int .i64 (x2 : Int), .string x3] 36)
   have hb5 := Lib.hid (hbel.out.trans (hbl5.mono (by omega)))
   have O5 := own_below hO.out hbl5 (Nat.le_refl _)
   have N5 := hN.out.below hbl5
   have X5 := KBn.start wr 36 [.int .i64 (x0 : Int), .bool x1, .int .i64 (x2 : Int), .string x3]
   change KBn (wr.alloc (.cells #[.int .i64 (x0 : Int), .bool x1, .int .i64 (x2 : Int), .string x3] 36)) _ _ at X5
   replace hp2e := Lib.hid hp2e
   clear hbl5 hO hN hbel hx0 hx1 hx2 hx3 hb hsk
   go_upto_region 9 with (fail)
   obtain ⟨X, hX⟩ : ∃ X, wr.heap.size = X := ⟨_, rfl⟩
   obtain ⟨w5, hw5⟩ : ∃ W, wr.alloc (.cells #[.int .i64 (x0 : Int), .bool x1, .int .i64 (x2 : Int), .string x3] 36) = W := ⟨_, rfl⟩
   rw [hw5] at hb5 X5 O5 N5 ⊢
   rw [hX] at X5 hwz ⊢
   clear hw5 hX p0 p1 p2' p3
   obtain ⟨g2, hA2, hgb, hglt, hmc, hcell, hfz⟩ := own_place O5 (by omega)
   injection hA2 with hA2
   injection hA2 with hA2
   subst hA2
   have hxsl := hP.out.1
   have f0 := hfz (j * 2)
   have f1 := hfz (j * 2 + 1)
   have y0 := hcell (j * 2) _ (List.getElem?_eq_getElem (by omega))
   have y1 := hcell (j * 2 + 1) _ (List.getElem?_eq_getElem (by omega))
   have q0 := N5.c 0 _ rfl
   have q1 := N5.c 1 _ rfl
   have hO6 := Lib.hid (own_set (i := j * 2 + 1) (own_set (i := j * 2) O5 rfl (.int .i64 (a : Int))) rfl (.int .i64 (p : Int)))
   have hN6 := (N5.keep (S := fun x => x = L) (Keep.of_set (S := fun x => x = L) (w := w5) (p := ⟨L, j * 2, none⟩) rfl (.int .i64 (a : Int))) (by omega)).keep (S := fun x => x = L) (Keep.of_set (S := fun x => x = L) (p := ⟨L, j * 2 + 1, none⟩) rfl (.int .i64 (p : Int))) (by omega)
   have hX6 := (X5.keep (S := fun x => x = L) (Keep.of_set (S := fun x => x = L) (w := w5) (p := ⟨L, j * 2, none⟩) rfl (.int .i64 (a : Int))) (by omega)).keep (S := fun x => x = L) (Keep.of_set (S := fun x => x = L) (p := ⟨L, j * 2 + 1, none⟩) rfl (.int .i64 (p : Int))) (by omega)
   have hB6 := (hb5.out.setCell (p := ⟨L, j * 2, none⟩) (Nat.le_refl _) (.int .i64 (a : Int))).setCell (p := ⟨L, j * 2 + 1, none⟩) (Nat.le_refl _) (.int .i64 (p : Int))
   replace hcell := Lib.hid hcell
   replace hxsl := Lib.hid hxsl
   replace hmc := Lib.hid hmc
   clear hcell hfz O5 N5 X5 hb5
   go_upto_region 10 with (fail)
   clear q0 q1 f0 f1 y0 y1
   obtain ⟨w6, hw6⟩ : ∃ W, (w5.setCell ⟨L, j * 2, none⟩ (.int .i64 (a : Int))).setCell ⟨L, j * 2 + 1, none⟩ (.int .i64 (p : Int)) = W := ⟨_, rfl⟩
   rw [hw6] at hO6 hN6 hX6 hB6 ⊢
   clear hw6
   have q0 := hN6.c 0 _ rfl
   have f0 := hN6.f 0 _ rfl
   have y3 := hX6.c 3 _ rfl
   have hN7 := hN6.set (j := 0) rfl (.int .i64 (a2 : Int))
   change KBn _ _ [.int .i64 (a2 : Int), .int .i64 (p : Int)] at hN7
   have hX7 := hX6.keep (S := fun x => x = L + 1) (Keep.of_set (S := fun x => x = L + 1) (w := w6) (p := ⟨L + 1, 0, none⟩) rfl (.int .i64 (a2 : Int))) (by omega)
   have hO7 := own_keep hO6.out (Keep.of_set (S := fun x => x = L + 1) (w := w6) (p := ⟨L + 1, 0, none⟩) rfl (.int .i64 (a2 : Int))) (fun x e1 e2 => by
    have : L = x := by injection e1
    omega)
   have hB7 := hB6.setCell (p := ⟨L + 1, 0, none⟩) (Nat.le_succ _) (.int .i64 (a2 : Int))
   clear hN6 hX6 hO6 hB6
   go_upto_region 11 with (fail)
   clear q0 f0 y3
   obtain ⟨w7, hw7⟩ : ∃ W, w6.setCell ⟨L + 1, 0, none⟩ (.int .i64 (a2 : Int)) = W := ⟨_, rfl⟩
   rw [hw7] at hO7 hN7 hX7 hB7 ⊢
   clear hw7
   have q1 := hN7.c 1 _ rfl
   have f1 := hN7.f 1 _ rfl
   have y2 := hX7.c 2 _ rfl
   have hN8 := hN7.set (j := 1) rfl (.int .i64 (p2 : Int))
   change KBn _ _ [.int .i64 (a2 : Int), .int .i64 (p2 : Int)] at hN8
   have hO8 := own_keep hO7 (Keep.of_set (S := fun x => x = L + 1) (w := w7) (p := ⟨L + 1, 1, none⟩) rfl (.int .i64 (p2 : Int))) (fun x e1 e2 => by
    have : L = x := by injection e1
    omega)
   have hB8 := Lib.hid (hB7.setCell (p := ⟨L + 1, 1, none⟩) (Nat.le_succ _) (.int .i64 (p2 : Int)))
   replace hN8 := Lib.hid hN8
   replace hO8 := Lib.hid hO8
   have hP8 := Lib.hid (hP.out.set hlt (.int .i64 (a : Int)) hpz.out)
   clear hN7 hX7 hO7 hB7
   go_wp2_with fail
   go_roundw
   case rel => exact ⟨j + 1, a2, p2, _, rfl, by omega, ha3, hp2, hpz2, hP8, hO8, hN8, hB8⟩
   case measure => simp [intOf]; omega
  ·have hjn : j = n := by omega
   have hres := Lib.hid (And.intro hP.out (And.intro (Row.of_own hO.out) (hb1.out.trans (hbel.out.mono (by have := hL.out; omega)))))
   have hji : ¬ ((j : Int) < n) := by omega
   clear hP hO hN hbel
   go_wp2_with fail
   refine bodyPost_ret (v := .tuple #[.slice (some ⟨L, 0, none⟩) n n, .bool true]) (by simp [results, Tryz.results26, go_sem]) rfl ?_
   rw [hjn] at hres
   exact ⟨_, ⟨n, rfl⟩, xs, hres.out.1, hres.out.2.1, hres.out.2.2⟩

end Go.Proofs.YthlgpgaeajfchaaGreat
