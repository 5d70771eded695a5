/-
 The walk of the law FnReplaceKeeps.
-/
import Derived.Test.YthlgpgaeajfchaaGreatPwPropT

namespace Go.Proofs.YthlgpgaeajfchaaGreat
open Go.RowKit
set_option linter.unusedVariables false
set_option linter.unusedSimpArgs false

def n1 (f : Nat) : Nat → List Blk → Nat
 | _, [] => 0
 | p, b :: bs => if p + b.size ≤ f then 1 + n1 f (p + b.size) bs else 0

def n2 (t : Nat) : Nat → List Blk → Nat
 | _, [] => 0
 | p, b :: bs => if t ≤ p then bs.length + 1 else n2 t (p + b.size) bs

def n3 (f t : Nat) : Nat → List Blk → Nat
 | _, [] => 0
 | p, b :: bs => (if p + b.size ≤ f ∨ t ≤ p then 1 else 0) + n3 f t (p + b.size) bs

theorem n1_le (f : Nat) : ∀ (bs : List Blk) (p : Nat), n1 f p bs ≤ bs.length := by
 intro bs
 induction bs with
 | nil => intro p; exact Nat.le_refl _
 | cons b bs ih =>
  intro p
  unfold n1
  split
  ·have := ih (p + b.size); simp only [List.length_cons]; omega
  ·exact Nat.zero_le _

theorem n2_le (t : Nat) : ∀ (bs : List Blk) (p : Nat), n2 t p bs ≤ bs.length := by
 intro bs
 induction bs with
 | nil => intro p; exact Nat.le_refl _
 | cons b bs ih =>
  intro p
  unfold n2
  split
  ·exact Nat.le_refl _
  ·have := ih (p + b.size); simp only [List.length_cons]; omega

theorem n1_zero (f : Nat) (bs : List Blk) (p : Nat) (h : f ≤ p) (hok : ∀ b ∈ bs, b.okb) : n1 f p bs = 0 := by
 cases bs with
 | nil => rfl
 | cons b bs =>
  have := (hok b (List.mem_cons_self ..)).1
  unfold n1
  rw [if_neg (by omega)]

theorem n3_all (f t : Nat) : ∀ (bs : List Blk) (p : Nat), t ≤ p → n3 f t p bs = bs.length := by
 intro bs
 induction bs with
 | nil => intro p _; rfl
 | cons b bs ih =>
  intro p h
  unfold n3
  rw [if_pos (Or.inr h), ih _ (by omega), List.length_cons]
  omega

theorem n3_eq (f t : Nat) (hft : f ≤ t) : ∀ (bs : List Blk) (p : Nat), (∀ b ∈ bs, b.okb) → n3 f t p bs = n1 f p bs + n2 t p bs := by
 intro bs
 induction bs with
 | nil => intro p _; rfl
 | cons b bs ih =>
  intro p hok
  have hb := (hok b (List.mem_cons_self ..)).1
  have hok' : ∀ c ∈ bs, c.okb := fun c hc => hok c (List.mem_cons_of_mem _ hc)
  unfold n3 n1 n2
  by_cases h1 : p + b.size ≤ f
  ·rw [if_pos (Or.inl h1), if_pos h1, if_neg (by omega), ih _ hok']
   omega
  ·rw [if_neg h1]
   by_cases h2 : t ≤ p
   ·rw [if_pos (Or.inr h2), if_pos h2, n3_all f t bs _ (by omega)]
    omega
   ·rw [if_neg (by omega), if_neg h2, ih _ hok', n1_zero f bs _ (by omega) hok']
    omega

theorem cut_first {k : Kn} {f : Nat} : ∀ (bs : List Blk) (p : Nat) (x : List Blk), (∀ b ∈ bs, b.okb) → k.cut 0 f p bs = some x → n1 f p bs ≤ x.length ∧ x.take (n1 f p bs) = bs.take (n1 f p bs) := by
 intro bs
 induction bs with
 | nil => intro p x _ _; exact ⟨Nat.zero_le _, by simp [n1]⟩
 | cons b bs ih =>
  intro p x hok hx
  have hb := (hok b (List.mem_cons_self ..)).1
  unfold n1
  by_cases h1 : p + b.size ≤ f
  ·rw [if_pos h1]
   rw [cut_cons, if_neg (by omega), if_pos (by omega)] at hx
   cases hc : k.cut 0 f (p + b.size) bs with
   | none => rw [hc] at hx; cases hx
   | some r =>
    rw [hc] at hx
    injection hx with hx
    subst hx
    obtain ⟨i1, i2⟩ := ih _ r (fun c hc => hok c (List.mem_cons_of_mem _ hc)) hc
    refine ⟨by simp only [List.length_cons]; omega, ?_⟩
    rw [Nat.add_comm 1, List.take_succ_cons, List.take_succ_cons, i2]
  ·rw [if_neg h1]
   exact ⟨Nat.zero_le _, rfl⟩

theorem cut_last {k : Kn} {t z : Nat} : ∀ (bs : List Blk) (p : Nat) (y : List Blk), (∀ b ∈ bs, b.okb) → p + szs bs ≤ z → k.cut t z p bs = some y → n2 t p bs ≤ y.length ∧ y.drop (y.length - n2 t p bs) = bs.drop (bs.length - n2 t p bs) := by
 intro bs
 induction bs with
 | nil =>
  intro p y _ _ hy
  injection hy with hy
  subst hy
  exact ⟨Nat.zero_le _, rfl⟩
 | cons b bs ih =>
  intro p y hok hz hy
  have hok' : ∀ c ∈ bs, c.okb := fun c hc => hok c (List.mem_cons_of_mem _ hc)
  unfold n2
  by_cases h1 : t ≤ p
  ·have hall := cut_within (k := k) (f := t) (t := z) (b :: bs) [] p hok h1 hz
   rw [List.append_nil] at hall
   rw [hall] at hy
   have he : k.cut t z (p + szs (b :: bs)) [] = some [] := rfl
   rw [he] at hy
   injection hy with hy
   have hy' : b :: bs = y := by rw [← hy]; simp
   subst hy'
   rw [if_pos h1]
   exact ⟨Nat.le_refl _, rfl⟩
  ·rw [if_neg h1]
   rw [szs_cons] at hz
   have hle := n2_le t bs (p + b.size)
   have fin : ∀ (c : Blk) (r : List Blk), n2 t (p + b.size) bs ≤ r.length → r.drop (r.length - n2 t (p + b.size) bs) = bs.drop (bs.length - n2 t (p + b.size) bs) →
     n2 t (p + b.size) bs ≤ (c :: r).length ∧ (c :: r).drop ((c :: r).length - n2 t (p + b.size) bs) = (b :: bs).drop ((b :: bs).length - n2 t (p + b.size) bs) := fun c r i1 i2 => by
    refine ⟨by simp only [List.length_cons]; omega, ?_⟩
    rw [List.length_cons, List.length_cons, Nat.succ_sub i1, Nat.succ_sub hle, List.drop_succ_cons, List.drop_succ_cons, i2]
   have fin0 : ∀ (r : List Blk), n2 t (p + b.size) bs ≤ r.length → r.drop (r.length - n2 t (p + b.size) bs) = bs.drop (bs.length - n2 t (p + b.size) bs) →
     n2 t (p + b.size) bs ≤ r.length ∧ r.drop (r.length - n2 t (p + b.size) bs) = (b :: bs).drop ((b :: bs).length - n2 t (p + b.size) bs) := fun r i1 i2 => by
    refine ⟨i1, ?_⟩
    rw [List.length_cons, Nat.succ_sub hle, List.drop_succ_cons, i2]
   rw [cut_cons] at hy
   split at hy
   ·obtain ⟨i1, i2⟩ := ih _ _ hok' (by omega) hy
    exact fin0 _ i1 i2
   ·split at hy
    ·cases hc : k.cut t z (p + b.size) bs with
     | none => rw [hc] at hy; cases hy
     | some r =>
      rw [hc] at hy
      injection hy with hy
      subst hy
      obtain ⟨i1, i2⟩ := ih _ _ hok' (by omega) hc
      exact fin _ _ i1 i2
    ·cases hd : k.blockData b with
     | none => rw [hd] at hy; cases hy
     | some d =>
      cases hc : k.cut t z (p + b.size) bs with
      | none => rw [hd, hc] at hy; cases hy
      | some r =>
       rw [hd, hc] at hy
       injection hy with hy
       subst hy
       obtain ⟨i1, i2⟩ := ih _ _ hok' (by omega) hc
       exact fin _ _ i1 i2

end Go.Proofs.YthlgpgaeajfchaaGreat

namespace Go.Proofs.YthlgpgaeajfchaaGreat
open Go.RowKit
set_option linter.unusedVariables false
set_option linter.unusedSimpArgs false
set_option maxRecDepth 100000

def PlOk (bs : List Blk) (n j : Nat) (xs : List Value) : Prop := xs.length = n * 2 ∧ ∀ i, i < j → xs[i * 2 + 1]? = some (.int .i64 (szs (bs.take i) : Int))

theorem PlOk.set {bs : List Blk} {n j : Nat} {xs : List Value} (h : PlOk bs n j xs) (hj : j < n) (v : Value) {q : Nat} (hq : szs (bs.take j) = q) : PlOk bs n (j + 1) ((xs.set (j * 2) v).set (j * 2 + 1) (.int .i64 (q : Int))) := by
 subst hq
 refine ⟨by rw [List.length_set, List.length_set]; exact h.1, fun i hi => ?_⟩
 have hl := h.1
 by_cases e : i = j
 ·subst e
  rw [List.getElem?_set_self (by rw [List.length_set]; omega)]
 ·rw [List.getElem?_set_ne (by omega), List.getElem?_set_ne (by omega)]
  exact h.2 i (by omega)

theorem infoPl : (Tryz.prog.info? 46).map (fun i => (i.zero, i.size, i.bytes)) = some (some (.agg #[.int .i64 0, .int .i64 0]), 2, 16) := by kernel_rfl

set_option maxHeartbeats 4000000 in
theorem implIndexOf (s : ByteArray) (bs : List Blk) (n : Nat) (w : World) (hs : s.size ≤ 1048576) (h : contB s = some bs) (hn : bs.length = n) :
  Calls Tryz.prog 26 #[.string s] w fun e w' => ∃ A c xs, e = .returned (.tuple #[.slice A n c, .bool true]) ∧ PlOk bs n n xs ∧ Row w' w'.heap.size 2 A n xs ∧ Below w.heap.size w w' := by
 have hnum := contB_numbered h
 have h40 := hnum.length
 have hok := numbered_okb hnum
 have hz := contB_szs h
 have H1 := Lib.hid (fun W => implContainerBlocksYes s bs n W hs h hn)
 rw [hn] at h40
 replace hn := Lib.hid hn
 replace hok := Lib.hid hok
 replace hz := Lib.hid hz
 clear h hnum
 obtain ⟨i0, hi0, hz0, hzi, hz2⟩ := info_parts infoPl
 have hmk := fun W => run_make_rowN (P := Tryz.prog) 40 46 i0 _ Tryz.underlying40 hi0 hz0 .i64 .i64 n n (Nat.le_refl _) (by rw [hz2]; omega) (by omega) W
 obtain ⟨cs, hcs⟩ : ∃ cs, madeCells (Value.agg #[.int .i64 0, .int .i64 0]).cells (n * i0.size) = cs := ⟨_, rfl⟩
 have hcsz : cs.size = n * 2 := by rw [← hcs, hzi]; simp [madeCells]
 rw [hcs] at hmk
 have hP0 : Hid (PlOk bs n 0 cs.toList) := Lib.hid ⟨by simpa using hcsz, fun i hi => absurd hi (Nat.not_lt_zero _)⟩
 clear hcs hi0 hz0 hzi hz2
 go_enter Tryz.func26, Tryz.ntmps26
 go_wp2_with fail
 refine (H1.out _).mono ?_
 rintro e w1 ⟨A1, c1, rfl, ho1, hb1⟩
 have hr := Lib.hid (Row.of_own ho1)
 have hz1 := hb1.size
 replace hb1 := Lib.hid hb1
 have hal : Below w1.heap.size w1 ((w1.alloc (.cells cs 46)).alloc (.cells #[.int .i64 0, .int .i64 0] 46)) := ((Below.refl _ _).alloc (Nat.le_refl _) _).alloc (by simp) _
 have own3 : ((w1.alloc (.cells cs 46)).alloc (.cells #[.int .i64 0, .int .i64 0] 46)).ownsRow w1.heap.size 46 2 (.slice (some ⟨w1.heap.size, 0, none⟩) n n) n cs.toList := (World.ownsRow_lit (size := 2) w1 cs n (Nat.le_refl _) (by unfold maxLen; omega) hcsz).alloc _
 have nb3 : KBn ((w1.alloc (.cells cs 46)).alloc (.cells #[.int .i64 0, .int .i64 0] 46)) (w1.heap.size + 1) [.int .i64 0, .int .i64 0] := by
  have := KBn.start (w1.alloc (.cells cs 46)) 46 [.int .i64 0, .int .i64 0]
  rw [World.size_alloc] at this
  exact this
 clear ho1 hcsz
 go_upto_region 6 with (fail)
 clear hmk
 obtain ⟨L, hL⟩ : ∃ L, w1.heap.size = L := ⟨_, rfl⟩
 obtain ⟨w3, hw3⟩ : ∃ W, (w1.alloc (.cells cs 46)).alloc (.cells #[.int .i64 0, .int .i64 0] 46) = W := ⟨_, rfl⟩
 rw [hw3] at hal own3 nb3 ⊢
 rw [hL] at hal own3 nb3 hz1 hr ⊢
 clear hw3
 replace hL := Lib.hid hL
 replace hal := Lib.hid hal
 replace own3 := Lib.hid own3
 replace nb3 := Lib.hid nb3
 go_wp2_with fail
 go_loopw [23] (fun i wr => ∃ (j a p : Nat) (xs : List Value), i = .int .i64 (j : Int) ∧ j ≤ n ∧ a ≤ 74 * j ∧ p ≤ 64 * j ∧ Hid (szs (bs.take j) = p) ∧ Hid (PlOk bs n j xs) ∧ Hid (wr.ownsRow L 46 2 (.slice (some ⟨L, 0, none⟩) n n) n xs) ∧ Hid (KBn wr (L + 1) [.int .i64 (a : Int), .int .i64 (p : Int)]) ∧ Hid (Below L w1 wr)) (fun i _ => n - (intOf i).toNat)
 case atStart => exact ⟨0, 0, 0, cs.toList, rfl, Nat.zero_le _, Nat.zero_le _, Nat.zero_le _, Lib.hid rfl, hP0, own3, nb3, hal⟩
 case round =>
  obtain ⟨j, a, p, xs, rfl, hj, ha, hp, hpz, hP, hO, hN, hbel⟩ := hrel
  clear own3 nb3 hal hP0
  have hwz := hN.out.lt
  by_cases hlt : j < n
  ·obtain ⟨b, hb⟩ : ∃ b, bs[j]? = some b := ⟨_, List.getElem?_eq_getElem (by rw [hn.out]; exact hlt)⟩
   obtain ⟨g, off, rfl, hg, p0, p1, p2', p3⟩ := (hr.out.below hbel.out (Nat.le_refl _)).blk (num := b.num) (raw := b.raw) (size := b.size) (body := b.body) hlt hb
   have hob := hok.out b (List.mem_of_getElem? hb)
   have h64 := hob.2.1
   have hbd := Blk.okb_body hob
   have hsk := szs_take_succ bs j b hb
   rw [hpz.out] at hsk
   obtain ⟨x0, hx0⟩ : ∃ x : Nat, b.num = x := ⟨_, rfl⟩
   obtain ⟨x1, hx1⟩ : ∃ x, b.raw = x := ⟨_, rfl⟩
   obtain ⟨x2, hx2⟩ : ∃ x : Nat, b.size = x := ⟨_, rfl⟩
   obtain ⟨x3, hx3⟩ : ∃ x, b.body = x := ⟨_, rfl⟩
   rw [hx0] at p0
   rw [hx1] at p1
   rw [hx2] at p2' hsk h64
   rw [hx3] at p3 hbd
   obtain ⟨p2, hp2e⟩ : ∃ z, p + x2 = z := ⟨_, rfl⟩
   rw [hp2e] at hsk
   have hp2 : p2 ≤ 64 * (j + 1) := by omega
   have ep2 : (p : Int) + x2 = p2 := by omega
   have wp2 : IntKind.i64.wrap (p2 : Int) = p2 := IntWalk.i64_in _ (by omega)
   obtain ⟨xl, hxl⟩ : ∃ z, x3.size = z := ⟨_, rfl⟩
   obtain ⟨t1, ht1⟩ : ∃ z : Nat, (10 : Int) + xl = z := ⟨10 + xl, by omega⟩
   have wt1 : IntKind.i64.wrap (t1 : Int) = t1 := IntWalk.i64_in _ (by omega)
   obtain ⟨a2, ha2⟩ : ∃ z : Nat, (a : Int) + t1 = z := ⟨a + t1, by omega⟩
   have wa2 : IntKind.i64.wrap (a2 : Int) = a2 := IntWalk.i64_in _ (by omega)
   have ha3 : a2 ≤ 74 * (j + 1) := by omega
   have hj0 : (0 : Int) ≤ j := by omega
   have hji : (j : Int) < n := by omega
   have hpz2 : Hid (szs (bs.take (j + 1)) = p2) := Lib.hid hsk
   have hbl5 := (Below.refl wr.heap.size wr).alloc (Nat.le_refl _) (.cells #[.int .i64 (x0 : Int), .bool x1, .int .i64 (x2 : Int), .string x3] 36)
   have hb5 := Lib.hid (hbel.out.trans (hbl5.mono (by omega)))
   have O5 := own_below hO.out hbl5 (Nat.le_refl _)
   have N5 := hN.out.below hbl5
   have X5 := KBn.start wr 36 [.int .i64 (x0 : Int), .bool x1, .int .i64 (x2 : Int), .string x3]
   change KBn (wr.alloc (.cells #[.int .i64 (x0 : Int), .bool x1, .int .i64 (x2 : Int), .string x3] 36)) _ _ at X5
   replace hp2e := Lib.hid hp2e
   clear hbl5 hO hN hbel hx0 hx1 hx2 hx3 hb hsk
   go_upto_region 9 with (fail)
   obtain ⟨X, hX⟩ : ∃ X, wr.heap.size = X := ⟨_, rfl⟩
   obtain ⟨w5, hw5⟩ : ∃ W, wr.alloc (.cells #[.int .i64 (x0 : Int), .bool x1, .int .i64 (x2 : Int), .string x3] 36) = W := ⟨_, rfl⟩
   rw [hw5] at hb5 X5 O5 N5 ⊢
   rw [hX] at X5 hwz ⊢
   clear hw5 hX p0 p1 p2' p3
   obtain ⟨g2, hA2, hgb, hglt, hmc, hcell, hfz⟩ := own_place O5 (by omega)
   injection hA2 with hA2
   injection hA2 with hA2
   subst hA2
   have hxsl := hP.out.1
   have f0 := hfz (j * 2)
   have f1 := hfz (j * 2 + 1)
   have y0 := hcell (j * 2) _ (List.getElem?_eq_getElem (by omega))
   have y1 := hcell (j * 2 + 1) _ (List.getElem?_eq_getElem (by omega))
   have q0 := N5.c 0 _ rfl
   have q1 := N5.c 1 _ rfl
   have hO6 := Lib.hid (own_set (i := j * 2 + 1) (own_set (i := j * 2) O5 rfl (.int .i64 (a : Int))) rfl (.int .i64 (p : Int)))
   have hN6 := (N5.keep (S := fun x => x = L) (Keep.of_set (S := fun x => x = L) (w := w5) (p := ⟨L, j * 2, none⟩) rfl (.int .i64 (a : Int))) (by omega)).keep (S := fun x => x = L) (Keep.of_set (S := fun x => x = L) (p := ⟨L, j * 2 + 1, none⟩) rfl (.int .i64 (p : Int))) (by omega)
   have hX6 := (X5.keep (S := fun x => x = L) (Keep.of_set (S := fun x => x = L) (w := w5) (p := ⟨L, j * 2, none⟩) rfl (.int .i64 (a : Int))) (by omega)).keep (S := fun x => x = L) (Keep.of_set (S := fun x => x = L) (p := ⟨L, j * 2 + 1, none⟩) rfl (.int .i64 (p : Int))) (by omega)
   have hB6 := (hb5.out.setCell (p := ⟨L, j * 2, none⟩) (Nat.le_refl _) (.int .i64 (a : Int))).setCell (p := ⟨L, j * 2 + 1, none⟩) (Nat.le_refl _) (.int .i64 (p : Int))
   replace hcell := Lib.hid hcell
   replace hxsl := Lib.hid hxsl
   replace hmc := Lib.hid hmc
   clear hcell hfz O5 N5 X5 hb5
   go_upto_region 10 with (fail)
   clear q0 q1 f0 f1 y0 y1
   obtain ⟨w6, hw6⟩ : ∃ W, (w5.setCell ⟨L, j * 2, none⟩ (.int .i64 (a : Int))).setCell ⟨L, j * 2 + 1, none⟩ (.int .i64 (p : Int)) = W := ⟨_, rfl⟩
   rw [hw6] at hO6 hN6 hX6 hB6 ⊢
   clear hw6
   have q0 := hN6.c 0 _ rfl
   have f0 := hN6.f 0 _ rfl
   have y3 := hX6.c 3 _ rfl
   have hN7 := hN6.set (j := 0) rfl (.int .i64 (a2 : Int))
   change KBn _ _ [.int .i64 (a2 : Int), .int .i64 (p : Int)] at hN7
   have hX7 := hX6.keep (S := fun x => x = L + 1) (Keep.of_set (S := fun x => x = L + 1) (w := w6) (p := ⟨L + 1, 0, none⟩) rfl (.int .i64 (a2 : Int))) (by omega)
   have hO7 := own_keep hO6.out (Keep.of_set (S := fun x => x = L + 1) (w := w6) (p := ⟨L + 1, 0, none⟩) rfl (.int .i64 (a2 : Int))) (fun x e1 e2 => by
    have : L = x := by injection e1
    omega)
   have hB7 := hB6.setCell (p := ⟨L + 1, 0, none⟩) (Nat.le_succ _) (.int .i64 (a2 : Int))
   clear hN6 hX6 hO6 hB6
   go_upto_region 11 with (fail)
   clear q0 f0 y3
   obtain ⟨w7, hw7⟩ : ∃ W, w6.setCell ⟨L + 1, 0, none⟩ (.int .i64 (a2 : Int)) = W := ⟨_, rfl⟩
   rw [hw7] at hO7 hN7 hX7 hB7 ⊢
   clear hw7
   have q1 := hN7.c 1 _ rfl
   have f1 := hN7.f 1 _ rfl
   have y2 := hX7.c 2 _ rfl
   have hN8 := hN7.set (j := 1) rfl (.int .i64 (p2 : Int))
   change KBn _ _ [.int .i64 (a2 : Int), .int .i64 (p2 : Int)] at hN8
   have hO8 := own_keep hO7 (Keep.of_set (S := fun x => x = L + 1) (w := w7) (p := ⟨L + 1, 1, none⟩) rfl (.int .i64 (p2 : Int))) (fun x e1 e2 => by
    have : L = x := by injection e1
    omega)
   have hB8 := Lib.hid (hB7.setCell (p := ⟨L + 1, 1, none⟩) (Nat.le_succ _) (.int .i64 (p2 : Int)))
   replace hN8 := Lib.hid hN8
   replace hO8 := Lib.hid hO8
   have hP8 := Lib.hid (hP.out.set hlt (.int .i64 (a : Int)) hpz.out)
   clear hN7 hX7 hO7 hB7
   go_wp2_with fail
   go_roundw
   case rel => exact ⟨j + 1, a2, p2, _, rfl, by omega, ha3, hp2, hpz2, hP8, hO8, hN8, hB8⟩
   case measure => simp [intOf]; omega
  ·have hjn : j = n := by omega
   have hres := Lib.hid (And.intro hP.out (And.intro (Row.of_own hO.out) (hb1.out.trans (hbel.out.mono (by have := hL.out; omega)))))
   have hji : ¬ ((j : Int) < n) := by omega
   clear hP hO hN hbel
   go_wp2_with fail
   refine bodyPost_ret (v := .tuple #[.slice (some ⟨L, 0, none⟩) n n, .bool true]) (by simp [results, Tryz.results26, go_sem]) rfl ?_
   rw [hjn] at hres
   exact ⟨_, ⟨n, rfl⟩, xs, hres.out.1, hres.out.2.1, hres.out.2.2⟩

def SameB (a b : Blk) : Prop := a.raw = b.raw ∧ a.size = b.size ∧ a.body = b.body

instance (a b : Blk) : Decidable (SameB a b) := by unfold SameB; infer_instance

theorem toList_inj {a b : ByteArray} : a.toList = b.toList ↔ a = b := ⟨ba_toList, fun h => by rw [h]⟩

set_option maxHeartbeats 400000 in
theorem implSameBlock (n1 z1 n2 z2 : Nat) (r1 r2 : Bool) (b1 b2 : ByteArray) (r : Bool) (w : World) (hr : r = true ↔ SameB ⟨n1, r1, z1, b1⟩ ⟨n2, r2, z2, b2⟩) :
  Calls Tryz.prog 85 #[.agg #[.int .i64 n1, .bool r1, .int .i64 z1, .string b1], .agg #[.int .i64 n2, .bool r2, .int .i64 z2, .string b2]] w fun e w' => e = .returned (.bool r) ∧ Below w.heap.size w w' := by
 have HR := Lib.hid hr
 clear hr
 go_enter Tryz.func85, Tryz.ntmps85
 go_wp2
 all_goals go_ret
 all_goals refine ⟨ret_bool ?_, by go_grown⟩
 all_goals rw [Bool.eq_iff_iff, HR.out]
 all_goals simp_all [SameB, toList_inj]
 all_goals try omega

attribute [local go_sem ↓] Go.wp_at_zero Go.wp_at_succ

def scan (p : Nat → Bool) (n k : Nat) : Nat := if k < n then if p k then scan p n (k + 1) else k else k
termination_by n - k

theorem scan_yes {p : Nat → Bool} {n k : Nat} (h : k < n) (hp : p k = true) : scan p n k = scan p n (k + 1) := by rw [scan, if_pos h, if_pos hp]

theorem scan_no {p : Nat → Bool} {n k : Nat} (h : k < n) (hp : p k = false) : scan p n k = k := by rw [scan, if_pos h, hp]; rfl

theorem scan_end {p : Nat → Bool} {n k : Nat} (h : n ≤ k) : scan p n k = k := by rw [scan, if_neg (by omega)]

theorem scan_le {p : Nat → Bool} {n k : Nat} (h : k ≤ n) : scan p n k ≤ n := by
 by_cases hk : k < n
 ·by_cases hp : p k = true
  ·rw [scan_yes hk hp]; exact scan_le (by omega)
  ·rw [scan_no hk (by simpa using hp)]; exact h
 ·rw [scan_end (by omega)]; exact h
termination_by n - k

def blkAt (l : List Blk) (i : Nat) : Blk := l.getD i ⟨0, false, 0, ByteArray.empty⟩

theorem blkAt_of {l : List Blk} {i : Nat} {b : Blk} (h : l[i]? = some b) : blkAt l i = b := by unfold blkAt; rw [List.getD_eq_getElem?_getD, h]; rfl

def sameUp (x y : List Blk) (i : Nat) : Bool := decide (SameB (blkAt x i) (blkAt y i))

def sameDown (x y : List Blk) (i : Nat) : Bool := decide (SameB (blkAt x (x.length - 1 - i)) (blkAt y (y.length - 1 - i)))

def upN (x y : List Blk) : Nat := scan (sameUp x y) (min x.length y.length) 0

def downN (x y : List Blk) : Nat := scan (sameDown x y) (min x.length y.length - upN x y) 0

def sameBlks : Option (List Blk) → Option (List Blk) → Int
 | some x, some y => ((upN x y + downN x y : Nat) : Int)
 | _, _ => -1

theorem at8 {w0 wx : World} {b o b' o' : Nat} {u0 u1 u2 u3 v0 v1 v2 v3 : Value} (hb : b < w0.heap.size) (hb' : b' < w0.heap.size)
  (h0 : w0.cell? ⟨b, o, none⟩ = some u0) (h1 : w0.cell? ⟨b, o + 1, none⟩ = some u1) (h2 : w0.cell? ⟨b, o + 2, none⟩ = some u2) (h3 : w0.cell? ⟨b, o + 3, none⟩ = some u3)
  (k0 : w0.cell? ⟨b', o', none⟩ = some v0) (k1 : w0.cell? ⟨b', o' + 1, none⟩ = some v1) (k2 : w0.cell? ⟨b', o' + 2, none⟩ = some v2) (k3 : w0.cell? ⟨b', o' + 3, none⟩ = some v3)
  (h : Below w0.heap.size w0 wx) :
  wx.cell? ⟨b, o, none⟩ = some u0 ∧ wx.cell? ⟨b, o + 1, none⟩ = some u1 ∧ wx.cell? ⟨b, o + 2, none⟩ = some u2 ∧ wx.cell? ⟨b, o + 3, none⟩ = some u3 ∧
  wx.cell? ⟨b', o', none⟩ = some v0 ∧ wx.cell? ⟨b', o' + 1, none⟩ = some v1 ∧ wx.cell? ⟨b', o' + 2, none⟩ = some v2 ∧ wx.cell? ⟨b', o' + 3, none⟩ = some v3 ∧ Below w0.heap.size w0 wx :=
 ⟨(h.cell (p := ⟨b, o, none⟩) hb).trans h0, (h.cell (p := ⟨b, o + 1, none⟩) hb).trans h1, (h.cell (p := ⟨b, o + 2, none⟩) hb).trans h2, (h.cell (p := ⟨b, o + 3, none⟩) hb).trans h3,
  (h.cell (p := ⟨b', o', none⟩) hb').trans k0, (h.cell (p := ⟨b', o' + 1, none⟩) hb').trans k1, (h.cell (p := ⟨b', o' + 2, none⟩) hb').trans k2, (h.cell (p := ⟨b', o' + 3, none⟩) hb').trans k3, h⟩

set_option maxHeartbeats 4000000 in
theorem implSameBlocks (s t : ByteArray) (w : World) (hs : s.size ≤ 1048576) (ht : t.size ≤ 1048576) :
  Calls Tryz.prog 33 #[.string s, .string t] w fun e w' => e = .returned (.int .i64 (sameBlks (contB s) (contB t))) ∧ Below w.heap.size w w' := by
 rcases hx : contB s with _ | x
 ·have H1 := Lib.hid (fun W => implContainerBlocksNo s W hs hx)
  rcases hy : contB t with _ | y
  ·have H2 := Lib.hid (fun W => implContainerBlocksNo t W ht hy)
   clear hx hy
   go_enter Tryz.func33, Tryz.ntmps33
   go_wp2_with fail
   refine (H1.out _).mono ?_
   rintro e w1 ⟨A1, c1, rfl, ho1, hb1⟩
   go_wp2_with fail
   refine (H2.out _).mono ?_
   rintro e w2 ⟨A2, c2, rfl, ho2, hb2⟩
   go_wp2_with fail
   go_ret
   exact ⟨rfl, hb1.trans (hb2.mono hb1.size)⟩
  ·obtain ⟨m, hm⟩ : ∃ m, y.length = m := ⟨_, rfl⟩
   have H2 := Lib.hid (fun W => implContainerBlocksYes t y m W ht hy hm)
   clear hx hy hm
   go_enter Tryz.func33, Tryz.ntmps33
   go_wp2_with fail
   refine (H1.out _).mono ?_
   rintro e w1 ⟨A1, c1, rfl, ho1, hb1⟩
   go_wp2_with fail
   refine (H2.out _).mono ?_
   rintro e w2 ⟨A2, c2, rfl, ho2, hb2⟩
   go_wp2_with fail
   go_ret
   exact ⟨rfl, hb1.trans (hb2.mono hb1.size)⟩
 ·obtain ⟨n, hn⟩ : ∃ n, x.length = n := ⟨_, rfl⟩
  have hn40 := (contB_numbered hx).length
  rw [hn] at hn40
  have H1 := Lib.hid (fun W => implContainerBlocksYes s x n W hs hx hn)
  rcases hy : contB t with _ | y
  ·have H2 := Lib.hid (fun W => implContainerBlocksNo t W ht hy)
   clear hx hy hn
   go_enter Tryz.func33, Tryz.ntmps33
   go_wp2_with fail
   refine (H1.out _).mono ?_
   rintro e w1 ⟨A1, c1, rfl, ho1, hb1⟩
   go_wp2_with fail
   refine (H2.out _).mono ?_
   rintro e w2 ⟨A2, c2, rfl, ho2, hb2⟩
   go_wp2_with fail
   go_ret
   exact ⟨rfl, hb1.trans (hb2.mono hb1.size)⟩
  ·obtain ⟨m, hm⟩ : ∃ m, y.length = m := ⟨_, rfl⟩
   have hm40 := (contB_numbered hy).length
   rw [hm] at hm40
   have H2 := Lib.hid (fun W => implContainerBlocksYes t y m W ht hy hm)
   obtain ⟨l, hl⟩ : ∃ l, min n m = l := ⟨_, rfl⟩
   have hln : l ≤ n := by omega
   have hlm : l ≤ m := by omega
   have hR : sameBlks (some x) (some y) = ((upN x y + downN x y : Nat) : Int) := rfl
   obtain ⟨u, hu⟩ : ∃ u, upN x y = u := ⟨_, rfl⟩
   obtain ⟨d, hd⟩ : ∃ d, downN x y = d := ⟨_, rfl⟩
   rw [hu, hd] at hR
   rw [hR]
   unfold upN at hu
   unfold downN upN at hd
   rw [hu] at hd
   rw [hn, hm, hl] at hu hd
   have hul : u ≤ l := by rw [← hu]; exact scan_le (Nat.zero_le _)
   have hdl : d ≤ l - u := by rw [← hd]; exact scan_le (Nat.zero_le _)
   have hmin : min (n : Int) m = l := by omega
   have HU := Lib.hid hu
   have HD := Lib.hid hd
   have HN := Lib.hid hn
   have HM := Lib.hid hm
   clear hx hy hn hm hR hu hd hl
   go_enter Tryz.func33, Tryz.ntmps33
   go_wp2_with fail
   refine (H1.out _).mono ?_
   rintro e w1 ⟨A1, c1, rfl, ho1, hb1⟩
   go_wp2_with fail
   refine (H2.out _).mono ?_
   rintro e w2 ⟨A2, c2, rfl, ho2, hb2⟩
   have hr1 := (Row.of_own ho1).below hb2 (Nat.le_refl _)
   have hr1 := hr1.more hb2.size
   have hr2 := Row.of_own ho2
   have hb02 := hb1.trans (hb2.mono hb1.size)
   clear ho1 ho2 hb1 hb2 H1 H2
   go_upto_block 0 with (fail)
   go_cut [10] (fun v wx => v = .int .i64 u ∧ Below w2.heap.size w2 wx)
   case first =>
    go_wp2_with fail
    go_loopw [10] (fun v wr => ∃ k : Nat, k ≤ l ∧ v = .int .i64 k ∧ Hid (scan (sameUp x y) l k = u) ∧ Below w2.heap.size w2 wr) (fun v _ => l - (intOf v).toNat)
    case atStart => exact ⟨0, Nat.zero_le _, rfl, HU, Below.refl _ _⟩
    case round =>
     obtain ⟨k, hk, rfl, HK, hbel⟩ := hrel
     have hwz := hbel.size
     by_cases hlt : k < l
     ·obtain ⟨⟨n1, r1, z1, b1⟩, hx1⟩ : ∃ b, x[k]? = some b := ⟨_, List.getElem?_eq_getElem (by rw [HN.out]; omega)⟩
      obtain ⟨⟨n2, r2, z2, b2⟩, hy1⟩ : ∃ b, y[k]? = some b := ⟨_, List.getElem?_eq_getElem (by rw [HM.out]; omega)⟩
      obtain ⟨g, off, rfl, hg, p0, p1, p2, p3⟩ := ((hr1.below hbel (Nat.le_refl _)).more hwz).blk (by omega) hx1
      obtain ⟨g', off', rfl, hg', q0, q1, q2, q3⟩ := ((hr2.below hbel (Nat.le_refl _)).more hwz).blk (by omega) hy1
      have hS : sameUp x y k = decide (SameB ⟨n1, r1, z1, b1⟩ ⟨n2, r2, z2, b2⟩) := by unfold sameUp; rw [blkAt_of hx1, blkAt_of hy1]
      obtain ⟨r, hr⟩ : ∃ r, decide (SameB ⟨n1, r1, z1, b1⟩ ⟨n2, r2, z2, b2⟩) = r := ⟨_, rfl⟩
      have HC := Lib.hid (fun W => implSameBlock n1 z1 n2 z2 r1 r2 b1 b2 r W (by rw [← hr]; simp))
      rw [hr] at hS
      have i1 : (0 : Int) ≤ k := by omega
      have i2 : (k : Int) < n := by omega
      have i3 : (k : Int) < m := by omega
      have HE : Hid ((r = true → scan (sameUp x y) l (k + 1) = u) ∧ (r = false → k = u)) := ⟨fun h => by rw [← HK.out, scan_yes hlt (hS.trans h)], fun h => by rw [← HK.out, scan_no hlt (hS.trans h)]⟩
      clear hr hx1 hy1 hr1 hr2 hS
      cases r
      ·go_wp2_with fail
       go_region_held3 (fun w' => w'.cell? ⟨g, off + k * 4, none⟩ = some (.int .i64 n1) ∧ w'.cell? ⟨g, off + k * 4 + 1, none⟩ = some (.bool r1) ∧ w'.cell? ⟨g, off + k * 4 + 2, none⟩ = some (.int .i64 z1) ∧ w'.cell? ⟨g, off + k * 4 + 3, none⟩ = some (.string b1) ∧
         w'.cell? ⟨g', off' + k * 4, none⟩ = some (.int .i64 n2) ∧ w'.cell? ⟨g', off' + k * 4 + 1, none⟩ = some (.bool r2) ∧ w'.cell? ⟨g', off' + k * 4 + 2, none⟩ = some (.int .i64 z2) ∧ w'.cell? ⟨g', off' + k * 4 + 3, none⟩ = some (.string b2) ∧ Below wr.heap.size wr w')
        (first | exact at8 hg hg' p0 p1 p2 p3 q0 q1 q2 q3 (Below.refl _ _).drew | (go_split_ands; exact at8 hg hg' p0 p1 p2 p3 q0 q1 q2 q3 (below_call (by assumption) (by assumption))))
        (first | (go_at_call 85; refine (HC.out _).mono ?_; rintro e w' ⟨rfl, hb⟩))
       go_split_ands
       have hB : Below wr.heap.size wr w' := by assumption
       go_wp2_with fail
       go_meet
       exact ⟨by rw [HE.out.2 (by simp)], hbel.trans (hB.mono hwz)⟩
      ·go_wp2_with fail
       go_region_held3 (fun w' => w'.cell? ⟨g, off + k * 4, none⟩ = some (.int .i64 n1) ∧ w'.cell? ⟨g, off + k * 4 + 1, none⟩ = some (.bool r1) ∧ w'.cell? ⟨g, off + k * 4 + 2, none⟩ = some (.int .i64 z1) ∧ w'.cell? ⟨g, off + k * 4 + 3, none⟩ = some (.string b1) ∧
         w'.cell? ⟨g', off' + k * 4, none⟩ = some (.int .i64 n2) ∧ w'.cell? ⟨g', off' + k * 4 + 1, none⟩ = some (.bool r2) ∧ w'.cell? ⟨g', off' + k * 4 + 2, none⟩ = some (.int .i64 z2) ∧ w'.cell? ⟨g', off' + k * 4 + 3, none⟩ = some (.string b2) ∧ Below wr.heap.size wr w')
        (first | exact at8 hg hg' p0 p1 p2 p3 q0 q1 q2 q3 (Below.refl _ _).drew | (go_split_ands; exact at8 hg hg' p0 p1 p2 p3 q0 q1 q2 q3 (below_call (by assumption) (by assumption))))
        (first | (go_at_call 85; refine (HC.out _).mono ?_; rintro e w' ⟨rfl, hb⟩))
       go_split_ands
       have hB : Below wr.heap.size wr w' := by assumption
       go_wp2_with fail
       go_roundw
       case rel => exact ⟨k + 1, by omega, by go_num, Lib.hid (HE.out.1 (by simp)), hbel.trans (hB.mono hwz)⟩
       case measure => simp [intOf]; omega
     ·obtain rfl : k = l := by omega
      have HE := Lib.hid (show k = u by rw [← HK.out, scan_end (Nat.le_refl _)])
      have hd0 : decide ((k : Int) < k) = false := by simp
      go_wp2_with fail
      go_quiet (fail)
      go_wp2_with fail
      go_meet
      exact ⟨by rw [HE.out], hbel.trans ((Drawn.of _ _).below _)⟩
   case rest =>
    obtain ⟨rfl, hbel3⟩ := hcut
    have hz3 := hbel3.size
    go_wp2_with fail
    go_loopw [11] (fun v wr => ∃ k : Nat, k ≤ l - u ∧ v = .int .i64 k ∧ Hid (scan (sameDown x y) (l - u) k = d) ∧ Below w2.heap.size w2 wr) (fun v _ => l - (intOf v).toNat)
    case atStart => exact ⟨0, Nat.zero_le _, rfl, HD, hbel3⟩
    case round =>
     obtain ⟨k, hk, rfl, HK, hbel⟩ := hrel
     have hwz := hbel.size
     obtain ⟨uk, huk⟩ : ∃ uk, u + k = uk := ⟨_, rfl⟩
     have euk : (u : Int) + k = uk := by omega
     have wuk : IntKind.i64.wrap (uk : Int) = uk := IntWalk.i64_in _ (by omega)
     by_cases hlt : k < l - u
     ·obtain ⟨i, hi⟩ : ∃ i, n - 1 - k = i := ⟨_, rfl⟩
      obtain ⟨j, hj⟩ : ∃ j, m - 1 - k = j := ⟨_, rfl⟩
      obtain ⟨i', hi'⟩ : ∃ i, n - 1 = i := ⟨_, rfl⟩
      obtain ⟨j', hj'⟩ : ∃ j, m - 1 = j := ⟨_, rfl⟩
      have ei' : (n : Int) - 1 = i' := by omega
      have ej' : (m : Int) - 1 = j' := by omega
      have ei : (i' : Int) - k = i := by omega
      have ej : (j' : Int) - k = j := by omega
      have wi' : IntKind.i64.wrap (i' : Int) = i' := IntWalk.i64_in _ (by omega)
      have wj' : IntKind.i64.wrap (j' : Int) = j' := IntWalk.i64_in _ (by omega)
      have wi : IntKind.i64.wrap (i : Int) = i := IntWalk.i64_in _ (by omega)
      have wj : IntKind.i64.wrap (j : Int) = j := IntWalk.i64_in _ (by omega)
      obtain ⟨⟨n1, r1, z1, b1⟩, hx1⟩ : ∃ b, x[i]? = some b := ⟨_, List.getElem?_eq_getElem (by rw [HN.out]; omega)⟩
      obtain ⟨⟨n2, r2, z2, b2⟩, hy1⟩ : ∃ b, y[j]? = some b := ⟨_, List.getElem?_eq_getElem (by rw [HM.out]; omega)⟩
      obtain ⟨g, off, rfl, hg, p0, p1, p2, p3⟩ := ((hr1.below hbel (Nat.le_refl _)).more hwz).blk (by omega) hx1
      obtain ⟨g', off', rfl, hg', q0, q1, q2, q3⟩ := ((hr2.below hbel (Nat.le_refl _)).more hwz).blk (by omega) hy1
      have hS : sameDown x y k = decide (SameB ⟨n1, r1, z1, b1⟩ ⟨n2, r2, z2, b2⟩) := by unfold sameDown; rw [HN.out, HM.out, hi, hj, blkAt_of hx1, blkAt_of hy1]
      obtain ⟨r, hr⟩ : ∃ r, decide (SameB ⟨n1, r1, z1, b1⟩ ⟨n2, r2, z2, b2⟩) = r := ⟨_, rfl⟩
      have HC := Lib.hid (fun W => implSameBlock n1 z1 n2 z2 r1 r2 b1 b2 r W (by rw [← hr]; simp))
      rw [hr] at hS
      have i1 : (0 : Int) ≤ i := by omega
      have i2 : (i : Int) < n := by omega
      have j1 : (0 : Int) ≤ j := by omega
      have j2 : (j : Int) < m := by omega
      have hlu : (uk : Int) < l := by omega
      have hmz : l - (k + 1) < l - k := by omega
      have HE : Hid ((r = true → scan (sameDown x y) (l - u) (k + 1) = d) ∧ (r = false → k = d)) := ⟨fun h => by rw [← HK.out, scan_yes hlt (hS.trans h)], fun h => by rw [← HK.out, scan_no hlt (hS.trans h)]⟩
      have hk1 : k + 1 ≤ l - u := by omega
      clear hr hx1 hy1 hr1 hr2 hS huk hi hj hi' hj'
      cases r
      ·go_wp2_with fail
       go_region_held3 (fun w' => w'.cell? ⟨g, off + i * 4, none⟩ = some (.int .i64 n1) ∧ w'.cell? ⟨g, off + i * 4 + 1, none⟩ = some (.bool r1) ∧ w'.cell? ⟨g, off + i * 4 + 2, none⟩ = some (.int .i64 z1) ∧ w'.cell? ⟨g, off + i * 4 + 3, none⟩ = some (.string b1) ∧
         w'.cell? ⟨g', off' + j * 4, none⟩ = some (.int .i64 n2) ∧ w'.cell? ⟨g', off' + j * 4 + 1, none⟩ = some (.bool r2) ∧ w'.cell? ⟨g', off' + j * 4 + 2, none⟩ = some (.int .i64 z2) ∧ w'.cell? ⟨g', off' + j * 4 + 3, none⟩ = some (.string b2) ∧ Below wr.heap.size wr w')
        (first | exact at8 hg hg' p0 p1 p2 p3 q0 q1 q2 q3 (Below.refl _ _).drew | (go_split_ands; exact at8 hg hg' p0 p1 p2 p3 q0 q1 q2 q3 (below_call (by assumption) (by assumption))))
        (first | (go_at_call 85; refine (HC.out _).mono ?_; rintro e w' ⟨rfl, hb⟩))
       go_split_ands
       have hB : Below wr.heap.size wr w' := by assumption
       clear euk wuk ei' ej' ei ej wi' wj' wi wj
       go_wp2_with fail
       go_ret
       exact ⟨ret_int (by rw [HE.out.2 (by simp)]; omega), hb02.trans ((hbel.trans (hB.mono hwz)).mono hb02.size)⟩
      ·go_wp2_with fail
       go_region_held3 (fun w' => w'.cell? ⟨g, off + i * 4, none⟩ = some (.int .i64 n1) ∧ w'.cell? ⟨g, off + i * 4 + 1, none⟩ = some (.bool r1) ∧ w'.cell? ⟨g, off + i * 4 + 2, none⟩ = some (.int .i64 z1) ∧ w'.cell? ⟨g, off + i * 4 + 3, none⟩ = some (.string b1) ∧
         w'.cell? ⟨g', off' + j * 4, none⟩ = some (.int .i64 n2) ∧ w'.cell? ⟨g', off' + j * 4 + 1, none⟩ = some (.bool r2) ∧ w'.cell? ⟨g', off' + j * 4 + 2, none⟩ = some (.int .i64 z2) ∧ w'.cell? ⟨g', off' + j * 4 + 3, none⟩ = some (.string b2) ∧ Below wr.heap.size wr w')
        (first | exact at8 hg hg' p0 p1 p2 p3 q0 q1 q2 q3 (Below.refl _ _).drew | (go_split_ands; exact at8 hg hg' p0 p1 p2 p3 q0 q1 q2 q3 (below_call (by assumption) (by assumption))))
        (first | (go_at_call 85; refine (HC.out _).mono ?_; rintro e w' ⟨rfl, hb⟩))
       go_split_ands
       have hB : Below wr.heap.size wr w' := by assumption
       clear euk wuk ei' ej' ei ej wi' wj' wi wj
       go_wp2_with fail
       go_roundw
       case rel => exact ⟨k + 1, hk1, by go_num, Lib.hid (HE.out.1 (by simp)), hbel.trans (hB.mono hwz)⟩
       case measure => simp [intOf]; omega
     ·have HE := Lib.hid (show k = d by rw [← HK.out, scan_end (by omega)])
      have hd0 : decide ((uk : Int) < l) = false := by simp; omega
      have hd1 : decide (uk < l) = false := by simp; omega
      clear huk
      go_wp2_with fail
      go_quiet (fail)
      clear euk wuk
      go_wp2_with fail
      go_ret
      exact ⟨ret_int (by rw [HE.out]; omega), hb02.trans ((hbel.trans ((Drawn.of _ _).below _)).mono hb02.size)⟩

theorem scan_from {p : Nat → Bool} {n : Nat} : ∀ (m k : Nat), n - k = m → k ≤ scan p n k := by
 intro m
 induction m with
 | zero => intro k h; rw [scan_end (by omega)]; exact Nat.le_refl _
 | succ m ih =>
  intro k h
  by_cases hp : p k = true
  ·rw [scan_yes (by omega) hp]; have := ih (k + 1) (by omega); omega
  ·rw [scan_no (by omega) (by simpa using hp)]; exact Nat.le_refl _

theorem scan_ge {p : Nat → Bool} {n : Nat} : ∀ (d k : Nat), (∀ i, k ≤ i → i < k + d → p i = true) → k + d ≤ n → k + d ≤ scan p n k := by
 intro d
 induction d with
 | zero => intro k _ _; exact scan_from _ k rfl
 | succ d ih =>
  intro k h hn
  rw [scan_yes (by omega) (h k (Nat.le_refl _) (by omega))]
  have := ih (k + 1) (fun i h1 h2 => h i (by omega) (by omega)) (by omega)
  omega

theorem renumL_same : ∀ (bs : List Blk) (i q : Nat) (b : Blk), bs[q]? = some b → ∃ j, (renumL i bs)[q]? = some (renum j b) := by
 intro bs
 induction bs with
 | nil => intro i q b h; simp at h
 | cons c bs ih =>
  intro i q b h
  cases q with
  | zero =>
   have e : c = b := by simpa using h
   subst e; exact ⟨i, rfl⟩
  | succ q =>
   have h2 : bs[q]? = some b := by simpa using h
   exact ih (i + 1) q b h2

theorem n3_take (f t : Nat) : ∀ (bs : List Blk) (p j : Nat) (b : Blk), bs[j]? = some b → n3 f t p (bs.take (j + 1)) = n3 f t p (bs.take j) + (if p + szs (bs.take j) + b.size ≤ f ∨ t ≤ p + szs (bs.take j) then 1 else 0) := by
 intro bs
 induction bs with
 | nil => intro p j b h; simp at h
 | cons c bs ih =>
  intro p j b h
  cases j with
  | zero =>
   have e : c = b := by simpa using h
   subst e
   show (if p + c.size ≤ f ∨ t ≤ p then 1 else 0) + 0 = 0 + (if p + 0 + c.size ≤ f ∨ t ≤ p + 0 then 1 else 0)
   simp
  | succ j =>
   have h2 : bs[j]? = some b := by simpa using h
   have hi := ih (p + c.size) j b h2
   rw [List.take_succ_cons, List.take_succ_cons]
   show _ + n3 f t (p + c.size) (bs.take (j + 1)) = (_ + n3 f t (p + c.size) (bs.take j)) + _
   rw [hi, szs_cons]
   have e1 : p + c.size + szs (bs.take j) = p + (c.size + szs (bs.take j)) := by omega
   rw [e1]
   omega

theorem keeps_repl {o l m size f t : Int} {d L : List UInt8} {s x : ByteArray} (h : replC o l m d (contB s) f t L size = some x) :
  ∃ (fn tn n N u : Nat) (p q : List Blk), f = fn ∧ t = tn ∧ tn ≤ 4000 ∧ fn ≤ 4000 ∧ contB s = some p ∧ contB x = some q ∧ p.length = n ∧ n ≤ 40 ∧ s.size ≤ 2960 ∧ x.size ≤ 2960 ∧ n3 fn tn 0 p = N ∧ sameBlks (some p) (some q) = (u : Int) ∧ N ≤ u ∧ u ≤ n ∧
   ∀ i, i < n → ∃ a ps, p[i]? = some a ∧ szs (p.take i) = ps ∧ ps ≤ 2000 ∧ a.size ≤ 64 ∧ n3 fn tn 0 (p.take (i + 1)) = n3 fn tn 0 (p.take i) + (if ps + a.size ≤ fn ∨ tn ≤ ps then 1 else 0) := by
 obtain ⟨on, ln, mn, fn, tn, sz, bs, a, b, _, _, _, e1, e2, _, hp, F⟩ := replC_some h
 obtain ⟨sp, hsp⟩ : ∃ sp, (Kn.dict on ln mn d).split sz L = sp := ⟨_, rfl⟩
 have hxb := F.xb
 rw [hsp] at hxb
 obtain ⟨q, hq⟩ : ∃ q, renumL 0 (a ++ sp ++ b) = q := ⟨_, rfl⟩
 have hql : q.length = a.length + sp.length + b.length := by rw [← hq, renumL_length, List.length_append, List.length_append]
 obtain ⟨f1, f2⟩ := cut_first bs 0 a F.ok F.cut1
 obtain ⟨l1, l2⟩ := cut_last bs 0 b F.ok (by have := F.tz; omega) F.cut2
 have hn3 := n3_eq fn tn F.ft bs 0 F.ok
 have m1 := n1_le fn bs 0
 have m2 := n2_le tn bs 0
 have hn3l : n3 fn tn 0 bs ≤ bs.length := by
  have : ∀ (l : List Blk) (p : Nat), n3 fn tn p l ≤ l.length := by
   intro l
   induction l with
   | nil => intro p; exact Nat.le_refl _
   | cons c l ih =>
    intro p
    have := ih (p + c.size)
    show (if _ then 1 else 0) + n3 fn tn (p + c.size) l ≤ l.length + 1
    split <;> omega
  exact this bs 0
 obtain ⟨N1, hN1⟩ : ∃ N, n1 fn 0 bs = N := ⟨_, rfl⟩
 obtain ⟨N2, hN2⟩ : ∃ N, n2 tn 0 bs = N := ⟨_, rfl⟩
 rw [hN1] at f1 f2 hn3 m1
 rw [hN2] at l1 l2 hn3 m2
 rw [hn3] at hn3l
 have up : ∀ i, 0 ≤ i → i < 0 + N1 → sameUp bs q i = true := fun i _ hi => by
  obtain ⟨c, hc⟩ : ∃ c, bs[i]? = some c := ⟨_, List.getElem?_eq_getElem (by omega)⟩
  have ha : a[i]? = some c := by
   have := congrArg (fun l => l[i]?) f2
   simp only [List.getElem?_take] at this
   rw [if_pos (by omega), if_pos (by omega)] at this
   rw [this, hc]
  have haq : (a ++ sp ++ b)[i]? = some c := by
   rw [List.append_assoc, List.getElem?_append_left (by omega)]; exact ha
  obtain ⟨j, hj⟩ := renumL_same _ 0 i c haq
  rw [hq] at hj
  unfold sameUp
  rw [blkAt_of hc, blkAt_of hj]
  exact decide_eq_true ⟨rfl, rfl, rfl⟩
 have down : ∀ i, 0 ≤ i → i < 0 + N2 → sameDown bs q i = true := fun i _ hi => by
  obtain ⟨c, hc⟩ : ∃ c, bs[bs.length - 1 - i]? = some c := ⟨_, List.getElem?_eq_getElem (by omega)⟩
  have hb : b[b.length - 1 - i]? = some c := by
   have := congrArg (fun l => l[N2 - 1 - i]?) l2
   simp only [List.getElem?_drop] at this
   have e3 : b.length - N2 + (N2 - 1 - i) = b.length - 1 - i := by omega
   have e4 : bs.length - N2 + (N2 - 1 - i) = bs.length - 1 - i := by omega
   rw [e3, e4] at this
   rw [this, hc]
  have hbq : (a ++ sp ++ b)[q.length - 1 - i]? = some c := by
   rw [List.getElem?_append_right (by rw [List.length_append]; omega), List.length_append]
   have e5 : q.length - 1 - i - (a.length + sp.length) = b.length - 1 - i := by omega
   rw [e5]; exact hb
  obtain ⟨j, hj⟩ := renumL_same _ 0 _ c hbq
  rw [hq] at hj
  unfold sameDown
  rw [blkAt_of hc, blkAt_of hj]
  exact decide_eq_true ⟨rfl, rfl, rfl⟩
 have hu1 : 0 + N1 ≤ upN bs q := scan_ge N1 0 up (by omega)
 have hu2 : upN bs q ≤ min bs.length q.length := scan_le (Nat.zero_le _)
 have hd1 : downN bs q ≤ min bs.length q.length - upN bs q := scan_le (Nat.zero_le _)
 have hd2 : 0 + min N2 (min bs.length q.length - upN bs q) ≤ downN bs q := scan_ge _ 0 (fun i h1 h2 => down i h1 (by omega)) (by omega)
 have hS : sameBlks (some bs) (some q) = ((upN bs q + downN bs q : Nat) : Int) := rfl
 have hz := F.z
 have htz := F.tz
 have hft := F.ft
 refine ⟨fn, tn, bs.length, n3 fn tn 0 bs, upN bs q + downN bs q, bs, q, e1, e2, by omega, by omega, hp, by rw [hxb, hq], rfl, F.l40, F.ss, F.xs, rfl, hS, by omega, by omega, fun i hi => ?_⟩
 obtain ⟨c, hc⟩ : ∃ c, bs[i]? = some c := ⟨_, List.getElem?_eq_getElem hi⟩
 have hsk := szs_take_succ bs i c hc
 have hle : szs (bs.take i) ≤ szs bs := by
  have := szs_append (bs.take i) (bs.drop i)
  rw [List.take_append_drop] at this
  omega
 have h3 := n3_take fn tn bs 0 i c hc
 rw [Nat.zero_add] at h3
 exact ⟨c, szs (bs.take i), hc, rfl, by omega, (F.ok c (List.mem_of_getElem? hc)).2.1, h3⟩

theorem Row.plc2 {w : World} {B n : Nat} {A : Option Addr} {bs : List Blk} {xs : List Value} (h : Row w B 2 A n xs) (hP : PlOk bs n n xs) {k v : Nat} (hk : k < n) (hb : szs (bs.take k) = v) : ∃ b off, A = some ⟨b, off, none⟩ ∧ b < B ∧ w.cell? ⟨b, off + k * 2 + 1, none⟩ = some (.int .i64 (v : Int)) := by
 obtain ⟨b, off, e, hB, hc⟩ := h.2 (by omega)
 exact ⟨b, off, e, hB, hc (k * 2 + 1) _ (by rw [hP.2 k hk, hb])⟩

set_option maxHeartbeats 4000000 in
theorem lawFnReplaceKeeps (A : Option Addr) (n c : Nat) (bs : List UInt8) (w : World) (h : ByteRow w A n bs) (hnc : n ≤ c) :
  Calls Tryz.prog 8 #[.slice A n c] w fun e w' => e = .returned (.bool true) ∧ Below w.heap.size w w' := by
 have hle := h.le
 unfold maxLen at hle
 by_cases hn : n ≤ 1048576
 ·have gn := decide_eq_false (p := (1048576 : Int) < n) (by omega)
  have gn2 := decide_eq_false (p := 1048576 < n) (by omega)
  go_enter Tryz.func8, Tryz.ntmps8
  go_wp2_with fail
  refine (specDrawReplaceRange A n c bs _ h hnc).mono ?_
  rintro e w1 ⟨o, l, m, d, s, f, t, U, size, rfl, hd, hs, hf, ht, hU, hsr, hb1⟩
  have kb2 := KBn.start w1 24 [.int .i64 o, .int .i64 l, .int .i64 m]
  have hW2 := hb1.alloc hb1.size (.cells #[.int .i64 o, .int .i64 l, .int .i64 m] 24)
  change KBn (w1.alloc (.cells #[.int .i64 o, .int .i64 l, .int .i64 m] 24)) _ _ at kb2
  clear hb1 h
  go_upto_region 4 with (fail)
  obtain ⟨G, hG⟩ : ∃ G, w1.heap.size = G := ⟨_, rfl⟩
  obtain ⟨w2, hw2⟩ : ∃ W, w1.alloc (.cells #[.int .i64 o, .int .i64 l, .int .i64 m] 24) = W := ⟨_, rfl⟩
  rw [hw2] at kb2 hW2 ⊢
  rw [hG] at kb2 ⊢
  clear hw2 hG
  replace kb2 := Lib.hid kb2
  replace hW2 := Lib.hid hW2
  have HI := fun W => implReplaceRange o l m d s U f t size W (by omega) (by omega) (by omega)
  have HS := fun W => specReplaceRange o l m d s U f t size W (by omega) (by omega) (by omega)
  have hs10 : s.size ≤ 1048576 := by omega
  replace hsr := Lib.hid hsr
  rcases hT : replC o l m d.data.toList (contB s) f t U.data.toList size with _ | x
  ·rw [hT] at HI HS
   unfold optV at HI HS
   replace HI := Lib.hid HI
   replace HS := Lib.hid HS
   replace hf := Lib.hid hf
   replace ht := Lib.hid ht
   clear hT
   have qkb0 := kb2.out.c 0 _ rfl
   have qkb1 := kb2.out.c 1 _ rfl
   have qkb2 := kb2.out.c 2 _ rfl
   go_wp2_with fail
   refine (HI.out _).mono ?_
   rintro e w3 ⟨rfl, hb3⟩
   have hW3 := Lib.hid (hW2.out.trans (hb3.mono hW2.out.size))
   have kb3 := Lib.hid (kb2.out.below hb3)
   clear hb3 hW2 kb2 qkb0 qkb1 qkb2
   have qkb0 := kb3.out.c 0 _ rfl
   have qkb1 := kb3.out.c 1 _ rfl
   have qkb2 := kb3.out.c 2 _ rfl
   go_wp2_with fail
   refine (HS.out _).mono ?_
   rintro e w4 ⟨rfl, hb4⟩
   have hW4 := Lib.hid (hW3.out.trans (hb4.mono hW3.out.size))
   have kb4 := Lib.hid (kb3.out.below hb4)
   clear hb4 hW3 kb3 qkb0 qkb1 qkb2
   go_wp2_with fail
   go_ret
   exact ⟨rfl, hW4.out⟩
  ·rw [hT] at HI HS
   obtain ⟨fn, tn, z1, N, u, p, q, rfl, rfl, ht4, hf4, hp, hq, hpl, hp40, _, s2, hN, hu, hNu, hun, hin⟩ := keeps_repl hT
   have HB := Lib.hid (fun W => implContainerBlocksYes s p z1 W hs10 hp hpl)
   have HX := Lib.hid (fun W => implIndexOf s p z1 W hs10 hp hpl)
   have H5 := fun W => implSameBlocks s x W hs10 (by omega)
   rw [hp, hq, hu] at H5
   have htk : p.take z1 = p := List.take_of_length_le (by omega)
   have hNz : n3 fn tn 0 (p.take z1) = N := by rw [htk]; exact hN
   unfold optV at HI HS
   simp only [Option.getD_some, Option.isSome_some] at HI HS
   have c3 : decide ((N : Int) ≤ (u : Int)) = true := decide_eq_true (by omega)
   have c3' : decide (N ≤ u) = true := decide_eq_true hNu
   have c4 : decide ((u : Int) ≤ (z1 : Int)) = true := decide_eq_true (by omega)
   have c4' : decide (u ≤ z1) = true := decide_eq_true hun
   replace HI := Lib.hid HI
   replace HS := Lib.hid HS
   replace H5 := Lib.hid H5
   replace hin := Lib.hid hin
   replace hNz := Lib.hid hNz
   clear hT hp hq hpl hf ht hu htk hN hNu hun s2
   have qkb0 := kb2.out.c 0 _ rfl
   have qkb1 := kb2.out.c 1 _ rfl
   have qkb2 := kb2.out.c 2 _ rfl
   go_wp2_with fail
   refine (HI.out _).mono ?_
   rintro e w3 ⟨rfl, hb3⟩
   have hW3 := Lib.hid (hW2.out.trans (hb3.mono hW2.out.size))
   have kb3 := Lib.hid (kb2.out.below hb3)
   clear hb3 hW2 kb2 qkb0 qkb1 qkb2
   have qkb0 := kb3.out.c 0 _ rfl
   have qkb1 := kb3.out.c 1 _ rfl
   have qkb2 := kb3.out.c 2 _ rfl
   go_wp2_with fail
   refine (HS.out _).mono ?_
   rintro e w4 ⟨rfl, hb4⟩
   have hW4 := Lib.hid (hW3.out.trans (hb4.mono hW3.out.size))
   have kb4 := Lib.hid (kb3.out.below hb4)
   clear hb4 hW3 kb3 qkb0 qkb1 qkb2
   go_wp2_with fail
   refine (HB.out _).mono ?_
   rintro e w5 ⟨Ab, cb, rfl, ho5, hb5⟩
   have rb := Lib.hid (Row.of_own ho5)
   clear ho5
   have hW5 := Lib.hid (hW4.out.trans (hb5.mono hW4.out.size))
   have kb5 := Lib.hid (kb4.out.below hb5)
   clear hb5 hW4 kb4
   go_wp2_with fail
   refine (HX.out _).mono ?_
   rintro e w6 ⟨Ax, cx, xs, rfl, hP, ho6, hb6⟩
   replace rb := Lib.hid (Row.more (Row.below rb.out hb6 (Nat.le_refl _)) hb6.size)
   have rx := Lib.hid ho6
   replace hP := Lib.hid hP
   clear ho6
   have hW6 := Lib.hid (hW5.out.trans (hb6.mono hW5.out.size))
   have kb6 := Lib.hid (kb5.out.below hb6)
   clear hb6 hW5 kb5
   go_wp2_with fail
   go_loopw [18, 19] (fun k v wr => ∃ c j : Nat, k = .int .i64 (c : Int) ∧ v = .int .i64 (j : Int) ∧ j ≤ z1 ∧ c ≤ j ∧ Hid (n3 fn tn 0 (p.take j) = c) ∧ Hid (Below w6.heap.size w6 wr)) (fun _ v _ => z1 - (intOf v).toNat)
   case atStart => exact ⟨0, 0, rfl, rfl, Nat.zero_le _, Nat.zero_le _, Lib.hid rfl, Lib.hid (Below.refl _ _)⟩
   case round =>
    obtain ⟨c, j, rfl, rfl, hj2, hcj, hcn, hbel⟩ := hrel
    have hwz := hbel.out.size
    by_cases hlt : j < z1
    ·obtain ⟨a, ps, ha, hps, hps2, ha64, hn3⟩ := hin.out j hlt
     rw [hcn.out] at hn3
     obtain ⟨g2, o2, rfl, hg2, a0, a1, a2, a3⟩ := (rb.out.below hbel.out (Nat.le_refl _)).blk (num := a.num) (raw := a.raw) (size := a.size) (body := a.body) hlt ha
     obtain ⟨g4, o4, rfl, hg4, p0⟩ := (rx.out.below hbel.out (Nat.le_refl _)).plc2 hP.out hlt hps
     obtain ⟨az, haz⟩ : ∃ z : Nat, a.size = z := ⟨_, rfl⟩
     rw [haz] at a2 ha64 hn3
     have i1 : (0 : Int) ≤ j := by omega
     have i2 : (j : Int) < z1 := by omega
     obtain ⟨pe, hpe⟩ : ∃ z : Nat, (ps : Int) + az = z := ⟨ps + az, by omega⟩
     have wpe : IntKind.i64.wrap (pe : Int) = pe := IntWalk.i64_in _ (by omega)
     clear a0 a1 a3 ha haz hps
     by_cases h1 : pe ≤ fn
     ·have c1 : decide ((pe : Int) ≤ (fn : Int)) = true := decide_eq_true (by omega)
      have c1' : decide (pe ≤ fn) = true := decide_eq_true h1
      have hn4 : Hid (n3 fn tn 0 (p.take (j + 1)) = c + 1) := Lib.hid (by rw [hn3, if_pos (Or.inl (by omega))])
      clear h1 hn3
      go_upto_region 14 with (fail)
      go_quiet (fail)
      go_wp2_with fail
      go_roundw
      case rel => exact ⟨c + 1, j + 1, by go_num, by go_num, by omega, by omega, hn4, Lib.hid (below_drewN hbel.out _)⟩
      case measure => simp [intOf]; omega
     ·have c1 : decide ((pe : Int) ≤ (fn : Int)) = false := decide_eq_false (by omega)
      have c1' : decide (pe ≤ fn) = false := decide_eq_false h1
      by_cases h2 : tn ≤ ps
      ·have c2 : decide ((tn : Int) ≤ (ps : Int)) = true := decide_eq_true (by omega)
       have c2' : decide (tn ≤ ps) = true := decide_eq_true h2
       have hn4 : Hid (n3 fn tn 0 (p.take (j + 1)) = c + 1) := Lib.hid (by rw [hn3, if_pos (Or.inr (by omega))])
       clear h1 h2 hn3
       go_upto_region 14 with (fail)
       go_quiet (fail)
       go_wp2_with fail
       go_roundw
       case rel => exact ⟨c + 1, j + 1, by go_num, by go_num, by omega, by omega, hn4, Lib.hid (below_drewN hbel.out _)⟩
       case measure => simp [intOf]; omega
      ·have c2 : decide ((tn : Int) ≤ (ps : Int)) = false := decide_eq_false (by omega)
       have c2' : decide (tn ≤ ps) = false := decide_eq_false h2
       have hn4 : Hid (n3 fn tn 0 (p.take (j + 1)) = c) := Lib.hid (by rw [hn3, if_neg (by omega)]; rfl)
       clear h1 h2 hn3
       go_upto_region 14 with (fail)
       go_quiet (fail)
       go_wp2_with fail
       go_roundw
       case rel => exact ⟨c, j + 1, rfl, by go_num, by omega, by omega, hn4, Lib.hid (below_drewN hbel.out _)⟩
       case measure => simp [intOf]; omega
    ·have hji : ¬ ((j : Int) < z1) := by omega
     have hjz : z1 = j := by omega
     have hcN : N = c := by
      have e1 := hNz.out
      rw [hjz] at e1
      rw [← e1]; exact hcn.out
     have hW7 := Lib.hid (hW6.out.trans (hbel.out.mono hW6.out.size))
     subst hcN
     clear hbel rb rx hP hcn hNz hwz hjz
     go_wp2_with fail
     refine (H5.out _).mono ?_
     rintro e w8 ⟨rfl, hb8⟩
     have hW8 := Lib.hid (hW7.out.trans (hb8.mono hW7.out.size))
     clear hb8 hW7
     go_wp2_with fail
     go_ret
     exact ⟨rfl, hW8.out⟩
 ·have gn := decide_eq_true (p := (1048576 : Int) < n) (by omega)
  have gn2 := decide_eq_true (p := 1048576 < n) (by omega)
  clear h
  go_enter Tryz.func8, Tryz.ntmps8
  go_wp2_with fail
  go_ret
  exact ⟨rfl, Below.refl _ _⟩

end Go.Proofs.YthlgpgaeajfchaaGreat

