/-
 The walk of the law FnWholeSeek.
-/
import Derived.Test.YthlgpgaeajfchaaGreatDoorTreeGrow
import Derived.Test.YthlgpgaeajfchaaGreatDoorRUnhexTwo
import Derived.Test.YthlgpgaeajfchaaGreatDoorHeldTail
import Derived.Test.YthlgpgaeajfchaaGreatDoorRMakeLaw
import Derived.Test.YthlgpgaeajfchaaGreatDoorDrawsM
import Derived.Lib.Join
import Derived.Lib.CutLaws

namespace Go.Proofs.YthlgpgaeajfchaaGreatDoor
open Go.RowKit
set_option linter.unusedVariables false
set_option linter.unusedSimpArgs false
set_option maxRecDepth 100000

structure PlVal (ps : List (Nat × Nat)) : Prop where
 len : ps.length ≤ 40
 small : ∀ (i a f : Nat), ps[i]? = some (a, f) → a ≤ 4000 ∧ f ≤ 2000
 first : ∀ (a f : Nat), ps[0]? = some (a, f) → a = 0 ∧ f = 0
 next : ∀ (i a f a' f' : Nat), ps[i]? = some (a, f) → ps[i + 1]? = some (a', f') → a < a' ∧ f < f'

theorem infoPlace : (Tryz.prog.info? 63).map (fun i => (i.zero, i.size, i.bytes)) = some (some (.agg #[.int .i64 0, .int .i64 0]), 2, 16) := by kernel_rfl

set_option maxHeartbeats 2000000 in
theorem implPlacesValid (A : Option Addr) (n c : Nat) (ps : List (Nat × Nat)) (w : World) (hR : Row w w.heap.size 2 A n (cellsP ps)) (hv : PlVal ps) :
  Calls Tryz.prog 31 #[.slice A n c] w fun e w' => e = .returned (.bool true) ∧ Below w.heap.size w w' := by
 have hn := hR.len2
 have h40 := hv.len
 have hle : n ≤ 40 := by omega
 replace hR := Lib.hid hR
 replace hv := Lib.hid hv
 replace hn := Lib.hid hn
 clear h40
 have gn := decide_eq_false (p := (40 : Int) < n) (by omega)
 have gn2 := decide_eq_false (p := 40 < n) (by omega)
 go_enter Tryz.func31, Tryz.ntmps31
 go_wp2_with fail
 go_loopw [10] (fun v wr => ∃ j : Nat, v = .int .i64 (j : Int) ∧ j ≤ n ∧ Hid (Below w.heap.size w wr)) (fun v _ => n - (intOf v).toNat)
 case atStart => exact ⟨0, rfl, Nat.zero_le _, Lib.hid (Below.refl _ _)⟩
 case round =>
  obtain ⟨j, rfl, hj, hbel⟩ := hrel
  have hwz := hbel.out.size
  by_cases hlt : j < n
  ·obtain ⟨⟨a, f⟩, hb⟩ : ∃ b, ps[j]? = some b := ⟨_, List.getElem?_eq_getElem (by rw [hn.out]; exact hlt)⟩
   have hr := hR.out.below hbel.out (Nat.le_refl _)
   obtain ⟨g, off, e0, hg, a0, a1⟩ := hr.pair hlt hb
   obtain ⟨s1, s2⟩ := hv.out.small j a f hb
   have i1 : (0 : Int) ≤ j := by omega
   have i2 : (j : Int) < n := by omega
   have d1 : decide ((a : Int) < 0) = false := decide_eq_false (by omega)
   have d2 : decide ((4000 : Int) < (a : Int)) = false := decide_eq_false (by omega)
   have d2' : decide (4000 < a) = false := decide_eq_false (by omega)
   have d3 : decide ((f : Int) < 0) = false := decide_eq_false (by omega)
   have d4 : decide ((2000 : Int) < (f : Int)) = false := decide_eq_false (by omega)
   have d4' : decide (2000 < f) = false := decide_eq_false (by omega)
   have hbl5 := (Below.refl wr.heap.size wr).alloc (Nat.le_refl _) (.cells #[.int .i64 (a : Int), .int .i64 (f : Int)] 63)
   have hb5 := hbel.out.trans (hbl5.mono hwz)
   have X5 := KBn.start wr 63 [.int .i64 (a : Int), .int .i64 (f : Int)]
   change KBn (wr.alloc (.cells #[.int .i64 (a : Int), .int .i64 (f : Int)] 63)) _ _ at X5
   replace hr := Lib.hid (hr.below hbl5 hwz)
   have e0' := Lib.hid e0
   subst e0
   clear hbl5 hbel
   go_upto_region 6 with (fail)
   obtain ⟨X, hX⟩ : ∃ X, wr.heap.size = X := ⟨_, rfl⟩
   obtain ⟨w5, hw5⟩ : ∃ W, wr.alloc (.cells #[.int .i64 (a : Int), .int .i64 (f : Int)] 63) = W := ⟨_, rfl⟩
   rw [hw5] at hb5 X5 hr ⊢
   rw [hX] at X5 hwz ⊢
   clear hw5 hX a0 a1
   replace hb5 := Lib.hid hb5
   have y0 := X5.c 0 _ rfl
   have y1 := X5.c 1 _ rfl
   clear X5
   by_cases h0 : j = 0
   ·subst h0
    obtain ⟨f1, f2⟩ := hv.out.first a f hb
    subst f1 f2
    clear s1 s2 d1 d2 d2' d3 d4 d4' hb
    go_upto_region 10 with (fail)
    go_quiet (fail)
    go_wp2_with fail
    go_roundw
    case rel => exact ⟨0 + 1, by go_num, by omega, Lib.hid (below_drewN hb5.out _)⟩
    case measure => simp [intOf]; omega
   ·obtain ⟨k, hk⟩ : ∃ k, k + 1 = j := ⟨j - 1, by omega⟩
    have ek : (j : Int) - 1 = k := by omega
    have wk : IntKind.i64.wrap (k : Int) = k := IntWalk.i64_in _ (by omega)
    obtain ⟨⟨a', f'⟩, hb'⟩ : ∃ b, ps[k]? = some b := ⟨_, List.getElem?_eq_getElem (by rw [hn.out]; omega)⟩
    obtain ⟨g', off', e1, hg', b0, b1⟩ := hr.out.pair (k := k) (by omega) hb'
    injection e1 with e1
    injection e1 with e1 e2
    subst e1 e2
    obtain ⟨n1, n2⟩ := hv.out.next k a' f' a f hb' (by rw [hk]; exact hb)
    have c0 : ((j : Int) == 0) = false := by rw [beq_eq_false_iff_ne]; omega
    have c0' : decide ((j : Int) = 0) = false := decide_eq_false (by omega)
    have c0'' : decide (j = 0) = false := decide_eq_false h0
    have c1 : decide ((0 : Int) < (j : Int)) = true := decide_eq_true (by omega)
    have c1' : decide (0 < j) = true := decide_eq_true (by omega)
    have c2 : decide ((a : Int) ≤ (a' : Int)) = false := decide_eq_false (by omega)
    have c2' : decide (a ≤ a') = false := decide_eq_false (by omega)
    have c3 : decide ((f : Int) ≤ (f' : Int)) = false := decide_eq_false (by omega)
    have c3' : decide (f ≤ f') = false := decide_eq_false (by omega)
    have k1 : (0 : Int) ≤ k := by omega
    have k2 : (k : Int) < n := by omega
    clear hb hb' n1 n2 s1 s2 hk h0
    go_upto_region 10 with (fail)
    go_quiet (fail)
    go_wp2_with fail
    go_roundw
    case rel => exact ⟨j + 1, by go_num, by omega, Lib.hid (below_drewN hb5.out _)⟩
    case measure => simp [intOf]; omega
  ·have hji : ¬ ((j : Int) < n) := by omega
   go_wp2_with fail
   go_ret
   exact ⟨rfl, hbel.out⟩

def SeekAt (ps : List (Nat × Nat)) (t j : Nat) (r : Int) : Prop := (j = 0 ∧ r = -1) ∨ ∃ q a f : Nat, r = q ∧ q < j ∧ ps[q]? = some (a, f) ∧ f ≤ t ∧ ∀ i a' f', q < i → i < j → ps[i]? = some (a', f') → t < f'

set_option maxHeartbeats 2000000 in
theorem implSeekBlock (A : Option Addr) (n c : Nat) (ps : List (Nat × Nat)) (t : Nat) (w : World) (hR : Row w w.heap.size 2 A n (cellsP ps)) (hv : PlVal ps) :
  Calls Tryz.prog 35 #[.slice A n c, .int .i64 (t : Int)] w fun e w' => (∃ r : Int, e = .returned (.int .i64 r) ∧ SeekAt ps t n r) ∧ Below w.heap.size w w' := by
 have hn := hR.len2
 have HV := Lib.hid (implPlacesValid A n c ps w hR hv)
 have hle : n ≤ 40 := by have := hv.len; omega
 replace hR := Lib.hid hR
 replace hv := Lib.hid hv
 replace hn := Lib.hid hn
 go_enter Tryz.func35, Tryz.ntmps35
 go_wp2_with fail
 refine HV.out.mono ?_
 rintro e w1 ⟨rfl, hb1⟩
 have hr1 := Lib.hid (hR.out.below hb1 (Nat.le_refl _))
 have hb1' := Lib.hid hb1
 clear HV hb1
 go_wp2_with fail
 go_loopw [5, 13] (fun u v wr => ∃ (r : Int) (j : Nat), u = .int .i64 r ∧ v = .int .i64 (j : Int) ∧ j ≤ n ∧ Hid (SeekAt ps t j r) ∧ Hid (Below w1.heap.size w1 wr)) (fun _ v _ => n - (intOf v).toNat)
 case atStart => exact ⟨-1, 0, rfl, rfl, Nat.zero_le _, Lib.hid (Or.inl ⟨rfl, rfl⟩), Lib.hid (Below.refl _ _)⟩
 case round =>
  obtain ⟨r, j, rfl, rfl, hj, hS, hbel⟩ := hrel
  have hwz := hbel.out.size
  by_cases hlt : j < n
  ·obtain ⟨⟨a, f⟩, hb⟩ : ∃ b, ps[j]? = some b := ⟨_, List.getElem?_eq_getElem (by rw [hn.out]; exact hlt)⟩
   obtain ⟨g, off, rfl, hg, a0, a1⟩ := ((hr1.out.more hb1'.out.size).below hbel.out (Nat.le_refl _)).pair hlt hb
   have i1 : (0 : Int) ≤ j := by omega
   have i2 : (j : Int) < n := by omega
   have hbl5 := (Below.refl wr.heap.size wr).alloc (Nat.le_refl _) (.cells #[.int .i64 (a : Int), .int .i64 (f : Int)] 63)
   have hb5 := Lib.hid (hbel.out.trans (hbl5.mono hwz))
   have X5 := KBn.start wr 63 [.int .i64 (a : Int), .int .i64 (f : Int)]
   change KBn (wr.alloc (.cells #[.int .i64 (a : Int), .int .i64 (f : Int)] 63)) _ _ at X5
   clear hbl5 hbel
   go_upto_region 7 with (fail)
   obtain ⟨X, hX⟩ : ∃ X, wr.heap.size = X := ⟨_, rfl⟩
   obtain ⟨w5, hw5⟩ : ∃ W, wr.alloc (.cells #[.int .i64 (a : Int), .int .i64 (f : Int)] 63) = W := ⟨_, rfl⟩
   rw [hw5] at hb5 X5 ⊢
   rw [hX] at X5 hwz ⊢
   clear hw5 hX a0 a1
   have y1 := X5.c 1 _ rfl
   clear X5
   by_cases h1 : f ≤ t
   ·have c1 : decide ((f : Int) ≤ (t : Int)) = true := decide_eq_true (by omega)
    have c1' : decide (f ≤ t) = true := decide_eq_true h1
    have hS2 : Hid (SeekAt ps t (j + 1) (j : Int)) := Lib.hid (Or.inr ⟨j, a, f, rfl, by omega, hb, h1, fun i a' f' h2 h3 _ => by omega⟩)
    clear h1 hS hb
    go_wp2_with fail
    go_roundw
    case rel => exact ⟨(j : Int), j + 1, rfl, by go_num, by omega, hS2, hb5⟩
    case measure => simp [intOf]; omega
   ·have c1 : decide ((f : Int) ≤ (t : Int)) = false := decide_eq_false (by omega)
    have c1' : decide (f ≤ t) = false := decide_eq_false h1
    have hS2 : Hid (SeekAt ps t (j + 1) r) := by
     rcases hS.out with ⟨e1, e2⟩ | ⟨q, a', f', e1, e2, e3, e4, e5⟩
     ·subst e1
      obtain ⟨_, e3⟩ := hv.out.first a f hb
      omega
     ·refine Lib.hid (Or.inr ⟨q, a', f', e1, by omega, e3, e4, fun i a2 f2 h2 h3 h4 => ?_⟩)
      by_cases e6 : i = j
      ·subst e6
       rw [hb] at h4
       injection h4 with h4
       injection h4 with _ h4
       omega
      ·exact e5 i a2 f2 h2 (by omega) h4
    clear h1 hS hb
    go_wp2_with fail
    go_roundw
    case rel => exact ⟨r, j + 1, rfl, by go_num, by omega, hS2, hb5⟩
    case measure => simp [intOf]; omega
  ·have hji : ¬ ((j : Int) < n) := by omega
   have hjn : j = n := by omega
   have hS2 := hS.out
   rw [hjn] at hS2
   have hres := Lib.hid (And.intro hS2 (hb1'.out.trans (hbel.out.mono hb1'.out.size)))
   clear hS hjn hS2
   go_wp2_with fail
   go_ret
   exact ⟨⟨r, rfl, hres.out.1⟩, hres.out.2⟩

def plOf (bs : List Blk) : List (Nat × Nat) := (List.range bs.length).map fun i => (txl (bs.take i), szs (bs.take i))

theorem plOf_length (bs : List Blk) : (plOf bs).length = bs.length := by simp [plOf]

theorem plOf_get (bs : List Blk) (i : Nat) (h : i < bs.length) : (plOf bs)[i]? = some (txl (bs.take i), szs (bs.take i)) := by
 unfold plOf
 rw [List.getElem?_map, List.getElem?_range h]
 rfl

theorem plOf_some {bs : List Blk} {i a f : Nat} (h : (plOf bs)[i]? = some (a, f)) : i < bs.length ∧ txl (bs.take i) = a ∧ szs (bs.take i) = f := by
 have hi : i < bs.length := by
  rcases Nat.lt_or_ge i bs.length with h1 | h1
  ·exact h1
  ·rw [List.getElem?_eq_none (by rw [plOf_length]; exact h1)] at h; cases h
 rw [plOf_get bs i hi] at h
 injection h with h
 injection h with h1 h2
 exact ⟨hi, h1, h2⟩

theorem txl_app (x y : List Blk) : txl (x ++ y) = txl x + txl y := by
 induction x with
 | nil => exact (Nat.zero_add _).symm
 | cons b x ih =>
  show 10 + b.body.size + txl (x ++ y) = 10 + b.body.size + txl x + txl y
  rw [ih]; omega

theorem txl_take_succ (bs : List Blk) (j : Nat) (b : Blk) (h : bs[j]? = some b) : txl (bs.take (j + 1)) = txl (bs.take j) + (10 + b.body.size) := by
 have hj : j < bs.length := by
  rcases Nat.lt_or_ge j bs.length with h1 | h1
  ·exact h1
  ·rw [List.getElem?_eq_none h1] at h; cases h
 have e : bs.take (j + 1) = bs.take j ++ [b] := by
  rw [List.take_add_one, h]; rfl
 rw [e, txl_app]; rfl

theorem plOf_val {s : ByteArray} {bs : List Blk} (h : contB s = some bs) : PlVal (plOf bs) := by
 obtain ⟨hok, h40, hz, htx, hs⟩ := contB_ok h
 have ht : txl bs = s.size := by rw [← htx]; exact (textsFrom_txl bs 0).symm
 have h1 : ∀ i, txl (bs.take i) ≤ txl bs ∧ szs (bs.take i) ≤ szs bs := fun i => by
  have e1 := txl_app (bs.take i) (bs.drop i)
  have e2 := szs_append (bs.take i) (bs.drop i)
  rw [List.take_append_drop] at e1 e2
  omega
 refine ⟨by rw [plOf_length]; exact h40, fun i a f hi => ?_, fun a f hi => ?_, fun i a f a' f' hi hi' => ?_⟩
 ·obtain ⟨_, e1, e2⟩ := plOf_some hi
  have := h1 i
  omega
 ·obtain ⟨_, e1, e2⟩ := plOf_some hi
  exact ⟨e1.symm, e2.symm⟩
 ·obtain ⟨hl, e1, e2⟩ := plOf_some hi
  obtain ⟨_, e3, e4⟩ := plOf_some hi'
  obtain ⟨b, hb⟩ : ∃ b, bs[i]? = some b := ⟨_, List.getElem?_eq_getElem hl⟩
  have g1 := txl_take_succ bs i b hb
  have g2 := szs_take_succ bs i b hb
  have g3 := (hok b (List.mem_of_getElem? hb)).1
  omega

def PlOk2 (bs : List Blk) (n j : Nat) (xs : List Value) : Prop := xs.length = n * 2 ∧ ∀ i, i < j → xs[i * 2]? = some (.int .i64 (txl (bs.take i) : Int)) ∧ xs[i * 2 + 1]? = some (.int .i64 (szs (bs.take i) : Int))

theorem PlOk2.set {bs : List Blk} {n j : Nat} {xs : List Value} (h : PlOk2 bs n j xs) (hj : j < n) {a q : Nat} (ha : txl (bs.take j) = a) (hq : szs (bs.take j) = q) : PlOk2 bs n (j + 1) ((xs.set (j * 2) (.int .i64 (a : Int))).set (j * 2 + 1) (.int .i64 (q : Int))) := by
 subst ha hq
 refine ⟨by rw [List.length_set, List.length_set]; exact h.1, fun i hi => ?_⟩
 have hl := h.1
 by_cases e : i = j
 ·subst e
  refine ⟨?_, by rw [List.getElem?_set_self (by rw [List.length_set]; omega)]⟩
  rw [List.getElem?_set_ne (by omega), List.getElem?_set_self (by omega)]
 ·rw [List.getElem?_set_ne (by omega), List.getElem?_set_ne (by omega), List.getElem?_set_ne (by omega), List.getElem?_set_ne (by omega)]
  exact h.2 i (by omega)

theorem PlOk2.all {bs : List Blk} {n : Nat} {xs : List Value} (h : PlOk2 bs n n xs) (hn : bs.length = n) : xs = cellsP (plOf bs) := by
 refine List.ext_getElem? fun m => ?_
 have hl := h.1
 have hc : (cellsP (plOf bs)).length = n * 2 := by rw [cellsP_length, plOf_length, hn]
 rcases Nat.lt_or_ge m (n * 2) with hm | hm
 ·obtain ⟨g1, g2⟩ := h.2 (m / 2) (by omega)
  have hg := plOf_get bs (m / 2) (by omega)
  rcases Nat.mod_two_eq_zero_or_one m with e | e
  ·have em : m = m / 2 * 2 + 0 := by omega
   rw [em, cellsP_get _ (m / 2) 0 _ hg (by omega)]
   rw [Nat.add_zero, g1]; rfl
  ·have em : m = m / 2 * 2 + 1 := by omega
   rw [em, cellsP_get _ (m / 2) 1 _ hg (by omega)]
   rw [g2]; rfl
 ·rw [List.getElem?_eq_none (by omega), List.getElem?_eq_none (by omega)]

theorem infoPl2 : (Tryz.prog.info? 63).map (fun i => (i.zero, i.size, i.bytes)) = some (some (.agg #[.int .i64 0, .int .i64 0]), 2, 16) := by kernel_rfl

set_option maxHeartbeats 4000000 in
theorem implIndexOfP (s : ByteArray) (bs : List Blk) (n : Nat) (w : World) (hs : s.size ≤ 1048576) (h : contB s = some bs) (hn : bs.length = n) :
  Calls Tryz.prog 9 #[.string s] w fun e w' => ∃ A c, e = .returned (.tuple #[.slice A n c, .bool true]) ∧ n ≤ c ∧ Row w' w'.heap.size 2 A n (cellsP (plOf bs)) ∧ Below w.heap.size w w' := by
 have hnum := contB_numbered h
 have h40 := hnum.length
 have hok := numbered_okb hnum
 have hz := contB_szs h
 have H1 := Lib.hid (fun W => implContainerBlocksYes s bs n W hs h hn)
 rw [hn] at h40
 replace hn := Lib.hid hn
 replace hok := Lib.hid hok
 replace hz := Lib.hid hz
 clear h hnum
 obtain ⟨i0, hi0, hz0, hzi, hz2⟩ := info_parts infoPl2
 have hmk := fun W => run_make_rowN (P := Tryz.prog) 31 63 i0 _ Tryz.underlying31 hi0 hz0 .i64 .i64 n n (Nat.le_refl _) (by rw [hz2]; omega) (by omega) W
 obtain ⟨cs, hcs⟩ : ∃ cs, madeCells (Value.agg #[.int .i64 0, .int .i64 0]).cells (n * i0.size) = cs := ⟨_, rfl⟩
 have hcsz : cs.size = n * 2 := by rw [← hcs, hzi]; simp [madeCells]
 rw [hcs] at hmk
 have hP0 : Hid (PlOk2 bs n 0 cs.toList) := Lib.hid ⟨by simpa using hcsz, fun i hi => absurd hi (Nat.not_lt_zero _)⟩
 clear hcs hi0 hz0 hzi hz2
 go_enter Tryz.func9, Tryz.ntmps9
 go_wp2_with fail
 refine (H1.out _).mono ?_
 rintro e w1 ⟨A1, c1, rfl, ho1, hb1⟩
 have hr := Lib.hid (Row.of_own ho1)
 have hz1 := hb1.size
 replace hb1 := Lib.hid hb1
 have hal : Below w1.heap.size w1 ((w1.alloc (.cells cs 63)).alloc (.cells #[.int .i64 0, .int .i64 0] 63)) := ((Below.refl _ _).alloc (Nat.le_refl _) _).alloc (by simp) _
 have own3 : ((w1.alloc (.cells cs 63)).alloc (.cells #[.int .i64 0, .int .i64 0] 63)).ownsRow w1.heap.size 63 2 (.slice (some ⟨w1.heap.size, 0, none⟩) n n) n cs.toList := (World.ownsRow_lit (size := 2) w1 cs n (Nat.le_refl _) (by unfold maxLen; omega) hcsz).alloc _
 have nb3 : KBn ((w1.alloc (.cells cs 63)).alloc (.cells #[.int .i64 0, .int .i64 0] 63)) (w1.heap.size + 1) [.int .i64 0, .int .i64 0] := by
  have := KBn.start (w1.alloc (.cells cs 63)) 63 [.int .i64 0, .int .i64 0]
  rw [World.size_alloc] at this
  exact this
 clear ho1 hcsz
 go_upto_region 6 with (fail)
 clear hmk
 obtain ⟨L, hL⟩ : ∃ L, w1.heap.size = L := ⟨_, rfl⟩
 obtain ⟨w3, hw3⟩ : ∃ W, (w1.alloc (.cells cs 63)).alloc (.cells #[.int .i64 0, .int .i64 0] 63) = W := ⟨_, rfl⟩
 rw [hw3] at hal own3 nb3 ⊢
 rw [hL] at hal own3 nb3 hz1 hr ⊢
 clear hw3
 replace hL := Lib.hid hL
 replace hal := Lib.hid hal
 replace own3 := Lib.hid own3
 replace nb3 := Lib.hid nb3
 go_wp2_with fail
 go_loopw [23] (fun i wr => ∃ (j a p : Nat) (xs : List Value), i = .int .i64 (j : Int) ∧ j ≤ n ∧ a ≤ 74 * j ∧ p ≤ 64 * j ∧ Hid (szs (bs.take j) = p) ∧ Hid (txl (bs.take j) = a) ∧ Hid (PlOk2 bs n j xs) ∧ Hid (wr.ownsRow L 63 2 (.slice (some ⟨L, 0, none⟩) n n) n xs) ∧ Hid (KBn wr (L + 1) [.int .i64 (a : Int), .int .i64 (p : Int)]) ∧ Hid (Below L w1 wr)) (fun i _ => n - (intOf i).toNat)
 case atStart => exact ⟨0, 0, 0, cs.toList, rfl, Nat.zero_le _, Nat.zero_le _, Nat.zero_le _, Lib.hid rfl, Lib.hid rfl, hP0, own3, nb3, hal⟩
 case round =>
  obtain ⟨j, a, p, xs, rfl, hj, ha, hp, hpz, haz, hP, hO, hN, hbel⟩ := hrel
  clear own3 nb3 hal hP0
  have hwz := hN.out.lt
  by_cases hlt : j < n
  ·obtain ⟨b, hb⟩ : ∃ b, bs[j]? = some b := ⟨_, List.getElem?_eq_getElem (by rw [hn.out]; exact hlt)⟩
   obtain ⟨g, off, rfl, hg, p0, p1, p2', p3⟩ := (hr.out.below hbel.out (Nat.le_refl _)).blk (num := b.num) (raw := b.raw) (size := b.size) (body := b.body) hlt hb
   have hob := hok.out b (List.mem_of_getElem? hb)
   have h64 := hob.2.1
   have hbd := Blk.okb_body hob
   have hsk := szs_take_succ bs j b hb
   rw [hpz.out] at hsk
   have hak := txl_take_succ bs j b hb
   rw [haz.out] at hak
   obtain ⟨x0, hx0⟩ : ∃ x : Nat, b.num = x := ⟨_, rfl⟩
   obtain ⟨x1, hx1⟩ : ∃ x, b.raw = x := ⟨_, rfl⟩
   obtain ⟨x2, hx2⟩ : ∃ x : Nat, b.size = x := ⟨_, rfl⟩
   obtain ⟨x3, hx3⟩ : ∃ x, b.body = x := ⟨_, rfl⟩
   rw [hx0] at p0
   rw [hx1] at p1
   rw [hx2] at p2' hsk h64
   rw [hx3] at p3 hbd hak
   obtain ⟨p2, hp2e⟩ : ∃ z, p + x2 = z := ⟨_, rfl⟩
   rw [hp2e] at hsk
   have hp2 : p2 ≤ 64 * (j + 1) := by omega
   have ep2 : (p : Int) + x2 = p2 := by omega
   have wp2 : IntKind.i64.wrap (p2 : Int) = p2 := IntWalk.i64_in _ (by omega)
   obtain ⟨xl, hxl⟩ : ∃ z, x3.size = z := ⟨_, rfl⟩
   obtain ⟨t1, ht1⟩ : ∃ z : Nat, (10 : Int) + xl = z := ⟨10 + xl, by omega⟩
   have wt1 : IntKind.i64.wrap (t1 : Int) = t1 := IntWalk.i64_in _ (by omega)
   obtain ⟨a2, ha2⟩ : ∃ z : Nat, (a : Int) + t1 = z := ⟨a + t1, by omega⟩
   have wa2 : IntKind.i64.wrap (a2 : Int) = a2 := IntWalk.i64_in _ (by omega)
   have ha3 : a2 ≤ 74 * (j + 1) := by omega
   have hj0 : (0 : Int) ≤ j := by omega
   have hji : (j : Int) < n := by omega
   have hpz2 : Hid (szs (bs.take (j + 1)) = p2) := Lib.hid hsk
   have haz2 : Hid (txl (bs.take (j + 1)) = a2) := Lib.hid (by omega)
   have hbl5 := (Below.refl wr.heap.size wr).alloc (Nat.le_refl _) (.cells #[.int .i64 (x0 : Int), .bool x1, .int .i64 (x2 : Int), .string x3] 65)
   have hb5 := Lib.hid (hbel.out.trans (hbl5.mono (by omega)))
   have O5 := own_below hO.out hbl5 (Nat.le_refl _)
   have N5 := hN.out.below hbl5
   have X5 := KBn.start wr 65 [.int .i64 (x0 : Int), .bool x1, .int .i64 (x2 : Int), .string x3]
   change KBn (wr.alloc (.cells #[.int .i64 (x0 : Int), .bool x1, .int .i64 (x2 : Int), .string x3] 65)) _ _ at X5
   replace hp2e := Lib.hid hp2e
   clear hbl5 hO hN hbel hx0 hx1 hx2 hx3 hb hsk hak
   go_upto_region 9 with (fail)
   obtain ⟨X, hX⟩ : ∃ X, wr.heap.size = X := ⟨_, rfl⟩
   obtain ⟨w5, hw5⟩ : ∃ W, wr.alloc (.cells #[.int .i64 (x0 : Int), .bool x1, .int .i64 (x2 : Int), .string x3] 65) = W := ⟨_, rfl⟩
   rw [hw5] at hb5 X5 O5 N5 ⊢
   rw [hX] at X5 hwz ⊢
   clear hw5 hX p0 p1 p2' p3
   obtain ⟨g2, hA2, hgb, hglt, hmc, hcell, hfz⟩ := own_place O5 (by omega)
   injection hA2 with hA2
   injection hA2 with hA2
   subst hA2
   have hxsl := hP.out.1
   have f0 := hfz (j * 2)
   have f1 := hfz (j * 2 + 1)
   have y0 := hcell (j * 2) _ (List.getElem?_eq_getElem (by omega))
   have y1 := hcell (j * 2 + 1) _ (List.getElem?_eq_getElem (by omega))
   have q0 := N5.c 0 _ rfl
   have q1 := N5.c 1 _ rfl
   have hO6 := Lib.hid (own_set (i := j * 2 + 1) (own_set (i := j * 2) O5 rfl (.int .i64 (a : Int))) rfl (.int .i64 (p : Int)))
   have hN6 := (N5.keep (S := fun x => x = L) (Keep.of_set (S := fun x => x = L) (w := w5) (p := ⟨L, j * 2, none⟩) rfl (.int .i64 (a : Int))) (by omega)).keep (S := fun x => x = L) (Keep.of_set (S := fun x => x = L) (p := ⟨L, j * 2 + 1, none⟩) rfl (.int .i64 (p : Int))) (by omega)
   have hX6 := (X5.keep (S := fun x => x = L) (Keep.of_set (S := fun x => x = L) (w := w5) (p := ⟨L, j * 2, none⟩) rfl (.int .i64 (a : Int))) (by omega)).keep (S := fun x => x = L) (Keep.of_set (S := fun x => x = L) (p := ⟨L, j * 2 + 1, none⟩) rfl (.int .i64 (p : Int))) (by omega)
   have hB6 := (hb5.out.setCell (p := ⟨L, j * 2, none⟩) (Nat.le_refl _) (.int .i64 (a : Int))).setCell (p := ⟨L, j * 2 + 1, none⟩) (Nat.le_refl _) (.int .i64 (p : Int))
   replace hcell := Lib.hid hcell
   replace hxsl := Lib.hid hxsl
   replace hmc := Lib.hid hmc
   clear hcell hfz O5 N5 X5 hb5
   go_upto_region 10 with (fail)
   clear q0 q1 f0 f1 y0 y1
   obtain ⟨w6, hw6⟩ : ∃ W, (w5.setCell ⟨L, j * 2, none⟩ (.int .i64 (a : Int))).setCell ⟨L, j * 2 + 1, none⟩ (.int .i64 (p : Int)) = W := ⟨_, rfl⟩
   rw [hw6] at hO6 hN6 hX6 hB6 ⊢
   clear hw6
   have q0 := hN6.c 0 _ rfl
   have f0 := hN6.f 0 _ rfl
   have y3 := hX6.c 3 _ rfl
   have hN7 := hN6.set (j := 0) rfl (.int .i64 (a2 : Int))
   change KBn _ _ [.int .i64 (a2 : Int), .int .i64 (p : Int)] at hN7
   have hX7 := hX6.keep (S := fun x => x = L + 1) (Keep.of_set (S := fun x => x = L + 1) (w := w6) (p := ⟨L + 1, 0, none⟩) rfl (.int .i64 (a2 : Int))) (by omega)
   have hO7 := own_keep hO6.out (Keep.of_set (S := fun x => x = L + 1) (w := w6) (p := ⟨L + 1, 0, none⟩) rfl (.int .i64 (a2 : Int))) (fun x e1 e2 => by
    have : L = x := by injection e1
    omega)
   have hB7 := hB6.setCell (p := ⟨L + 1, 0, none⟩) (Nat.le_succ _) (.int .i64 (a2 : Int))
   clear hN6 hX6 hO6 hB6
   go_upto_region 11 with (fail)
   clear q0 f0 y3
   obtain ⟨w7, hw7⟩ : ∃ W, w6.setCell ⟨L + 1, 0, none⟩ (.int .i64 (a2 : Int)) = W := ⟨_, rfl⟩
   rw [hw7] at hO7 hN7 hX7 hB7 ⊢
   clear hw7
   have q1 := hN7.c 1 _ rfl
   have f1 := hN7.f 1 _ rfl
   have y2 := hX7.c 2 _ rfl
   have hN8 := hN7.set (j := 1) rfl (.int .i64 (p2 : Int))
   change KBn _ _ [.int .i64 (a2 : Int), .int .i64 (p2 : Int)] at hN8
   have hO8 := own_keep hO7 (Keep.of_set (S := fun x => x = L + 1) (w := w7) (p := ⟨L + 1, 1, none⟩) rfl (.int .i64 (p2 : Int))) (fun x e1 e2 => by
    have : L = x := by injection e1
    omega)
   have hB8 := Lib.hid (hB7.setCell (p := ⟨L + 1, 1, none⟩) (Nat.le_succ _) (.int .i64 (p2 : Int)))
   replace hN8 := Lib.hid hN8
   replace hO8 := Lib.hid hO8
   have hP8 := Lib.hid (hP.out.set hlt haz.out hpz.out)
   clear hN7 hX7 hO7 hB7
   go_wp2_with fail
   go_roundw
   case rel => exact ⟨j + 1, a2, p2, _, rfl, by omega, ha3, hp2, hpz2, haz2, hP8, hO8, hN8, hB8⟩
   case measure => simp [intOf]; omega
  ·have hjn : j = n := by omega
   rw [hjn] at hP
   have hxs := hP.out.all hn.out
   have hres := Lib.hid (And.intro hxs (And.intro (Row.of_own hO.out) (hb1.out.trans (hbel.out.mono (by have := hL.out; omega)))))
   have hji : ¬ ((j : Int) < n) := by omega
   clear hP hO hN hbel hxs
   go_wp2_with fail
   refine bodyPost_ret (v := .tuple #[.slice (some ⟨L, 0, none⟩) n n, .bool true]) (by simp [results, Tryz.results9, go_sem]) rfl ?_
   have h2 := hres.out.2.1
   rw [hres.out.1] at h2
   exact ⟨_, n, rfl, Nat.le_refl _, h2, hres.out.2.2⟩

theorem take_snoc_blk {bs : List Blk} {j : Nat} {b : Blk} (h : bs[j]? = some b) : bs.take (j + 1) = bs.take j ++ [b] := by
 rw [List.take_add_one, h]; rfl

theorem place_parse {s : ByteArray} {bs : List Blk} (h : contB s = some bs) {j : Nat} {b : Blk} (hb : bs[j]? = some b) : ∃ nx, parse s (txl (bs.take j) : Int) = ⟨b, nx, true⟩ ∧ b.num = j := by
 obtain ⟨h1, h2⟩ := contB_numbered h j b hb
 have hj : j < bs.length := by
  rcases Nat.lt_or_ge j bs.length with h3 | h3
  ·exact h3
  ·rw [List.getElem?_eq_none h3] at hb; cases hb
 have ht := contB_text h
 have e : bs = bs.take j ++ [b] ++ bs.drop (j + 1) := by
  rw [← take_snoc_blk hb, List.take_append_drop]
 have hl : (bs.take j).length = j := by rw [List.length_take]; omega
 have e2 : s = textsFrom 0 (bs.take j) ++ textB b ++ textsFrom (j + 1) (bs.drop (j + 1)) := by
  rw [← ht]
  conv => lhs; rw [e]
  rw [textsFrom_append, textsFrom_append, List.length_append, hl, Nat.zero_add, Nat.zero_add]
  have e3 : textsFrom j [b] = textB b := by
   show textB (renum j b) ++ ByteArray.empty = textB b
   rw [renum_self h1, ByteArray.append_empty]
  rw [e3]
  rfl
 obtain ⟨p1, p2, p3⟩ := pb_text e2 h2
 rw [textsFrom_txl] at p1 p2 p3
 exact ⟨_, by rw [parse_yes p1, p2], h1⟩

theorem datas_take_all {k : Kn} {bs : List Blk} {D : List UInt8} (hok : ∀ b ∈ bs, b.okb) (h : k.datas bs = some D) (j : Nat) : k.datas (bs.take j) = some (D.take (szs (bs.take j))) := by
 have e := List.take_append_drop j bs
 rw [← e, Kn.datas_append] at h
 cases h1 : k.datas (bs.take j) with
 | none => rw [h1] at h; cases h
 | some x =>
  cases h2 : k.datas (bs.drop j) with
  | none => rw [h1, h2] at h; cases h
  | some y =>
   rw [h1, h2] at h
   have hD : x ++ y = D := by injection h
   have hl := Kn.datas_size (fun b hb => hok b (List.mem_of_mem_take hb)) h1
   rw [← hD, ← hl, List.take_left]

theorem datas_at {k : Kn} {bs : List Blk} {D : List UInt8} (hok : ∀ b ∈ bs, b.okb) (h : k.datas bs = some D) {j : Nat} {b : Blk} (hb : bs[j]? = some b) :
  ∃ e, k.blockData b = some e ∧ D.take (szs (bs.take (j + 1))) = D.take (szs (bs.take j)) ++ e ∧ e.length = b.size := by
 have h1 := datas_take_all hok h j
 have h2 := datas_take_all hok h (j + 1)
 rw [take_snoc_blk hb, Kn.datas_append, h1] at h2
 have hc : k.datas [b] = (k.blockData b).map (· ++ []) := by
  show (match k.blockData b, some [] with | some d, some e => some (d ++ e) | _, _ => none) = _
  cases k.blockData b <;> rfl
 rw [hc] at h2
 cases hd : k.blockData b with
 | none => rw [hd] at h2; cases h2
 | some e =>
  rw [hd] at h2
  have h3 : D.take (szs (bs.take j)) ++ (e ++ []) = D.take (szs (bs.take j ++ [b])) := by injection h2
  refine ⟨e, rfl, by rw [take_snoc_blk hb, ← h3, List.append_nil], Kn.blockData_size (hok b (List.mem_of_getElem? hb)) hd⟩

set_option maxHeartbeats 2000000 in
theorem implReadIndexed (o l m : Nat) (d s : ByteArray) (A : Option Addr) (n c : Nat) (bs : List Blk) (D : List UInt8) (f t : Nat) (w : World) (hf : dfits o l m d.data.toList) (hbs : contB s = some bs) (hn : bs.length = n)
  (hdat : (Kn.dict o l m d.data.toList).datas bs = some D) (hR : Row w w.heap.size 2 A n (cellsP (plOf bs))) (hft : f ≤ t) (ht : t ≤ D.length) :
  Calls Tryz.prog 12 #[.agg #[.int .i64 (o : Int), .int .i64 (l : Int), .int .i64 (m : Int)], .string d, .string s, .slice A n c, .int .i64 (f : Int), .int .i64 (t : Int)] w fun e w' => e = .returned (.tuple #[.string (bsL ((D.drop f).take (t - f))), .bool true]) ∧ Below w.heap.size w w' := by
 have hW0 := Lib.hid ((Below.refl w.heap.size w).alloc (Nat.le_refl _) (.cells #[.int .i64 (o : Int), .int .i64 (l : Int), .int .i64 (m : Int)] 24))
 have HS := fun W => implStartWithYes o l m d.data.toList W hf
 have hbd : bsL d.data.toList = d := rfl
 rw [hbd] at HS
 have hfr := (Kn.dict_fresh hf).1
 obtain ⟨k, hk⟩ : ∃ k, Kn.dict o l m d.data.toList = k := ⟨_, rfl⟩
 rw [hk] at HS hfr hdat
 have hval := Kn.val_eq k
 simp only [hval] at HS
 obtain ⟨hok, h40, hz, htx, hs⟩ := contB_ok hbs
 have hDl := Kn.datas_size hok hdat
 have HD := fun (A1 : Option Addr) (c1 : Nat) (b : Blk) (hb : b.okb) (B : Nat) (W : World) (hA : k.At W B A1) (hB : B ≤ W.heap.size) => implBlockData k A1 c1 B b W hfr hA hB hb
 simp only [hval] at HD
 have hv := plOf_val hbs
 have hpl : (plOf bs).length = n := by rw [plOf_length]; exact hn
 have HPV := fun (W : World) (hW : Below w.heap.size w W) => implPlacesValid A n c (plOf bs) W (Row.more (Row.below hR hW (Nat.le_refl _)) hW.size) hv
 have HSK := fun (W : World) (hW : Below w.heap.size w W) => implSeekBlock A n c (plOf bs) f W (Row.more (Row.below hR hW (Nat.le_refl _)) hW.size) hv
 have HP := fun (j : Nat) (b : Blk) (hb : bs[j]? = some b) => place_parse hbs hb
 have HB := fun (p : Nat) W => implParseBlock s (p : Int) W (by omega)
 have gs : decide ((4000 : Int) < s.size) = false := decide_eq_false (by omega)
 have gs2 : decide (4000 < s.size) = false := decide_eq_false (by omega)
 have gf : decide ((f : Int) < 0) = false := decide_eq_false (by omega)
 have gt : decide ((t : Int) < (f : Int)) = false := decide_eq_false (by omega)
 have gt2 : decide (t < f) = false := decide_eq_false (by omega)
 have gm : decide ((2000 : Int) < (t : Int)) = false := decide_eq_false (by omega)
 have gm2 : decide (2000 < t) = false := decide_eq_false (by omega)
 have ht2 : t ≤ 2000 := by omega
 obtain ⟨R, hRe⟩ : ∃ R, bsL ((D.drop f).take (t - f)) = R := ⟨_, rfl⟩
 rw [hRe]
 replace HS := Lib.hid HS
 replace HD := Lib.hid HD
 replace HPV := Lib.hid HPV
 replace HSK := Lib.hid HSK
 replace HP := Lib.hid HP
 replace HB := Lib.hid HB
 replace hR := Lib.hid hR
 replace hdat := Lib.hid hdat
 replace hok := Lib.hid hok
 replace hn := Lib.hid hn
 replace hDl := Lib.hid hDl
 replace hz := Lib.hid hz
 replace hRe := Lib.hid hRe
 replace h40 := Lib.hid h40
 replace hv := Lib.hid hv
 replace hft := Lib.hid hft
 replace ht := Lib.hid ht
 clear hk hbs hval hfr hf hbd htx hs hpl
 go_enter Tryz.func12, Tryz.ntmps12
 go_wp2_with fail
 refine (HS.out _).mono ?_
 rintro e w1 ⟨A1, c1, rfl, hnew, hcp, hb1⟩
 have hal : Below w1.heap.size w1 (w1.alloc (.cells #[.int .i64 (k.o : Int), .int .i64 (k.l : Int), .int .i64 (k.m : Int), .slice A1 k.ps.length c1, .int .i64 (k.base : Int), .int .i64 k.lastI] 48)) := (Below.refl _ _).alloc (Nat.le_refl _) _
 have hrow := (hnew.below hal).row
 have kb2 := KBn.start w1 48 [.int .i64 (k.o : Int), .int .i64 (k.l : Int), .int .i64 (k.m : Int), .slice A1 k.ps.length c1, .int .i64 (k.base : Int), .int .i64 k.lastI]
 change KBn (w1.alloc (.cells #[.int .i64 (k.o : Int), .int .i64 (k.l : Int), .int .i64 (k.m : Int), .slice A1 k.ps.length c1, .int .i64 (k.base : Int), .int .i64 k.lastI] 48)) _ _ at kb2
 have hW2 := (hW0.out.trans (hb1.mono hW0.out.size)).alloc (hW0.out.trans (hb1.mono hW0.out.size)).size (.cells #[.int .i64 (k.o : Int), .int .i64 (k.l : Int), .int .i64 (k.m : Int), .slice A1 k.ps.length c1, .int .i64 (k.base : Int), .int .i64 k.lastI] 48)
 have hA2 : k.At (w1.alloc (.cells #[.int .i64 (k.o : Int), .int .i64 (k.l : Int), .int .i64 (k.m : Int), .slice A1 k.ps.length c1, .int .i64 (k.base : Int), .int .i64 k.lastI] 48)) (w1.alloc (.cells #[.int .i64 (k.o : Int), .int .i64 (k.l : Int), .int .i64 (k.m : Int), .slice A1 k.ps.length c1, .int .i64 (k.base : Int), .int .i64 k.lastI] 48)).heap.size A1 := hrow
 clear hb1 hW0 hnew hal hcp hrow
 go_upto_region 2 with (fail)
 obtain ⟨G, hG⟩ : ∃ G, w1.heap.size = G := ⟨_, rfl⟩
 obtain ⟨w2, hw2⟩ : ∃ W, w1.alloc (.cells #[.int .i64 (k.o : Int), .int .i64 (k.l : Int), .int .i64 (k.m : Int), .slice A1 k.ps.length c1, .int .i64 (k.base : Int), .int .i64 k.lastI] 48) = W := ⟨_, rfl⟩
 rw [hw2] at kb2 hW2 hA2 ⊢
 rw [hG] at kb2 ⊢
 clear hw2 hG
 replace kb2 := Lib.hid kb2
 replace hW2 := Lib.hid hW2
 replace hA2 := Lib.hid hA2
 go_wp2_with fail
 refine (HPV.out _ hW2.out).mono ?_
 rintro e w3 ⟨rfl, hb3⟩
 have hW3 := Lib.hid (hW2.out.trans (hb3.mono hW2.out.size))
 have kb3 := Lib.hid (kb2.out.below hb3)
 have hA3 : Hid (k.At w3 w3.heap.size A1) := Lib.hid (Row.more (Row.below hA2.out hb3 (Nat.le_refl _)) hb3.size)
 clear hb3 hW2 kb2 hA2
 by_cases hft2 : f = t
 ·have hRz : Hid (R = ⟨#[]⟩) := Lib.hid (by rw [← hRe.out, hft2, Nat.sub_self, List.take_zero])
  have ge : ((f : Int) == (t : Int)) = true := by rw [hft2]; simp
  have ge2 : decide ((f : Int) = (t : Int)) = true := decide_eq_true (by omega)
  have ge3 : decide (f = t) = true := decide_eq_true hft2
  replace hft2 := Lib.hid hft2
  go_wp2_with fail
  refine bodyPost_ret (v := .tuple #[.string ⟨#[]⟩, .bool true]) (by simp [results, Tryz.results12, go_sem]) rfl ?_
  rw [hRz.out]
  exact ⟨rfl, hW3.out⟩
 ·have ge : ((f : Int) == (t : Int)) = false := by rw [beq_eq_false_iff_ne]; omega
  have ge2 : decide ((f : Int) = (t : Int)) = false := decide_eq_false (by omega)
  have ge3 : decide (f = t) = false := decide_eq_false hft2
  have hlt0 : Hid (f < t) := Lib.hid (by have := hft.out; omega)
  clear hft2
  go_wp2_with fail
  refine (HSK.out _ hW3.out).mono ?_
  rintro e w4 ⟨⟨r, rfl, hS⟩, hb4⟩
  have hW4 := Lib.hid (hW3.out.trans (hb4.mono hW3.out.size))
  have kb4 := Lib.hid (kb3.out.below hb4)
  have hA4 : Hid (k.At w4 w4.heap.size A1) := Lib.hid (Row.more (Row.below hA3.out hb4 (Nat.le_refl _)) hb4.size)
  clear hb4 hW3 kb3 hA3
  have hn0 : 0 < n := by
   have h1 := hlt0.out
   have h2 := ht.out
   have h3 := hDl.out
   rcases Nat.eq_zero_or_pos n with h4 | h4
   ·have h5 : bs = [] := List.eq_nil_of_length_eq_zero (by rw [hn.out]; exact h4)
    rw [h5] at h3
    have h6 : szs ([] : List Blk) = 0 := rfl
    omega
   ·exact h4
  rcases hS with ⟨h1, _⟩ | ⟨q0, a0, st, rfl, hq0, hb0, hst, _⟩
  ·omega
  obtain ⟨_, ea0, est⟩ := plOf_some hb0
  obtain ⟨g, off, rfl, hg, x0, x1⟩ := (hR.out.below hW4.out (Nat.le_refl _)).pair hq0 hb0
  have j1 : (0 : Int) ≤ q0 := by omega
  have j2 : (q0 : Int) < n := by omega
  have j3 : decide ((q0 : Int) < 0) = false := decide_eq_false (by omega)
  have hn40 : n ≤ 40 := by
   have h1 := h40.out
   rw [hn.out] at h1
   exact h1
  replace hst := Lib.hid hst
  replace est := Lib.hid est
  clear hb0 ea0
  go_upto_region 11 with (fail)
  clear x0 x1
  go_wp2_with fail
  go_loopw [16, 18] (fun v y wr => ∃ (q p : Nat) (X : ByteArray), v = .int .i64 (q : Int) ∧ y = .string X ∧ q ≤ n ∧ q0 ≤ q ∧ Hid (szs (bs.take q) = p) ∧ st + X.size = p ∧ p ≤ 2000 ∧ Hid (X = bsL ((D.take p).drop st)) ∧ Hid (Below w4.heap.size w4 wr)) (fun v _ _ => n - (intOf v).toNat)
  case atStart =>
   have h2 : st ≤ 2000 := by
    have h3 := hst.out
    have h4 := ht.out
    have h5 := hft.out
    omega
   exact ⟨q0, st, ⟨#[]⟩, rfl, rfl, by omega, Nat.le_refl _, est, rfl, h2, Lib.hid (by rw [List.drop_eq_nil_of_le (by rw [List.length_take]; omega)]), Lib.hid (Below.refl _ _)⟩
  case round =>
   obtain ⟨q, p, X, rfl, rfl, hq, hq2, hp, hX, hp2, hXD, hbel⟩ := hrel
   have hwz := hbel.out.size
   have eX : (st : Int) + X.size = p := by omega
   have wX : IntKind.i64.wrap (p : Int) = p := IntWalk.i64_in _ (by omega)
   by_cases hlt : p < t
   ·have hqn : q < n := by
     have h2 := ht.out
     have h3 := hDl.out
     rcases Nat.lt_or_ge q n with h4 | h4
     ·exact h4
     ·have h5 : bs.take q = bs := List.take_of_length_le (by rw [hn.out]; exact h4)
      have h6 := hp.out
      rw [h5] at h6
      omega
    obtain ⟨b, hb⟩ : ∃ b, bs[q]? = some b := ⟨_, List.getElem?_eq_getElem (by rw [hn.out]; exact hqn)⟩
    obtain ⟨nx, hpa, hnum⟩ := HP.out q b hb
    obtain ⟨e, he, hDe, hel⟩ := datas_at hok.out hdat.out hb
    have hsk := szs_take_succ bs q b hb
    rw [hp.out] at hsk hDe
    have hob := hok.out b (List.mem_of_getElem? hb)
    have hle : szs (bs.take (q + 1)) ≤ szs bs := by
     have := szs_append (bs.take (q + 1)) (bs.drop (q + 1))
     rw [List.take_append_drop] at this
     omega
    have hgp := plOf_get bs q (by rw [hn.out]; exact hqn)
    rw [hp.out] at hgp
    obtain ⟨ax, hax⟩ : ∃ ax, txl (bs.take q) = ax := ⟨_, rfl⟩
    rw [hax] at hgp hpa
    have hr := hR.out.below (hW4.out.trans (hbel.out.mono hW4.out.size)) (Nat.le_refl _)
    obtain ⟨g', off', e0, hg', x0, x1⟩ := hr.pair hqn hgp
    injection e0 with e0
    injection e0 with e0 e1
    subst e0 e1
    have HBq := fun W => HB.out ax W
    rw [hpa] at HBq
    have HDq := fun (W : World) (hW : Below w4.heap.size w4 W) => HD.out A1 c1 b hob w4.heap.size W (hA4.out.below hW (Nat.le_refl _)) hW.size
    rw [he] at HDq
    have hbv : b.val = .agg #[.int .i64 b.num, .bool b.raw, .int .i64 b.size, .string b.body] := rfl
    simp only [hbv, Option.getD_some, Option.isSome_some] at HDq
    have hpv : (Parsed.mk b nx true).val = .tuple #[.agg #[.int .i64 b.num, .bool b.raw, .int .i64 b.size, .string b.body], .int .i64 nx, .bool true] := rfl
    simp only [hpv] at HBq
    rw [hnum] at HBq HDq
    obtain ⟨y1, hy1⟩ : ∃ x, b.raw = x := ⟨_, rfl⟩
    obtain ⟨y2, hy2⟩ : ∃ x : Nat, b.size = x := ⟨_, rfl⟩
    obtain ⟨y3, hy3⟩ : ∃ x, b.body = x := ⟨_, rfl⟩
    rw [hy1, hy2, hy3] at HBq HDq
    rw [hy2] at hsk hel
    obtain ⟨p2, hp2e⟩ : ∃ z, szs (bs.take (q + 1)) = z := ⟨_, rfl⟩
    obtain ⟨Y, hY⟩ : ∃ Y, bsL e = Y := ⟨_, rfl⟩
    have hYs : Y.size = y2 := by rw [← hY, ← hel]; rfl
    rw [hY] at HDq
    rw [hp2e] at hsk hDe hle
    have hz' := hz.out
    have hXY : X.size + Y.size ≤ 100000 := by omega
    have hpp : Hid (szs (bs.take (q + 1)) = p2) := Lib.hid hp2e
    have hX2 : st + (X ++ Y).size = p2 := by rw [ByteArray.size_append]; omega
    have hp22 : p2 ≤ 2000 := by omega
    have hXD2 : Hid (X ++ Y = bsL ((D.take p2).drop st)) := Lib.hid (by
     rw [hXD.out, ← hY, hDe, bsL_append]
     congr 1
     rw [List.drop_append_of_le_length]
     have h3 := ht.out
     rw [List.length_take]
     omega)
    have i1 : (0 : Int) ≤ q := by omega
    have i2 : (q : Int) < n := by omega
    have gq : decide ((n : Int) ≤ (q : Int)) = false := decide_eq_false (by omega)
    have gq2 : decide (n ≤ q) = false := decide_eq_false (by omega)
    have glt : ((p : Int) < (t : Int)) := by omega
    have hwr := Lib.hid (hW4.out.trans (hbel.out.mono hW4.out.size))
    replace HBq := Lib.hid HBq
    replace HDq := Lib.hid HDq
    replace hX2 := Lib.hid hX2
    have hqn1 : q + 1 ≤ n := hqn
    have hmz : n - (q + 1) < n - q := by omega
    replace hYs := Lib.hid hYs
    clear hpa hnum he hDe hel hsk hle hgp hax hbv hpv hy1 hy2 hy3 hp2e hY hz' hb hob hXD hp hr
    go_wp2_with fail
    refine (HBq.out _).mono ?_
    rintro e w5 ⟨rfl, hb5⟩
    have hB5 := hbel.out.trans (hb5.mono hwz)
    have hbl6 := (Below.refl w5.heap.size w5).alloc (Nat.le_refl _) (.cells #[.int .i64 (q : Int), .bool y1, .int .i64 (y2 : Int), .string y3] 65)
    have hB6 := hB5.trans (hbl6.mono hB5.size)
    have X6 := KBn.start w5 65 [.int .i64 (q : Int), .bool y1, .int .i64 (y2 : Int), .string y3]
    change KBn (w5.alloc (.cells #[.int .i64 (q : Int), .bool y1, .int .i64 (y2 : Int), .string y3] 65)) _ _ at X6
    clear hb5 hB5 hbel hbl6 x0 x1
    go_upto_region 15 with (fail)
    obtain ⟨G6, hG6⟩ : ∃ G, w5.heap.size = G := ⟨_, rfl⟩
    obtain ⟨w6, hw6⟩ : ∃ W, w5.alloc (.cells #[.int .i64 (q : Int), .bool y1, .int .i64 (y2 : Int), .string y3] 65) = W := ⟨_, rfl⟩
    rw [hw6] at hB6 X6 ⊢
    rw [hG6] at X6 ⊢
    clear hw6 hG6
    have k6 := kb4.out.below hB6
    have HD6 := Lib.hid (HDq.out _ hB6)
    have hB6' := Lib.hid hB6
    have z0 := X6.c 0 _ rfl
    have z1 := X6.c 1 _ rfl
    have z2 := X6.c 2 _ rfl
    have z3 := X6.c 3 _ rfl
    have u0 := k6.c 0 _ rfl
    have u1 := k6.c 1 _ rfl
    have u2 := k6.c 2 _ rfl
    have u3 := k6.c 3 _ rfl
    have u4 := k6.c 4 _ rfl
    have u5 := k6.c 5 _ rfl
    clear X6 k6 hB6 HDq HBq
    go_wp2_with fail
    refine HD6.out.mono ?_
    rintro e w7 ⟨rfl, hb7⟩
    have hB7 := Lib.hid (hB6'.out.trans (hb7.mono hB6'.out.size))
    clear hb7 hB6' HD6 z0 z1 z2 z3 u0 u1 u2 u3 u4 u5
    go_wp2_with fail
    go_roundw
    case rel => exact ⟨q + 1, p2, X ++ Y, by go_num, rfl, hqn1, by omega, hpp, hX2.out, hp22, hXD2, hB7⟩
    case measure => simp [intOf]; omega
   ·obtain ⟨v1, hv1⟩ : ∃ z, f - st = z := ⟨_, rfl⟩
    obtain ⟨v2, hv2⟩ : ∃ z, t - st = z := ⟨_, rfl⟩
    have hst' := hst.out
    have hft' := hft.out
    have ev1 : (f : Int) - st = v1 := by omega
    have ev2 : (t : Int) - st = v2 := by omega
    have wv1 : IntKind.i64.wrap (v1 : Int) = v1 := IntWalk.i64_in _ (by omega)
    have wv2 : IntKind.i64.wrap (v2 : Int) = v2 := IntWalk.i64_in _ (by omega)
    have c1 : (0 : Int) ≤ v1 := by omega
    have c2 : (v1 : Int) ≤ v2 := by omega
    have c3 : (v2 : Int) ≤ X.size := by omega
    have glt : ¬ ((p : Int) < (t : Int)) := by omega
    have hXr : Hid (X.extract v1 v2 = R) := Lib.hid (by
     rw [hXD.out, ← hRe.out, bsL_part, List.drop_drop, ← hv1, ← hv2]
     have e1 : st + (f - st) = f := by omega
     have e2 : t - st - (f - st) = t - f := by omega
     rw [e1, e2, List.drop_take, List.take_take]
     congr 2
     omega)
    have hfin := Lib.hid (hW4.out.trans (hbel.out.mono hW4.out.size))
    replace hv1 := Lib.hid hv1
    replace hv2 := Lib.hid hv2
    clear hXD hp hbel hst' hft'
    go_wp2_with fail
    refine bodyPost_ret (v := .tuple #[.string (X.extract v1 v2), .bool true]) (by simp [results, Tryz.results12, go_sem]) rfl ?_
    rw [hXr.out]
    exact ⟨rfl, hfin.out⟩

def jSp (ss : List ByteArray) : ByteArray := ⟨(Lib.join (ss.map (·.data.toList)) [32]).toArray⟩

theorem jSp_size {ss : List ByteArray} {M : Nat} (h : ∀ s ∈ ss, s.size ≤ M) : (jSp ss).size ≤ (M + 1) * ss.length := by
 have h1 : ∀ r : List ByteArray, (∀ s ∈ r, s.size ≤ M) → (Lib.joinTail [32] (r.map (·.data.toList))).length ≤ (M + 1) * r.length := by
  intro r
  induction r with
  | nil => intro _; simp [Lib.joinTail]
  | cons y ys ih =>
   intro hr
   have h2 := ih (fun s hs => hr s (List.mem_cons_of_mem _ hs))
   have h3 := hr y (List.mem_cons_self ..)
   have e : Lib.joinTail [32] ((y :: ys).map (·.data.toList)) = [32] ++ y.data.toList ++ Lib.joinTail [32] (ys.map (·.data.toList)) := by simp [Lib.joinTail]
   rw [e]
   have e2 : y.data.toList.length = y.size := rfl
   rw [List.length_append, List.length_append, e2, List.length_cons, List.length_nil, List.length_cons, Nat.mul_succ]
   omega
 cases ss with
 | nil => exact Nat.zero_le _
 | cons x r =>
  have h2 := h1 r (fun s hs => h s (List.mem_cons_of_mem _ hs))
  have h3 := h x (List.mem_cons_self ..)
  have e : (jSp (x :: r)).size = x.size + (Lib.joinTail [32] (r.map (·.data.toList))).length := by
   unfold jSp
   rw [List.map_cons, Lib.join_cons]
   show (x.data.toList ++ _).toArray.size = _
   rw [List.size_toArray, List.length_append]
   rfl
  rw [e, List.length_cons, Nat.mul_succ]; omega

theorem infoStrX : (Tryz.prog.info? 9).map (fun i => (i.zero, i.size, i.bytes)) = some (some (.string ByteArray.empty), 1, 16) := by kernel_rfl

def plT (p : Nat × Nat) : ByteArray := decB p.1 ++ ⟨#[58]⟩ ++ decB p.2

def idxT (ps : List (Nat × Nat)) : ByteArray := dashB (jSp (ps.map plT))

theorem plT_size {a f : Nat} (ha : a ≤ 4000) (hf : f ≤ 2000) : (plT (a, f)).size ≤ 6003 := by
 have h1 := decB_size a
 have h2 := decB_size f
 have h3 : (⟨#[58]⟩ : ByteArray).size = 1 := rfl
 unfold plT
 rw [ByteArray.size_append, ByteArray.size_append, h3]
 show (decB a).size + 1 + (decB f).size ≤ 6003
 omega

set_option maxHeartbeats 2000000 in
theorem implFormatIndex (A : Option Addr) (n c : Nat) (ps : List (Nat × Nat)) (w : World) (hR : Row w w.heap.size 2 A n (cellsP ps)) (hv : PlVal ps) (hT : TabW w) :
  Calls Tryz.prog 11 #[.slice A n c] w fun e w' => e = .returned (.string (idxT ps)) ∧ Below w.heap.size w w' := by
 have hn := hR.len2
 have HV := Lib.hid (implPlacesValid A n c ps w hR hv)
 have hn40 : n ≤ 40 := by have := hv.len; omega
 have hmk := run_make_row' (P := Tryz.prog) 66 9 (.string ByteArray.empty) 16 Tryz.underlying66 infoStrX rfl .i64 .i64 n (by omega) (by omega)
 obtain ⟨us, hus⟩ : ∃ us, ps.map plT = us := ⟨_, rfl⟩
 have hul : us.length = n := by rw [← hus]; simpa using hn
 have hmem : ∀ u ∈ us, u.size ≤ 6003 := fun u hu => by
  rw [← hus] at hu
  obtain ⟨⟨a, f⟩, hp, rfl⟩ := List.mem_map.1 hu
  obtain ⟨i, hi⟩ := List.getElem?_of_mem hp
  obtain ⟨h1, h2⟩ := hv.small i a f hi
  exact plT_size h1 h2
 have hjz : (Lib.join (us.map (·.data.toList)) [32]).length ≤ 140737488355328 := by
  have h1 := jSp_size hmem
  have h2 : (jSp us).size = (Lib.join (us.map (·.data.toList)) [32]).length := by unfold jSp; simp [ByteArray.size]
  rw [h2, hul] at h1
  have := Nat.mul_le_mul_left (6003 + 1) hn40
  omega
 have HJ : ∀ (A : Option Addr) (c : Nat) W, n ≤ c → Row W W.heap.size 1 A n (us.map .string) → Calls Tryz.prog 34 #[.slice A n c, .string ⟨#[32]⟩] W fun e w' => e = .returned (.string (jSp us)) ∧ Below W.heap.size W w' := by
  intro A c W hc hr
  rcases Nat.eq_zero_or_pos n with h0 | h0
  ·have hu0 : us = [] := List.eq_nil_of_length_eq_zero (by omega)
   subst h0 hu0
   refine (Tryz.strings_Join_none A c ⟨#[32]⟩ W).mono ?_
   rintro e w' ⟨rfl, rfl⟩
   exact ⟨rfl, Below.refl _ _⟩
  ·obtain ⟨b, off, rfl, hb, hcell⟩ := hr.2 h0
   have := Tryz.strings_Join b off c us ⟨#[32]⟩ W (fun j x hx => hcell j _ (by simp [hx])) hb (by omega) (by omega) hjz
   rw [hul] at this
   exact this
 have hRR : idxT ps = dashB (jSp us) := by unfold idxT; rw [hus]
 rw [hRR]
 replace HJ := Lib.hid HJ
 replace hul := Lib.hid hul
 replace hus := Lib.hid hus
 replace hR := Lib.hid hR
 replace hv := Lib.hid hv
 replace hn := Lib.hid hn
 replace hT := Lib.hid hT
 clear hmem hjz hRR
 go_enter Tryz.func11, Tryz.ntmps11
 go_wp2_with fail
 refine HV.out.mono ?_
 rintro e w1 ⟨rfl, hb1⟩
 have hr1 := Lib.hid (hR.out.below hb1 (Nat.le_refl _))
 have hT1 := Lib.hid (hT.out.below hb1 (Nat.le_refl _))
 have hz1 := hb1.size
 have hb1' := Lib.hid hb1
 clear HV hb1
 go_wp2_with fail
 go_loopw [14] (fun i wr => ∃ k : Nat, k ≤ n ∧ i = .int .i64 k ∧ Hid (wr.rowIs w1.heap.size 9 n (fun j => if j < k then .string (us.getD j ByteArray.empty) else .string ByteArray.empty)) ∧ Hid (Below w1.heap.size w1 wr)) (fun i _ => n - (intOf i).toNat)
 case atStart => exact ⟨0, Nat.zero_le _, rfl, Lib.hid ((World.rowIs_made _ _ _ _).congr (fun i _ => by simp)), Lib.hid ((Below.refl _ _).alloc (Nat.le_refl _) _)⟩
 case round =>
  obtain ⟨k, hk, rfl, hrowi, hbel⟩ := hrel
  have hwz := hbel.out.size
  by_cases hlt : k < n
  ·obtain ⟨⟨a, f⟩, hb⟩ : ∃ b, ps[k]? = some b := ⟨_, List.getElem?_eq_getElem (by rw [hn.out]; exact hlt)⟩
   obtain ⟨g, off, rfl, hg, a0, a1⟩ := ((hr1.out.more hz1).below hbel.out (Nat.le_refl _)).pair hlt hb
   obtain ⟨s1, s2⟩ := hv.out.small k a f hb
   have hu : us[k]? = some (plT (a, f)) := by rw [← hus.out, List.getElem?_map, hb]; rfl
   have i1 : (0 : Int) ≤ k := by omega
   have i2 : (k : Int) < n := by omega
   have HA := fun W h => implItoa a W (by omega) h
   have HF := fun W h => implItoa f W (by omega) h
   have z1 := decB_size a
   have z2 := decB_size f
   obtain ⟨AB, hAB⟩ : ∃ x, decB a = x := ⟨_, rfl⟩
   obtain ⟨FB, hFB⟩ : ∃ x, decB f = x := ⟨_, rfl⟩
   have hpl : plT (a, f) = AB ++ ⟨#[58]⟩ ++ FB := by rw [← hAB, ← hFB]; rfl
   rw [hAB] at HA z1
   rw [hFB] at HF z2
   rw [hpl] at hu
   have sz : (⟨#[58]⟩ : ByteArray).size = 1 := rfl
   have hadd1 : ∀ W, (Op.stringOp .add AB ⟨#[58]⟩).run Tryz.prog W = .ok (.string (AB ++ ⟨#[58]⟩)) W := fun W => run_string_add_sum W _ _ (by rw [sz]; omega)
   have hadd2 : ∀ W, (Op.stringOp .add (AB ++ ⟨#[58]⟩) FB).run Tryz.prog W = .ok (.string (AB ++ ⟨#[58]⟩ ++ FB)) W := fun W => run_string_add_sum W _ _ (by rw [ByteArray.size_append, sz]; omega)
   have hbl5 := (Below.refl wr.heap.size wr).alloc (Nat.le_refl _) (.cells #[.int .i64 (a : Int), .int .i64 (f : Int)] 63)
   have hb5 := Lib.hid (hbel.out.trans (hbl5.mono hwz))
   have X5 := KBn.start wr 63 [.int .i64 (a : Int), .int .i64 (f : Int)]
   change KBn (wr.alloc (.cells #[.int .i64 (a : Int), .int .i64 (f : Int)] 63)) _ _ at X5
   have hlt2 := hrowi.out.lt
   have hro5 := hrowi.out.of_block (hbl5.block _ hlt2)
   have hT5 := hT1.out.below hb5.out (Nat.le_refl _)
   replace HA := Lib.hid HA
   replace HF := Lib.hid HF
   clear hbl5 hbel hb z1 z2 hAB hFB hpl sz s1 s2 hrowi
   go_upto_region 7 with (fail)
   obtain ⟨X, hX⟩ : ∃ X, wr.heap.size = X := ⟨_, rfl⟩
   obtain ⟨w5, hw5⟩ : ∃ W, wr.alloc (.cells #[.int .i64 (a : Int), .int .i64 (f : Int)] 63) = W := ⟨_, rfl⟩
   rw [hw5] at hb5 X5 hro5 hT5 ⊢
   rw [hX] at X5 hwz hlt2 ⊢
   clear hw5 hX a0 a1
   replace X5 := Lib.hid X5
   replace hro5 := Lib.hid hro5
   replace hT5 := Lib.hid hT5
   have hSX : Hid (∀ W, Below w5.heap.size w5 W → W.cell? ⟨X, 0, none⟩ = some (.int .i64 (a : Int)) ∧ W.cell? ⟨X, 1, none⟩ = some (.int .i64 (f : Int)) ∧ TabW W) := Lib.hid (fun W hW => by
    have kx := X5.out.below hW
    exact ⟨kx.c 0 _ rfl, kx.c 1 _ rfl, hT5.out.below hW (Nat.le_refl _)⟩)
   have hd0 := Lib.hid ((Below.refl w5.heap.size w5).drew)
   refine wp_region_held_tail (S := fun W => W.cell? ⟨X, 0, none⟩ = some (.int .i64 (a : Int)) ∧ W.cell? ⟨X, 1, none⟩ = some (.int .i64 (f : Int)) ∧ TabW W) 10 (by kernel_rfl) (by kernel_rfl) (hSX.out _ (Below.refl _ _).drew) (fun hS => ?_)
   refine heldAny_take (i := 0) (v := ?_) rfl (by kernel_rfl) (by kernel_rfl) (by kernel_rfl) (by kernel_rfl) (fun _ _ _ h => h) (Or.inl ⟨by rfl, ?_⟩) (by assumption) ?_
   rotate_left
   ·(intro wS hSw; (try dsimp only at hSw); go_split_ands; go_simp; all_goals with_reducible rfl)
   try simp only [Act.put]
   refine heldAny_take (i := 1) (v := ?_) rfl (by kernel_rfl) (by kernel_rfl) (by kernel_rfl) (by kernel_rfl) (fun _ _ _ h => h) (Or.inl ⟨by rfl, ?_⟩) (by assumption) ?_
   rotate_left
   ·(intro wS hSw; (try dsimp only at hSw); go_split_ands; go_simp; all_goals with_reducible rfl)
   try simp only [Act.put]
   refine heldAny_take (i := 2) (v := ?_) rfl (by kernel_rfl) (by kernel_rfl) (by kernel_rfl) (by kernel_rfl) (fun _ _ _ h => h) (Or.inl ⟨by rfl, ?_⟩) (by assumption) ?_
   rotate_left
   ·(intro wS hSw; (try dsimp only at hSw); go_split_ands; go_simp; all_goals with_reducible rfl)
   try simp only [Act.put]
   refine heldAny_take (i := 3) (v := ?_) rfl (by kernel_rfl) (by kernel_rfl) (by kernel_rfl) (by kernel_rfl) (fun _ _ _ h => h) (Or.inl ⟨by rfl, ?_⟩) (by assumption) ?_
   rotate_left
   ·(intro wS hSw; (try dsimp only at hSw); go_split_ands; go_simp; all_goals with_reducible rfl)
   try simp only [Act.put]
   refine heldAny_take (i := 6) (v := ?_) rfl (by kernel_rfl) (by kernel_rfl) (by kernel_rfl) (by kernel_rfl) (fun _ _ _ h => h) (Or.inl ⟨by rfl, ?_⟩) (by assumption) ?_
   rotate_left
   ·(intro wS hSw; (try dsimp only at hSw); go_split_ands; go_simp; all_goals with_reducible rfl)
   try simp only [Act.put]
   refine heldAny_take (i := 7) (v := ?_) rfl (by kernel_rfl) (by kernel_rfl) (by kernel_rfl) (by kernel_rfl) (fun _ _ _ h => h) (Or.inl ⟨by rfl, ?_⟩) (by assumption) ?_
   rotate_left
   ·(intro wS hSw; (try dsimp only at hSw); go_split_ands; go_simp; all_goals with_reducible rfl)
   try simp only [Act.put]
   refine heldAny_one (i := 4) rfl (by kernel_rfl) (by kernel_rfl) (fun K hK => ?_)
   go_simp
   go_at_call 32
   refine (HA.out _ (hT5.out.below hd0.out (Nat.le_refl _))).mono ?_
   rintro e wa ⟨rfl, hba⟩
   have hB6 := Lib.hid (hd0.out.trans (hba.mono hd0.out.size))
   have hT6 := Lib.hid (hT5.out.below hB6.out (Nat.le_refl _))
   refine hK.out _ _ (hSX.out _ hB6.out) (fun hS => ?_)
   try simp only [Act.put]
   clear hK K hba
   refine heldAny_take (i := 5) (v := ?_) rfl (by kernel_rfl) (by kernel_rfl) (by kernel_rfl) (by kernel_rfl) (fun _ _ _ h => h) (Or.inl ⟨by rfl, ?_⟩) (by assumption) ?_
   rotate_left
   ·(intro wS hSw; (try dsimp only at hSw); go_split_ands; go_simp; all_goals with_reducible rfl)
   try simp only [Act.put]
   refine heldAny_one (i := 8) rfl (by kernel_rfl) (by kernel_rfl) (fun K hK => ?_)
   go_simp
   go_at_call 32
   refine (HF.out _ hT6.out).mono ?_
   rintro e wb ⟨rfl, hbb⟩
   have hB7 := Lib.hid (hB6.out.trans (hbb.mono hB6.out.size))
   refine hK.out _ _ (hSX.out _ hB7.out) (fun hS => ?_)
   try simp only [Act.put]
   clear hK K hbb
   refine heldAny_take (i := 9) (v := ?_) rfl (by kernel_rfl) (by kernel_rfl) (by kernel_rfl) (by kernel_rfl) (fun _ _ _ h => h) (Or.inl ⟨by rfl, ?_⟩) (by assumption) ?_
   rotate_left
   ·(intro wS hSw; (try dsimp only at hSw); go_split_ands; go_simp; all_goals with_reducible rfl)
   try simp only [Act.put]
   refine heldAny_done (by kernel_rfl) ⟨by kernel_rfl, ?_⟩
   simp only [List.drop_succ_cons, List.drop_zero]
   have hrow2 := hro5.out.of_block (hB7.out.block _ (by have := hb5.out.size; have := hro5.out.lt; omega))
   have hout := hrow2.cell hlt
   have hfr := hrow2.frozen k
   have hset := hrow2.set k (.string (AB ++ ⟨#[58]⟩ ++ FB))
   have hnew : Hid ((wb.setCell ⟨w1.heap.size, k, none⟩ (.string (AB ++ ⟨#[58]⟩ ++ FB))).rowIs w1.heap.size 9 n (fun j => if j < k + 1 then .string (us.getD j ByteArray.empty) else .string ByteArray.empty)) := by
    refine Lib.hid (hset.congr fun i hi => ?_)
    by_cases hik : i = k
    ·subst hik
     simp [List.getD, hu]
    ·simp only [if_neg hik]
     by_cases h1 : i < k
     ·rw [if_pos h1, if_pos (by omega)]
     ·rw [if_neg h1, if_neg (by omega)]
   have hb8 : Hid (Below w1.heap.size w1 (wb.setCell ⟨w1.heap.size, k, none⟩ (.string (AB ++ ⟨#[58]⟩ ++ FB)))) := Lib.hid ((hb5.out.trans (hB7.out.mono hb5.out.size)).setCell (Nat.le_refl _) _)
   clear hset hrow2 hu hSX hS
   go_wp2_with fail
   go_roundw
   case rel => exact ⟨k + 1, by omega, by go_num, hnew, hb8⟩
   case measure => simp [intOf]; omega
  ·obtain rfl : k = n := by omega
   have hown := own_of_rowIs (base := w1.heap.size) hrowi.out (Nat.le_refl _) (by unfold maxLen; omega)
   have hxs : (List.range k).map (fun j => if j < k then Value.string (us.getD j ByteArray.empty) else .string ByteArray.empty) = us.map .string := by
    rw [← range_getD us Value.string ByteArray.empty, hul.out]
    refine List.map_congr_left fun j hj => ?_
    rw [if_pos (by simpa using hj)]
   rw [hxs] at hown
   have hr2 := Row.of_own hown
   have hbb := Lib.hid (hb1'.out.trans (hbel.out.mono hb1'.out.size))
   clear hmk hrowi hown hxs
   go_wp2_with fail
   refine (HJ.out _ _ _ (Nat.le_refl _) hr2).mono ?_
   rintro e w2 ⟨rfl, hb2⟩
   go_wp2_with fail
   refine (implOrDash _ _).mono ?_
   rintro e w3 ⟨rfl, rfl⟩
   go_wp2_with fail
   go_ret
   exact ⟨rfl, hbb.out.trans (hb2.mono hbb.out.size)⟩

theorem join_cutL : ∀ (r : List (List UInt8)) (x : List UInt8), (32 : UInt8) ∉ x → (∀ y ∈ r, (32 : UInt8) ∉ y) → cutL (x ++ Lib.joinTail [32] r) = x :: r := by
 intro r
 induction r with
 | nil => intro x hx _; simp only [Lib.joinTail, List.map_nil, List.flatten_nil, List.append_nil]; exact cutL_none x hx
 | cons y ys ih =>
  intro x hx hr
  have e : x ++ Lib.joinTail [32] (y :: ys) = x ++ 32 :: (y ++ Lib.joinTail [32] ys) := by simp [Lib.joinTail]
  rw [e, cutL_at x _ hx, ih y (hr y (List.mem_cons_self ..)) (fun z hz => hr z (List.mem_cons_of_mem _ hz))]

theorem jSp_cut {us : List ByteArray} (hne : us ≠ []) (h : ∀ u ∈ us, (32 : UInt8) ∉ u.data.toList) : cutB (jSp us) = us := by
 cases us with
 | nil => exact absurd rfl hne
 | cons u r =>
  unfold cutB jSp
  have e : (Lib.join ((u :: r).map (·.data.toList)) [32]) = u.data.toList ++ Lib.joinTail [32] (r.map (·.data.toList)) := by rw [List.map_cons, Lib.join_cons]
  rw [e]
  show (cutL (u.data.toList ++ Lib.joinTail [32] (r.map (·.data.toList)))).map _ = _
  rw [join_cutL _ _ (h u (List.mem_cons_self ..)) (fun y hy => by
   obtain ⟨v, hv, rfl⟩ := List.mem_map.1 hy
   exact h v (List.mem_cons_of_mem _ hv))]
  rw [List.map_cons, List.map_map]
  congr 1
  conv => rhs; rw [← List.map_id r]
  exact List.map_congr_left (fun x _ => rfl)

theorem dd_no {c : UInt8} (hc : c.toNat < 48 ∨ 57 < c.toNat) (n : Nat) : c ∉ Lib.decDigits n := fun h => by
 have := dd_digit n c h
 omega

theorem plT_list (a f : Nat) : (plT (a, f)).data.toList = Lib.decDigits a ++ 58 :: Lib.decDigits f := by
 unfold plT decB
 simp [ByteArray.data_append]

theorem plT_no (p : Nat × Nat) : (32 : UInt8) ∉ (plT p).data.toList := by
 obtain ⟨a, f⟩ := p
 rw [plT_list]
 intro h
 rcases List.mem_append.1 h with h | h
 ·exact dd_no (Or.inl (by decide)) a h
 ·rcases List.mem_cons.1 h with h | h
  ·exact absurd h (by decide)
  ·exact dd_no (Or.inl (by decide)) f h

theorem byte58 : ∀ (a b : List UInt8), (58 : UInt8) ∉ a → Lib.indexByte (a ++ 58 :: b) 58 = (a.length : Int)
 | [], b, _ => by simp [Lib.indexByte]
 | c :: r, b, h => by
  have h1 : (c == (58 : UInt8)) = false := by rw [beq_eq_false_iff_ne]; exact fun e => h (by simp [e])
  have h2 := byte58 r b (fun e => h (List.mem_cons_of_mem _ e))
  rw [List.cons_append, Lib.indexByte, h1, h2]
  have h3 : ((r.length : Int) == -1) = false := by rw [beq_eq_false_iff_ne]; omega
  simp [h3]

theorem cut_colon (a b : List UInt8) (h : (58 : UInt8) ∉ a) : Lib.cut (a ++ 58 :: b) [58] = (a, b, true) := by
 unfold Lib.cut
 rw [Lib.index_one, byte58 a b h, if_pos (by omega), Int.toNat_natCast]
 simp

theorem idxT_some {ps : List (Nat × Nat)} (hne : ps ≠ []) : cutB (idxT ps) = ps.map plT ∧ ((idxT ps).toList == [45]) = false ∧ ((idxT ps).toList == (⟨#[45]⟩ : ByteArray).toList) = false := by
 cases ps with
 | nil => exact absurd rfl hne
 | cons p r =>
  obtain ⟨a, f⟩ := p
  have hl : (jSp (((a, f) :: r).map plT)).data.toList = Lib.decDigits a ++ 58 :: (Lib.decDigits f ++ Lib.joinTail [32] ((r.map plT).map (·.data.toList))) := by
   show Lib.join ((((a, f) :: r).map plT).map (·.data.toList)) [32] = _
   rw [List.map_cons, List.map_cons, Lib.join_cons, plT_list, List.append_assoc, List.cons_append]
  have hm : (58 : UInt8) ∈ (jSp (((a, f) :: r).map plT)).data.toList := by rw [hl]; simp
  have hd : idxT ((a, f) :: r) = jSp (((a, f) :: r).map plT) := by
   unfold idxT dashB
   rw [if_neg]
   rw [ByteArray.toList_eq]
   intro e
   rw [e] at hm; cases hm
  rw [hd]
  have h45 : (jSp (((a, f) :: r).map plT)).data.toList ≠ [45] := fun e => by
   rw [e] at hm
   simp at hm
  refine ⟨jSp_cut (by simp) (fun u hu => ?_), ?_, ?_⟩
  ·obtain ⟨q, _, rfl⟩ := List.mem_map.1 hu
   exact plT_no q
  ·rw [beq_eq_false_iff_ne, ByteArray.toList_eq]; exact h45
  ·rw [beq_eq_false_iff_ne, ByteArray.toList_eq, ByteArray.toList_eq]; exact h45

theorem implSplitT (t : ByteArray) (w : World) (ht : t.size ≤ 1048576) (hL : LaidW w) :
  Calls Tryz.prog 28 #[.string t, .string ⟨#[32]⟩] w fun e w' => e = .returned (.slice (some ⟨w.heap.size, 0, none⟩) (cutB t).length (cutB t).length) ∧ Row w' w'.heap.size 1 (some ⟨w.heap.size, 0, none⟩) (cutB t).length ((cutB t).map .string) ∧ Below w.heap.size w w' := by
 obtain ⟨m, hm⟩ := hL.max
 refine (Tryz.strings_Split t ⟨#[32]⟩ m w (by omega) hm (by show 1 ≤ 1; omega)).mono ?_
 rintro e w' ⟨rfl, rfl⟩
 rw [splitB_cut, cutB_length]
 refine ⟨rfl, ?_, (Below.refl _ _).alloc (Nat.le_refl _) _⟩
 have h := Row.newAt w w.heap.size rfl 9 ((cutB t).map Value.string) (Lib.countB t ⟨#[32]⟩ + 1) 1 (by rw [List.length_map, cutB_length]; omega)
 simpa using h

theorem implCutT (a f : Nat) (w : World) (hs : (plT (a, f)).size ≤ 1048576) (hL : LaidW w) :
  Calls Tryz.prog 29 #[.string (plT (a, f)), .string ⟨#[58]⟩] w fun e w' => e = .returned (.tuple #[.string (decB a), .string (decB f), .bool true]) ∧ Below w.heap.size w w' := by
 obtain ⟨m, hm⟩ := hL.max
 have h := Tryz.strings_Cut (plT (a, f)) ⟨#[58]⟩ m w (by omega) hm
 have e : Lib.cut (plT (a, f)).data.toList (⟨#[58]⟩ : ByteArray).data.toList = (Lib.decDigits a, Lib.decDigits f, true) := by
  rw [plT_list]; exact cut_colon _ _ (dd_no (Or.inr (by decide)) a)
 rw [e] at h
 refine h.mono ?_
 rintro e w' ⟨rfl, n, rfl⟩
 exact ⟨rfl, below_drewN (Below.refl _ _) n⟩

theorem elemPlace : Elem Tryz.prog 31 63 (.agg #[.int .i64 0, .int .i64 0]) 2 16 := ⟨Tryz.underlying31, infoPlace, rfl, by decide⟩

theorem cellsP_take_succ {ps : List (Nat × Nat)} {j a f : Nat} (h : ps[j]? = some (a, f)) : cellsP (ps.take (j + 1)) = cellsP (ps.take j) ++ [.int .i64 (a : Int), .int .i64 (f : Int)] := by
 rw [List.take_add_one, h, cellsP_append]; rfl

set_option maxHeartbeats 2000000 in
theorem implParseIndex (ps : List (Nat × Nat)) (n : Nat) (w : World) (hn : ps.length = n) (hv : PlVal ps) (ht : (idxT ps).size ≤ 1048576) (hL : LaidW w) :
  Calls Tryz.prog 10 #[.string (idxT ps)] w fun e w' => ∃ A c, e = .returned (.tuple #[.slice A n c, .bool true]) ∧ Row w' w'.heap.size 2 A n (cellsP ps) ∧ Below w.heap.size w w' := by
 by_cases h0 : ps = []
 ·subst h0
  have hn0 : n = 0 := by simpa using hn.symm
  subst hn0
  have hR : idxT [] = ⟨#[45]⟩ := by
   unfold idxT dashB
   rw [if_pos (by rw [ByteArray.toList_eq]; rfl)]
  rw [hR]
  clear hR hv ht hL hn
  go_enter Tryz.func10, Tryz.ntmps10
  go_wp2_with fail
  refine bodyPost_ret (v := .tuple #[.slice none 0 0, .bool true]) (by simp [results, Tryz.results10, go_sem]) rfl ?_
  exact ⟨none, 0, rfl, Row.none_, Below.refl _ _⟩
 ·obtain ⟨e1, e2, e3⟩ := idxT_some h0
  have h40 : n ≤ 40 := by have := hv.len; omega
  have HSP := fun W hl => implSplitT (idxT ps) W ht hl
  obtain ⟨us, hus⟩ : ∃ us, ps.map plT = us := ⟨_, rfl⟩
  have hul : us.length = n := by rw [← hus]; simpa using hn
  rw [e1, hus, hul] at HSP
  obtain ⟨t, htt⟩ : ∃ t, idxT ps = t := ⟨_, rfl⟩
  rw [htt] at HSP e2 e3 ⊢
  replace HSP := Lib.hid HSP
  replace hus := Lib.hid hus
  replace hn := Lib.hid hn
  replace hv := Lib.hid hv
  replace hL := Lib.hid hL
  clear e1 htt h0 hul ht
  go_enter Tryz.func10, Tryz.ntmps10
  go_wp2_with fail
  refine (HSP.out _ hL.out).mono ?_
  rintro e w1 ⟨rfl, hrow, hb1⟩
  have hz1 := hb1.size
  have hL1 := Lib.hid (hL.out.below hb1 (Nat.le_refl _))
  obtain ⟨A1, hA1⟩ : ∃ A, (some (⟨w.heap.size, 0, none⟩ : Addr)) = A := ⟨_, rfl⟩
  rw [hA1] at hrow ⊢
  replace hrow := Lib.hid hrow
  replace hb1 := Lib.hid hb1
  have hO0 : Hid (w1.ownsRow w1.heap.size 63 2 (.slice none 0 0) 0 ([] : List Value)) := Lib.hid ⟨rfl, Or.inl ⟨rfl, rfl⟩⟩
  clear HSP hL hA1
  go_wp2_with fail
  go_loopw [4, 19] (fun v i wr => ∃ (A' : Option Addr) (c' j : Nat), v = .slice A' j c' ∧ i = .int .i64 (j : Int) ∧ j ≤ n ∧ Hid (wr.ownsRow w1.heap.size 63 2 (.slice A' j c') j (cellsP (ps.take j))) ∧ Hid (Below w1.heap.size w1 wr)) (fun _ i _ => n - (intOf i).toNat)
  case atStart => exact ⟨_, _, 0, rfl, rfl, Nat.zero_le _, hO0, Lib.hid (Below.refl _ _)⟩
  case round =>
   obtain ⟨A', c', j, rfl, rfl, hj, hO, hbel⟩ := hrel
   have hwz := hbel.out.size
   by_cases hlt : j < n
   ·obtain ⟨⟨a, f⟩, hb⟩ : ∃ b, ps[j]? = some b := ⟨_, List.getElem?_eq_getElem (by rw [hn.out]; exact hlt)⟩
    obtain ⟨s1, s2⟩ := hv.out.small j a f hb
    have hu : us[j]? = some (plT (a, f)) := by rw [← hus.out, List.getElem?_map, hb]; rfl
    have hsz := plT_size s1 s2
    obtain ⟨g, off, rfl, hg, hc⟩ := hrow.out.2 (by omega)
    have hcell : wr.cell? ⟨g, off + j, none⟩ = some (.string (plT (a, f))) := (hbel.out.cell (p := ⟨g, off + j, none⟩) hg).trans (hc j _ (by simp [hu]))
    have HC := fun W hl => implCutT a f W (by omega) hl
    have z1 := decB_size a
    have z2 := decB_size f
    have HA := fun W hl => implParseNumber (decB a) W (by omega) hl
    have HF := fun W hl => implParseNumber (decB f) W (by omega) hl
    have hLr := Lib.hid (hL1.out.below hbel.out (Nat.le_refl _))
    have hcb := Lib.hid (cellsP_take_succ hb)
    obtain ⟨u, hue⟩ : ∃ u, plT (a, f) = u := ⟨_, rfl⟩
    obtain ⟨AB, hAB⟩ : ∃ x, decB a = x := ⟨_, rfl⟩
    obtain ⟨FB, hFB⟩ : ∃ x, decB f = x := ⟨_, rfl⟩
    rw [hue, hAB, hFB] at HC
    rw [hAB] at HA
    rw [hFB] at HF
    rw [hue] at hcell
    have i1 : (0 : Int) ≤ j := by omega
    have i2 : (j : Int) < n := by omega
    have h4a : a ≤ 4000 := s1
    have h4f : f ≤ 4000 := by omega
    replace HC := Lib.hid HC
    replace HA := Lib.hid HA
    replace HF := Lib.hid HF
    replace hAB := Lib.hid hAB
    replace hFB := Lib.hid hFB
    clear hc hu hsz z1 z2 s1 s2 hue hb
    go_wp2_with fail
    refine (HC.out _ hLr.out).mono ?_
    rintro e w2 ⟨rfl, hb2⟩
    have hB2 := Lib.hid (hbel.out.trans (hb2.mono hwz))
    have hL2 := Lib.hid (hLr.out.below hb2 (Nat.le_refl _))
    have hO2 := Lib.hid (own_below hO.out hb2 (Nat.le_refl _))
    clear hb2 hO hbel hcell hLr
    go_wp2_with fail
    refine (HA.out _ hL2.out).mono ?_
    rintro e w3 ⟨v, b, rfl, _, hF3, hb3⟩
    obtain ⟨rfl, rfl⟩ := hF3 a h4a hAB.out.symm
    have hB3 := Lib.hid (hB2.out.trans (hb3.mono hB2.out.size))
    have hL3 := Lib.hid (hL2.out.below hb3 (Nat.le_refl _))
    have hO3 := Lib.hid (own_below hO2.out hb3 (Nat.le_refl _))
    clear hb3 hO2 hB2 hL2 hF3
    go_wp2_with fail
    refine (HF.out _ hL3.out).mono ?_
    rintro e w4 ⟨v, b, rfl, _, hF4, hb4⟩
    obtain ⟨rfl, rfl⟩ := hF4 f h4f hFB.out.symm
    have hB4 := Lib.hid (hB3.out.trans (hb4.mono hB3.out.size))
    have hO4 := own_below hO3.out hb4 (Nat.le_refl _)
    have hs4 : w1.heap.size ≤ w4.heap.size := hB4.out.size
    clear hb4 hO3 hB3 hL3 hF4
    go_wp2_with (first
     | (at_builtin; refine wpList_append_row _ elemPlace rfl (.tmp 49) (.tmp 53) rfl w1.heap.size _ _ _ rfl (hO4.alloc _) _ _ 1 1 [.int .i64 (a : Int), .int .i64 (f : Int)] rfl (Row.newAt _ _ rfl _ [.int .i64 (a : Int), .int .i64 (f : Int)] 1 2 rfl) ?_ ?_ ?_ ?_ ?_))
    all_goals first
     | (intro z hz; simp at hz; rcases hz with rfl | rfl <;> rfl)
     | (unfold maxLen; omega)
     | omega
     | (simp; omega)
     | skip
    all_goals (
     intro ve we hve hge _
     obtain ⟨Ae, ce, rfl, _, _⟩ := own_form hve
     have hgx := fun g (hg : (Value.slice A' j c').ownBlock = some g) => (hO4.lt g hg).1
     have hbE := Lib.hid ((hB4.out.alloc hs4 _).grown hge (by first | omega | (simp; omega)) (fun g hg => hgx g hg))
     have hOe : Hid (we.ownsRow w1.heap.size 63 2 (.slice Ae (j + 1) ce) (j + 1) (cellsP (ps.take (j + 1)))) := Lib.hid (by rw [hcb.out]; exact hve)
     clear hve hge hO4 hgx hB4
     go_wp2_with fail
     go_roundw
     case rel => exact ⟨Ae, ce, j + 1, rfl, by go_num, by omega, hOe, hbE⟩
     case measure => simp [intOf]; omega)
   ·have hjn : j = n := by omega
    have hO2 := hO.out
    have ht2 : ps.take j = ps := List.take_of_length_le (by rw [hn.out]; omega)
    rw [ht2] at hO2
    have hrow2 := Row.of_own hO2
    have hji : ¬ ((j : Int) < n) := by omega
    have HV := Lib.hid (implPlacesValid A' j c' ps wr hrow2 hv.out)
    have hb := Lib.hid (hb1.out.trans (hbel.out.mono hz1))
    replace hrow2 := Lib.hid hrow2
    replace hjn := Lib.hid hjn
    clear hO hO2 ht2 hbel
    go_wp2_with fail
    refine HV.out.mono ?_
    rintro e w5 ⟨rfl, hb5⟩
    have hres := Lib.hid (And.intro (Row.more (hrow2.out.below hb5 (Nat.le_refl _)) hb5.size) (hb.out.trans (hb5.mono hb.out.size)))
    clear hb5 HV hrow2
    go_wp2_with fail
    refine bodyPost_ret (v := .tuple #[.slice A' j c', .bool true]) (by simp [results, Tryz.results10, go_sem]) rfl ?_
    have h1 := hres.out.1
    rw [hjn.out] at h1 ⊢
    exact ⟨A', c', rfl, h1, hres.out.2⟩

theorem seek_law {o l m size : Int} {d D : List UInt8} {x : ByteArray} (h : makeC o l m d D size = some x) :
  ∃ (on ln mn n : Nat) (bs : List Blk), o = on ∧ l = ln ∧ m = mn ∧ dfits on ln mn d ∧ contB x = some bs ∧ bs.length = n ∧ n ≤ 40 ∧ (Kn.dict on ln mn d).datas bs = some D ∧ x.size ≤ 2960 ∧ D.length ≤ 2000 := by
 unfold makeC at h
 by_cases hf : dfits o l m d
 ·rw [if_pos hf] at h
  by_cases hc : (1 ≤ size ∧ size ≤ 64) ∧ (D.length : Int) ≤ size * 40 ∧ D.length ≤ 2000
  ·rw [if_pos hc] at h
   obtain ⟨on, rfl⟩ : ∃ n : Nat, o = n := ⟨o.toNat, by have := hf.1.1; omega⟩
   obtain ⟨ln, rfl⟩ : ∃ n : Nat, l = n := ⟨l.toNat, by have := hf.1.2.1; omega⟩
   obtain ⟨mn, rfl⟩ : ∃ n : Nat, m = n := ⟨m.toNat, by have := hf.1.2; omega⟩
   obtain ⟨sz, rfl⟩ : ∃ n : Nat, size = n := ⟨size.toNat, by omega⟩
   have hkd : kdict on ln mn d = Kn.dict on ln mn d := rfl
   have ez : ((sz : Int)).toNat = sz := rfl
   rw [hkd, ez] at h
   have hx : textsFrom 0 ((Kn.dict on ln mn d).split sz D) = x := by injection h
   have hkv := (Kn.dict_fresh hf).1.val
   have s1 := splitF_okb hkv (size := sz) (by omega) (by omega) D.length D
   have s2 : ((Kn.dict on ln mn d).split sz D).length ≤ 40 := splitF_length_le (Kn.dict on ln mn d) (size := sz) (by omega) D.length D (Nat.le_refl _) (by omega)
   have s3 := (splitF_szs (Kn.dict on ln mn d) (size := sz) (by omega) D.length D (Nat.le_refl _)).1
   have hxb : contB x = some (renumL 0 ((Kn.dict on ln mn d).split sz D)) := by rw [← hx]; exact contB_texts s1 s2 (by rw [show szs ((Kn.dict on ln mn d).split sz D) = D.length from s3]; omega)
   refine ⟨on, ln, mn, _, _, rfl, rfl, rfl, hf, hxb, rfl, (contB_ok hxb).2.1, ?_, (contB_ok hxb).2.2.2.2, by omega⟩
   rw [Kn.datas_renumL]
   exact Kn.split_data hkv (by omega) D
  ·rw [if_neg hc] at h; cases h
 ·rw [if_neg hf] at h; cases h

theorem unhex_back {x : ByteArray} (h : x.size ≤ 2960) : unhexB (hexOf x) = (x, true) ∧ (hexOf x).size ≤ 1048576 := by
 have e : hexOf x = ⟨(hexB x.data.toList).toArray⟩ := if_pos (by omega)
 have hl := hexB_length x.data.toList
 have hx : x.data.toList.length = x.size := by simp
 have hs : (hexOf x).size = 2 * x.size := by
  rw [e]
  show (hexB x.data.toList).toArray.size = _
  rw [List.size_toArray, hl, hx]
 have hd : (hexOf x).data.toList = hexB x.data.toList := by rw [e]
 refine ⟨?_, by omega⟩
 rw [unhexB_some (l := x.data.toList) (by omega) (by omega) (by rw [hd]; exact unhex_hex _)]

theorem idxT_size {ps : List (Nat × Nat)} (hv : PlVal ps) : (idxT ps).size ≤ 1048576 := by
 have h1 := jSp_size (ss := ps.map plT) (M := 6003) (fun u hu => by
  obtain ⟨⟨a, f⟩, hp, rfl⟩ := List.mem_map.1 hu
  obtain ⟨i, hi⟩ := List.getElem?_of_mem hp
  obtain ⟨h1, h2⟩ := hv.small i a f hi
  exact plT_size h1 h2)
 have h2 := hv.len
 rw [List.length_map] at h1
 unfold idxT dashB
 split
 ·show 1 ≤ _; omega
 ·have := Nat.mul_le_mul_left (6003 + 1) h2
  omega

set_option maxHeartbeats 4000000 in
theorem lawFnWholeSeek (A : Option Addr) (n c : Nat) (bs : List UInt8) (A2 : Option Addr) (n2 c2 : Nat) (bs2 : List UInt8) (w : World) (h : ByteRow w A n bs) (hnc : n ≤ c) (h2 : ByteRow w A2 n2 bs2) (hnc2 : n2 ≤ c2) (hL : LaidW w) :
  Calls Tryz.prog 3 #[.slice A n c, .slice A2 n2 c2] w fun e w' => e = .returned (.bool true) ∧ Below w.heap.size w w' := by
 have hle := h.le
 have hle2 := h2.le
 unfold maxLen at hle hle2
 clear h2
 by_cases hn : n ≤ 1048576
 ·have gn := decide_eq_false (p := (1048576 : Int) < n) (by omega)
  have gn2 := decide_eq_false (p := 1048576 < n) (by omega)
  by_cases hm : n2 ≤ 1048576
  ·have gm := decide_eq_false (p := (1048576 : Int) < n2) (by omega)
   have gm2 := decide_eq_false (p := 1048576 < n2) (by omega)
   obtain ⟨r20, hr20⟩ : ∃ r : Nat, n2 % 20 = r := ⟨_, rfl⟩
   have er20 : (n2 : Int) % 20 = r20 := by omega
   have hr20' : r20 < 20 := by omega
   obtain ⟨st, hst⟩ : ∃ z : Nat, (1 : Int) + r20 = z := ⟨1 + r20, by omega⟩
   have wst : IntKind.i64.wrap (st : Int) = st := IntWalk.i64_in _ (by omega)
   have hst1 : 1 ≤ st := by omega
   have hst2 : st ≤ 20 := by omega
   replace hr20 := Lib.hid hr20
   replace hL := Lib.hid hL
   go_enter Tryz.func3, Tryz.ntmps3
   go_wp2_with fail
   refine (specDrawMakeContainer A n c bs _ h hnc).mono ?_
   rintro e w1 ⟨o, l, m, d, U, size, rfl, hd, hU, hsr, hb1⟩
   have kb2 := KBn.start w1 24 [.int .i64 o, .int .i64 l, .int .i64 m]
   have hW2 := hb1.alloc hb1.size (.cells #[.int .i64 o, .int .i64 l, .int .i64 m] 24)
   change KBn (w1.alloc (.cells #[.int .i64 o, .int .i64 l, .int .i64 m] 24)) _ _ at kb2
   clear hb1 h
   go_upto_region 4 with (fail)
   obtain ⟨G, hG⟩ : ∃ G, w1.heap.size = G := ⟨_, rfl⟩
   obtain ⟨w2, hw2⟩ : ∃ W, w1.alloc (.cells #[.int .i64 o, .int .i64 l, .int .i64 m] 24) = W := ⟨_, rfl⟩
   rw [hw2] at kb2 hW2 ⊢
   rw [hG] at kb2 ⊢
   clear hw2 hG
   replace kb2 := Lib.hid kb2
   replace hW2 := Lib.hid hW2
   replace hsr := Lib.hid hsr
   have HI := fun W => implMakeC o l m size d U W (by omega) (by omega)
   have HS := fun W => specMakeC o l m size d U W (by omega) (by omega)
   rcases hT : makeC o l m d.data.toList U.data.toList size with _ | x
   ·rw [hT] at HI HS
    unfold optV at HI HS
    replace HI := Lib.hid HI
    replace HS := Lib.hid HS
    clear hT
    have qkb0 := kb2.out.c 0 _ rfl
    have qkb1 := kb2.out.c 1 _ rfl
    have qkb2 := kb2.out.c 2 _ rfl
    go_wp2_with fail
    refine (HI.out _).mono ?_
    rintro e w3 ⟨rfl, hb3⟩
    have hW3 := Lib.hid (hW2.out.trans (hb3.mono hW2.out.size))
    have kb3 := Lib.hid (kb2.out.below hb3)
    clear hb3 hW2 kb2 qkb0 qkb1 qkb2
    have qkb0 := kb3.out.c 0 _ rfl
    have qkb1 := kb3.out.c 1 _ rfl
    have qkb2 := kb3.out.c 2 _ rfl
    go_wp2_with fail
    refine (HS.out _).mono ?_
    rintro e w4 ⟨rfl, hb4⟩
    have hW4 := Lib.hid (hW3.out.trans (hb4.mono hW3.out.size))
    have kb4 := Lib.hid (kb3.out.below hb4)
    clear hb4 hW3 kb3 qkb0 qkb1 qkb2
    go_wp2_with fail
    go_ret
    exact ⟨rfl, hW4.out⟩
   ·rw [hT] at HI HS
    obtain ⟨on, ln, mn, nb, bl, rfl, rfl, rfl, hf, hxb, hbl, hb40, hdat, hxs, hD2⟩ := seek_law hT
    unfold optV at HI HS
    simp only [Option.getD_some, Option.isSome_some] at HI HS
    obtain ⟨D, hDe⟩ : ∃ D, U.data.toList = D := ⟨_, rfl⟩
    have hUD : U = bsL D := by rw [← hDe]
    have hUs : U.size = D.length := by rw [hUD]; rfl
    rw [hDe] at hdat hD2
    obtain ⟨hh1, hh2⟩ := unhex_back hxs
    have H1 := fun W => implFormatHex x W (by omega)
    have H2 := fun W => implParseHex (hexOf x) W hh2
    unfold PhRes at H2
    rw [hh1] at H2
    obtain ⟨hx2, hhx⟩ : ∃ y, hexOf x = y := ⟨_, rfl⟩
    rw [hhx] at H1 H2
    have hv := plOf_val hxb
    have H3 := fun W => implIndexOfP x bl nb W (by omega) hxb hbl
    have hpl : (plOf bl).length = nb := by rw [plOf_length]; exact hbl
    have hts := idxT_size hv
    have H4 := fun (A : Option Addr) (c : Nat) W (hr : Row W W.heap.size 2 A nb (cellsP (plOf bl))) hl => implFormatIndex A nb c (plOf bl) W hr hv hl
    have H5 := fun W hl => implParseIndex (plOf bl) nb W hpl hv hts hl
    have H6 := fun (A : Option Addr) (c f t : Nat) W (hr : Row W W.heap.size 2 A nb (cellsP (plOf bl))) (h1 : f ≤ t) (h2 : t ≤ D.length) => implReadIndexed on ln mn d x A nb c bl D f t W hf hxb hbl hdat hr h1 h2
    obtain ⟨T, hTe⟩ : ∃ T, idxT (plOf bl) = T := ⟨_, rfl⟩
    rw [hTe] at H4 H5
    obtain ⟨zu, hzu⟩ : ∃ z, U.size = z := ⟨_, rfl⟩
    have hzD : D.length = zu := by omega
    have hz2 : zu ≤ 600 := by omega
    replace HI := Lib.hid HI
    replace HS := Lib.hid HS
    replace H1 := Lib.hid H1
    replace H2 := Lib.hid H2
    replace H3 := Lib.hid H3
    replace H4 := Lib.hid H4
    replace H5 := Lib.hid H5
    replace H6 := Lib.hid H6
    replace hUD := Lib.hid hUD
    replace hzD := Lib.hid hzD
    clear hT hf hxb hbl hdat hD2 hUs hh1 hh2 hhx hv hpl hts hTe hDe hxs
    have qkb0 := kb2.out.c 0 _ rfl
    have qkb1 := kb2.out.c 1 _ rfl
    have qkb2 := kb2.out.c 2 _ rfl
    go_wp2_with fail
    refine (HI.out _).mono ?_
    rintro e w3 ⟨rfl, hb3⟩
    have hW3 := Lib.hid (hW2.out.trans (hb3.mono hW2.out.size))
    have kb3 := Lib.hid (kb2.out.below hb3)
    clear hb3 hW2 kb2 qkb0 qkb1 qkb2
    have qkb0 := kb3.out.c 0 _ rfl
    have qkb1 := kb3.out.c 1 _ rfl
    have qkb2 := kb3.out.c 2 _ rfl
    go_wp2_with fail
    refine (HS.out _).mono ?_
    rintro e w4 ⟨rfl, hb4⟩
    have hW4 := Lib.hid (hW3.out.trans (hb4.mono hW3.out.size))
    have kb4 := Lib.hid (kb3.out.below hb4)
    clear hb4 hW3 kb3 qkb0 qkb1 qkb2
    have qkb0 := kb4.out.c 0 _ rfl
    have qkb1 := kb4.out.c 1 _ rfl
    have qkb2 := kb4.out.c 2 _ rfl
    go_wp2_with fail
    refine (H1.out _).mono ?_
    rintro e w5 ⟨rfl, hb5⟩
    have hW5 := Lib.hid (hW4.out.trans (hb5.mono hW4.out.size))
    have kb5 := Lib.hid (kb4.out.below hb5)
    clear hb5 hW4 kb4 qkb0 qkb1 qkb2
    have qkb0 := kb5.out.c 0 _ rfl
    have qkb1 := kb5.out.c 1 _ rfl
    have qkb2 := kb5.out.c 2 _ rfl
    go_wp2_with fail
    refine (H2.out _).mono ?_
    rintro e w6 ⟨rfl, hb6⟩
    have hW6 := Lib.hid (hW5.out.trans (hb6.mono hW5.out.size))
    have kb6 := Lib.hid (kb5.out.below hb6)
    clear hb6 hW5 kb5 qkb0 qkb1 qkb2
    go_wp2_with fail
    refine (H3.out _).mono ?_
    rintro e w7 ⟨Ax, cx, rfl, hcx, hrx, hb7⟩
    have rx := Lib.hid hrx
    have hW7 := Lib.hid (hW6.out.trans (hb7.mono hW6.out.size))
    have kb7 := Lib.hid (kb6.out.below hb7)
    clear hb7 hW6 kb6 hrx hcx
    have hLa := Lib.hid (hL.out.below hW7.out (Nat.le_refl _))
    go_wp2_with fail
    refine (H4.out Ax cx _ rx.out hLa.out.tab).mono ?_
    rintro e w8 ⟨rfl, hb8⟩
    have hLb := Lib.hid (hLa.out.below hb8 (Nat.le_refl _))
    have hW8 := Lib.hid (hW7.out.trans (hb8.mono hW7.out.size))
    have kb8 := Lib.hid (kb7.out.below hb8)
    clear hb8 hW7 kb7 rx hLa
    go_wp2_with fail
    refine (H5.out _ hLb.out).mono ?_
    rintro e w9 ⟨Ay, cy, rfl, hry, hb9⟩
    have ry := Lib.hid hry
    have hW9 := Lib.hid (hW8.out.trans (hb9.mono hW8.out.size))
    have kb9 := Lib.hid (kb8.out.below hb9)
    clear hb9 hW8 kb8 hLb hry
    have hX0 : Hid ((⟨#[]⟩ : ByteArray) = bsL (D.take 0)) := Lib.hid rfl
    have hs0 : (⟨#[]⟩ : ByteArray).size = 0 := rfl
    go_wp2_with fail
    go_loopw [19, 21] (fun y v wr => ∃ (p : Nat) (X : ByteArray), y = .string X ∧ v = .int .i64 (p : Int) ∧ p ≤ zu + 20 ∧ X.size ≤ 600 ∧ Hid (X = bsL (D.take p)) ∧ Hid (Below w9.heap.size w9 wr)) (fun _ v _ => zu - (intOf v).toNat)
    case atStart => exact ⟨0, ⟨#[]⟩, rfl, rfl, by omega, by rw [hs0]; omega, hX0, Lib.hid (Below.refl _ _)⟩
    case round =>
     obtain ⟨p, X, rfl, rfl, hp, hXs, hX, hbel⟩ := hrel
     clear er20
     have hwz := hbel.out.size
     by_cases hlt : p < zu
     ·obtain ⟨ps, hps⟩ : ∃ z : Nat, (p : Int) + st = z := ⟨p + st, by omega⟩
      have wps : IntKind.i64.wrap (ps : Int) = ps := IntWalk.i64_in _ (by omega)
      obtain ⟨q, hq⟩ : ∃ z, min ps zu = z := ⟨_, rfl⟩
      have eq : min (ps : Int) (zu : Int) = (q : Int) := by omega
      have hpq : p ≤ q := by omega
      have hqz : q ≤ zu := by omega
      have H6q := H6.out Ay cy p q wr (Row.more (Row.below ry.out hbel.out (Nat.le_refl _)) hwz) hpq (by rw [hzD.out]; exact hqz)
      obtain ⟨Y, hY⟩ : ∃ Y, bsL ((D.drop p).take (q - p)) = Y := ⟨_, rfl⟩
      rw [hY] at H6q
      have hUY : U.extract p q = Y := by rw [hUD.out, bsL_part, hY]
      have hYs : Y.size ≤ 600 := by
       rw [← hY]
       show ((D.drop p).take (q - p)).toArray.size ≤ 600
       rw [List.size_toArray, List.length_take, List.length_drop, hzD.out]
       omega
      have hXY : X.size + Y.size ≤ 100000 := by omega
      have hX2 : Hid (X ++ Y = bsL (D.take ps)) := Lib.hid (by
       rw [hX.out, ← hY, bsL_append]
       congr 1
       have e1 : D.take ps = D.take (p + (q - p)) := by
        by_cases hc : ps ≤ zu
        ·congr 1; omega
        ·rw [List.take_of_length_le (by rw [hzD.out]; omega), List.take_of_length_le (by rw [hzD.out]; omega)]
       rw [e1, List.take_add])
      have hXs2 : (X ++ Y).size ≤ 600 := by
       rw [hX2.out]
       show (D.take ps).toArray.size ≤ 600
       rw [List.size_toArray, List.length_take, hzD.out]
       omega
      have i1 : (0 : Int) ≤ p := by omega
      have i2 : (p : Int) ≤ q := by omega
      have i3 : (q : Int) ≤ zu := by omega
      have hps2 : ps ≤ zu + 20 := by omega
      have hmz : zu - ps < zu - p := by omega
      replace H6q := Lib.hid H6q
      replace hq := Lib.hid hq
      replace hY := Lib.hid hY
      replace hXs2 := Lib.hid hXs2
      have kw := kb9.out.below hbel.out
      have q0 := kw.c 0 _ rfl
      have q1 := kw.c 1 _ rfl
      have q2 := kw.c 2 _ rfl
      clear kw hX
      go_wp2_with fail
      refine H6q.out.mono ?_
      rintro e w10 ⟨rfl, hb10⟩
      have hbe := Lib.hid (hbel.out.trans (hb10.mono hwz))
      clear hb10 hbel H6q q0 q1 q2
      go_wp2_with fail
      go_roundw
      case rel => exact ⟨ps, X ++ Y, rfl, by go_num, hps2, hXs2.out, hX2, hbe⟩
      case measure => simp [intOf]; omega
     ·have hXU : X = U := by
       rw [hX.out, hUD.out, List.take_of_length_le (by rw [hzD.out]; omega)]
      have hji : ¬ ((p : Int) < (zu : Int)) := by omega
      have hfin := Lib.hid (hW9.out.trans (hbel.out.mono hW9.out.size))
      subst hXU
      clear hX hbel
      go_wp2_with fail
      go_ret
      exact ⟨rfl, hfin.out⟩
  ·have gm := decide_eq_true (p := (1048576 : Int) < n2) (by omega)
   have gm2 := decide_eq_true (p := 1048576 < n2) (by omega)
   clear h
   go_enter Tryz.func3, Tryz.ntmps3
   go_wp2_with fail
   go_ret
   exact ⟨rfl, Below.refl _ _⟩
 ·have gn := decide_eq_true (p := (1048576 : Int) < n) (by omega)
  have gn2 := decide_eq_true (p := 1048576 < n) (by omega)
  clear h
  go_enter Tryz.func3, Tryz.ntmps3
  go_wp2_with fail
  go_ret
  exact ⟨rfl, Below.refl _ _⟩

end Go.Proofs.YthlgpgaeajfchaaGreatDoor

