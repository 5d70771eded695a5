/-
  The reference's source of drawn data: what is known of it, and the contracts of l9Open and pick.
  More draws: a number out of a list, settings, data of few symbols, wild data.
  Draws of wild data, of two strings, and DrawPatchOf.
-/
import Derived.Test.YthlgpgaeajfchaaGreatDoorInts
import Derived.IntWalk
import Derived.BigQuiet
import Derived.Test.YthlgpgaeajfchaaGreatDoorBase
import Derived.Deep.DeepCutAuto
import Derived.Deep.CutBlock
import Derived.Deep.RegionHeld3

namespace Go.Proofs.YthlgpgaeajfchaaGreatDoor
open Go.RowKit
set_option linter.unusedVariables false

/-- A source of drawn data in block g: bytes that lie below it, and how many draws there were. -/
def RdAt (w : World) (g P : Nat) : Prop :=
  ∃ (A : Option Addr) (n c p : Nat) (bs : List UInt8), w.heap[g]? = some (.cells #[.slice A n c, .int .i64 (p : Int)] 80 (0, 0)) ∧ Row w g 1 A n (bs.map byteV) ∧ n ≤ 2000 ∧ p ≤ P

theorem RdAt.lt {w : World} {g P : Nat} (h : RdAt w g P) : g < w.heap.size := by
  obtain ⟨A, n, c, p, bs, h1, _⟩ := h
  exact (Array.getElem?_eq_some_iff.1 h1).1

theorem RdAt.more {w : World} {g P P' : Nat} (h : RdAt w g P) (hP : P ≤ P') : RdAt w g P' := by
  obtain ⟨A, n, c, p, bs, h1, h2, h3, h4⟩ := h
  exact ⟨A, n, c, p, bs, h1, h2, h3, by omega⟩

theorem RdAt.below {w w' : World} {g P C : Nat} (h : RdAt w g P) (hb : Below C w w') (hC : w.heap.size ≤ C) : RdAt w' g P := by
  have hlt := h.lt
  obtain ⟨A, n, c, p, bs, h1, h2, h3, h4⟩ := h
  exact ⟨A, n, c, p, bs, (hb.block g (by omega)).trans h1, h2.below hb (by omega), h3, h4⟩

theorem RdAt.alloc {w : World} {g P : Nat} (h : RdAt w g P) (o : Obj) : RdAt (w.alloc o) g P := h.below ((Below.refl _ _).alloc (Nat.le_refl _) o) (Nat.le_refl _)

theorem RdAt.drewN {w : World} {g P : Nat} (h : RdAt w g P) (k : Nat) : RdAt (w.drewN k) g P := h

/-- A source stays as it is when a row above it is written to. -/
theorem RdAt.grown {w w' : World} {g P : Nat} {row : Option Nat} (h : RdAt w g P) (hg : w.grownBy w' row) (hr : ∀ j, row = some j → g < j) : RdAt w' g P := by
  have hlt := h.lt
  obtain ⟨A, n, c, p, bs, h1, h2, h3, h4⟩ := h
  refine ⟨A, n, c, p, bs, (hg.block g hlt (fun e => by have := hr g e.symm; omega)).trans h1, ?_, h3, h4⟩
  exact h2.keep fun q hq => World.cell?_of_block (hg.block q.block (by omega) (fun e => by have := hr _ e.symm; omega))

/-- What a draw leaves: the source, with more draws; all else as it was. -/
structure Dr (g P : Nat) (w w' : World) : Prop where
  rd : RdAt w' g P
  only : w.grownBy w' (some g)

theorem Dr.refl {w : World} {g P : Nat} (h : RdAt w g P) : Dr g P w w := ⟨h, World.grownBy.refl _ _⟩

theorem Dr.size {w w' : World} {g P : Nat} (h : Dr g P w w') : w.heap.size ≤ w'.heap.size := h.only.size

theorem Dr.trans {w w1 w2 : World} {g P P' : Nat} (h : Dr g P w w1) (k : Dr g P' w1 w2) : Dr g P' w w2 := ⟨k.rd, h.only.trans k.only⟩

theorem Dr.more {w w1 : World} {g P P' : Nat} (h : Dr g P w w1) (hP : P ≤ P') : Dr g P' w w1 := ⟨h.rd.more hP, h.only⟩

theorem Dr.then_below {w w1 w2 : World} {g P : Nat} (h : Dr g P w w1) (k : Below w1.heap.size w1 w2) : Dr g P w w2 := ⟨h.rd.below k (Nat.le_refl _), only_below h.only k⟩

theorem Dr.alloc {w w1 : World} {g P : Nat} (h : Dr g P w w1) (o : Obj) : Dr g P w (w1.alloc o) := h.then_below ((Below.refl _ _).alloc (Nat.le_refl _) o)

theorem Dr.drewN {w w1 : World} {g P : Nat} (h : Dr g P w w1) (k : Nat) : Dr g P w (w1.drewN k) := ⟨h.rd.drewN k, only_drawn h.only (Drawn.of _ _)⟩

/-- An append onto a row of the call's own behind draws. -/
theorem Dr.grown {w w1 w2 : World} {g P : Nat} {row : Option Nat} (h : Dr g P w w1) (k : w1.grownBy w2 row) (hr : ∀ j, row = some j → w.heap.size ≤ j) (hg : g < w.heap.size) : Dr g P w w2 :=
  ⟨h.rd.grown k (fun j e => by have := hr j e; omega), only_then h.only k (fun j e => Or.inl (hr j e))⟩

theorem own_drawn_kept {w w' : World} {base size n g P : Nat} {e : TypeId} {v : Value} {xs : List Value} (h : w.ownsRow base e size v n xs) (hd : Dr g P w w') (hg : g < base) : w'.ownsRow base e size v n xs := by
  refine h.kept hd.only ?_
  rcases hv : v.ownBlock with _ | k
  · exact .inl rfl
  · refine .inr fun e => ?_
    injection e with e
    have := (h.lt k hv).1
    omega

theorem Row.dr {w w' : World} {B size n g P : Nat} {A : Option Addr} {xs : List Value} (h : Row w B size A n xs) (hd : Dr g P w w') (hB : B ≤ g) (hg : g < w.heap.size) : Row w' B size A n xs :=
  h.keep fun q hq => World.cell?_of_block (hd.only.block q.block (by omega) (fun e => by injection e with e; omega))

theorem Dr.below {w w' : World} {g P C : Nat} (h : Dr g P w w') (hC : C ≤ g) (hg : g < w.heap.size) : Below C w w' :=
  ⟨h.only.os, h.only.tape, h.only.output, h.only.size, fun i hi => h.only.block i (by omega) (fun e => by injection e with e; omega)⟩

/-- The result of a draw below n: a number from 0 on, below n if n is positive. -/
def PickPost (g P : Nat) (n : Int) (w : World) (e : Ending) (w' : World) : Prop := ∃ r : Nat, e = .returned (.int .i64 (r : Int)) ∧ (1 ≤ n → (r : Int) < n) ∧ (n < 1 → r = 0) ∧ Dr g P w w'

theorem i64_xor_nat (a b : Nat) (ha : a < 9223372036854775808) (hb : b < 9223372036854775808) : bits .xor .i64 (a : Int) (b : Int) = ((a ^^^ b : Nat) : Int) := by
  have hx : a ^^^ b < 2 ^ 63 := Nat.xor_lt_two_pow (by omega) (by omega)
  show IntKind.i64.wrap ((BitVec.ofInt 64 (a : Int) ^^^ BitVec.ofInt 64 (b : Int)).toNat : Int) = _
  rw [BitVec.toNat_xor, ofInt_i64 a ha, ofInt_i64 b hb, IntKind.wrap_i64]
  omega

/-- The two cells of a source, and that they can be written to. -/
theorem rd_cells {w : World} {g : Nat} {u v : Value} (h : w.heap[g]? = some (.cells #[u, v] 80 (0, 0))) :
    w.cell? ⟨g, 0, none⟩ = some u ∧ w.cell? ⟨g, 1, none⟩ = some v ∧ w.frozen? ⟨g, 1, none⟩ = false := by
  refine ⟨?_, ?_, ?_⟩ <;> simp [World.cell?, World.frozen?, h]

theorem rd_set {w : World} {g : Nat} {u v x : Value} (h : w.heap[g]? = some (.cells #[u, v] 80 (0, 0))) :
    (w.setCell ⟨g, 1, none⟩ x).heap[g]? = some (.cells #[u, x] 80 (0, 0)) := by
  simp [World.setCell, Array.getElem?_modify, h]

set_option maxHeartbeats 4000000 in
theorem specPick (g P : Nat) (n : Int) (w : World) (h : RdAt w g P) (hP : P ≤ 1000000) (hn1 : -9223372036854775808 ≤ n) (hn2 : n ≤ 1048576) :
    Calls Tryz.prog 16 #[.pointer (some ⟨g, 0, none⟩), .int .i64 n] w (PickPost g (P + 1) n w) := by
  have hlt := h.lt
  obtain ⟨A, m, c, p, bs, h1, h2, h3, h4⟩ := h
  obtain ⟨c0, c1, cf⟩ := rd_cells h1
  obtain ⟨q, hq⟩ : ∃ q, p + 1 = q := ⟨_, rfl⟩
  have eq1 : (p : Int) + 1 = q := by omega
  have eq2 : (q : Int) - 1 = p := by omega
  have hset := rd_set (x := .int .i64 (q : Int)) h1
  obtain ⟨w1, hw1⟩ : ∃ w1, w.setCell ⟨g, 1, none⟩ (.int .i64 (q : Int)) = w1 := ⟨_, rfl⟩
  have hrow1 : Row w1 g 1 A m (bs.map byteV) := by rw [← hw1]; exact h2.setCell (Nat.le_refl _) _
  have hdr : Dr g (P + 1) w w1 := by
    refine ⟨⟨A, m, c, q, bs, by rw [← hw1]; exact hset, hrow1, h3, by omega⟩, ?_⟩
    rw [← hw1]; exact only_setCell (World.grownBy.refl _ _) rfl _
  rw [hw1] at hset
  obtain ⟨d0, d1, df⟩ := rd_cells hset
  have hlen : bs.length = m := by have := h2.1; simpa using this
  have HD := Lib.hid hdr
  have hq2 : q ≤ 1048576 := by omega
  have hp2 : p ≤ 1048576 := by omega
  clear h1 h2 h4 hset hdr hq
  by_cases hn : n < 1
  · clear hlen hrow1
    go_enter Tryz.func16, Tryz.ntmps16
    go_wp2_with fail
    go_ret
    exact ⟨0, rfl, fun h => absurd h (by omega), fun _ => rfl, HD.out⟩
  · rcases Nat.eq_zero_or_pos m with hm | hm
    · have hme : ((m : Int) == 0) = true := by rw [beq_iff_eq]; omega
      clear hlen hrow1 hm
      go_enter Tryz.func16, Tryz.ntmps16
      go_wp2_with fail
      go_ret
      exact ⟨0, rfl, fun h => by omega, fun _ => rfl, HD.out⟩
    · obtain ⟨N, rfl⟩ := Int.eq_ofNat_of_zero_le (show 0 ≤ n by omega)
      have hN : 0 < N := by omega
      have hme : ((m : Int) == 0) = false := by rw [beq_eq_false_iff_ne]; omega
      obtain ⟨b, off, rfl, hbg, hc⟩ := hrow1.2 hm
      have hbyte : ∀ k, k < m → ∃ x : Nat, x < 256 ∧ w1.cell? ⟨b, off + k, none⟩ = some (.int .u8 (x : Int)) := fun k hk => by
        have hk' : k < bs.length := by omega
        exact ⟨(bs[k]).toNat, UInt8.toNat_lt _, hc k _ (by simp [byteV, hk'])⟩
      have HB := Lib.hid hbyte
      clear hlen hrow1 hc hbyte
      by_cases hpm : p < m
      · obtain ⟨x, hx, hcx⟩ := HB.out p hpm
        obtain ⟨r, hr⟩ : ∃ r, x % N = r := ⟨_, rfl⟩
        have hrN : r < N := by rw [← hr]; exact Nat.mod_lt _ hN
        have er : (x : Int) % (N : Int) = r := by omega
        have i1 : (0 : Int) ≤ p := by omega
        have i2 : (p : Int) < m := by omega
        clear hr
        go_enter Tryz.func16, Tryz.ntmps16
        go_wp2_with fail
        go_ret
        exact ⟨r, rfl, fun _ => by omega, fun h => by omega, HD.out⟩
      · go_enter Tryz.func16, Tryz.ntmps16
        go_wp2_with fail
        obtain ⟨a, ha⟩ : ∃ a, p % m = a := ⟨_, rfl⟩
        have ham : a < m := by rw [← ha]; exact Nat.mod_lt _ hm
        have ta : (p : Int).tmod m = a := by rw [Int.tmod_eq_emod_of_nonneg (by omega)]; omega
        obtain ⟨k7, e7⟩ : ∃ k : Nat, (p : Int) * 7 = k := ⟨p * 7, by omega⟩
        obtain ⟨k8, e8⟩ : ∃ k : Nat, (k7 : Int) + 3 = k := ⟨k7 + 3, by omega⟩
        obtain ⟨b7, hb7⟩ : ∃ a, k8 % m = a := ⟨_, rfl⟩
        have hbm : b7 < m := by rw [← hb7]; exact Nat.mod_lt _ hm
        have tb : (k8 : Int).tmod m = b7 := by rw [Int.tmod_eq_emod_of_nonneg (by omega)]; omega
        obtain ⟨x, hx, hcx⟩ := HB.out a ham
        obtain ⟨y, hy, hcy⟩ := HB.out b7 hbm
        obtain ⟨x1, ex1⟩ : ∃ k : Nat, (x : Int) * 131 = k := ⟨x * 131, by omega⟩
        obtain ⟨y1, ey1⟩ : ∃ k : Nat, (y : Int) * 1117 = k := ⟨y * 1117, by omega⟩
        obtain ⟨s1, es1⟩ : ∃ k : Nat, (x1 : Int) + y1 = k := ⟨x1 + y1, by omega⟩
        obtain ⟨p2, ep2⟩ : ∃ k : Nat, (p : Int) * 29 = k := ⟨p * 29, by omega⟩
        obtain ⟨s2, es2⟩ : ∃ k : Nat, (s1 : Int) + p2 = k := ⟨s1 + p2, by omega⟩
        obtain ⟨d, hd⟩ : ∃ d, p / m = d := ⟨_, rfl⟩
        have hdp : d ≤ p := by rw [← hd]; exact Nat.div_le_self _ _
        have td : (p : Int).tdiv m = d := by rw [Int.tdiv_eq_ediv_of_nonneg (by omega), ← hd]; rfl
        obtain ⟨d5, ed5⟩ : ∃ k : Nat, (d : Int) * 53 = k := ⟨d * 53, by omega⟩
        obtain ⟨t0, et0⟩ : ∃ k : Nat, (s2 : Int) + d5 = k := ⟨s2 + d5, by omega⟩
        have bt : t0 < 4294967296 := by omega
        have v7 : IntKind.i64.wrap (k7 : Int) = k7 := IntWalk.i64_in _ (by omega)
        have v8 : IntKind.i64.wrap (k8 : Int) = k8 := IntWalk.i64_in _ (by omega)
        have vx1 : IntKind.i64.wrap (x1 : Int) = x1 := IntWalk.i64_in _ (by omega)
        have vy1 : IntKind.i64.wrap (y1 : Int) = y1 := IntWalk.i64_in _ (by omega)
        have vs1 : IntKind.i64.wrap (s1 : Int) = s1 := IntWalk.i64_in _ (by omega)
        have vp2 : IntKind.i64.wrap (p2 : Int) = p2 := IntWalk.i64_in _ (by omega)
        have vs2 : IntKind.i64.wrap (s2 : Int) = s2 := IntWalk.i64_in _ (by omega)
        have vd5 : IntKind.i64.wrap (d5 : Int) = d5 := IntWalk.i64_in _ (by omega)
        have vt0 : IntKind.i64.wrap (t0 : Int) = t0 := IntWalk.i64_in _ (by omega)
        have vx : IntKind.i64.wrap (x : Int) = x := IntWalk.i64_in _ (by omega)
        have vy : IntKind.i64.wrap (y : Int) = y := IntWalk.i64_in _ (by omega)
        have va : IntKind.i64.wrap (a : Int) = a := IntWalk.i64_in _ (by omega)
        have vb7 : IntKind.i64.wrap (b7 : Int) = b7 := IntWalk.i64_in _ (by omega)
        have vd : IntKind.i64.wrap (d : Int) = d := IntWalk.i64_in _ (by omega)
        have i1 : (0 : Int) ≤ a := by omega
        have i2 : (a : Int) < m := by omega
        have i3 : (0 : Int) ≤ b7 := by omega
        have i4 : (b7 : Int) < m := by omega
        have hmne : ((m : Int) = 0) = False := by simp; omega
        clear ha hb7 hd hx hy
        go_quiet (fail)
        obtain ⟨t6, ht6⟩ : ∃ k : Nat, t0 / 64 = k := ⟨_, rfl⟩
        have et6 : (t0 : Int) / 64 = t6 := by rw [← ht6]; rfl
        obtain ⟨z, hz⟩ : ∃ z, t0 ^^^ t6 = z := ⟨_, rfl⟩
        have ez : bits .xor .i64 (t0 : Int) (t6 : Int) = (z : Int) := by rw [i64_xor_nat _ _ (by omega) (by omega), hz]
        obtain ⟨r, hr⟩ : ∃ r, z % N = r := ⟨_, rfl⟩
        have hrN : r < N := by rw [← hr]; exact Nat.mod_lt _ hN
        have er : (z : Int) % (N : Int) = r := by omega
        have iz : (0 : Int) ≤ z := by omega
        clear ht6 hz hr e7 e8 ex1 ey1 es1 ep2 es2 ed5 et0 v7 v8 vx1 vy1 vs1 vp2 vs2 vd5 vt0 vx vy va vb7 vd ta tb td
        go_wp2_with fail
        go_ret
        exact ⟨r, ret_int er, fun _ => by omega, fun h => by omega, HD.out.drewN _⟩

/-- What l9Open returns: a new source. -/
def OpenPost (w : World) (e : Ending) (w' : World) : Prop := e = .returned (.pointer (some ⟨w.heap.size, 0, none⟩)) ∧ RdAt w' w.heap.size 0 ∧ Below w.heap.size w w'

theorem rd_new {w : World} {A : Option Addr} {n c : Nat} {bs : List UInt8} (h : Row w w.heap.size 1 A n (bs.map byteV)) (hn : n ≤ 2000) : RdAt (w.alloc (.cells #[.slice A n c, .int .i64 0] 80)) w.heap.size 0 :=
  ⟨A, n, c, 0, bs, heap_alloc_new w _, h.alloc (Nat.le_refl _) _, hn, Nat.le_refl _⟩

set_option maxHeartbeats 1000000 in
theorem specL9Open (A : Option Addr) (n c : Nat) (bs : List UInt8) (w : World) (h : ByteRow w A n bs) (hnc : n ≤ c) :
    Calls Tryz.prog 13 #[.slice A n c] w (OpenPost w) := by
  have hle := h.le
  unfold maxLen at hle
  by_cases h2 : 2000 < n
  · have hrow : Row w w.heap.size 1 A 2000 ((bs.take 2000).map byteV) := by
      have := h.row.cut (k := 2000) (by omega)
      rwa [Nat.mul_one, ← List.map_take] at this
    have hc2 : (2000 : Int) ≤ c := by omega
    have HP := Lib.hid (rd_new (c := c) hrow (Nat.le_refl _))
    clear hrow
    go_enter Tryz.func13, Tryz.ntmps13
    go_wp2_with fail
    go_ret
    exact ⟨rfl, HP.out, (Below.refl _ _).alloc (Nat.le_refl _) _⟩
  · have HP := Lib.hid (rd_new (c := c) h.row (by omega))
    go_enter Tryz.func13, Tryz.ntmps13
    go_wp2_with fail
    go_ret
    exact ⟨rfl, HP.out, (Below.refl _ _).alloc (Nat.le_refl _) _⟩

/-- What a draw of a string returns. -/
def DrawStr (g P M : Nat) (w : World) (e : Ending) (w' : World) : Prop := ∃ s : ByteArray, e = .returned (.string s) ∧ s.size ≤ M ∧ Dr g P w w'

set_option maxHeartbeats 2000000 in
theorem specL1Bytes (g P : Nat) (n : Nat) (w : World) (h : RdAt w g P) (hP : P ≤ 900000) (hn : n ≤ 5000) :
    Calls Tryz.prog 41 #[.pointer (some ⟨g, 0, none⟩), .int .i64 (n : Int)] w (DrawStr g (P + n + 1) n w) := by
  obtain ⟨i0, hi0, hz0, hz1, hz2⟩ := info_parts infoByte
  have hmk := fun W => run_make_rowN (P := Tryz.prog) 22 5 i0 _ Tryz.underlying22 hi0 hz0 .i64 .i64 0 n (Nat.zero_le _) (by rw [hz2]; omega) (by omega) W
  obtain ⟨cs, hcs⟩ : ∃ cs, madeCells (Value.int .u8 0).cells (n * i0.size) = cs := ⟨_, rfl⟩
  have hcsz : cs.size = n * 1 := by rw [← hcs, hz1]; simp [madeCells]
  rw [hcs, Int.natCast_zero] at hmk
  have HO := Lib.hid (own_made w cs n w.heap.size 1 5 (Nat.le_refl _) (by unfold maxLen; omega) hcsz)
  obtain ⟨n1, hn1⟩ : ∃ k, n + 1 = k := ⟨_, rfl⟩
  have en1 : (n : Int) + 1 = n1 := by omega
  have hg := h.lt
  have HN1 := Lib.hid hn1
  have hn1b : n1 ≤ 5001 := by omega
  clear hcs hcsz hi0 hz0 hz1 hz2 hn1
  go_enter Tryz.func41, Tryz.ntmps41
  go_wp2_with fail
  clear hmk
  refine (specPick g P n1 _ (h.alloc _) (by omega) (by omega) (by omega)).mono ?_
  rintro e w1 ⟨r, rfl, hr1, _, hd1⟩
  have hrn : r ≤ n := by have := HN1.out; omega
  have hown1 := own_drawn_kept HO.out hd1 hg
  have hdr1 : Dr g (P + 1) w w1 := ⟨hd1.rd, only_then (World.grownBy_alloc w _ (some g)) hd1.only (fun j e => Or.inr e)⟩
  clear hr1 hd1 en1 HO
  go_wp2_with fail
  go_loopw [5, 6] (fun v i wr => ∃ (k j : Nat) (bs : List UInt8), i = .int .i64 k ∧ j + k = r ∧ Hid (bs.length = j) ∧ wr.ownsRow w.heap.size 5 1 v j (bs.map byteV) ∧ Dr g (P + 1 + j) w wr) (fun _ i _ => (intOf i).toNat)
  case atStart => exact ⟨r, 0, [], rfl, by omega, Lib.hid rfl, hown1, hdr1⟩
  case round =>
    obtain ⟨k, j, bs, rfl, hjk, HL, hown, hdr⟩ := hrel
    have hdz := hdr.size
    obtain ⟨Av, cv, rfl, _, _⟩ := own_form hown
    by_cases hk : 0 < k
    · go_wp2_with fail
      refine (specPick g (P + 1 + j) 256 _ hdr.rd (by omega) (by omega) (by omega)).mono ?_
      rintro e w2 ⟨x, rfl, hx1, _, hd2⟩
      have hx : x < 256 := by omega
      have hown2 := own_drawn_kept hown hd2 hg
      have hdr2 := hdr.trans hd2
      have wf8 : IntKind.u8.wrap (x : Int) = x := by simp [IntKind.wrap, IntKind.signed, IntKind.bits]; omega
      have ebv := byteV_cell x hx
      have HE := Lib.hid ebv
      have hdz2 := hdr2.size
      clear hx1 hd2 hown hdr ebv
      go_wp2_with (first
        | (at_builtin; refine wpList_append_row _ elemByte rfl (.tmp 17) (.tmp 21) rfl w.heap.size _ _ _ rfl (hown2.alloc _) _ _ 1 1 [.int .u8 (x : Int)] rfl (Row.newAt _ w2.heap.size rfl _ [.int .u8 (x : Int)] 1 1 rfl) ?_ ?_ ?_ ?_ ?_))
      · intro u hu; simp at hu; subst hu; rfl
      · unfold maxLen; omega
      · omega
      · simp; omega
      · intro v4 w4 hv4 hg4 _
        have hdr4 := (hdr2.alloc _).grown hg4 (fun g' hg' => (hown2.lt g' hg').1) hg
        have hv4' : w4.ownsRow w.heap.size 5 1 v4 (j + 1) ((bs ++ [UInt8.ofNat x]).map byteV) := by rw [List.map_append, List.map_cons, List.map_nil, ← HE.out]; exact hv4
        obtain ⟨k', rfl⟩ : ∃ k', k = k' + 1 := ⟨k - 1, by omega⟩
        clear hown2 hdr2 hg4 hv4
        go_wp2_with fail
        go_roundw
        case rel => exact ⟨k', j + 1, bs ++ [UInt8.ofNat x], by go_num, by omega, Lib.hid (by rw [List.length_append, HL.out]; rfl), hv4', hdr4⟩
        case measure => simp [intOf]
    · obtain rfl : k = 0 := by omega
      have hcv := run_convert_own (n := j) elemByte Tryz.underlying5 Tryz.underlying9 bs (by rw [HL.out]; exact hown) HL.out
      go_wp2_with fail
      go_ret
      exact ⟨_, rfl, by show bs.toArray.size ≤ n; have := HL.out; simp; omega, hdr.more (by omega)⟩

end Go.Proofs.YthlgpgaeajfchaaGreatDoor

namespace Go.Proofs.YthlgpgaeajfchaaGreatDoor
open Go.RowKit
set_option linter.unusedVariables false

/-- A number out of a list. -/
def NumPost (g P : Nat) (zs : List Int) (w : World) (e : Ending) (w' : World) : Prop := ∃ z ∈ zs, e = .returned (.int .i64 z) ∧ Dr g P w w'

set_option maxHeartbeats 1000000 in
theorem specNum (g P b : Nat) (zs : List Int) (n c : Nat) (w : World) (h : RdAt w g P) (hP : P ≤ 900000) (hzl : zs.length = n) (hn0 : 0 < n) (hn : n ≤ 100)
    (hcell : ∀ j z, zs[j]? = some z → w.cell? ⟨b, j, none⟩ = some (.int .i64 z)) (hgb : g < b) (hb : b < w.heap.size) :
    Calls Tryz.prog 17 #[.pointer (some ⟨g, 0, none⟩), .slice (some ⟨b, 0, none⟩) n c] w (NumPost g (P + 1) zs w) := by
  have HC := Lib.hid hcell
  have HZ := Lib.hid hzl
  clear hcell hzl
  go_enter Tryz.func17, Tryz.ntmps17
  go_wp2_with fail
  refine (specPick g P n _ h (by omega) (by omega) (by omega)).mono ?_
  rintro e w1 ⟨r, rfl, hr1, _, hd1⟩
  have hr : r < zs.length := by have := HZ.out; omega
  obtain ⟨z, hz⟩ : ∃ z, zs[r]? = some z := ⟨_, List.getElem?_eq_getElem hr⟩
  have hc := HC.out r z hz
  have hc1 : w1.cell? ⟨b, r, none⟩ = some (.int .i64 z) := by
    exact (World.cell?_of_block (hd1.only.block b hb (fun e => by injection e with e; omega))).trans hc
  have hrn : r < n := by have := HZ.out; omega
  have i1 : (0 : Int) ≤ r := by omega
  have i2 : (r : Int) < n := by omega
  have HM := Lib.hid (List.mem_of_getElem? hz)
  clear hr1 hc hz hr
  go_wp2_with fail
  go_ret
  exact ⟨z, HM.out, rfl, hd1⟩

/-- A drawn setting. -/
def SetPost (g P : Nat) (w : World) (e : Ending) (w' : World) : Prop := ∃ o l m : Nat, e = .returned (setV o l m) ∧ o < 2 ∧ 1 ≤ l ∧ l ≤ 8 ∧ l + 2 ≤ m ∧ m ≤ 10 ∧ Dr g P w w'

/-- A store into memory of the call's own behind draws. -/
theorem Dr.set {w w1 : World} {g P : Nat} (h : Dr g P w w1) {b j : Nat} (hb : w.heap.size ≤ b) (hg : g < w.heap.size) (v : Value) : Dr g P w (w1.setCell ⟨b, j, none⟩ v) :=
  h.grown (row := some b) (only_setCell (World.grownBy.refl _ _) rfl _) (fun i e => by injection e with e; omega) hg

/-- A block other than the source's stays. -/
theorem Dr.block {w w1 : World} {g P b : Nat} {o : Obj} (h : Dr g P w w1) (hb : w.heap[b]? = some o) (hne : b ≠ g) : w1.heap[b]? = some o :=
  (h.only.block b (Array.getElem?_eq_some_iff.1 hb).1 (fun e => by injection e with e; exact hne e)).trans hb

set_option maxHeartbeats 4000000 in
theorem specL1Some (g P : Nat) (w : World) (h : RdAt w g P) (hP : P ≤ 800000) :
    Calls Tryz.prog 38 #[.pointer (some ⟨g, 0, none⟩)] w (SetPost g (P + 5) w) := by
  have hg := h.lt
  go_enter Tryz.func38, Tryz.ntmps38
  go_wp2_with fail
  refine (specNum g P (w.heap.size + 1) [2, 3, 2, 1, 8, 5] 6 6 _ ((h.alloc _).alloc _) (by omega) rfl (by omega) (by omega) ?_ (by omega) (by simp)).mono ?_
  · intro j z hz
    exact new_cell _ _ (by simp) _ ([2, 3, 2, 1, 8, 5].map (Value.int .i64)) j _ (by rw [List.getElem?_map, hz]; rfl)
  · rintro e w1 ⟨z, hz, rfl, hd1⟩
    obtain ⟨l, rfl, hl1, hl8⟩ : ∃ l : Nat, z = l ∧ 1 ≤ l ∧ l ≤ 8 := by
      simp at hz
      rcases hz with rfl | rfl | rfl | rfl | rfl | rfl
      · exact ⟨2, rfl, by omega, by omega⟩
      · exact ⟨3, rfl, by omega, by omega⟩
      · exact ⟨2, rfl, by omega, by omega⟩
      · exact ⟨1, rfl, by omega, by omega⟩
      · exact ⟨8, rfl, by omega, by omega⟩
      · exact ⟨5, rfl, by omega, by omega⟩
    have hblk : w1.heap[w.heap.size]? = some (.cells #[.int .i64 0, .int .i64 0, .int .i64 0] 24 (0, 0)) := by
      refine hd1.block ?_ (by omega)
      rw [heap_alloc_old _ _ (by simp)]
      exact heap_alloc_new w _
    have hdr1 : Dr g (P + 1) w w1 := ⟨hd1.rd, only_then ((World.grownBy_alloc w _ (some g)).trans (World.grownBy_alloc _ _ (some g))) hd1.only (fun j e => Or.inr e)⟩
    have hz1 := hdr1.size
    clear hz hd1
    obtain ⟨q1, hq1⟩ : ∃ q : Nat, (10 : Int) - l = q := ⟨10 - l, by omega⟩
    obtain ⟨q2, hq2⟩ : ∃ q : Nat, (q1 : Int) - 1 = q := ⟨q1 - 1, by omega⟩
    obtain ⟨l2, hl2⟩ : ∃ q : Nat, (l : Int) + 2 = q := ⟨l + 2, by omega⟩
    go_wp2_with fail
    refine (specPick g (P + 1) q2 _ hdr1.rd (by omega) (by omega) (by omega)).mono ?_
    rintro e w2 ⟨r, rfl, hr1, _, hd2⟩
    have hblk2 := hd2.block hblk (by omega)
    have hdr2 := hdr1.trans hd2
    obtain ⟨m1, hm1⟩ : ∃ q : Nat, (l2 : Int) + r = q := ⟨l2 + r, by omega⟩
    have hr : r < q2 := by omega
    have hz2 := hdr2.size
    clear hblk hdr1 hd2 hr1
    go_wp2_with fail
    refine (specPick g (P + 2) 2 _ hdr2.rd (by omega) (by omega) (by omega)).mono ?_
    rintro e w3 ⟨r2, rfl, hr2, _, hd3⟩
    have hblk3 := hd3.block hblk2 (by omega)
    have hdr3 := hdr2.trans hd3
    have hz3 := hdr3.size
    clear hblk2 hdr2 hd3
    by_cases h0 : r2 = 0
    · subst h0
      go_wp2_with fail
      refine (specPick g (P + 3) 2 _ hdr3.rd (by omega) (by omega) (by omega)).mono ?_
      rintro e w4 ⟨r4, rfl, hr4, _, hd4⟩
      have hblk4 := hd4.block hblk3 (by omega)
      have hdr4 := hdr3.trans hd4
      have hz4 := hdr4.size
      obtain ⟨m2, hm2⟩ : ∃ q : Nat, (l2 : Int) + r4 = q := ⟨l2 + r4, by omega⟩
      clear hblk3 hdr3 hd4
      by_cases h10 : m2 ≤ 10
      · have h10' : (m2 : Int) ≤ 10 := by omega
        go_wp2_with fail
        refine (specPick g (P + 4) 2 _ hdr4.rd (by omega) (by omega) (by omega)).mono ?_
        rintro e w5 ⟨r5, rfl, hr5, _, hd5⟩
        have hblk5 := hd5.block hblk4 (by omega)
        have hdr5 := hdr4.trans hd5
        have hz5 := hdr5.size
        have c0 : w5.cell? ⟨w.heap.size, 0, none⟩ = some (.int .i64 0) := by simp [World.cell?, hblk5]
        have c1 : w5.cell? ⟨w.heap.size, 1, none⟩ = some (.int .i64 0) := by simp [World.cell?, hblk5]
        have c2 : w5.cell? ⟨w.heap.size, 2, none⟩ = some (.int .i64 0) := by simp [World.cell?, hblk5]
        have hfr : ∀ o, w5.frozen? ⟨w.heap.size, o, none⟩ = false := fun o => by simp [World.frozen?, hblk5]
        clear hblk4 hdr4 hd5 hblk5
        go_wp2_with fail
        refine bodyPost_ret (v := setV r5 l m2) (by simp [results, Tryz.results38, go_sem, setV, c0, c1, c2]) rfl ?_
        exact ⟨r5, l, m2, rfl, by omega, by omega, by omega, by omega, by omega, (((hdr5.set (Nat.le_refl _) hg _).set (Nat.le_refl _) hg _).set (Nat.le_refl _) hg _).more (by omega)⟩
      · obtain rfl : m2 = 11 := by omega
        go_wp2_with fail
        refine (specPick g (P + 4) 2 _ hdr4.rd (by omega) (by omega) (by omega)).mono ?_
        rintro e w5 ⟨r5, rfl, hr5, _, hd5⟩
        have hblk5 := hd5.block hblk4 (by omega)
        have hdr5 := hdr4.trans hd5
        have hz5 := hdr5.size
        have c0 : w5.cell? ⟨w.heap.size, 0, none⟩ = some (.int .i64 0) := by simp [World.cell?, hblk5]
        have c1 : w5.cell? ⟨w.heap.size, 1, none⟩ = some (.int .i64 0) := by simp [World.cell?, hblk5]
        have c2 : w5.cell? ⟨w.heap.size, 2, none⟩ = some (.int .i64 0) := by simp [World.cell?, hblk5]
        have hfr : ∀ o, w5.frozen? ⟨w.heap.size, o, none⟩ = false := fun o => by simp [World.frozen?, hblk5]
        clear hblk4 hdr4 hd5 hblk5
        go_wp2_with fail
        refine bodyPost_ret (v := setV r5 l 10) (by simp [results, Tryz.results38, go_sem, setV, c0, c1, c2]) rfl ?_
        exact ⟨r5, l, 10, rfl, by omega, by omega, by omega, by omega, by omega, (((hdr5.set (Nat.le_refl _) hg _).set (Nat.le_refl _) hg _).set (Nat.le_refl _) hg _).more (by omega)⟩
    · go_wp2_with fail
      refine (specPick g (P + 3) 2 _ hdr3.rd (by omega) (by omega) (by omega)).mono ?_
      rintro e w5 ⟨r5, rfl, hr5, _, hd5⟩
      have hblk5 := hd5.block hblk3 (by omega)
      have hdr5 := hdr3.trans hd5
      have hz5 := hdr5.size
      have c0 : w5.cell? ⟨w.heap.size, 0, none⟩ = some (.int .i64 0) := by simp [World.cell?, hblk5]
      have c1 : w5.cell? ⟨w.heap.size, 1, none⟩ = some (.int .i64 0) := by simp [World.cell?, hblk5]
      have c2 : w5.cell? ⟨w.heap.size, 2, none⟩ = some (.int .i64 0) := by simp [World.cell?, hblk5]
      have hfr : ∀ o, w5.frozen? ⟨w.heap.size, o, none⟩ = false := fun o => by simp [World.frozen?, hblk5]
      clear hblk3 hdr3 hd5 hblk5
      go_wp2_with fail
      refine bodyPost_ret (v := setV r5 l m1) (by simp [results, Tryz.results38, go_sem, setV, c0, c1, c2]) rfl ?_
      exact ⟨r5, l, m1, rfl, by omega, by omega, by omega, by omega, by omega, (((hdr5.set (Nat.le_refl _) hg _).set (Nat.le_refl _) hg _).set (Nat.le_refl _) hg _).more (by omega)⟩

/-- A setting in a cell block. -/
def SetAt (w : World) (b o l m : Nat) : Prop := w.heap[b]? = some (.cells #[.int .i64 (o : Int), .int .i64 (l : Int), .int .i64 (m : Int)] 24 (0, 0))

theorem SetAt.cells {w : World} {b o l m : Nat} (h : SetAt w b o l m) : w.cell? ⟨b, 0, none⟩ = some (.int .i64 (o : Int)) ∧ w.cell? ⟨b, 1, none⟩ = some (.int .i64 (l : Int)) ∧ w.cell? ⟨b, 2, none⟩ = some (.int .i64 (m : Int)) := by
  refine ⟨?_, ?_, ?_⟩ <;> simp [World.cell?, show w.heap[b]? = _ from h]

theorem SetAt.lt {w : World} {b o l m : Nat} (h : SetAt w b o l m) : b < w.heap.size := (Array.getElem?_eq_some_iff.1 h).1

theorem SetAt.below {w w' : World} {b o l m C : Nat} (h : SetAt w b o l m) (hb : Below C w w') (hC : w.heap.size ≤ C) : SetAt w' b o l m :=
  (hb.block b (by have := h.lt; omega)).trans h

theorem SetAt.dr {w w' : World} {b o l m g P : Nat} (h : SetAt w b o l m) (hd : Dr g P w w') (hne : b ≠ g) : SetAt w' b o l m := hd.block h hne

theorem SetAt.alloc {w : World} {b o l m : Nat} (h : SetAt w b o l m) (x : Obj) : SetAt (w.alloc x) b o l m := h.below ((Below.refl _ _).alloc (Nat.le_refl _) x) (Nat.le_refl _)

set_option maxHeartbeats 4000000 in
theorem specL1Data (g P o l m n : Nat) (w : World) (h : RdAt w g P) (hP : P ≤ 800000) (hl1 : 1 ≤ l) (hl : l ≤ 8) (hn : n ≤ 5000) :
    Calls Tryz.prog 40 #[.pointer (some ⟨g, 0, none⟩), setV o l m, .int .i64 (n : Int)] w (DrawStr g (P + 4 + 2 * n) n w) := by
  obtain ⟨i0, hi0, hz0, hz1, hz2⟩ := info_parts infoByte
  have hmk := fun W => run_make_rowN (P := Tryz.prog) 22 5 i0 _ Tryz.underlying22 hi0 hz0 .i64 .i64 0 n (Nat.zero_le _) (by rw [hz2]; omega) (by omega) W
  obtain ⟨cs, hcs⟩ : ∃ cs, madeCells (Value.int .u8 0).cells (n * i0.size) = cs := ⟨_, rfl⟩
  have hcsz : cs.size = n * 1 := by rw [← hcs, hz1]; simp [madeCells]
  rw [hcs, Int.natCast_zero] at hmk
  obtain ⟨wb, hwb⟩ : ∃ wb, w.alloc (.cells #[.int .i64 (o : Int), .int .i64 (l : Int), .int .i64 (m : Int)] 24) = wb := ⟨_, rfl⟩
  have hwz : wb.heap.size = w.heap.size + 1 := by rw [← hwb]; simp
  have HO := Lib.hid (own_made wb cs n (w.heap.size + 1) 1 5 (by omega) (by unfold maxLen; omega) hcsz)
  have hblk : (wb.alloc (.cells cs 5)).heap[w.heap.size]? = some (.cells #[.int .i64 (o : Int), .int .i64 (l : Int), .int .i64 (m : Int)] 24 (0, 0)) := by
    rw [heap_alloc_old _ _ (by omega), ← hwb]
    exact heap_alloc_new w _
  obtain ⟨n1, hn1⟩ : ∃ k, n + 1 = k := ⟨_, rfl⟩
  have en1 : (n : Int) + 1 = n1 := by omega
  have hg := h.lt
  have HN1 := Lib.hid hn1
  have hn1b : n1 ≤ 5001 := by omega
  have hrd0 : RdAt (wb.alloc (.cells cs 5)) g P := by rw [← hwb]; exact (h.alloc _).alloc _
  have hg0 : w.grownBy (wb.alloc (.cells cs 5)) (some g) := by rw [← hwb]; exact (World.grownBy_alloc w _ (some g)).trans (World.grownBy_alloc _ _ (some g))
  obtain ⟨wc, hwc⟩ : ∃ wc, wb.alloc (.cells cs 5) = wc := ⟨_, rfl⟩
  have hwcz : wc.heap.size = w.heap.size + 2 := by rw [← hwc]; simp; omega
  rw [hwc] at HO hblk hrd0 hg0
  have hmk' := hmk wb
  rw [hwc] at hmk'
  clear hcs hcsz hi0 hz0 hz1 hz2 hn1 hmk h
  unfold setV
  go_enter Tryz.func40, Tryz.ntmps40
  obtain ⟨C, hC⟩ : ∃ C, 2 ^ l = C := ⟨_, rfl⟩
  have hC2 : 2 ≤ C ∧ C ≤ 256 := by
    rw [← hC]
    have h1 : 2 ^ 1 ≤ 2 ^ l := Nat.pow_le_pow_right (by omega) hl1
    have h2 : 2 ^ l ≤ 2 ^ 8 := Nat.pow_le_pow_right (by omega) hl
    omega
  have HCL := fun W => specL1Clear o l m W (by omega)
  rw [hC] at HCL
  unfold setV at HCL
  have HCL := Lib.hid HCL
  have hset : SetAt wc w.heap.size o l m := hblk
  have hdr0 : Dr g P w wc := ⟨hrd0, hg0⟩
  obtain ⟨q0, q1, q2⟩ := hset.cells
  clear hC hblk hrd0 hg0
  go_wp2_with fail
  clear hmk' q0 q1 q2
  refine (HCL.out _).mono ?_
  rintro e w1 ⟨rfl, hb1⟩
  have hset1 := hset.below hb1 (Nat.le_refl _)
  have hdr1 := hdr0.then_below hb1
  have hown1 := own_below HO.out hb1 (Nat.le_refl _)
  have hz1 := hdr1.size
  have hzz := hb1.size
  clear hset hdr0 HO hb1
  go_wp2_with fail
  refine (specNum g P w1.heap.size [2, 3, (C : Int), 1] 4 4 _ (hdr1.rd.alloc _) (by omega) rfl (by omega) (by omega) ?_ (by omega) (by simp)).mono ?_
  · intro j z hz
    exact new_cell _ _ rfl _ ([2, 3, (C : Int), 1].map (Value.int .i64)) j _ (by rw [List.getElem?_map, hz]; rfl)
  rintro e w2 ⟨z, hz, rfl, hd2⟩
  obtain ⟨zn, rfl, hzn⟩ : ∃ k : Nat, z = k ∧ 1 ≤ k := by
    simp at hz
    rcases hz with rfl | rfl | rfl | rfl
    · exact ⟨2, rfl, by omega⟩
    · exact ⟨3, rfl, by omega⟩
    · exact ⟨C, rfl, by omega⟩
    · exact ⟨1, rfl, by omega⟩
  have hset2 := (hset1.alloc _).dr hd2 (by omega)
  have hown2 := own_drawn_kept (hown1.alloc _) hd2 (by omega)
  have hdr2 := (hdr1.alloc _).trans hd2
  have hz2 := hdr2.size
  obtain ⟨q0, q1, q2⟩ := hset2.cells
  clear hset1 hown1 hdr1 hd2 hz
  go_upto_region 3 with fail
  go_cut [8] (fun v wx => ∃ pt : Nat, v = .int .i64 pt ∧ 1 ≤ pt ∧ pt ≤ 256 ∧ wx.ownsRow (w.heap.size + 1) 5 1 (.slice (some ⟨wb.heap.size, 0, none⟩) 0 n) 0 [] ∧ Dr g (P + 1) w wx)
  case first =>
    go_wp2_with fail
    refine (HCL.out _).mono ?_
    rintro e w3 ⟨rfl, hb3⟩
    have hdr3 := hdr2.then_below hb3
    have hown3 := own_below hown2 hb3 (Nat.le_refl _)
    clear hset2 hdr2 hown2 hb3
    by_cases hm : zn ≤ C
    · have hm' : (zn : Int) ≤ C := by omega
      go_wp2_with fail
      go_meet
      exact ⟨zn, rfl, hzn, by omega, hown3, hdr3⟩
    · have hm' : (C : Int) < zn := by omega
      go_wp2_with fail
      go_meet
      exact ⟨C, rfl, by omega, by omega, hown3, hdr3⟩
  case rest =>
    obtain ⟨pt, rfl, hp1, hp2, hown, hdr⟩ := hcut
    clear hset2 hown2 hdr2 q0 q1 q2 HCL hz2
    have hz1' := hdr.size
    go_wp2_with fail
    refine (specPick g (P + 1) 7 _ hdr.rd (by omega) (by omega) (by omega)).mono ?_
    rintro e w3 ⟨r3, rfl, hr3, _, hd3⟩
    have hown3 := own_drawn_kept hown hd3 (by omega)
    have hdr3 := hdr.trans hd3
    obtain ⟨pd, hpd⟩ : ∃ k : Nat, (1 : Int) + r3 = k := ⟨1 + r3, by omega⟩
    have hpd1 : 1 ≤ pd := by omega
    have hpd7 : pd ≤ 7 := by omega
    have hz3 := hdr3.size
    clear hown hdr hd3 hr3
    go_wp2_with fail
    refine (specPick g (P + 2) 4 _ hdr3.rd (by omega) (by omega) (by omega)).mono ?_
    rintro e w4 ⟨md, rfl, hr4, _, hd4⟩
    have hown4 := own_drawn_kept hown3 hd4 (by omega)
    have hdr4 := hdr3.trans hd4
    have hmd : md < 4 := by omega
    have hz4 := hdr4.size
    clear hown3 hdr3 hd4 hr4 hpd
    go_wp2_with fail
    refine (specPick g (P + 3) n1 _ hdr4.rd (by omega) (by omega) (by omega)).mono ?_
    rintro e w5 ⟨r, rfl, hr5, _, hd5⟩
    have hown5 := own_drawn_kept hown4 hd5 (by omega)
    have hdr5 := hdr4.trans hd5
    have hrn : r ≤ n := by have := HN1.out; omega
    have hz5 := hdr5.size
    clear hown4 hdr4 hd5 hr5 en1
    go_wp2_with fail
    go_loopw [7, 11] (fun v i wr => ∃ (k j : Nat) (bs : List UInt8), i = .int .i64 k ∧ j + k = r ∧ Hid (bs.length = j) ∧ wr.ownsRow (w.heap.size + 1) 5 1 v j (bs.map byteV) ∧ Dr g (P + 4 + 2 * j) w wr) (fun _ i _ => (intOf i).toNat)
    case atStart => exact ⟨r, 0, [], rfl, by omega, Lib.hid rfl, by rw [hwz] at hown5; exact hown5, hdr5.more (by omega)⟩
    case round =>
      obtain ⟨k, j, bs, rfl, hjk, HL, hown, hdr⟩ := hrel
      have hdz := hdr.size
      obtain ⟨Av, cv, rfl, _, _⟩ := own_form hown
      by_cases hk : 0 < k
      · go_wp2_with fail
        refine (specPick g (P + 4 + 2 * j) 256 _ hdr.rd (by omega) (by omega) (by omega)).mono ?_
        rintro e w6 ⟨x, rfl, hx1, _, hd6⟩
        obtain ⟨y, hy⟩ : ∃ y, x % pt = y := ⟨_, rfl⟩
        have hy1 : y < 256 := by rw [← hy]; exact Nat.lt_of_lt_of_le (Nat.mod_lt _ (by omega)) hp2
        have ey : (x : Int) % (pt : Int) = y := by omega
        have wy := u8_in y hy1
        have hown6 := own_drawn_kept hown hd6 (by omega)
        have hdr6 := hdr.trans hd6
        have hz6 := hdr6.size
        clear hown hdr hd6 hx1 hy
        go_upto_block 2 with fail
        go_cut [12] (fun v wx => ∃ z : Nat, v = .int .u8 z ∧ z < 256 ∧ wx.ownsRow (w.heap.size + 1) 5 1 (.slice Av j cv) j (bs.map byteV) ∧ Dr g (P + 4 + 2 * (j + 1)) w wx)
        case first =>
          by_cases hm0 : md = 0
          · subst hm0
            by_cases hj : 0 < j
            · go_wp2_with fail
              refine (specPick g (P + 4 + 2 * j + 1) 4 _ hdr6.rd (by omega) (by omega) (by omega)).mono ?_
              rintro e w7 ⟨q, rfl, hq, _, hd7⟩
              have hown7 := own_drawn_kept hown6 hd7 (by omega)
              have hdr7 := (hdr6.trans hd7).more (show P + 4 + 2 * j + 1 + 1 ≤ P + 4 + 2 * (j + 1) by omega)
              clear hown6 hdr6 hd7 hq
              by_cases hq0 : 0 < q
              · obtain ⟨b, off, rfl, _, hc⟩ := (Row.of_own hown7).2 hj
                obtain ⟨a, ha⟩ : ∃ a : Nat, (j : Int) - 1 = a := ⟨j - 1, by omega⟩
                have hal : a < bs.length := by have := HL.out; omega
                have hcell : w7.cell? ⟨b, off + a, none⟩ = some (.int .u8 ((bs[a].toNat : Nat) : Int)) := hc a _ (by simp [byteV, hal])
                have hz : bs[a].toNat < 256 := UInt8.toNat_lt _
                obtain ⟨z, hze⟩ : ∃ z, bs[a].toNat = z := ⟨_, rfl⟩
                rw [hze] at hcell hz
                have i1 : (0 : Int) ≤ a := by omega
                have i2 : (a : Int) < j := by omega
                have HK := Lib.hid (And.intro hown7 hdr7)
                clear hc hze hown7 hdr7
                go_wp2_with fail
                go_meet
                exact ⟨z, rfl, hz, HK.out.1, HK.out.2⟩
              · go_wp2_with fail
                go_meet
                exact ⟨y, rfl, hy1, hown7, hdr7⟩
            · have hdr7 := hdr6.more (show P + 4 + 2 * j + 1 ≤ P + 4 + 2 * (j + 1) by omega)
              clear hdr6
              go_wp2_with fail
              go_meet
              exact ⟨y, rfl, hy1, hown6, hdr7⟩
          · by_cases hm1 : md = 1
            · subst hm1
              by_cases hj : pd ≤ j
              · go_wp2_with fail
                refine (specPick g (P + 4 + 2 * j + 1) 10 _ hdr6.rd (by omega) (by omega) (by omega)).mono ?_
                rintro e w7 ⟨q, rfl, hq, _, hd7⟩
                have hown7 := own_drawn_kept hown6 hd7 (by omega)
                have hdr7 := (hdr6.trans hd7).more (show P + 4 + 2 * j + 1 + 1 ≤ P + 4 + 2 * (j + 1) by omega)
                clear hown6 hdr6 hd7 hq
                by_cases hq0 : 0 < q
                · obtain ⟨b, off, rfl, _, hc⟩ := (Row.of_own hown7).2 (by omega)
                  obtain ⟨a, ha⟩ : ∃ a : Nat, (j : Int) - pd = a := ⟨j - pd, by omega⟩
                  have hal : a < bs.length := by have := HL.out; omega
                  have hcell : w7.cell? ⟨b, off + a, none⟩ = some (.int .u8 ((bs[a].toNat : Nat) : Int)) := hc a _ (by simp [byteV, hal])
                  have hz : bs[a].toNat < 256 := UInt8.toNat_lt _
                  obtain ⟨z, hze⟩ : ∃ z, bs[a].toNat = z := ⟨_, rfl⟩
                  rw [hze] at hcell hz
                  have i1 : (0 : Int) ≤ a := by omega
                  have i2 : (a : Int) < j := by omega
                  have HK := Lib.hid (And.intro hown7 hdr7)
                  clear hc hze hown7 hdr7
                  go_wp2_with fail
                  go_meet
                  exact ⟨z, rfl, hz, HK.out.1, HK.out.2⟩
                · go_wp2_with fail
                  go_meet
                  exact ⟨y, rfl, hy1, hown7, hdr7⟩
              · have hdr7 := hdr6.more (show P + 4 + 2 * j + 1 ≤ P + 4 + 2 * (j + 1) by omega)
                clear hdr6
                go_wp2_with fail
                go_meet
                exact ⟨y, rfl, hy1, hown6, hdr7⟩
            · have hdr7 := hdr6.more (show P + 4 + 2 * j + 1 ≤ P + 4 + 2 * (j + 1) by omega)
              clear hdr6
              go_wp2_with fail
              go_meet
              exact ⟨y, rfl, hy1, hown6, hdr7⟩
        case rest =>
          obtain ⟨z, rfl, hz, hown7, hdr7⟩ := hcut
          clear hown6 hdr6 ey wy
          have ebv := byteV_cell z hz
          have HE := Lib.hid ebv
          have hz7 := hdr7.size
          clear ebv
          go_wp2_with (first
            | (at_builtin; refine wpList_append_row _ elemByte rfl (.tmp 82) (.tmp 84) rfl (w.heap.size + 1) _ _ _ rfl (hown7.alloc _) _ _ 1 1 [.int .u8 (z : Int)] rfl (Row.newAt _ _ rfl _ [.int .u8 (z : Int)] 1 1 rfl) ?_ ?_ ?_ ?_ ?_))
          · intro u hu; simp at hu; subst hu; rfl
          · unfold maxLen; omega
          · omega
          · simp; omega
          · intro v4 w4 hv4 hg4 _
            have hdr8 := (hdr7.alloc _).grown hg4 (fun g' hg' => by have := (hown7.lt g' hg').1; omega) hg
            have hv4' : w4.ownsRow (w.heap.size + 1) 5 1 v4 (j + 1) ((bs ++ [UInt8.ofNat z]).map byteV) := by rw [List.map_append, List.map_cons, List.map_nil, ← HE.out]; exact hv4
            obtain ⟨k', rfl⟩ : ∃ k', k = k' + 1 := ⟨k - 1, by omega⟩
            clear hown7 hdr7 hg4 hv4
            go_wp2_with fail
            go_roundw
            case rel => exact ⟨k', j + 1, bs ++ [UInt8.ofNat z], by go_num, by omega, Lib.hid (by rw [List.length_append, HL.out]; rfl), hv4', hdr8⟩
            case measure => simp [intOf]
      · obtain rfl : k = 0 := by omega
        have hcv := run_convert_own (n := j) elemByte Tryz.underlying5 Tryz.underlying9 bs (by rw [HL.out]; exact hown) HL.out
        go_wp2_with fail
        go_ret
        exact ⟨_, rfl, by show bs.toArray.size ≤ n; have := HL.out; simp; omega, hdr.more (by omega)⟩

end Go.Proofs.YthlgpgaeajfchaaGreatDoor

namespace Go.Proofs.YthlgpgaeajfchaaGreatDoor
open Go.RowKit
set_option linter.unusedVariables false

theorem Dr.cell {w w1 : World} {g P : Nat} (h : Dr g P w w1) (b j : Nat) (v : Value) (hc : w.cell? ⟨b, j, none⟩ = some v) (hb : b < w.heap.size) (hne : b ≠ g) : w1.cell? ⟨b, j, none⟩ = some v :=
  (World.cell?_of_block (h.only.block b hb (fun e => by injection e with e; exact hne e))).trans hc

theorem Dr.drew {w w1 : World} {g P : Nat} (h : Dr g P w w1) : Dr g P w w1.drew := h.drewN 1

theorem new_cell2 (w : World) (H : Nat) (hH : w.heap.size = H) (e : TypeId) (cs : List Value) (o : Obj) (j : Nat) (u : Value) (hu : cs[j]? = some u) : ((w.alloc (.cells cs.toArray e)).alloc o).cell? ⟨H, j, none⟩ = some u := by
  rw [World.cell?_alloc_lt _ _ _ (by subst hH; simp)]
  exact new_cell w H hH e cs j u hu

end Go.Proofs.YthlgpgaeajfchaaGreatDoor
