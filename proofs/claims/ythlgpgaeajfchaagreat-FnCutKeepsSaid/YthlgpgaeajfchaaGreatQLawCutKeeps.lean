/-
 The walk of the law FnCutKeeps.
-/
import Derived.Test.YthlgpgaeajfchaaGreatQPropN
import Derived.Test.YthlgpgaeajfchaaGreatQPropK
import Derived.Test.YthlgpgaeajfchaaGreatQMergeP
import Derived.Test.YthlgpgaeajfchaaGreatQCutImpl
import Derived.Test.YthlgpgaeajfchaaGreatQCutSpecB
import Derived.Test.YthlgpgaeajfchaaGreatQIndexOf
import Derived.Test.YthlgpgaeajfchaaGreatQTouched
import Derived.Test.YthlgpgaeajfchaaGreatQPropR
import Derived.Test.YthlgpgaeajfchaaGreatQDrawsR
import Derived.Test.YthlgpgaeajfchaaGreatQTreeMem

namespace Go.Proofs.YthlgpgaeajfchaaGreat
open Go.RowKit
set_option linter.unusedVariables false
set_option linter.unusedSimpArgs false
set_option maxRecDepth 100000

theorem renumL_at : ∀ (bs : List Blk) (i q : Nat) (b : Blk), bs[q]? = some b → (renumL i bs)[q]? = some (renum (i + q) b) := by
 intro bs
 induction bs with
 | nil => intro i q b h; simp at h
 | cons c bs ih =>
  intro i q b h
  cases q with
  | zero =>
   have e : c = b := by simpa using h
   subst e; rfl
  | succ q =>
   have h2 : bs[q]? = some b := by simpa using h
   have := ih (i + 1) q b h2
   have e : i + 1 + q = i + (q + 1) := by omega
   rw [e] at this
   exact this

theorem keeps_law {o l m f t : Int} {d : List UInt8} {s x : ByteArray} (h : cutC o l m d (contB s) f t = some x) :
  ∃ (fn tn n z : Nat) (p q : List Blk) (T : List Nat), f = fn ∧ t = tn ∧ tn ≤ 4000 ∧ fn ≤ 4000 ∧ contB s = some p ∧ contB x = some q ∧ p.length = n ∧ n ≤ 40 ∧ tchL fn tn 0 0 p = T ∧ T.length = z ∧ z ≤ 40 ∧ q.length = z ∧ x.size ≤ 2960 ∧
   ∀ i, i < z → ∃ j a ps, T[i]? = some j ∧ j < n ∧ p[j]? = some a ∧ szs (p.take j) = ps ∧ ps ≤ 2000 ∧ a.size ≤ 64 ∧ ∃ b, q[i]? = some b ∧ (fn ≤ ps → ps + a.size ≤ tn → b = renum i a) := by
 obtain ⟨on, ln, mn, fn, tn, p, r, _, _, _, e1, e2, _, hp, hok, h40, hz, _, hft, htz, hcut, hok2, hzr, hrl, _, hq, hr40, s2⟩ := cutC_some h
 have hl : r.length = (tchL fn tn 0 0 p).length := by rw [tchL_length]; exact hrl
 refine ⟨fn, tn, p.length, r.length, p, renumL 0 r, tchL fn tn 0 0 p, e1, e2, by omega, by omega, hp, hq, rfl, h40, rfl, hl.symm, by omega, renumL_length r 0, s2, fun i hi => ?_⟩
 obtain ⟨j, hj⟩ : ∃ j, (tchL fn tn 0 0 p)[i]? = some j := ⟨_, List.getElem?_eq_getElem (by omega)⟩
 obtain ⟨b, hb⟩ : ∃ b, r[i]? = some b := ⟨_, List.getElem?_eq_getElem (by omega)⟩
 obtain ⟨_, a, ha, hin⟩ := cut_keeps p 0 0 r hcut i j hj
 rw [Nat.sub_zero] at ha hin
 have hjl : j < p.length := by
  rcases Nat.lt_or_ge j p.length with h | h
  ·exact h
  ·rw [List.getElem?_eq_none h] at ha; cases ha
 have hsk := szs_take_succ p j a ha
 have hle : szs (p.take j) ≤ szs p := by
  have := szs_append (p.take j) (p.drop j)
  rw [List.take_append_drop] at this
  omega
 refine ⟨j, a, szs (p.take j), hj, hjl, ha, rfl, by omega, (hok a (List.mem_of_getElem? ha)).2.1, renum (0 + i) b, renumL_at r 0 i b hb, fun h1 h2 => ?_⟩
 have := hin (by omega) (by omega)
 rw [hb] at this
 have e : b = a := by injection this
 rw [e, Nat.zero_add]

theorem Row.num {w : World} {B n : Nat} {A : Option Addr} {xs : List Nat} (h : Row w B 1 A n (xs.map natV)) {k v : Nat} (hk : k < n) (hb : xs[k]? = some v) : ∃ b off, A = some ⟨b, off, none⟩ ∧ b < B ∧ w.cell? ⟨b, off + k, none⟩ = some (.int .i64 (v : Int)) := by
 obtain ⟨b, off, e, hB, hc⟩ := h.2 (by omega)
 exact ⟨b, off, e, hB, hc k _ (by rw [List.getElem?_map, hb]; rfl)⟩

theorem Row.plc {w : World} {B n : Nat} {A : Option Addr} {bs : List Blk} {xs : List Value} (h : Row w B 2 A n xs) (hP : PlOk bs n n xs) {k v : Nat} (hk : k < n) (hb : szs (bs.take k) = v) : ∃ b off, A = some ⟨b, off, none⟩ ∧ b < B ∧ w.cell? ⟨b, off + k * 2 + 1, none⟩ = some (.int .i64 (v : Int)) := by
 obtain ⟨b, off, e, hB, hc⟩ := h.2 (by omega)
 exact ⟨b, off, e, hB, hc (k * 2 + 1) _ (by rw [hP.2 k hk, hb])⟩

set_option maxHeartbeats 4000000 in
theorem lawFnCutKeeps (A : Option Addr) (n c : Nat) (bs : List UInt8) (w : World) (h : ByteRow w A n bs) (hnc : n ≤ c) :
  Calls Tryz.prog 5 #[.slice A n c] w fun e w' => e = .returned (.bool true) ∧ Below w.heap.size w w' := by
 have hle := h.le
 unfold maxLen at hle
 by_cases hn : n ≤ 1048576
 ·have gn := decide_eq_false (p := (1048576 : Int) < n) (by omega)
  have gn2 := decide_eq_false (p := 1048576 < n) (by omega)
  go_enter Tryz.func5, Tryz.ntmps5
  go_wp2_with fail
  refine (specDrawCutContainer A n c bs _ h hnc).mono ?_
  rintro e w1 ⟨o, l, m, d, s, f, t, rfl, hd, hs, hf, ht, hb1⟩
  have kb2 := KBn.start w1 24 [.int .i64 o, .int .i64 l, .int .i64 m]
  have hW2 := hb1.alloc hb1.size (.cells #[.int .i64 o, .int .i64 l, .int .i64 m] 24)
  change KBn (w1.alloc (.cells #[.int .i64 o, .int .i64 l, .int .i64 m] 24)) _ _ at kb2
  clear hb1 h
  go_upto_region 4 with (fail)
  obtain ⟨G, hG⟩ : ∃ G, w1.heap.size = G := ⟨_, rfl⟩
  obtain ⟨w2, hw2⟩ : ∃ W, w1.alloc (.cells #[.int .i64 o, .int .i64 l, .int .i64 m] 24) = W := ⟨_, rfl⟩
  rw [hw2] at kb2 hW2 ⊢
  rw [hG] at kb2 ⊢
  clear hw2 hG
  replace kb2 := Lib.hid kb2
  replace hW2 := Lib.hid hW2
  have HI := fun W => implCutContainer o l m d s f t W (by omega) (by omega)
  have HS := fun W => specCutContainer o l m d s f t W (by omega) (by omega)
  have hs10 : s.size ≤ 1048576 := by omega
  rcases hT : cutC o l m d.data.toList (contB s) f t with _ | x
  ·rw [hT] at HI HS
   unfold optV at HI HS
   replace HI := Lib.hid HI
   replace HS := Lib.hid HS
   replace hf := Lib.hid hf
   replace ht := Lib.hid ht
   clear hT
   have qkb0 := kb2.out.c 0 _ rfl
   have qkb1 := kb2.out.c 1 _ rfl
   have qkb2 := kb2.out.c 2 _ rfl
   go_wp2_with fail
   refine (HI.out _).mono ?_
   rintro e w3 ⟨rfl, hb3⟩
   have hW3 := Lib.hid (hW2.out.trans (hb3.mono hW2.out.size))
   have kb3 := Lib.hid (kb2.out.below hb3)
   clear hb3 hW2 kb2 qkb0 qkb1 qkb2
   have qkb0 := kb3.out.c 0 _ rfl
   have qkb1 := kb3.out.c 1 _ rfl
   have qkb2 := kb3.out.c 2 _ rfl
   go_wp2_with fail
   refine (HS.out _).mono ?_
   rintro e w4 ⟨rfl, hb4⟩
   have hW4 := Lib.hid (hW3.out.trans (hb4.mono hW3.out.size))
   have kb4 := Lib.hid (kb3.out.below hb4)
   clear hb4 hW3 kb3 qkb0 qkb1 qkb2
   go_wp2_with fail
   go_ret
   exact ⟨rfl, hW4.out⟩
  ·rw [hT] at HI HS
   obtain ⟨fn, tn, n1, z1, p, q, T, rfl, rfl, ht4, hf4, hp, hq, hpl, hp40, hTe, hTl, hz40, hql, s2, hin⟩ := keeps_law hT
   have HB := Lib.hid (fun W => implContainerBlocksYes s p n1 W hs10 hp hpl)
   have HC := Lib.hid (fun W => implContainerBlocksYes x q z1 W (by omega) hq hql)
   have HX := Lib.hid (fun W => implIndexOf s p n1 W hs10 hp hpl)
   have HT := fun W => implTouchedBlocks s fn tn p W hs10 (by omega) (by omega) hp
   rw [hTe, hTl] at HT
   unfold optV at HI HS
   simp only [Option.getD_some, Option.isSome_some] at HI HS
   replace HI := Lib.hid HI
   replace HS := Lib.hid HS
   replace HT := Lib.hid HT
   replace hin := Lib.hid hin
   clear hT hp hq hpl hTe hTl hql hf ht
   have qkb0 := kb2.out.c 0 _ rfl
   have qkb1 := kb2.out.c 1 _ rfl
   have qkb2 := kb2.out.c 2 _ rfl
   go_wp2_with fail
   refine (HI.out _).mono ?_
   rintro e w3 ⟨rfl, hb3⟩
   have hW3 := Lib.hid (hW2.out.trans (hb3.mono hW2.out.size))
   have kb3 := Lib.hid (kb2.out.below hb3)
   clear hb3 hW2 kb2 qkb0 qkb1 qkb2
   have qkb0 := kb3.out.c 0 _ rfl
   have qkb1 := kb3.out.c 1 _ rfl
   have qkb2 := kb3.out.c 2 _ rfl
   go_wp2_with fail
   refine (HS.out _).mono ?_
   rintro e w4 ⟨rfl, hb4⟩
   have hW4 := Lib.hid (hW3.out.trans (hb4.mono hW3.out.size))
   have kb4 := Lib.hid (kb3.out.below hb4)
   clear hb4 hW3 kb3 qkb0 qkb1 qkb2
   go_wp2_with fail
   refine (HB.out _).mono ?_
   rintro e w5 ⟨Ab, cb, rfl, ho5, hb5⟩
   have rb := Lib.hid (Row.of_own ho5)
   clear ho5
   have hW5 := Lib.hid (hW4.out.trans (hb5.mono hW4.out.size))
   have kb5 := Lib.hid (kb4.out.below hb5)
   clear hb5 hW4 kb4
   go_wp2_with fail
   refine (HC.out _).mono ?_
   rintro e w6 ⟨Ac, cc, rfl, ho6, hb6⟩
   replace rb := Lib.hid (Row.more (Row.below rb.out hb6 (Nat.le_refl _)) hb6.size)
   have rc := Lib.hid (Row.of_own ho6)
   clear ho6
   have hW6 := Lib.hid (hW5.out.trans (hb6.mono hW5.out.size))
   have kb6 := Lib.hid (kb5.out.below hb6)
   clear hb6 hW5 kb5
   go_wp2_with fail
   refine (HX.out _).mono ?_
   rintro e w7 ⟨Ax, cx, xs, rfl, hP, ho7, hb7⟩
   replace rb := Lib.hid (Row.more (Row.below rb.out hb7 (Nat.le_refl _)) hb7.size)
   replace rc := Lib.hid (Row.more (Row.below rc.out hb7 (Nat.le_refl _)) hb7.size)
   have rx := Lib.hid ho7
   replace hP := Lib.hid hP
   clear ho7
   have hW7 := Lib.hid (hW6.out.trans (hb7.mono hW6.out.size))
   have kb7 := Lib.hid (kb6.out.below hb7)
   clear hb7 hW6 kb6
   go_wp2_with fail
   refine (HT.out _).mono ?_
   rintro e w8 ⟨At, ct, nt, rfl, hnt, ho8, hb8⟩
   replace rb := Lib.hid (Row.more (Row.below rb.out hb8 (Nat.le_refl _)) hb8.size)
   replace rc := Lib.hid (Row.more (Row.below rc.out hb8 (Nat.le_refl _)) hb8.size)
   replace rx := Lib.hid (Row.more (Row.below rx.out hb8 (Nat.le_refl _)) hb8.size)
   replace hnt := hnt.symm
   subst hnt
   have rt := Lib.hid (Row.of_own ho8)
   clear ho8
   have hW8 := Lib.hid (hW7.out.trans (hb8.mono hW7.out.size))
   have kb8 := Lib.hid (kb7.out.below hb8)
   clear hb8 hW7 kb7
   go_wp2_with fail
   go_loopw [19] (fun v wr => ∃ j : Nat, v = .int .i64 (j : Int) ∧ j ≤ z1 ∧ Hid (Below w8.heap.size w8 wr)) (fun v _ => z1 - (intOf v).toNat)
   case atStart => exact ⟨0, rfl, Nat.zero_le _, Lib.hid (Below.refl _ _)⟩
   case round =>
    obtain ⟨j, rfl, hj2, hbel⟩ := hrel
    have hwz := hbel.out.size
    by_cases hlt : j < z1
    ·obtain ⟨u, a, ps, hu1, hu2, ha, hps, hps2, ha64, b, hb, hkeep⟩ := hin.out j hlt
     obtain ⟨g1, o1, rfl, hg1, t0⟩ := (rt.out.below hbel.out (Nat.le_refl _)).num hlt hu1
     obtain ⟨g2, o2, rfl, hg2, a0, a1, a2, a3⟩ := (rb.out.below hbel.out (Nat.le_refl _)).blk (num := a.num) (raw := a.raw) (size := a.size) (body := a.body) hu2 ha
     obtain ⟨g3, o3, rfl, hg3, b0, b1, b2, b3⟩ := (rc.out.below hbel.out (Nat.le_refl _)).blk (num := b.num) (raw := b.raw) (size := b.size) (body := b.body) hlt hb
     obtain ⟨g4, o4, rfl, hg4, p0⟩ := (rx.out.below hbel.out (Nat.le_refl _)).plc hP.out hu2 hps
     obtain ⟨an, ar, az, ab⟩ := a
     obtain ⟨bn, br, bz, bb⟩ := b
     change wr.cell? _ = some (.int .i64 (an : Int)) at a0
     change wr.cell? _ = some (.bool ar) at a1
     change wr.cell? _ = some (.int .i64 (az : Int)) at a2
     change wr.cell? _ = some (.string ab) at a3
     change wr.cell? _ = some (.int .i64 (bn : Int)) at b0
     change wr.cell? _ = some (.bool br) at b1
     change wr.cell? _ = some (.int .i64 (bz : Int)) at b2
     change wr.cell? _ = some (.string bb) at b3
     change az ≤ 64 at ha64
     change fn ≤ ps → ps + az ≤ tn → (⟨bn, br, bz, bb⟩ : Blk) = ⟨j, ar, az, ab⟩ at hkeep
     have i1 : (0 : Int) ≤ j := by omega
     have i2 : (j : Int) < z1 := by omega
     have i3 : (0 : Int) ≤ u := by omega
     have i4 : (u : Int) < n1 := by omega
     obtain ⟨pe, hpe⟩ : ∃ z : Nat, (ps : Int) + az = z := ⟨ps + az, by omega⟩
     have wpe : IntKind.i64.wrap (pe : Int) = pe := IntWalk.i64_in _ (by omega)
     have hbl5 := (Below.refl wr.heap.size wr).alloc (Nat.le_refl _) (.cells #[.int .i64 (an : Int), .bool ar, .int .i64 (az : Int), .string ab] 36)
     have hb5 := hbel.out.trans (hbl5.mono hwz)
     have X5 := KBn.start wr 36 [.int .i64 (an : Int), .bool ar, .int .i64 (az : Int), .string ab]
     change KBn (wr.alloc (.cells #[.int .i64 (an : Int), .bool ar, .int .i64 (az : Int), .string ab] 36)) _ _ at X5
     have t5 := (hbl5.cell (p := ⟨g1, o1 + j, none⟩) (by show g1 < _; omega)).trans t0
     have p5 := (hbl5.cell (p := ⟨g4, o4 + u * 2 + 1, none⟩) (by show g4 < _; omega)).trans p0
     have b05 := (hbl5.cell (p := ⟨g3, o3 + j * 4, none⟩) (by show g3 < _; omega)).trans b0
     have b15 := (hbl5.cell (p := ⟨g3, o3 + j * 4 + 1, none⟩) (by show g3 < _; omega)).trans b1
     have b25 := (hbl5.cell (p := ⟨g3, o3 + j * 4 + 2, none⟩) (by show g3 < _; omega)).trans b2
     have b35 := (hbl5.cell (p := ⟨g3, o3 + j * 4 + 3, none⟩) (by show g3 < _; omega)).trans b3
     replace hkeep := Lib.hid hkeep
     clear hbl5 hbel b0 b1 b2 b3 p0 ha hb hu1 hps
     go_upto_region 16 with (fail)
     obtain ⟨X, hX⟩ : ∃ X, wr.heap.size = X := ⟨_, rfl⟩
     obtain ⟨w5, hw5⟩ : ∃ W, wr.alloc (.cells #[.int .i64 (an : Int), .bool ar, .int .i64 (az : Int), .string ab] 36) = W := ⟨_, rfl⟩
     rw [hw5] at hb5 X5 t5 p5 b05 b15 b25 b35 ⊢
     rw [hX] at X5 hwz ⊢
     clear hw5 hX a0 a1 a2 a3 t0
     replace hb5 := Lib.hid hb5
     have y2 := X5.c 2 _ rfl
     by_cases h1 : fn ≤ ps
     ·have c1 : decide ((fn : Int) ≤ (ps : Int)) = true := decide_eq_true (by omega)
      have c1' : decide (fn ≤ ps) = true := decide_eq_true h1
      by_cases h2 : pe ≤ tn
      ·have c2 : decide ((pe : Int) ≤ (tn : Int)) = true := decide_eq_true (by omega)
       have c2' : decide (pe ≤ tn) = true := decide_eq_true h2
       have hk := hkeep.out h1 (by omega)
       injection hk with k0 k1 k2 k3
       replace k0 := k0.symm
       replace k1 := k1.symm
       replace k2 := k2.symm
       replace k3 := k3.symm
       subst k0 k1 k2 k3
       replace X5 := Lib.hid X5
       clear h1 h2
       go_quiet (fail)
       obtain ⟨w6, hw6⟩ : ∃ W, w5.drewN nq = W := ⟨_, rfl⟩
       have b6 : w6.cell? ⟨g3, o3 + j * 4, none⟩ = some (.int .i64 (j : Int)) := by rw [← hw6]; exact b05
       have b61 : w6.cell? ⟨g3, o3 + j * 4 + 1, none⟩ = some (.bool ar) := by rw [← hw6]; exact b15
       have b62 : w6.cell? ⟨g3, o3 + j * 4 + 2, none⟩ = some (.int .i64 (az : Int)) := by rw [← hw6]; exact b25
       have b63 : w6.cell? ⟨g3, o3 + j * 4 + 3, none⟩ = some (.string ab) := by rw [← hw6]; exact b35
       have X6 : KBn w6 X [.int .i64 (an : Int), .bool ar, .int .i64 (az : Int), .string ab] := by rw [← hw6]; exact X5.out.below (below_drewN (Below.refl _ _) _)
       have hb6 : Below w8.heap.size w8 w6 := by rw [← hw6]; exact below_drewN hb5.out _
       rw [hw6]
       clear hw6 b05 b15 b25 b35 t5 p5 y2 X5 hb5
       have z0 := X6.c 0 _ rfl
       have f0 := X6.f 0 _ rfl
       have X7 := X6.set (j := 0) rfl (.int .i64 (j : Int))
       change KBn _ _ [.int .i64 (j : Int), .bool ar, .int .i64 (az : Int), .string ab] at X7
       have hb7 := hb6.setCell (p := ⟨X, 0, none⟩) hwz (.int .i64 (j : Int))
       have q0 := (World.cell?_setCell_other w6 ⟨X, 0, none⟩ ⟨g3, o3 + j * 4, none⟩ (.int .i64 (j : Int)) (fun e => by injection e; omega)).trans b6
       have q1 := (World.cell?_setCell_other w6 ⟨X, 0, none⟩ ⟨g3, o3 + j * 4 + 1, none⟩ (.int .i64 (j : Int)) (fun e => by injection e; omega)).trans b61
       have q2 := (World.cell?_setCell_other w6 ⟨X, 0, none⟩ ⟨g3, o3 + j * 4 + 2, none⟩ (.int .i64 (j : Int)) (fun e => by injection e; omega)).trans b62
       have q3 := (World.cell?_setCell_other w6 ⟨X, 0, none⟩ ⟨g3, o3 + j * 4 + 3, none⟩ (.int .i64 (j : Int)) (fun e => by injection e; omega)).trans b63
       clear X6 hb6 b6 b61 b62 b63
       go_upto_region 18 with (fail)
       obtain ⟨w7, hw7⟩ : ∃ W, w6.setCell ⟨X, 0, none⟩ (.int .i64 (j : Int)) = W := ⟨_, rfl⟩
       rw [hw7] at X7 hb7 q0 q1 q2 q3 ⊢
       clear hw7 z0 f0
       replace hb7 := Lib.hid hb7
       have z0 := X7.c 0 _ rfl
       have z1' := X7.c 1 _ rfl
       have z2 := X7.c 2 _ rfl
       have z3 := X7.c 3 _ rfl
       clear X7
       go_quiet (fail)
       go_wp2_with fail
       go_roundw
       case rel => exact ⟨j + 1, by go_num, by omega, Lib.hid (below_drewN hb7.out _)⟩
       case measure => simp [intOf]; omega
      ·have c2 : decide ((pe : Int) ≤ (tn : Int)) = false := decide_eq_false (by omega)
       have c2' : decide (pe ≤ tn) = false := decide_eq_false h2
       replace X5 := Lib.hid X5
       clear h1 h2
       go_quiet (fail)
       obtain ⟨w6, hw6⟩ : ∃ W, w5.drewN nq = W := ⟨_, rfl⟩
       have b6 : w6.cell? ⟨g3, o3 + j * 4, none⟩ = some (.int .i64 (bn : Int)) := by rw [← hw6]; exact b05
       have b61 : w6.cell? ⟨g3, o3 + j * 4 + 1, none⟩ = some (.bool br) := by rw [← hw6]; exact b15
       have b62 : w6.cell? ⟨g3, o3 + j * 4 + 2, none⟩ = some (.int .i64 (bz : Int)) := by rw [← hw6]; exact b25
       have b63 : w6.cell? ⟨g3, o3 + j * 4 + 3, none⟩ = some (.string bb) := by rw [← hw6]; exact b35
       have X6 : KBn w6 X [.int .i64 (an : Int), .bool ar, .int .i64 (az : Int), .string ab] := by rw [← hw6]; exact X5.out.below (below_drewN (Below.refl _ _) _)
       have hb6 : Below w8.heap.size w8 w6 := by rw [← hw6]; exact below_drewN hb5.out _
       rw [hw6]
       clear hw6 b05 b15 b25 b35 t5 p5 y2 X5 hb5
       have z0 := X6.c 0 _ rfl
       have f0 := X6.f 0 _ rfl
       have X7 := X6.set (j := 0) rfl (.int .i64 (j : Int))
       change KBn _ _ [.int .i64 (j : Int), .bool ar, .int .i64 (az : Int), .string ab] at X7
       have hb7 := hb6.setCell (p := ⟨X, 0, none⟩) hwz (.int .i64 (j : Int))
       clear X6 hb6 b6 b61 b62 b63 X7
       go_upto_region 18 with (fail)
       obtain ⟨w7, hw7⟩ : ∃ W, w6.setCell ⟨X, 0, none⟩ (.int .i64 (j : Int)) = W := ⟨_, rfl⟩
       rw [hw7] at hb7 ⊢
       clear hw7 z0 f0
       replace hb7 := Lib.hid hb7
       go_quiet (fail)
       go_wp2_with fail
       go_roundw
       case rel => exact ⟨j + 1, by go_num, by omega, Lib.hid (below_drewN hb7.out _)⟩
       case measure => simp [intOf]; omega
     ·have c1 : decide ((fn : Int) ≤ (ps : Int)) = false := decide_eq_false (by omega)
      have c1' : decide (fn ≤ ps) = false := decide_eq_false h1
      replace X5 := Lib.hid X5
      clear h1
      go_quiet (fail)
      obtain ⟨w6, hw6⟩ : ∃ W, w5.drewN nq = W := ⟨_, rfl⟩
      have b6 : w6.cell? ⟨g3, o3 + j * 4, none⟩ = some (.int .i64 (bn : Int)) := by rw [← hw6]; exact b05
      have b61 : w6.cell? ⟨g3, o3 + j * 4 + 1, none⟩ = some (.bool br) := by rw [← hw6]; exact b15
      have b62 : w6.cell? ⟨g3, o3 + j * 4 + 2, none⟩ = some (.int .i64 (bz : Int)) := by rw [← hw6]; exact b25
      have b63 : w6.cell? ⟨g3, o3 + j * 4 + 3, none⟩ = some (.string bb) := by rw [← hw6]; exact b35
      have X6 : KBn w6 X [.int .i64 (an : Int), .bool ar, .int .i64 (az : Int), .string ab] := by rw [← hw6]; exact X5.out.below (below_drewN (Below.refl _ _) _)
      have hb6 : Below w8.heap.size w8 w6 := by rw [← hw6]; exact below_drewN hb5.out _
      rw [hw6]
      clear hw6 b05 b15 b25 b35 t5 p5 y2 X5 hb5
      have z0 := X6.c 0 _ rfl
      have f0 := X6.f 0 _ rfl
      have X7 := X6.set (j := 0) rfl (.int .i64 (j : Int))
      change KBn _ _ [.int .i64 (j : Int), .bool ar, .int .i64 (az : Int), .string ab] at X7
      have hb7 := hb6.setCell (p := ⟨X, 0, none⟩) hwz (.int .i64 (j : Int))
      clear X6 hb6 b6 b61 b62 b63 X7
      go_upto_region 18 with (fail)
      obtain ⟨w7, hw7⟩ : ∃ W, w6.setCell ⟨X, 0, none⟩ (.int .i64 (j : Int)) = W := ⟨_, rfl⟩
      rw [hw7] at hb7 ⊢
      clear hw7 z0 f0
      replace hb7 := Lib.hid hb7
      go_quiet (fail)
      go_wp2_with fail
      go_roundw
      case rel => exact ⟨j + 1, by go_num, by omega, Lib.hid (below_drewN hb7.out _)⟩
      case measure => simp [intOf]; omega
    ·have hji : ¬ ((j : Int) < z1) := by omega
     have hjz : j = z1 := by omega
     have hW9 := Lib.hid (hW8.out.trans (hbel.out.mono hW8.out.size))
     clear hbel rb rc rx rt hP
     go_wp2_with fail
     go_ret
     exact ⟨rfl, hW9.out⟩
 ·have gn := decide_eq_true (p := (1048576 : Int) < n) (by omega)
  have gn2 := decide_eq_true (p := 1048576 < n) (by omega)
  clear h
  go_enter Tryz.func5, Tryz.ntmps5
  go_wp2_with fail
  go_ret
  exact ⟨rfl, Below.refl _ _⟩

end Go.Proofs.YthlgpgaeajfchaaGreat
