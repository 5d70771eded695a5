/-
 The program's MergeBlocks.
-/
import Derived.Test.YthlgpgaeajfchaaGreatQMergeP
import Derived.Test.YthlgpgaeajfchaaGreatQEditP
import Derived.Test.YthlgpgaeajfchaaGreatQImplUnp
import Derived.Test.YthlgpgaeajfchaaGreatQImplMake
import Derived.Test.YthlgpgaeajfchaaGreatQTreeMem

namespace Go.Proofs.YthlgpgaeajfchaaGreat
open Go.RowKit
set_option linter.unusedVariables false
set_option linter.unusedSimpArgs false
set_option maxRecDepth 100000

theorem own_setBlk {w : World} {base n c g j : Nat} {e : TypeId} {A : Option Addr} {rows : List Blk} (h : w.ownsRow base e 4 (.slice A n c) n (cellsB rows)) (hA : A = some ⟨g, 0, none⟩) (hj : j < rows.length) (b : Blk) {x : Nat} {r : Bool} {y : Nat} {t : ByteArray} (h0 : b.num = x) (h1 : b.raw = r) (h2 : b.size = y) (h3 : b.body = t) :
  ((((w.setCell ⟨g, j * 4, none⟩ (.int .i64 (x : Int))).setCell ⟨g, j * 4 + 1, none⟩ (.bool r)).setCell ⟨g, j * 4 + 2, none⟩ (.int .i64 (y : Int))).setCell ⟨g, j * 4 + 3, none⟩ (.string t)).ownsRow base e 4 (.slice A n c) n (cellsB (rows.set j b)) := by
 subst h0 h1 h2 h3
 rw [← cellsB_setBlk b rows j hj]
 exact own_set (own_set (own_set (own_set h hA _) hA _) hA _) hA _

set_option maxHeartbeats 4000000 in
theorem implMergeBlocks (o l m : Int) (d s : ByteArray) (size : Int) (w : World) (hd : d.size ≤ 1048576) (hs : s.size ≤ 1048576) :
  Calls Tryz.prog 20 #[.agg #[.int .i64 o, .int .i64 l, .int .i64 m], .string d, .string s, .int .i64 size] w fun e w' => e = .returned (optV (mergeC o l m d.data.toList (contB s) size)) ∧ Below w.heap.size w w' := by
 have hW0 := Lib.hid ((Below.refl w.heap.size w).alloc (Nat.le_refl _) (.cells #[.int .i64 o, .int .i64 l, .int .i64 m] 24))
 by_cases hyn : ¬ dfits o l m d.data.toList ∨ contB s = none
 ·have HS := Lib.hid (fun W => implStartEditOff o l m d s W hd hs hyn)
  have hA : mergeC o l m d.data.toList (contB s) size = none := mergeC_no (hyn.imp (fun h hh => h hh.1) id)
  rw [hA]
  clear hyn hA
  go_enter Tryz.func20, Tryz.ntmps20
  go_wp2_with fail
  refine (HS.out _).mono ?_
  rintro e w1 ⟨rfl, hb1⟩
  have hW1 := Lib.hid ((hW0.out.trans (hb1.mono hW0.out.size)).alloc (hW0.out.trans (hb1.mono hW0.out.size)).size (.cells #[.int .i64 0, .int .i64 0, .int .i64 0, .slice none 0 0, .int .i64 0, .int .i64 0] 74))
  clear hb1 hW0
  go_wp2_with fail
  go_ret2
  exact ⟨rfl, hW1.out⟩
 ·have hf : dfits o l m d.data.toList := Classical.byContradiction (fun h => hyn (Or.inl h))
  obtain ⟨bs, hbs⟩ := Option.ne_none_iff_exists'.1 (fun h => hyn (Or.inr h))
  rw [hbs]
  obtain ⟨n, hn⟩ : ∃ n, bs.length = n := ⟨_, rfl⟩
  have hnum := contB_numbered hbs
  have hn40 := hnum.length
  rw [hn] at hn40
  have hok : ∀ b ∈ bs, b.okb := fun b hb => Blk.okb_of (hnum.of_mem hb)
  obtain ⟨on, rfl⟩ : ∃ n : Nat, o = n := ⟨o.toNat, by have := hf.1.1; omega⟩
  obtain ⟨ln, rfl⟩ : ∃ n : Nat, l = n := ⟨l.toNat, by have := hf.1.2.1; omega⟩
  obtain ⟨mn, rfl⟩ : ∃ n : Nat, m = n := ⟨m.toNat, by have := hf.1.2; omega⟩
  have HS := fun W => implStartEditFar on ln mn n d.data.toList s bs W hf hs hbs hn
  have hbd : bsL d.data.toList = d := rfl
  simp only [hbd] at HS
  have hfr := (Kn.dict_fresh hf).1
  by_cases hsz : 1 ≤ size ∧ size ≤ 64
  ·obtain ⟨sz, rfl⟩ : ∃ n : Nat, size = n := ⟨size.toNat, by omega⟩
   have HV := Lib.hid (fun W => implSizeValid (sz : Int) true W (btrue hsz))
   have hA := mergeC_yes (bs := bs) hf hsz
   rw [hA]
   have hkd : kdict on ln mn d.data.toList = Kn.dict on ln mn d.data.toList := rfl
   rw [hkd]
   obtain ⟨k, hk⟩ : ∃ k, Kn.dict on ln mn d.data.toList = k := ⟨_, rfl⟩
   rw [hk] at HS hfr ⊢
   have hval := Kn.val_eq k
   have ez : ((sz : Int)).toNat = sz := rfl
   rw [ez]
   obtain ⟨u, hu⟩ : ∃ u, k.merge sz bs = u := ⟨_, rfl⟩
   rw [hu]
   have hkv := hfr.val
   have HD := fun (A : Option Addr) (c B : Nat) (b : Blk) (hb : b.okb) (W : World) (hA : k.At W B A) (hB : B ≤ W.heap.size) => implBlockData k A c B b W hfr hA hB hb
   have HK := fun (A : Option Addr) (c B : Nat) (L : List UInt8) (hL : L.length ≤ 100000) (W : World) (hA : k.At W B A) (hB : B ≤ W.heap.size) => implMakeBlock k A c B L W hfr hA hB hL
   have HM : Hid (∀ r, u = some r → ∀ A c W N, N = r.length → Row W W.heap.size 4 A N (cellsB r) → Calls Tryz.prog 58 #[.slice A N c] W fun e w' => e = .returned (optV (mkC r)) ∧ Below W.heap.size W w') := Lib.hid (fun r e A c W N hN hr => by
    rcases hdat : k.datas bs with _ | D
    ·rw [← hu, merge_none hdat] at e; cases e
    ·obtain ⟨r', h1, _, h3, h4, _⟩ := merge_ok hkv (size := sz) (by omega) hok hdat
     rw [← hu, h1] at e
     injection e with e
     subst e
     have h5 := szs_le64 h3
     exact implMakeContainer A N c W.heap.size r' W hr (Nat.le_refl _) (by omega) (by omega) h3)
   simp only [hval] at HS HD HK
   have hs64 : sz ≤ 64 := by omega
   replace HS := Lib.hid HS
   replace HD := Lib.hid HD
   replace HK := Lib.hid HK
   replace hu := Lib.hid hu
   replace hkv := Lib.hid hkv
   replace hok := Lib.hid hok
   have hlen := Lib.hid hn
   clear hk hA hbd hval hf hfr hbs hnum hyn hsz hkd ez hn
   go_enter Tryz.func20, Tryz.ntmps20
   go_wp2_with fail
   refine (HS.out _).mono ?_
   rintro e w2 ⟨Ak, ck, Ab, cb, B, rfl, hat, hcp, hfar, ho2, hB2, hb2⟩
   have hal := (Below.refl w2.heap.size w2).alloc (Nat.le_refl _) (.cells #[.int .i64 (k.o : Int), .int .i64 (k.l : Int), .int .i64 (k.m : Int), .slice Ak k.ps.length ck, .int .i64 (k.base : Int), .int .i64 k.lastI] 74)
   have hr3 := Lib.hid (Row.more (Row.below (Row.of_own ho2) hal (Nat.le_refl _)) hal.size)
   have hA3 := Lib.hid (show k.At _ _ Ak from Row.more (Row.below hat hal (Nat.le_refl _)) hal.size)
   have kb3 := Lib.hid (KBn.start w2 74 [.int .i64 (k.o : Int), .int .i64 (k.l : Int), .int .i64 (k.m : Int), .slice Ak k.ps.length ck, .int .i64 (k.base : Int), .int .i64 k.lastI])
   have hW3 := Lib.hid ((hW0.out.trans (hb2.mono hW0.out.size)).trans (hal.mono (hW0.out.trans (hb2.mono hW0.out.size)).size))
   clear hat hcp hfar ho2 hB2 hb2 hal
   go_upto_region 2 with (fail)
   obtain ⟨G, hG⟩ : ∃ G, w2.heap.size = G := ⟨_, rfl⟩
   obtain ⟨w3, hw3⟩ : ∃ W, w2.alloc (.cells #[.int .i64 (k.o : Int), .int .i64 (k.l : Int), .int .i64 (k.m : Int), .slice Ak k.ps.length ck, .int .i64 (k.base : Int), .int .i64 k.lastI] 74) = W := ⟨_, rfl⟩
   rw [hw3] at hr3 hA3 kb3 hW3 ⊢
   rw [hG] at kb3 ⊢
   clear hw3 hG
   go_wp2_with fail
   refine (HV.out _).mono ?_
   rintro e w3' ⟨rfl, rfl⟩
   have hO0 : Hid (w3.ownsRow w3.heap.size 36 4 (.slice none 0 0) 0 (cellsB [])) := Lib.hid ⟨rfl, Or.inl ⟨rfl, rfl⟩⟩
   have hR0 := Lib.hid (Below.refl w3.heap.size w3)
   have hM0 := Lib.hid (MgAt.start k sz bs)
   go_wp2_with fail
   go_loopw [13, 14, 37] (fun v q i wr => ∃ (A' : Option Addr) (c' j mm : Nat) (acc : List Blk) (D : List UInt8), v = .slice A' mm c' ∧ q = .string (bsL D) ∧ i = .int .i64 (j : Int) ∧ j ≤ n ∧ mm ≤ j ∧ Hid (acc.length = mm) ∧ Hid (MgAt k sz bs j acc D) ∧ Hid (wr.ownsRow w3.heap.size 36 4 (.slice A' mm c') mm (cellsB acc)) ∧ Hid (Below w3.heap.size w3 wr)) (fun _ _ i _ => n - (intOf i).toNat)
   case atStart => exact ⟨_, _, 0, 0, [], [], rfl, rfl, rfl, Nat.zero_le _, Nat.le_refl _, Lib.hid rfl, hM0, hO0, hR0⟩
   case round =>
    obtain ⟨A', c', j, mm, acc, D, rfl, rfl, rfl, hj, hmj, hal, hmg, hO, hbel⟩ := hrel
    clear hO0 hR0 hM0
    have hwz := hbel.out.size
    by_cases hlt : j < n
    ·obtain ⟨b, hb⟩ : ∃ b, bs[j]? = some b := ⟨_, List.getElem?_eq_getElem (by rw [hlen.out]; exact hlt)⟩
     obtain ⟨g, off, rfl, hg, p0, p1, p2', p3⟩ := (hr3.out.below hbel.out (Nat.le_refl _)).blk (num := b.num) (raw := b.raw) (size := b.size) (body := b.body) hlt hb
     have hob := hok.out b (List.mem_of_getElem? hb)
     have hbv : b.val = .agg #[.int .i64 b.num, .bool b.raw, .int .i64 b.size, .string b.body] := rfl
     have hAt : ∀ W, Below wr.heap.size wr W → k.At W w3.heap.size Ak := fun W hW => Row.below hA3.out (hbel.out.trans (hW.mono hwz)) (Nat.le_refl _)
     have hDb := fun (W : World) (hW : Below wr.heap.size wr W) => HD.out Ak ck w3.heap.size b hob W (hAt W hW) (Nat.le_trans hwz hW.size)
     have hKb := Lib.hid (fun (L : List UInt8) (hL : L.length ≤ 100000) (W : World) (hW : Below wr.heap.size wr W) => HK.out Ak ck w3.heap.size L hL W (hAt W hW) (Nat.le_trans hwz hW.size))
     rw [hbv] at hDb
     obtain ⟨x0, hx0⟩ : ∃ x : Nat, b.num = x := ⟨_, rfl⟩
     obtain ⟨x1, hx1⟩ : ∃ x, b.raw = x := ⟨_, rfl⟩
     obtain ⟨x2, hx2⟩ : ∃ x : Nat, b.size = x := ⟨_, rfl⟩
     obtain ⟨x3, hx3⟩ : ∃ x, b.body = x := ⟨_, rfl⟩
     simp only [hx0, hx1, hx2, hx3] at hDb
     rw [hx0] at p0
     rw [hx1] at p1
     rw [hx2] at p2'
     rw [hx3] at p3
     have hcb : Hid (cellsB (acc ++ [b]) = cellsB acc ++ [.int .i64 (x0 : Int), .bool x1, .int .i64 (x2 : Int), .string x3]) := Lib.hid (by rw [cellsB_append, cellsB_one, ← hx0, ← hx1, ← hx2, ← hx3]; rfl)
     have hDl64 := MgAt.le hmg.out
     have hEl : ∀ E, k.blockData b = some E → E.length ≤ 64 := fun E hE => by have := Kn.blockData_size hob hE; have := hob.2.1; omega
     have hMore : Hid (∀ E, k.blockData b = some E → acc = [] ∨ sz < D.length + E.length → MgAt k sz bs (j + 1) (acc ++ [b]) E) := Lib.hid (fun E hE hno => hmg.out.more hb hob hE hno)
     have hJoin : Hid (∀ E, k.blockData b = some E → acc ≠ [] → D.length + E.length ≤ sz → MgAt k sz bs (j + 1) (acc.set (acc.length - 1) (k.block (D ++ E))) (D ++ E)) := Lib.hid (fun E hE hne hy => hmg.out.join hkv.out hs64 hb hob hE hne hy)
     have hBad : Hid (k.blockData b = none → u = none) := Lib.hid (fun hE => by rw [← hu.out]; exact hmg.out.bad hb hE)
     have hj0 : (0 : Int) ≤ j := by omega
     have hji : (j : Int) < n := by omega
     have hbl5 := (Below.refl wr.heap.size wr).alloc (Nat.le_refl _) (.cells #[.int .i64 (x0 : Int), .bool x1, .int .i64 (x2 : Int), .string x3] 36)
     have hb5 := Lib.hid hbl5
     have X5 := Lib.hid (KBn.start wr 36 [.int .i64 (x0 : Int), .bool x1, .int .i64 (x2 : Int), .string x3])
     have hAll : Hid (∀ W, Below wr.heap.size wr W → W.ownsRow w3.heap.size 36 4 (.slice A' mm c') mm (cellsB acc) ∧ KBn W G [.int .i64 (k.o : Int), .int .i64 (k.l : Int), .int .i64 (k.m : Int), .slice Ak k.ps.length ck, .int .i64 (k.base : Int), .int .i64 k.lastI] ∧ Below w3.heap.size w3 W) := Lib.hid (fun W hW => ⟨own_below hO.out hW (Nat.le_refl _), kb3.out.below (hbel.out.trans (hW.mono hwz)), hbel.out.trans (hW.mono hwz)⟩)
     obtain ⟨bo, hbo⟩ : ∃ x, k.blockData b = x := ⟨_, rfl⟩
     rw [hbo] at hDb hEl
     simp only [hbo] at hMore hJoin hBad
     replace hDb := Lib.hid hDb
     go_upto_region 9 with (fail)
     obtain ⟨X, hX⟩ : ∃ X, wr.heap.size = X := ⟨_, rfl⟩
     obtain ⟨w5, hw5⟩ : ∃ W, wr.alloc (.cells #[.int .i64 (x0 : Int), .bool x1, .int .i64 (x2 : Int), .string x3] 36) = W := ⟨_, rfl⟩
     rw [hw5] at hb5 X5 ⊢
     rw [hX] at X5 hb5 hAll hwz hDb hKb ⊢
     clear hw5 hX p0 p1 p2' p3 hbl5 hO hbel hAt hbv hx0 hx1 hx2 hx3 hb hob hmg hbo
     have y0 := X5.out.c 0 _ rfl
     have y1 := X5.out.c 1 _ rfl
     have y2 := X5.out.c 2 _ rfl
     have y3 := X5.out.c 3 _ rfl
     obtain ⟨oo5, K5, bb5⟩ := hAll.out _ hb5.out
     have q0 := K5.c 0 _ rfl
     have q1 := K5.c 1 _ rfl
     have q2 := K5.c 2 _ rfl
     have q3 := K5.c 3 _ rfl
     have q4 := K5.c 4 _ rfl
     have q5 := K5.c 5 _ rfl
     clear oo5 bb5 K5
     go_wp2_with fail
     refine (hDb.out w5 hb5.out).mono ?_
     rintro e w6 ⟨rfl, hb6⟩
     have hX6 := X5.out.lt
     have hz6 := hb6.size
     have hb6x := Lib.hid (hb5.out.trans (hb6.mono (Nat.le_of_lt hX6)))
     have X6 := Lib.hid (X5.out.below hb6)
     clear q0 q1 q2 q3 q4 q5 y0 y1 y2 y3 hDb hb6 X5 hb5
     obtain ⟨oo6, K6, bb6⟩ := hAll.out _ hb6x.out
     have q0 := K6.c 0 _ rfl
     have q1 := K6.c 1 _ rfl
     have q2 := K6.c 2 _ rfl
     have q3 := K6.c 3 _ rfl
     have q4 := K6.c 4 _ rfl
     have q5 := K6.c 5 _ rfl
     have O6 := Lib.hid oo6
     have b6 := Lib.hid bb6
     clear oo6 bb6 K6
     rcases bo with _ | E
     ·have hno := Lib.hid (hBad.out rfl)
      clear hBad hMore hJoin hEl
      simp only [Option.getD_none, Option.isSome_none]
      go_wp2_with fail
      go_ret2
      exact ⟨by rw [hno.out]; rfl, (hW3.out.trans (b6.out.mono hW3.out.size))⟩
     ·have hE64 := hEl E rfl
      simp only [Option.getD_some, Option.isSome_some]
      obtain ⟨S0, hS0⟩ : ∃ S, bsL D = S := ⟨_, rfl⟩
      obtain ⟨R, hR⟩ : ∃ R, bsL E = R := ⟨_, rfl⟩
      obtain ⟨dl, hdl⟩ : ∃ z, S0.size = z := ⟨_, rfl⟩
      obtain ⟨el, hel⟩ : ∃ z, R.size = z := ⟨_, rfl⟩
      have hdD : D.length = dl := by rw [← hdl, ← hS0]; simp [bsL, ByteArray.size]
      have heE : E.length = el := by rw [← hel, ← hR]; simp [bsL, ByteArray.size]
      have hSR : Hid (S0 ++ R = bsL (D ++ E)) := Lib.hid (by rw [← hS0, ← hR, bsL_append])
      have sl : (dl : Int) + el = ((dl + el : Nat) : Int) := by omega
      obtain ⟨tt, htt⟩ : ∃ z, dl + el = z := ⟨_, rfl⟩
      rw [htt] at sl
      have wtt : IntKind.i64.wrap (tt : Int) = tt := IntWalk.i64_in _ (by omega)
      have hcat : S0.size + R.size ≤ 128 := by omega
      rw [hS0, hR]
      have hS0' := Lib.hid hS0
      have hR' := Lib.hid hR
      have hal' := hal.out
      have hcond : (acc = [] ∨ sz < D.length + E.length) ↔ ¬ (0 < mm ∧ tt ≤ sz) := by
       rw [hdD, heE, htt]
       constructor
       ·rintro (h1 | h1) h2
        ·subst h1; simp at hal'; omega
        ·omega
       ·intro h1
        rcases Nat.eq_zero_or_pos mm with h2 | h2
        ·exact Or.inl (List.eq_nil_of_length_eq_zero (by omega))
        ·exact Or.inr (by omega)
      by_cases hc : 0 < mm ∧ tt ≤ sz
      ·obtain ⟨hm0, hts⟩ := hc
       have hMg := Lib.hid (hJoin.out E rfl (fun e => by rw [e] at hal'; simp at hal'; omega) (by rw [hdD, heE, htt]; exact hts))
       have g1 : decide ((0 : Int) < (mm : Int)) = true := decide_eq_true (by omega)
       have g2 : decide (0 < mm) = true := decide_eq_true hm0
       have g3 : decide ((tt : Int) ≤ (sz : Int)) = true := decide_eq_true (by omega)
       have g4 : decide (tt ≤ sz) = true := decide_eq_true hts
       obtain ⟨m1, hm1⟩ : ∃ z, z + 1 = mm := ⟨mm - 1, by omega⟩
       have e1 : (mm : Int) - 1 = m1 := by omega
       have hT := Lib.hid (hKb.out (D ++ E) (by rw [List.length_append]; omega))
       obtain ⟨g2', hA2, hgb, hglt, hmc, hcell, hfz⟩ := own_place O6.out (by omega)
       subst hA2
       obtain ⟨pb, hpb⟩ : ∃ pb, k.block (D ++ E) = pb := ⟨_, rfl⟩
       rw [hpb] at hMg
       have hpv : pb.val = .agg #[.int .i64 pb.num, .bool pb.raw, .int .i64 pb.size, .string pb.body] := rfl
       obtain ⟨z0, hz0⟩ : ∃ x : Nat, pb.num = x := ⟨_, rfl⟩
       obtain ⟨z1, hz1⟩ : ∃ x, pb.raw = x := ⟨_, rfl⟩
       obtain ⟨z2, hz2⟩ : ∃ x : Nat, pb.size = x := ⟨_, rfl⟩
       obtain ⟨z3, hz3⟩ : ∃ x, pb.body = x := ⟨_, rfl⟩
       have hT2 : Hid (∀ (W : World), Below X wr W → Calls Tryz.prog 62 #[.agg #[.int .i64 (k.o : Int), .int .i64 (k.l : Int), .int .i64 (k.m : Int), .slice Ak k.ps.length ck, .int .i64 (k.base : Int), .int .i64 k.lastI], .string (S0 ++ R)] W fun e w' => e = .returned (.agg #[.int .i64 (z0 : Int), .bool z1, .int .i64 (z2 : Int), .string z3]) ∧ Below W.heap.size W w') := Lib.hid (fun W hb => by
        have := hT.out W hb
        rw [← hSR.out, hpb, hpv, hz0, hz1, hz2, hz3] at this
        exact this)
       have hset : Hid (∀ W : World, Below X wr W → ((((W.setCell ⟨g2', m1 * 4, none⟩ (.int .i64 (z0 : Int))).setCell ⟨g2', m1 * 4 + 1, none⟩ (.bool z1)).setCell ⟨g2', m1 * 4 + 2, none⟩ (.int .i64 (z2 : Int))).setCell ⟨g2', m1 * 4 + 3, none⟩ (.string z3)).ownsRow w3.heap.size 36 4 (.slice (some ⟨g2', 0, none⟩) mm c') mm (cellsB (acc.set (acc.length - 1) pb))) := Lib.hid (fun W hb => by
        rw [hal', show mm - 1 = m1 by omega]
        exact own_setBlk (hAll.out W hb).1 rfl (by omega) pb hz0 hz1 hz2 hz3)
       have hal2 : Hid ((acc.set (acc.length - 1) pb).length = mm) := Lib.hid (by rw [List.length_set]; exact hal')
       have hbs2 : Hid (∀ W : World, Below X wr W → Below w3.heap.size w3 ((((W.setCell ⟨g2', m1 * 4, none⟩ (.int .i64 (z0 : Int))).setCell ⟨g2', m1 * 4 + 1, none⟩ (.bool z1)).setCell ⟨g2', m1 * 4 + 2, none⟩ (.int .i64 (z2 : Int))).setCell ⟨g2', m1 * 4 + 3, none⟩ (.string z3))) := Lib.hid (fun W hb => by
        have h0 := (hAll.out W hb).2.2
        exact (((h0.setCell (p := ⟨g2', m1 * 4, none⟩) hgb _).setCell (p := ⟨g2', m1 * 4 + 1, none⟩) hgb _).setCell (p := ⟨g2', m1 * 4 + 2, none⟩) hgb _).setCell (p := ⟨g2', m1 * 4 + 3, none⟩) hgb _)
       have hfr : Hid (∀ W : World, Below X wr W → ∀ i, i < 4 → W.frozen? ⟨g2', m1 * 4 + i, none⟩ = false ∧ ∃ v, W.cell? ⟨g2', m1 * 4 + i, none⟩ = some v) := Lib.hid (fun W hb i hi => by
        obtain ⟨g3, hA3, _, _, _, hc3, hf3⟩ := own_place (hAll.out W hb).1 (by omega)
        injection hA3 with hA3
        injection hA3 with hA3
        subst hA3
        have hm1l : m1 < acc.length := by omega
        exact ⟨hf3 _, _, hc3 _ _ ((cellsB_get acc m1 i _ (List.getElem?_eq_getElem hm1l) hi).trans (List.getElem?_eq_getElem (by show i < 4; exact hi)))⟩)
       have jm0 : (0 : Int) ≤ m1 := by omega
       have jm1 : (m1 : Int) < mm := by omega
       have hD2 : Hid (S0 ++ R = bsL (D ++ E)) := hSR
       replace hmc := Lib.hid hmc
       clear hBad hMore hJoin hEl hT hKb hcond hcell hfz hpb hpv hz0 hz1 hz2 hz3 hS0 hR hdD heE hal' htt hm1 X6 hcb
       clear O6 b6
       go_wp2_with fail
       refine (hT2.out w6 hb6x.out).mono ?_
       rintro e w7 ⟨rfl, hb7⟩
       have hb7x := Lib.hid (hb6x.out.trans (hb7.mono (Nat.le_trans (Nat.le_of_lt hX6) hz6)))
       clear hb7 q0 q1 q2 q3 q4 q5
       have f0 := (hfr.out w7 hb7x.out 0 (by omega)).1
       have f1 := (hfr.out w7 hb7x.out 1 (by omega)).1
       have f2 := (hfr.out w7 hb7x.out 2 (by omega)).1
       have f3 := (hfr.out w7 hb7x.out 3 (by omega)).1
       obtain ⟨v0, y0⟩ := (hfr.out w7 hb7x.out 0 (by omega)).2
       obtain ⟨v1, y1⟩ := (hfr.out w7 hb7x.out 1 (by omega)).2
       obtain ⟨v2, y2⟩ := (hfr.out w7 hb7x.out 2 (by omega)).2
       obtain ⟨v3, y3⟩ := (hfr.out w7 hb7x.out 3 (by omega)).2
       rw [Nat.add_zero] at f0 y0
       have hOe := Lib.hid (hset.out w7 hb7x.out)
       have hbE := Lib.hid (hbs2.out w7 hb7x.out)
       clear hT2 hfr hset hbs2
       go_wp2_with fail
       go_roundw
       case rel => exact ⟨some ⟨g2', 0, none⟩, c', j + 1, mm, _, D ++ E, rfl, by rw [hD2.out], rfl, by omega, by omega, hal2, hMg, hOe, hbE⟩
       case measure => simp [intOf]; omega
      ·have hMg := Lib.hid (hMore.out E rfl (hcond.2 hc))
       have g1 : decide ((0 : Int) < (mm : Int)) = false ∨ (decide ((0 : Int) < (mm : Int)) = true ∧ decide ((tt : Int) ≤ (sz : Int)) = false) := by
        by_cases h1 : 0 < mm
        ·exact Or.inr ⟨decide_eq_true (by omega), decide_eq_false (by omega)⟩
        ·exact Or.inl (decide_eq_false (by omega))
       have g2 : decide (0 < mm) = false ∨ (decide (0 < mm) = true ∧ decide (tt ≤ sz) = false) := by
        by_cases h1 : 0 < mm
        ·exact Or.inr ⟨decide_eq_true h1, decide_eq_false (by omega)⟩
        ·exact Or.inl (decide_eq_false h1)
       have hal2 : Hid ((acc ++ [b]).length = mm + 1) := Lib.hid (by rw [List.length_append, hal']; rfl)
       have y0 := X6.out.c 0 _ rfl
       have y1 := X6.out.c 1 _ rfl
       have y2 := X6.out.c 2 _ rfl
       have y3 := X6.out.c 3 _ rfl
       have hsc := b6.out.size
       have ownC := O6.out
       clear hBad hMore hJoin hEl hKb hcond hS0 hR hdD heE hal' htt hc hAll O6 q0 q1 q2 q3 q4 q5
       rcases g1 with g1 | ⟨g1, g3⟩
       all_goals rcases g2 with g2 | ⟨g2, g4⟩
       all_goals try (exfalso; simp at g1 g2; omega)
       all_goals go_wp2_with (first
         | (at_builtin; refine wpList_append_row _ elemBlk rfl (.tmp 73) (.tmp 75) rfl w3.heap.size _ _ _ rfl (ownC.alloc _) _ _ 1 1 [.int .i64 (x0 : Int), .bool x1, .int .i64 (x2 : Int), .string x3] rfl (Row.newAt _ _ rfl _ [.int .i64 (x0 : Int), .bool x1, .int .i64 (x2 : Int), .string x3] 1 4 rfl) ?_ ?_ ?_ ?_ ?_))
       all_goals first
        | (intro z hz; simp at hz; rcases hz with rfl | rfl | rfl | rfl <;> rfl)
        | (unfold maxLen; omega)
        | omega
        | (simp; omega)
        | skip
       all_goals (
        intro ve we hve hge _
        obtain ⟨Ae, ce, rfl, _, _⟩ := own_form hve
        have hgx := fun g (hg : (Value.slice A' mm c').ownBlock = some g) => (ownC.lt g hg).1
        have hbE := Lib.hid ((b6.out.alloc hsc _).grown hge (by simp; omega) (fun g hg => hgx g hg))
        have hOe : Hid (we.ownsRow w3.heap.size 36 4 (.slice Ae (mm + 1) ce) (mm + 1) (cellsB (acc ++ [b]))) := Lib.hid (by rw [hcb.out]; exact hve)
        clear hve hge ownC hgx b6 X6
        go_wp2_with fail
        go_roundw
        case rel => exact ⟨Ae, ce, j + 1, mm + 1, acc ++ [b], E, rfl, by rw [hR'.out], rfl, by omega, by omega, hal2, hMg, hOe, hbE⟩
        case measure => simp [intOf]; omega)
    ·have hfin : u = some acc := by rw [← hu.out]; exact hmg.out.done (by rw [hlen.out]; omega)
     have hM9 := Lib.hid (HM.out acc hfin A' c' wr mm hal.out.symm (Row.of_own hO.out))
     have hW9 := Lib.hid (hW3.out.trans (hbel.out.mono hW3.out.size))
     obtain ⟨R, hR⟩ : ∃ R, mkC acc = R := ⟨_, rfl⟩
     rw [hR] at hM9
     have hR' := Lib.hid hR
     replace hfin := Lib.hid hfin
     unfold optV at hM9
     have hji : ¬ ((j : Int) < n) := by omega
     clear HM hmg hO hbel hR
     go_wp2_with fail
     refine hM9.out.mono ?_
     rintro e w10 ⟨rfl, hb10⟩
     have hfin2 := Lib.hid (hW9.out.trans (hb10.mono hW9.out.size))
     clear hb10 hM9
     go_wp2_with fail
     go_ret2
     exact ⟨by rw [hfin.out]; show _ = Ending.returned (optV (mkC acc)); rw [hR'.out]; rfl, hfin2.out⟩

  ·have HV := Lib.hid (fun W => implSizeValid size false W (bfalse hsz))
   have hA : mergeC on ln mn d.data.toList (some bs) size = none := mergeC_no (Or.inl (fun hh => hsz hh.2))
   rw [hA]
   obtain ⟨k, hk⟩ : ∃ k, Kn.dict on ln mn d.data.toList = k := ⟨_, rfl⟩
   rw [hk] at HS
   have hval := Kn.val_eq k
   simp only [hval] at HS
   replace HS := Lib.hid HS
   clear hk hA hbd hval hf hfr hbs hnum hyn hsz hok hn
   go_enter Tryz.func20, Tryz.ntmps20
   go_wp2_with fail
   refine (HS.out _).mono ?_
   rintro e w2 ⟨Ak, ck, Ab, cb, B, rfl, hat, hcp, hfar, ho2, hB2, hb2⟩
   have hal := (Below.refl w2.heap.size w2).alloc (Nat.le_refl _) (.cells #[.int .i64 (k.o : Int), .int .i64 (k.l : Int), .int .i64 (k.m : Int), .slice Ak k.ps.length ck, .int .i64 (k.base : Int), .int .i64 k.lastI] 74)
   have hr3 := Lib.hid (Row.more (Row.below (Row.of_own ho2) hal (Nat.le_refl _)) hal.size)
   have hA3 := Lib.hid (show k.At _ _ Ak from Row.more (Row.below hat hal (Nat.le_refl _)) hal.size)
   have kb3 := Lib.hid (KBn.start w2 74 [.int .i64 (k.o : Int), .int .i64 (k.l : Int), .int .i64 (k.m : Int), .slice Ak k.ps.length ck, .int .i64 (k.base : Int), .int .i64 k.lastI])
   have hW3 := Lib.hid ((hW0.out.trans (hb2.mono hW0.out.size)).trans (hal.mono (hW0.out.trans (hb2.mono hW0.out.size)).size))
   clear hat hcp hfar ho2 hB2 hb2 hal
   go_upto_region 2 with (fail)
   obtain ⟨G, hG⟩ : ∃ G, w2.heap.size = G := ⟨_, rfl⟩
   obtain ⟨w3, hw3⟩ : ∃ W, w2.alloc (.cells #[.int .i64 (k.o : Int), .int .i64 (k.l : Int), .int .i64 (k.m : Int), .slice Ak k.ps.length ck, .int .i64 (k.base : Int), .int .i64 k.lastI] 74) = W := ⟨_, rfl⟩
   rw [hw3] at hr3 hA3 kb3 hW3 ⊢
   rw [hG] at kb3 ⊢
   clear hw3 hG
   go_wp2_with fail
   refine (HV.out _).mono ?_
   rintro e w3' ⟨rfl, rfl⟩
   go_wp2_with fail
   go_ret2
   exact ⟨rfl, hW3.out⟩

end Go.Proofs.YthlgpgaeajfchaaGreat
