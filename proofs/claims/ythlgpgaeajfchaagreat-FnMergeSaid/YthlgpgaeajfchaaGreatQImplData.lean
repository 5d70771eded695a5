/-
 The program's data of blocks and of a container, containers made of data, ResizeBlocks, and the walk of the law FnExactResizeBlocks.
-/
import Derived.Test.YthlgpgaeajfchaaGreatQImplUnp
import Derived.Test.YthlgpgaeajfchaaGreatQSpecRead
import Derived.Test.YthlgpgaeajfchaaGreatQTreeMem

namespace Go.Proofs.YthlgpgaeajfchaaGreat
open Go.RowKit
set_option linter.unusedVariables false
set_option linter.unusedSimpArgs false
set_option maxRecDepth 100000

theorem KBn.under {w w' : World} {H C : Nat} {vs : List Value} (h : KBn w H vs) (hb : Below C w w') (hC : H < C) : KBn w' H vs :=
 ⟨fun j v hv => (hb.cell (p := ⟨H, j, none⟩) hC).trans (h.c j v hv), fun j v hv => (hb.frozen (p := ⟨H, j, none⟩) hC).trans (h.f j v hv), Nat.lt_of_lt_of_le h.lt hb.size⟩

set_option maxHeartbeats 2000000 in
theorem implBlocksData (k : Kn) (A : Option Addr) (c B : Nat) (Ab : Option Addr) (n cb Bb : Nat) (bs : List Blk) (w : World) (h : k.Fresh) (hA : k.At w B A) (hB : B ≤ w.heap.size) (hr : Row w Bb 4 Ab n (cellsB bs)) (hBb : Bb ≤ w.heap.size) (hn : n ≤ 40) (hok : ∀ b ∈ bs, b.okb) (hz : szs bs ≤ 4000) :
  Calls Tryz.prog 56 #[k.val A c, .slice Ab n cb] w fun e w' => e = .returned (.tuple #[.string (bsL ((k.datas bs).getD [])), .bool (k.datas bs).isSome]) ∧ Below w.heap.size w w' := by
 have hlen := hr.len4
 have HD := fun (b : Blk) (hb : b.okb) (W : World) (hW : Below w.heap.size w W) => implBlockData k A c B b W h (hA.below hW hB) (Nat.le_trans hB hW.size) hb
 have hval := Kn.val_eq k
 simp only [hval] at HD ⊢
 have kb0 := Lib.hid ((KBn.start w 74 [.int .i64 (k.o : Int), .int .i64 (k.l : Int), .int .i64 (k.m : Int), .slice A k.ps.length c, .int .i64 (k.base : Int), .int .i64 k.lastI]).below ((Below.refl _ _).alloc (Nat.le_refl _) (.cells #[.pointer none, .slice none 0 0] 116)))
 have hW0 := Lib.hid (((Below.refl w.heap.size w).alloc (Nat.le_refl _) (.cells #[.int .i64 (k.o : Int), .int .i64 (k.l : Int), .int .i64 (k.m : Int), .slice A k.ps.length c, .int .i64 (k.base : Int), .int .i64 k.lastI] 74)).alloc (by simp) (.cells #[.pointer none, .slice none 0 0] 116))
 have hbl0 := Bld.new (w.alloc (.cells #[.int .i64 (k.o : Int), .int .i64 (k.l : Int), .int .i64 (k.m : Int), .slice A k.ps.length c, .int .i64 (k.base : Int), .int .i64 k.lastI] 74))
 rw [World.size_alloc] at hbl0
 replace hbl0 := Lib.hid hbl0
 replace HD := Lib.hid HD
 replace hr := Lib.hid hr
 replace hok := Lib.hid hok
 clear hval h hA
 go_enter Tryz.func56, Tryz.ntmps56
 go_wp2_with fail
 go_loopw [13] (fun i wr => ∃ (j : Nat) (D : List UInt8), j ≤ n ∧ i = .int .i64 (j : Int) ∧ Hid (k.datas (bs.take j) = some D) ∧ Hid (Bld wr (w.heap.size + 1) (w.heap.size + 1) (bsL D)) ∧ Hid (KBn wr w.heap.size [.int .i64 (k.o : Int), .int .i64 (k.l : Int), .int .i64 (k.m : Int), .slice A k.ps.length c, .int .i64 (k.base : Int), .int .i64 k.lastI]) ∧ Hid (Below w.heap.size w wr)) (fun i _ => n - (intOf i).toNat)
 case atStart => exact ⟨0, [], Nat.zero_le _, rfl, Lib.hid rfl, hbl0, kb0, hW0⟩
 case round =>
  obtain ⟨j, D, hj, rfl, hD, hbl, hK, hbel⟩ := hrel
  clear kb0 hW0 hbl0
  have hwz := hbel.out.size
  by_cases hlt : j < n
  ·obtain ⟨b, hb⟩ : ∃ b, bs[j]? = some b := ⟨_, List.getElem?_eq_getElem (by omega)⟩
   have hbv : b.val = .agg #[.int .i64 b.num, .bool b.raw, .int .i64 b.size, .string b.body] := rfl
   obtain ⟨g, off, rfl, hg, p0, p1, p2, p3⟩ := (hr.out.below hbel.out hBb).blk (num := b.num) (raw := b.raw) (size := b.size) (body := b.body) hlt hb
   have hob := hok.out b (List.mem_of_getElem? hb)
   have hDl : D.length ≤ 4000 := by
    have h1 := Kn.datas_size (fun b hb => hok.out b (List.mem_of_mem_take hb)) hD.out
    have h2 := szs_take_le bs j
    omega
   have hkb := fun W hW => HD.out b hob W hW
   have hno : Hid (k.blockData b = none → k.datas bs = none) := Lib.hid (fun h2 => Kn.datas_none hb h2)
   have hyes : Hid (∀ e, k.blockData b = some e → k.datas (bs.take (j + 1)) = some (D ++ e) ∧ e.length ≤ 64) := Lib.hid (fun e h2 => ⟨Kn.datas_take hb hD.out h2, by have := Kn.blockData_size hob h2; have := hob.2.1; omega⟩)
   rw [hbv] at hkb
   obtain ⟨x0, hx0⟩ : ∃ x : Nat, b.num = x := ⟨_, rfl⟩
   obtain ⟨x1, hx1⟩ : ∃ x, b.raw = x := ⟨_, rfl⟩
   obtain ⟨x2, hx2⟩ : ∃ x : Nat, b.size = x := ⟨_, rfl⟩
   obtain ⟨x3, hx3⟩ : ∃ x, b.body = x := ⟨_, rfl⟩
   simp only [hx0, hx1, hx2, hx3] at hkb p0 p1 p2 p3
   obtain ⟨R, hR⟩ : ∃ R, bsL ((k.blockData b).getD []) = R := ⟨_, rfl⟩
   obtain ⟨sb, hsb⟩ : ∃ sb, (k.blockData b).isSome = sb := ⟨_, rfl⟩
   simp only [hR, hsb] at hkb
   obtain ⟨bo, hbo⟩ : ∃ x, k.blockData b = x := ⟨_, rfl⟩
   rw [hbo] at hR hsb hno hyes
   have hb5 := Lib.hid (hbel.out.alloc hwz (.cells #[.int .i64 (x0 : Int), .bool x1, .int .i64 (x2 : Int), .string x3] 36))
   have hkb5 := Lib.hid (hkb _ hb5.out)
   have hK5 := Lib.hid (hK.out.below ((Below.refl _ _).alloc (Nat.le_refl _) (.cells #[.int .i64 (x0 : Int), .bool x1, .int .i64 (x2 : Int), .string x3] 36)))
   have hX5 := Lib.hid (KBn.start wr 36 [.int .i64 (x0 : Int), .bool x1, .int .i64 (x2 : Int), .string x3])
   have hbl5 := Lib.hid (hbl.out.alloc (.cells #[.int .i64 (x0 : Int), .bool x1, .int .i64 (x2 : Int), .string x3] 36))
   replace hR := Lib.hid hR
   have hlt0 : (0 : Int) ≤ j := by omega
   have hlti : (j : Int) < n := by omega
   clear hbv hx0 hx1 hx2 hx3 hb hob hbo hlen hkb hbl hK hbel
   go_upto_region 5 with (fail)
   obtain ⟨w5, hw5⟩ : ∃ W, wr.alloc (.cells #[.int .i64 (x0 : Int), .bool x1, .int .i64 (x2 : Int), .string x3] 36) = W := ⟨_, rfl⟩
   rw [hw5] at hkb5 hb5 hK5 hX5 hbl5 ⊢
   clear hw5 p0 p1 p2 p3
   have q0 := hK5.out.c 0 _ rfl
   have q1 := hK5.out.c 1 _ rfl
   have q2 := hK5.out.c 2 _ rfl
   have q3 := hK5.out.c 3 _ rfl
   have q4 := hK5.out.c 4 _ rfl
   have q5 := hK5.out.c 5 _ rfl
   have y0 := hX5.out.c 0 _ rfl
   have y1 := hX5.out.c 1 _ rfl
   have y2 := hX5.out.c 2 _ rfl
   have y3 := hX5.out.c 3 _ rfl
   go_wp2_with fail
   refine hkb5.out.mono ?_
   rintro e w6 ⟨rfl, hb6⟩
   have hb6x := Lib.hid (hb5.out.trans (hb6.mono hb5.out.size))
   have hK6 := Lib.hid (hK5.out.below hb6)
   have hbl6 := Lib.hid (hbl5.out.below hb6)
   clear q0 q1 q2 q3 q4 q5 y0 y1 y2 y3 hkb5 hb5 hb6 hK5 hX5 hbl5
   rcases bo with _ | e
   ·obtain rfl : sb = false := hsb.symm
    have hn2 := Lib.hid (hno.out rfl)
    have hR2 : R = ⟨#[]⟩ := hR.out.symm
    subst hR2
    clear hno hyes
    go_wp2_with fail
    refine bodyPost_ret (v := .tuple #[.string ⟨#[]⟩, .bool false]) (by simp [results, Tryz.results56, go_sem]) rfl ?_
    exact ⟨by rw [hn2.out]; rfl, hb6x.out⟩
   ·obtain rfl : sb = true := hsb.symm
    have hn2 := Lib.hid (hyes.out e rfl)
    have hR2 : bsL e = R := hR.out
    have hW7 := Lib.hid (bldWrite _ _ (bsL D) (bsL e) _ hbl6.out (by have := hn2.out.2; rw [bsL_size, bsL_size]; omega))
    rw [bsL_append, hR2] at hW7
    clear hno hyes
    go_wp2_with fail
    refine hW7.out.mono ?_
    rintro e7 w7 ⟨rfl, hbld7, hb7⟩
    have hK7 := Lib.hid (hK6.out.under hb7 (Nat.lt_succ_self _))
    have hW8 := Lib.hid (hb6x.out.trans (hb7.mono (Nat.le_succ _)))
    clear hb7 hK6 hb6x hbl6 hW7
    go_wp2_with fail
    go_roundw
    case rel => exact ⟨j + 1, D ++ e, by omega, by go_num, Lib.hid hn2.out.1, Lib.hid hbld7, hK7, hW8⟩
    case measure => simp [intOf]; omega
  ·obtain rfl : j = n := by omega
   have hfin : k.datas bs = some D := by
    rw [← hD.out, List.take_of_length_le (by omega)]
   replace hfin := Lib.hid hfin
   have hS := Lib.hid (bldString _ _ _ _ hbl.out)
   clear hlen
   go_wp2_with fail
   refine hS.out.mono ?_
   rintro e w7 ⟨rfl, hb7⟩
   have hW8 := Lib.hid (hbel.out.trans (hb7.mono (Nat.le_succ _)))
   clear hb7
   go_wp2_with fail
   refine bodyPost_ret (v := .tuple #[.string (bsL D), .bool true]) (by simp [results, Tryz.results56, go_sem]) rfl ?_
   exact ⟨by rw [hfin.out]; rfl, hW8.out⟩

set_option maxHeartbeats 2000000 in
theorem implContainerData (o l m : Int) (d s : ByteArray) (w : World) (hd : d.size ≤ 1048576) (hs : s.size ≤ 1048576) :
  Calls Tryz.prog 16 #[.agg #[.int .i64 o, .int .i64 l, .int .i64 m], .string d, .string s] w fun e w' => e = .returned (.tuple #[.string (bsL ((contD o l m d.data.toList (contB s)).getD [])), .bool (contD o l m d.data.toList (contB s)).isSome]) ∧ Below w.heap.size w w' := by
 have hW0 := Lib.hid ((Below.refl w.heap.size w).alloc (Nat.le_refl _) (.cells #[.int .i64 o, .int .i64 l, .int .i64 m] 24))
 by_cases hf : dfits o l m d.data.toList
 ·obtain ⟨on, rfl⟩ : ∃ n : Nat, o = n := ⟨o.toNat, by have := hf.1.1; omega⟩
  obtain ⟨ln, rfl⟩ : ∃ n : Nat, l = n := ⟨l.toNat, by have := hf.1.2.1; omega⟩
  obtain ⟨mn, rfl⟩ : ∃ n : Nat, m = n := ⟨m.toNat, by have := hf.1.2; omega⟩
  have HS := fun W => implStartWithYes on ln mn d.data.toList W hf
  have hbd : bsL d.data.toList = d := rfl
  rw [hbd] at HS
  have hfr := (Kn.dict_fresh hf).1
  have hcd : ∀ ob, contD on ln mn d.data.toList ob = match ob with | some bs => (Kn.dict on ln mn d.data.toList).datas bs | none => none := fun ob => by
   cases ob with
   | none => rfl
   | some bs =>
    show (if _ then _ else _) = _
    rw [if_pos hf]; rfl
  rw [hcd]
  obtain ⟨k, hk⟩ : ∃ k, Kn.dict on ln mn d.data.toList = k := ⟨_, rfl⟩
  rw [hk] at HS hfr ⊢
  have hval := Kn.val_eq k
  rcases hbs : contB s with _ | bs
  ·have HB := Lib.hid (fun W => implContainerBlocksNo s W hs hbs)
   simp only [hval] at HS
   replace HS := Lib.hid HS
   clear hcd hk hbs hval hfr hf hbd
   go_enter Tryz.func16, Tryz.ntmps16
   go_wp2_with fail
   refine (HS.out _).mono ?_
   rintro e w1 ⟨A1, c1, rfl, hnew, hcp, hb1⟩
   have hW1 := Lib.hid ((hW0.out.trans (hb1.mono hW0.out.size)).alloc (hW0.out.trans (hb1.mono hW0.out.size)).size (.cells #[.int .i64 (k.o : Int), .int .i64 (k.l : Int), .int .i64 (k.m : Int), .slice A1 k.ps.length c1, .int .i64 (k.base : Int), .int .i64 k.lastI] 74))
   clear hb1 hnew hcp
   go_wp2_with fail
   refine (HB.out _).mono ?_
   rintro e w2 ⟨A2, c2, rfl, _, hb2⟩
   have hW2 := Lib.hid (hW1.out.trans (hb2.mono hW1.out.size))
   clear hb2 hW1
   go_wp2_with fail
   refine bodyPost_ret (v := .tuple #[.string ⟨#[]⟩, .bool false]) (by simp [results, Tryz.results16, go_sem]) rfl ?_
   exact ⟨rfl, hW2.out⟩
  ·obtain ⟨n, hn⟩ : ∃ n, bs.length = n := ⟨_, rfl⟩
   have HB := Lib.hid (fun W => implContainerBlocksYes s bs n W hs hbs hn)
   have hnum := contB_numbered hbs
   have hn40 := hnum.length
   rw [hn] at hn40
   have hok : ∀ b ∈ bs, b.okb := fun b hb => Blk.okb_of (hnum.of_mem hb)
   have hz := szs_le (fun b hm => hnum.of_mem hm)
   rw [hn] at hz
   have HD := fun (A : Option Addr) (c : Nat) (Ab : Option Addr) (cb : Nat) (W : World) (hA : k.At W W.heap.size A) (hr : Row W W.heap.size 4 Ab n (cellsB bs)) => implBlocksData k A c W.heap.size Ab n cb W.heap.size bs W hfr hA (Nat.le_refl _) hr (Nat.le_refl _) (by omega) hok (by omega)
   simp only
   obtain ⟨R, hR⟩ : ∃ R, bsL ((k.datas bs).getD []) = R := ⟨_, rfl⟩
   obtain ⟨q, hq⟩ : ∃ q, (k.datas bs).isSome = q := ⟨_, rfl⟩
   rw [hR, hq] at HD ⊢
   simp only [hval] at HS HD
   replace HS := Lib.hid HS
   replace HD := Lib.hid HD
   clear hcd hk hbs hval hfr hf hbd hR hq hok hz hnum hn hn40
   go_enter Tryz.func16, Tryz.ntmps16
   go_wp2_with fail
   refine (HS.out _).mono ?_
   rintro e w1 ⟨A1, c1, rfl, hnew, hcp, hb1⟩
   have hal : Below w1.heap.size w1 (w1.alloc (.cells #[.int .i64 (k.o : Int), .int .i64 (k.l : Int), .int .i64 (k.m : Int), .slice A1 k.ps.length c1, .int .i64 (k.base : Int), .int .i64 k.lastI] 74)) := (Below.refl _ _).alloc (Nat.le_refl _) _
   have hrow := Lib.hid (hnew.below hal).row
   have hkb := Lib.hid (KBn.start w1 74 [.int .i64 (k.o : Int), .int .i64 (k.l : Int), .int .i64 (k.m : Int), .slice A1 k.ps.length c1, .int .i64 (k.base : Int), .int .i64 k.lastI])
   have hW1 := Lib.hid ((hW0.out.trans (hb1.mono hW0.out.size)).alloc (hW0.out.trans (hb1.mono hW0.out.size)).size (.cells #[.int .i64 (k.o : Int), .int .i64 (k.l : Int), .int .i64 (k.m : Int), .slice A1 k.ps.length c1, .int .i64 (k.base : Int), .int .i64 k.lastI] 74))
   clear hb1 hW0 hnew hal hcp
   go_wp2_with fail
   refine (HB.out _).mono ?_
   rintro e w2 ⟨A2, c2, rfl, ho2, hb2⟩
   have hr2 := Lib.hid (Row.of_own ho2)
   have hA2 := Lib.hid (show k.At w2 w2.heap.size A1 from Row.more (Row.below hrow.out hb2 (Nat.le_refl _)) hb2.size)
   have hkb2 := hkb.out.below hb2
   have hW2 := Lib.hid (hW1.out.trans (hb2.mono hW1.out.size))
   have hD2 := Lib.hid (HD.out A1 c1 A2 c2 w2 hA2.out hr2.out)
   have q0 := hkb2.c 0 _ rfl
   have q1 := hkb2.c 1 _ rfl
   have q2 := hkb2.c 2 _ rfl
   have q3 := hkb2.c 3 _ rfl
   have q4 := hkb2.c 4 _ rfl
   have q5 := hkb2.c 5 _ rfl
   clear hb2 ho2 hrow hkb hkb2 hW1 hr2 hA2 HD
   go_wp2_with fail
   refine hD2.out.mono ?_
   rintro e w3 ⟨rfl, hb3⟩
   have hW3 := Lib.hid (hW2.out.trans (hb3.mono hW2.out.size))
   clear hb3 hD2 hW2 q0 q1 q2 q3 q4 q5
   go_wp2_with fail
   refine bodyPost_ret (v := .tuple #[.string R, .bool q]) (by simp [results, Tryz.results16, go_sem]) rfl ?_
   exact ⟨rfl, hW3.out⟩
 ·have HS := Lib.hid (fun W => implStartWithNo o l m d W hd hf)
  have hA : contD o l m d.data.toList (contB s) = none := by
   unfold contD
   split
   ·rw [if_neg hf]
   ·rfl
  rw [hA]
  clear hA hf
  go_enter Tryz.func16, Tryz.ntmps16
  go_wp2_with fail
  refine (HS.out _).mono ?_
  rintro e w1 ⟨rfl, hb1⟩
  have hW1 := Lib.hid ((hW0.out.trans (hb1.mono hW0.out.size)).alloc (hW0.out.trans (hb1.mono hW0.out.size)).size (.cells #[.int .i64 0, .int .i64 0, .int .i64 0, .slice none 0 0, .int .i64 0, .int .i64 0] 74))
  clear hb1
  go_wp2_with fail
  refine bodyPost_ret (v := .tuple #[.string ⟨#[]⟩, .bool false]) (by simp [results, Tryz.results16, go_sem]) rfl ?_
  exact ⟨rfl, hW1.out⟩

end Go.Proofs.YthlgpgaeajfchaaGreat
