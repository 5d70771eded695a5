/-
 The reference's MergeBlocks.
-/
import Derived.Test.YthlgpgaeajfchaaGreatQMergeP
import Derived.Test.YthlgpgaeajfchaaGreatQEditP
import Derived.Test.YthlgpgaeajfchaaGreatQSpecData
import Derived.Test.YthlgpgaeajfchaaGreatQEdits
import Derived.Test.YthlgpgaeajfchaaGreatQTreeMem
import Derived.Test.YthlgpgaeajfchaaGreatQImplTLearn
import Derived.Test.YthlgpgaeajfchaaGreatQHeldTail
import Derived.Test.YthlgpgaeajfchaaGreatQImplMake

namespace Go.Proofs.YthlgpgaeajfchaaGreat
open Go.RowKit
set_option linter.unusedVariables false
set_option linter.unusedSimpArgs false
set_option maxRecDepth 100000

theorem KBn.under2 {w w' : World} {H C : Nat} {vs : List Value} (h : KBn w H vs) (hb : Below C w w') (hC : H < C) : KBn w' H vs :=
 ⟨fun j v hv => (hb.cell (p := ⟨H, j, none⟩) hC).trans (h.c j v hv), fun j v hv => (hb.frozen (p := ⟨H, j, none⟩) hC).trans (h.f j v hv), Nat.lt_of_lt_of_le h.lt hb.size⟩

theorem own_setBlk2 {w : World} {base n c g j : Nat} {e : TypeId} {A : Option Addr} {rows : List Blk} (h : w.ownsRow base e 4 (.slice A n c) n (cellsB rows)) (hA : A = some ⟨g, 0, none⟩) (hj : j < rows.length) (b : Blk) {x : Nat} {r : Bool} {y : Nat} {t : ByteArray} (h0 : b.num = x) (h1 : b.raw = r) (h2 : b.size = y) (h3 : b.body = t) :
  ((((w.setCell ⟨g, j * 4, none⟩ (.int .i64 (x : Int))).setCell ⟨g, j * 4 + 1, none⟩ (.bool r)).setCell ⟨g, j * 4 + 2, none⟩ (.int .i64 (y : Int))).setCell ⟨g, j * 4 + 3, none⟩ (.string t)).ownsRow base e 4 (.slice A n c) n (cellsB (rows.set j b)) := by
 subst h0 h1 h2 h3
 rw [← cellsB_setBlk b rows j hj]
 exact own_set (own_set (own_set (own_set h hA _) hA _) hA _) hA _

theorem datas_each {k : Kn} : ∀ {bs : List Blk} {D : List UInt8}, k.datas bs = some D → ∀ {b : Blk}, b ∈ bs → ∃ E, k.blockData b = some E := by
 intro bs
 induction bs with
 | nil => intro D h b hb; simp at hb
 | cons c cs ih =>
  intro D h b hb
  have h' : (match k.blockData c, k.datas cs with | some d, some e => some (d ++ e) | _, _ => none) = some D := h
  rcases hc : k.blockData c with _ | e
  ·rw [hc] at h'; cases h'
  ·rcases hd : k.datas cs with _ | f
   ·rw [hc, hd] at h'; cases h'
   ·rcases List.mem_cons.1 hb with rfl | hb
    ·exact ⟨e, hc⟩
    ·exact ih hd hb

set_option maxHeartbeats 4000000 in
theorem specMergeBlocks (o l m : Int) (d s : ByteArray) (size : Int) (w : World) (hd : d.size ≤ 1048576) (hs : s.size ≤ 1048576) :
  Calls Tryz.prog 21 #[.agg #[.int .i64 o, .int .i64 l, .int .i64 m], .string d, .string s, .int .i64 size] w fun e w' => e = .returned (optV (mergeC o l m d.data.toList (contB s) size)) ∧ Below w.heap.size w w' := by
 have hW0 := Lib.hid ((Below.refl w.heap.size w).alloc (Nat.le_refl _) (.cells #[.int .i64 o, .int .i64 l, .int .i64 m] 24))
 have kb0 := Lib.hid (KBn.start w 24 [.int .i64 o, .int .i64 l, .int .i64 m])
 have HD0 := fun W => specContainerData o l m d s W hd hs
 rcases hbs : contB s with _ | bs
 ·have HS := Lib.hid (fun W => specL5BlocksNo s W hs hbs)
  rw [hbs] at HD0
  have hA : mergeC o l m d.data.toList none size = none := rfl
  have hc : contD o l m d.data.toList none = none := rfl
  rw [hA]
  rw [hc] at HD0
  replace HD0 := Lib.hid HD0
  clear hbs hA hc
  go_enter Tryz.func21, Tryz.ntmps21
  go_wp2_with fail
  refine (HS.out _).mono ?_
  rintro e w1 ⟨A1, c1, rfl, ho1, hb1⟩
  have hr1 := Lib.hid (Row.of_own ho1)
  have hW1 := Lib.hid (hW0.out.trans (hb1.mono hW0.out.size))
  have kb1 := Lib.hid (kb0.out.below hb1)
  clear hb1 ho1 kb0 hW0
  have q0 := kb1.out.c 0 _ rfl
  have q1 := kb1.out.c 1 _ rfl
  have q2 := kb1.out.c 2 _ rfl
  go_wp2_with fail
  refine (HD0.out _).mono ?_
  rintro e w2 ⟨rfl, hb2⟩
  have hr2 := Lib.hid (Row.more (Row.below hr1.out hb2 (Nat.le_refl _)) hb2.size)
  have hW2 := Lib.hid (hW1.out.trans (hb2.mono hW1.out.size))
  have kb2 := Lib.hid (kb1.out.below hb2)
  clear hb2 hr1 hW1 kb1 q0 q1 q2
  have q0 := kb2.out.c 0 _ rfl
  have q1 := kb2.out.c 1 _ rfl
  have q2 := kb2.out.c 2 _ rfl
  go_wp2_with fail
  go_ret2
  exact ⟨rfl, hW2.out⟩
 ·obtain ⟨n, hn⟩ : ∃ n, bs.length = n := ⟨_, rfl⟩
  have HS := Lib.hid (fun W => specL5BlocksYes s bs n W hs hbs hn)
  have hnum := contB_numbered hbs
  have hn40 := hnum.length
  rw [hn] at hn40
  have hok : ∀ b ∈ bs, b.okb := fun b hb => Blk.okb_of (hnum.of_mem hb)
  rw [hbs] at HD0
  rcases hcd : contD o l m d.data.toList (some bs) with _ | D0
  ·rw [hcd] at HD0
   have hA : mergeC o l m d.data.toList (some bs) size = none := by
    by_cases hh : dfits o l m d.data.toList ∧ (1 ≤ size ∧ size ≤ 64)
    ·rw [mergeC_yes hh.1 hh.2]
     have hc2 : (if dfits o l m d.data.toList then (kdict o l m d.data.toList).datas bs else none) = none := hcd
     rw [if_pos hh.1] at hc2
     rw [merge_none hc2]; rfl
    ·exact mergeC_no (Or.inl hh)
   rw [hA]
   replace HD0 := Lib.hid HD0
   clear hbs hA hcd hnum hok hn hn40
   go_enter Tryz.func21, Tryz.ntmps21
   go_wp2_with fail
   refine (HS.out _).mono ?_
   rintro e w1 ⟨A1, c1, rfl, ho1, hb1⟩
   have hr1 := Lib.hid (Row.of_own ho1)
   have hW1 := Lib.hid (hW0.out.trans (hb1.mono hW0.out.size))
   have kb1 := Lib.hid (kb0.out.below hb1)
   clear hb1 ho1 kb0 hW0
   have q0 := kb1.out.c 0 _ rfl
   have q1 := kb1.out.c 1 _ rfl
   have q2 := kb1.out.c 2 _ rfl
   go_wp2_with fail
   refine (HD0.out _).mono ?_
   rintro e w2 ⟨rfl, hb2⟩
   have hr2 := Lib.hid (Row.more (Row.below hr1.out hb2 (Nat.le_refl _)) hb2.size)
   have hW2 := Lib.hid (hW1.out.trans (hb2.mono hW1.out.size))
   have kb2 := Lib.hid (kb1.out.below hb2)
   clear hb2 hr1 hW1 kb1 q0 q1 q2
   have q0 := kb2.out.c 0 _ rfl
   have q1 := kb2.out.c 1 _ rfl
   have q2 := kb2.out.c 2 _ rfl
   go_wp2_with fail
   go_ret2
   exact ⟨rfl, hW2.out⟩
  ·rw [hcd] at HD0
   have hf : dfits o l m d.data.toList := by
    by_cases h : dfits o l m d.data.toList
    ·exact h
    ·have hc2 : (if dfits o l m d.data.toList then (kdict o l m d.data.toList).datas bs else none) = some D0 := hcd
     rw [if_neg h] at hc2; cases hc2
   have hdat : (kdict o l m d.data.toList).datas bs = some D0 := by
    have hc2 : (if dfits o l m d.data.toList then (kdict o l m d.data.toList).datas bs else none) = some D0 := hcd
    rw [if_pos hf] at hc2; exact hc2
   replace HD0 := Lib.hid HD0
   by_cases hsz : 1 ≤ size ∧ size ≤ 64
   ·have HR := Lib.hid (fun W => specL6Room o l m size d true W hd (btrue ⟨hf, hsz⟩))
    rw [mergeC_yes hf hsz]
    obtain ⟨on, rfl⟩ : ∃ n : Nat, o = n := ⟨o.toNat, by have := hf.1.1; omega⟩
    obtain ⟨ln, rfl⟩ : ∃ n : Nat, l = n := ⟨l.toNat, by have := hf.1.2.1; omega⟩
    obtain ⟨mn, rfl⟩ : ∃ n : Nat, m = n := ⟨m.toNat, by have := hf.1.2; omega⟩
    obtain ⟨sz, rfl⟩ : ∃ n : Nat, size = n := ⟨size.toNat, by omega⟩
    have hkd : kdict on ln mn d.data.toList = Kn.dict on ln mn d.data.toList := rfl
    rw [hkd] at hdat ⊢
    have ez : ((sz : Int)).toNat = sz := rfl
    rw [ez]
    have hbd : bsL d.data.toList = d := rfl
    have hkv := (Kn.dict_fresh hf).1.val
    have HD := fun (b : Blk) (hb : b.okb) (W : World) => specL5Data on ln mn d.data.toList b W hf hb
    have HB := fun (L : List UInt8) (hL : L.length ≤ 100000) (W : World) => specL5Block on ln mn 0 d.data.toList L W hf hL
    simp only [hbd, Int.natCast_zero, block_renum] at HD HB
    obtain ⟨k, hk⟩ : ∃ k, Kn.dict on ln mn d.data.toList = k := ⟨_, rfl⟩
    simp only [hk] at HD HB
    rw [hk] at hdat hkv ⊢
    obtain ⟨u, hu⟩ : ∃ u, k.merge sz bs = u := ⟨_, rfl⟩
    rw [hu]
    have hyes : Hid (∀ b ∈ bs, ∃ E, k.blockData b = some E) := Lib.hid (fun b hb => datas_each hdat hb)
    have HM : Hid (∀ r, u = some r → ∀ A c W N, N = r.length → Row W W.heap.size 4 A N (cellsB r) → Calls Tryz.prog 67 #[.slice A N c] W fun e w' => e = .returned (optV (mkC r)) ∧ Below W.heap.size W w') := Lib.hid (fun r e A c W N hN hr => by
     obtain ⟨r', h1, _, h3, h4, _⟩ := merge_ok hkv (size := sz) (by omega) hok hdat
     rw [← hu, h1] at e
     injection e with e
     subst e
     have h5 := szs_le64 h3
     exact specL6Result A N c W.heap.size r' W hr (Nat.le_refl _) (by omega) (by omega) h3)
    have hs64 : sz ≤ 64 := by omega
    replace HD := Lib.hid HD
    replace HB := Lib.hid HB
    replace hu := Lib.hid hu
    replace hkv := Lib.hid hkv
    replace hok := Lib.hid hok
    have hlen := Lib.hid hn
    clear hk hbd hf hbs hnum hsz hkd ez hn hdat hcd
    go_enter Tryz.func21, Tryz.ntmps21
    go_wp2_with fail
    refine (HS.out _).mono ?_
    rintro e w1 ⟨A1, c1, rfl, ho1, hb1⟩
    have hr1 := Lib.hid (Row.of_own ho1)
    have hW1 := Lib.hid (hW0.out.trans (hb1.mono hW0.out.size))
    have kb1 := Lib.hid (kb0.out.below hb1)
    clear hb1 ho1 kb0 hW0
    have q0 := kb1.out.c 0 _ rfl
    have q1 := kb1.out.c 1 _ rfl
    have q2 := kb1.out.c 2 _ rfl
    go_wp2_with fail
    refine (HD0.out _).mono ?_
    rintro e w2 ⟨rfl, hb2⟩
    have hr2 := Lib.hid (Row.more (Row.below hr1.out hb2 (Nat.le_refl _)) hb2.size)
    have hW2 := Lib.hid (hW1.out.trans (hb2.mono hW1.out.size))
    have kb2 := Lib.hid (kb1.out.below hb2)
    clear hb2 hr1 hW1 kb1 q0 q1 q2
    have q0 := kb2.out.c 0 _ rfl
    have q1 := kb2.out.c 1 _ rfl
    have q2 := kb2.out.c 2 _ rfl
    go_wp2_with fail
    refine (HR.out _).mono ?_
    rintro e w3 ⟨rfl, hb3⟩
    have hal := (Below.refl w3.heap.size w3).alloc (Nat.le_refl _) (.cells #[] 36)
    have hr3 := Lib.hid (Row.below (Row.more (Row.below hr2.out hb3 (Nat.le_refl _)) hb3.size) hal (Nat.le_refl _))
    have hW3 := Lib.hid ((hW2.out.trans (hb3.mono hW2.out.size)).trans (hal.mono (hW2.out.trans (hb3.mono hW2.out.size)).size))
    have kb3 := Lib.hid ((kb2.out.below hb3).below hal)
    have hO3 : Hid ((w3.alloc (.cells #[] 36)).ownsRow w3.heap.size 36 4 (.slice (some ⟨w3.heap.size, 0, none⟩) 0 0) 0 (cellsB [])) := by
     have := World.ownsRow_lit (base := w3.heap.size) (size := 4) (e := 36) w3 #[] 0 (by simp) (by unfold maxLen; omega) rfl
     exact Lib.hid this
    have hH3 : w.heap.size < w3.heap.size := (kb2.out.below hb3).lt
    clear hb3 hal hr2 hW2 kb2 q0 q1 q2
    go_upto_region 6 with (fail)
    obtain ⟨G, hG⟩ : ∃ G, w3.heap.size = G := ⟨_, rfl⟩
    obtain ⟨w4, hw4⟩ : ∃ W, w3.alloc (.cells #[] 36) = W := ⟨_, rfl⟩
    have hz4 : G ≤ w4.heap.size := by rw [← hw4, ← hG]; simp
    rw [hw4] at hr3 hW3 kb3 hO3 ⊢
    rw [hG] at hr3 hO3 hH3 ⊢
    clear hw4 hG
    have hR0 := Lib.hid (Below.refl G w4)
    have hM0 := Lib.hid (MgAt.start k sz bs)
    go_wp2_with fail
    go_loopw [14, 15] (fun v i wr => ∃ (A' : Option Addr) (c' j mm : Nat) (acc : List Blk) (D : List UInt8), v = .slice A' mm c' ∧ i = .int .i64 (j : Int) ∧ j ≤ n ∧ mm ≤ j ∧ Hid (acc.length = mm) ∧ Hid (MgAt k sz bs j acc D) ∧ Hid (wr.ownsRow G 36 4 (.slice A' mm c') mm (cellsB acc)) ∧ Hid (Below G w4 wr)) (fun _ i _ => n - (intOf i).toNat)
    case atStart => exact ⟨_, _, 0, 0, [], [], rfl, rfl, Nat.zero_le _, Nat.le_refl _, Lib.hid rfl, hM0, hO3, hR0⟩
    case round =>
     obtain ⟨A', c', j, mm, acc, D, rfl, rfl, hj, hmj, hal, hmg, hO, hbel⟩ := hrel
     clear hO3 hR0 hM0
     have hwz := Nat.le_trans hz4 hbel.out.size
     by_cases hlt : j < n
     ·obtain ⟨b, hb⟩ : ∃ b, bs[j]? = some b := ⟨_, List.getElem?_eq_getElem (by rw [hlen.out]; exact hlt)⟩
      have hrr : Hid (∀ W, Below wr.heap.size wr W → Row W G 4 A1 n (cellsB bs)) := Lib.hid (fun W hW => hr3.out.below (hbel.out.trans (hW.mono hwz)) (Nat.le_refl _))
      obtain ⟨g, off, rfl, hg, p0, p1, p2', p3⟩ := (hrr.out wr (Below.refl _ _)).blk (num := b.num) (raw := b.raw) (size := b.size) (body := b.body) hlt hb
      have hob := hok.out b (List.mem_of_getElem? hb)
      obtain ⟨E, hE⟩ := hyes.out b (List.mem_of_getElem? hb)
      have hEl := Kn.blockData_size hob hE
      have h64 := hob.2.1
      have hbv : b.val = .agg #[.int .i64 b.num, .bool b.raw, .int .i64 b.size, .string b.body] := rfl
      have hDb := HD.out b hob
      rw [hE, hbv] at hDb
      obtain ⟨x0, hx0⟩ : ∃ x : Nat, b.num = x := ⟨_, rfl⟩
      obtain ⟨x1, hx1⟩ : ∃ x, b.raw = x := ⟨_, rfl⟩
      obtain ⟨x2, hx2⟩ : ∃ x : Nat, b.size = x := ⟨_, rfl⟩
      obtain ⟨x3, hx3⟩ : ∃ x, b.body = x := ⟨_, rfl⟩
      simp only [hx0, hx1, hx2, hx3, Option.getD_some, Option.isSome_some] at hDb
      rw [hx0] at p0
      rw [hx1] at p1
      rw [hx2] at p2' hEl h64
      rw [hx3] at p3
      have hcb : Hid (cellsB (acc ++ [b]) = cellsB acc ++ [.int .i64 (x0 : Int), .bool x1, .int .i64 (x2 : Int), .string x3]) := Lib.hid (by rw [cellsB_append, cellsB_one, ← hx0, ← hx1, ← hx2, ← hx3]; rfl)
      have hKW : Hid (∀ W, Below wr.heap.size wr W → KBn W w.heap.size [.int .i64 (on : Int), .int .i64 (ln : Int), .int .i64 (mn : Int)]) := Lib.hid (fun W hW => KBn.under2 kb3.out (hbel.out.trans (hW.mono hwz)) hH3)
      have hAll : Hid (∀ W, Below wr.heap.size wr W → W.ownsRow G 36 4 (.slice A' mm c') mm (cellsB acc) ∧ Below G w4 W) := Lib.hid (fun W hW => ⟨own_below hO.out hW (Nat.le_refl _), hbel.out.trans (hW.mono hwz)⟩)
      have hMore : Hid (acc = [] ∨ sz < D.length + E.length → MgAt k sz bs (j + 1) (acc ++ [b]) E) := Lib.hid (fun hno => hmg.out.more hb hob hE hno)
      have hJoin : Hid (acc ≠ [] → D.length + E.length ≤ sz → MgAt k sz bs (j + 1) (acc.set (acc.length - 1) (k.block (D ++ E))) (D ++ E)) := Lib.hid (fun hne hy => hmg.out.join hkv.out hs64 hb hob hE hne hy)
      have hj0 : (0 : Int) ≤ j := by omega
      have hji : (j : Int) < n := by omega
      have hal' := hal.out
      have hal2 : Hid ((acc ++ [b]).length = mm + 1) := Lib.hid (by rw [List.length_append, hal']; rfl)
      have hDl64 := MgAt.le hmg.out
      have hbcells : Hid (∀ W, Below wr.heap.size wr W → W.cell? ⟨g, off + j * 4, none⟩ = some (.int .i64 (x0 : Int)) ∧ W.cell? ⟨g, off + j * 4 + 1, none⟩ = some (.bool x1) ∧ W.cell? ⟨g, off + j * 4 + 2, none⟩ = some (.int .i64 (x2 : Int)) ∧ W.cell? ⟨g, off + j * 4 + 3, none⟩ = some (.string x3)) := Lib.hid (fun W hW => by
       have hgw : g < wr.heap.size := by omega
       exact ⟨(hW.cell (p := ⟨g, off + j * 4, none⟩) hgw).trans p0, (hW.cell (p := ⟨g, off + j * 4 + 1, none⟩) hgw).trans p1, (hW.cell (p := ⟨g, off + j * 4 + 2, none⟩) hgw).trans p2', (hW.cell (p := ⟨g, off + j * 4 + 3, none⟩) hgw).trans p3⟩)
      have hO9 := Lib.hid hO.out
      have hb9 := Lib.hid hbel.out
      have hlast := Lib.hid (fun (hm : 0 < mm) => hmg.out.len (fun e => by rw [e] at hal'; simp at hal'; omega))
      clear hbv hx0 hx1 hx2 hx3 hb hob hmg hO hbel hE hrr
      obtain ⟨dl, hdl⟩ : ∃ z, D.length = z := ⟨_, rfl⟩
      obtain ⟨el, hel⟩ : ∃ z, E.length = z := ⟨_, rfl⟩
      rcases Nat.eq_zero_or_pos mm with h0 | h0
      ·have hMg := Lib.hid (hMore.out (Or.inl (List.eq_nil_of_length_eq_zero (by omega))))
       have e1 : (mm : Int) - 1 = -1 := by omega
       have g1 : decide ((0 : Int) ≤ -1) = false := rfl
       replace h0 := Lib.hid h0
       clear hMore hJoin hlast hal' hDb
       go_upto_region 10 with (fail)
       go_quiet (fail)
       obtain ⟨wq, hwq⟩ : ∃ W, wr.drewN nq = W := ⟨_, rfl⟩
       have hBq : Below wr.heap.size wr wq := by rw [← hwq]; exact below_drewN (Below.refl _ _) _
       rw [hwq]
       have ownC := (hAll.out wq hBq).1
       have hb9q := Lib.hid (hAll.out wq hBq).2
       obtain ⟨r0, r1, r2, r3⟩ := hbcells.out wq hBq
       have hwzq : G ≤ wq.heap.size := Nat.le_trans hwz hBq.size
       replace hBq := Lib.hid hBq
       clear hwq p0 p1 p2' p3 hO9 hb9
       go_wp2_with (first
         | (at_builtin; refine wpList_append_row _ elemBlk rfl (.tmp 102) (.tmp 107) rfl G _ _ _ rfl (ownC.alloc _) _ _ 1 1 [.int .i64 (x0 : Int), .bool x1, .int .i64 (x2 : Int), .string x3] rfl (Row.newAt _ _ rfl _ [.int .i64 (x0 : Int), .bool x1, .int .i64 (x2 : Int), .string x3] 1 4 rfl) ?_ ?_ ?_ ?_ ?_))
       all_goals first
        | (intro z hz; simp at hz; rcases hz with rfl | rfl | rfl | rfl <;> rfl)
        | (unfold maxLen; omega)
        | omega
        | (simp; omega)
        | skip
       all_goals (
        intro ve we hve hge _
        obtain ⟨Ae, ce, rfl, _, _⟩ := own_form hve
        have hgx := fun g (hg : (Value.slice A' mm c').ownBlock = some g) => (ownC.lt g hg).1
        have hbE := Lib.hid ((hb9q.out.alloc hwzq _).grown hge (by first | omega | (simp; omega)) (fun g hg => hgx g hg))
        have hOe : Hid (we.ownsRow G 36 4 (.slice Ae (mm + 1) ce) (mm + 1) (cellsB (acc ++ [b]))) := Lib.hid (by rw [hcb.out]; exact hve)
        clear hve hge ownC hgx hb9q
        go_wp2_with fail
        go_roundw
        case rel => exact ⟨Ae, ce, j + 1, mm + 1, acc ++ [b], E, rfl, rfl, by omega, by omega, hal2, hMg, hOe, hbE⟩
        case measure => simp [intOf]; omega)
      ·obtain ⟨lb, hlb, hlo, hld, hll⟩ := hlast.out h0
       rw [hal'] at hlb
       obtain ⟨m1, hm1⟩ : ∃ z, z + 1 = mm := ⟨mm - 1, by omega⟩
       have e1 : (mm : Int) - 1 = m1 := by omega
       have em : mm - 1 = m1 := by omega
       rw [em] at hlb
       have hm1l : m1 < acc.length := by omega
       have hLD := HD.out lb hlo
       obtain ⟨g2, hA2, hgb, hglt, hmc, hcell, hfz⟩ := own_place hO9.out (by omega)
       subst hA2
       have hlv : lb.val = .agg #[.int .i64 lb.num, .bool lb.raw, .int .i64 lb.size, .string lb.body] := rfl
       rw [hld, hlv] at hLD
       obtain ⟨z0, hz0⟩ : ∃ x : Nat, lb.num = x := ⟨_, rfl⟩
       obtain ⟨z1, hz1⟩ : ∃ x, lb.raw = x := ⟨_, rfl⟩
       obtain ⟨z2, hz2⟩ : ∃ x : Nat, lb.size = x := ⟨_, rfl⟩
       obtain ⟨z3, hz3⟩ : ∃ x, lb.body = x := ⟨_, rfl⟩
       simp only [hz0, hz1, hz2, hz3, Option.getD_some, Option.isSome_some] at hLD
       have hLc : Hid (∀ W : World, Below wr.heap.size wr W → W.cell? ⟨g2, m1 * 4, none⟩ = some (.int .i64 (z0 : Int)) ∧ W.cell? ⟨g2, m1 * 4 + 1, none⟩ = some (.bool z1) ∧ W.cell? ⟨g2, m1 * 4 + 2, none⟩ = some (.int .i64 (z2 : Int)) ∧ W.cell? ⟨g2, m1 * 4 + 3, none⟩ = some (.string z3)) := Lib.hid (fun W hb => by
        obtain ⟨g3, hA3, _, _, _, hc3, _⟩ := own_place (hAll.out W hb).1 (by omega)
        injection hA3 with hA3
        injection hA3 with hA3
        subst hA3
        have r0 := hc3 _ _ ((cellsB_get acc m1 0 lb hlb (by omega)).trans rfl)
        have r1 := hc3 _ _ ((cellsB_get acc m1 1 lb hlb (by omega)).trans rfl)
        have r2 := hc3 _ _ ((cellsB_get acc m1 2 lb hlb (by omega)).trans rfl)
        have r3 := hc3 _ _ ((cellsB_get acc m1 3 lb hlb (by omega)).trans rfl)
        rw [hz0] at r0
        rw [hz1] at r1
        rw [hz2] at r2
        rw [hz3] at r3
        exact ⟨r0, r1, r2, r3⟩)
       obtain ⟨tt, htt⟩ : ∃ z, z2 + x2 = z := ⟨_, rfl⟩
       have sl : (z2 : Int) + x2 = tt := by omega
       have hz64 : z2 ≤ 64 := by omega
       have wtt : IntKind.i64.wrap (tt : Int) = tt := IntWalk.i64_in _ (by omega)
       have l2 := (hLc.out wr (Below.refl _ _)).2.2.1
       have jm0 : (0 : Int) ≤ m1 := by omega
       have jm1 : (m1 : Int) < mm := by omega
       have g1 : decide ((0 : Int) ≤ (m1 : Int)) = true := decide_eq_true (by omega)
       replace hLD := Lib.hid hLD
       replace hDb := Lib.hid hDb
       replace hmc := Lib.hid hmc
       by_cases hc : tt ≤ sz
       ·have hMg := Lib.hid (hJoin.out (fun e => by rw [e] at hal'; simp at hal'; omega) (by omega))
        have g2' : decide ((tt : Int) ≤ (sz : Int)) = true := decide_eq_true (by omega)
        have hlenDE : (D ++ E).length ≤ 100000 := by rw [List.length_append]; omega
        have hT := Lib.hid (HB.out (D ++ E) hlenDE)
        have hfr : Hid (∀ W : World, Below wr.heap.size wr W → ∀ i, W.frozen? ⟨g2, m1 * 4 + i, none⟩ = false) := Lib.hid (fun W hb i => by
         obtain ⟨g3, hA3, _, _, _, _, hf3⟩ := own_place (hAll.out W hb).1 (by omega)
         injection hA3 with hA3
         injection hA3 with hA3
         subst hA3
         exact hf3 _)
        obtain ⟨pb, hpb⟩ : ∃ pb, k.block (D ++ E) = pb := ⟨_, rfl⟩
        rw [hpb] at hMg
        have hpv : pb.val = .agg #[.int .i64 pb.num, .bool pb.raw, .int .i64 pb.size, .string pb.body] := rfl
        obtain ⟨t0, ht0⟩ : ∃ x : Nat, pb.num = x := ⟨_, rfl⟩
        obtain ⟨t1, ht1⟩ : ∃ x, pb.raw = x := ⟨_, rfl⟩
        obtain ⟨t2, ht2⟩ : ∃ x : Nat, pb.size = x := ⟨_, rfl⟩
        obtain ⟨t3, ht3⟩ : ∃ x, pb.body = x := ⟨_, rfl⟩
        obtain ⟨S0, hS0⟩ : ∃ S, bsL D = S := ⟨_, rfl⟩
        obtain ⟨R, hR⟩ : ∃ R, bsL E = R := ⟨_, rfl⟩
        have hdS : S0.size ≤ 64 := by rw [← hS0]; simp [bsL, ByteArray.size]; omega
        have heR : R.size ≤ 64 := by rw [← hR]; simp [bsL, ByteArray.size]; omega
        have hcat : S0.size + R.size ≤ 128 := by omega
        have hT2 : Hid (∀ W, Calls Tryz.prog 66 #[.agg #[.int .i64 (on : Int), .int .i64 (ln : Int), .int .i64 (mn : Int)], .string d, .int .i64 0, .string (S0 ++ R)] W fun e w' => e = .returned (.agg #[.int .i64 (t0 : Int), .bool t1, .int .i64 (t2 : Int), .string t3]) ∧ Below W.heap.size W w') := Lib.hid (fun W => by
         have := hT.out W
         rw [← bsL_append, hS0, hR, hpb, hpv, ht0, ht1, ht2, ht3] at this
         exact this)
        rw [hS0] at hLD
        rw [hR] at hDb
        have hset : Hid (∀ W : World, Below wr.heap.size wr W → ((((W.setCell ⟨g2, m1 * 4, none⟩ (.int .i64 (t0 : Int))).setCell ⟨g2, m1 * 4 + 1, none⟩ (.bool t1)).setCell ⟨g2, m1 * 4 + 2, none⟩ (.int .i64 (t2 : Int))).setCell ⟨g2, m1 * 4 + 3, none⟩ (.string t3)).ownsRow G 36 4 (.slice (some ⟨g2, 0, none⟩) mm c') mm (cellsB (acc.set (acc.length - 1) pb))) := Lib.hid (fun W hb => by
         rw [hal', em]
         exact own_setBlk2 (hAll.out W hb).1 rfl (by omega) pb ht0 ht1 ht2 ht3)
        have hal3 : Hid ((acc.set (acc.length - 1) pb).length = mm) := Lib.hid (by rw [List.length_set]; exact hal')
        have hbs2 : Hid (∀ W : World, Below wr.heap.size wr W → Below G w4 ((((W.setCell ⟨g2, m1 * 4, none⟩ (.int .i64 (t0 : Int))).setCell ⟨g2, m1 * 4 + 1, none⟩ (.bool t1)).setCell ⟨g2, m1 * 4 + 2, none⟩ (.int .i64 (t2 : Int))).setCell ⟨g2, m1 * 4 + 3, none⟩ (.string t3))) := Lib.hid (fun W hb => by
         have h0 := (hAll.out W hb).2
         exact (((h0.setCell (p := ⟨g2, m1 * 4, none⟩) hgb _).setCell (p := ⟨g2, m1 * 4 + 1, none⟩) hgb _).setCell (p := ⟨g2, m1 * 4 + 2, none⟩) hgb _).setCell (p := ⟨g2, m1 * 4 + 3, none⟩) hgb _)
        clear hMore hJoin hlast hlb hlo hld hll hlv hz0 hz1 hz2 hz3 hcell hfz hdl hel em htt hm1 hpb hpv ht0 ht1 ht2 ht3 hS0 hR hal' hT hcb hal2 hdS heR hlenDE
        go_upto_region 10 with (fail)
        go_quiet (fail)
        obtain ⟨wq, hwq⟩ : ∃ W, wr.drewN nq = W := ⟨_, rfl⟩
        have hBq : Below wr.heap.size wr wq := by rw [← hwq]; exact below_drewN (Below.refl _ _) _
        rw [hwq]
        have hbq := Lib.hid hBq
        clear hwq hBq p0 p1 p2' p3 hO9 hb9 l2
        go_upto_region 11 with (fail)
        have hS11 : Hid (∀ W, Below wr.heap.size wr W → W.cell? ⟨w.heap.size, 0, none⟩ = some (.int .i64 (on : Int)) ∧ W.cell? ⟨w.heap.size, 1, none⟩ = some (.int .i64 (ln : Int)) ∧ W.cell? ⟨w.heap.size, 2, none⟩ = some (.int .i64 (mn : Int)) ∧ W.cell? ⟨g2, m1 * 4, none⟩ = some (.int .i64 (z0 : Int)) ∧ W.cell? ⟨g2, m1 * 4 + 1, none⟩ = some (.bool z1) ∧ W.cell? ⟨g2, m1 * 4 + 2, none⟩ = some (.int .i64 (z2 : Int)) ∧ W.cell? ⟨g2, m1 * 4 + 3, none⟩ = some (.string z3)) := Lib.hid (fun W hW => by
         have kx := hKW.out W hW
         exact ⟨kx.c 0 _ rfl, kx.c 1 _ rfl, kx.c 2 _ rfl, hLc.out W hW⟩)
        have hbd11 := Lib.hid (hbq.out.drew)
        refine wp_region_held_tail (S := fun W => W.cell? ⟨w.heap.size, 0, none⟩ = some (.int .i64 (on : Int)) ∧ W.cell? ⟨w.heap.size, 1, none⟩ = some (.int .i64 (ln : Int)) ∧ W.cell? ⟨w.heap.size, 2, none⟩ = some (.int .i64 (mn : Int)) ∧ W.cell? ⟨g2, m1 * 4, none⟩ = some (.int .i64 (z0 : Int)) ∧ W.cell? ⟨g2, m1 * 4 + 1, none⟩ = some (.bool z1) ∧ W.cell? ⟨g2, m1 * 4 + 2, none⟩ = some (.int .i64 (z2 : Int)) ∧ W.cell? ⟨g2, m1 * 4 + 3, none⟩ = some (.string z3)) 11 (by kernel_rfl) (by kernel_rfl) (hS11.out _ hbd11.out) (fun hS => ?_)
        refine heldAny_take (i := 0) (v := ?_) rfl (by kernel_rfl) (by kernel_rfl) (by kernel_rfl) (by kernel_rfl) (fun _ _ _ h => h) (Or.inl ⟨by rfl, ?_⟩) (by assumption) ?_
        rotate_left
        ·(intro wS hSw; (try dsimp only at hSw); go_split_ands; go_simp; all_goals with_reducible rfl)
        try simp only [Act.put]
        refine heldAny_take (i := 1) (v := ?_) rfl (by kernel_rfl) (by kernel_rfl) (by kernel_rfl) (by kernel_rfl) (fun _ _ _ h => h) (Or.inl ⟨by rfl, ?_⟩) (by assumption) ?_
        rotate_left
        ·(intro wS hSw; (try dsimp only at hSw); go_split_ands; go_simp; all_goals with_reducible rfl)
        try simp only [Act.put]
        refine heldAny_take (i := 2) (v := ?_) rfl (by kernel_rfl) (by kernel_rfl) (by kernel_rfl) (by kernel_rfl) (fun _ _ _ h => h) (Or.inl ⟨by rfl, ?_⟩) (by assumption) ?_
        rotate_left
        ·(intro wS hSw; (try dsimp only at hSw); go_split_ands; go_simp; all_goals with_reducible rfl)
        try simp only [Act.put]
        refine heldAny_take (i := 3) (v := ?_) rfl (by kernel_rfl) (by kernel_rfl) (by kernel_rfl) (by kernel_rfl) (fun _ _ _ h => h) (Or.inl ⟨by rfl, ?_⟩) (by assumption) ?_
        rotate_left
        ·(intro wS hSw; (try dsimp only at hSw); go_split_ands; go_simp; all_goals with_reducible rfl)
        try simp only [Act.put]
        refine heldAny_take (i := 4) (v := ?_) rfl (by kernel_rfl) (by kernel_rfl) (by kernel_rfl) (by kernel_rfl) (fun _ _ _ h => h) (Or.inl ⟨by rfl, ?_⟩) (by assumption) ?_
        rotate_left
        ·(intro wS hSw; (try dsimp only at hSw); go_split_ands; go_simp; all_goals with_reducible rfl)
        try simp only [Act.put]
        refine heldAny_take (i := 5) (v := ?_) rfl (by kernel_rfl) (by kernel_rfl) (by kernel_rfl) (by kernel_rfl) (fun _ _ _ h => h) (Or.inl ⟨by rfl, ?_⟩) (by assumption) ?_
        rotate_left
        ·(intro wS hSw; (try dsimp only at hSw); go_split_ands; go_simp; all_goals with_reducible rfl)
        try simp only [Act.put]
        refine heldAny_one (i := 6) rfl (by kernel_rfl) (by kernel_rfl) (fun K hK => ?_)
        go_simp
        go_at_call 65
        refine (hLD.out _).mono ?_
        rintro e w11 ⟨rfl, hbc11⟩
        have hbx11 := Lib.hid (hbd11.out.trans (hbc11.mono hbd11.out.size))
        refine hK.out _ _ (hS11.out _ hbx11.out) (fun hS => ?_)
        try simp only [Act.put]
        clear hK K
        refine heldAny_take (i := 7) (v := ?_) rfl (by kernel_rfl) (by kernel_rfl) (by kernel_rfl) (by kernel_rfl) (fun _ _ _ h => h) (Or.inl ⟨by rfl, ?_⟩) (by assumption) ?_
        rotate_left
        ·(intro wS hSw; (try dsimp only at hSw); go_split_ands; go_simp; all_goals with_reducible rfl)
        try simp only [Act.put]
        refine heldAny_take (i := 8) (v := ?_) rfl (by kernel_rfl) (by kernel_rfl) (by kernel_rfl) (by kernel_rfl) (fun _ _ _ h => h) (Or.inl ⟨by rfl, ?_⟩) (by assumption) ?_
        rotate_left
        ·(intro wS hSw; (try dsimp only at hSw); go_split_ands; go_simp; all_goals with_reducible rfl)
        try simp only [Act.put]
        refine heldAny_take (i := 9) (v := ?_) rfl (by kernel_rfl) (by kernel_rfl) (by kernel_rfl) (by kernel_rfl) (fun _ _ _ h => h) (Or.inl ⟨by rfl, ?_⟩) (by assumption) ?_
        rotate_left
        ·(intro wS hSw; (try dsimp only at hSw); go_split_ands; go_simp; all_goals with_reducible rfl)
        try simp only [Act.put]
        refine heldAny_take (i := 10) (v := ?_) rfl (by kernel_rfl) (by kernel_rfl) (by kernel_rfl) (by kernel_rfl) (fun _ _ _ h => h) (Or.inl ⟨by rfl, ?_⟩) (by assumption) ?_
        rotate_left
        ·(intro wS hSw; (try dsimp only at hSw); go_split_ands; go_simp; all_goals with_reducible rfl)
        try simp only [Act.put]
        refine heldAny_done (by kernel_rfl) ⟨by kernel_rfl, ?_⟩
        simp only [List.drop_succ_cons, List.drop_zero]
        clear hbc11 hbd11 hS hS11
        go_upto_region 12 with (fail)
        have hS12 : Hid (∀ W, Below wr.heap.size wr W → W.cell? ⟨w.heap.size, 0, none⟩ = some (.int .i64 (on : Int)) ∧ W.cell? ⟨w.heap.size, 1, none⟩ = some (.int .i64 (ln : Int)) ∧ W.cell? ⟨w.heap.size, 2, none⟩ = some (.int .i64 (mn : Int)) ∧ W.cell? ⟨g, off + j * 4, none⟩ = some (.int .i64 (x0 : Int)) ∧ W.cell? ⟨g, off + j * 4 + 1, none⟩ = some (.bool x1) ∧ W.cell? ⟨g, off + j * 4 + 2, none⟩ = some (.int .i64 (x2 : Int)) ∧ W.cell? ⟨g, off + j * 4 + 3, none⟩ = some (.string x3)) := Lib.hid (fun W hW => by
         have kx := hKW.out W hW
         exact ⟨kx.c 0 _ rfl, kx.c 1 _ rfl, kx.c 2 _ rfl, hbcells.out W hW⟩)
        have hbd12 := Lib.hid (hbx11.out.drew)
        refine wp_region_held_tail (S := fun W => W.cell? ⟨w.heap.size, 0, none⟩ = some (.int .i64 (on : Int)) ∧ W.cell? ⟨w.heap.size, 1, none⟩ = some (.int .i64 (ln : Int)) ∧ W.cell? ⟨w.heap.size, 2, none⟩ = some (.int .i64 (mn : Int)) ∧ W.cell? ⟨g, off + j * 4, none⟩ = some (.int .i64 (x0 : Int)) ∧ W.cell? ⟨g, off + j * 4 + 1, none⟩ = some (.bool x1) ∧ W.cell? ⟨g, off + j * 4 + 2, none⟩ = some (.int .i64 (x2 : Int)) ∧ W.cell? ⟨g, off + j * 4 + 3, none⟩ = some (.string x3)) 11 (by kernel_rfl) (by kernel_rfl) (hS12.out _ hbd12.out) (fun hS => ?_)
        refine heldAny_take (i := 0) (v := ?_) rfl (by kernel_rfl) (by kernel_rfl) (by kernel_rfl) (by kernel_rfl) (fun _ _ _ h => h) (Or.inl ⟨by rfl, ?_⟩) (by assumption) ?_
        rotate_left
        ·(intro wS hSw; (try dsimp only at hSw); go_split_ands; go_simp; all_goals with_reducible rfl)
        try simp only [Act.put]
        refine heldAny_take (i := 1) (v := ?_) rfl (by kernel_rfl) (by kernel_rfl) (by kernel_rfl) (by kernel_rfl) (fun _ _ _ h => h) (Or.inl ⟨by rfl, ?_⟩) (by assumption) ?_
        rotate_left
        ·(intro wS hSw; (try dsimp only at hSw); go_split_ands; go_simp; all_goals with_reducible rfl)
        try simp only [Act.put]
        refine heldAny_take (i := 2) (v := ?_) rfl (by kernel_rfl) (by kernel_rfl) (by kernel_rfl) (by kernel_rfl) (fun _ _ _ h => h) (Or.inl ⟨by rfl, ?_⟩) (by assumption) ?_
        rotate_left
        ·(intro wS hSw; (try dsimp only at hSw); go_split_ands; go_simp; all_goals with_reducible rfl)
        try simp only [Act.put]
        refine heldAny_take (i := 3) (v := ?_) rfl (by kernel_rfl) (by kernel_rfl) (by kernel_rfl) (by kernel_rfl) (fun _ _ _ h => h) (Or.inl ⟨by rfl, ?_⟩) (by assumption) ?_
        rotate_left
        ·(intro wS hSw; (try dsimp only at hSw); go_split_ands; go_simp; all_goals with_reducible rfl)
        try simp only [Act.put]
        refine heldAny_take (i := 4) (v := ?_) rfl (by kernel_rfl) (by kernel_rfl) (by kernel_rfl) (by kernel_rfl) (fun _ _ _ h => h) (Or.inl ⟨by rfl, ?_⟩) (by assumption) ?_
        rotate_left
        ·(intro wS hSw; (try dsimp only at hSw); go_split_ands; go_simp; all_goals with_reducible rfl)
        try simp only [Act.put]
        refine heldAny_take (i := 5) (v := ?_) rfl (by kernel_rfl) (by kernel_rfl) (by kernel_rfl) (by kernel_rfl) (fun _ _ _ h => h) (Or.inl ⟨by rfl, ?_⟩) (by assumption) ?_
        rotate_left
        ·(intro wS hSw; (try dsimp only at hSw); go_split_ands; go_simp; all_goals with_reducible rfl)
        try simp only [Act.put]
        refine heldAny_one (i := 6) rfl (by kernel_rfl) (by kernel_rfl) (fun K hK => ?_)
        go_simp
        go_at_call 65
        refine (hDb.out _).mono ?_
        rintro e w12 ⟨rfl, hbc12⟩
        have hbx12 := Lib.hid (hbd12.out.trans (hbc12.mono hbd12.out.size))
        refine hK.out _ _ (hS12.out _ hbx12.out) (fun hS => ?_)
        try simp only [Act.put]
        clear hK K
        refine heldAny_take (i := 7) (v := ?_) rfl (by kernel_rfl) (by kernel_rfl) (by kernel_rfl) (by kernel_rfl) (fun _ _ _ h => h) (Or.inl ⟨by rfl, ?_⟩) (by assumption) ?_
        rotate_left
        ·(intro wS hSw; (try dsimp only at hSw); go_split_ands; go_simp; all_goals with_reducible rfl)
        try simp only [Act.put]
        refine heldAny_take (i := 8) (v := ?_) rfl (by kernel_rfl) (by kernel_rfl) (by kernel_rfl) (by kernel_rfl) (fun _ _ _ h => h) (Or.inl ⟨by rfl, ?_⟩) (by assumption) ?_
        rotate_left
        ·(intro wS hSw; (try dsimp only at hSw); go_split_ands; go_simp; all_goals with_reducible rfl)
        try simp only [Act.put]
        refine heldAny_take (i := 9) (v := ?_) rfl (by kernel_rfl) (by kernel_rfl) (by kernel_rfl) (by kernel_rfl) (fun _ _ _ h => h) (Or.inl ⟨by rfl, ?_⟩) (by assumption) ?_
        rotate_left
        ·(intro wS hSw; (try dsimp only at hSw); go_split_ands; go_simp; all_goals with_reducible rfl)
        try simp only [Act.put]
        refine heldAny_take (i := 10) (v := ?_) rfl (by kernel_rfl) (by kernel_rfl) (by kernel_rfl) (by kernel_rfl) (fun _ _ _ h => h) (Or.inl ⟨by rfl, ?_⟩) (by assumption) ?_
        rotate_left
        ·(intro wS hSw; (try dsimp only at hSw); go_split_ands; go_simp; all_goals with_reducible rfl)
        try simp only [Act.put]
        refine heldAny_done (by kernel_rfl) ⟨by kernel_rfl, ?_⟩
        simp only [List.drop_succ_cons, List.drop_zero]
        clear hbc12 hbd12 hS hS12
        have kx := hKW.out _ hbx12.out
        have q0 := kx.c 0 _ rfl
        have q1 := kx.c 1 _ rfl
        have q2 := kx.c 2 _ rfl
        clear kx
        go_wp2_with fail
        refine (hT2.out _).mono ?_
        rintro e w13 ⟨rfl, hbc13⟩
        have hbx13 := Lib.hid (hbx12.out.trans (hbc13.mono hbx12.out.size))
        clear q0 q1 q2
        have f0 := hfr.out w13 hbx13.out 0
        have f1 := hfr.out w13 hbx13.out 1
        have f2 := hfr.out w13 hbx13.out 2
        have f3 := hfr.out w13 hbx13.out 3
        rw [Nat.add_zero] at f0
        obtain ⟨y0, y1, y2, y3⟩ := hLc.out w13 hbx13.out
        have hOe := Lib.hid (hset.out w13 hbx13.out)
        have hbE := Lib.hid (hbs2.out w13 hbx13.out)
        clear hbc13 hT2 hfr hset hbs2
        go_wp2_with fail
        go_roundw
        case rel => exact ⟨some ⟨g2, 0, none⟩, c', j + 1, mm, _, D ++ E, rfl, rfl, by omega, by omega, hal3, hMg, hOe, hbE⟩
        case measure => simp [intOf]; omega
       ·have hMg := Lib.hid (hMore.out (Or.inr (by omega)))
        have g2' : decide ((tt : Int) ≤ (sz : Int)) = false := decide_eq_false (by omega)
        clear hMore hJoin hlast hal' hDb hLD hLc hlb hlo hld hll hlv hz0 hz1 hz2 hz3 hcell hfz hdl hel em htt hm1
        go_upto_region 10 with (fail)
        go_quiet (fail)
        obtain ⟨wq, hwq⟩ : ∃ W, wr.drewN nq = W := ⟨_, rfl⟩
        have hBq : Below wr.heap.size wr wq := by rw [← hwq]; exact below_drewN (Below.refl _ _) _
        rw [hwq]
        have ownC := (hAll.out wq hBq).1
        have hb9q := Lib.hid (hAll.out wq hBq).2
        obtain ⟨r0, r1, r2, r3⟩ := hbcells.out wq hBq
        have hwzq : G ≤ wq.heap.size := Nat.le_trans hwz hBq.size
        replace hBq := Lib.hid hBq
        clear hwq p0 p1 p2' p3 hO9 hb9
        go_wp2_with (first
          | (at_builtin; refine wpList_append_row _ elemBlk rfl (.tmp 102) (.tmp 107) rfl G _ _ _ rfl (ownC.alloc _) _ _ 1 1 [.int .i64 (x0 : Int), .bool x1, .int .i64 (x2 : Int), .string x3] rfl (Row.newAt _ _ rfl _ [.int .i64 (x0 : Int), .bool x1, .int .i64 (x2 : Int), .string x3] 1 4 rfl) ?_ ?_ ?_ ?_ ?_))
        all_goals first
         | (intro z hz; simp at hz; rcases hz with rfl | rfl | rfl | rfl <;> rfl)
         | (unfold maxLen; omega)
         | omega
         | (simp; omega)
         | skip
        all_goals (
         intro ve we hve hge _
         obtain ⟨Ae, ce, rfl, _, _⟩ := own_form hve
         have hgx := fun g (hg : (Value.slice (some ⟨g2, 0, none⟩) mm c').ownBlock = some g) => (ownC.lt g hg).1
         have hbE := Lib.hid ((hb9q.out.alloc hwzq _).grown hge (by first | omega | (simp; omega)) (fun g hg => hgx g hg))
         have hOe : Hid (we.ownsRow G 36 4 (.slice Ae (mm + 1) ce) (mm + 1) (cellsB (acc ++ [b]))) := Lib.hid (by rw [hcb.out]; exact hve)
         clear hve hge ownC hgx hb9q
         go_wp2_with fail
         go_roundw
         case rel => exact ⟨Ae, ce, j + 1, mm + 1, acc ++ [b], E, rfl, rfl, by omega, by omega, hal2, hMg, hOe, hbE⟩
         case measure => simp [intOf]; omega)
     ·have hfin : u = some acc := by rw [← hu.out]; exact hmg.out.done (by rw [hlen.out]; omega)
      have hM9 := Lib.hid (HM.out acc hfin A' c' wr mm hal.out.symm (Row.of_own hO.out))
      have hW9 := Lib.hid (hW3.out.trans (hbel.out.mono (by omega)))
      obtain ⟨R, hR⟩ : ∃ R, mkC acc = R := ⟨_, rfl⟩
      rw [hR] at hM9
      have hR' := Lib.hid hR
      replace hfin := Lib.hid hfin
      unfold optV at hM9
      have hji : ¬ ((j : Int) < n) := by omega
      clear HM hmg hO hbel hR
      go_wp2_with fail
      refine hM9.out.mono ?_
      rintro e w10 ⟨rfl, hb10⟩
      have hfin2 := Lib.hid (hW9.out.trans (hb10.mono hW9.out.size))
      clear hb10 hM9
      go_wp2_with fail
      go_ret2
      exact ⟨by rw [hfin.out]; show _ = Ending.returned (optV (mkC acc)); rw [hR'.out]; rfl, hfin2.out⟩

   ·have HR := Lib.hid (fun W => specL6Room o l m size d false W hd (bfalse (fun hh => hsz hh.2)))
    rw [mergeC_no (Or.inl (fun hh => hsz hh.2))]
    clear hbs hnum hok hf hsz hn hn40 hcd hdat
    go_enter Tryz.func21, Tryz.ntmps21
    go_wp2_with fail
    refine (HS.out _).mono ?_
    rintro e w1 ⟨A1, c1, rfl, ho1, hb1⟩
    have hr1 := Lib.hid (Row.of_own ho1)
    have hW1 := Lib.hid (hW0.out.trans (hb1.mono hW0.out.size))
    have kb1 := Lib.hid (kb0.out.below hb1)
    clear hb1 ho1 kb0 hW0
    have q0 := kb1.out.c 0 _ rfl
    have q1 := kb1.out.c 1 _ rfl
    have q2 := kb1.out.c 2 _ rfl
    go_wp2_with fail
    refine (HD0.out _).mono ?_
    rintro e w2 ⟨rfl, hb2⟩
    have hr2 := Lib.hid (Row.more (Row.below hr1.out hb2 (Nat.le_refl _)) hb2.size)
    have hW2 := Lib.hid (hW1.out.trans (hb2.mono hW1.out.size))
    have kb2 := Lib.hid (kb1.out.below hb2)
    clear hb2 hr1 hW1 kb1 q0 q1 q2
    have q0 := kb2.out.c 0 _ rfl
    have q1 := kb2.out.c 1 _ rfl
    have q2 := kb2.out.c 2 _ rfl
    go_wp2_with fail
    refine (HR.out _).mono ?_
    rintro e w3 ⟨rfl, hb3⟩
    have hW3 := Lib.hid (hW2.out.trans (hb3.mono hW2.out.size))
    clear hb3
    go_wp2_with fail
    go_ret2
    exact ⟨rfl, hW3.out⟩

end Go.Proofs.YthlgpgaeajfchaaGreat
