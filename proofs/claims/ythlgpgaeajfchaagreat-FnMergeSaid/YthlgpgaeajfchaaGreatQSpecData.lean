/-
 Taken out of SpecRead.
-/
import Derived.Test.YthlgpgaeajfchaaGreatQSpecRead

namespace Go.Proofs.YthlgpgaeajfchaaGreat
open Go.RowKit
set_option linter.unusedVariables false
set_option linter.unusedSimpArgs false
set_option maxRecDepth 100000

set_option maxHeartbeats 2000000 in
theorem specL5All (o l m : Nat) (d : List UInt8) (A : Option Addr) (n c B : Nat) (bs : List Blk) (w : World) (h : dfits o l m d) (hr : Row w B 4 A n (cellsB bs)) (hB : B ≤ w.heap.size) (hn : n ≤ 40) (hok : ∀ b ∈ bs, b.okb) (hz : szs bs ≤ 4000) :
  Calls Tryz.prog 93 #[.agg #[.int .i64 (o : Int), .int .i64 (l : Int), .int .i64 (m : Int)], .string (bsL d), .slice A n c] w fun e w' => e = .returned (.tuple #[.string (bsL (((Kn.dict o l m d).datas bs).getD [])), .bool ((Kn.dict o l m d).datas bs).isSome]) ∧ Below w.heap.size w w' := by
 have hlen := hr.len4
 have HD := fun (b : Blk) (hb : b.okb) W => specL5Data o l m d b W h hb
 obtain ⟨k, hk⟩ : ∃ k, Kn.dict o l m d = k := ⟨_, rfl⟩
 simp only [hk] at HD ⊢
 have kb0 := Lib.hid (KBn.start w 24 [.int .i64 (o : Int), .int .i64 (l : Int), .int .i64 (m : Int)])
 have hW0 := Lib.hid ((Below.refl w.heap.size w).alloc (Nat.le_refl _) (.cells #[.int .i64 (o : Int), .int .i64 (l : Int), .int .i64 (m : Int)] 24))
 replace HD := Lib.hid HD
 replace hr := Lib.hid hr
 replace hok := Lib.hid hok
 clear hk h
 go_enter Tryz.func93, Tryz.ntmps93
 go_wp2_with fail
 go_loopw [8, 9] (fun v i wr => ∃ (j : Nat) (D : List UInt8), j ≤ n ∧ i = .int .i64 (j : Int) ∧ v = .string (bsL D) ∧ Hid (k.datas (bs.take j) = some D) ∧ Hid (KBn wr w.heap.size [.int .i64 (o : Int), .int .i64 (l : Int), .int .i64 (m : Int)]) ∧ Hid (Below w.heap.size w wr)) (fun _ i _ => n - (intOf i).toNat)
 case atStart => exact ⟨0, [], Nat.zero_le _, rfl, rfl, Lib.hid rfl, kb0, hW0⟩
 case round =>
  obtain ⟨j, D, hj, rfl, rfl, hD, hK, hbel⟩ := hrel
  clear kb0 hW0
  have hwz := hbel.out.size
  by_cases hlt : j < n
  ·obtain ⟨b, hb⟩ : ∃ b, bs[j]? = some b := ⟨_, List.getElem?_eq_getElem (by omega)⟩
   have hbv : b.val = .agg #[.int .i64 b.num, .bool b.raw, .int .i64 b.size, .string b.body] := rfl
   obtain ⟨g, off, rfl, hg, p0, p1, p2, p3⟩ := (hr.out.below hbel.out hB).blk (num := b.num) (raw := b.raw) (size := b.size) (body := b.body) hlt hb
   have hob := hok.out b (List.mem_of_getElem? hb)
   have hDl : D.length ≤ 4000 := by
    have h1 := Kn.datas_size (fun b hb => hok.out b (List.mem_of_mem_take hb)) hD.out
    have h2 := szs_take_le bs j
    omega
   have hkb := fun W => HD.out b hob W
   have hKo := hK
   have hSX : Hid (∀ W, Below wr.heap.size wr W → W.cell? ⟨w.heap.size, 0, none⟩ = some (.int .i64 (o : Int)) ∧ W.cell? ⟨w.heap.size, 1, none⟩ = some (.int .i64 (l : Int)) ∧ W.cell? ⟨w.heap.size, 2, none⟩ = some (.int .i64 (m : Int)) ∧ W.cell? ⟨g, off + j * 4, none⟩ = some (.int .i64 b.num) ∧ W.cell? ⟨g, off + j * 4 + 1, none⟩ = some (.bool b.raw) ∧ W.cell? ⟨g, off + j * 4 + 2, none⟩ = some (.int .i64 b.size) ∧ W.cell? ⟨g, off + j * 4 + 3, none⟩ = some (.string b.body)) := Lib.hid (fun W hW => by
    have k1 := hK.out.below hW
    exact ⟨k1.c 0 _ rfl, k1.c 1 _ rfl, k1.c 2 _ rfl, (hW.cell (by show g < _; omega)).trans p0, (hW.cell (by show g < _; omega)).trans p1, (hW.cell (by show g < _; omega)).trans p2, (hW.cell (by show g < _; omega)).trans p3⟩)
   have hno : Hid (k.blockData b = none → k.datas bs = none) := Lib.hid (fun h2 => Kn.datas_none hb h2)
   have hyes : Hid (∀ e, k.blockData b = some e → k.datas (bs.take (j + 1)) = some (D ++ e) ∧ e.length ≤ 64) := Lib.hid (fun e h2 => ⟨Kn.datas_take hb hD.out h2, by have := Kn.blockData_size hob h2; have := hob.2.1; omega⟩)
   rw [hbv] at hkb
   obtain ⟨x0, hx0⟩ : ∃ x : Nat, b.num = x := ⟨_, rfl⟩
   obtain ⟨x1, hx1⟩ : ∃ x, b.raw = x := ⟨_, rfl⟩
   obtain ⟨x2, hx2⟩ : ∃ x : Nat, b.size = x := ⟨_, rfl⟩
   obtain ⟨x3, hx3⟩ : ∃ x, b.body = x := ⟨_, rfl⟩
   simp only [hx0, hx1, hx2, hx3] at hkb hSX
   obtain ⟨R, hR⟩ : ∃ R, bsL ((k.blockData b).getD []) = R := ⟨_, rfl⟩
   obtain ⟨sb, hsb⟩ : ∃ sb, (k.blockData b).isSome = sb := ⟨_, rfl⟩
   simp only [hR, hsb] at hkb
   obtain ⟨bo, hbo⟩ : ∃ x, k.blockData b = x := ⟨_, rfl⟩
   rw [hbo] at hR hsb hno hyes
   replace hkb := Lib.hid hkb
   replace hR := Lib.hid hR
   have hlt0 : (0 : Int) ≤ j := by omega
   have hlti : (j : Int) < n := by omega
   clear hbv hx0 hx1 hx2 hx3 hb hob hbo p0 p1 p2 p3 hlen
   go_upto_region 5 with (fail)
   refine wp_region_held_tail (S := fun W => W.cell? ⟨w.heap.size, 0, none⟩ = some (.int .i64 (o : Int)) ∧ W.cell? ⟨w.heap.size, 1, none⟩ = some (.int .i64 (l : Int)) ∧ W.cell? ⟨w.heap.size, 2, none⟩ = some (.int .i64 (m : Int)) ∧ W.cell? ⟨g, off + j * 4, none⟩ = some (.int .i64 x0) ∧ W.cell? ⟨g, off + j * 4 + 1, none⟩ = some (.bool x1) ∧ W.cell? ⟨g, off + j * 4 + 2, none⟩ = some (.int .i64 x2) ∧ W.cell? ⟨g, off + j * 4 + 3, none⟩ = some (.string x3)) 11 (by kernel_rfl) (by kernel_rfl) (hSX.out _ (Below.refl _ _).drew) (fun hS => ?_)
   have hb5 := Lib.hid ((Below.refl wr.heap.size wr).drew)
   refine heldAny_take (i := 0) (v := ?_) rfl (by kernel_rfl) (by kernel_rfl) (by kernel_rfl) (by kernel_rfl) (fun _ _ _ h => h) (Or.inl ⟨by rfl, ?_⟩) (by assumption) ?_
   rotate_left
   ·(intro wS hSw; (try dsimp only at hSw); go_split_ands; go_simp; all_goals with_reducible rfl)
   try simp only [Act.put]
   refine heldAny_take (i := 1) (v := ?_) rfl (by kernel_rfl) (by kernel_rfl) (by kernel_rfl) (by kernel_rfl) (fun _ _ _ h => h) (Or.inl ⟨by rfl, ?_⟩) (by assumption) ?_
   rotate_left
   ·(intro wS hSw; (try dsimp only at hSw); go_split_ands; go_simp; all_goals with_reducible rfl)
   try simp only [Act.put]
   refine heldAny_take (i := 2) (v := ?_) rfl (by kernel_rfl) (by kernel_rfl) (by kernel_rfl) (by kernel_rfl) (fun _ _ _ h => h) (Or.inl ⟨by rfl, ?_⟩) (by assumption) ?_
   rotate_left
   ·(intro wS hSw; (try dsimp only at hSw); go_split_ands; go_simp; all_goals with_reducible rfl)
   try simp only [Act.put]
   refine heldAny_take (i := 3) (v := ?_) rfl (by kernel_rfl) (by kernel_rfl) (by kernel_rfl) (by kernel_rfl) (fun _ _ _ h => h) (Or.inl ⟨by rfl, ?_⟩) (by assumption) ?_
   rotate_left
   ·(intro wS hSw; (try dsimp only at hSw); go_split_ands; go_simp; all_goals with_reducible rfl)
   try simp only [Act.put]
   refine heldAny_take (i := 4) (v := ?_) rfl (by kernel_rfl) (by kernel_rfl) (by kernel_rfl) (by kernel_rfl) (fun _ _ _ h => h) (Or.inl ⟨by rfl, ?_⟩) (by assumption) ?_
   rotate_left
   ·(intro wS hSw; (try dsimp only at hSw); go_split_ands; go_simp; all_goals with_reducible rfl)
   try simp only [Act.put]
   refine heldAny_take (i := 5) (v := ?_) rfl (by kernel_rfl) (by kernel_rfl) (by kernel_rfl) (by kernel_rfl) (fun _ _ _ h => h) (Or.inl ⟨by rfl, ?_⟩) (by assumption) ?_
   rotate_left
   ·(intro wS hSw; (try dsimp only at hSw); go_split_ands; go_simp; all_goals with_reducible rfl)
   try simp only [Act.put]
   refine heldAny_one (i := 6) rfl (by kernel_rfl) (by kernel_rfl) (fun K hK => ?_)
   go_simp
   go_at_call 65
   refine (hkb.out _).mono ?_
   rintro e w6 ⟨rfl, hb6⟩
   have hb6x := Lib.hid (hb5.out.trans (hb6.mono hb5.out.size))
   refine hK.out _ _ (hSX.out _ hb6x.out) (fun hS => ?_)
   try simp only [Act.put]
   refine heldAny_take (i := 7) (v := ?_) rfl (by kernel_rfl) (by kernel_rfl) (by kernel_rfl) (by kernel_rfl) (fun _ _ _ h => h) (Or.inl ⟨by rfl, ?_⟩) (by assumption) ?_
   rotate_left
   ·(intro wS hSw; (try dsimp only at hSw); go_split_ands; go_simp; all_goals with_reducible rfl)
   try simp only [Act.put]
   refine heldAny_take (i := 8) (v := ?_) rfl (by kernel_rfl) (by kernel_rfl) (by kernel_rfl) (by kernel_rfl) (fun _ _ _ h => h) (Or.inl ⟨by rfl, ?_⟩) (by assumption) ?_
   rotate_left
   ·(intro wS hSw; (try dsimp only at hSw); go_split_ands; go_simp; all_goals with_reducible rfl)
   try simp only [Act.put]
   refine heldAny_take (i := 9) (v := ?_) rfl (by kernel_rfl) (by kernel_rfl) (by kernel_rfl) (by kernel_rfl) (fun _ _ _ h => h) (Or.inl ⟨by rfl, ?_⟩) (by assumption) ?_
   rotate_left
   ·(intro wS hSw; (try dsimp only at hSw); go_split_ands; go_simp; all_goals with_reducible rfl)
   try simp only [Act.put]
   refine heldAny_take (i := 10) (v := ?_) rfl (by kernel_rfl) (by kernel_rfl) (by kernel_rfl) (by kernel_rfl) (fun _ _ _ h => h) (Or.inl ⟨by rfl, ?_⟩) (by assumption) ?_
   rotate_left
   ·(intro wS hSw; (try dsimp only at hSw); go_split_ands; go_simp; all_goals with_reducible rfl)
   try simp only [Act.put]
   refine heldAny_done (by kernel_rfl) ⟨by kernel_rfl, ?_⟩
   simp only [List.drop_succ_cons, List.drop_zero]
   have hK6 := Lib.hid (hKo.out.below hb6x.out)
   have hW6 := Lib.hid (hbel.out.trans (hb6x.out.mono hwz))
   clear hKo hK K hb6 hb6x hb5 hSX hS hkb hbel
   rcases bo with _ | e
   ·obtain rfl : sb = false := hsb.symm
    have hn2 := Lib.hid (hno.out rfl)
    have hR2 : R = ⟨#[]⟩ := hR.out.symm
    subst hR2
    clear hno hyes
    go_wp2_with fail
    refine bodyPost_ret (v := .tuple #[.string ⟨#[]⟩, .bool false]) (by simp [results, Tryz.results93, go_sem]) rfl ?_
    exact ⟨by rw [hn2.out]; rfl, hW6.out⟩
   ·obtain rfl : sb = true := hsb.symm
    have hn2 := Lib.hid (hyes.out e rfl)
    have hR2 : bsL e = R := hR.out
    subst hR2
    have hel := hn2.out.2
    have hadd : ∀ W, (Op.stringOp .add (bsL D) (bsL e)).run Tryz.prog W = .ok (.string (bsL (D ++ e))) W := fun W => by
     rw [run_string_add_sum W _ _ (by rw [bsL_size, bsL_size]; omega), bsL_append]
    clear hno hyes hel
    go_wp2_with fail
    go_roundw
    case rel => exact ⟨j + 1, D ++ e, by omega, by go_num, rfl, Lib.hid hn2.out.1, hK6, hW6⟩
    case measure => simp [intOf]; omega
  ·obtain rfl : j = n := by omega
   have hfin : k.datas bs = some D := by
    rw [← hD.out, List.take_of_length_le (by omega)]
   replace hfin := Lib.hid hfin
   clear hlen
   go_wp2_with fail
   refine bodyPost_ret (v := .tuple #[.string (bsL D), .bool true]) (by simp [results, Tryz.results93, go_sem]) rfl ?_
   exact ⟨by rw [hfin.out]; rfl, hbel.out⟩

set_option maxHeartbeats 2000000 in
theorem specContainerData (o l m : Int) (d s : ByteArray) (w : World) (hd : d.size ≤ 1048576) (hs : s.size ≤ 1048576) :
  Calls Tryz.prog 53 #[.agg #[.int .i64 o, .int .i64 l, .int .i64 m], .string d, .string s] w fun e w' => e = .returned (.tuple #[.string (bsL ((contD o l m d.data.toList (contB s)).getD [])), .bool (contD o l m d.data.toList (contB s)).isSome]) ∧ Below w.heap.size w w' := by
 have hW0 := Lib.hid ((Below.refl w.heap.size w).alloc (Nat.le_refl _) (.cells #[.int .i64 o, .int .i64 l, .int .i64 m] 24))
 have kb0 := Lib.hid (KBn.start w 24 [.int .i64 o, .int .i64 l, .int .i64 m])
 rcases hbs : contB s with _ | bs
 ·have HS := Lib.hid (fun W => specL5BlocksNo s W hs hbs)
  clear hbs
  go_enter Tryz.func53, Tryz.ntmps53
  go_wp2_with fail
  refine (HS.out _).mono ?_
  rintro e w1 ⟨A1, c1, rfl, _, hb1⟩
  have hW1 := Lib.hid (hW0.out.trans (hb1.mono hW0.out.size))
  clear hb1
  go_wp2_with fail
  refine bodyPost_ret (v := .tuple #[.string ⟨#[]⟩, .bool false]) (by simp [results, Tryz.results53, go_sem]) rfl ?_
  exact ⟨rfl, hW1.out⟩
 ·obtain ⟨n, hn⟩ : ∃ n, bs.length = n := ⟨_, rfl⟩
  have HS := Lib.hid (fun W => specL5BlocksYes s bs n W hs hbs hn)
  have hnum := contB_numbered hbs
  have hn40 := hnum.length
  rw [hn] at hn40
  have hok : ∀ b ∈ bs, b.okb := fun b hb => Blk.okb_of (hnum.of_mem hb)
  have hz := szs_le (fun b hm => hnum.of_mem hm)
  rw [hn] at hz
  by_cases hf : dfits o l m d.data.toList
  ·have HR := Lib.hid (fun W => specL5Ready o l m d true W hd (btrue hf))
   obtain ⟨on, rfl⟩ : ∃ n : Nat, o = n := ⟨o.toNat, by have := hf.1.1; omega⟩
   obtain ⟨ln, rfl⟩ : ∃ n : Nat, l = n := ⟨l.toNat, by have := hf.1.2.1; omega⟩
   obtain ⟨mn, rfl⟩ : ∃ n : Nat, m = n := ⟨m.toNat, by have := hf.1.2; omega⟩
   have HA := fun A c W (hr : Row W W.heap.size 4 A n (cellsB bs)) => specL5All on ln mn d.data.toList A n c W.heap.size bs W hf hr (Nat.le_refl _) (by omega) hok (by omega)
   have hbd : bsL d.data.toList = d := rfl
   rw [hbd] at HA
   have hA : contD on ln mn d.data.toList (some bs) = (Kn.dict on ln mn d.data.toList).datas bs := by
    show (if _ then _ else _) = _
    rw [if_pos hf]; rfl
   rw [hA]
   obtain ⟨R, hR⟩ : ∃ R, bsL (((Kn.dict on ln mn d.data.toList).datas bs).getD []) = R := ⟨_, rfl⟩
   obtain ⟨q, hq⟩ : ∃ q, ((Kn.dict on ln mn d.data.toList).datas bs).isSome = q := ⟨_, rfl⟩
   rw [hR, hq] at HA ⊢
   replace HA := Lib.hid HA
   clear hA hbd hR hq hok hz hnum hbs hf hn hn40
   go_enter Tryz.func53, Tryz.ntmps53
   go_wp2_with fail
   refine (HS.out _).mono ?_
   rintro e w1 ⟨A1, c1, rfl, ho1, hb1⟩
   have hr1 := Lib.hid (Row.of_own ho1)
   have hW1 := Lib.hid (hW0.out.trans (hb1.mono hW0.out.size))
   have kb1 := Lib.hid (kb0.out.below hb1)
   clear hb1 ho1 kb0 hW0
   have q0 := kb1.out.c 0 _ rfl
   have q1 := kb1.out.c 1 _ rfl
   have q2 := kb1.out.c 2 _ rfl
   go_wp2_with fail
   refine (HR.out _).mono ?_
   rintro e w2 ⟨rfl, hb2⟩
   have hr2 := Lib.hid (Row.more (Row.below hr1.out hb2 (Nat.le_refl _)) hb2.size)
   have hW2 := Lib.hid (hW1.out.trans (hb2.mono hW1.out.size))
   have kb2 := kb1.out.below hb2
   clear hb2 hr1 hW1 kb1 q0 q1 q2
   have q0 := kb2.c 0 _ rfl
   have q1 := kb2.c 1 _ rfl
   have q2 := kb2.c 2 _ rfl
   clear kb2
   go_wp2_with fail
   refine (HA.out _ _ _ hr2.out).mono ?_
   rintro e w3 ⟨rfl, hb3⟩
   have hW3 := Lib.hid (hW2.out.trans (hb3.mono hW2.out.size))
   clear hb3 hr2 hW2 q0 q1 q2
   go_wp2_with fail
   refine bodyPost_ret (v := .tuple #[.string R, .bool q]) (by simp [results, Tryz.results53, go_sem]) rfl ?_
   exact ⟨rfl, hW3.out⟩
  ·have HR := Lib.hid (fun W => specL5Ready o l m d false W hd (bfalse hf))
   have hA : contD o l m d.data.toList (some bs) = none := by
    show (if _ then _ else _) = _
    rw [if_neg hf]
   rw [hA]
   clear hA hok hz hnum hbs hf hn hn40
   go_enter Tryz.func53, Tryz.ntmps53
   go_wp2_with fail
   refine (HS.out _).mono ?_
   rintro e w1 ⟨A1, c1, rfl, ho1, hb1⟩
   have hW1 := Lib.hid (hW0.out.trans (hb1.mono hW0.out.size))
   have kb1 := kb0.out.below hb1
   clear hb1 ho1 kb0 hW0
   have q0 := kb1.c 0 _ rfl
   have q1 := kb1.c 1 _ rfl
   have q2 := kb1.c 2 _ rfl
   clear kb1
   go_wp2_with fail
   refine (HR.out _).mono ?_
   rintro e w2 ⟨rfl, hb2⟩
   have hW2 := Lib.hid (hW1.out.trans (hb2.mono hW1.out.size))
   clear hb2 hW1 q0 q1 q2
   go_wp2_with fail
   refine bodyPost_ret (v := .tuple #[.string ⟨#[]⟩, .bool false]) (by simp [results, Tryz.results53, go_sem]) rfl ?_
   exact ⟨rfl, hW2.out⟩

set_option maxHeartbeats 2000000 in
theorem specMakeAny (o l m size : Int) (d : ByteArray) (D : List UInt8) (w : World) (hd : d.size ≤ 1048576) (hf : dfits o l m d.data.toList) (hD : D.length ≤ 4000) :
  Calls Tryz.prog 54 #[.agg #[.int .i64 o, .int .i64 l, .int .i64 m], .string d, .string (bsL D), .int .i64 size] w fun e w' => e = .returned (optV (if (1 ≤ size ∧ size ≤ 64) ∧ (D.length : Int) ≤ size * 40 ∧ D.length ≤ 2000 then some (textsFrom 0 ((kdict o l m d.data.toList).split size.toNat D)) else none)) ∧ Below w.heap.size w w' := by
 by_cases hm : (1 ≤ size ∧ size ≤ 64) ∧ (D.length : Int) ≤ size * 40 ∧ D.length ≤ 2000
 ·rw [if_pos hm]
  obtain ⟨on, rfl⟩ : ∃ n : Nat, o = n := ⟨o.toNat, by have := hf.1.1; omega⟩
  obtain ⟨ln, rfl⟩ : ∃ n : Nat, l = n := ⟨l.toNat, by have := hf.1.2.1; omega⟩
  obtain ⟨mn, rfl⟩ : ∃ n : Nat, m = n := ⟨m.toNat, by have := hf.1.2; omega⟩
  obtain ⟨sz, rfl⟩ : ∃ n : Nat, size = n := ⟨size.toNat, by omega⟩
  exact specMakeContainerYes on ln mn sz d.data.toList D w hf (by omega) (by omega) (by omega) hm.2.2
 ·rw [if_neg hm]
  have hDs : (bsL D).size = D.length := rfl
  exact specMakeContainerNo o l m size d (bsL D) w hd (by omega) (fun hh => hm ⟨hh.2.1, by rw [← hDs]; exact hh.2.2.1, by rw [← hDs]; exact hh.2.2.2⟩)

set_option maxHeartbeats 2000000 in
theorem specResizeBlocks (o l m size : Int) (d s : ByteArray) (w : World) (hd : d.size ≤ 1048576) (hs : s.size ≤ 1048576) :
  Calls Tryz.prog 15 #[.agg #[.int .i64 o, .int .i64 l, .int .i64 m], .string d, .string s, .int .i64 size] w fun e w' => e = .returned (optV (resizeC o l m d.data.toList (contB s) size)) ∧ Below w.heap.size w w' := by
 have hW0 := Lib.hid ((Below.refl w.heap.size w).alloc (Nat.le_refl _) (.cells #[.int .i64 o, .int .i64 l, .int .i64 m] 24))
 have kb0 := Lib.hid (KBn.start w 24 [.int .i64 o, .int .i64 l, .int .i64 m])
 have HC := fun W => specContainerData o l m d s W hd hs
 unfold resizeC
 rcases hD : contD o l m d.data.toList (contB s) with _ | D
 ·simp only [hD] at HC
  replace HC := Lib.hid HC
  clear hD
  go_enter Tryz.func15, Tryz.ntmps15
  go_wp2_with fail
  refine (HC.out _).mono ?_
  rintro e w1 ⟨rfl, hb1⟩
  have hW1 := Lib.hid (hW0.out.trans (hb1.mono hW0.out.size))
  clear hb1
  go_wp2_with fail
  refine bodyPost_ret (v := .tuple #[.string ⟨#[]⟩, .bool false]) (by simp [results, Tryz.results15, go_sem]) rfl ?_
  exact ⟨rfl, hW1.out⟩
 ·simp only [hD, Option.getD_some, Option.isSome_some] at HC
  obtain ⟨hf, hDl⟩ := contD_some hD
  have HM := fun W => specMakeAny o l m size d D W hd hf hDl
  simp only
  obtain ⟨R, hR⟩ : ∃ R, (if (1 ≤ size ∧ size ≤ 64) ∧ (D.length : Int) ≤ size * 40 ∧ D.length ≤ 2000 then some (textsFrom 0 ((kdict o l m d.data.toList).split size.toNat D)) else none) = R := ⟨_, rfl⟩
  rw [hR] at HM ⊢
  obtain ⟨X, hX⟩ : ∃ X, bsL D = X := ⟨_, rfl⟩
  rw [hX] at HM HC
  unfold optV at HM ⊢
  replace HC := Lib.hid HC
  replace HM := Lib.hid HM
  clear hD hf hDl hR hX
  go_enter Tryz.func15, Tryz.ntmps15
  go_wp2_with fail
  refine (HC.out _).mono ?_
  rintro e w1 ⟨rfl, hb1⟩
  have hW1 := Lib.hid (hW0.out.trans (hb1.mono hW0.out.size))
  have kb1 := kb0.out.below hb1
  clear hb1 kb0 hW0
  have q0 := kb1.c 0 _ rfl
  have q1 := kb1.c 1 _ rfl
  have q2 := kb1.c 2 _ rfl
  clear kb1
  go_wp2_with fail
  refine (HM.out _).mono ?_
  rintro e w2 ⟨rfl, hb2⟩
  have hW2 := Lib.hid (hW1.out.trans (hb2.mono hW1.out.size))
  clear hb2 hW1 q0 q1 q2
  go_wp2_with fail
  go_ret2
  exact ⟨rfl, hW2.out⟩

end Go.Proofs.YthlgpgaeajfchaaGreat
