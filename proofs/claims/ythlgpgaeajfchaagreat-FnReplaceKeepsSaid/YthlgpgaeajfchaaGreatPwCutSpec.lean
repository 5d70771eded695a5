/-
 CutContainer of the reference.
-/
import Derived.Test.YthlgpgaeajfchaaGreatPwSpecRead

namespace Go.Proofs.YthlgpgaeajfchaaGreat
open Go.RowKit
set_option linter.unusedVariables false
set_option linter.unusedSimpArgs false
set_option maxRecDepth 100000

set_option maxHeartbeats 2000000 in
theorem specL6Part (o l m : Nat) (d : List UInt8) (b : Blk) (fr up : Nat) (w : World) (h : dfits o l m d) (hb : b.okb) (h1 : fr ≤ up) (h2 : up ≤ b.size) :
  Calls Tryz.prog 112 #[.agg #[.int .i64 (o : Int), .int .i64 (l : Int), .int .i64 (m : Int)], .string (bsL d), b.val, .int .i64 (fr : Int), .int .i64 (up : Int)] w fun e w' => ∃ pb : Blk, e = .returned (.tuple #[pb.val, .bool ((Kn.dict o l m d).blockData b).isSome]) ∧ (∀ D, (Kn.dict o l m d).blockData b = some D → pb = (Kn.dict o l m d).block ((D.drop fr).take (up - fr))) ∧ Below w.heap.size w w' := by
 have HD := fun W => specL5Data o l m d b W h hb
 have HB := fun (L : List UInt8) (hL : L.length ≤ 100000) W => specL5Block o l m 0 d L W h hL
 have h64 := hb.2.1
 obtain ⟨k, hk⟩ : ∃ k, Kn.dict o l m d = k := ⟨_, rfl⟩
 rw [hk] at HD ⊢
 simp only [hk, block_renum] at HB
 have hlen : ∀ D, k.blockData b = some D → D.length = b.size := fun D hD => Kn.blockData_size hb hD
 have hbv : b.val = .agg #[.int .i64 b.num, .bool b.raw, .int .i64 b.size, .string b.body] := rfl
 rw [hbv] at HD ⊢
 obtain ⟨x0, hx0⟩ : ∃ x : Nat, b.num = x := ⟨_, rfl⟩
 obtain ⟨x1, hx1⟩ : ∃ x, b.raw = x := ⟨_, rfl⟩
 obtain ⟨x2, hx2⟩ : ∃ x : Nat, b.size = x := ⟨_, rfl⟩
 obtain ⟨x3, hx3⟩ : ∃ x, b.body = x := ⟨_, rfl⟩
 rw [hx0, hx1, hx2, hx3] at HD ⊢
 rw [hx2] at h2 h64 hlen
 obtain ⟨bo, hbo⟩ : ∃ x, k.blockData b = x := ⟨_, rfl⟩
 rw [hbo] at HD hlen ⊢
 have kb0 := ((KBn.start w 24 [.int .i64 (o : Int), .int .i64 (l : Int), .int .i64 (m : Int)]).below ((Below.refl _ _).alloc (Nat.le_refl _) (.cells #[.int .i64 (x0 : Int), .bool x1, .int .i64 (x2 : Int), .string x3] 36))).below ((Below.refl _ _).alloc (Nat.le_refl _) (.cells #[.int .i64 0, .bool false, .int .i64 0, .string ⟨#[]⟩] 36))
 have kr0 := KBn.start ((w.alloc (.cells #[.int .i64 (o : Int), .int .i64 (l : Int), .int .i64 (m : Int)] 24)).alloc (.cells #[.int .i64 (x0 : Int), .bool x1, .int .i64 (x2 : Int), .string x3] 36)) 36 [.int .i64 0, .bool false, .int .i64 0, .string ⟨#[]⟩]
 have hW0 := Lib.hid ((((Below.refl w.heap.size w).alloc (Nat.le_refl _) (.cells #[.int .i64 (o : Int), .int .i64 (l : Int), .int .i64 (m : Int)] 24)).alloc (by simp) (.cells #[.int .i64 (x0 : Int), .bool x1, .int .i64 (x2 : Int), .string x3] 36)).alloc (by simp; omega) (.cells #[.int .i64 0, .bool false, .int .i64 0, .string ⟨#[]⟩] 36))
 simp only [World.size_alloc] at kr0
 replace kb0 := Lib.hid kb0
 replace kr0 := Lib.hid kr0
 replace HD := Lib.hid HD
 replace HB := Lib.hid HB
 have hG2 : Hid (w.heap.size ≤ w.heap.size + 1 + 1) := Lib.hid (by omega)
 rcases bo with _ | D
 ·have hn : (none : Option (List UInt8)).getD [] = [] := rfl
  clear hbv hb h hk hx0 hx1 hx2 hx3 hbo hlen HB h1
  go_enter Tryz.func112, Tryz.ntmps112
  go_wp2_with fail
  refine (HD.out _).mono ?_
  rintro e w2 ⟨rfl, hb2⟩
  have hW2 := hW0.out.trans (hb2.mono hW0.out.size)
  have kr2 := kr0.out.below hb2
  have r0 := kr2.c 0 _ rfl
  have r1 := kr2.c 1 _ rfl
  have r2 := kr2.c 2 _ rfl
  have r3 := kr2.c 3 _ rfl
  have y0 := kr2.f 0 _ rfl
  have y1 := kr2.f 1 _ rfl
  have y2 := kr2.f 2 _ rfl
  have y3 := kr2.f 3 _ rfl
  have hW3 := Lib.hid ((((hW2.setCell (p := ⟨w.heap.size + 1 + 1, 0, none⟩) hG2.out (.int .i64 0)).setCell (p := ⟨w.heap.size + 1 + 1, 1, none⟩) hG2.out (.bool false)).setCell (p := ⟨w.heap.size + 1 + 1, 2, none⟩) hG2.out (.int .i64 0)).setCell (p := ⟨w.heap.size + 1 + 1, 3, none⟩) hG2.out (.string ⟨#[]⟩))
  clear hb2 hW2 kr2 hW0 kb0 kr0 HD
  go_wp2_with fail
  refine bodyPost_ret (v := .tuple #[.agg #[.int .i64 0, .bool false, .int .i64 0, .string ⟨#[]⟩], .bool false]) (by simp [results, Tryz.results112, go_sem, r0, r1, r2, r3]) rfl ?_
  exact ⟨⟨0, false, 0, ⟨#[]⟩⟩, rfl, (fun D hD => by cases hD), hW3.out⟩
 ·have hDl := hlen D rfl
  have hDs : (bsL D).size = x2 := hDl
  have hB2 := HB.out ((D.drop fr).take (up - fr)) (by rw [List.length_take, List.length_drop]; omega)
  obtain ⟨T, hT⟩ : ∃ T, bsL ((D.drop fr).take (up - fr)) = T := ⟨_, rfl⟩
  obtain ⟨pb, hpb⟩ : ∃ pb, k.block ((D.drop fr).take (up - fr)) = pb := ⟨_, rfl⟩
  rw [hT, hpb] at hB2
  have hpv : pb.val = .agg #[.int .i64 pb.num, .bool pb.raw, .int .i64 pb.size, .string pb.body] := rfl
  rw [hpv] at hB2
  obtain ⟨z0, hz0⟩ : ∃ x : Nat, pb.num = x := ⟨_, rfl⟩
  obtain ⟨z1, hz1⟩ : ∃ x, pb.raw = x := ⟨_, rfl⟩
  obtain ⟨z2, hz2⟩ : ∃ x : Nat, pb.size = x := ⟨_, rfl⟩
  obtain ⟨z3, hz3⟩ : ∃ x, pb.body = x := ⟨_, rfl⟩
  have hpe : Hid (pb.val = .agg #[.int .i64 (z0 : Int), .bool z1, .int .i64 (z2 : Int), .string z3]) := Lib.hid (by rw [hpv, hz0, hz1, hz2, hz3])
  rw [hz0, hz1, hz2, hz3] at hB2
  have hsl : (bsL D).extract fr up = T := by rw [bsL_cut, hT]
  have hpb' : Hid (∀ D', some D = some D' → pb = k.block ((D'.drop fr).take (up - fr))) := Lib.hid (fun D' e => by injection e with e; subst e; exact hpb.symm)
  have i0 : (0 : Int) ≤ fr := by omega
  have i1 : (fr : Int) ≤ up := by omega
  have i2 : (up : Int) ≤ x2 := by omega
  obtain ⟨X, hX⟩ : ∃ X, bsL D = X := ⟨_, rfl⟩
  have hgd : (some D).getD [] = D := rfl
  have hsm : (some D).isSome = true := rfl
  simp only [hgd, hsm, hX] at HD
  rw [hX] at hDs hsl
  rw [hsm]
  replace hB2 := Lib.hid hB2
  clear hbv hb h hk hx0 hx1 hx2 hx3 hbo hlen HB hDl hT hpb hpv hz0 hz1 hz2 hz3 hX hgd hsm
  go_enter Tryz.func112, Tryz.ntmps112
  go_wp2_with fail
  refine (HD.out _).mono ?_
  rintro e w2 ⟨rfl, hb2⟩
  have hW2 := Lib.hid (hW0.out.trans (hb2.mono hW0.out.size))
  have kr2 := Lib.hid (kr0.out.below hb2)
  have kb2 := Lib.hid (kb0.out.below hb2)
  clear hb2 hW0 kb0 kr0 HD
  go_upto_region 4 with (fail)
  have hSX : Hid (∀ W, Below w2.heap.size w2 W → W.cell? ⟨w.heap.size, 0, none⟩ = some (.int .i64 (o : Int)) ∧ W.cell? ⟨w.heap.size, 1, none⟩ = some (.int .i64 (l : Int)) ∧ W.cell? ⟨w.heap.size, 2, none⟩ = some (.int .i64 (m : Int))) := Lib.hid (fun W hW => by
   have kx := kb2.out.below hW
   exact ⟨kx.c 0 _ rfl, kx.c 1 _ rfl, kx.c 2 _ rfl⟩)
  refine wp_region_held_tail (S := fun W => W.cell? ⟨w.heap.size, 0, none⟩ = some (.int .i64 (o : Int)) ∧ W.cell? ⟨w.heap.size, 1, none⟩ = some (.int .i64 (l : Int)) ∧ W.cell? ⟨w.heap.size, 2, none⟩ = some (.int .i64 (m : Int))) 7 (by kernel_rfl) (by kernel_rfl) (hSX.out _ (Below.refl _ _).drew) (fun hS => ?_)
  have hb5 := Lib.hid ((Below.refl w2.heap.size w2).drew)
  refine heldAny_take (i := 0) (v := ?_) rfl (by kernel_rfl) (by kernel_rfl) (by kernel_rfl) (by kernel_rfl) (fun _ _ _ h => h) (Or.inl ⟨by rfl, ?_⟩) (by assumption) ?_
  rotate_left
  ·(intro wS hSw; (try dsimp only at hSw); go_split_ands; go_simp; all_goals with_reducible rfl)
  try simp only [Act.put]
  refine heldAny_take (i := 1) (v := ?_) rfl (by kernel_rfl) (by kernel_rfl) (by kernel_rfl) (by kernel_rfl) (fun _ _ _ h => h) (Or.inl ⟨by rfl, ?_⟩) (by assumption) ?_
  rotate_left
  ·(intro wS hSw; (try dsimp only at hSw); go_split_ands; go_simp; all_goals with_reducible rfl)
  try simp only [Act.put]
  refine heldAny_take (i := 2) (v := ?_) rfl (by kernel_rfl) (by kernel_rfl) (by kernel_rfl) (by kernel_rfl) (fun _ _ _ h => h) (Or.inl ⟨by rfl, ?_⟩) (by assumption) ?_
  rotate_left
  ·(intro wS hSw; (try dsimp only at hSw); go_split_ands; go_simp; all_goals with_reducible rfl)
  try simp only [Act.put]
  refine heldAny_take (i := 3) (v := ?_) rfl (by kernel_rfl) (by kernel_rfl) (by kernel_rfl) (by kernel_rfl) (fun _ _ _ h => h) (Or.inl ⟨by rfl, ?_⟩) (by assumption) ?_
  rotate_left
  ·(intro wS hSw; (try dsimp only at hSw); go_split_ands; go_simp; all_goals with_reducible rfl)
  try simp only [Act.put]
  refine heldAny_take (i := 4) (v := ?_) rfl (by kernel_rfl) (by kernel_rfl) (by kernel_rfl) (by kernel_rfl) (fun _ _ _ h => h) (Or.inl ⟨by rfl, ?_⟩) (by assumption) ?_
  rotate_left
  ·(intro wS hSw; (try dsimp only at hSw); go_split_ands; go_simp; all_goals with_reducible rfl)
  try simp only [Act.put]
  refine heldAny_take (i := 5) (v := ?_) rfl (by kernel_rfl) (by kernel_rfl) (by kernel_rfl) (by kernel_rfl) (fun _ _ _ h => h) (Or.inl ⟨by rfl, ?_⟩) (by assumption) ?_
  rotate_left
  ·(intro wS hSw; (try dsimp only at hSw); go_split_ands; go_simp; all_goals with_reducible rfl)
  try simp only [Act.put]
  refine heldAny_one (i := 6) rfl (by kernel_rfl) (by kernel_rfl) (fun K hK => ?_)
  go_simp
  go_at_call 66
  refine (hB2.out _).mono ?_
  rintro e w6 ⟨rfl, hb6⟩
  have hb6x := Lib.hid (hb5.out.trans (hb6.mono hb5.out.size))
  refine hK.out _ _ (hSX.out _ hb6x.out) (fun hS => ?_)
  try simp only [Act.put]
  refine heldAny_done (by kernel_rfl) ⟨by kernel_rfl, ?_⟩
  simp only [List.drop_succ_cons, List.drop_zero]
  have hW6 := hW2.out.trans (hb6x.out.mono hW2.out.size)
  have kr6 := kr2.out.below hb6x.out
  have r0 := kr6.c 0 _ rfl
  have r1 := kr6.c 1 _ rfl
  have r2 := kr6.c 2 _ rfl
  have r3 := kr6.c 3 _ rfl
  have y0 := kr6.f 0 _ rfl
  have y1 := kr6.f 1 _ rfl
  have y2 := kr6.f 2 _ rfl
  have y3 := kr6.f 3 _ rfl
  have hW7 := Lib.hid ((((hW6.setCell (p := ⟨w.heap.size + 1 + 1, 0, none⟩) hG2.out (.int .i64 (z0 : Int))).setCell (p := ⟨w.heap.size + 1 + 1, 1, none⟩) hG2.out (.bool z1)).setCell (p := ⟨w.heap.size + 1 + 1, 2, none⟩) hG2.out (.int .i64 (z2 : Int))).setCell (p := ⟨w.heap.size + 1 + 1, 3, none⟩) hG2.out (.string z3))
  clear hK K hS hb6 hb6x hb5 hSX hW6 hW2 kr6 kr2 kb2 hB2
  go_wp2_with fail
  refine bodyPost_ret (v := .tuple #[.agg #[.int .i64 (z0 : Int), .bool z1, .int .i64 (z2 : Int), .string z3], .bool true]) (by simp [results, Tryz.results112, go_sem, r0, r1, r2, r3]) rfl ?_
  exact ⟨pb, by rw [hpe.out], hpb'.out, hW7.out⟩

set_option maxHeartbeats 2000000 in
theorem specL6Cut (o l m f t : Nat) (d : List UInt8) (A : Option Addr) (n c B : Nat) (bs : List Blk) (w : World) (h : dfits o l m d) (hr : Row w B 4 A n (cellsB bs)) (hB : B ≤ w.heap.size) (hn : n ≤ 40) (hok : ∀ b ∈ bs, b.okb) (hf : f ≤ 100000) (ht : t ≤ 100000) :
  Calls Tryz.prog 75 #[.agg #[.int .i64 (o : Int), .int .i64 (l : Int), .int .i64 (m : Int)], .string (bsL d), .slice A n c, .int .i64 (f : Int), .int .i64 (t : Int)] w fun e w' => ∃ A' n' c', e = .returned (.tuple #[.slice A' n' c', .bool ((Kn.dict o l m d).cut f t 0 bs).isSome]) ∧ (∀ r, (Kn.dict o l m d).cut f t 0 bs = some r → r.length = n' ∧ w'.ownsRow w.heap.size 36 4 (.slice A' n' c') n' (cellsB r)) ∧ Below w.heap.size w w' := by
 have hlen := hr.len4
 have HP := fun (b : Blk) (fr up : Nat) (hb : b.okb) (h1 : fr ≤ up) (h2 : up ≤ b.size) W => specL6Part o l m d b fr up W h hb h1 h2
 obtain ⟨k, hk⟩ : ∃ k, Kn.dict o l m d = k := ⟨_, rfl⟩
 simp only [hk] at HP ⊢
 obtain ⟨u, hu⟩ : ∃ u, k.cut f t 0 bs = u := ⟨_, rfl⟩
 rw [hu]
 replace hu := Lib.hid hu
 have kb0 := Lib.hid ((KBn.start w 24 [.int .i64 (o : Int), .int .i64 (l : Int), .int .i64 (m : Int)]).below ((Below.refl _ _).alloc (Nat.le_refl _) (.cells #[] 36)))
 have hW0 := Lib.hid (((Below.refl w.heap.size w).alloc (Nat.le_refl _) (.cells #[.int .i64 (o : Int), .int .i64 (l : Int), .int .i64 (m : Int)] 24)).alloc (by simp) (.cells #[] 36))
 have hO0 : Hid (((w.alloc (.cells #[.int .i64 (o : Int), .int .i64 (l : Int), .int .i64 (m : Int)] 24)).alloc (.cells #[] 36)).ownsRow (w.heap.size + 1) 36 4 (.slice (some ⟨w.heap.size + 1, 0, none⟩) 0 0) 0 (cellsB [])) := by
  have := World.ownsRow_lit (base := w.heap.size + 1) (size := 4) (e := 36) (w.alloc (.cells #[.int .i64 (o : Int), .int .i64 (l : Int), .int .i64 (m : Int)] 24)) #[] 0 (by simp) (by unfold maxLen; omega) rfl
  rw [World.size_alloc] at this
  exact Lib.hid this
 replace HP := Lib.hid HP
 replace hr := Lib.hid hr
 replace hok := Lib.hid hok
 have hlen' := Lib.hid hlen
 clear hk h hlen
 go_enter Tryz.func75, Tryz.ntmps75
 go_wp2_with fail
 go_loopw [12, 13, 14] (fun v q i wr => ∃ (A' : Option Addr) (c' j p mm : Nat) (acc : List Blk), v = .slice A' mm c' ∧ q = .int .i64 (p : Int) ∧ i = .int .i64 (j : Int) ∧ j ≤ n ∧ p ≤ 64 * j ∧ mm ≤ j ∧ Hid (acc.length = mm) ∧ Hid (u = (k.cut f t p (bs.drop j)).map (acc ++ ·)) ∧ Hid (wr.ownsRow (w.heap.size + 1) 36 4 (.slice A' mm c') mm (cellsB acc)) ∧ Hid (KBn wr w.heap.size [.int .i64 (o : Int), .int .i64 (l : Int), .int .i64 (m : Int)]) ∧ Hid (Below w.heap.size w wr)) (fun _ _ i _ => n - (intOf i).toNat)
 case atStart => exact ⟨_, _, 0, 0, 0, [], rfl, rfl, rfl, Nat.zero_le _, Nat.zero_le _, Nat.le_refl _, Lib.hid rfl, Lib.hid (by rw [← hu.out, List.drop_zero]; cases k.cut f t 0 bs <;> rfl), hO0, kb0, hW0⟩
 case round =>
  obtain ⟨A', c', j, p, mm, acc, rfl, rfl, rfl, hj, hp, hmj, hal, hcut, hO, hK, hbel⟩ := hrel
  clear hO0 kb0 hW0
  have hwz := hbel.out.size
  by_cases hlt : j < n
  ·obtain ⟨b, hb⟩ : ∃ b, bs[j]? = some b := ⟨_, List.getElem?_eq_getElem (by rw [hlen'.out]; exact hlt)⟩
   have hdr : bs.drop j = b :: bs.drop (j + 1) := by
    obtain ⟨hi, e⟩ := List.getElem?_eq_some_iff.1 hb
    rw [List.drop_eq_getElem_cons hi, e]
   obtain ⟨g, off, rfl, hg, p0, p1, p2', p3⟩ := (hr.out.below hbel.out hB).blk (num := b.num) (raw := b.raw) (size := b.size) (body := b.body) hlt hb
   have hob := hok.out b (List.mem_of_getElem? hb)
   have h64 := hob.2.1
   have hbv : b.val = .agg #[.int .i64 b.num, .bool b.raw, .int .i64 b.size, .string b.body] := rfl
   have hc0 : k.cut f t p (bs.drop j) = if min (p + b.size) t ≤ max p f then k.cut f t (p + b.size) (bs.drop (j + 1)) else if max p f = p ∧ min (p + b.size) t = p + b.size then (k.cut f t (p + b.size) (bs.drop (j + 1))).map (b :: ·) else match k.blockData b, k.cut f t (p + b.size) (bs.drop (j + 1)) with | some D, some r => some (k.block ((D.drop (max p f - p)).take (min (p + b.size) t - max p f)) :: r) | _, _ => none := by rw [hdr]; rfl
   obtain ⟨x0, hx0⟩ : ∃ x : Nat, b.num = x := ⟨_, rfl⟩
   obtain ⟨x1, hx1⟩ : ∃ x, b.raw = x := ⟨_, rfl⟩
   obtain ⟨x2, hx2⟩ : ∃ x : Nat, b.size = x := ⟨_, rfl⟩
   obtain ⟨x3, hx3⟩ : ∃ x, b.body = x := ⟨_, rfl⟩
   have hbv2 : b.val = .agg #[.int .i64 (x0 : Int), .bool x1, .int .i64 (x2 : Int), .string x3] := by rw [hbv, hx0, hx1, hx2, hx3]
   rw [hx2] at hc0 h64
   rw [hx0] at p0
   rw [hx1] at p1
   rw [hx2] at p2'
   rw [hx3] at p3
   obtain ⟨p2, hp2e⟩ : ∃ z, p + x2 = z := ⟨_, rfl⟩
   rw [hp2e] at hc0
   have hp2 : p2 ≤ 64 * (j + 1) := by omega
   have ep2 : (p : Int) + x2 = p2 := by omega
   have wp2 : IntKind.i64.wrap (p2 : Int) = p2 := IntWalk.i64_in _ (by omega)
   obtain ⟨fp, hfp⟩ : ∃ z : Int, (f : Int) - p = z := ⟨_, rfl⟩
   have wfp : IntKind.i64.wrap fp = fp := IntWalk.i64_in _ (by omega)
   obtain ⟨fr, hfr⟩ : ∃ z : Nat, max fp 0 = z := ⟨f - p, by omega⟩
   obtain ⟨tp, htp⟩ : ∃ z : Int, (t : Int) - p = z := ⟨_, rfl⟩
   have wtp : IntKind.i64.wrap tp = tp := IntWalk.i64_in _ (by omega)
   obtain ⟨ui, hui⟩ : ∃ z : Int, min tp (x2 : Int) = z := ⟨_, rfl⟩
   have hj0 : (0 : Int) ≤ j := by omega
   have hji : (j : Int) < n := by omega
   have hfrn : Hid (max p f - p = fr ∧ max p f = p + fr) := Lib.hid (by omega)
   by_cases hskip : ui ≤ fr
   ·have hcut2 : Hid (u = (k.cut f t p2 (bs.drop (j + 1))).map (acc ++ ·)) := Lib.hid (by rw [hcut.out, hc0, if_pos (by omega)])
    have g1 : decide (ui ≤ (fr : Int)) = true := decide_eq_true hskip
    clear hc0 hdr hb hbv hbv2 hx0 hx1 hx2 hx3 hob hcut p0 p1 p3 hfrn hskip
    replace hp2e := Lib.hid hp2e
    go_wp2_with fail
    go_roundw
    case rel => exact ⟨A', c', j + 1, p2, mm, acc, rfl, rfl, by go_num, by omega, hp2, by omega, hal, hcut2, hO, hK, hbel⟩
    case measure => simp [intOf]; omega
   ·obtain ⟨un, rfl⟩ : ∃ z : Nat, ui = z := ⟨ui.toNat, by omega⟩
    have g1 : decide ((un : Int) ≤ (fr : Int)) = false := decide_eq_false hskip
    have g2 : decide (un ≤ fr) = false := decide_eq_false (by omega)
    have hux : un ≤ x2 := by omega
    have hun : Hid (min p2 t - max p f = un - fr ∧ min p2 t = p + un) := Lib.hid (by have := hfrn.out; omega)
    have hal2' : ∀ pb : Blk, (acc ++ [pb]).length = mm + 1 := fun pb => by rw [List.length_append, hal.out]; rfl
    by_cases hwh : fr = 0 ∧ un = x2
    ·have i2 : decide ((0 : Int) < (fr : Int)) = false := decide_eq_false (by omega)
     have i2n : decide (0 < fr) = false := decide_eq_false (by omega)
     have i3 : decide ((un : Int) < x2) = false := decide_eq_false (by omega)
     have i3n : decide (un < x2) = false := decide_eq_false (by omega)
     have hcut2 : Hid (u = (k.cut f t p2 (bs.drop (j + 1))).map ((acc ++ [b]) ++ ·)) := Lib.hid (by
      have h1 := hfrn.out
      have h2 := hun.out
      rw [hcut.out, hc0, if_neg (by omega), if_pos (by omega)]
      cases k.cut f t p2 (bs.drop (j + 1)) <;> simp)
     have hcb : Hid (cellsB (acc ++ [b]) = cellsB acc ++ [.int .i64 (x0 : Int), .bool x1, .int .i64 (x2 : Int), .string x3]) := Lib.hid (by rw [cellsB_append, cellsB_one, ← hx0, ← hx1, ← hx2, ← hx3]; rfl)
     have hal2 := Lib.hid (hal2' b)
     have hbl5 := (Below.refl wr.heap.size wr).alloc (Nat.le_refl _) (.cells #[.int .i64 (x0 : Int), .bool x1, .int .i64 (x2 : Int), .string x3] 36)
     have K5 := Lib.hid (hK.out.below hbl5)
     have O5 := Lib.hid (own_below hO.out hbl5 (Nat.le_refl _))
     have b5 := Lib.hid (hbel.out.trans (hbl5.mono hwz))
     have e2 := Lib.hid ((hbl5.cell (p := ⟨g, off + j * 4 + 2, none⟩) (by show g < _; omega)).trans p2')
     have X5 := Lib.hid (KBn.start wr 36 [.int .i64 (x0 : Int), .bool x1, .int .i64 (x2 : Int), .string x3])
     replace hp2e := Lib.hid hp2e
     clear hc0 hdr hb hbv hbv2 hx0 hx1 hx2 hx3 hob hcut hfrn hskip hun hal2' hwh hbl5 hO hK hbel
     go_upto_region 11 with (fail)
     obtain ⟨X, hX⟩ : ∃ X, wr.heap.size = X := ⟨_, rfl⟩
     obtain ⟨w5, hw5⟩ : ∃ W, wr.alloc (.cells #[.int .i64 (x0 : Int), .bool x1, .int .i64 (x2 : Int), .string x3] 36) = W := ⟨_, rfl⟩
     rw [hw5] at K5 O5 b5 X5 e2 ⊢
     rw [hX] at X5 ⊢
     clear hw5 hX p0 p1 p2' p3
     have y0 := X5.out.c 0 _ rfl
     have y1 := X5.out.c 1 _ rfl
     have y2 := X5.out.c 2 _ rfl
     have y3 := X5.out.c 3 _ rfl
     clear X5
     replace e2 := e2.out
     have hsc : w.heap.size + 1 ≤ w5.heap.size := by have := b5.out.size; have := K5.out.lt; omega
     have ownC := O5.out
     go_wp2_with (first
      | (at_builtin; refine wpList_append_row _ elemBlk rfl (.tmp 79) (.tmp 81) rfl (w.heap.size + 1) _ _ _ rfl (ownC.alloc _) _ _ 1 1 [.int .i64 (x0 : Int), .bool x1, .int .i64 (x2 : Int), .string x3] rfl (Row.newAt _ _ rfl _ [.int .i64 (x0 : Int), .bool x1, .int .i64 (x2 : Int), .string x3] 1 4 rfl) ?_ ?_ ?_ ?_ ?_))
     ·intro z hz; simp at hz; rcases hz with rfl | rfl | rfl | rfl <;> rfl
     ·unfold maxLen; omega
     ·omega
     ·first | omega | (simp; omega)
     ·intro ve we hve hge _
      obtain ⟨Ae, ce, rfl, _, _⟩ := own_form hve
      have hgx := fun g (hg : (Value.slice A' mm c').ownBlock = some g) => (ownC.lt g hg).1
      have hbE := Lib.hid ((b5.out.alloc (by omega) _).grown hge (by simp; omega) (fun g hg => by have := hgx g hg; omega))
      have hKe := Lib.hid ((K5.out.below ((Below.refl _ _).alloc (Nat.le_refl _) _)).keep (Keep.of_grown hge (S := fun g => (Value.slice A' mm c').ownBlock = some g) (fun g e => Or.inl e)) (fun e => by have := hgx _ e; omega))
      have hOe : Hid (we.ownsRow (w.heap.size + 1) 36 4 (.slice Ae (mm + 1) ce) (mm + 1) (cellsB (acc ++ [b]))) := Lib.hid (by rw [hcb.out]; exact hve)
      clear hve hge ownC hgx O5 K5 b5
      go_wp2_with fail
      go_roundw
      case rel => exact ⟨Ae, ce, j + 1, p2, mm + 1, acc ++ [b], rfl, rfl, rfl, by omega, hp2, by omega, hal2, hcut2, hOe, hKe, hbE⟩
      case measure => simp [intOf]; omega
    ·have i2 : (0 : Int) < (fr : Int) ∨ (un : Int) < x2 := by omega
     have i4 : decide ((0 : Int) < (fr : Int)) = true ∨ (decide ((0 : Int) < (fr : Int)) = false ∧ decide ((un : Int) < x2) = true) := by
      by_cases h9 : 0 < fr
      ·exact Or.inl (decide_eq_true (by omega))
      ·exact Or.inr ⟨decide_eq_false (by omega), decide_eq_true (by omega)⟩
     have i5 : decide (0 < fr) = true ∨ (decide (0 < fr) = false ∧ decide (un < x2) = true) := by
      by_cases h9 : 0 < fr
      ·exact Or.inl (decide_eq_true h9)
      ·exact Or.inr ⟨decide_eq_false h9, decide_eq_true (by omega)⟩
     have hPb := fun W => HP.out b fr un hob (by omega) (by rw [hx2]; exact hux) W
     rw [hbv2] at hPb
     obtain ⟨sb, hsb⟩ : ∃ sb, (k.blockData b).isSome = sb := ⟨_, rfl⟩
     simp only [hsb] at hPb
     obtain ⟨bo, hbo⟩ : ∃ x, k.blockData b = x := ⟨_, rfl⟩
     rw [hbo] at hsb hc0
     simp only [hbo] at hPb
     have hno : Hid (bo = none → u = none) := Lib.hid (fun e => by
      have h1 := hfrn.out
      have h2 := hun.out
      rw [hcut.out, hc0, if_neg (by omega), if_neg (by omega), e]
      rfl)
     have hyes : Hid (∀ D, bo = some D → u = (k.cut f t p2 (bs.drop (j + 1))).map ((acc ++ [k.block ((D.drop fr).take (un - fr))]) ++ ·)) := Lib.hid (fun D e => by
      have h1 := hfrn.out
      have h2 := hun.out
      rw [hcut.out, hc0, if_neg (by omega), if_neg (by omega), e, h1.1, h2.1]
      cases k.cut f t p2 (bs.drop (j + 1)) <;> simp)
     have hbl5 := (Below.refl wr.heap.size wr).alloc (Nat.le_refl _) (.cells #[.int .i64 (x0 : Int), .bool x1, .int .i64 (x2 : Int), .string x3] 36)
     have hb5 := Lib.hid hbl5
     have X5 := Lib.hid (KBn.start wr 36 [.int .i64 (x0 : Int), .bool x1, .int .i64 (x2 : Int), .string x3])
     have hSX : Hid (∀ W, Below wr.heap.size wr W → W.cell? ⟨w.heap.size, 0, none⟩ = some (.int .i64 (o : Int)) ∧ W.cell? ⟨w.heap.size, 1, none⟩ = some (.int .i64 (l : Int)) ∧ W.cell? ⟨w.heap.size, 2, none⟩ = some (.int .i64 (m : Int)) ∧ W.cell? ⟨g, off + j * 4, none⟩ = some (.int .i64 (x0 : Int)) ∧ W.cell? ⟨g, off + j * 4 + 1, none⟩ = some (.bool x1) ∧ W.cell? ⟨g, off + j * 4 + 2, none⟩ = some (.int .i64 (x2 : Int)) ∧ W.cell? ⟨g, off + j * 4 + 3, none⟩ = some (.string x3)) := Lib.hid (fun W hW => by
      have k1 := hK.out.below hW
      exact ⟨k1.c 0 _ rfl, k1.c 1 _ rfl, k1.c 2 _ rfl, (hW.cell (by show g < _; omega)).trans p0, (hW.cell (by show g < _; omega)).trans p1, (hW.cell (by show g < _; omega)).trans p2', (hW.cell (by show g < _; omega)).trans p3⟩)
     have hAll : Hid (∀ W, Below wr.heap.size wr W → W.ownsRow (w.heap.size + 1) 36 4 (.slice A' mm c') mm (cellsB acc) ∧ KBn W w.heap.size [.int .i64 (o : Int), .int .i64 (l : Int), .int .i64 (m : Int)] ∧ Below w.heap.size w W) := Lib.hid (fun W hW => ⟨own_below hO.out hW (Nat.le_refl _), hK.out.below hW, hbel.out.trans (hW.mono hwz)⟩)
     replace hp2e := Lib.hid hp2e
     replace hPb := Lib.hid hPb
     clear hc0 hdr hb hbv hbv2 hx0 hx1 hx2 hx3 hob hcut hfrn hskip hun hwh hbl5 hO hK hbel hbo i2
     go_upto_region 11 with (fail)
     obtain ⟨X, hX⟩ : ∃ X, wr.heap.size = X := ⟨_, rfl⟩
     obtain ⟨w5, hw5⟩ : ∃ W, wr.alloc (.cells #[.int .i64 (x0 : Int), .bool x1, .int .i64 (x2 : Int), .string x3] 36) = W := ⟨_, rfl⟩
     rw [hw5] at hb5 X5 ⊢
     rw [hX] at X5 hb5 hSX hAll hwz ⊢
     clear hw5 p0 p1 p2' p3
     have hX' := Lib.hid hX
     obtain ⟨y0, y1, y2, y3⟩ : w5.cell? ⟨X, 0, none⟩ = some (.int .i64 (x0 : Int)) ∧ w5.cell? ⟨X, 1, none⟩ = some (.bool x1) ∧ w5.cell? ⟨X, 2, none⟩ = some (.int .i64 (x2 : Int)) ∧ w5.cell? ⟨X, 3, none⟩ = some (.string x3) := ⟨X5.out.c 0 _ rfl, X5.out.c 1 _ rfl, X5.out.c 2 _ rfl, X5.out.c 3 _ rfl⟩
     clear hX
     obtain ⟨_, _, _, e0, e1, e2, e3⟩ := hSX.out w5 hb5.out
     rcases i4 with i4 | ⟨i4, i6⟩
     ·rcases i5 with i5 | ⟨i5, _⟩
      ·go_upto_region 13 with (fail)
       clear y0 y1 y2 y3 e0 e1 e2 e3
       refine wp_region_held_tail (S := fun W => W.cell? ⟨w.heap.size, 0, none⟩ = some (.int .i64 (o : Int)) ∧ W.cell? ⟨w.heap.size, 1, none⟩ = some (.int .i64 (l : Int)) ∧ W.cell? ⟨w.heap.size, 2, none⟩ = some (.int .i64 (m : Int)) ∧ W.cell? ⟨g, off + j * 4, none⟩ = some (.int .i64 (x0 : Int)) ∧ W.cell? ⟨g, off + j * 4 + 1, none⟩ = some (.bool x1) ∧ W.cell? ⟨g, off + j * 4 + 2, none⟩ = some (.int .i64 (x2 : Int)) ∧ W.cell? ⟨g, off + j * 4 + 3, none⟩ = some (.string x3)) 13 (by kernel_rfl) (by kernel_rfl) (hSX.out _ hb5.out.drew) (fun hS => ?_)
       have hb6 := Lib.hid hb5.out.drew
       refine heldAny_take (i := 0) (v := ?_) rfl (by kernel_rfl) (by kernel_rfl) (by kernel_rfl) (by kernel_rfl) (fun _ _ _ h => h) (Or.inl ⟨by rfl, ?_⟩) (by assumption) ?_
       rotate_left
       ·(intro wS hSw; (try dsimp only at hSw); go_split_ands; go_simp; all_goals with_reducible rfl)
       try simp only [Act.put]
       refine heldAny_take (i := 1) (v := ?_) rfl (by kernel_rfl) (by kernel_rfl) (by kernel_rfl) (by kernel_rfl) (fun _ _ _ h => h) (Or.inl ⟨by rfl, ?_⟩) (by assumption) ?_
       rotate_left
       ·(intro wS hSw; (try dsimp only at hSw); go_split_ands; go_simp; all_goals with_reducible rfl)
       try simp only [Act.put]
       refine heldAny_take (i := 2) (v := ?_) rfl (by kernel_rfl) (by kernel_rfl) (by kernel_rfl) (by kernel_rfl) (fun _ _ _ h => h) (Or.inl ⟨by rfl, ?_⟩) (by assumption) ?_
       rotate_left
       ·(intro wS hSw; (try dsimp only at hSw); go_split_ands; go_simp; all_goals with_reducible rfl)
       try simp only [Act.put]
       refine heldAny_take (i := 3) (v := ?_) rfl (by kernel_rfl) (by kernel_rfl) (by kernel_rfl) (by kernel_rfl) (fun _ _ _ h => h) (Or.inl ⟨by rfl, ?_⟩) (by assumption) ?_
       rotate_left
       ·(intro wS hSw; (try dsimp only at hSw); go_split_ands; go_simp; all_goals with_reducible rfl)
       try simp only [Act.put]
       refine heldAny_take (i := 4) (v := ?_) rfl (by kernel_rfl) (by kernel_rfl) (by kernel_rfl) (by kernel_rfl) (fun _ _ _ h => h) (Or.inl ⟨by rfl, ?_⟩) (by assumption) ?_
       rotate_left
       ·(intro wS hSw; (try dsimp only at hSw); go_split_ands; go_simp; all_goals with_reducible rfl)
       try simp only [Act.put]
       refine heldAny_take (i := 5) (v := ?_) rfl (by kernel_rfl) (by kernel_rfl) (by kernel_rfl) (by kernel_rfl) (fun _ _ _ h => h) (Or.inl ⟨by rfl, ?_⟩) (by assumption) ?_
       rotate_left
       ·(intro wS hSw; (try dsimp only at hSw); go_split_ands; go_simp; all_goals with_reducible rfl)
       try simp only [Act.put]
       refine heldAny_take (i := 6) (v := ?_) rfl (by kernel_rfl) (by kernel_rfl) (by kernel_rfl) (by kernel_rfl) (fun _ _ _ h => h) (Or.inl ⟨by rfl, ?_⟩) (by assumption) ?_
       rotate_left
       ·(intro wS hSw; (try dsimp only at hSw); go_split_ands; go_simp; all_goals with_reducible rfl)
       try simp only [Act.put]
       refine heldAny_take (i := 7) (v := ?_) rfl (by kernel_rfl) (by kernel_rfl) (by kernel_rfl) (by kernel_rfl) (fun _ _ _ h => h) (Or.inl ⟨by rfl, ?_⟩) (by assumption) ?_
       rotate_left
       ·(intro wS hSw; (try dsimp only at hSw); go_split_ands; go_simp; all_goals with_reducible rfl)
       try simp only [Act.put]
       refine heldAny_one (i := 8) rfl (by kernel_rfl) (by kernel_rfl) (fun K hK => ?_)
       go_simp
       go_at_call 112
       refine (hPb.out _).mono ?_
       rintro e w7 ⟨pb, he, hpb, hb7⟩
       have hpv : pb.val = .agg #[.int .i64 pb.num, .bool pb.raw, .int .i64 pb.size, .string pb.body] := rfl
       obtain ⟨z0, hz0⟩ : ∃ x : Nat, pb.num = x := ⟨_, rfl⟩
       obtain ⟨z1, hz1⟩ : ∃ x, pb.raw = x := ⟨_, rfl⟩
       obtain ⟨z2, hz2⟩ : ∃ x : Nat, pb.size = x := ⟨_, rfl⟩
       obtain ⟨z3, hz3⟩ : ∃ x, pb.body = x := ⟨_, rfl⟩
       rw [hpv, hz0, hz1, hz2, hz3] at he
       subst he
       have hcb : Hid (cellsB (acc ++ [pb]) = cellsB acc ++ [.int .i64 (z0 : Int), .bool z1, .int .i64 (z2 : Int), .string z3]) := Lib.hid (by rw [cellsB_append, cellsB_one, ← hz0, ← hz1, ← hz2, ← hz3]; rfl)
       have hal2 := Lib.hid (hal2' pb)
       have hXl : X < w5.heap.size := X5.out.lt
       have hb7x := Lib.hid (hb6.out.trans (hb7.mono (by have := hb6.out.size; have := X5.out.lt; show X ≤ w5.heap.size; omega)))
       have X7 := Lib.hid (KBn.below (X5.out.below (Below.refl _ _).drew) hb7)
       refine hK.out _ _ (hSX.out _ hb7x.out) (fun hS => ?_)
       try simp only [Act.put]
       clear hK K hb7 hz0 hz1 hz2 hz3 hpv
       refine heldAny_take (i := 9) (v := ?_) rfl (by kernel_rfl) (by kernel_rfl) (by kernel_rfl) (by kernel_rfl) (fun _ _ _ h => h) (Or.inl ⟨by rfl, ?_⟩) (by assumption) ?_
       rotate_left
       ·(intro wS hSw; (try dsimp only at hSw); go_split_ands; go_simp; all_goals with_reducible rfl)
       try simp only [Act.put]
       refine heldAny_take (i := 10) (v := ?_) rfl (by kernel_rfl) (by kernel_rfl) (by kernel_rfl) (by kernel_rfl) (fun _ _ _ h => h) (Or.inl ⟨by rfl, ?_⟩) (by assumption) ?_
       rotate_left
       ·(intro wS hSw; (try dsimp only at hSw); go_split_ands; go_simp; all_goals with_reducible rfl)
       try simp only [Act.put]
       refine heldAny_take (i := 11) (v := ?_) rfl (by kernel_rfl) (by kernel_rfl) (by kernel_rfl) (by kernel_rfl) (fun _ _ _ h => h) (Or.inl ⟨by rfl, ?_⟩) (by assumption) ?_
       rotate_left
       ·(intro wS hSw; (try dsimp only at hSw); go_split_ands; go_simp; all_goals with_reducible rfl)
       try simp only [Act.put]
       have y0 := X7.out.c 0 _ rfl
       have y1 := X7.out.c 1 _ rfl
       have y2 := X7.out.c 2 _ rfl
       have y3 := X7.out.c 3 _ rfl
       have f0 := X7.out.f 0 _ rfl
       have f1 := X7.out.f 1 _ rfl
       have f2 := X7.out.f 2 _ rfl
       have f3 := X7.out.f 3 _ rfl
       refine heldAny_one (i := 12) rfl (by kernel_rfl) (by kernel_rfl) (fun K hK => ?_)
       go_simp
       have hb8 := (((hb7x.out.setCell (p := ⟨X, 0, none⟩) (Nat.le_refl _) (.int .i64 (z0 : Int))).setCell (p := ⟨X, 1, none⟩) (Nat.le_refl _) (.bool z1)).setCell (p := ⟨X, 2, none⟩) (Nat.le_refl _) (.int .i64 (z2 : Int))).setCell (p := ⟨X, 3, none⟩) (Nat.le_refl _) (.string z3)
       have X8 := (((X7.out.set (j := 0) rfl (.int .i64 (z0 : Int))).set (j := 1) rfl (.bool z1)).set (j := 2) rfl (.int .i64 (z2 : Int))).set (j := 3) rfl (.string z3)
       obtain ⟨w8, hw8⟩ : ∃ W, (((w7.setCell ⟨X, 0, none⟩ (.int .i64 (z0 : Int))).setCell ⟨X, 1, none⟩ (.bool z1)).setCell ⟨X, 2, none⟩ (.int .i64 (z2 : Int))).setCell ⟨X, 3, none⟩ (.string z3) = W := ⟨_, rfl⟩
       rw [hw8] at hb8 X8 ⊢
       clear hw8 y0 y1 y2 y3 f0 f1 f2 f3
       replace hb8 := Lib.hid hb8
       replace X8 := Lib.hid X8
       refine hK.out _ _ (hSX.out _ hb8.out) (fun hS => ?_)
       try simp only [Act.put]
       refine heldAny_done (by kernel_rfl) ⟨by kernel_rfl, ?_⟩
       simp only [List.drop_succ_cons, List.drop_zero]
       obtain ⟨oo8, kk8, bb8⟩ := hAll.out _ hb8.out
       have O8 := Lib.hid oo8
       have K8 := Lib.hid kk8
       have b8 := Lib.hid bb8
       clear hK K hS hb7x X7 hSX hAll hPb hb6 hb5 X5 hb8 oo8 kk8 bb8 hXl
       rcases bo with _ | D
       ·obtain rfl : sb = false := hsb.symm
        have hn2 := Lib.hid (hno.out rfl)
        clear hno hyes hpb hcb hal2 hal2'
        go_wp2_with fail
        refine bodyPost_ret (v := .tuple #[.slice A' mm c', .bool false]) (by simp [results, Tryz.results75, go_sem]) rfl ?_
        exact ⟨A', mm, c', by rw [hn2.out]; rfl, (fun r hr => by rw [hn2.out] at hr; cases hr), b8.out⟩
       ·obtain rfl : sb = true := hsb.symm
        have hcut2 := Lib.hid (hyes.out D rfl)
        rw [← hpb D rfl] at hcut2
        have y0 := X8.out.c 0 _ rfl
        have y1 := X8.out.c 1 _ rfl
        have y2 := X8.out.c 2 _ rfl
        have y3 := X8.out.c 3 _ rfl
        clear hno hyes hpb hal2' X8
        have hsc : w.heap.size + 1 ≤ w8.heap.size := by have := b8.out.size; have := K8.out.lt; omega
        have ownC := O8.out
        go_wp2_with (first
         | (at_builtin; refine wpList_append_row _ elemBlk rfl (.tmp 79) (.tmp 81) rfl (w.heap.size + 1) _ _ _ rfl (ownC.alloc _) _ _ 1 1 [.int .i64 (z0 : Int), .bool z1, .int .i64 (z2 : Int), .string z3] rfl (Row.newAt _ _ rfl _ [.int .i64 (z0 : Int), .bool z1, .int .i64 (z2 : Int), .string z3] 1 4 rfl) ?_ ?_ ?_ ?_ ?_))
        ·intro z hz; simp at hz; rcases hz with rfl | rfl | rfl | rfl <;> rfl
        ·unfold maxLen; omega
        ·omega
        ·first | omega | (simp; omega)
        ·intro ve we hve hge _
         obtain ⟨Ae, ce, rfl, _, _⟩ := own_form hve
         have hgx := fun g (hg : (Value.slice A' mm c').ownBlock = some g) => (ownC.lt g hg).1
         have hbE := Lib.hid ((b8.out.alloc (by omega) _).grown hge (by simp; omega) (fun g hg => by have := hgx g hg; omega))
         have hKe := Lib.hid ((K8.out.below ((Below.refl _ _).alloc (Nat.le_refl _) _)).keep (Keep.of_grown hge (S := fun g => (Value.slice A' mm c').ownBlock = some g) (fun g e => Or.inl e)) (fun e => by have := hgx _ e; omega))
         have hOe : Hid (we.ownsRow (w.heap.size + 1) 36 4 (.slice Ae (mm + 1) ce) (mm + 1) (cellsB (acc ++ [pb]))) := Lib.hid (by rw [hcb.out]; exact hve)
         clear hve hge ownC hgx O8 K8 b8
         go_wp2_with fail
         go_roundw
         case rel => exact ⟨Ae, ce, j + 1, p2, mm + 1, acc ++ [pb], rfl, rfl, rfl, by omega, hp2, by omega, hal2, hcut2, hOe, hKe, hbE⟩
         case measure => simp [intOf]; omega
      ·exact absurd i4 (by rw [decide_eq_true_iff] ; rw [decide_eq_false_iff_not] at i5; omega)
     ·rcases i5 with i5 | ⟨i5, i7⟩
      ·exact absurd i5 (by rw [decide_eq_true_iff]; rw [decide_eq_false_iff_not] at i4; omega)
      ·go_upto_region 13 with (fail)
       clear y0 y1 y2 y3 e0 e1 e2 e3
       refine wp_region_held_tail (S := fun W => W.cell? ⟨w.heap.size, 0, none⟩ = some (.int .i64 (o : Int)) ∧ W.cell? ⟨w.heap.size, 1, none⟩ = some (.int .i64 (l : Int)) ∧ W.cell? ⟨w.heap.size, 2, none⟩ = some (.int .i64 (m : Int)) ∧ W.cell? ⟨g, off + j * 4, none⟩ = some (.int .i64 (x0 : Int)) ∧ W.cell? ⟨g, off + j * 4 + 1, none⟩ = some (.bool x1) ∧ W.cell? ⟨g, off + j * 4 + 2, none⟩ = some (.int .i64 (x2 : Int)) ∧ W.cell? ⟨g, off + j * 4 + 3, none⟩ = some (.string x3)) 13 (by kernel_rfl) (by kernel_rfl) (hSX.out _ hb5.out.drew) (fun hS => ?_)
       have hb6 := Lib.hid hb5.out.drew
       refine heldAny_take (i := 0) (v := ?_) rfl (by kernel_rfl) (by kernel_rfl) (by kernel_rfl) (by kernel_rfl) (fun _ _ _ h => h) (Or.inl ⟨by rfl, ?_⟩) (by assumption) ?_
       rotate_left
       ·(intro wS hSw; (try dsimp only at hSw); go_split_ands; go_simp; all_goals with_reducible rfl)
       try simp only [Act.put]
       refine heldAny_take (i := 1) (v := ?_) rfl (by kernel_rfl) (by kernel_rfl) (by kernel_rfl) (by kernel_rfl) (fun _ _ _ h => h) (Or.inl ⟨by rfl, ?_⟩) (by assumption) ?_
       rotate_left
       ·(intro wS hSw; (try dsimp only at hSw); go_split_ands; go_simp; all_goals with_reducible rfl)
       try simp only [Act.put]
       refine heldAny_take (i := 2) (v := ?_) rfl (by kernel_rfl) (by kernel_rfl) (by kernel_rfl) (by kernel_rfl) (fun _ _ _ h => h) (Or.inl ⟨by rfl, ?_⟩) (by assumption) ?_
       rotate_left
       ·(intro wS hSw; (try dsimp only at hSw); go_split_ands; go_simp; all_goals with_reducible rfl)
       try simp only [Act.put]
       refine heldAny_take (i := 3) (v := ?_) rfl (by kernel_rfl) (by kernel_rfl) (by kernel_rfl) (by kernel_rfl) (fun _ _ _ h => h) (Or.inl ⟨by rfl, ?_⟩) (by assumption) ?_
       rotate_left
       ·(intro wS hSw; (try dsimp only at hSw); go_split_ands; go_simp; all_goals with_reducible rfl)
       try simp only [Act.put]
       refine heldAny_take (i := 4) (v := ?_) rfl (by kernel_rfl) (by kernel_rfl) (by kernel_rfl) (by kernel_rfl) (fun _ _ _ h => h) (Or.inl ⟨by rfl, ?_⟩) (by assumption) ?_
       rotate_left
       ·(intro wS hSw; (try dsimp only at hSw); go_split_ands; go_simp; all_goals with_reducible rfl)
       try simp only [Act.put]
       refine heldAny_take (i := 5) (v := ?_) rfl (by kernel_rfl) (by kernel_rfl) (by kernel_rfl) (by kernel_rfl) (fun _ _ _ h => h) (Or.inl ⟨by rfl, ?_⟩) (by assumption) ?_
       rotate_left
       ·(intro wS hSw; (try dsimp only at hSw); go_split_ands; go_simp; all_goals with_reducible rfl)
       try simp only [Act.put]
       refine heldAny_take (i := 6) (v := ?_) rfl (by kernel_rfl) (by kernel_rfl) (by kernel_rfl) (by kernel_rfl) (fun _ _ _ h => h) (Or.inl ⟨by rfl, ?_⟩) (by assumption) ?_
       rotate_left
       ·(intro wS hSw; (try dsimp only at hSw); go_split_ands; go_simp; all_goals with_reducible rfl)
       try simp only [Act.put]
       refine heldAny_take (i := 7) (v := ?_) rfl (by kernel_rfl) (by kernel_rfl) (by kernel_rfl) (by kernel_rfl) (fun _ _ _ h => h) (Or.inl ⟨by rfl, ?_⟩) (by assumption) ?_
       rotate_left
       ·(intro wS hSw; (try dsimp only at hSw); go_split_ands; go_simp; all_goals with_reducible rfl)
       try simp only [Act.put]
       refine heldAny_one (i := 8) rfl (by kernel_rfl) (by kernel_rfl) (fun K hK => ?_)
       go_simp
       go_at_call 112
       refine (hPb.out _).mono ?_
       rintro e w7 ⟨pb, he, hpb, hb7⟩
       have hpv : pb.val = .agg #[.int .i64 pb.num, .bool pb.raw, .int .i64 pb.size, .string pb.body] := rfl
       obtain ⟨z0, hz0⟩ : ∃ x : Nat, pb.num = x := ⟨_, rfl⟩
       obtain ⟨z1, hz1⟩ : ∃ x, pb.raw = x := ⟨_, rfl⟩
       obtain ⟨z2, hz2⟩ : ∃ x : Nat, pb.size = x := ⟨_, rfl⟩
       obtain ⟨z3, hz3⟩ : ∃ x, pb.body = x := ⟨_, rfl⟩
       rw [hpv, hz0, hz1, hz2, hz3] at he
       subst he
       have hcb : Hid (cellsB (acc ++ [pb]) = cellsB acc ++ [.int .i64 (z0 : Int), .bool z1, .int .i64 (z2 : Int), .string z3]) := Lib.hid (by rw [cellsB_append, cellsB_one, ← hz0, ← hz1, ← hz2, ← hz3]; rfl)
       have hal2 := Lib.hid (hal2' pb)
       have hXl : X < w5.heap.size := X5.out.lt
       have hb7x := Lib.hid (hb6.out.trans (hb7.mono (by have := hb6.out.size; have := X5.out.lt; show X ≤ w5.heap.size; omega)))
       have X7 := Lib.hid (KBn.below (X5.out.below (Below.refl _ _).drew) hb7)
       refine hK.out _ _ (hSX.out _ hb7x.out) (fun hS => ?_)
       try simp only [Act.put]
       clear hK K hb7 hz0 hz1 hz2 hz3 hpv
       refine heldAny_take (i := 9) (v := ?_) rfl (by kernel_rfl) (by kernel_rfl) (by kernel_rfl) (by kernel_rfl) (fun _ _ _ h => h) (Or.inl ⟨by rfl, ?_⟩) (by assumption) ?_
       rotate_left
       ·(intro wS hSw; (try dsimp only at hSw); go_split_ands; go_simp; all_goals with_reducible rfl)
       try simp only [Act.put]
       refine heldAny_take (i := 10) (v := ?_) rfl (by kernel_rfl) (by kernel_rfl) (by kernel_rfl) (by kernel_rfl) (fun _ _ _ h => h) (Or.inl ⟨by rfl, ?_⟩) (by assumption) ?_
       rotate_left
       ·(intro wS hSw; (try dsimp only at hSw); go_split_ands; go_simp; all_goals with_reducible rfl)
       try simp only [Act.put]
       refine heldAny_take (i := 11) (v := ?_) rfl (by kernel_rfl) (by kernel_rfl) (by kernel_rfl) (by kernel_rfl) (fun _ _ _ h => h) (Or.inl ⟨by rfl, ?_⟩) (by assumption) ?_
       rotate_left
       ·(intro wS hSw; (try dsimp only at hSw); go_split_ands; go_simp; all_goals with_reducible rfl)
       try simp only [Act.put]
       have y0 := X7.out.c 0 _ rfl
       have y1 := X7.out.c 1 _ rfl
       have y2 := X7.out.c 2 _ rfl
       have y3 := X7.out.c 3 _ rfl
       have f0 := X7.out.f 0 _ rfl
       have f1 := X7.out.f 1 _ rfl
       have f2 := X7.out.f 2 _ rfl
       have f3 := X7.out.f 3 _ rfl
       refine heldAny_one (i := 12) rfl (by kernel_rfl) (by kernel_rfl) (fun K hK => ?_)
       go_simp
       have hb8 := (((hb7x.out.setCell (p := ⟨X, 0, none⟩) (Nat.le_refl _) (.int .i64 (z0 : Int))).setCell (p := ⟨X, 1, none⟩) (Nat.le_refl _) (.bool z1)).setCell (p := ⟨X, 2, none⟩) (Nat.le_refl _) (.int .i64 (z2 : Int))).setCell (p := ⟨X, 3, none⟩) (Nat.le_refl _) (.string z3)
       have X8 := (((X7.out.set (j := 0) rfl (.int .i64 (z0 : Int))).set (j := 1) rfl (.bool z1)).set (j := 2) rfl (.int .i64 (z2 : Int))).set (j := 3) rfl (.string z3)
       obtain ⟨w8, hw8⟩ : ∃ W, (((w7.setCell ⟨X, 0, none⟩ (.int .i64 (z0 : Int))).setCell ⟨X, 1, none⟩ (.bool z1)).setCell ⟨X, 2, none⟩ (.int .i64 (z2 : Int))).setCell ⟨X, 3, none⟩ (.string z3) = W := ⟨_, rfl⟩
       rw [hw8] at hb8 X8 ⊢
       clear hw8 y0 y1 y2 y3 f0 f1 f2 f3
       replace hb8 := Lib.hid hb8
       replace X8 := Lib.hid X8
       refine hK.out _ _ (hSX.out _ hb8.out) (fun hS => ?_)
       try simp only [Act.put]
       refine heldAny_done (by kernel_rfl) ⟨by kernel_rfl, ?_⟩
       simp only [List.drop_succ_cons, List.drop_zero]
       obtain ⟨oo8, kk8, bb8⟩ := hAll.out _ hb8.out
       have O8 := Lib.hid oo8
       have K8 := Lib.hid kk8
       have b8 := Lib.hid bb8
       clear hK K hS hb7x X7 hSX hAll hPb hb6 hb5 X5 hb8 oo8 kk8 bb8 hXl
       rcases bo with _ | D
       ·obtain rfl : sb = false := hsb.symm
        have hn2 := Lib.hid (hno.out rfl)
        clear hno hyes hpb hcb hal2 hal2'
        go_wp2_with fail
        refine bodyPost_ret (v := .tuple #[.slice A' mm c', .bool false]) (by simp [results, Tryz.results75, go_sem]) rfl ?_
        exact ⟨A', mm, c', by rw [hn2.out]; rfl, (fun r hr => by rw [hn2.out] at hr; cases hr), b8.out⟩
       ·obtain rfl : sb = true := hsb.symm
        have hcut2 := Lib.hid (hyes.out D rfl)
        rw [← hpb D rfl] at hcut2
        have y0 := X8.out.c 0 _ rfl
        have y1 := X8.out.c 1 _ rfl
        have y2 := X8.out.c 2 _ rfl
        have y3 := X8.out.c 3 _ rfl
        clear hno hyes hpb hal2' X8
        have hsc : w.heap.size + 1 ≤ w8.heap.size := by have := b8.out.size; have := K8.out.lt; omega
        have ownC := O8.out
        go_wp2_with (first
         | (at_builtin; refine wpList_append_row _ elemBlk rfl (.tmp 79) (.tmp 81) rfl (w.heap.size + 1) _ _ _ rfl (ownC.alloc _) _ _ 1 1 [.int .i64 (z0 : Int), .bool z1, .int .i64 (z2 : Int), .string z3] rfl (Row.newAt _ _ rfl _ [.int .i64 (z0 : Int), .bool z1, .int .i64 (z2 : Int), .string z3] 1 4 rfl) ?_ ?_ ?_ ?_ ?_))
        ·intro z hz; simp at hz; rcases hz with rfl | rfl | rfl | rfl <;> rfl
        ·unfold maxLen; omega
        ·omega
        ·first | omega | (simp; omega)
        ·intro ve we hve hge _
         obtain ⟨Ae, ce, rfl, _, _⟩ := own_form hve
         have hgx := fun g (hg : (Value.slice A' mm c').ownBlock = some g) => (ownC.lt g hg).1
         have hbE := Lib.hid ((b8.out.alloc (by omega) _).grown hge (by simp; omega) (fun g hg => by have := hgx g hg; omega))
         have hKe := Lib.hid ((K8.out.below ((Below.refl _ _).alloc (Nat.le_refl _) _)).keep (Keep.of_grown hge (S := fun g => (Value.slice A' mm c').ownBlock = some g) (fun g e => Or.inl e)) (fun e => by have := hgx _ e; omega))
         have hOe : Hid (we.ownsRow (w.heap.size + 1) 36 4 (.slice Ae (mm + 1) ce) (mm + 1) (cellsB (acc ++ [pb]))) := Lib.hid (by rw [hcb.out]; exact hve)
         clear hve hge ownC hgx O8 K8 b8
         go_wp2_with fail
         go_roundw
         case rel => exact ⟨Ae, ce, j + 1, p2, mm + 1, acc ++ [pb], rfl, rfl, rfl, by omega, hp2, by omega, hal2, hcut2, hOe, hKe, hbE⟩
         case measure => simp [intOf]; omega
  ·have hfin : u = some acc := by
    rw [hcut.out, List.drop_of_length_le (by rw [hlen'.out]; omega)]
    simp [Kn.cut]
   replace hfin := Lib.hid hfin
   have hO9 := Lib.hid (own_base (base' := w.heap.size) hO.out (by omega))
   go_wp2_with fail
   refine bodyPost_ret (v := .tuple #[.slice A' mm c', .bool true]) (by simp [results, Tryz.results75, go_sem]) rfl ?_
   exact ⟨A', mm, c', by rw [hfin.out]; rfl, (fun r hr => by rw [hfin.out] at hr; injection hr with hr; subst hr; exact ⟨hal.out, hO9.out⟩), hbel.out⟩

end Go.Proofs.YthlgpgaeajfchaaGreat

