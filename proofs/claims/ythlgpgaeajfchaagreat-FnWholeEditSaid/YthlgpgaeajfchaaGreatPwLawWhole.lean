/-
 The walk of the law FnWholeEdit.
-/
import Derived.Test.YthlgpgaeajfchaaGreatPwPropT
import Derived.Test.YthlgpgaeajfchaaGreatPwPatchOf
import Derived.Test.YthlgpgaeajfchaaGreatPwTurn

namespace Go.Proofs.YthlgpgaeajfchaaGreat
open Go.RowKit
set_option linter.unusedVariables false
set_option linter.unusedSimpArgs false
set_option maxRecDepth 100000

set_option maxHeartbeats 1000000 in
theorem implPatchContainer (o l m : Int) (d s : ByteArray) (f t : Int) (U : ByteArray) (size : Int) (w : World) (hd : d.size ≤ 1048576) (hs : s.size ≤ 1048576) (hU : U.size ≤ 1048576) :
  Calls Tryz.prog 44 #[.agg #[.int .i64 o, .int .i64 l, .int .i64 m], .string d, .string s, .agg #[.int .i64 f, .int .i64 t, .string U], .int .i64 size] w fun e w' => e = .returned (optV (replC o l m d.data.toList (contB s) f t U.data.toList size)) ∧ Below w.heap.size w w' := by
 have hW0 : Below w.heap.size w ((w.alloc (.cells #[.int .i64 o, .int .i64 l, .int .i64 m] 24)).alloc (.cells #[.int .i64 f, .int .i64 t, .string U] 59)) := ((Below.refl w.heap.size w).alloc (Nat.le_refl _) _).alloc (by simp) _
 have kb0 : KBn ((w.alloc (.cells #[.int .i64 o, .int .i64 l, .int .i64 m] 24)).alloc (.cells #[.int .i64 f, .int .i64 t, .string U] 59)) w.heap.size [.int .i64 o, .int .i64 l, .int .i64 m] := (KBn.start w 24 [.int .i64 o, .int .i64 l, .int .i64 m]).below ((Below.refl _ _).alloc (Nat.le_refl _) _)
 have pb0 : KBn ((w.alloc (.cells #[.int .i64 o, .int .i64 l, .int .i64 m] 24)).alloc (.cells #[.int .i64 f, .int .i64 t, .string U] 59)) (w.heap.size + 1) [.int .i64 f, .int .i64 t, .string U] := by
  have := KBn.start (w.alloc (.cells #[.int .i64 o, .int .i64 l, .int .i64 m] 24)) 59 [.int .i64 f, .int .i64 t, .string U]
  rw [World.size_alloc] at this
  exact this
 have HS := fun W => implReplaceRange o l m d s U f t size W hd hs hU
 obtain ⟨R, hR⟩ : ∃ R, (replC o l m d.data.toList (contB s) f t U.data.toList size) = R := ⟨_, rfl⟩
 rw [hR] at HS ⊢
 unfold optV at HS ⊢
 replace HS := Lib.hid HS
 clear hR
 go_enter Tryz.func44, Tryz.ntmps44
 go_upto_region 1 with (fail)
 obtain ⟨w2, hw2⟩ : ∃ W, (w.alloc (.cells #[.int .i64 o, .int .i64 l, .int .i64 m] 24)).alloc (.cells #[.int .i64 f, .int .i64 t, .string U] 59) = W := ⟨_, rfl⟩
 rw [hw2] at hW0 kb0 pb0 ⊢
 clear hw2
 replace hW0 := Lib.hid hW0
 have q0 := kb0.c 0 _ rfl
 have q1 := kb0.c 1 _ rfl
 have q2 := kb0.c 2 _ rfl
 have p0 := pb0.c 0 _ rfl
 have p1 := pb0.c 1 _ rfl
 have p2 := pb0.c 2 _ rfl
 clear kb0 pb0
 go_wp2_with fail
 refine (HS.out _).mono ?_
 rintro e w1 ⟨rfl, hb1⟩
 have hW1 := Lib.hid (hW0.out.trans (hb1.mono hW0.out.size))
 clear hb1
 go_wp2_with fail
 go_ret2
 exact ⟨rfl, hW1.out⟩

set_option maxHeartbeats 1000000 in
theorem specPatchContainer (o l m : Int) (d s : ByteArray) (f t : Int) (U : ByteArray) (size : Int) (w : World) (hd : d.size ≤ 1048576) (hs : s.size ≤ 1048576) (hU : U.size ≤ 1048576) :
  Calls Tryz.prog 45 #[.agg #[.int .i64 o, .int .i64 l, .int .i64 m], .string d, .string s, .agg #[.int .i64 f, .int .i64 t, .string U], .int .i64 size] w fun e w' => e = .returned (optV (replC o l m d.data.toList (contB s) f t U.data.toList size)) ∧ Below w.heap.size w w' := by
 have hW0 : Below w.heap.size w ((w.alloc (.cells #[.int .i64 o, .int .i64 l, .int .i64 m] 24)).alloc (.cells #[.int .i64 f, .int .i64 t, .string U] 59)) := ((Below.refl w.heap.size w).alloc (Nat.le_refl _) _).alloc (by simp) _
 have kb0 : KBn ((w.alloc (.cells #[.int .i64 o, .int .i64 l, .int .i64 m] 24)).alloc (.cells #[.int .i64 f, .int .i64 t, .string U] 59)) w.heap.size [.int .i64 o, .int .i64 l, .int .i64 m] := (KBn.start w 24 [.int .i64 o, .int .i64 l, .int .i64 m]).below ((Below.refl _ _).alloc (Nat.le_refl _) _)
 have pb0 : KBn ((w.alloc (.cells #[.int .i64 o, .int .i64 l, .int .i64 m] 24)).alloc (.cells #[.int .i64 f, .int .i64 t, .string U] 59)) (w.heap.size + 1) [.int .i64 f, .int .i64 t, .string U] := by
  have := KBn.start (w.alloc (.cells #[.int .i64 o, .int .i64 l, .int .i64 m] 24)) 59 [.int .i64 f, .int .i64 t, .string U]
  rw [World.size_alloc] at this
  exact this
 have HS := fun W => specReplaceRange o l m d s U f t size W hd hs hU
 obtain ⟨R, hR⟩ : ∃ R, (replC o l m d.data.toList (contB s) f t U.data.toList size) = R := ⟨_, rfl⟩
 rw [hR] at HS ⊢
 unfold optV at HS ⊢
 replace HS := Lib.hid HS
 clear hR
 go_enter Tryz.func45, Tryz.ntmps45
 go_upto_region 1 with (fail)
 obtain ⟨w2, hw2⟩ : ∃ W, (w.alloc (.cells #[.int .i64 o, .int .i64 l, .int .i64 m] 24)).alloc (.cells #[.int .i64 f, .int .i64 t, .string U] 59) = W := ⟨_, rfl⟩
 rw [hw2] at hW0 kb0 pb0 ⊢
 clear hw2
 replace hW0 := Lib.hid hW0
 have q0 := kb0.c 0 _ rfl
 have q1 := kb0.c 1 _ rfl
 have q2 := kb0.c 2 _ rfl
 have p0 := pb0.c 0 _ rfl
 have p1 := pb0.c 1 _ rfl
 have p2 := pb0.c 2 _ rfl
 clear kb0 pb0
 go_wp2_with fail
 refine (HS.out _).mono ?_
 rintro e w1 ⟨rfl, hb1⟩
 have hW1 := Lib.hid (hW0.out.trans (hb1.mono hW0.out.size))
 clear hb1
 go_wp2_with fail
 go_ret2
 exact ⟨rfl, hW1.out⟩

def txl : List Blk → Nat
 | [] => 0
 | b :: bs => 10 + b.body.size + txl bs

theorem dfits_flip {o l m : Nat} {d : List UInt8} (h : dfits o l m d) : dfits (1 - o : Nat) l m d ∧ o < 2 ∧ (1 : Int) - (o : Int) = ((1 - o : Nat) : Int) ∧ 1 - (1 - o) = o := by
 have h1 := h.1.1
 refine ⟨⟨⟨by omega, h.1.2⟩, h.2⟩, by omega, by omega, by omega⟩

theorem turnB_form {k : Kn} (h : k.Valid) {b c : Blk} (hr : b.raw = false) (hc : k.turnB b = some c) :
  ∃ cs, k.Follow cs ∧ cs.getLast? = some k.fin ∧ cs.length ≤ 3100 ∧ (k.data cs).length ≤ 2000 ∧ (k.unpack b.body.data.toList).codes = cs ∧ c = { b with body := bsL (packL k.flip.o (k.flip.bits cs)) } := by
 unfold Kn.turnB at hc
 rw [hr] at hc
 simp only [Bool.false_eq_true, if_false] at hc
 cases hd : k.blockData b with
 | none => rw [hd] at hc; cases hc
 | some d =>
  rw [hd] at hc
  injection hc with hc
  unfold Kn.blockData at hd
  rw [hr] at hd
  simp only [Bool.false_eq_true, if_false] at hd
  split at hd
  ·rename_i hcond
   obtain ⟨g1, g2, g3, g4, g5⟩ := Kn.whole h hcond.1
   exact ⟨_, g1, g2, g3, g4, rfl, by rw [hr]; exact hc.symm⟩
  ·cases hd

theorem turnB_of {k : Kn} (h : k.Valid) {b : Blk} {cs : List Nat} {d : List UInt8} (hr : b.raw = false) (g1 : k.Follow cs) (g2 : cs.getLast? = some k.fin) (g3 : cs.length ≤ 3100) (g4 : (k.data cs).length ≤ 2000) (hb : b.body.data.toList = packL k.o (k.bits cs)) (hd : k.blockData b = some d) :
  k.turnB b = some { b with body := bsL (packL k.flip.o (k.flip.bits cs)) } := by
 obtain ⟨u1, _⟩ := Kn.unpack_pack h g1 g2 g3 g4 (k.bits_digs cs)
 unfold Kn.turnB
 rw [hr]
 simp only [Bool.false_eq_true, if_false]
 rw [hd]
 show some _ = _
 rw [hb, u1]

theorem turnB_back {k : Kn} (h : k.Valid) {b c : Blk} (hb : b.okb) (hc : k.turnB b = some c) :
  ∃ e, k.flip.turnB c = some e ∧ k.turnB e = some c ∧ e.okb ∧ e.body.size = b.body.size := by
 obtain ⟨c1, c2, c3, c4, c5, d, hd1, hd2⟩ := turnB_some h hb hc
 have hff : k.flip.flip = k := flip_flip h.ord
 cases hr : b.raw with
 | true =>
  have hcb : c = b := by
   unfold Kn.turnB at hc
   rw [hr] at hc
   simp only [if_true] at hc
   injection hc with hc
   exact hc.symm
  subst hcb
  refine ⟨c, ?_, hc, hb, rfl⟩
  unfold Kn.turnB
  rw [hr]; rfl
 | false =>
  obtain ⟨cs, g1, g2, g3, g4, _, rfl⟩ := turnB_form h hr hc
  have hfv := flip_valid h
  have t1 := turnB_of hfv (b := { b with body := bsL (packL k.flip.o (k.flip.bits cs)) }) (cs := cs) hr (flip_follow g1) g2 g3 (by rw [flip_data]; exact g4) rfl hd2
  rw [hff] at t1
  obtain ⟨e1, e2, e3, e4, e5, d', hd3, hd4⟩ := turnB_some hfv c1 t1
  rw [hff] at hd4
  refine ⟨_, t1, ?_, e1, by rw [e5, c5]⟩
  exact turnB_of h (b := { b with body := bsL (packL k.o (k.bits cs)) }) (cs := cs) hr g1 g2 g3 g4 rfl hd4

theorem turnL_cons (k : Kn) (b : Blk) (bs : List Blk) : k.turnL (b :: bs) = match k.turnB b, k.turnL bs with
  | some c, some r => some (c :: r)
  | _, _ => none := rfl

theorem turnL_back {k : Kn} (h : k.Valid) : ∀ (bs cs : List Blk), (∀ b ∈ bs, b.okb) → k.turnL bs = some cs →
  (∀ c ∈ cs, c.okb) ∧ cs.length = bs.length ∧ szs cs = szs bs ∧ (cs.map (·.raw)) = bs.map (·.raw) ∧ (cs.map (·.size)) = bs.map (·.size) ∧ (∃ D, k.datas bs = some D ∧ k.flip.datas cs = some D) ∧ txl cs = txl bs ∧
  ∃ es, k.flip.turnL cs = some es ∧ k.turnL es = some cs ∧ (∀ e ∈ es, e.okb) ∧ es.length = bs.length ∧ szs es = szs bs ∧ txl es = txl bs := by
 intro bs
 induction bs with
 | nil =>
  intro cs _ hc
  injection hc with hc
  subst hc
  exact ⟨by simp, rfl, rfl, rfl, rfl, ⟨[], rfl, rfl⟩, rfl, [], rfl, rfl, by simp, rfl, rfl, rfl⟩
 | cons b bs ih =>
  intro cs hok hc
  rw [turnL_cons] at hc
  cases hb : k.turnB b with
  | none => rw [hb] at hc; cases hc
  | some c =>
   cases hl : k.turnL bs with
   | none => rw [hb, hl] at hc; cases hc
   | some r =>
    rw [hb, hl] at hc
    injection hc with hc
    subst hc
    have hbo := hok b (List.mem_cons_self ..)
    obtain ⟨c1, c2, c3, c4, c5, d, hd1, hd2⟩ := turnB_some h hbo hb
    obtain ⟨e, t1, t2, t3, t4⟩ := turnB_back h hbo hb
    have es2 := (turnB_some (flip_valid h) c1 t1).2.1
    obtain ⟨i1, i2, i3, i4, i5, ⟨D, i6, i7⟩, i8, es, j1, j2, j3, j4, j5, j6⟩ := ih r (fun x hx => hok x (List.mem_cons_of_mem _ hx)) hl
    refine ⟨?_, by simp [i2], ?_, by simp [c3, i4], by simp [c2, i5], ⟨d ++ D, ?_, ?_⟩, ?_, e :: es, ?_, ?_, ?_, by simp [j4], ?_, ?_⟩
    ·intro x hx
     rcases List.mem_cons.1 hx with rfl | hx
     ·exact c1
     ·exact i1 x hx
    ·show szs (c :: r) = szs (b :: bs)
     simp only [szs_cons, c2, i3]
    ·show (match k.blockData b, k.datas bs with | some d, some e => some (d ++ e) | _, _ => none) = _
     rw [hd1, i6]
    ·show (match k.flip.blockData c, k.flip.datas r with | some d, some e => some (d ++ e) | _, _ => none) = _
     rw [hd2, i7]
    ·show 10 + c.body.size + txl r = 10 + b.body.size + txl bs
     rw [c5, i8]
    ·rw [turnL_cons, t1, j1]
    ·rw [turnL_cons, t2, j2]
    ·intro x hx
     rcases List.mem_cons.1 hx with rfl | hx
     ·exact t3
     ·exact j3 x hx
    ·simp only [szs_cons, es2, c2, j5]
    ·show 10 + e.body.size + txl es = 10 + b.body.size + txl bs
     rw [t4, j6]

theorem turnB_block {k : Kn} (h : k.Valid) (d : List UInt8) : k.turnB (k.block d) = some (k.flip.block d) := by
 have hfv := flip_valid h
 have hdf : dfits k.flip.o k.flip.l k.flip.m d ↔ dfits k.o k.l k.m d := (hfv.dfits).trans h.dfits.symm
 have hcl : (k.flip.comp d).length = (k.comp d).length := by
  unfold Kn.comp
  rw [packL_length, packL_length, flip_greedy, flip_bits_length]
 unfold Kn.block
 by_cases hc : dfits k.o k.l k.m d ∧ (k.comp d).length < d.length
 ·rw [if_pos hc, if_pos ⟨hdf.2 hc.1, by rw [hcl]; exact hc.2⟩]
  have hff := h.dfits.1 hc.1
  obtain ⟨g1, g2, _⟩ := Kn.greedy_spec h hff.2
  have hlen := Kn.greedy_len h hff.2
  have hbd := Kn.block_data h d
  unfold Kn.block at hbd
  rw [if_pos hc] at hbd
  rw [turnB_of h (cs := k.greedy d) rfl g1 (Kn.greedy_last h hff.2) (by omega) (by rw [g2]; exact hff.1) rfl hbd]
  unfold Kn.comp
  rw [flip_greedy]
 ·rw [if_neg hc, if_neg (fun hh => hc ⟨hdf.1 hh.1, by rw [← hcl]; exact hh.2⟩)]
  rfl

theorem turnL_split {k : Kn} (h : k.Valid) (size : Nat) : ∀ (f : Nat) (d : List UInt8), k.turnL (splitF k size f d) = some (splitF k.flip size f d) := by
 intro f
 induction f with
 | zero => intro d; rfl
 | succ f ih =>
  intro d
  unfold splitF
  split
  ·rfl
  ·rw [turnL_cons, turnB_block h, ih]

theorem turnL_of_datas {k : Kn} : ∀ (bs : List Blk) (D : List UInt8), k.datas bs = some D → ∃ cs, k.turnL bs = some cs := by
 intro bs
 induction bs with
 | nil => intro D _; exact ⟨[], rfl⟩
 | cons b bs ih =>
  intro D h
  have h' : (match k.blockData b, k.datas bs with | some d, some e => some (d ++ e) | _, _ => none) = some D := h
  cases hb : k.blockData b with
  | none => rw [hb] at h'; cases h'
  | some e =>
   cases hl : k.datas bs with
   | none => rw [hb, hl] at h'; cases h'
   | some r =>
    obtain ⟨cs, hcs⟩ := ih r hl
    obtain ⟨c, hc⟩ : ∃ c, k.turnB b = some c := by
     unfold Kn.turnB
     cases b.raw with
     | true => exact ⟨b, rfl⟩
     | false => rw [hb]; exact ⟨_, rfl⟩
    exact ⟨c :: cs, by rw [turnL_cons, hc, hcs]⟩

theorem tch_sizes {f t : Nat} : ∀ (bs cs : List Blk) (p : Nat), cs.map (·.size) = bs.map (·.size) → tch f t p cs = tch f t p bs := by
 intro bs
 induction bs with
 | nil =>
  intro cs p h
  cases cs with
  | nil => rfl
  | cons c cs => simp at h
 | cons b bs ih =>
  intro cs p h
  cases cs with
  | nil => simp at h
  | cons c cs =>
   rw [List.map_cons, List.map_cons] at h
   injection h with h1 h2
   show (if _ then 1 else 0) + tch f t (p + c.size) cs = (if _ then 1 else 0) + tch f t (p + b.size) bs
   rw [h1, ih cs _ h2]

theorem whole_turn {o l m size f t : Int} {d L D : List UInt8} {s x : ByteArray} (h : replC o l m d (contB s) f t L size = some x) (hD : contD o l m d (contB s) = some D) :
  ∃ (o2 : Int) (u z : ByteArray), (1 : Int) - o = o2 ∧ (o2 = 0 ∨ o2 = 1) ∧ turnC o l m d (contB s) = some u ∧ contD o2 l m d (contB u) = some D ∧ replC o2 l m d (contB u) f t L size = some z := by
 obtain ⟨on, ln, mn, fn, tn, sz, bs, a, b, rfl, rfl, rfl, rfl, rfl, rfl, hbs, F⟩ := replC_some h
 rw [hbs, contD_of F.fit] at hD
 obtain ⟨cs, hc⟩ := turnL_of_datas bs D hD
 have hkv := (Kn.dict_fresh F.fit).1.val
 have hfv := flip_valid hkv
 obtain ⟨c1, c2, c3, _, c5, ⟨D', c6, c7⟩, _, _⟩ := turnL_back hkv bs cs F.ok hc
 rw [hD] at c6
 injection c6 with c6
 subst c6
 obtain ⟨f1, f2, f3, f4⟩ := dfits_flip F.fit
 have hkd : kdict on ln mn d = Kn.dict on ln mn d := rfl
 have hk2 : Kn.dict (1 - on : Nat) ln mn d = (Kn.dict on ln mn d).flip := flip_dict on ln mn d
 have h40 := F.l40
 have hz := F.z
 have hub : contB (textsFrom 0 cs) = some (renumL 0 cs) := contB_texts c1 (by omega) (by omega)
 have hdat : (Kn.dict on ln mn d).flip.datas (renumL 0 cs) = some D := by rw [Kn.datas_renumL]; exact c7
 have hzr : szs (renumL 0 cs) = szs bs := by rw [renumL_szs]; exact c3
 have hokr := renumL_okb c1 0
 have hsr : (renumL 0 cs).map (·.size) = bs.map (·.size) := by rw [renumL_size]; exact c5
 obtain ⟨a', q1, q2⟩ := cut_data hfv (f := 0) (t := fn) (renumL 0 cs) 0 D hokr hdat
 obtain ⟨b', q3, q4⟩ := cut_data hfv (f := tn) (t := szs bs) (renumL 0 cs) 0 D hokr hdat
 obtain ⟨a1, a2, a3⟩ := cut_some hfv (renumL 0 cs) 0 a' hokr q1
 obtain ⟨b1, b2, b3⟩ := cut_some hfv (renumL 0 cs) 0 b' hokr q3
 obtain ⟨_, _, g3⟩ := cut_some hkv bs 0 a F.ok F.cut1
 obtain ⟨_, _, g4⟩ := cut_some hkv bs 0 b F.ok F.cut2
 rw [tch_sizes bs _ 0 hsr, ← g3] at a3
 rw [tch_sizes bs _ 0 hsr, ← g4] at b3
 obtain ⟨s1, s2, s3⟩ := turnL_some hkv _ _ F.oks (turnL_split hkv sz L.length L)
 have hlen := F.len
 have hzz := F.zz
 have hza := F.za
 have hzb := F.zb
 have hft := F.ft
 have htz := F.tz
 rw [List.length_append, List.length_append] at hlen
 rw [szs_append, szs_append] at hzz
 have s1' : ((Kn.dict on ln mn d).flip.split sz L).length = ((Kn.dict on ln mn d).split sz L).length := s1
 have s2' : szs ((Kn.dict on ln mn d).flip.split sz L) = szs ((Kn.dict on ln mn d).split sz L) := s2
 refine ⟨((1 - on : Nat) : Int), textsFrom 0 cs, textsFrom 0 (a' ++ (Kn.dict on ln mn d).flip.split sz L ++ b'), f3, by omega, ?_, ?_, ?_⟩
 ·rw [hbs, turnC_yes F.fit, hkd, hc]; rfl
 ·rw [hub, contD_of f1, hk2]; exact hdat
 ·rw [hub]
  have hro : replOk ((1 - on : Nat) : Int) ln mn d (renumL 0 cs) fn tn L.length sz := ⟨⟨f1, by omega, by omega, by rw [hzr]; omega⟩, F.room⟩
  rw [replC_yes hro, hk2]
  unfold replB
  rw [hzr, q1, q3]
  show mkC _ = _
  refine mkC_yes ?_ ?_
  ·rw [List.length_append, List.length_append]; omega
  ·rw [szs_append, szs_append, s2']
   rw [hzr] at a2 b2
   omega

theorem lcp_same : ∀ (x y : List UInt8) (k : Nat), k ≤ lcp x y → x.take k = y.take k
 | [], y, k, h => by
  have : k = 0 := by simpa [lcp] using h
  subst this; simp
 | a :: x, [], k, h => by
  have : k = 0 := by simpa [lcp] using h
  subst this; simp
 | a :: x, b :: y, k, h => by
  unfold lcp at h
  cases k with
  | zero => simp
  | succ k =>
   split at h
   ·rename_i e
    subst e
    rw [List.take_succ_cons, List.take_succ_cons, lcp_same x y k (by omega)]
   ·omega

theorem pat_some (D E : List UInt8) (hD : D.length ≤ 2000) (hE : E.length ≤ 2000) :
  ∃ (i j : Nat) (V : List UInt8), pat (bsL D) (bsL E) = ⟨i, j, bsL V, true⟩ ∧ i ≤ j ∧ j ≤ D.length ∧ D.take i ++ V ++ D.drop j = E ∧ V.length ≤ 2000 := by
 obtain ⟨n, hn⟩ : ∃ n, lcp D E = n := ⟨_, rfl⟩
 have hnD : n ≤ D.length := by rw [← hn]; exact lcp_le_left D E
 have hnE : n ≤ E.length := by rw [← hn]; exact lcp_le_right D E
 obtain ⟨k, hk⟩ : ∃ k, endK (bsL D) (bsL E) n = k := ⟨_, rfl⟩
 have hs1 : (bsL D).size = D.length := rfl
 have hs2 : (bsL E).size = E.length := rfl
 obtain ⟨k1, k2⟩ := endK_le (bsL D) (bsL E) n (by omega) (by omega)
 rw [hk, hs1] at k1
 rw [hk, hs2] at k2
 have hp := pat_yes (a := bsL D) (b := bsL E) (n := n) (k := k) (by omega) (by omega) (by simpa [bsL] using hn) hk
 have e1 : D.take n = E.take n := lcp_same D E n (by omega)
 have e2 : D.drop (D.length - k) = E.drop (E.length - k) := by
  unfold endK at hk
  rw [hs1, hs2, bsL_drop, bsL_drop] at hk
  have hk' : lcp (D.drop n).reverse (E.drop n).reverse = k := by simpa [bsL] using hk
  have := lcp_same _ _ k (Nat.le_of_eq hk'.symm)
  rw [List.take_reverse, List.take_reverse, List.reverse_inj, List.drop_drop, List.drop_drop, List.length_drop, List.length_drop] at this
  have g1 : n + (D.length - n - k) = D.length - k := by omega
  have g2 : n + (E.length - n - k) = E.length - k := by omega
  rw [g1, g2] at this
  exact this
 refine ⟨n, D.length - k, (E.drop n).take (E.length - k - n), ?_, by omega, by omega, ?_, ?_⟩
 ·rw [hp, hs1, hs2, bsL_part]
  congr 1
  omega
 ·rw [e1, e2]
  have g : E.drop (E.length - k) = (E.drop n).drop (E.length - k - n) := by
   rw [List.drop_drop]; congr 1; omega
  rw [g, List.append_assoc, List.take_append_drop, List.take_append_drop]
 ·rw [List.length_take, List.length_drop]; omega

theorem lawsSoData (o l m : Int) (d s : ByteArray) (w : World) (hd : d.size ≤ 1048576) (hs : s.size ≤ 1048576) :
  Calls Tryz.prog 18 #[.agg #[.int .i64 o, .int .i64 l, .int .i64 m], .string d, .string s] w fun e w' => e = .returned (.string (bsL ((contD o l m d.data.toList (contB s)).getD []))) ∧ Below w.heap.size w w' := by
 have hW0 := Lib.hid ((Below.refl w.heap.size w).alloc (Nat.le_refl _) (.cells #[.int .i64 o, .int .i64 l, .int .i64 m] 24))
 have kb0 := KBn.start w 24 [.int .i64 o, .int .i64 l, .int .i64 m]
 have HS := Lib.hid (fun W => implContainerData o l m d s W hd hs)
 obtain ⟨R, hR⟩ : ∃ R, bsL ((contD o l m d.data.toList (contB s)).getD []) = R := ⟨_, rfl⟩
 have HS' : Hid (∀ W, Calls Tryz.prog 16 #[.agg #[.int .i64 o, .int .i64 l, .int .i64 m], .string d, .string s] W fun e w' => e = .returned (.tuple #[.string R, .bool (contD o l m d.data.toList (contB s)).isSome]) ∧ Below W.heap.size W w') := Lib.hid (by rw [← hR]; exact HS.out)
 rw [hR]
 clear hR HS
 go_enter Tryz.func18, Tryz.ntmps18
 have q0 := kb0.c 0 _ rfl
 have q1 := kb0.c 1 _ rfl
 have q2 := kb0.c 2 _ rfl
 clear kb0
 go_wp2_with fail
 refine (HS'.out _).mono ?_
 rintro e w1 ⟨rfl, hb1⟩
 have hW1 := Lib.hid (hW0.out.trans (hb1.mono hW0.out.size))
 clear hb1
 go_wp2_with fail
 go_ret
 exact ⟨rfl, hW1.out⟩

theorem lawsSoRange (f t n : Int) (b : Bool) (w : World) (hb : b = true ↔ 0 ≤ f ∧ f ≤ t ∧ t ≤ n) :
  Calls Tryz.prog 37 #[.int .i64 f, .int .i64 t, .int .i64 n] w fun e w' => e = .returned (.bool b) ∧ w = w' := by
 have HB := Lib.hid hb
 clear hb
 by_cases h1 : 0 ≤ f
 ·have g1 := decide_eq_true (p := (0 : Int) ≤ f) h1
  by_cases h2 : f ≤ t
  ·have g2 := decide_eq_true (p := f ≤ t) h2
   by_cases h3 : t ≤ n
   ·have g3 := decide_eq_true (p := t ≤ n) h3
    have hbt : b = true := HB.out.2 ⟨h1, h2, h3⟩
    subst hbt
    go_enter Tryz.func37, Tryz.ntmps37
    go_wp2_with fail
    go_ret
    exact ⟨rfl, rfl⟩
   ·have g3 := decide_eq_false (p := t ≤ n) h3
    have hbt : b = false := by cases b with | false => rfl | true => exact absurd (HB.out.1 rfl).2.2 h3
    subst hbt
    go_enter Tryz.func37, Tryz.ntmps37
    go_wp2_with fail
    go_ret
    exact ⟨rfl, rfl⟩
  ·have g2 := decide_eq_false (p := f ≤ t) h2
   have hbt : b = false := by cases b with | false => rfl | true => exact absurd (HB.out.1 rfl).2.1 h2
   subst hbt
   go_enter Tryz.func37, Tryz.ntmps37
   go_wp2_with fail
   go_ret
   exact ⟨rfl, rfl⟩
 ·have g1 := decide_eq_false (p := (0 : Int) ≤ f) h1
  have hbt : b = false := by cases b with | false => rfl | true => exact absurd (HB.out.1 rfl).1 h1
  subst hbt
  go_enter Tryz.func37, Tryz.ntmps37
  go_wp2_with fail
  go_ret
  exact ⟨rfl, rfl⟩

def SetPat (w : World) (e : Ending) (w' : World) : Prop := ∃ (o l m : Int) (d s : ByteArray) (a b : Int) (t : ByteArray) (z : Int), e = .returned (.tuple #[.agg #[.int .i64 o, .int .i64 l, .int .i64 m], .string d, .string s, .agg #[.int .i64 a, .int .i64 b, .string t], .int .i64 z]) ∧ d.size ≤ 1000 ∧ s.size ≤ 10000 ∧ (-9223372036854775808 ≤ a ∧ a ≤ 9223372036854775807) ∧ (-9223372036854775808 ≤ b ∧ b ≤ 9223372036854775807) ∧ t.size ≤ 10000 ∧ (-9223372036854775808 ≤ z ∧ z ≤ 9223372036854775807) ∧ Below w.heap.size w w'

set_option maxHeartbeats 1000000 in
theorem specDrawPatchContainer (A : Option Addr) (n c : Nat) (bs : List UInt8) (w : World) (h : ByteRow w A n bs) (hnc : n ≤ c) :
  Calls Tryz.prog 43 #[.slice A n c] w (SetPat w) := by
 have hW0 : Below w.heap.size w ((w.alloc (.cells #[.int .i64 0, .int .i64 0, .int .i64 0] 24)).alloc (.cells #[.int .i64 0, .int .i64 0, .string ⟨#[]⟩] 59)) := ((Below.refl w.heap.size w).alloc (Nat.le_refl _) _).alloc (by simp) _
 have hrow : ByteRow ((w.alloc (.cells #[.int .i64 0, .int .i64 0, .int .i64 0] 24)).alloc (.cells #[.int .i64 0, .int .i64 0, .string ⟨#[]⟩] 59)) A n bs := h.below2 hW0
 have zb0 : KBn ((w.alloc (.cells #[.int .i64 0, .int .i64 0, .int .i64 0] 24)).alloc (.cells #[.int .i64 0, .int .i64 0, .string ⟨#[]⟩] 59)) w.heap.size [.int .i64 0, .int .i64 0, .int .i64 0] := (KBn.start w 24 [.int .i64 0, .int .i64 0, .int .i64 0]).below ((Below.refl _ _).alloc (Nat.le_refl _) _)
 have pb0 : KBn ((w.alloc (.cells #[.int .i64 0, .int .i64 0, .int .i64 0] 24)).alloc (.cells #[.int .i64 0, .int .i64 0, .string ⟨#[]⟩] 59)) (w.heap.size + 1) [.int .i64 0, .int .i64 0, .string ⟨#[]⟩] := by
  have := KBn.start (w.alloc (.cells #[.int .i64 0, .int .i64 0, .int .i64 0] 24)) 59 [.int .i64 0, .int .i64 0, .string ⟨#[]⟩]
  rw [World.size_alloc] at this
  exact this
 go_enter Tryz.func43, Tryz.ntmps43
 go_upto_region 1 with (fail)
 obtain ⟨H, hH⟩ : ∃ H, w.heap.size = H := ⟨_, rfl⟩
 obtain ⟨w0, hw0⟩ : ∃ W, ((w.alloc (.cells #[.int .i64 0, .int .i64 0, .int .i64 0] 24)).alloc (.cells #[.int .i64 0, .int .i64 0, .string ⟨#[]⟩] 59)) = W := ⟨_, rfl⟩
 rw [hw0] at hrow hW0 zb0 pb0 ⊢
 have hwH : w.heap.size ≤ H := by omega
 have hwH1 : w.heap.size ≤ H + 1 := by omega
 rw [hH] at zb0 pb0 ⊢
 clear hw0 h hH
 go_wp2_with fail
 refine (specDrawReplaceRange A n c bs _ hrow hnc).mono ?_
 rintro e w1 ⟨o2, l2, m2, d, s, f, t, dat, z, rfl, hd, hs, hf, ht, hdat, hz, hb1⟩
 have sbx := KBn.start w1 24 [.int .i64 o2, .int .i64 l2, .int .i64 m2]
 change KBn (w1.alloc (.cells #[.int .i64 o2, .int .i64 l2, .int .i64 m2] 24)) _ _ at sbx
 have zz := (zb0.below hb1).alloc (.cells #[.int .i64 o2, .int .i64 l2, .int .i64 m2] 24)
 have pz := (pb0.below hb1).alloc (.cells #[.int .i64 o2, .int .i64 l2, .int .i64 m2] 24)
 have hWx := (hW0.trans (hb1.mono hW0.size)).alloc (hW0.trans (hb1.mono hW0.size)).size (.cells #[.int .i64 o2, .int .i64 l2, .int .i64 m2] 24)
 have hHb : H + 1 < w1.heap.size := (pb0.below hb1).lt
 replace hf := Lib.hid hf
 replace ht := Lib.hid ht
 replace hz := Lib.hid hz
 go_upto_region 2 with (fail)
 obtain ⟨b, hb⟩ : ∃ b, w1.heap.size = b := ⟨_, rfl⟩
 obtain ⟨w3, hw3⟩ : ∃ W, w1.alloc (.cells #[.int .i64 o2, .int .i64 l2, .int .i64 m2] 24) = W := ⟨_, rfl⟩
 rw [hw3] at sbx zz pz hWx ⊢
 rw [hb] at sbx hHb ⊢
 clear hw3 hb
 have q0 := sbx.c 0 _ rfl
 have q1 := sbx.c 1 _ rfl
 have q2 := sbx.c 2 _ rfl
 have r0 := zz.c 0 _ rfl
 have r1 := zz.c 1 _ rfl
 have r2 := zz.c 2 _ rfl
 have y0 := zz.f 0 _ rfl
 have y1 := zz.f 1 _ rfl
 have y2 := zz.f 2 _ rfl
 have s0 := pz.c 0 _ rfl
 have s1 := pz.c 1 _ rfl
 have s2 := pz.c 2 _ rfl
 have x0 := pz.f 0 _ rfl
 have x1 := pz.f 1 _ rfl
 have x2 := pz.f 2 _ rfl
 have hfin := Lib.hid (below_set3 (below_set3 hWx hwH (.int .i64 o2) (.int .i64 l2) (.int .i64 m2)) hwH1 (.int .i64 f) (.int .i64 t) (.string dat))
 clear zz pz zb0 pb0 hb1 hW0 hrow hWx sbx
 go_wp2_with fail
 refine bodyPost_ret (v := .tuple #[.agg #[.int .i64 o2, .int .i64 l2, .int .i64 m2], .string d, .string s, .agg #[.int .i64 f, .int .i64 t, .string dat], .int .i64 z]) (by simp [results, Tryz.results43, go_sem, r0, r1, r2, s0, s1, s2]) rfl ?_
 exact ⟨_, _, _, _, _, _, _, _, _, rfl, hd, hs, hf.out, ht.out, hdat, hz.out, hfin.out⟩

theorem hidW {a w w' : World} (h : Hid (Below a.heap.size a w)) (hb : Below w.heap.size w w') : Hid (Below a.heap.size a w') := Lib.hid (h.out.trans (hb.mono h.out.size))

theorem hidK {w w' : World} {H : Nat} {vs : List Value} (h : Hid (KBn w H vs)) (hb : Below w.heap.size w w') : Hid (KBn w' H vs) := Lib.hid (h.out.below hb)

theorem c3 {w : World} {H : Nat} {a b c : Value} (h : Hid (KBn w H [a, b, c])) : w.cell? ⟨H, 0, none⟩ = some a ∧ w.cell? ⟨H, 1, none⟩ = some b ∧ w.cell? ⟨H, 2, none⟩ = some c := ⟨h.out.c 0 _ rfl, h.out.c 1 _ rfl, h.out.c 2 _ rfl⟩

theorem whole_law {o l m size f t : Int} {d : List UInt8} {s x U : ByteArray} {D : List UInt8} (h : replC o l m d (contB s) f t U.data.toList size = some x) (hD : contD o l m d (contB s) = some D) :
  ∃ (o2 : Int) (u z X : ByteArray) (fn tn fu i j : Nat) (E V : List UInt8), f = fn ∧ t = tn ∧ (1 : Int) - o = o2 ∧ (o2 = 0 ∨ o2 = 1) ∧ turnC o l m d (contB s) = some u ∧ replC o2 l m d (contB u) fn tn U.data.toList size = some z ∧
   contD o l m d (contB x) = some E ∧ contD o2 l m d (contB z) = some E ∧ apl (bsL D) fn tn U = (bsL E, true) ∧ pat (bsL D) (bsL E) = ⟨i, j, bsL V, true⟩ ∧ inv (bsL D) fn tn U = ⟨fn, fu, X, true⟩ ∧ fn ≤ fu ∧ fu ≤ (bsL E).size ∧
   (∀ y, replC o l m d (contB s) i j V size = some y → contD o l m d (contB y) = some E ∧ y.size ≤ 2960) ∧ s.size ≤ 2960 ∧ x.size ≤ 2960 ∧ u.size ≤ 2960 ∧ z.size ≤ 2960 ∧ (bsL D).size ≤ 2000 ∧ (bsL E).size ≤ 2000 ∧ (bsL V).size ≤ 2000 := by
 obtain ⟨o2, u, z, ho, ho2, hu, hDu, hz⟩ := whole_turn h hD
 obtain ⟨fn, tn, zl, p, q, Do, Dx, e1, e2, hft, htz, hz2, hL, hp, hq, hzp, hzq, s1, s2, d1, d2, d3⟩ := replace_law h
 subst e1 e2
 rw [hp, d1] at hD
 obtain ⟨hDl, hE⟩ := d3 D hD
 obtain ⟨fn', tn', zl', p', q', Do', Dx', e1', e2', _, _, _, _, hp', hq', _, _, s1', s2', d1', d2', d3'⟩ := replace_law hz
 have e3 : fn' = fn := by omega
 have e4 : tn' = tn := by omega
 subst e3 e4
 rw [hp', d1'] at hDu
 obtain ⟨_, hE'⟩ := d3' D hDu
 have hUl : U.data.toList.length = U.size := by simp
 rw [hUl] at hL hzq
 have hqz := (contB_ok hq).2.2.1
 obtain ⟨E, hEe⟩ : ∃ E, D.take fn' ++ U.data.toList ++ D.drop tn' = E := ⟨_, rfl⟩
 have hEl : E.length = zl - (tn' - fn') + U.size := by
  rw [← hEe, List.length_append, List.length_append, List.length_take, List.length_drop, hUl]; omega
 rw [hEe] at hE hE'
 have hDs : (bsL D).size = D.length := rfl
 have hEs : (bsL E).size = E.length := rfl
 have hfit : pfits (bsL D).size fn' tn' U.size := ⟨by omega, by omega, by omega, by omega, by omega, by omega⟩
 obtain ⟨i, j, V, g1, g2, g3, g4, g5⟩ := pat_some D E (by omega) (by omega)
 refine ⟨o2, u, z, (bsL D).extract fn' tn', fn', tn', fn' + U.size, i, j, E, V, rfl, rfl, ho, ho2, hu, hz, by rw [hq, d2]; exact hE, by rw [hq', d2']; exact hE', ?_, g1, ?_, by omega, by omega, fun y hy => ?_, s1, s2, s1', s2', by omega, by omega, g5⟩
 ·rw [apl_yes hfit, bsL_take, hDs, bsL_drop, ← hEe, ← bsL_append, ← bsL_append, bsL_of]
 ·rw [inv_yes hfit]; rfl
 ·obtain ⟨i', j', _, p2, q2, Do2, Dx2, e5, e6, _, _, _, _, hp2, hq2, _, _, _, s3, d4, d5, d6⟩ := replace_law hy
  have e7 : i' = i := by omega
  have e8 : j' = j := by omega
  subst e7 e8
  rw [hp] at hp2
  injection hp2 with hp2
  subst hp2
  rw [d1, hD] at d4
  obtain ⟨_, hE2⟩ := d6 D d4.symm
  rw [g4] at hE2
  exact ⟨by rw [hq2, d5]; exact hE2, s3⟩

set_option maxHeartbeats 4000000 in
theorem lawFnWholeEdit (A : Option Addr) (n c : Nat) (bs : List UInt8) (w : World) (h : ByteRow w A n bs) (hnc : n ≤ c) :
  Calls Tryz.prog 12 #[.slice A n c] w fun e w' => e = .returned (.bool true) ∧ Below w.heap.size w w' := by
 have hle := h.le
 unfold maxLen at hle
 by_cases hn : n ≤ 1048576
 ·have gn := decide_eq_false (p := (1048576 : Int) < n) (by omega)
  have gn2 := decide_eq_false (p := 1048576 < n) (by omega)
  go_enter Tryz.func12, Tryz.ntmps12
  go_wp2_with fail
  refine (specDrawPatchContainer A n c bs _ h hnc).mono ?_
  rintro e w1 ⟨o, l, m, d, s, f, t, U, size, rfl, hd, hs, hf, ht, hU, hsr, hb1⟩
  have hA1 := hb1.alloc hb1.size (.cells #[.int .i64 o, .int .i64 l, .int .i64 m] 24)
  have hW2 := hA1.alloc hA1.size (.cells #[.int .i64 f, .int .i64 t, .string U] 59)
  have kb2 : KBn ((w1.alloc (.cells #[.int .i64 o, .int .i64 l, .int .i64 m] 24)).alloc (.cells #[.int .i64 f, .int .i64 t, .string U] 59)) w1.heap.size [.int .i64 o, .int .i64 l, .int .i64 m] := (KBn.start w1 24 [.int .i64 o, .int .i64 l, .int .i64 m]).below ((Below.refl _ _).alloc (Nat.le_refl _) _)
  have pb2 : KBn ((w1.alloc (.cells #[.int .i64 o, .int .i64 l, .int .i64 m] 24)).alloc (.cells #[.int .i64 f, .int .i64 t, .string U] 59)) (w1.heap.size + 1) [.int .i64 f, .int .i64 t, .string U] := by
   have := KBn.start (w1.alloc (.cells #[.int .i64 o, .int .i64 l, .int .i64 m] 24)) 59 [.int .i64 f, .int .i64 t, .string U]
   rw [World.size_alloc] at this
   exact this
  clear hb1 h hA1
  go_upto_region 4 with (fail)
  obtain ⟨G, hG⟩ : ∃ G, w1.heap.size = G := ⟨_, rfl⟩
  obtain ⟨w2, hw2⟩ : ∃ W, ((w1.alloc (.cells #[.int .i64 o, .int .i64 l, .int .i64 m] 24)).alloc (.cells #[.int .i64 f, .int .i64 t, .string U] 59)) = W := ⟨_, rfl⟩
  rw [hw2] at kb2 pb2 hW2 ⊢
  rw [hG] at kb2 pb2 ⊢
  clear hw2 hG
  replace kb2 := Lib.hid kb2
  replace pb2 := Lib.hid pb2
  replace hW2 := Lib.hid hW2
  have HI := fun W => implPatchContainer o l m d s f t U size W (by omega) (by omega) (by omega)
  have HS := fun W => specPatchContainer o l m d s f t U size W (by omega) (by omega) (by omega)
  have H1 := fun W => implContainerData o l m d s W (by omega) (by omega)
  replace hf := Lib.hid hf
  replace ht := Lib.hid ht
  replace hsr := Lib.hid hsr
  obtain ⟨R, hT⟩ : ∃ R, replC o l m d.data.toList (contB s) f t U.data.toList size = R := ⟨_, rfl⟩
  obtain ⟨Q, hD⟩ : ∃ Q, contD o l m d.data.toList (contB s) = Q := ⟨_, rfl⟩
  rw [hT] at HI HS
  rw [hD] at H1
  unfold optV at HI HS
  obtain ⟨x, hx⟩ : ∃ x, R.getD ByteArray.empty = x := ⟨_, rfl⟩
  obtain ⟨b, hb⟩ : ∃ b, R.isSome = b := ⟨_, rfl⟩
  obtain ⟨YD, hYD⟩ : ∃ Y, bsL (Q.getD []) = Y := ⟨_, rfl⟩
  obtain ⟨b1, hb1⟩ : ∃ b, Q.isSome = b := ⟨_, rfl⟩
  rw [hx, hb] at HI HS
  rw [hYD, hb1] at H1
  replace HI := Lib.hid HI
  replace HS := Lib.hid HS
  replace H1 := Lib.hid H1
  replace hT := Lib.hid hT
  replace hD := Lib.hid hD
  replace hx := Lib.hid hx
  replace hb := Lib.hid hb
  replace hYD := Lib.hid hYD
  replace hb1 := Lib.hid hb1
  obtain ⟨ka0, ka1, ka2⟩ := c3 kb2
  obtain ⟨pa0, pa1, pa2⟩ := c3 pb2
  go_wp2_with fail
  refine (HI.out _).mono ?_
  rintro e w3 ⟨rfl, h3⟩
  have hW3 := hidW hW2 h3
  have kb3 := hidK kb2 h3
  have pb3 := hidK pb2 h3
  clear h3 hW2 kb2 pb2 ka0 ka1 ka2 pa0 pa1 pa2
  obtain ⟨ka0, ka1, ka2⟩ := c3 kb3
  obtain ⟨pa0, pa1, pa2⟩ := c3 pb3
  go_wp2_with fail
  refine (HS.out _).mono ?_
  rintro e w4 ⟨rfl, h4⟩
  have hW4 := hidW hW3 h4
  have kb4 := hidK kb3 h4
  have pb4 := hidK pb3 h4
  clear h4 hW3 kb3 pb3 ka0 ka1 ka2 pa0 pa1 pa2
  obtain ⟨ka0, ka1, ka2⟩ := c3 kb4
  obtain ⟨pa0, pa1, pa2⟩ := c3 pb4
  go_wp2_with fail
  refine (H1.out _).mono ?_
  rintro e w5 ⟨rfl, h5⟩
  have hW5 := hidW hW4 h5
  have kb5 := hidK kb4 h5
  have pb5 := hidK pb4 h5
  clear h5 hW4 kb4 pb4 ka0 ka1 ka2 pa0 pa1 pa2
  cases b
  ·clear hT hD hx hb hYD hb1
   go_wp2_with fail
   go_ret
   exact ⟨rfl, hW5.out⟩
  cases b1
  ·clear hT hD hx hb hYD hb1
   go_wp2_with fail
   go_ret
   exact ⟨rfl, hW5.out⟩
  rcases R with _ | x'
  ·cases hb.out
  rcases Q with _ | D
  ·cases hb1.out
  have hx' : x' = x := hx.out
  subst hx'
  replace hYD : bsL D = YD := hYD.out
  replace hD := hD.out
  obtain ⟨o2, u, z, X, fn, tn, fu, i, j, E, V, rfl, rfl, ho2, ho01, hu, hz, hDx, hDz, hap, hpa, hiv, hfu, hfe, hy, s1, s2, s3, s4, s5, s6, s7⟩ := whole_law hT.out hD
  have HDs := fun W => lawsSoData o l m d s W (by omega) (by omega)
  have HDx := fun W => lawsSoData o l m d x' W (by omega) (by omega)
  have HDz := fun W => lawsSoData o2 l m d z W (by omega) (by omega)
  have HU := fun W => implTurnContainer o l m d s W (by omega) (by omega)
  have HZ := fun W => implPatchContainer o2 l m d u fn tn U size W (by omega) (by omega) (by omega)
  rw [hD] at HDs
  rw [hDx] at HDx
  rw [hDz] at HDz
  rw [hu] at HU
  rw [hz] at HZ
  unfold optV at HU HZ
  simp only [Option.getD_some, Option.isSome_some] at HDs HDx HDz HU HZ
  obtain ⟨YE, hYE⟩ : ∃ Y, bsL E = Y := ⟨_, rfl⟩
  obtain ⟨YV, hYV⟩ : ∃ Y, bsL V = Y := ⟨_, rfl⟩
  have hYVl : YV.data.toList = V := by rw [← hYV]
  rw [hYD] at HDs hap hpa hiv s5
  rw [hYE] at HDx HDz hap hpa hfe s6
  rw [hYV] at hpa s7
  have HA := fun W => implApplyPatch YD fn tn U W (by omega) (by omega)
  have HP := fun W => implPatchOf YD YE W (by omega) (by omega)
  have HV := fun W => implInvertPatch YD fn tn U W (by omega) (by omega)
  have HY := fun W => implPatchContainer o l m d s i j YV size W (by omega) (by omega) (by omega)
  rw [hap] at HA
  rw [hpa] at HP
  rw [hiv] at HV
  rw [hYVl] at HY
  obtain ⟨R, hyc⟩ : ∃ R, replC o l m d.data.toList (contB s) i j V size = R := ⟨_, rfl⟩
  rw [hyc] at HY
  unfold PB.val at HP HV
  unfold optV at HY
  have HDy : R.isSome = true → ∀ W, Calls Tryz.prog 18 #[.agg #[.int .i64 o, .int .i64 l, .int .i64 m], .string d, .string (R.getD ByteArray.empty)] W fun e w' => e = .returned (.string YE) ∧ Below W.heap.size W w' := fun h W => by
   rcases R with _ | y
   ·cases h
   ·obtain ⟨hDy, s8⟩ := hy y hyc
    have H := lawsSoData o l m d y W (by omega) (by omega)
    rw [hDy] at H
    simp only [Option.getD_some] at H
    rw [hYE] at H
    exact H
  obtain ⟨y, hy1⟩ : ∃ y, R.getD ByteArray.empty = y := ⟨_, rfl⟩
  obtain ⟨b3, hb3⟩ : ∃ b, R.isSome = b := ⟨_, rfl⟩
  rw [hy1, hb3] at HY HDy
  have HR := Lib.hid (fun W => lawsSoRange fn fu (YE.size : Int) true W ⟨fun _ => ⟨by omega, by omega, by omega⟩, fun _ => rfl⟩)
  have wo2 : IntKind.i64.wrap o2 = o2 := IntWalk.i64_in _ (by omega)
  replace HDs := Lib.hid HDs
  replace HDx := Lib.hid HDx
  replace HDz := Lib.hid HDz
  replace HU := Lib.hid HU
  replace HZ := Lib.hid HZ
  replace HA := Lib.hid HA
  replace HP := Lib.hid HP
  replace HV := Lib.hid HV
  replace HY := Lib.hid HY
  replace HDy := Lib.hid HDy
  clear hT hD hx hb hb1 hu hz hDx hDz hap hpa hiv hfu hfe hy s1 s2 s3 s4 s5 s6 s7 hYD hYE hYV hYVl hyc ho01 hy1 hb3
  obtain ⟨ka0, ka1, ka2⟩ := c3 kb5
  obtain ⟨pa0, pa1, pa2⟩ := c3 pb5
  go_wp2_with fail
  refine (HA.out _).mono ?_
  rintro e w6 ⟨rfl, h6⟩
  have hW6 := hidW hW5 h6
  have kb6 := hidK kb5 h6
  have pb6 := hidK pb5 h6
  clear h6 hW5 kb5 pb5 ka0 ka1 ka2 pa0 pa1 pa2
  obtain ⟨ka0, ka1, ka2⟩ := c3 kb6
  obtain ⟨pa0, pa1, pa2⟩ := c3 pb6
  go_wp2_with fail
  refine (HP.out _).mono ?_
  rintro e w7 ⟨rfl, h7⟩
  have hW7 := hidW hW6 h7
  have kb7 := hidK kb6 h7
  have pb7 := hidK pb6 h7
  clear h7 hW6 kb6 pb6 ka0 ka1 ka2 pa0 pa1 pa2
  have qb8 := KBn.start w7 59 [.int .i64 i, .int .i64 j, .string YV]
  change KBn (w7.alloc (.cells #[.int .i64 i, .int .i64 j, .string YV] 59)) _ _ at qb8
  have kb8 := kb7.out.alloc (.cells #[.int .i64 i, .int .i64 j, .string YV] 59)
  have nkb8 := kb7.out.lt
  have pb8 := pb7.out.alloc (.cells #[.int .i64 i, .int .i64 j, .string YV] 59)
  have npb8 := pb7.out.lt
  have hW8 := hW7.out.alloc hW7.out.size (.cells #[.int .i64 i, .int .i64 j, .string YV] 59)
  have hge8 := hW7.out.size
  clear hW7 kb7 pb7
  go_upto_region 11 with (fail)
  obtain ⟨G8, hG8⟩ : ∃ G, w7.heap.size = G := ⟨_, rfl⟩
  obtain ⟨w8, hw8⟩ : ∃ W, (w7.alloc (.cells #[.int .i64 i, .int .i64 j, .string YV] 59)) = W := ⟨_, rfl⟩
  rw [hw8] at hW8 kb8 pb8 qb8 ⊢
  rw [hG8] at qb8 hge8 nkb8 npb8 ⊢
  clear hw8 hG8
  replace kb8 := Lib.hid kb8
  replace pb8 := Lib.hid pb8
  replace qb8 := Lib.hid qb8
  replace hW8 := Lib.hid hW8
  obtain ⟨ka0, ka1, ka2⟩ := c3 kb8
  obtain ⟨pa0, pa1, pa2⟩ := c3 pb8
  obtain ⟨qa0, qa1, qa2⟩ := c3 qb8
  go_wp2_with fail
  refine (HY.out _).mono ?_
  rintro e w9 ⟨rfl, h9⟩
  have hW9 := hidW hW8 h9
  have kb9 := hidK kb8 h9
  have pb9 := hidK pb8 h9
  have qb9 := hidK qb8 h9
  clear h9 hW8 kb8 pb8 qb8 ka0 ka1 ka2 pa0 pa1 pa2 qa0 qa1 qa2
  clear qb9
  have q0 := kb9.out.c 0 _ rfl
  have q1 := kb9.out.c 1 _ rfl
  have q2 := kb9.out.c 2 _ rfl
  have ob10 := KBn.start w9 24 [.int .i64 o, .int .i64 l, .int .i64 m]
  change KBn (w9.alloc (.cells #[.int .i64 o, .int .i64 l, .int .i64 m] 24)) _ _ at ob10
  have kb10 := kb9.out.alloc (.cells #[.int .i64 o, .int .i64 l, .int .i64 m] 24)
  have nkb10 := kb9.out.lt
  have pb10 := pb9.out.alloc (.cells #[.int .i64 o, .int .i64 l, .int .i64 m] 24)
  have npb10 := pb9.out.lt
  have hW10 := hW9.out.alloc hW9.out.size (.cells #[.int .i64 o, .int .i64 l, .int .i64 m] 24)
  have hge10 := hW9.out.size
  clear hW9 kb9 pb9
  go_upto_region 13 with (fail)
  clear q0 q1 q2
  obtain ⟨G10, hG10⟩ : ∃ G, w9.heap.size = G := ⟨_, rfl⟩
  obtain ⟨w10, hw10⟩ : ∃ W, (w9.alloc (.cells #[.int .i64 o, .int .i64 l, .int .i64 m] 24)) = W := ⟨_, rfl⟩
  rw [hw10] at hW10 kb10 pb10 ob10 ⊢
  rw [hG10] at ob10 hge10 nkb10 npb10 ⊢
  clear hw10 hG10
  replace kb10 := Lib.hid kb10
  replace pb10 := Lib.hid pb10
  replace ob10 := Lib.hid ob10
  replace hW10 := Lib.hid hW10
  have q0 := kb10.out.c 0 _ rfl
  have f0 := ob10.out.f 0 _ rfl
  have p0 := ob10.out.c 0 _ rfl
  have kb11 := kb10.out.keep (S := fun x => x = G10) (Keep.of_set (S := fun x => x = G10) (w := w10) (p := ⟨G10, 0, none⟩) rfl (.int .i64 o2)) (by omega)
  have pb11 := pb10.out.keep (S := fun x => x = G10) (Keep.of_set (S := fun x => x = G10) (w := w10) (p := ⟨G10, 0, none⟩) rfl (.int .i64 o2)) (by omega)
  have ob11 := ob10.out.set (j := 0) rfl (.int .i64 o2)
  change KBn _ _ [.int .i64 o2, .int .i64 l, .int .i64 m] at ob11
  have hW11 := hW10.out.setCell (p := ⟨G10, 0, none⟩) hge10 (.int .i64 o2)
  clear hW10 kb10 pb10 ob10
  go_upto_region 14 with (fail)
  clear q0 f0 p0
  obtain ⟨w11, hw11⟩ : ∃ W, w10.setCell ⟨G10, 0, none⟩ (.int .i64 o2) = W := ⟨_, rfl⟩
  rw [hw11] at hW11 kb11 pb11 ob11 ⊢
  clear hw11
  replace kb11 := Lib.hid kb11
  replace pb11 := Lib.hid pb11
  replace ob11 := Lib.hid ob11
  replace hW11 := Lib.hid hW11
  obtain ⟨ka0, ka1, ka2⟩ := c3 kb11
  obtain ⟨pa0, pa1, pa2⟩ := c3 pb11
  obtain ⟨oa0, oa1, oa2⟩ := c3 ob11
  go_wp2_with fail
  refine (HU.out _).mono ?_
  rintro e w12 ⟨rfl, h12⟩
  have hW12 := hidW hW11 h12
  have kb12 := hidK kb11 h12
  have pb12 := hidK pb11 h12
  have ob12 := hidK ob11 h12
  clear h12 hW11 kb11 pb11 ob11 ka0 ka1 ka2 pa0 pa1 pa2 oa0 oa1 oa2
  obtain ⟨ka0, ka1, ka2⟩ := c3 kb12
  obtain ⟨pa0, pa1, pa2⟩ := c3 pb12
  obtain ⟨oa0, oa1, oa2⟩ := c3 ob12
  go_wp2_with fail
  refine (HZ.out _).mono ?_
  rintro e w13 ⟨rfl, h13⟩
  have hW13 := hidW hW12 h13
  have kb13 := hidK kb12 h13
  have pb13 := hidK pb12 h13
  have ob13 := hidK ob12 h13
  clear h13 hW12 kb12 pb12 ob12 ka0 ka1 ka2 pa0 pa1 pa2 oa0 oa1 oa2
  obtain ⟨ka0, ka1, ka2⟩ := c3 kb13
  obtain ⟨pa0, pa1, pa2⟩ := c3 pb13
  obtain ⟨oa0, oa1, oa2⟩ := c3 ob13
  go_wp2_with fail
  refine (HV.out _).mono ?_
  rintro e w14 ⟨rfl, h14⟩
  have hW14 := hidW hW13 h14
  have kb14 := hidK kb13 h14
  have pb14 := hidK pb13 h14
  have ob14 := hidK ob13 h14
  clear h14 hW13 kb13 pb13 ob13 ka0 ka1 ka2 pa0 pa1 pa2 oa0 oa1 oa2
  clear pb14
  have ub15 := KBn.start w14 59 [.int .i64 fn, .int .i64 fu, .string X]
  change KBn (w14.alloc (.cells #[.int .i64 fn, .int .i64 fu, .string X] 59)) _ _ at ub15
  have kb15 := kb14.out.alloc (.cells #[.int .i64 fn, .int .i64 fu, .string X] 59)
  have nkb15 := kb14.out.lt
  have ob15 := ob14.out.alloc (.cells #[.int .i64 fn, .int .i64 fu, .string X] 59)
  have nob15 := ob14.out.lt
  have hW15 := hW14.out.alloc hW14.out.size (.cells #[.int .i64 fn, .int .i64 fu, .string X] 59)
  have hge15 := hW14.out.size
  clear hW14 kb14 ob14
  go_upto_region 17 with (fail)
  obtain ⟨G15, hG15⟩ : ∃ G, w14.heap.size = G := ⟨_, rfl⟩
  obtain ⟨w15, hw15⟩ : ∃ W, (w14.alloc (.cells #[.int .i64 fn, .int .i64 fu, .string X] 59)) = W := ⟨_, rfl⟩
  rw [hw15] at hW15 kb15 ob15 ub15 ⊢
  rw [hG15] at ub15 hge15 nkb15 nob15 ⊢
  clear hw15 hG15
  replace kb15 := Lib.hid kb15
  replace ob15 := Lib.hid ob15
  replace ub15 := Lib.hid ub15
  replace hW15 := Lib.hid hW15
  obtain ⟨ka0, ka1, ka2⟩ := c3 kb15
  obtain ⟨oa0, oa1, oa2⟩ := c3 ob15
  obtain ⟨ua0, ua1, ua2⟩ := c3 ub15
  go_wp2_with fail
  refine (HDx.out _).mono ?_
  rintro e w16 ⟨rfl, h16⟩
  have hW16 := hidW hW15 h16
  have kb16 := hidK kb15 h16
  have ob16 := hidK ob15 h16
  have ub16 := hidK ub15 h16
  clear h16 hW15 kb15 ob15 ub15 ka0 ka1 ka2 oa0 oa1 oa2 ua0 ua1 ua2
  cases b3
  ·clear HDy
   obtain ⟨ka0, ka1, ka2⟩ := c3 kb16
   obtain ⟨oa0, oa1, oa2⟩ := c3 ob16
   obtain ⟨ua0, ua1, ua2⟩ := c3 ub16
   go_wp2_with fail
   refine (HDz.out _).mono ?_
   rintro e w17 ⟨rfl, h17⟩
   have hW17 := hidW hW16 h17
   have kb17 := hidK kb16 h17
   have ob17 := hidK ob16 h17
   have ub17 := hidK ub16 h17
   clear h17 hW16 kb16 ob16 ub16 ka0 ka1 ka2 oa0 oa1 oa2 ua0 ua1 ua2
   obtain ⟨ka0, ka1, ka2⟩ := c3 kb17
   obtain ⟨oa0, oa1, oa2⟩ := c3 ob17
   obtain ⟨ua0, ua1, ua2⟩ := c3 ub17
   go_wp2_with fail
   refine (HR.out _).mono ?_
   rintro e w18 ⟨rfl, rfl⟩
   clear ka0 ka1 ka2 oa0 oa1 oa2 ua0 ua1 ua2
   obtain ⟨ka0, ka1, ka2⟩ := c3 kb17
   obtain ⟨oa0, oa1, oa2⟩ := c3 ob17
   obtain ⟨ua0, ua1, ua2⟩ := c3 ub17
   go_wp2_with fail
   refine (HDs.out _).mono ?_
   rintro e w18 ⟨rfl, h18⟩
   have hW18 := hidW hW17 h18
   have kb18 := hidK kb17 h18
   have ob18 := hidK ob17 h18
   have ub18 := hidK ub17 h18
   clear h18 hW17 kb17 ob17 ub17 ka0 ka1 ka2 oa0 oa1 oa2 ua0 ua1 ua2
   go_wp2_with fail
   go_ret
   exact ⟨rfl, hW18.out⟩
  obtain ⟨ka0, ka1, ka2⟩ := c3 kb16
  obtain ⟨oa0, oa1, oa2⟩ := c3 ob16
  obtain ⟨ua0, ua1, ua2⟩ := c3 ub16
  go_wp2_with fail
  refine ((HDy.out (by simp)) _).mono ?_
  rintro e w17 ⟨rfl, h17⟩
  have hW17 := hidW hW16 h17
  have kb17 := hidK kb16 h17
  have ob17 := hidK ob16 h17
  have ub17 := hidK ub16 h17
  clear h17 hW16 kb16 ob16 ub16 ka0 ka1 ka2 oa0 oa1 oa2 ua0 ua1 ua2
  obtain ⟨ka0, ka1, ka2⟩ := c3 kb17
  obtain ⟨oa0, oa1, oa2⟩ := c3 ob17
  obtain ⟨ua0, ua1, ua2⟩ := c3 ub17
  go_wp2_with fail
  refine (HDz.out _).mono ?_
  rintro e w18 ⟨rfl, h18⟩
  have hW18 := hidW hW17 h18
  have kb18 := hidK kb17 h18
  have ob18 := hidK ob17 h18
  have ub18 := hidK ub17 h18
  clear h18 hW17 kb17 ob17 ub17 ka0 ka1 ka2 oa0 oa1 oa2 ua0 ua1 ua2
  obtain ⟨ka0, ka1, ka2⟩ := c3 kb18
  obtain ⟨oa0, oa1, oa2⟩ := c3 ob18
  obtain ⟨ua0, ua1, ua2⟩ := c3 ub18
  go_wp2_with fail
  refine (HR.out _).mono ?_
  rintro e w19 ⟨rfl, rfl⟩
  clear ka0 ka1 ka2 oa0 oa1 oa2 ua0 ua1 ua2
  obtain ⟨ka0, ka1, ka2⟩ := c3 kb18
  obtain ⟨oa0, oa1, oa2⟩ := c3 ob18
  obtain ⟨ua0, ua1, ua2⟩ := c3 ub18
  go_wp2_with fail
  refine (HDs.out _).mono ?_
  rintro e w19 ⟨rfl, h19⟩
  have hW19 := hidW hW18 h19
  have kb19 := hidK kb18 h19
  have ob19 := hidK ob18 h19
  have ub19 := hidK ub18 h19
  clear h19 hW18 kb18 ob18 ub18 ka0 ka1 ka2 oa0 oa1 oa2 ua0 ua1 ua2
  go_wp2_with fail
  go_ret
  exact ⟨rfl, hW19.out⟩
 ·have gn := decide_eq_true (p := (1048576 : Int) < n) (by omega)
  have gn2 := decide_eq_true (p := 1048576 < n) (by omega)
  clear h
  go_enter Tryz.func12, Tryz.ntmps12
  go_wp2_with fail
  go_ret
  exact ⟨rfl, Below.refl _ _⟩

end Go.Proofs.YthlgpgaeajfchaaGreat

