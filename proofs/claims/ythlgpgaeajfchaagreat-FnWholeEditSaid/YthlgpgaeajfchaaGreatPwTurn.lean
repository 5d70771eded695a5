/-
 TurnContainer of the reference and of the program, and the walk of the law FnExactTurnContainer.
-/
import Derived.Test.YthlgpgaeajfchaaGreatPwImplUnp
import Derived.Test.YthlgpgaeajfchaaGreatPwSpecRead

namespace Go.Proofs.YthlgpgaeajfchaaGreat
open Go.RowKit
set_option linter.unusedVariables false
set_option linter.unusedSimpArgs false
set_option maxRecDepth 100000

def turnC (o l m : Int) (d : List UInt8) (ob : Option (List Blk)) : Option ByteArray :=
 match ob with
 | some bs => if dfits o l m d then ((kdict o l m d).turnL bs).map (textsFrom 0) else none
 | none => none

theorem turnL_take {k : Kn} {bs cs : List Blk} {i : Nat} {b c : Blk} (hb : bs[i]? = some b) (h1 : k.turnL (bs.take i) = some cs) (h2 : k.turnB b = some c) : k.turnL (bs.take (i + 1)) = some (cs ++ [c]) := by
 have hap : ∀ (a : List Blk) (x : List Blk), k.turnL a = some x → k.turnL (a ++ [b]) = some (x ++ [c]) := by
  intro a
  induction a with
  | nil =>
   intro x hx
   have : x = [] := by simpa [Kn.turnL] using hx.symm
   subst this
   simp [Kn.turnL, h2]
  | cons y ys ih =>
   intro x hx
   unfold Kn.turnL at hx
   cases hy : k.turnB y with
   | none => rw [hy] at hx; cases hx
   | some y2 =>
    cases hr : k.turnL ys with
    | none => rw [hy, hr] at hx; cases hx
    | some r =>
     rw [hy, hr] at hx
     injection hx with hx
     subst hx
     show k.turnL (y :: (ys ++ [b])) = _
     unfold Kn.turnL
     rw [hy, ih r hr]
     rfl
 rw [List.take_add_one, hb]
 exact hap _ _ h1

theorem turnL_none {k : Kn} {bs : List Blk} {i : Nat} {b : Blk} (hb : bs[i]? = some b) (h2 : k.turnB b = none) : k.turnL bs = none := by
 induction bs generalizing i with
 | nil => simp at hb
 | cons y ys ih =>
  unfold Kn.turnL
  cases i with
  | zero =>
   have : y = b := by simpa using hb
   subst this
   rw [h2]
  | succ i =>
   rw [ih (i := i) (by simpa using hb)]
   cases k.turnB y <;> rfl

theorem turnL_some {k : Kn} (h : k.Valid) : ∀ (bs cs : List Blk), (∀ b ∈ bs, b.okb) → k.turnL bs = some cs → cs.length = bs.length ∧ szs cs = szs bs ∧ ∀ c ∈ cs, c.okb := by
 intro bs
 induction bs with
 | nil =>
  intro cs _ hc
  have : cs = [] := by simpa [Kn.turnL] using hc.symm
  subst this
  exact ⟨rfl, rfl, fun c hc => by cases hc⟩
 | cons y ys ih =>
  intro cs hok hc
  unfold Kn.turnL at hc
  cases hy : k.turnB y with
  | none => rw [hy] at hc; cases hc
  | some y2 =>
   cases hr : k.turnL ys with
   | none => rw [hy, hr] at hc; cases hc
   | some r =>
    rw [hy, hr] at hc
    injection hc with hc
    subst hc
    obtain ⟨g1, g2, _⟩ := turnB_some h (hok y (List.mem_cons_self ..)) hy
    obtain ⟨i1, i2, i3⟩ := ih r (fun b hb => hok b (List.mem_cons_of_mem _ hb)) hr
    refine ⟨by simp [i1], ?_, fun c hc => ?_⟩
    ·show y2.size + szs r = y.size + szs ys
     rw [g2, i2]
    ·rcases List.mem_cons.1 hc with rfl | hc
     ·exact g1
     ·exact i3 c hc

theorem cellsB_setBody (x : ByteArray) : ∀ (rows : List Blk) (j : Nat) (b : Blk), rows[j]? = some b → (cellsB rows).set (j * 4 + 3) (.string x) = cellsB (rows.set j { b with body := x }) := by
 intro rows
 induction rows with
 | nil => intro j b h; simp at h
 | cons a ys ih =>
  intro j b h
  have hc : ∀ (y : Blk) (zs : List Blk), cellsB (y :: zs) = blkCells y ++ cellsB zs := fun y zs => by simp [cellsB]
  cases j with
  | zero =>
   have : a = b := by simpa using h
   subst this
   rw [hc, List.set_cons_zero, hc]
   rfl
  | succ j =>
   have h2 : ys[j]? = some b := by simpa using h
   rw [hc, List.set_cons_succ, hc, ← ih j b h2]
   show (_ :: _ :: _ :: _ :: cellsB ys).set ((j + 1) * 4 + 3) _ = _
   rw [show (j + 1) * 4 + 3 = (j * 4 + 3) + 4 by omega]
   rfl

structure TuM (k : Kn) (kv : List Value) (w0 : World) (H G : Nat) (Ak : Option Addr) (ck : Nat) (Ab : Option Addr) (n cb : Nat) (rows : List Blk) (w : World) : Prop where
 set : KBn w H kv
 kb : KBn w G [.int .i64 (k.o : Int), .int .i64 (k.l : Int), .int .i64 (k.m : Int), .slice Ak k.ps.length ck, .int .i64 (k.base : Int), .int .i64 k.lastI]
 at_ : k.At w w.heap.size Ak
 far : 0 < k.ps.length → ∀ b off, Ak = some ⟨b, off, none⟩ → (Value.slice Ab n cb).ownBlock ≠ some b
 own : w.ownsRow (H + 1) 36 4 (.slice Ab n cb) n (cellsB rows)
 ne : (Value.slice Ab n cb).ownBlock ≠ some G
 bel : Below H w0 w

section
variable {k : Kn} {kv : List Value} {w0 w w' : World} {H G : Nat} {Ak : Option Addr} {ck : Nat} {Ab : Option Addr} {n cb : Nat} {rows : List Blk}

theorem TuM.below (h : TuM k kv w0 H G Ak ck Ab n cb rows w) (hb : Below w.heap.size w w') : TuM k kv w0 H G Ak ck Ab n cb rows w' :=
 ⟨h.set.below hb, h.kb.below hb, Row.more (Row.below h.at_ hb (Nat.le_refl _)) hb.size, h.far, own_below h.own hb (Nat.le_refl _), h.ne, h.bel.trans (hb.mono (Nat.le_of_lt h.set.lt))⟩

theorem TuM.put (h : TuM k kv w0 H G Ak ck Ab n cb rows w) {g j : Nat} {b : Blk} (hA : Ab = some ⟨g, 0, none⟩) (hj : rows[j]? = some b) (x : ByteArray) :
  TuM k kv w0 H G Ak ck Ab n cb (rows.set j { b with body := x }) (w.setCell ⟨g, j * 4 + 3, none⟩ (.string x)) := by
 subst hA
 have hgH : H + 1 ≤ g := (h.own.lt g rfl).1
 have hk := Keep.of_set (S := fun x => x = g) (w := w) (p := ⟨g, j * 4 + 3, none⟩) rfl (.string x)
 refine ⟨h.set.keep hk (by omega), h.kb.keep hk (fun e => h.ne (by rw [e]; rfl)), ?_, h.far, ?_, h.ne, ?_⟩
 ·refine ⟨h.at_.1, fun hn => ?_⟩
  obtain ⟨b2, off, e, hb, hc⟩ := h.at_.2 hn
  refine ⟨b2, off, e, by simpa [World.setCell] using hb, fun i v hv => ?_⟩
  exact (World.cell?_setCell_other _ _ _ _ (fun e2 => by
   have e3 : g = b2 := by injection e2
   exact h.far hn b2 off e (by rw [← e3]; rfl))).trans (hc i v hv)
 ·rw [← cellsB_setBody x rows j b hj]
  exact own_set h.own rfl _
 ·exact h.bel.setCell (p := ⟨g, j * 4 + 3, none⟩) (by show H ≤ g; omega) _

theorem TuM.blk (h : TuM k kv w0 H G Ak ck Ab n cb rows w) {j : Nat} {b : Blk} (hj : rows[j]? = some b) (hjn : j < n) :
  ∃ g, Ab = some ⟨g, 0, none⟩ ∧ g ≠ G ∧ g ≠ H ∧ g < w.heap.size ∧ w.cell? ⟨g, j * 4, none⟩ = some (.int .i64 (b.num : Int)) ∧ w.cell? ⟨g, j * 4 + 1, none⟩ = some (.bool b.raw) ∧ w.cell? ⟨g, j * 4 + 2, none⟩ = some (.int .i64 (b.size : Int)) ∧ w.cell? ⟨g, j * 4 + 3, none⟩ = some (.string b.body) ∧ w.frozen? ⟨g, j * 4 + 3, none⟩ = false := by
 obtain ⟨g, hg, hb, hlt, _, hc, hf⟩ := own_place h.own (by omega)
 refine ⟨g, hg, fun e => h.ne (by rw [hg, e]; rfl), by omega, hlt, hc _ _ ((cellsB_get rows j 0 b hj (by omega)).trans rfl), hc _ _ ((cellsB_get rows j 1 b hj (by omega)).trans rfl), hc _ _ ((cellsB_get rows j 2 b hj (by omega)).trans rfl), hc _ _ ((cellsB_get rows j 3 b hj (by omega)).trans rfl), hf _⟩

end

theorem blockData_fin {k : Kn} {b : Blk} {e : List UInt8} (hr : b.raw = false) (h : k.blockData b = some e) : (k.unpack b.body.data.toList).fin = 0 := by
 unfold Kn.blockData at h
 rw [hr] at h
 simp only [Bool.false_eq_true, if_false] at h
 split at h
 ·rename_i hc; exact hc.1
 ·cases h

theorem rows_next {cs bs : List Blk} {j : Nat} {b c : Blk} (hcl : cs.length = j) (hb : bs[j]? = some b) : (cs ++ bs.drop j)[j]? = some b ∧ (cs ++ bs.drop j).set j c = (cs ++ [c]) ++ bs.drop (j + 1) ∧ cs ++ bs.drop j = (cs ++ [b]) ++ bs.drop (j + 1) := by
 obtain ⟨hi, e⟩ := List.getElem?_eq_some_iff.1 hb
 have hd : bs.drop j = b :: bs.drop (j + 1) := by rw [List.drop_eq_getElem_cons hi, e]
 subst hcl
 refine ⟨?_, ?_, ?_⟩
 ·rw [hd]; simp
 ·rw [hd]; simp
 ·rw [hd]; simp

theorem turnC_yes {o l m : Int} {d : List UInt8} {bs : List Blk} (hf : dfits o l m d) : turnC o l m d (some bs) = ((kdict o l m d).turnL bs).map (textsFrom 0) := by
 show (if _ then _ else _) = _
 rw [if_pos hf]

theorem turnC_no {o l m : Int} {d : List UInt8} {ob : Option (List Blk)} (hf : ¬ dfits o l m d ∨ ob = none) : turnC o l m d ob = none := by
 unfold turnC
 split
 ·rcases hf with h | h
  ·rw [if_neg h]
  ·cases h
 ·rfl

set_option maxHeartbeats 2000000 in
theorem implTurnContainer (o l m : Int) (d s : ByteArray) (w : World) (hd : d.size ≤ 1048576) (hs : s.size ≤ 1048576) :
  Calls Tryz.prog 48 #[.agg #[.int .i64 o, .int .i64 l, .int .i64 m], .string d, .string s] w fun e w' => e = .returned (optV (turnC o l m d.data.toList (contB s))) ∧ Below w.heap.size w w' := by
 have hW0 := Lib.hid ((Below.refl w.heap.size w).alloc (Nat.le_refl _) (.cells #[.int .i64 o, .int .i64 l, .int .i64 m] 24))
 have kb0 := Lib.hid (KBn.start w 24 [.int .i64 o, .int .i64 l, .int .i64 m])
 by_cases hyn : ¬ dfits o l m d.data.toList ∨ contB s = none
 ·have HS := Lib.hid (fun W => implStartEditOff o l m d s W hd hs hyn)
  rw [turnC_no hyn]
  clear hyn
  go_enter Tryz.func48, Tryz.ntmps48
  go_wp2_with fail
  refine (HS.out _).mono ?_
  rintro e w1 ⟨rfl, hb1⟩
  have hW1 := Lib.hid ((hW0.out.trans (hb1.mono hW0.out.size)).alloc (hW0.out.trans (hb1.mono hW0.out.size)).size (.cells #[.int .i64 0, .int .i64 0, .int .i64 0, .slice none 0 0, .int .i64 0, .int .i64 0] 74))
  clear hb1 hW0 kb0
  go_wp2_with fail
  go_ret2
  exact ⟨rfl, hW1.out⟩
 ·have hf : dfits o l m d.data.toList := Classical.byContradiction (fun h => hyn (Or.inl h))
  obtain ⟨bs, hbs⟩ := Option.ne_none_iff_exists'.1 (fun h => hyn (Or.inr h))
  rw [hbs]
  obtain ⟨n, hn⟩ : ∃ n, bs.length = n := ⟨_, rfl⟩
  have hnum := contB_numbered hbs
  have hn40 := hnum.length
  rw [hn] at hn40
  have hok : ∀ b ∈ bs, b.okb := fun b hb => Blk.okb_of (hnum.of_mem hb)
  have hz : szs bs ≤ 2000 := conts_szs hbs
  obtain ⟨on, rfl⟩ : ∃ n : Nat, o = n := ⟨o.toNat, by have := hf.1.1; omega⟩
  obtain ⟨ln, rfl⟩ : ∃ n : Nat, l = n := ⟨l.toNat, by have := hf.1.2.1; omega⟩
  obtain ⟨mn, rfl⟩ : ∃ n : Nat, m = n := ⟨m.toNat, by have := hf.1.2; omega⟩
  have HS := fun W => implStartEditFar on ln mn n d.data.toList s bs W hf hs hbs hn
  have hbd : bsL d.data.toList = d := rfl
  simp only [hbd] at HS
  have hfr := (Kn.dict_fresh hf).1
  rw [turnC_yes hf]
  have hkd : kdict on ln mn d.data.toList = Kn.dict on ln mn d.data.toList := rfl
  rw [hkd]
  obtain ⟨k, hk⟩ : ∃ k, Kn.dict on ln mn d.data.toList = k := ⟨_, rfl⟩
  rw [hk] at HS hfr ⊢
  have HD := fun (A : Option Addr) (c B : Nat) (b : Blk) (W : World) (hb : b.okb) (hA : k.At W B A) (hB : B ≤ W.heap.size) => implBlockData k A c B b W hfr hA hB hb
  have HR := fun (A : Option Addr) (c B : Nat) (b : Blk) (W : World) (hb : b.okb) (hA : k.At W B A) (hB : B ≤ W.heap.size) (hfi : (k.unpack b.body.data.toList).fin = 0) => implRepack k A c B b.body.data.toList W hfr hA hB (by have := Blk.okb_body hb; simp; omega) hfi
  have hval := Kn.val_eq k
  simp only [hval] at HS HD HR
  have hL := Lib.hid (fun bs' cs h1 h2 => turnL_some hfr.val bs' cs h1 h2)
  replace HS := Lib.hid HS
  replace HD := Lib.hid HD
  replace HR := Lib.hid HR
  replace hok := Lib.hid hok
  replace hz := Lib.hid hz
  have hn' := Lib.hid hn
  clear hk hkd hbd hval hf hfr hbs hnum hn hyn
  go_enter Tryz.func48, Tryz.ntmps48
  go_wp2_with fail
  refine (HS.out _).mono ?_
  rintro e w2 ⟨Ak, ck, Ab, cb, B, rfl, hat, hcp, hfar, ho2, hB2, hb2⟩
  have hM0 : TuM k [.int .i64 (on : Int), .int .i64 (ln : Int), .int .i64 (mn : Int)] w w.heap.size w2.heap.size Ak ck Ab n cb bs (w2.alloc (.cells #[.int .i64 (k.o : Int), .int .i64 (k.l : Int), .int .i64 (k.m : Int), .slice Ak k.ps.length ck, .int .i64 (k.base : Int), .int .i64 k.lastI] 74)) := by
   have hal := (Below.refl w2.heap.size w2).alloc (Nat.le_refl _) (.cells #[.int .i64 (k.o : Int), .int .i64 (k.l : Int), .int .i64 (k.m : Int), .slice Ak k.ps.length ck, .int .i64 (k.base : Int), .int .i64 k.lastI] 74)
   have h1 := ho2.lt
   refine ⟨(kb0.out.below hb2).below hal, KBn.start w2 74 [.int .i64 (k.o : Int), .int .i64 (k.l : Int), .int .i64 (k.m : Int), .slice Ak k.ps.length ck, .int .i64 (k.base : Int), .int .i64 k.lastI], Row.more (Row.below hat hal (Nat.le_refl _)) hal.size, fun hn b off e e2 => ?_, own_base (own_below ho2 hal (Nat.le_refl _)) ?_, fun e => ?_, (hW0.out.trans (hb2.mono hW0.out.size)).trans (hal.mono (by have := hW0.out.size; have := hb2.size; omega))⟩
   ·have h3 := hfar hn b off e
    have h4 := (h1 b e2).1
    omega
   ·rw [World.size_alloc] at hB2; exact hB2
   ·have h4 := (h1 _ e).2
    omega
  replace hM0 := Lib.hid hM0
  clear hb2 hat hfar ho2 hB2 hW0 kb0 HS
  go_upto_region 4 with (fail)
  obtain ⟨G, hG⟩ : ∃ G, w2.heap.size = G := ⟨_, rfl⟩
  obtain ⟨w3, hw3⟩ : ∃ W, w2.alloc (.cells #[.int .i64 (k.o : Int), .int .i64 (k.l : Int), .int .i64 (k.m : Int), .slice Ak k.ps.length ck, .int .i64 (k.base : Int), .int .i64 k.lastI] 74) = W := ⟨_, rfl⟩
  rw [hw3] at hM0 ⊢
  rw [hG] at hM0 ⊢
  clear hw3 hG
  go_wp2_with fail
  go_loopw [29] (fun i wr => ∃ (j : Nat) (cs : List Blk), j ≤ n ∧ i = .int .i64 (j : Int) ∧ Hid (k.turnL (bs.take j) = some cs) ∧ Hid (TuM k [.int .i64 (on : Int), .int .i64 (ln : Int), .int .i64 (mn : Int)] w w.heap.size G Ak ck Ab n cb (cs ++ bs.drop j) wr)) (fun i _ => n - (intOf i).toNat)
  case atStart => exact ⟨0, [], Nat.zero_le _, rfl, Lib.hid rfl, hM0⟩
  case round =>
   obtain ⟨j, cs, hj, rfl, hT, hM⟩ := hrel
   clear hM0
   by_cases hlt : j < n
   ·obtain ⟨b, hb⟩ : ∃ b, bs[j]? = some b := ⟨_, List.getElem?_eq_getElem (by rw [hn'.out]; exact hlt)⟩
    have hob := hok.out b (List.mem_of_getElem? hb)
    have hcl : cs.length = j := by
     have h1 := (hL.out (bs.take j) cs (fun b hb => hok.out b (List.mem_of_mem_take hb)) hT.out).1
     rw [h1, List.length_take, hn'.out]; omega
    obtain ⟨r1, r2, r3⟩ := rows_next (c := b) hcl hb
    have hj0 : (0 : Int) ≤ j := by omega
    have hji : (j : Int) < n := by omega
    rcases hraw : b.raw with _ | _
    ·obtain ⟨g, rfl, hgG, hgH, hgl, p0, p1, p2, p3, _⟩ := hM.out.blk r1 hlt
     rw [hraw] at p1
     have hbv : b.val = .agg #[.int .i64 b.num, .bool b.raw, .int .i64 b.size, .string b.body] := rfl
     rw [hraw] at hbv
     have hDb := fun (W : World) (M : TuM k [.int .i64 (on : Int), .int .i64 (ln : Int), .int .i64 (mn : Int)] w w.heap.size G Ak ck (some ⟨g, 0, none⟩) n cb (cs ++ bs.drop j) W) => HD.out Ak ck W.heap.size b W hob M.at_ (Nat.le_refl _)
     rw [hbv] at hDb
     have hRp := fun (W : World) (M : TuM k [.int .i64 (on : Int), .int .i64 (ln : Int), .int .i64 (mn : Int)] w w.heap.size G Ak ck (some ⟨g, 0, none⟩) n cb (cs ++ bs.drop j) W) (e : List UInt8) (h : k.blockData b = some e) => HR.out Ak ck W.heap.size b W hob M.at_ (Nat.le_refl _) (blockData_fin hraw h)
     have hbb : bsL b.body.data.toList = b.body := rfl
     simp only [hbb] at hRp
     have hno : Hid (k.blockData b = none → k.turnL bs = none) := Lib.hid (fun h2 => turnL_none hb (by unfold Kn.turnB; rw [hraw, h2]; rfl))
     have hyes : Hid (∀ e, k.blockData b = some e → k.turnL (bs.take (j + 1)) = some (cs ++ [{ b with body := bsL (packL k.flip.o (k.flip.bits (k.unpack b.body.data.toList).codes)) }])) := Lib.hid (fun e h2 => turnL_take hb hT.out (by unfold Kn.turnB; rw [hraw, h2]; rfl))
     have hput : Hid (∀ (W : World) (x : ByteArray), TuM k [.int .i64 (on : Int), .int .i64 (ln : Int), .int .i64 (mn : Int)] w w.heap.size G Ak ck (some ⟨g, 0, none⟩) n cb (cs ++ bs.drop j) W → TuM k [.int .i64 (on : Int), .int .i64 (ln : Int), .int .i64 (mn : Int)] w w.heap.size G Ak ck (some ⟨g, 0, none⟩) n cb ((cs ++ [{ b with body := x }]) ++ bs.drop (j + 1)) (W.setCell ⟨g, j * 4 + 3, none⟩ (.string x))) := Lib.hid (fun W x M => by
      have := M.put rfl r1 x
      rw [(rows_next (c := { b with body := x }) hcl hb).2.1] at this
      exact this)
     have hblk : Hid (∀ W, TuM k [.int .i64 (on : Int), .int .i64 (ln : Int), .int .i64 (mn : Int)] w w.heap.size G Ak ck (some ⟨g, 0, none⟩) n cb (cs ++ bs.drop j) W → W.cell? ⟨g, j * 4 + 3, none⟩ = some (.string b.body) ∧ W.frozen? ⟨g, j * 4 + 3, none⟩ = false) := Lib.hid (fun W M => by
      obtain ⟨g2, e2, _, _, _, _, _, _, c3, f3⟩ := M.blk r1 hlt
      injection e2 with e2
      injection e2 with e2
      subst e2
      exact ⟨c3, f3⟩)
     obtain ⟨T2, hT2⟩ : ∃ x, bsL (packL k.flip.o (k.flip.bits (k.unpack b.body.data.toList).codes)) = x := ⟨_, rfl⟩
     rw [hT2] at hyes
     simp only [hT2] at hRp
     obtain ⟨x0, hx0⟩ : ∃ x : Nat, b.num = x := ⟨_, rfl⟩
     obtain ⟨x2, hx2⟩ : ∃ x : Nat, b.size = x := ⟨_, rfl⟩
     obtain ⟨x3, hx3⟩ : ∃ x, b.body = x := ⟨_, rfl⟩
     simp only [hx0, hx2, hx3] at hDb p0 p2 p3 hblk hRp
     obtain ⟨R, hR⟩ : ∃ R, bsL ((k.blockData b).getD []) = R := ⟨_, rfl⟩
     obtain ⟨sb, hsb⟩ : ∃ sb, (k.blockData b).isSome = sb := ⟨_, rfl⟩
     simp only [hR, hsb] at hDb
     obtain ⟨bo, hbo⟩ : ∃ x, k.blockData b = x := ⟨_, rfl⟩
     rw [hbo] at hsb hno hyes
     simp only [hbo] at hRp
     replace hDb := Lib.hid hDb
     replace hRp := Lib.hid hRp
     have hX5 := Lib.hid (KBn.start wr 36 [.int .i64 (x0 : Int), .bool false, .int .i64 (x2 : Int), .string x3])
     have M5 := Lib.hid (hM.out.below ((Below.refl _ _).alloc (Nat.le_refl _) (.cells #[.int .i64 (x0 : Int), .bool false, .int .i64 (x2 : Int), .string x3] 36)))
     clear hbv hbb hraw hb hob hbo hcl r1 r2 r3 hx0 hx2 hx3 hT2 hR hM
     go_upto_region 7 with (fail)
     obtain ⟨X, hX⟩ : ∃ X, wr.heap.size = X := ⟨_, rfl⟩
     obtain ⟨w5, hw5⟩ : ∃ W, wr.alloc (.cells #[.int .i64 (x0 : Int), .bool false, .int .i64 (x2 : Int), .string x3] 36) = W := ⟨_, rfl⟩
     rw [hw5] at M5 hX5 ⊢
     rw [hX] at hX5 ⊢
     clear hw5 hX p0 p1 p2 p3
     have y0 := hX5.out.c 0 _ rfl
     have y1 := hX5.out.c 1 _ rfl
     have y2 := hX5.out.c 2 _ rfl
     have y3 := hX5.out.c 3 _ rfl
     have q0 := M5.out.kb.c 0 _ rfl
     have q1 := M5.out.kb.c 1 _ rfl
     have q2 := M5.out.kb.c 2 _ rfl
     have q3 := M5.out.kb.c 3 _ rfl
     have q4 := M5.out.kb.c 4 _ rfl
     have q5 := M5.out.kb.c 5 _ rfl
     go_wp2_with fail
     refine (hDb.out _ M5.out).mono ?_
     rintro e w6 ⟨rfl, hb6⟩
     have M6 := Lib.hid (M5.out.below hb6)
     have hX6 := Lib.hid (hX5.out.below hb6)
     clear q0 q1 q2 q3 q4 q5 y0 y1 y2 y3 hb6 M5 hX5 hDb
     rcases bo with _ | e
     ·obtain rfl : sb = false := hsb.symm
      have hn2 := Lib.hid (hno.out rfl)
      clear hno hyes hput hblk hRp
      go_wp2_with fail
      refine bodyPost_ret (v := .tuple #[.string ⟨#[]⟩, .bool false]) (by simp [results, Tryz.results48, go_sem]) rfl ?_
      exact ⟨by rw [hn2.out]; rfl, M6.out.bel⟩
     ·obtain rfl : sb = true := hsb.symm
      have hT' := Lib.hid (hyes.out e rfl)
      have hR6 := Lib.hid (fun W M => hRp.out W M e rfl)
      clear hno hyes hRp
      have y3 := hX6.out.c 3 _ rfl
      have q0 := M6.out.kb.c 0 _ rfl
      have q1 := M6.out.kb.c 1 _ rfl
      have q2 := M6.out.kb.c 2 _ rfl
      have q3 := M6.out.kb.c 3 _ rfl
      have q4 := M6.out.kb.c 4 _ rfl
      have q5 := M6.out.kb.c 5 _ rfl
      go_wp2_with fail
      refine (hR6.out _ M6.out).mono ?_
      rintro e8 w8 ⟨rfl, hb8⟩
      have M8 := Lib.hid (M6.out.below hb8)
      clear q0 q1 q2 q3 q4 q5 y3 hb8 M6 hX6 hR6
      obtain ⟨u3, f3⟩ := hblk.out _ M8.out
      have M9 := Lib.hid (hput.out _ T2 M8.out)
      go_upto_region 15 with (fail)
      obtain ⟨w9, hw9⟩ : ∃ W, w8.setCell ⟨g, j * 4 + 3, none⟩ (.string T2) = W := ⟨_, rfl⟩
      rw [hw9] at M9 ⊢
      clear hw9 u3 f3 M8 hput hblk
      go_wp2_with fail
      go_roundw
      case rel => exact ⟨j + 1, _, by omega, by go_num, hT', M9⟩
      case measure => simp [intOf]; omega
    ·obtain ⟨g, rfl, hgG, hgH, hgl, p0, p1, p2, p3, _⟩ := hM.out.blk r1 hlt
     rw [hraw] at p1
     have hT' := Lib.hid (turnL_take hb hT.out (show k.turnB b = some b by unfold Kn.turnB; rw [hraw]; rfl))
     have hM' : Hid (TuM k [.int .i64 (on : Int), .int .i64 (ln : Int), .int .i64 (mn : Int)] w w.heap.size G Ak ck (some ⟨g, 0, none⟩) n cb ((cs ++ [b]) ++ bs.drop (j + 1)) wr) := Lib.hid (by rw [← r3]; exact hM.out)
     obtain ⟨x0, hx0⟩ : ∃ x : Nat, b.num = x := ⟨_, rfl⟩
     obtain ⟨x2, hx2⟩ : ∃ x : Nat, b.size = x := ⟨_, rfl⟩
     obtain ⟨x3, hx3⟩ : ∃ x, b.body = x := ⟨_, rfl⟩
     rw [hx0] at p0
     rw [hx2] at p2
     rw [hx3] at p3
     have M5 := Lib.hid (hM'.out.below ((Below.refl _ _).alloc (Nat.le_refl _) (.cells #[.int .i64 (x0 : Int), .bool true, .int .i64 (x2 : Int), .string x3] 36)))
     clear hb hob hcl r1 r2 r3 hraw hx0 hx2 hx3 hM hM'
     go_wp2_with fail
     go_roundw
     case rel => exact ⟨j + 1, _, by omega, by go_num, hT', M5⟩
     case measure => simp [intOf]; omega
   ·obtain rfl : j = n := by omega
    have hTn : k.turnL bs = some cs := by rw [← hT.out, List.take_of_length_le (by rw [hn'.out]; exact Nat.le_refl _)]
    have hcf := hL.out bs cs hok.out hTn
    have hMn : TuM k [.int .i64 (on : Int), .int .i64 (ln : Int), .int .i64 (mn : Int)] w w.heap.size G Ak ck Ab j cb cs wr := by
     have := hM.out
     rw [List.drop_of_length_le (by rw [hn'.out]; exact Nat.le_refl _), List.append_nil] at this
     exact this
    have hX := implMakeContainer Ab j cb wr.heap.size cs wr (Row.of_own hMn.own) (Nat.le_refl _) (by omega) (by have := hz.out; omega) hcf.2.2
    rw [mkC_yes (by rw [hcf.1, hn'.out]; omega) (by rw [hcf.2.1]; exact hz.out)] at hX
    unfold optV at hX
    replace hX := Lib.hid hX
    have hTn' := Lib.hid hTn
    have hbl := Lib.hid hMn.bel
    clear hcf hMn hTn
    go_wp2_with fail
    refine hX.out.mono ?_
    rintro e w9 ⟨rfl, hb9⟩
    have hW9 := Lib.hid (hbl.out.trans (hb9.mono hbl.out.size))
    clear hb9 hX hbl
    go_wp2_with fail
    refine bodyPost_ret (v := .tuple #[.string (textsFrom 0 cs), .bool true]) (by simp [results, Tryz.results48, go_sem]) rfl ?_
    exact ⟨by rw [hTn'.out]; rfl, hW9.out⟩

end Go.Proofs.YthlgpgaeajfchaaGreat

