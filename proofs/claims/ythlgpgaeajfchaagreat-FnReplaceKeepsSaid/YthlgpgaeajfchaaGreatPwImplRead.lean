/-
 The program's unpackBytes and readCodes: the codes of bits.
-/
import Derived.Test.YthlgpgaeajfchaaGreatPwImplAdv
import Derived.Test.YthlgpgaeajfchaaGreatPwMergeP

namespace Go.Proofs.YthlgpgaeajfchaaGreat
open Go.RowKit
set_option linter.unusedVariables false
set_option maxRecDepth 100000

theorem wpList_append_str {P : Program} {w : World} {ops : Array Oper} {rest : List Oper} {o : Oper} {a : Act} {Q : Exit → Act → World → Prop} {t u e : TypeId} (el : Elem P t e (.int .u8 0) 1 1) (hu : P.underlying u = some .string) (hgd : o.guard = none) (sl x : Operand)
  (ho : o.op = .call { callee := .builtin .append, args := #[sl, x], argTypes := #[t, u] }) (base : Nat)
  (v : Value) (n : Nat) (xs : List Value) (hs : a.eval sl = v) (hown : w.ownsRow base e 1 v n xs) (s : ByteArray) (hx : a.eval x = .string s) (h63 : n + s.size ≤ 1000000) (hbase : base ≤ w.heap.size)
  (h : ∀ v' w', w'.ownsRow base e 1 v' (n + s.size) (xs ++ s.data.toList.map byteV) → w.grownBy w' v.ownBlock → (v'.ownBlock = v.ownBlock ∨ v'.ownBlock = some w.heap.size) → wpList P ops Q rest (a.put o.dst v') w') : wpList P ops Q (o :: rest) a w :=
 wpList_plain hgd fun _ hK => wp_append_str w el hu sl x ho base v n xs hs hown s hx h63 hbase fun v' w' h2 h3 h4 => hK _ _ (h v' w' h2 h3 h4)

theorem own_grown {w w' : World} {base size n : Nat} {e : TypeId} {v : Value} {xs : List Value} {row : Option Nat} (h : w.ownsRow base e size v n xs) (hg : w.grownBy w' row) (hv : ∀ g, v.ownBlock = some g → row ≠ some g) : w'.ownsRow base e size v n xs :=
 own_keep h (S := fun g => row = some g) (Keep.of_grown hg (fun g e => Or.inl e)) (fun g e1 e2 => hv g e1 e2)

structure WiM (k : Kn) (w0 : World) (H : Nat) (k' : Kn) (A : Option Addr) (c : Nat) (ws : List Nat) (ds : List UInt8) (v1 v2 : Value) (w : World) : Prop where
 box : KB w H (.int .i64 (k.o : Int)) (.int .i64 (k.l : Int)) (.int .i64 (k.m : Int)) (.slice A k'.ps.length c) (.int .i64 (k.base : Int)) (.int .i64 k'.lastI)
 kp : k'.Own w (H + 1) A c
 o1 : w.ownsRow (H + 1) 3 1 v1 ws.length (ws.map natV)
 o2 : w.ownsRow (H + 1) 5 1 v2 ds.length (ds.map byteV)
 a1 : Apart v1 v2
 a2 : Apart (.slice A 0 0) v1
 a3 : Apart (.slice A 0 0) v2
 bel : Below H w0 w

section
variable {k : Kn} {w0 : World} {H : Nat} {k' : Kn} {A : Option Addr} {c : Nat} {ws : List Nat} {ds : List UInt8} {v1 v2 : Value} {w w' : World}

theorem WiM.lt (h : WiM k w0 H k' A c ws ds v1 v2 w) : H < w.heap.size := h.box.lt

theorem WiM.below (h : WiM k w0 H k' A c ws ds v1 v2 w) (hb : Below w.heap.size w w') : WiM k w0 H k' A c ws ds v1 v2 w' :=
 ⟨h.box.below hb, h.kp.below hb (Nat.le_refl _), own_below h.o1 hb (Nat.le_refl _), own_below h.o2 hb (Nat.le_refl _), h.a1, h.a2, h.a3, h.bel.trans (hb.mono (Nat.le_of_lt h.lt))⟩

theorem kpBlk (h : k'.Own w (H + 1) A c) {g : Nat} (hg : (Value.slice A 0 0).ownBlock = some g) : H + 1 ≤ g ∧ g < w.heap.size := by
 rw [← own_any A k'.ps.length c] at hg
 exact World.ownsRow.lt h g hg

theorem WiM.pushW (h : WiM k w0 H k' A c ws ds v1 v2 w) {v1' : Value} {o : Obj} {y : Nat} (hv : w'.ownsRow (H + 1) 3 1 v1' (ws.length + 1) (ws.map natV ++ [.int .i64 (y : Int)])) (hg : (w.alloc o).grownBy w' v1.ownBlock) (hat : v1'.ownBlock = v1.ownBlock ∨ v1'.ownBlock = some (w.heap.size + 1)) :
  WiM k w0 H k' A c (ws ++ [y]) ds v1' v2 w' := by
 have hlt := h.lt
 have h1 : ∀ g, v1.ownBlock = some g → H + 1 ≤ g := fun g hg => (h.o1.lt g hg).1
 have hk := Keep.of_row hg
 refine ⟨(h.box.alloc o).grown hg (fun e => by have := h1 _ e; omega), own_keep h.kp hk (fun g e1 e2 => h.a2 g (by rw [own_any] at e1; exact e1) e2), ?_, own_keep h.o2 hk (fun g e1 e2 => h.a1 g e2 e1), ?_, ?_, h.a3, ?_⟩
 ·rw [List.length_append, List.map_append]; exact hv
 ·exact Apart.step h.a1 hat (fun g e => by have := (h.o2.lt g e).2; omega)
 ·exact (Apart.step h.a2.symm hat (fun g e => by have := (kpBlk h.kp e).2; omega)).symm
 ·exact (h.bel.alloc (Nat.le_of_lt hlt) o).grown hg (by simp; omega) (fun g e => by have := h1 _ e; omega)

theorem WiM.pushD (h : WiM k w0 H k' A c ws ds v1 v2 w) {v2' : Value} {bs : List UInt8} {n : Nat} (hn : n = bs.length) (hv : w'.ownsRow (H + 1) 5 1 v2' (ds.length + n) (ds.map byteV ++ bs.map byteV)) (hg : w.grownBy w' v2.ownBlock) (hat : v2'.ownBlock = v2.ownBlock ∨ v2'.ownBlock = some w.heap.size) :
  WiM k w0 H k' A c ws (ds ++ bs) v1 v2' w' := by
 have hlt := h.lt
 have h2 : ∀ g, v2.ownBlock = some g → H + 1 ≤ g := fun g hg => (h.o2.lt g hg).1
 refine ⟨h.box.grown hg (fun e => by have := h2 _ e; omega), own_grown h.kp hg (fun g e1 e2 => h.a3 g (by rw [own_any] at e1; exact e1) e2), own_grown h.o1 hg (fun g e1 e2 => h.a1 g e1 e2), ?_, ?_, h.a2, ?_, ?_⟩
 ·rw [List.length_append, List.map_append, ← hn]; exact hv
 ·exact (Apart.step h.a1.symm hat (fun g e => (h.o1.lt g e).2)).symm
 ·exact (Apart.step h.a3.symm hat (fun g e => (kpBlk h.kp e).2)).symm
 ·exact h.bel.grown hg (by omega) (fun g e => by have := h2 _ e; omega)

theorem WiM.setK (h : WiM k w0 H k' A c ws ds v1 v2 w) {k2 : Kn} {A2 : Option Addr} {c2 : Nat} (hown : k2.Own w' (H + 1) A2 c2) (hap : App w w' (.slice A k'.ps.length c) (.slice A2 k2.ps.length c2)) :
  WiM k w0 H k2 A2 c2 ws ds v1 v2 (set6 w' H (.int .i64 (k.o : Int)) (.int .i64 (k.l : Int)) (.int .i64 (k.m : Int)) (.slice A2 k2.ps.length c2) (.int .i64 (k.base : Int)) (.int .i64 k2.lastI)) := by
 have hlt := h.lt
 have hg := hap.grow
 have hk : ∀ g, (Value.slice A k'.ps.length c).ownBlock = some g → H + 1 ≤ g := fun g e => (World.ownsRow.lt h.kp g e).1
 have hbx := h.box.grown hg (fun e => by have := hk _ e; omega)
 have hS : Keep (fun g => g = H) w' (set6 w' H (.int .i64 (k.o : Int)) (.int .i64 (k.l : Int)) (.int .i64 (k.m : Int)) (.slice A2 k2.ps.length c2) (.int .i64 (k.base : Int)) (.int .i64 k2.lastI)) := (Keep.refl (fun g => g = H) w').set6 (H := H) rfl _ _ _ _ _ _
 have h2 : ∀ {v : Value}, (∀ g, v.ownBlock = some g → H + 1 ≤ g) → ∀ g, v.ownBlock = some g → ¬ g = H := fun h g e e2 => by have := h g e; omega
 have hat : ∀ {v : Value}, Apart (.slice A 0 0) v → (∀ g, v.ownBlock = some g → g < w.heap.size) → Apart (.slice A2 0 0) v := fun {v} ha hv g e1 e2 => by
  rcases hap.at_ with h5 | ⟨g5, h5, h6⟩
  ·rw [own_any A2, own_any A] at h5
   rw [h5] at e1
   exact ha g e1 e2
  ·rw [own_any A2, e1] at h5
   injection h5 with h5
   have := hv g e2
   omega
 refine ⟨hbx.set _ _ _ _ _ _, own_keep hown hS (h2 (fun g e => (World.ownsRow.lt hown g e).1)), own_keep (own_grown h.o1 hg (fun g e1 e2 => h.a2 g (by rw [own_any] at e2; exact e2) e1)) hS (h2 (fun g e => (h.o1.lt g e).1)), own_keep (own_grown h.o2 hg (fun g e1 e2 => h.a3 g (by rw [own_any] at e2; exact e2) e1)) hS (h2 (fun g e => (h.o2.lt g e).1)), h.a1, hat h.a2 (fun g e => (h.o1.lt g e).2), hat h.a3 (fun g e => (h.o2.lt g e).2), ?_⟩
 exact below_set6 (h.bel.grown hg (by omega) (fun g e => by have := hk _ e; omega)) (Nat.le_refl _) _ _ _ _ _ _
end

set_option maxHeartbeats 2000000 in
theorem implWalkCodes (k : Kn) (A : Option Addr) (c B : Nat) (codes : List Nat) (Ac : Option Addr) (cc : Nat) (w : World) (h : k.Fresh) (hA : k.At w B A) (hB : B ≤ w.heap.size) (hF : k.Follow codes)
  (hrow : Row w B 1 Ac codes.length (codes.map natV)) (hn : codes.length ≤ 3100) (hd : (k.data codes).length ≤ 2000) :
  Calls Tryz.prog 137 #[k.val A c, .slice Ac codes.length cc] w fun e w' => ∃ A1 c1, e = .returned (.tuple #[.slice A1 codes.length c1, .string (bsL (k.data codes)), .bool true]) ∧ w'.ownsRow w.heap.size 3 1 (.slice A1 codes.length c1) codes.length ((k.widths codes).map natV) ∧ Below w.heap.size w w' := by
 have HC := fun W => implClearCode k.o k.l k.m W h.val.sv
 have hz : 2 ^ k.l = k.clear := rfl
 rw [hz] at HC
 have HE := fun W => implEndCode k.o k.l k.m W h.val.sv
 have hz3 : 2 ^ k.l + 1 = k.fin := rfl
 rw [hz3] at HE
 have hpw := h.val.pow
 have hfe := k.fin_eq
 have hwl := hF.widths_length h.val
 have HK := fun (W : World) (hb : Below w.heap.size w W) => implKnownValid k A c B W h (hA.below hb hB) (Nat.le_trans hB hb.size)
 have HCp := fun (W : World) (hb : Below w.heap.size w W) => implCopyKnown k A c B W h.val (hA.below hb hB) (Nat.le_trans hB hb.size)
 obtain ⟨n, hnn⟩ : ∃ n, codes.length = n := ⟨_, rfl⟩
 rw [hnn] at hrow hn hwl ⊢
 obtain ⟨z, hz2⟩ : ∃ z, k.clear = z := ⟨_, rfl⟩
 obtain ⟨fi, hfin⟩ : ∃ z, k.fin = z := ⟨_, rfl⟩
 have hzb : z ≤ 256 := by omega
 have hfib : fi ≤ 300 ∧ z < fi := by omega
 obtain ⟨hfib, hzfi⟩ := hfib
 have hn3 : decide ((3100 : Int) < n) = false := decide_eq_false (by omega)
 have hn4 : decide (3100 < n) = false := decide_eq_false (by omega)
 rw [hz2] at HC
 rw [hfin] at HE
 have hrow' := Lib.hid (fun (W : World) (hb : Below w.heap.size w W) => hrow.below hb hB)
 have hval := Kn.val_eq k
 simp only [hval] at HK HCp ⊢
 have kb0 := KB.start w 74 (.int .i64 (k.o : Int)) (.int .i64 (k.l : Int)) (.int .i64 (k.m : Int)) (.slice A k.ps.length c) (.int .i64 (k.base : Int)) (.int .i64 k.lastI)
 have hW0 := (Below.refl w.heap.size w).alloc (Nat.le_refl _) (.cells #[.int .i64 (k.o : Int), .int .i64 (k.l : Int), .int .i64 (k.m : Int), .slice A k.ps.length c, .int .i64 (k.base : Int), .int .i64 k.lastI] 74)
 have hs0 : (w.alloc (.cells #[.int .i64 (k.o : Int), .int .i64 (k.l : Int), .int .i64 (k.m : Int), .slice A k.ps.length c, .int .i64 (k.base : Int), .int .i64 k.lastI] 74)).heap.size = w.heap.size + 1 := by simp
 replace HC := Lib.hid HC
 replace HE := Lib.hid HE
 replace HK := Lib.hid HK
 replace HCp := Lib.hid HCp
 replace hwl := Lib.hid hwl
 replace hd := Lib.hid hd
 have hN := Lib.hid hnn
 have hz2' := Lib.hid hz2
 have hfin' := Lib.hid hfin
 have h' := Lib.hid h
 have hF' := Lib.hid hF
 clear hz hz3 hpw hfe hA hrow hnn hz2 hfin hval h hF
 go_enter Tryz.func137, Tryz.ntmps137
 go_upto_region 1 with (fail)
 obtain ⟨w2, hw2⟩ : ∃ W, w.alloc (.cells #[.int .i64 (k.o : Int), .int .i64 (k.l : Int), .int .i64 (k.m : Int), .slice A k.ps.length c, .int .i64 (k.base : Int), .int .i64 k.lastI] 74) = W := ⟨_, rfl⟩
 rw [hw2] at kb0 hW0 hs0 ⊢
 clear hw2
 replace hs0 := Lib.hid hs0
 have hK2 := Lib.hid (HK.out w2 hW0)
 obtain ⟨⟨q0, q1, q2, q3, q4, q5⟩, z0, z1, z2, z3, z4, z5⟩ := kb0
 go_wp2_with fail
 refine hK2.out.mono ?_
 rintro e w3 ⟨rfl, hb3⟩
 have kb3 := KB.below ⟨⟨q0, q1, q2, q3, q4, q5⟩, z0, z1, z2, z3, z4, z5⟩ hb3
 have hW3 := hW0.trans (hb3.mono hW0.size)
 have hs3 : w.heap.size + 1 ≤ w3.heap.size := by have := hs0.out; have := hb3.size; omega
 have hC3 := Lib.hid (HCp.out w3 hW3)
 clear q0 q1 q2 q3 q4 q5 z0 z1 z2 z3 z4 z5 hb3 hW0
 replace hW3 := Lib.hid hW3
 have kb3' := Lib.hid kb3
 obtain ⟨⟨q0, q1, q2, q3, q4, q5⟩, z0, z1, z2, z3, z4, z5⟩ := kb3
 go_wp2_with fail
 refine hC3.out.mono ?_
 rintro e w4 ⟨A4, c4, rfl, hown4, hb4⟩
 have hM4 : WiM k w w.heap.size k A4 c4 [] [] (.slice none 0 0) (.slice none 0 0) (set6 w4 w.heap.size (.int .i64 (k.o : Int)) (.int .i64 (k.l : Int)) (.int .i64 (k.m : Int)) (.slice A4 k.ps.length c4) (.int .i64 (k.base : Int)) (.int .i64 k.lastI)) := by
  have hS : Keep (fun g => g = w.heap.size) w4 (set6 w4 w.heap.size (.int .i64 (k.o : Int)) (.int .i64 (k.l : Int)) (.int .i64 (k.m : Int)) (.slice A4 k.ps.length c4) (.int .i64 (k.base : Int)) (.int .i64 k.lastI)) := (Keep.refl (fun g => g = w.heap.size) w4).set6 (H := w.heap.size) rfl _ _ _ _ _ _
  refine ⟨(kb3'.out.below hb4).set _ _ _ _ _ _, own_keep (own_base hown4 hs3) hS (fun g e1 e2 => by have := (World.ownsRow.lt hown4 g e1).1; omega), World.ownsRow_nil _ _ _ _, World.ownsRow_nil _ _ _ _, (fun g e => by cases e), (fun g _ e => by cases e), (fun g _ e => by cases e), ?_⟩
  exact below_set6 (hW3.out.trans (hb4.mono hW3.out.size)) (Nat.le_refl _) _ _ _ _ _ _
 have kb4 := (kb3'.out.below hb4)
 clear q0 q1 q2 q3 q4 q5 z0 z1 z2 z3 z4 z5 hb4 hown4 hC3 hK2 HK HCp hW3 kb3'
 replace hM4 := Lib.hid hM4
 obtain ⟨⟨q0, q1, q2, q3, q4, q5⟩, z0, z1, z2, z3, z4, z5⟩ := kb4
 go_upto_region 4 with (fail)
 clear q0 q1 q2 q3 q4 q5 z0 z1 z2 z3 z4 z5
 unfold set6 at hM4
 obtain ⟨w5, hw5⟩ : ∃ W, ((((((w4.setCell ⟨w.heap.size, 0, none⟩ (.int .i64 (k.o : Int))).setCell ⟨w.heap.size, 1, none⟩ (.int .i64 (k.l : Int))).setCell ⟨w.heap.size, 2, none⟩ (.int .i64 (k.m : Int))).setCell ⟨w.heap.size, 3, none⟩ (.slice A4 k.ps.length c4)).setCell ⟨w.heap.size, 4, none⟩ (.int .i64 (k.base : Int))).setCell ⟨w.heap.size, 5, none⟩ (.int .i64 k.lastI)) = W := ⟨_, rfl⟩
 rw [hw5] at hM4 ⊢
 clear hw5
 obtain ⟨⟨q0, q1, q2, q3, q4, q5⟩, _⟩ := hM4.out.box
 refine wp_region_cls (by kernel_rfl) (by kernel_rfl) ?_
 have c0 := clsCell q0
 have c1 := clsCell q1
 have c2 := clsCell q2
 repeat (go_big_quiet_step (first | (go_at_call 148; exact clsCall (HC.out _)) | (go_at_call 146; exact clsCall (HE.out _))))
 refine wpQuiet_nil ?_
 rintro w6 ⟨⟨w6, hb6⟩, rfl⟩
 have hM6 := Lib.hid (hM4.out.below hb6)
 clear c0 c1 c2 q0 q1 q2 q3 q4 q5 hb6 hM4 HC HE
 go_wp2_with fail
 go_loopw [9, 10, 32] (fun u v j wr => ∃ (k' : Kn) (A' : Option Addr) (c' : Nat) (i m : Nat) (pre xs ws : List Nat) (ds : List UInt8) (A1 : Option Addr) (c1 : Nat) (A2 : Option Addr) (c2 : Nat), u = .slice A1 i c1 ∧ v = .slice A2 m c2 ∧ j = .int .i64 (i : Int) ∧ i ≤ n ∧ Hid (ds.length = m) ∧ Hid (k'.Valid ∧ k.Like k' ∧ k'.Follow xs ∧ codes = pre ++ xs ∧ pre.length = i ∧ ws ++ k'.widths xs = k.widths codes ∧ ds ++ k'.data xs = k.data codes ∧ ws.length = i) ∧ Hid (WiM k w w.heap.size k' A' c' ws ds u v wr)) (fun _ _ j _ => n - (intOf j).toNat)
 case atStart => exact ⟨k, A4, c4, 0, 0, [], codes, [], [], _, _, _, _, rfl, rfl, rfl, Nat.zero_le _, Lib.hid rfl, Lib.hid ⟨h'.out.val, Kn.Like.refl k, hF'.out, rfl, rfl, rfl, rfl, rfl⟩, hM6⟩
 case round =>
  clear hM6
  obtain ⟨k', A', c', i, m, pre, xs, ws, ds, A1, c1, A2, c2, rfl, rfl, rfl, hin, hdl, hS, hM⟩ := hrel
  obtain ⟨hv', hlk, hfo, hsp, hpl, hws, hds, hwsl⟩ := hS.out
  by_cases hin' : i < n
  ·obtain ⟨x, rest, rfl⟩ : ∃ x rest, xs = x :: rest := by
    cases xs with
    | nil =>
     exfalso
     have h1 := congrArg List.length hsp
     rw [hN.out, List.append_nil, hpl] at h1
     omega
    | cons x rest => exact ⟨x, rest, rfl⟩
   have hx : codes[i]? = some x := by rw [hsp, ← hpl]; simp
   obtain ⟨bc, off, rfl, hbB, hcells⟩ := (hrow'.out wr hM.out.bel).2 (by omega)
   have qx : wr.cell? ⟨bc, off + i, none⟩ = some (.int .i64 (x : Int)) := hcells i _ (by rw [List.getElem?_map, hx]; rfl)
   have hhead := hfo.head hv'
   have hwdt : k'.widths (x :: rest) = k'.width :: (if x = k'.fin then [] else (k'.step x).widths rest) := rfl
   have hdat : k'.data (x :: rest) = if x = k'.fin then [] else (if x = k'.clear then [] else k'.any x) ++ (k'.step x).data rest := rfl
   rw [hwdt] at hws
   rw [hdat] at hds
   rw [hlk.fin, hfin'.out] at hws hds hhead
   rw [hlk.clear, hz2'.out] at hds
   have hxg : x ≤ k'.great := (Kn.goes_iff hv').1 (by
    rcases hhead with ⟨h1, _⟩ | ⟨_, h1, _⟩
    ·right; rw [h1, hlk.fin, hfin'.out]
    ·exact Or.inl h1)
   have hx1023 : x ≤ 1023 := by have := Kn.great_bounds hv'; have := hv'.pow; omega
   have HCan := fun W => implCanFollow k' A' c' x true W hv' (btrue hxg)
   have HWd := fun W => implWidth k' A' c' W hv'
   rw [hlk.val] at HCan HWd
   obtain ⟨wd, hwd⟩ : ∃ z, k'.width = z := ⟨_, rfl⟩
   rw [hwd] at HWd hws
   replace HCan := Lib.hid HCan
   replace HWd := Lib.hid HWd
   replace hv' := Lib.hid hv'
   replace hlk := Lib.hid hlk
   replace hsp := Lib.hid hsp
   replace hpl := Lib.hid hpl
   replace hws := Lib.hid hws
   replace hds := Lib.hid hds
   replace hwsl := Lib.hid hwsl
   have i0 : (0 : Int) ≤ i := by omega
   have i1 : (i : Int) < n := by omega
   have hprl : Hid ((pre ++ [x]).length = i + 1) := Lib.hid (by rw [List.length_append, hpl.out]; rfl)
   have hwsl2 : Hid ((ws ++ [wd]).length = i + 1) := Lib.hid (by rw [List.length_append, hwsl.out]; rfl)
   have hcod : Hid (codes = (pre ++ [x]) ++ rest) := Lib.hid (by rw [hsp.out]; simp)
   clear hS hfo hx hcells hwdt hdat hxg hwd
   obtain ⟨⟨q0, q1, q2, q3, q4, q5⟩, z0, z1, z2, z3, z4, z5⟩ := hM.out.box
   rcases hhead with ⟨hxf, hr0⟩ | ⟨hxf, hg, hfo2⟩
   ·subst hr0
    have hni : n = i + 1 := by
     have h1 := congrArg List.length hsp.out
     rw [hN.out, List.length_append, hpl.out] at h1
     simpa using h1
    have en : (n : Int) - 1 = (i : Int) := by omega
    have wi : IntKind.i64.wrap (i : Int) = i := IntWalk.i64_in _ (by omega)
    subst hxf
    have hds2 : Hid (ds ++ k'.data [] = k.data codes) := Lib.hid (by have := hds.out; simpa [Kn.data] using this)
    have hws2 : Hid ((ws ++ [wd]) ++ k'.widths [] = k.widths codes) := Lib.hid (by have := hws.out; simpa [Kn.widths] using this)
    replace hni := Lib.hid hni
    have hxz : ((x : Int) == (z : Int)) = false := by rw [beq_eq_false_iff_ne]; omega
    clear hds hws
    go_wp2_with fail
    refine (HCan.out _).mono ?_
    rintro e w7 ⟨rfl, hb7⟩
    have M7 := Lib.hid (hM.out.below hb7)
    clear q0 q1 q2 q3 q4 q5 z0 z1 z2 z3 z4 z5 qx hb7
    obtain ⟨⟨q0, q1, q2, q3, q4, q5⟩, z0, z1, z2, z3, z4, z5⟩ := M7.out.box
    go_wp2_with fail
    refine (HWd.out _).mono ?_
    rintro e w8 ⟨rfl, hb8⟩
    have M8 := Lib.hid (M7.out.below hb8)
    have hs8 : w.heap.size + 1 ≤ w8.heap.size := M8.out.lt
    have own8 := M8.out.o1
    rw [hwsl.out] at own8
    clear q0 q1 q2 q3 q4 q5 z0 z1 z2 z3 z4 z5 hb8 M7
    go_wp2_with (first
     | (at_builtin; refine wpList_append_row _ elemInt rfl (.tmp 53) (.tmp 56) rfl (w.heap.size + 1) _ _ _ rfl (own8.alloc _) _ _ 1 1 [.int .i64 (wd : Int)] rfl (Row.newAt _ _ rfl _ [.int .i64 (wd : Int)] 1 1 rfl) ?_ ?_ ?_ ?_ ?_))
    ·first | rfl | (intro z hz; simp at hz; subst hz; rfl)
    ·unfold maxLen; omega
    ·omega
    ·first | omega | (simp; omega)
    ·intro v9 w9 hv9 hg9 hat9
     obtain ⟨A9, c9, rfl, _, _⟩ := own_form hv9
     have M9 := Lib.hid (M8.out.pushW (y := wd) (by rw [hwsl.out]; exact hv9) hg9 (by simpa using hat9))
     obtain ⟨⟨q0, q1, q2, q3, q4, q5⟩, z0, z1, z2, z3, z4, z5⟩ := M9.out.box
     clear hv9 hg9 hat9 own8 M8
     go_wp2_with fail
     go_roundw
     case rel => exact ⟨k', A', c', i + 1, m, pre ++ [x], [], ws ++ [wd], ds, A9, c9, A2, c2, rfl, rfl, by go_num, by omega, hdl, Lib.hid ⟨hv'.out, hlk.out, Kn.Follow.nil k', hcod.out, hprl.out, hws2.out, hds2.out, hwsl2.out⟩, M9⟩
     case measure => simp [intOf]; omega
   ·have e1 : ((x : Int) == (fi : Int)) = false := by rw [beq_eq_false_iff_ne]; omega
    have e2 : decide ((x : Int) = (fi : Int)) = false := decide_eq_false (by omega)
    have e3 : (x == fi) = false := by rw [beq_eq_false_iff_ne]; omega
    have e4 : decide (x = fi) = false := decide_eq_false (by omega)
    have hws2 : Hid ((ws ++ [wd]) ++ (k'.step x).widths rest = k.widths codes) := Lib.hid (by
     have := hws.out
     rw [if_neg hxf] at this
     rw [← this]; simp)
    have hv2 := Lib.hid (Kn.step_valid hv'.out hg)
    have hlk2 := Lib.hid (hlk.out.trans (k'.like_step x))
    replace hfo2 := Lib.hid hfo2
    clear hws
    by_cases hxc : x = z
    ·have hst : k'.step x = k'.cleared := by unfold Kn.step; rw [if_pos (by rw [hlk.out.clear, hz2'.out]; exact hxc)]
     have hds2 : Hid (ds ++ (k'.step x).data rest = k.data codes) := Lib.hid (by have := hds.out; rw [if_neg hxf, if_pos hxc] at this; exact this)
     have HAd := fun (W : World) (ho : k'.Own W (w.heap.size + 1) A' c') => implAdvanceClear k' A' c' (w.heap.size + 1) W hv'.out ho
     rw [hlk.out.clear, hz2'.out, ← hst, hlk.out.val, hlk2.out.val, ← hxc] at HAd
     replace HAd := Lib.hid HAd
     have f1 : ((x : Int) == (z : Int)) = true := by rw [beq_iff_eq]; omega
     have f2 : decide ((x : Int) = (z : Int)) = true := decide_eq_true (by omega)
     have f3 : (x == z) = true := by rw [beq_iff_eq]; omega
     have f4 : decide (x = z) = true := decide_eq_true (by omega)
     obtain ⟨k2, hk2⟩ : ∃ k2, k'.step x = k2 := ⟨_, rfl⟩
     rw [hk2] at HAd hv2 hlk2 hfo2 hws2 hds2
     clear hds hst hk2 hg hxc
     go_wp2_with fail
     refine (HCan.out _).mono ?_
     rintro e w7 ⟨rfl, hb7⟩
     have M7 := Lib.hid (hM.out.below hb7)
     clear q0 q1 q2 q3 q4 q5 z0 z1 z2 z3 z4 z5 qx hb7
     obtain ⟨⟨q0, q1, q2, q3, q4, q5⟩, z0, z1, z2, z3, z4, z5⟩ := M7.out.box
     go_wp2_with fail
     refine (HWd.out _).mono ?_
     rintro e w8 ⟨rfl, hb8⟩
     have M8 := Lib.hid (M7.out.below hb8)
     have hs8 : w.heap.size + 1 ≤ w8.heap.size := M8.out.lt
     have own8 := M8.out.o1
     rw [hwsl.out] at own8
     clear q0 q1 q2 q3 q4 q5 z0 z1 z2 z3 z4 z5 hb8 M7
     go_wp2_with (first
      | (at_builtin; refine wpList_append_row _ elemInt rfl (.tmp 53) (.tmp 56) rfl (w.heap.size + 1) _ _ _ rfl (own8.alloc _) _ _ 1 1 [.int .i64 (wd : Int)] rfl (Row.newAt _ _ rfl _ [.int .i64 (wd : Int)] 1 1 rfl) ?_ ?_ ?_ ?_ ?_))
     ·first | rfl | (intro z hz; simp at hz; subst hz; rfl)
     ·unfold maxLen; omega
     ·omega
     ·first | omega | (simp; omega)
     ·intro v9 w9 hv9 hg9 hat9
      obtain ⟨A9, c9, rfl, _, _⟩ := own_form hv9
      have M9 := Lib.hid (M8.out.pushW (y := wd) (by rw [hwsl.out]; exact hv9) hg9 (by simpa using hat9))
      obtain ⟨⟨q0, q1, q2, q3, q4, q5⟩, z0, z1, z2, z3, z4, z5⟩ := M9.out.box
      clear hv9 hg9 hat9 own8 M8
      go_wp2_with fail
      refine (HAd.out _ M9.out.kp).mono ?_
      rintro e wa ⟨rfl, hown, hba⟩
      have Ma := Lib.hid (M9.out.setK hown ⟨(App.of_below (v := .slice A' k'.ps.length c') hba).grow, Or.inl (by rw [own_any A' k2.ps.length c', own_any A' k'.ps.length c'])⟩)
      have kba := M9.out.box.below hba
      clear q0 q1 q2 q3 q4 q5 z0 z1 z2 z3 z4 z5 hown hba
      obtain ⟨⟨q0, q1, q2, q3, q4, q5⟩, z0, z1, z2, z3, z4, z5⟩ := kba
      unfold set6 at Ma
      go_wp2_with fail
      go_roundw
      case rel => exact ⟨k2, A', c', i + 1, m, pre ++ [x], rest, ws ++ [wd], ds, A9, c9, A2, c2, rfl, rfl, by go_num, by omega, hdl, Lib.hid ⟨hv2.out, hlk2.out, hfo2.out, hcod.out, hprl.out, hws2.out, hds2.out, hwsl2.out⟩, Ma⟩
      case measure => simp [intOf]; omega
    ·have hcan : k'.can x := by
      rcases hg with h1 | h1
      ·exact absurd (h1.trans (hlk.out.clear.trans hz2'.out)) hxc
      ·exact h1
     have hst : k'.step x = k'.after x := Kn.step_can hv'.out hcan
     have hds2 : Hid ((ds ++ k'.any x) ++ (k'.step x).data rest = k.data codes) := Lib.hid (by have := hds.out; rw [if_neg hxf, if_neg hxc] at this; rw [← this]; simp)
     have HWo := fun (W : World) (ho : k'.Own W (w.heap.size + 1) A' c') => implWordText k' A' c' W.heap.size x W hv'.out ho.at (Nat.le_refl _) hcan
     obtain ⟨L, hL⟩ : ∃ L, k'.any x = L := ⟨_, rfl⟩
     have hLn := (Kn.any_head hv'.out hcan).2
     rw [hL] at HWo hds2 hLn
     have hL0 : 0 < (bsL L).size := by rw [bsL_size]; cases L with | nil => exact absurd rfl hLn | cons a l => simp
     obtain ⟨y, hy⟩ : ∃ y, ((bsL L)[0]'hL0).toNat = y := ⟨_, rfl⟩
     have hyh : ((k'.any x).headD 0).toNat = y := by
      rw [hL, ← hy, bsL_at hL0 (by rw [bsL_size] at hL0; exact hL0)]
      cases L with | nil => exact absurd rfl hLn | cons a l => rfl
     have hy256 : y < 256 := by rw [← hy]; exact UInt8.toNat_lt _
     have HAd := fun (W : World) (ho : k'.Own W (w.heap.size + 1) A' c') (hW : w.heap.size + 1 ≤ W.heap.size) => implAdvance k' A' c' (w.heap.size + 1) x y W hv'.out ho hW hcan hyh
     simp only [← hst, hlk.out.val, hlk2.out.val] at HAd
     rw [hlk.out.val] at HWo
     replace HAd := Lib.hid HAd
     replace HWo := Lib.hid HWo
     have f1 : ((x : Int) == (z : Int)) = false := by rw [beq_eq_false_iff_ne]; omega
     have f2 : decide ((x : Int) = (z : Int)) = false := decide_eq_false (by omega)
     have f3 : (x == z) = false := by rw [beq_eq_false_iff_ne]; omega
     have f4 : decide (x = z) = false := decide_eq_false (by omega)
     have hLm : m + L.length ≤ 2000 := by
      have h1 := congrArg List.length hds2.out
      rw [List.length_append, List.length_append, hdl.out] at h1
      have := hd.out
      omega
     have hLs : (bsL L).size = L.length := rfl
     obtain ⟨k2, hk2⟩ : ∃ k2, k'.step x = k2 := ⟨_, rfl⟩
     rw [hk2] at HAd hv2 hlk2 hfo2 hws2 hds2
     have hmL : Hid ((ds ++ L).length = m + L.length) := Lib.hid (by rw [List.length_append, hdl.out])
     obtain ⟨T, hT⟩ : ∃ T, bsL L = T := ⟨_, rfl⟩
     obtain ⟨lL, hlL⟩ : ∃ l, L.length = l := ⟨_, rfl⟩
     have hTl : T.data.toList = L := by rw [← hT]
     have hlL' := Lib.hid hlL
     rw [hlL] at hLm hLs hmL
     simp only [hT] at hLs hL0 hy HWo
     have hL0i : (0 : Int) < T.size := by omega
     replace hTl := Lib.hid hTl
     have hml1 : decide ((2000 : Int) < m + lL) = false := decide_eq_false (by omega)
     have hml2 : decide (2000 < m + lL) = false := decide_eq_false (by omega)
     clear hds hst hk2 hg hxc hcan hL hLn hyh hlL
     go_wp2_with fail
     refine (HCan.out _).mono ?_
     rintro e w7 ⟨rfl, hb7⟩
     have M7 := Lib.hid (hM.out.below hb7)
     clear q0 q1 q2 q3 q4 q5 z0 z1 z2 z3 z4 z5 qx hb7
     obtain ⟨⟨q0, q1, q2, q3, q4, q5⟩, z0, z1, z2, z3, z4, z5⟩ := M7.out.box
     go_wp2_with fail
     refine (HWd.out _).mono ?_
     rintro e w8 ⟨rfl, hb8⟩
     have M8 := Lib.hid (M7.out.below hb8)
     have hs8 : w.heap.size + 1 ≤ w8.heap.size := M8.out.lt
     have own8 := M8.out.o1
     rw [hwsl.out] at own8
     clear q0 q1 q2 q3 q4 q5 z0 z1 z2 z3 z4 z5 hb8 M7
     go_wp2_with (first
      | (at_builtin; refine wpList_append_row _ elemInt rfl (.tmp 53) (.tmp 56) rfl (w.heap.size + 1) _ _ _ rfl (own8.alloc _) _ _ 1 1 [.int .i64 (wd : Int)] rfl (Row.newAt _ _ rfl _ [.int .i64 (wd : Int)] 1 1 rfl) ?_ ?_ ?_ ?_ ?_))
     ·first | rfl | (intro z hz; simp at hz; subst hz; rfl)
     ·unfold maxLen; omega
     ·omega
     ·first | omega | (simp; omega)
     ·intro v9 w9 hv9 hg9 hat9
      obtain ⟨A9, c9, rfl, _, _⟩ := own_form hv9
      have M9 := Lib.hid (M8.out.pushW (y := wd) (by rw [hwsl.out]; exact hv9) hg9 (by simpa using hat9))
      obtain ⟨⟨q0, q1, q2, q3, q4, q5⟩, z0, z1, z2, z3, z4, z5⟩ := M9.out.box
      clear hv9 hg9 hat9 own8 M8
      have HW9 := Lib.hid (HWo.out w9 M9.out.kp)
      go_wp2_with fail
      refine HW9.out.mono ?_
      rintro e wa ⟨rfl, hba⟩
      have Ma := Lib.hid (M9.out.below hba)
      clear q0 q1 q2 q3 q4 q5 z0 z1 z2 z3 z4 z5 hba HW9
      have ownA := Ma.out.o2
      rw [hdl.out] at ownA
      have hsa : w.heap.size + 1 ≤ wa.heap.size := Ma.out.lt
      go_wp2_with (first
       | (at_builtin; refine wpList_append_str elemByte Tryz.underlying9 rfl (.tmp 68) (.tmp 69) rfl (w.heap.size + 1) _ _ _ rfl ownA T rfl (by omega) (by omega) ?_))
      intro vb wb hvb hgb hatb
      obtain ⟨Ab, cb, rfl, _, _⟩ := own_form hvb
      rw [hTl.out] at hvb
      have Mb := Lib.hid (Ma.out.pushD (bs := L) (n := lL) hlL'.out.symm (by rw [hdl.out]; exact hvb) hgb hatb)
      clear hvb hgb hatb ownA Ma
      obtain ⟨⟨q0, q1, q2, q3, q4, q5⟩, z0, z1, z2, z3, z4, z5⟩ := Mb.out.box
      go_upto_region 18 with (fail)
      refine wp_region_cls_tail 4 (by kernel_rfl) (by kernel_rfl) ?_
      have c0 := clsCell q0
      have c1 := clsCell q1
      have c2 := clsCell q2
      have c3 := clsCell q3
      have c4 := clsCell q4
      have c5 := clsCell q5
      simp only [List.take_succ_cons, List.take_zero]
      repeat (go_big_quiet_step (fail))
      refine wpQuiet_nil ?_
      rintro wc ⟨⟨wc, hB⟩, rfl⟩
      simp only [List.drop_succ_cons, List.drop_zero]
      have Mc := Lib.hid (Mb.out.below hB)
      clear c0 c1 c2 c3 c4 c5 q0 q1 q2 q3 q4 q5 z0 z1 z2 z3 z4 z5 hB Mb
      have hAd := Lib.hid (HAd.out wc Mc.out.kp Mc.out.lt)
      go_wp2_with fail
      refine hAd.out.mono ?_
      rintro e wd2 ⟨Ad, cd, rfl, hownd, hapd⟩
      have Md := Lib.hid (Mc.out.setK hownd hapd)
      have kbd := Mc.out.box.grown hapd.grow (fun e => by have := (World.ownsRow.lt Mc.out.kp _ e).1; omega)
      clear hownd hapd hAd
      obtain ⟨⟨q0, q1, q2, q3, q4, q5⟩, z0, z1, z2, z3, z4, z5⟩ := kbd
      unfold set6 at Md
      go_wp2_with fail
      go_roundw
      case rel => exact ⟨k2, Ad, cd, i + 1, m + lL, pre ++ [x], rest, ws ++ [wd], ds ++ L, A9, c9, Ab, cb, rfl, rfl, by go_num, by omega, hmL, Lib.hid ⟨hv2.out, hlk2.out, hfo2.out, hcod.out, hprl.out, hws2.out, hds2.out, hwsl2.out⟩, Md⟩
      case measure => simp [intOf]; omega
  ·have hin2 : i = n := by omega
   have hxs : xs = [] := by
    have h1 := congrArg List.length hsp
    rw [hN.out, List.length_append, hpl] at h1
    exact List.eq_nil_of_length_eq_zero (by omega)
   subst hxs
   have hds2 : ds = k.data codes := by simpa [Kn.data] using hds
   have hws2 : ws = k.widths codes := by simpa [Kn.widths] using hws
   have ownD := hM.out.o2
   have ownW := Lib.hid hM.out.o1
   have hbl := Lib.hid hM.out.bel
   rw [hdl.out] at ownD
   have hcv := run_convert_own (n := m) elemByte Tryz.underlying5 Tryz.underlying9 ds (by rw [hdl.out]; exact ownD) hdl.out
   have hcv2 := fun j => run_convert_own (n := m) (w := wr.drewN j) elemByte Tryz.underlying5 Tryz.underlying9 ds (by rw [hdl.out]; exact own_drewN ownD j) hdl.out
   replace hds2 := Lib.hid hds2
   replace hws2 := Lib.hid hws2
   have hnin : ¬ (i : Int) < n := by omega
   replace hin2 := Lib.hid hin2
   clear hS hv' hlk hfo hsp hpl hws hds ownD hM
   go_wp2_with fail
   go_quiet (fail)
   go_wp2_with fail
   refine bodyPost_ret (v := .tuple #[.slice A1 i c1, .string (bsL ds), .bool true]) (by simp [results, Tryz.results137, go_sem]) rfl ?_
   refine ⟨A1, c1, by rw [hin2.out, ← hds2.out], ?_, below_drewN hbl.out _⟩
   have ow := ownW.out
   rw [hws2.out, hwl.out, hin2.out] at ow
   exact own_drewN (own_base ow (by omega)) _

end Go.Proofs.YthlgpgaeajfchaaGreat

namespace Go.Proofs.YthlgpgaeajfchaaGreat
open Go.RowKit
set_option linter.unusedVariables false
set_option linter.unusedSimpArgs false
set_option maxRecDepth 100000

theorem KBn.set6 {w : World} {H : Nat} {a0 a1 a2 a3 a4 a5 : Value} {r : List Value} (h : KBn w H (a0 :: a1 :: a2 :: a3 :: a4 :: a5 :: r)) (b0 b1 b2 b3 b4 b5 : Value) : KBn (set6 w H b0 b1 b2 b3 b4 b5) H (b0 :: b1 :: b2 :: b3 :: b4 :: b5 :: r) :=
 (((((h.set (j := 0) rfl b0).set (j := 1) rfl b1).set (j := 2) rfl b2).set (j := 3) rfl b3).set (j := 4) rfl b4).set (j := 5) rfl b5

def rd0 : List Value := [.int .i64 0, .int .i64 0, .int .i64 0, .slice none 0 0, .int .i64 0, .int .i64 0, .slice none 0 0, .slice none 0 0, .int .i64 0, .int .i64 0]

structure RdM (k : Kn) (kv : List Value) (w0 : World) (H G : Nat) (k' : Kn) (A : Option Addr) (c : Nat) (cs : List Nat) (ds : List UInt8) (v1 v2 : Value) (fin p : Nat) (w : World) : Prop where
 box : KBn w G [.int .i64 (k.o : Int), .int .i64 (k.l : Int), .int .i64 (k.m : Int), .slice A k'.ps.length c, .int .i64 (k.base : Int), .int .i64 k'.lastI, v1, v2, .int .i64 (fin : Int), .int .i64 (p : Int)]
 kb : KBn w H kv
 res : KBn w (H + 1) rd0
 kp : k'.Own w (H + 2) A c
 o1 : w.ownsRow (H + 2) 3 1 v1 cs.length (cs.map natV)
 o2 : w.ownsRow (H + 2) 5 1 v2 ds.length (ds.map byteV)
 n0 : ¬ (Value.slice A 0 0).ownBlock = some G
 n1 : ¬ v1.ownBlock = some G
 n2 : ¬ v2.ownBlock = some G
 a1 : Apart v1 v2
 a2 : Apart (.slice A 0 0) v1
 a3 : Apart (.slice A 0 0) v2
 bel : Below H w0 w
 hG : H + 2 ≤ G

section
variable {k : Kn} {kv : List Value} {w0 : World} {H G : Nat} {k' : Kn} {A : Option Addr} {c : Nat} {cs : List Nat} {ds : List UInt8} {v1 v2 : Value} {fin p : Nat} {w w' : World}

theorem RdM.lt (h : RdM k kv w0 H G k' A c cs ds v1 v2 fin p w) : G < w.heap.size := h.box.lt

theorem RdM.below (h : RdM k kv w0 H G k' A c cs ds v1 v2 fin p w) (hb : Below w.heap.size w w') : RdM k kv w0 H G k' A c cs ds v1 v2 fin p w' :=
 ⟨h.box.below hb, h.kb.below hb, h.res.below hb, h.kp.below hb (Nat.le_refl _), own_below h.o1 hb (Nat.le_refl _), own_below h.o2 hb (Nat.le_refl _), h.n0, h.n1, h.n2, h.a1, h.a2, h.a3, h.bel.trans (hb.mono (Nat.le_of_lt (h.kb.lt))), h.hG⟩

theorem rdBlk (h : k'.Own w (H + 2) A c) {g : Nat} (hg : (Value.slice A 0 0).ownBlock = some g) : H + 2 ≤ g ∧ g < w.heap.size := by
 rw [← own_any A k'.ps.length c] at hg
 exact World.ownsRow.lt h g hg

theorem RdM.setG (h : RdM k kv w0 H G k' A c cs ds v1 v2 fin p w) {j : Nat} {u v0 : Value} {fin2 p2 : Nat}
  (hj : ([.int .i64 (k.o : Int), .int .i64 (k.l : Int), .int .i64 (k.m : Int), .slice A k'.ps.length c, .int .i64 (k.base : Int), .int .i64 k'.lastI, v1, v2, .int .i64 (fin : Int), .int .i64 (p : Int)] : List Value)[j]? = some v0)
  (he : ([.int .i64 (k.o : Int), .int .i64 (k.l : Int), .int .i64 (k.m : Int), .slice A k'.ps.length c, .int .i64 (k.base : Int), .int .i64 k'.lastI, v1, v2, .int .i64 (fin : Int), .int .i64 (p : Int)] : List Value).set j u = [.int .i64 (k.o : Int), .int .i64 (k.l : Int), .int .i64 (k.m : Int), .slice A k'.ps.length c, .int .i64 (k.base : Int), .int .i64 k'.lastI, v1, v2, .int .i64 (fin2 : Int), .int .i64 (p2 : Int)]) :
  RdM k kv w0 H G k' A c cs ds v1 v2 fin2 p2 (w.setCell ⟨G, j, none⟩ u) := by
 have hk : Keep (fun g => g = G) w (w.setCell ⟨G, j, none⟩ u) := Keep.of_set (S := fun g => g = G) rfl u
 have hG := h.hG
 have hb := h.box.set hj u
 rw [he] at hb
 refine ⟨hb, h.kb.keep hk (by omega), h.res.keep hk (by omega), own_keep h.kp hk (fun g e1 e2 => h.n0 (by rw [own_any] at e1; rw [e1, e2])), own_keep h.o1 hk (fun g e1 e2 => h.n1 (by rw [e1, e2])), own_keep h.o2 hk (fun g e1 e2 => h.n2 (by rw [e1, e2])), h.n0, h.n1, h.n2, h.a1, h.a2, h.a3, h.bel.setCell (by show H ≤ G; omega) u, hG⟩

theorem RdM.pushC (h : RdM k kv w0 H G k' A c cs ds v1 v2 fin p w) {v1' : Value} {o : Obj} {y : Nat} (hv : w'.ownsRow (H + 2) 3 1 v1' (cs.length + 1) (cs.map natV ++ [.int .i64 (y : Int)])) (hg : (w.alloc o).grownBy w' v1.ownBlock) (hat : v1'.ownBlock = v1.ownBlock ∨ v1'.ownBlock = some (w.heap.size + 1)) :
  RdM k kv w0 H G k' A c (cs ++ [y]) ds v1' v2 fin p (w'.setCell ⟨G, 6, none⟩ v1') := by
 have hlt := h.lt
 have hG := h.hG
 have hk1 := Keep.of_row hg
 have h1 : ∀ g, v1.ownBlock = some g → H + 2 ≤ g ∧ g < w.heap.size := fun g hg => h.o1.lt g hg
 have hk2 : Keep (fun g => g = G) w' (w'.setCell ⟨G, 6, none⟩ v1') := Keep.of_set (S := fun g => g = G) rfl v1'
 have hn1 : ¬ v1'.ownBlock = some G := fun e => by
  rcases hat with h2 | h2
  ·rw [h2] at e; exact h.n1 e
  ·rw [h2] at e; injection e with e; omega
 have hne : ∀ g, g < H + 2 → ¬ v1.ownBlock = some g := fun g hg e => by have := (h1 g e).1; omega
 have hb := (h.box.keep hk1 (fun e => h.n1 e)).set (j := 6) rfl v1'
 refine ⟨hb, (h.kb.keep hk1 (hne H (by omega))).keep hk2 (by omega), (h.res.keep hk1 (hne (H + 1) (by omega))).keep hk2 (by omega), own_keep (own_keep h.kp hk1 (fun g e1 e2 => h.a2 g (by rw [own_any] at e1; exact e1) e2)) hk2 (fun g e1 e2 => h.n0 (by rw [own_any] at e1; rw [e1, e2])), own_keep ?_ hk2 (fun g e1 e2 => hn1 (by rw [e1, e2])), own_keep (own_keep h.o2 hk1 (fun g e1 e2 => h.a1 g e2 e1)) hk2 (fun g e1 e2 => h.n2 (by rw [e1, e2])), h.n0, hn1, h.n2, ?_, ?_, h.a3, ?_, hG⟩
 ·rw [List.length_append, List.map_append]; exact hv
 ·exact Apart.step h.a1 hat (fun g e => by have := (h.o2.lt g e).2; omega)
 ·exact (Apart.step h.a2.symm hat (fun g e => by have := (rdBlk h.kp e).2; omega)).symm
 ·exact (((h.bel.alloc (by omega) o).grown hg (by simp; omega) (fun g e => by have := (h1 g e).1; omega))).setCell (by show H ≤ G; omega) v1'

theorem RdM.pushD (h : RdM k kv w0 H G k' A c cs ds v1 v2 fin p w) {v2' : Value} {bs : List UInt8} {n : Nat} (hn : n = bs.length) (hv : w'.ownsRow (H + 2) 5 1 v2' (ds.length + n) (ds.map byteV ++ bs.map byteV)) (hg : w.grownBy w' v2.ownBlock) (hat : v2'.ownBlock = v2.ownBlock ∨ v2'.ownBlock = some w.heap.size) :
  RdM k kv w0 H G k' A c cs (ds ++ bs) v1 v2' fin p (w'.setCell ⟨G, 7, none⟩ v2') := by
 have hlt := h.lt
 have hG := h.hG
 have h2 : ∀ g, v2.ownBlock = some g → H + 2 ≤ g ∧ g < w.heap.size := fun g hg => h.o2.lt g hg
 have hk1 : Keep (fun g => v2.ownBlock = some g) w w' := Keep.of_grown hg (fun g e => Or.inl e)
 have hk2 : Keep (fun g => g = G) w' (w'.setCell ⟨G, 7, none⟩ v2') := Keep.of_set (S := fun g => g = G) rfl v2'
 have hn2 : ¬ v2'.ownBlock = some G := fun e => by
  rcases hat with h3 | h3
  ·rw [h3] at e; exact h.n2 e
  ·rw [h3] at e; injection e with e; omega
 have hne : ∀ g, g < H + 2 → ¬ v2.ownBlock = some g := fun g hg e => by have := (h2 g e).1; omega
 have hb := (h.box.keep hk1 (fun e => h.n2 e)).set (j := 7) rfl v2'
 refine ⟨hb, (h.kb.keep hk1 (hne H (by omega))).keep hk2 (by omega), (h.res.keep hk1 (hne (H + 1) (by omega))).keep hk2 (by omega), own_keep (own_keep h.kp hk1 (fun g e1 e2 => h.a3 g (by rw [own_any] at e1; exact e1) e2)) hk2 (fun g e1 e2 => h.n0 (by rw [own_any] at e1; rw [e1, e2])), own_keep (own_keep h.o1 hk1 (fun g e1 e2 => h.a1 g e1 e2)) hk2 (fun g e1 e2 => h.n1 (by rw [e1, e2])), own_keep ?_ hk2 (fun g e1 e2 => hn2 (by rw [e1, e2])), h.n0, h.n1, hn2, ?_, h.a2, ?_, ?_, hG⟩
 ·rw [List.length_append, List.map_append, ← hn]; exact hv
 ·exact (Apart.step h.a1.symm hat (fun g e => (h.o1.lt g e).2)).symm
 ·exact (Apart.step h.a3.symm hat (fun g e => (rdBlk h.kp e).2)).symm
 ·exact (h.bel.grown hg (by omega) (fun g e => by have := (h2 g e).1; omega)).setCell (by show H ≤ G; omega) v2'

theorem RdM.setK (h : RdM k kv w0 H G k' A c cs ds v1 v2 fin p w) {k2 : Kn} {A2 : Option Addr} {c2 : Nat} (hown : k2.Own w' (H + 2) A2 c2) (hap : App w w' (.slice A k'.ps.length c) (.slice A2 k2.ps.length c2)) :
  RdM k kv w0 H G k2 A2 c2 cs ds v1 v2 fin p (set6 w' G (.int .i64 (k.o : Int)) (.int .i64 (k.l : Int)) (.int .i64 (k.m : Int)) (.slice A2 k2.ps.length c2) (.int .i64 (k.base : Int)) (.int .i64 k2.lastI)) := by
 have hlt := h.lt
 have hG := h.hG
 have hg := hap.grow
 have hk : ∀ g, (Value.slice A k'.ps.length c).ownBlock = some g → H + 2 ≤ g ∧ g < w.heap.size := fun g e => World.ownsRow.lt h.kp g e
 have hk1 : Keep (fun g => (Value.slice A k'.ps.length c).ownBlock = some g) w w' := Keep.of_grown hg (fun g e => Or.inl e)
 have hk2 : Keep (fun g => g = G) w' (set6 w' G (.int .i64 (k.o : Int)) (.int .i64 (k.l : Int)) (.int .i64 (k.m : Int)) (.slice A2 k2.ps.length c2) (.int .i64 (k.base : Int)) (.int .i64 k2.lastI)) := (Keep.refl (fun g => g = G) w').set6 (H := G) rfl _ _ _ _ _ _
 have hat : ∀ g, (Value.slice A2 0 0).ownBlock = some g → (Value.slice A 0 0).ownBlock = some g ∨ w.heap.size ≤ g := fun g e => by
  rcases hap.at_ with h5 | ⟨g5, h5, h6⟩
  ·rw [own_any A2, own_any A] at h5; rw [h5] at e; exact Or.inl e
  ·rw [own_any A2, e] at h5; injection h5 with h5; exact Or.inr (by omega)
 have hn0 : ¬ (Value.slice A2 0 0).ownBlock = some G := fun e => by
  rcases hat G e with h5 | h5
  ·exact h.n0 h5
  ·omega
 have hne : ∀ g, g < H + 2 → ¬ (Value.slice A k'.ps.length c).ownBlock = some g := fun g hg e => by have := (hk g e).1; omega
 have hap2 : ∀ {v : Value}, Apart (.slice A 0 0) v → (∀ g, v.ownBlock = some g → g < w.heap.size) → Apart (.slice A2 0 0) v := fun {v} ha hv g e1 e2 => by
  rcases hat g e1 with h5 | h5
  ·exact ha g h5 e2
  ·have := hv g e2; omega
 have hb := KBn.set6 (h.box.keep hk1 (fun e => h.n0 (by rw [own_any] at e; exact e))) (.int .i64 (k.o : Int)) (.int .i64 (k.l : Int)) (.int .i64 (k.m : Int)) (.slice A2 k2.ps.length c2) (.int .i64 (k.base : Int)) (.int .i64 k2.lastI)
 refine ⟨hb, (h.kb.keep hk1 (hne H (by omega))).keep hk2 (by omega), (h.res.keep hk1 (hne (H + 1) (by omega))).keep hk2 (by omega), own_keep hown hk2 (fun g e1 e2 => hn0 (by rw [own_any] at e1; rw [e1, e2])), own_keep (own_keep h.o1 hk1 (fun g e1 e2 => h.a2 g (by rw [own_any] at e2; exact e2) e1)) hk2 (fun g e1 e2 => h.n1 (by rw [e1, e2])), own_keep (own_keep h.o2 hk1 (fun g e1 e2 => h.a3 g (by rw [own_any] at e2; exact e2) e1)) hk2 (fun g e1 e2 => h.n2 (by rw [e1, e2])), hn0, h.n1, h.n2, h.a1, hap2 h.a2 (fun g e => (h.o1.lt g e).2), hap2 h.a3 (fun g e => (h.o2.lt g e).2), ?_, hG⟩
 exact below_set6 (h.bel.grown hg (by omega) (fun g e => by have := (hk g e).1; omega)) (by omega) _ _ _ _ _ _

theorem RdM.cells (h : RdM k kv w0 H G k' A c cs ds v1 v2 fin p w) : (w.cell? ⟨G, 0, none⟩ = some (.int .i64 (k.o : Int)) ∧ w.cell? ⟨G, 1, none⟩ = some (.int .i64 (k.l : Int)) ∧ w.cell? ⟨G, 2, none⟩ = some (.int .i64 (k.m : Int)) ∧ w.cell? ⟨G, 3, none⟩ = some (.slice A k'.ps.length c) ∧ w.cell? ⟨G, 4, none⟩ = some (.int .i64 (k.base : Int)) ∧ w.cell? ⟨G, 5, none⟩ = some (.int .i64 k'.lastI)) ∧ w.cell? ⟨G, 6, none⟩ = some v1 ∧ w.cell? ⟨G, 7, none⟩ = some v2 ∧ w.cell? ⟨G, 8, none⟩ = some (.int .i64 (fin : Int)) ∧ w.cell? ⟨G, 9, none⟩ = some (.int .i64 (p : Int)) :=
 ⟨⟨h.box.c 0 _ rfl, h.box.c 1 _ rfl, h.box.c 2 _ rfl, h.box.c 3 _ rfl, h.box.c 4 _ rfl, h.box.c 5 _ rfl⟩, h.box.c 6 _ rfl, h.box.c 7 _ rfl, h.box.c 8 _ rfl, h.box.c 9 _ rfl⟩

end

def RdPost (k : Kn) (u : Un) (w : World) (e : Ending) (w' : World) : Prop :=
 ∃ (A3 : Option Addr) (n3 c3 : Nat) (q3 : Int) (A1 : Option Addr) (c1 : Nat) (A2 : Option Addr) (c2 : Nat), e = .returned (.agg #[.int .i64 (k.o : Int), .int .i64 (k.l : Int), .int .i64 (k.m : Int), .slice A3 n3 c3, .int .i64 (k.base : Int), .int .i64 q3, .slice A1 u.codes.length c1, .slice A2 (k.data u.codes).length c2, .int .i64 (u.fin : Int), .int .i64 (u.bits : Int)]) ∧
  w'.ownsRow w.heap.size 3 1 (.slice A1 u.codes.length c1) u.codes.length (u.codes.map natV) ∧ w'.ownsRow w.heap.size 5 1 (.slice A2 (k.data u.codes).length c2) (k.data u.codes).length ((k.data u.codes).map byteV) ∧ Below w.heap.size w w'

set_option maxHeartbeats 2000000 in
theorem implUnpackBytes (o : Nat) (L : List UInt8) (w : World) (ho : o ≤ 1) (hL : L.length ≤ 4000) :
  Calls Tryz.prog 156 #[.int .i64 (o : Int), .string (bsL L)] w fun e w' => e = .returned (.string (bsL (unpL o L))) ∧ Below w.heap.size w w' := by
 obtain ⟨n, hn⟩ : ∃ n, L.length = n := ⟨_, rfl⟩
 have hLs : (bsL L).size = n := hn
 rw [hn] at hL
 obtain ⟨i0, hi0, hz0, hz1, hz2⟩ := info_parts infoByte
 obtain ⟨c2, hc2⟩ : ∃ c2, 8 * n = c2 := ⟨_, rfl⟩
 have hmk := fun W => run_make_rowN (P := Tryz.prog) 22 5 i0 _ Tryz.underlying22 hi0 hz0 .i64 .i64 0 c2 (Nat.zero_le _) (by rw [hz2]; omega) (by omega) W
 obtain ⟨cs, hcs⟩ : ∃ cs, madeCells (Value.int .u8 0).cells (c2 * i0.size) = cs := ⟨_, rfl⟩
 have hcsz : cs.size = c2 * 1 := by rw [← hcs, hz1]; simp [madeCells]
 rw [hcs, Int.natCast_zero] at hmk
 have ec2 : 8 * (n : Int) = c2 := by omega
 have hc2m : c2 ≤ 32000 := by omega
 have HO := Lib.hid (own_made w cs c2 w.heap.size 1 5 (Nat.le_refl _) (by unfold maxLen; omega) hcsz)
 have HN := Lib.hid hn
 clear hcs hcsz hi0 hz0 hz1 hz2 hc2 hn
 go_enter Tryz.func156, Tryz.ntmps156
 go_wp2_with fail
 clear ec2 hmk
 go_loopw [5, 13] (fun v i wr => ∃ (A' : Option Addr) (c' k m : Nat) (bs : List UInt8), v = .slice A' m c' ∧ i = .int .i64 (k : Int) ∧ k ≤ n ∧ m ≤ 8 * k ∧ Hid (bs.length = m) ∧ Hid (unpL o L = bs ++ unpL o (L.drop k)) ∧ Hid (wr.ownsRow w.heap.size 5 1 (.slice A' m c') m (bs.map byteV)) ∧ Hid (Below w.heap.size w wr)) (fun _ i _ => n - (intOf i).toNat)
 case atStart => exact ⟨_, _, 0, 0, [], rfl, rfl, Nat.zero_le _, Nat.zero_le _, Lib.hid rfl, Lib.hid rfl, HO, Lib.hid ((Below.refl _ _).alloc (Nat.le_refl _) _)⟩
 case round =>
  obtain ⟨A', c', k, m, bs, rfl, rfl, hk, hmk, hbl, hbe, hO, hB⟩ := hrel
  by_cases hlt : k < n
  ·have hkl : k < L.length := by rw [HN.out]; exact hlt
   have hks : k < (bsL L).size := by rw [hLs]; exact hlt
   obtain ⟨x, hx⟩ : ∃ x, ((bsL L)[k]'hks).toNat = x := ⟨_, rfl⟩
   have hx2 : x < 256 := by rw [← hx]; exact UInt8.toNat_lt _
   have hxL : L[k].toNat = x := by rw [← hx, bsL_at hks hkl]
   have hbe2 : Hid (unpL o L = (bs ++ codeL o x 8) ++ unpL o (L.drop (k + 1))) := Lib.hid (by
    rw [hbe.out, List.drop_eq_getElem_cons hkl]
    have : unpL o (L[k] :: L.drop (k + 1)) = codeL o L[k].toNat 8 ++ unpL o (L.drop (k + 1)) := rfl
    rw [this, hxL]; simp)
   have HA := implAppendBits A' c' w.heap.size o x 8 bs wr (by rw [hbl.out]; exact hO.out) hB.out.size (by rw [hbl.out]; omega) ho (by omega) (by omega)
   rw [hbl.out] at HA
   have hgx := Lib.hid (fun g (hg : (Value.slice A' m c').ownBlock = some g) => (hO.out.lt g hg).1)
   replace HA := Lib.hid HA
   have i1 : (0 : Int) ≤ k := by omega
   have i2 : (k : Int) < n := by omega
   clear hxL hkl
   go_wp2_with fail
   refine HA.out.mono ?_
   rintro e w2 ⟨A2, c9, rfl, hown2, hap⟩
   have hB2 := Lib.hid (hB.out.trans (hap.out hB.out.size hgx.out))
   have hbl2 : Hid ((bs ++ codeL o x 8).length = m + 8) := Lib.hid (by rw [List.length_append, codeL_length, hbl.out])
   replace hown2 := Lib.hid hown2
   clear hap HA
   go_wp2_with fail
   go_roundw
   case rel => exact ⟨A2, c9, k + 1, m + 8, bs ++ codeL o x 8, rfl, by go_num, by omega, by omega, hbl2, hbe2, hown2, hB2⟩
   case measure => simp [intOf]; omega
  ·have hfin : unpL o L = bs := by
    rw [hbe.out, List.drop_eq_nil_of_le (by rw [HN.out]; omega)]
    simp [unpL]
   have hO2 := hO.out
   have hcv := run_convert_own (n := m) elemByte Tryz.underlying5 Tryz.underlying9 bs (by rw [hbl.out]; exact hO2) hbl.out
   have hnk : ¬ (k : Int) < n := by omega
   replace hfin := Lib.hid hfin
   clear hO2
   go_wp2_with fail
   go_ret
   exact ⟨by rw [hfin.out]; rfl, hB.out⟩

def atOf (w : World) (G : Nat) : Nat := match w.cell? ⟨G, 9, none⟩ with
 | some (.int _ n) => n.toNat
 | _ => 0

theorem atOf_cell {w : World} {G p : Nat} (h : w.cell? ⟨G, 9, none⟩ = some (.int .i64 (p : Int))) : atOf w G = p := by
 unfold atOf; rw [h]; exact Int.toNat_natCast p

structure RdS (k : Kn) (Bt : List UInt8) (k' : Kn) (p : Nat) (acc : List Nat) (ds : List UInt8) (f : Nat) : Prop where
 val : k'.Valid
 like : k.Like k'
 run : unF Bt 3100 k 0 0 [] = unF Bt (f + 1) k' p ds.length acc
 cnt : acc.length + (f + 1) = 3100
 len : ds.length ≤ 2000
 dat : ∀ xs, k.data (acc ++ xs) = ds ++ k'.data xs

theorem RdS.start {k : Kn} (h : k.Valid) (Bt : List UInt8) : RdS k Bt k 0 [] [] 3099 := ⟨h, Kn.Like.refl k, rfl, rfl, Nat.zero_le _, fun xs => rfl⟩

theorem RdS.step {k : Kn} {Bt : List UInt8} {k' : Kn} {p f : Nat} {acc : List Nat} {ds : List UInt8} (h : RdS k Bt k' p acc ds (f + 1)) (h1 : p + k'.width ≤ Bt.length) (hg : k'.goes (k'.peek Bt p)) (hl : ds.length + (if k'.peek Bt p = k'.clear then 0 else (k'.any (k'.peek Bt p)).length) ≤ 2000) :
  RdS k Bt (k'.step (k'.peek Bt p)) (p + k'.width) (acc ++ [k'.peek Bt p]) (ds ++ (if k'.peek Bt p = k'.clear then [] else k'.any (k'.peek Bt p))) f := by
 obtain ⟨x, hx⟩ : ∃ x, k'.peek Bt p = x := ⟨_, rfl⟩
 rw [hx] at hg hl ⊢
 have hne : x ≠ k'.fin := by
  rcases hg with h2 | h2
  ·have := k'.fin_eq; omega
  ·exact Kn.can_ne_fin h.val h2
 have hno : ¬ (x ≠ k'.clear ∧ ¬ k'.can x) := fun h2 => by
  rcases hg with h3 | h3
  ·exact h2.1 h3
  ·exact h2.2 h3
 refine ⟨Kn.step_valid h.val hg, h.like.trans (k'.like_step x), ?_, by rw [List.length_append]; have := h.cnt; simp; omega, ?_, fun xs => ?_⟩
 ·rw [h.run, unF, hx, if_neg (by omega), if_neg hne, if_neg hno, if_neg (by omega), List.length_append]
  congr 1
  split <;> simp
 ·rw [List.length_append]
  split <;> rename_i h2
  ·have := h.len; simp; omega
  ·rw [if_neg h2] at hl; exact hl
 ·rw [List.append_assoc, h.dat]
  show ds ++ (if x = k'.fin then [] else (if x = k'.clear then [] else k'.any x) ++ (k'.step x).data xs) = _
  rw [if_neg hne, List.append_assoc]

theorem RdS.full {k : Kn} {Bt : List UInt8} {k' : Kn} {p : Nat} {acc : List Nat} {ds : List UInt8} (h : RdS k Bt k' p acc ds 0) (h1 : p + k'.width ≤ Bt.length) (hg : k'.goes (k'.peek Bt p)) (hl : ds.length + (if k'.peek Bt p = k'.clear then 0 else (k'.any (k'.peek Bt p)).length) ≤ 2000) :
  unF Bt 3100 k 0 0 [] = ⟨acc ++ [k'.peek Bt p], 3, p + k'.width⟩ ∧ k.data (acc ++ [k'.peek Bt p]) = ds ++ (if k'.peek Bt p = k'.clear then [] else k'.any (k'.peek Bt p)) := by
 obtain ⟨x, hx⟩ : ∃ x, k'.peek Bt p = x := ⟨_, rfl⟩
 rw [hx] at hg hl ⊢
 have hne : x ≠ k'.fin := by
  rcases hg with h2 | h2
  ·have := k'.fin_eq; omega
  ·exact Kn.can_ne_fin h.val h2
 have hno : ¬ (x ≠ k'.clear ∧ ¬ k'.can x) := fun h2 => by
  rcases hg with h3 | h3
  ·exact h2.1 h3
  ·exact h2.2 h3
 refine ⟨?_, ?_⟩
 ·rw [h.run, unF, hx, if_neg (by omega), if_neg hne, if_neg hno, if_neg (by omega)]; rfl
 ·rw [h.dat]
  show ds ++ (if x = k'.fin then [] else (if x = k'.clear then [] else k'.any x) ++ (k'.step x).data []) = _
  rw [if_neg hne]
  show ds ++ (_ ++ []) = _
  rw [List.append_nil]

theorem RdS.here {k : Kn} {Bt : List UInt8} {k' : Kn} {p f : Nat} {acc : List Nat} {ds : List UInt8} (h : RdS k Bt k' p acc ds f) : k.data acc = ds := by
 have := h.dat []
 rw [List.append_nil] at this
 rw [this]
 show ds ++ [] = ds
 rw [List.append_nil]

theorem RdM.post {k : Kn} {kv : List Value} {w0 : World} {H G : Nat} {k' : Kn} {A : Option Addr} {c : Nat} {cs : List Nat} {ds : List UInt8} {A1 A2 : Option Addr} {n1 c1 n2 c2 fin p : Nat} {w : World} {u : Un}
  (h : RdM k kv w0 H G k' A c cs ds (.slice A1 n1 c1) (.slice A2 n2 c2) fin p w) (hH : H = w0.heap.size) (hu : u = ⟨cs, fin, p⟩) (hd : k.data cs = ds) (hn1 : cs.length = n1) (hn2 : ds.length = n2) {w' : World} (hk : Keep (fun g => g = H + 1) w w') :
  RdPost k u w0 (.returned (.agg #[.int .i64 (k.o : Int), .int .i64 (k.l : Int), .int .i64 (k.m : Int), .slice A k'.ps.length c, .int .i64 (k.base : Int), .int .i64 k'.lastI, .slice A1 n1 c1, .slice A2 n2 c2, .int .i64 (fin : Int), .int .i64 (p : Int)])) w' := by
 subst hu hn1 hn2 hH
 refine ⟨A, k'.ps.length, c, k'.lastI, A1, c1, A2, c2, by rw [hd], own_base (own_keep h.o1 hk (fun g e1 e2 => by have := (h.o1.lt g e1).1; omega)) (by omega), ?_, ?_⟩
 ·rw [hd]
  exact own_base (own_keep h.o2 hk (fun g e1 e2 => by have := (h.o2.lt g e1).1; omega)) (by omega)
 ·refine h.bel.trans ?_
  exact (hk.below (B := w0.heap.size) (Nat.le_trans (by omega) (Nat.le_of_lt (h.kb.lt))) (fun g e => by omega))

theorem keep10 {w : World} {J : Nat} (u0 u1 u2 u3 u4 u5 u6 u7 u8 u9 : Value) : Keep (fun g => g = J) w ((((((((((w.setCell ⟨J, 0, none⟩ u0).setCell ⟨J, 1, none⟩ u1).setCell ⟨J, 2, none⟩ u2).setCell ⟨J, 3, none⟩ u3).setCell ⟨J, 4, none⟩ u4).setCell ⟨J, 5, none⟩ u5).setCell ⟨J, 6, none⟩ u6).setCell ⟨J, 7, none⟩ u7).setCell ⟨J, 8, none⟩ u8).setCell ⟨J, 9, none⟩ u9) :=
 ((((((((((Keep.refl (fun g => g = J) w).setCell (p := ⟨J, 0, none⟩) rfl u0).setCell (p := ⟨J, 1, none⟩) rfl u1).setCell (p := ⟨J, 2, none⟩) rfl u2).setCell (p := ⟨J, 3, none⟩) rfl u3).setCell (p := ⟨J, 4, none⟩) rfl u4).setCell (p := ⟨J, 5, none⟩) rfl u5).setCell (p := ⟨J, 6, none⟩) rfl u6).setCell (p := ⟨J, 7, none⟩) rfl u7).setCell (p := ⟨J, 8, none⟩) rfl u8).setCell (p := ⟨J, 9, none⟩) rfl u9

end Go.Proofs.YthlgpgaeajfchaaGreat

