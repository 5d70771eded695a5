/-
  The program's walkCodes: the widths and the data of codes that can follow each other.
-/
import Derived.Test.YthlgpgaeajfchaaGreatDoorImplAdv
import Derived.Test.YthlgpgaeajfchaaGreatDoorImplLongest
import Derived.Test.YthlgpgaeajfchaaGreatDoorWordsJ
import Derived.Test.YthlgpgaeajfchaaGreatDoorMergeFacts
namespace Go.Proofs.YthlgpgaeajfchaaGreatDoor
open Go.RowKit
set_option linter.unusedVariables false
set_option maxRecDepth 100000

/-- append of a string's bytes onto a row of the call's own: at the operation. -/
theorem wpList_append_str {P : Program} {w : World} {ops : Array Oper} {rest : List Oper} {o : Oper} {a : Act} {Q : Exit → Act → World → Prop} {t u e : TypeId} (el : Elem P t e (.int .u8 0) 1 1) (hu : P.underlying u = some .string) (hgd : o.guard = none) (sl x : Operand)
    (ho : o.op = .call { callee := .builtin .append, args := #[sl, x], argTypes := #[t, u] }) (base : Nat)
    (v : Value) (n : Nat) (xs : List Value) (hs : a.eval sl = v) (hown : w.ownsRow base e 1 v n xs) (s : ByteArray) (hx : a.eval x = .string s) (h63 : n + s.size ≤ 1000000) (hbase : base ≤ w.heap.size)
    (h : ∀ v' w', w'.ownsRow base e 1 v' (n + s.size) (xs ++ s.data.toList.map byteV) → w.grownBy w' v.ownBlock → (v'.ownBlock = v.ownBlock ∨ v'.ownBlock = some w.heap.size) → wpList P ops Q rest (a.put o.dst v') w') : wpList P ops Q (o :: rest) a w :=
  wpList_plain hgd fun _ hK => wp_append_str w el hu sl x ho base v n xs hs hown s hx h63 hbase fun v' w' h2 h3 h4 => hK _ _ (h v' w' h2 h3 h4)

/-- A row under a growth of another one. -/
theorem own_grown {w w' : World} {base size n : Nat} {e : TypeId} {v : Value} {xs : List Value} {row : Option Nat} (h : w.ownsRow base e size v n xs) (hg : w.grownBy w' row) (hv : ∀ g, v.ownBlock = some g → row ≠ some g) : w'.ownsRow base e size v n xs :=
  own_keep h (S := fun g => row = some g) (Keep.of_grown hg (fun g e => Or.inl e)) (fun g e1 e2 => hv g e1 e2)

/-- The memory of walkCodes' loop: what is known in its box, with pairs of its own; the widths; the data. -/
structure WiM (k : Kn) (w0 : World) (H : Nat) (k' : Kn) (A : Option Addr) (c : Nat) (ws : List Nat) (ds : List UInt8) (v1 v2 : Value) (w : World) : Prop where
  box : KB w H (.int .i64 (k.o : Int)) (.int .i64 (k.l : Int)) (.int .i64 (k.m : Int)) (.slice A k'.ps.length c) (.int .i64 (k.base : Int)) (.int .i64 k'.lastI)
  kp : k'.Own w (H + 1) A c
  o1 : w.ownsRow (H + 1) 3 1 v1 ws.length (ws.map natV)
  o2 : w.ownsRow (H + 1) 5 1 v2 ds.length (ds.map byteV)
  a1 : Apart v1 v2
  a2 : Apart (.slice A 0 0) v1
  a3 : Apart (.slice A 0 0) v2
  bel : Below H w0 w

section
variable {k : Kn} {w0 : World} {H : Nat} {k' : Kn} {A : Option Addr} {c : Nat} {ws : List Nat} {ds : List UInt8} {v1 v2 : Value} {w w' : World}

theorem WiM.lt (h : WiM k w0 H k' A c ws ds v1 v2 w) : H < w.heap.size := h.box.lt

theorem WiM.below (h : WiM k w0 H k' A c ws ds v1 v2 w) (hb : Below w.heap.size w w') : WiM k w0 H k' A c ws ds v1 v2 w' :=
  ⟨h.box.below hb, h.kp.below hb (Nat.le_refl _), own_below h.o1 hb (Nat.le_refl _), own_below h.o2 hb (Nat.le_refl _), h.a1, h.a2, h.a3, h.bel.trans (hb.mono (Nat.le_of_lt h.lt))⟩

theorem kpBlk (h : k'.Own w (H + 1) A c) {g : Nat} (hg : (Value.slice A 0 0).ownBlock = some g) : H + 1 ≤ g ∧ g < w.heap.size := by
  rw [← own_any A k'.ps.length c] at hg
  exact World.ownsRow.lt h g hg

/-- A width is appended. -/
theorem WiM.pushW (h : WiM k w0 H k' A c ws ds v1 v2 w) {v1' : Value} {o : Obj} {y : Nat} (hv : w'.ownsRow (H + 1) 3 1 v1' (ws.length + 1) (ws.map natV ++ [.int .i64 (y : Int)])) (hg : (w.alloc o).grownBy w' v1.ownBlock) (hat : v1'.ownBlock = v1.ownBlock ∨ v1'.ownBlock = some (w.heap.size + 1)) :
    WiM k w0 H k' A c (ws ++ [y]) ds v1' v2 w' := by
  have hlt := h.lt
  have h1 : ∀ g, v1.ownBlock = some g → H + 1 ≤ g := fun g hg => (h.o1.lt g hg).1
  have hk := Keep.of_row hg
  refine ⟨(h.box.alloc o).grown hg (fun e => by have := h1 _ e; omega), own_keep h.kp hk (fun g e1 e2 => h.a2 g (by rw [own_any] at e1; exact e1) e2), ?_, own_keep h.o2 hk (fun g e1 e2 => h.a1 g e2 e1), ?_, ?_, h.a3, ?_⟩
  · rw [List.length_append, List.map_append]; exact hv
  · exact Apart.step h.a1 hat (fun g e => by have := (h.o2.lt g e).2; omega)
  · exact (Apart.step h.a2.symm hat (fun g e => by have := (kpBlk h.kp e).2; omega)).symm
  · exact (h.bel.alloc (Nat.le_of_lt hlt) o).grown hg (by simp; omega) (fun g e => by have := h1 _ e; omega)

/-- Data is appended. -/
theorem WiM.pushD (h : WiM k w0 H k' A c ws ds v1 v2 w) {v2' : Value} {bs : List UInt8} {n : Nat} (hn : n = bs.length) (hv : w'.ownsRow (H + 1) 5 1 v2' (ds.length + n) (ds.map byteV ++ bs.map byteV)) (hg : w.grownBy w' v2.ownBlock) (hat : v2'.ownBlock = v2.ownBlock ∨ v2'.ownBlock = some w.heap.size) :
    WiM k w0 H k' A c ws (ds ++ bs) v1 v2' w' := by
  have hlt := h.lt
  have h2 : ∀ g, v2.ownBlock = some g → H + 1 ≤ g := fun g hg => (h.o2.lt g hg).1
  refine ⟨h.box.grown hg (fun e => by have := h2 _ e; omega), own_grown h.kp hg (fun g e1 e2 => h.a3 g (by rw [own_any] at e1; exact e1) e2), own_grown h.o1 hg (fun g e1 e2 => h.a1 g e1 e2), ?_, ?_, h.a2, ?_, ?_⟩
  · rw [List.length_append, List.map_append, ← hn]; exact hv
  · exact (Apart.step h.a1.symm hat (fun g e => (h.o1.lt g e).2)).symm
  · exact (Apart.step h.a3.symm hat (fun g e => (kpBlk h.kp e).2)).symm
  · exact h.bel.grown hg (by omega) (fun g e => by have := h2 _ e; omega)

/-- What is known is advanced. -/
theorem WiM.setK (h : WiM k w0 H k' A c ws ds v1 v2 w) {k2 : Kn} {A2 : Option Addr} {c2 : Nat} (hown : k2.Own w' (H + 1) A2 c2) (hap : App w w' (.slice A k'.ps.length c) (.slice A2 k2.ps.length c2)) :
    WiM k w0 H k2 A2 c2 ws ds v1 v2 (set6 w' H (.int .i64 (k.o : Int)) (.int .i64 (k.l : Int)) (.int .i64 (k.m : Int)) (.slice A2 k2.ps.length c2) (.int .i64 (k.base : Int)) (.int .i64 k2.lastI)) := by
  have hlt := h.lt
  have hg := hap.grow
  have hk : ∀ g, (Value.slice A k'.ps.length c).ownBlock = some g → H + 1 ≤ g := fun g e => (World.ownsRow.lt h.kp g e).1
  have hbx := h.box.grown hg (fun e => by have := hk _ e; omega)
  have hS : Keep (fun g => g = H) w' (set6 w' H (.int .i64 (k.o : Int)) (.int .i64 (k.l : Int)) (.int .i64 (k.m : Int)) (.slice A2 k2.ps.length c2) (.int .i64 (k.base : Int)) (.int .i64 k2.lastI)) := (Keep.refl (fun g => g = H) w').set6 (H := H) rfl _ _ _ _ _ _
  have h2 : ∀ {v : Value}, (∀ g, v.ownBlock = some g → H + 1 ≤ g) → ∀ g, v.ownBlock = some g → ¬ g = H := fun h g e e2 => by have := h g e; omega
  have hat : ∀ {v : Value}, Apart (.slice A 0 0) v → (∀ g, v.ownBlock = some g → g < w.heap.size) → Apart (.slice A2 0 0) v := fun {v} ha hv g e1 e2 => by
    rcases hap.at_ with h5 | ⟨g5, h5, h6⟩
    · rw [own_any A2, own_any A] at h5
      rw [h5] at e1
      exact ha g e1 e2
    · rw [own_any A2, e1] at h5
      injection h5 with h5
      have := hv g e2
      omega
  refine ⟨hbx.set _ _ _ _ _ _, own_keep hown hS (h2 (fun g e => (World.ownsRow.lt hown g e).1)), own_keep (own_grown h.o1 hg (fun g e1 e2 => h.a2 g (by rw [own_any] at e2; exact e2) e1)) hS (h2 (fun g e => (h.o1.lt g e).1)), own_keep (own_grown h.o2 hg (fun g e1 e2 => h.a3 g (by rw [own_any] at e2; exact e2) e1)) hS (h2 (fun g e => (h.o2.lt g e).1)), h.a1, hat h.a2 (fun g e => (h.o1.lt g e).2), hat h.a3 (fun g e => (h.o2.lt g e).2), ?_⟩
  exact below_set6 (h.bel.grown hg (by omega) (fun g e => by have := hk _ e; omega)) (Nat.le_refl _) _ _ _ _ _ _
end

set_option maxHeartbeats 2000000 in
theorem implWalkCodes (k : Kn) (A : Option Addr) (c B : Nat) (codes : List Nat) (Ac : Option Addr) (cc : Nat) (w : World) (h : k.Fresh) (hA : k.At w B A) (hB : B ≤ w.heap.size) (hF : k.Follow codes)
    (hrow : Row w B 1 Ac codes.length (codes.map natV)) (hn : codes.length ≤ 3100) (hd : (k.data codes).length ≤ 2000) :
    Calls Tryz.prog 128 #[k.val A c, .slice Ac codes.length cc] w fun e w' => ∃ A1 c1, e = .returned (.tuple #[.slice A1 codes.length c1, .string (bsL (k.data codes)), .bool true]) ∧ w'.ownsRow w.heap.size 3 1 (.slice A1 codes.length c1) codes.length ((k.widths codes).map natV) ∧ Below w.heap.size w w' := by
  have HC := fun W => implClearCode k.o k.l k.m W h.val.sv
  have hz : 2 ^ k.l = k.clear := rfl
  rw [hz] at HC
  have HE := fun W => implEndCode k.o k.l k.m W h.val.sv
  have hz3 : 2 ^ k.l + 1 = k.fin := rfl
  rw [hz3] at HE
  have hpw := h.val.pow
  have hfe := k.fin_eq
  have hwl := hF.widths_length h.val
  have HK := fun (W : World) (hb : Below w.heap.size w W) => implKnownValid k A c B W h (hA.below hb hB) (Nat.le_trans hB hb.size)
  have HCp := fun (W : World) (hb : Below w.heap.size w W) => implCopyKnown k A c B W h.val (hA.below hb hB) (Nat.le_trans hB hb.size)
  obtain ⟨n, hnn⟩ : ∃ n, codes.length = n := ⟨_, rfl⟩
  rw [hnn] at hrow hn hwl ⊢
  obtain ⟨z, hz2⟩ : ∃ z, k.clear = z := ⟨_, rfl⟩
  obtain ⟨fi, hfin⟩ : ∃ z, k.fin = z := ⟨_, rfl⟩
  have hzb : z ≤ 256 := by omega
  have hfib : fi ≤ 300 ∧ z < fi := by omega
  obtain ⟨hfib, hzfi⟩ := hfib
  have hn3 : decide ((3100 : Int) < n) = false := decide_eq_false (by omega)
  have hn4 : decide (3100 < n) = false := decide_eq_false (by omega)
  rw [hz2] at HC
  rw [hfin] at HE
  have hrow' := Lib.hid (fun (W : World) (hb : Below w.heap.size w W) => hrow.below hb hB)
  have hval := Kn.val_eq k
  simp only [hval] at HK HCp ⊢
  have kb0 := KB.start w 48 (.int .i64 (k.o : Int)) (.int .i64 (k.l : Int)) (.int .i64 (k.m : Int)) (.slice A k.ps.length c) (.int .i64 (k.base : Int)) (.int .i64 k.lastI)
  have hW0 := (Below.refl w.heap.size w).alloc (Nat.le_refl _) (.cells #[.int .i64 (k.o : Int), .int .i64 (k.l : Int), .int .i64 (k.m : Int), .slice A k.ps.length c, .int .i64 (k.base : Int), .int .i64 k.lastI] 48)
  have hs0 : (w.alloc (.cells #[.int .i64 (k.o : Int), .int .i64 (k.l : Int), .int .i64 (k.m : Int), .slice A k.ps.length c, .int .i64 (k.base : Int), .int .i64 k.lastI] 48)).heap.size = w.heap.size + 1 := by simp
  replace HC := Lib.hid HC
  replace HE := Lib.hid HE
  replace HK := Lib.hid HK
  replace HCp := Lib.hid HCp
  replace hwl := Lib.hid hwl
  replace hd := Lib.hid hd
  have hN := Lib.hid hnn
  have hz2' := Lib.hid hz2
  have hfin' := Lib.hid hfin
  have h' := Lib.hid h
  have hF' := Lib.hid hF
  clear hz hz3 hpw hfe hA hrow hnn hz2 hfin hval h hF
  go_enter Tryz.func128, Tryz.ntmps128
  go_upto_region 1 with (fail)
  obtain ⟨w2, hw2⟩ : ∃ W, w.alloc (.cells #[.int .i64 (k.o : Int), .int .i64 (k.l : Int), .int .i64 (k.m : Int), .slice A k.ps.length c, .int .i64 (k.base : Int), .int .i64 k.lastI] 48) = W := ⟨_, rfl⟩
  rw [hw2] at kb0 hW0 hs0 ⊢
  clear hw2
  replace hs0 := Lib.hid hs0
  have hK2 := Lib.hid (HK.out w2 hW0)
  obtain ⟨⟨q0, q1, q2, q3, q4, q5⟩, z0, z1, z2, z3, z4, z5⟩ := kb0
  go_wp2_with fail
  refine hK2.out.mono ?_
  rintro e w3 ⟨rfl, hb3⟩
  have kb3 := KB.below ⟨⟨q0, q1, q2, q3, q4, q5⟩, z0, z1, z2, z3, z4, z5⟩ hb3
  have hW3 := hW0.trans (hb3.mono hW0.size)
  have hs3 : w.heap.size + 1 ≤ w3.heap.size := by have := hs0.out; have := hb3.size; omega
  have hC3 := Lib.hid (HCp.out w3 hW3)
  clear q0 q1 q2 q3 q4 q5 z0 z1 z2 z3 z4 z5 hb3 hW0
  replace hW3 := Lib.hid hW3
  have kb3' := Lib.hid kb3
  obtain ⟨⟨q0, q1, q2, q3, q4, q5⟩, z0, z1, z2, z3, z4, z5⟩ := kb3
  go_wp2_with fail
  refine hC3.out.mono ?_
  rintro e w4 ⟨A4, c4, rfl, hown4, hb4⟩
  have hM4 : WiM k w w.heap.size k A4 c4 [] [] (.slice none 0 0) (.slice none 0 0) (set6 w4 w.heap.size (.int .i64 (k.o : Int)) (.int .i64 (k.l : Int)) (.int .i64 (k.m : Int)) (.slice A4 k.ps.length c4) (.int .i64 (k.base : Int)) (.int .i64 k.lastI)) := by
    have hS : Keep (fun g => g = w.heap.size) w4 (set6 w4 w.heap.size (.int .i64 (k.o : Int)) (.int .i64 (k.l : Int)) (.int .i64 (k.m : Int)) (.slice A4 k.ps.length c4) (.int .i64 (k.base : Int)) (.int .i64 k.lastI)) := (Keep.refl (fun g => g = w.heap.size) w4).set6 (H := w.heap.size) rfl _ _ _ _ _ _
    refine ⟨(kb3'.out.below hb4).set _ _ _ _ _ _, own_keep (own_base hown4 hs3) hS (fun g e1 e2 => by have := (World.ownsRow.lt hown4 g e1).1; omega), World.ownsRow_nil _ _ _ _, World.ownsRow_nil _ _ _ _, (fun g e => by cases e), (fun g _ e => by cases e), (fun g _ e => by cases e), ?_⟩
    exact below_set6 (hW3.out.trans (hb4.mono hW3.out.size)) (Nat.le_refl _) _ _ _ _ _ _
  have kb4 := (kb3'.out.below hb4)
  clear q0 q1 q2 q3 q4 q5 z0 z1 z2 z3 z4 z5 hb4 hown4 hC3 hK2 HK HCp hW3 kb3'
  replace hM4 := Lib.hid hM4
  obtain ⟨⟨q0, q1, q2, q3, q4, q5⟩, z0, z1, z2, z3, z4, z5⟩ := kb4
  go_upto_region 4 with (fail)
  clear q0 q1 q2 q3 q4 q5 z0 z1 z2 z3 z4 z5
  unfold set6 at hM4
  obtain ⟨w5, hw5⟩ : ∃ W, ((((((w4.setCell ⟨w.heap.size, 0, none⟩ (.int .i64 (k.o : Int))).setCell ⟨w.heap.size, 1, none⟩ (.int .i64 (k.l : Int))).setCell ⟨w.heap.size, 2, none⟩ (.int .i64 (k.m : Int))).setCell ⟨w.heap.size, 3, none⟩ (.slice A4 k.ps.length c4)).setCell ⟨w.heap.size, 4, none⟩ (.int .i64 (k.base : Int))).setCell ⟨w.heap.size, 5, none⟩ (.int .i64 k.lastI)) = W := ⟨_, rfl⟩
  rw [hw5] at hM4 ⊢
  clear hw5
  obtain ⟨⟨q0, q1, q2, q3, q4, q5⟩, _⟩ := hM4.out.box
  refine wp_region_cls (by kernel_rfl) (by kernel_rfl) ?_
  have c0 := clsCell q0
  have c1 := clsCell q1
  have c2 := clsCell q2
  repeat (go_big_quiet_step (first | (go_at_call 91; exact clsCall (HC.out _)) | (go_at_call 89; exact clsCall (HE.out _))))
  refine wpQuiet_nil ?_
  rintro w6 ⟨⟨w6, hb6⟩, rfl⟩
  have hM6 := Lib.hid (hM4.out.below hb6)
  clear c0 c1 c2 q0 q1 q2 q3 q4 q5 hb6 hM4 HC HE
  go_wp2_with fail
  go_loopw [9, 10, 32] (fun u v j wr => ∃ (k' : Kn) (A' : Option Addr) (c' : Nat) (i m : Nat) (pre xs ws : List Nat) (ds : List UInt8) (A1 : Option Addr) (c1 : Nat) (A2 : Option Addr) (c2 : Nat), u = .slice A1 i c1 ∧ v = .slice A2 m c2 ∧ j = .int .i64 (i : Int) ∧ i ≤ n ∧ Hid (ds.length = m) ∧ Hid (k'.Valid ∧ k.Like k' ∧ k'.Follow xs ∧ codes = pre ++ xs ∧ pre.length = i ∧ ws ++ k'.widths xs = k.widths codes ∧ ds ++ k'.data xs = k.data codes ∧ ws.length = i) ∧ Hid (WiM k w w.heap.size k' A' c' ws ds u v wr)) (fun _ _ j _ => n - (intOf j).toNat)
  case atStart => exact ⟨k, A4, c4, 0, 0, [], codes, [], [], _, _, _, _, rfl, rfl, rfl, Nat.zero_le _, Lib.hid rfl, Lib.hid ⟨h'.out.val, Kn.Like.refl k, hF'.out, rfl, rfl, rfl, rfl, rfl⟩, hM6⟩
  case round =>
    clear hM6
    obtain ⟨k', A', c', i, m, pre, xs, ws, ds, A1, c1, A2, c2, rfl, rfl, rfl, hin, hdl, hS, hM⟩ := hrel
    obtain ⟨hv', hlk, hfo, hsp, hpl, hws, hds, hwsl⟩ := hS.out
    by_cases hin' : i < n
    · obtain ⟨x, rest, rfl⟩ : ∃ x rest, xs = x :: rest := by
        cases xs with
        | nil =>
          exfalso
          have h1 := congrArg List.length hsp
          rw [hN.out, List.append_nil, hpl] at h1
          omega
        | cons x rest => exact ⟨x, rest, rfl⟩
      have hx : codes[i]? = some x := by rw [hsp, ← hpl]; simp
      obtain ⟨bc, off, rfl, hbB, hcells⟩ := (hrow'.out wr hM.out.bel).2 (by omega)
      have qx : wr.cell? ⟨bc, off + i, none⟩ = some (.int .i64 (x : Int)) := hcells i _ (by rw [List.getElem?_map, hx]; rfl)
      have hhead := hfo.head hv'
      have hwdt : k'.widths (x :: rest) = k'.width :: (if x = k'.fin then [] else (k'.step x).widths rest) := rfl
      have hdat : k'.data (x :: rest) = if x = k'.fin then [] else (if x = k'.clear then [] else k'.any x) ++ (k'.step x).data rest := rfl
      rw [hwdt] at hws
      rw [hdat] at hds
      rw [hlk.fin, hfin'.out] at hws hds hhead
      rw [hlk.clear, hz2'.out] at hds
      have hxg : x ≤ k'.great := (Kn.goes_iff hv').1 (by
        rcases hhead with ⟨h1, _⟩ | ⟨_, h1, _⟩
        · right; rw [h1, hlk.fin, hfin'.out]
        · exact Or.inl h1)
      have hx1023 : x ≤ 1023 := by have := Kn.great_bounds hv'; have := hv'.pow; omega
      have HCan := fun W => implCanFollow k' A' c' x true W hv' (btrue hxg)
      have HWd := fun W => implWidth k' A' c' W hv'
      rw [hlk.val] at HCan HWd
      obtain ⟨wd, hwd⟩ : ∃ z, k'.width = z := ⟨_, rfl⟩
      rw [hwd] at HWd hws
      replace HCan := Lib.hid HCan
      replace HWd := Lib.hid HWd
      replace hv' := Lib.hid hv'
      replace hlk := Lib.hid hlk
      replace hsp := Lib.hid hsp
      replace hpl := Lib.hid hpl
      replace hws := Lib.hid hws
      replace hds := Lib.hid hds
      replace hwsl := Lib.hid hwsl
      have i0 : (0 : Int) ≤ i := by omega
      have i1 : (i : Int) < n := by omega
      have hprl : Hid ((pre ++ [x]).length = i + 1) := Lib.hid (by rw [List.length_append, hpl.out]; rfl)
      have hwsl2 : Hid ((ws ++ [wd]).length = i + 1) := Lib.hid (by rw [List.length_append, hwsl.out]; rfl)
      have hcod : Hid (codes = (pre ++ [x]) ++ rest) := Lib.hid (by rw [hsp.out]; simp)
      clear hS hfo hx hcells hwdt hdat hxg hwd
      obtain ⟨⟨q0, q1, q2, q3, q4, q5⟩, z0, z1, z2, z3, z4, z5⟩ := hM.out.box
      rcases hhead with ⟨hxf, hr0⟩ | ⟨hxf, hg, hfo2⟩
      · subst hr0
        have hni : n = i + 1 := by
          have h1 := congrArg List.length hsp.out
          rw [hN.out, List.length_append, hpl.out] at h1
          simpa using h1
        have en : (n : Int) - 1 = (i : Int) := by omega
        have wi : IntKind.i64.wrap (i : Int) = i := IntWalk.i64_in _ (by omega)
        subst hxf
        have hds2 : Hid (ds ++ k'.data [] = k.data codes) := Lib.hid (by have := hds.out; simpa [Kn.data] using this)
        have hws2 : Hid ((ws ++ [wd]) ++ k'.widths [] = k.widths codes) := Lib.hid (by have := hws.out; simpa [Kn.widths] using this)
        replace hni := Lib.hid hni
        have hxz : ((x : Int) == (z : Int)) = false := by rw [beq_eq_false_iff_ne]; omega
        clear hds hws
        go_wp2_with fail
        refine (HCan.out _).mono ?_
        rintro e w7 ⟨rfl, hb7⟩
        have M7 := Lib.hid (hM.out.below hb7)
        clear q0 q1 q2 q3 q4 q5 z0 z1 z2 z3 z4 z5 qx hb7
        obtain ⟨⟨q0, q1, q2, q3, q4, q5⟩, z0, z1, z2, z3, z4, z5⟩ := M7.out.box
        go_wp2_with fail
        refine (HWd.out _).mono ?_
        rintro e w8 ⟨rfl, hb8⟩
        have M8 := Lib.hid (M7.out.below hb8)
        have hs8 : w.heap.size + 1 ≤ w8.heap.size := M8.out.lt
        have own8 := M8.out.o1
        rw [hwsl.out] at own8
        clear q0 q1 q2 q3 q4 q5 z0 z1 z2 z3 z4 z5 hb8 M7
        go_wp2_with (first
          | (at_builtin; refine wpList_append_row _ elemInt rfl (.tmp 53) (.tmp 56) rfl (w.heap.size + 1) _ _ _ rfl (own8.alloc _) _ _ 1 1 [.int .i64 (wd : Int)] rfl (Row.newAt _ _ rfl _ [.int .i64 (wd : Int)] 1 1 rfl) ?_ ?_ ?_ ?_ ?_))
        · first | rfl | (intro z hz; simp at hz; subst hz; rfl)
        · unfold maxLen; omega
        · omega
        · first | omega | (simp; omega)
        · intro v9 w9 hv9 hg9 hat9
          obtain ⟨A9, c9, rfl, _, _⟩ := own_form hv9
          have M9 := Lib.hid (M8.out.pushW (y := wd) (by rw [hwsl.out]; exact hv9) hg9 (by simpa using hat9))
          obtain ⟨⟨q0, q1, q2, q3, q4, q5⟩, z0, z1, z2, z3, z4, z5⟩ := M9.out.box
          clear hv9 hg9 hat9 own8 M8
          go_wp2_with fail
          go_roundw
          case rel => exact ⟨k', A', c', i + 1, m, pre ++ [x], [], ws ++ [wd], ds, A9, c9, A2, c2, rfl, rfl, by go_num, by omega, hdl, Lib.hid ⟨hv'.out, hlk.out, Kn.Follow.nil k', hcod.out, hprl.out, hws2.out, hds2.out, hwsl2.out⟩, M9⟩
          case measure => simp [intOf]; omega
      · have e1 : ((x : Int) == (fi : Int)) = false := by rw [beq_eq_false_iff_ne]; omega
        have e2 : decide ((x : Int) = (fi : Int)) = false := decide_eq_false (by omega)
        have e3 : (x == fi) = false := by rw [beq_eq_false_iff_ne]; omega
        have e4 : decide (x = fi) = false := decide_eq_false (by omega)
        have hws2 : Hid ((ws ++ [wd]) ++ (k'.step x).widths rest = k.widths codes) := Lib.hid (by
          have := hws.out
          rw [if_neg hxf] at this
          rw [← this]; simp)
        have hv2 := Lib.hid (Kn.step_valid hv'.out hg)
        have hlk2 := Lib.hid (hlk.out.trans (k'.like_step x))
        replace hfo2 := Lib.hid hfo2
        clear hws
        by_cases hxc : x = z
        · have hst : k'.step x = k'.cleared := by unfold Kn.step; rw [if_pos (by rw [hlk.out.clear, hz2'.out]; exact hxc)]
          have hds2 : Hid (ds ++ (k'.step x).data rest = k.data codes) := Lib.hid (by have := hds.out; rw [if_neg hxf, if_pos hxc] at this; exact this)
          have HAd := fun (W : World) (ho : k'.Own W (w.heap.size + 1) A' c') => implAdvanceClear k' A' c' (w.heap.size + 1) W hv'.out ho
          rw [hlk.out.clear, hz2'.out, ← hst, hlk.out.val, hlk2.out.val, ← hxc] at HAd
          replace HAd := Lib.hid HAd
          have f1 : ((x : Int) == (z : Int)) = true := by rw [beq_iff_eq]; omega
          have f2 : decide ((x : Int) = (z : Int)) = true := decide_eq_true (by omega)
          have f3 : (x == z) = true := by rw [beq_iff_eq]; omega
          have f4 : decide (x = z) = true := decide_eq_true (by omega)
          obtain ⟨k2, hk2⟩ : ∃ k2, k'.step x = k2 := ⟨_, rfl⟩
          rw [hk2] at HAd hv2 hlk2 hfo2 hws2 hds2
          clear hds hst hk2 hg hxc
          go_wp2_with fail
          refine (HCan.out _).mono ?_
          rintro e w7 ⟨rfl, hb7⟩
          have M7 := Lib.hid (hM.out.below hb7)
          clear q0 q1 q2 q3 q4 q5 z0 z1 z2 z3 z4 z5 qx hb7
          obtain ⟨⟨q0, q1, q2, q3, q4, q5⟩, z0, z1, z2, z3, z4, z5⟩ := M7.out.box
          go_wp2_with fail
          refine (HWd.out _).mono ?_
          rintro e w8 ⟨rfl, hb8⟩
          have M8 := Lib.hid (M7.out.below hb8)
          have hs8 : w.heap.size + 1 ≤ w8.heap.size := M8.out.lt
          have own8 := M8.out.o1
          rw [hwsl.out] at own8
          clear q0 q1 q2 q3 q4 q5 z0 z1 z2 z3 z4 z5 hb8 M7
          go_wp2_with (first
            | (at_builtin; refine wpList_append_row _ elemInt rfl (.tmp 53) (.tmp 56) rfl (w.heap.size + 1) _ _ _ rfl (own8.alloc _) _ _ 1 1 [.int .i64 (wd : Int)] rfl (Row.newAt _ _ rfl _ [.int .i64 (wd : Int)] 1 1 rfl) ?_ ?_ ?_ ?_ ?_))
          · first | rfl | (intro z hz; simp at hz; subst hz; rfl)
          · unfold maxLen; omega
          · omega
          · first | omega | (simp; omega)
          · intro v9 w9 hv9 hg9 hat9
            obtain ⟨A9, c9, rfl, _, _⟩ := own_form hv9
            have M9 := Lib.hid (M8.out.pushW (y := wd) (by rw [hwsl.out]; exact hv9) hg9 (by simpa using hat9))
            obtain ⟨⟨q0, q1, q2, q3, q4, q5⟩, z0, z1, z2, z3, z4, z5⟩ := M9.out.box
            clear hv9 hg9 hat9 own8 M8
            go_wp2_with fail
            refine (HAd.out _ M9.out.kp).mono ?_
            rintro e wa ⟨rfl, hown, hba⟩
            have Ma := Lib.hid (M9.out.setK hown ⟨(App.of_below (v := .slice A' k'.ps.length c') hba).grow, Or.inl (by rw [own_any A' k2.ps.length c', own_any A' k'.ps.length c'])⟩)
            have kba := M9.out.box.below hba
            clear q0 q1 q2 q3 q4 q5 z0 z1 z2 z3 z4 z5 hown hba
            obtain ⟨⟨q0, q1, q2, q3, q4, q5⟩, z0, z1, z2, z3, z4, z5⟩ := kba
            unfold set6 at Ma
            go_wp2_with fail
            go_roundw
            case rel => exact ⟨k2, A', c', i + 1, m, pre ++ [x], rest, ws ++ [wd], ds, A9, c9, A2, c2, rfl, rfl, by go_num, by omega, hdl, Lib.hid ⟨hv2.out, hlk2.out, hfo2.out, hcod.out, hprl.out, hws2.out, hds2.out, hwsl2.out⟩, Ma⟩
            case measure => simp [intOf]; omega
        · have hcan : k'.can x := by
            rcases hg with h1 | h1
            · exact absurd (h1.trans (hlk.out.clear.trans hz2'.out)) hxc
            · exact h1
          have hst : k'.step x = k'.after x := Kn.step_can hv'.out hcan
          have hds2 : Hid ((ds ++ k'.any x) ++ (k'.step x).data rest = k.data codes) := Lib.hid (by have := hds.out; rw [if_neg hxf, if_neg hxc] at this; rw [← this]; simp)
          have HWo := fun (W : World) (ho : k'.Own W (w.heap.size + 1) A' c') => implWordText k' A' c' W.heap.size x W hv'.out ho.at (Nat.le_refl _) hcan
          obtain ⟨L, hL⟩ : ∃ L, k'.any x = L := ⟨_, rfl⟩
          have hLn := (Kn.any_head hv'.out hcan).2
          rw [hL] at HWo hds2 hLn
          have hL0 : 0 < (bsL L).size := by rw [bsL_size]; cases L with | nil => exact absurd rfl hLn | cons a l => simp
          obtain ⟨y, hy⟩ : ∃ y, ((bsL L)[0]'hL0).toNat = y := ⟨_, rfl⟩
          have hyh : ((k'.any x).headD 0).toNat = y := by
            rw [hL, ← hy, bsL_at hL0 (by rw [bsL_size] at hL0; exact hL0)]
            cases L with | nil => exact absurd rfl hLn | cons a l => rfl
          have hy256 : y < 256 := by rw [← hy]; exact UInt8.toNat_lt _
          have HAd := fun (W : World) (ho : k'.Own W (w.heap.size + 1) A' c') (hW : w.heap.size + 1 ≤ W.heap.size) => implAdvance k' A' c' (w.heap.size + 1) x y W hv'.out ho hW hcan hyh
          simp only [← hst, hlk.out.val, hlk2.out.val] at HAd
          rw [hlk.out.val] at HWo
          replace HAd := Lib.hid HAd
          replace HWo := Lib.hid HWo
          have f1 : ((x : Int) == (z : Int)) = false := by rw [beq_eq_false_iff_ne]; omega
          have f2 : decide ((x : Int) = (z : Int)) = false := decide_eq_false (by omega)
          have f3 : (x == z) = false := by rw [beq_eq_false_iff_ne]; omega
          have f4 : decide (x = z) = false := decide_eq_false (by omega)
          have hLm : m + L.length ≤ 2000 := by
            have h1 := congrArg List.length hds2.out
            rw [List.length_append, List.length_append, hdl.out] at h1
            have := hd.out
            omega
          have hLs : (bsL L).size = L.length := rfl
          obtain ⟨k2, hk2⟩ : ∃ k2, k'.step x = k2 := ⟨_, rfl⟩
          rw [hk2] at HAd hv2 hlk2 hfo2 hws2 hds2
          have hmL : Hid ((ds ++ L).length = m + L.length) := Lib.hid (by rw [List.length_append, hdl.out])
          obtain ⟨T, hT⟩ : ∃ T, bsL L = T := ⟨_, rfl⟩
          obtain ⟨lL, hlL⟩ : ∃ l, L.length = l := ⟨_, rfl⟩
          have hTl : T.data.toList = L := by rw [← hT]
          have hlL' := Lib.hid hlL
          rw [hlL] at hLm hLs hmL
          simp only [hT] at hLs hL0 hy HWo
          have hL0i : (0 : Int) < T.size := by omega
          replace hTl := Lib.hid hTl
          have hml1 : decide ((2000 : Int) < m + lL) = false := decide_eq_false (by omega)
          have hml2 : decide (2000 < m + lL) = false := decide_eq_false (by omega)
          clear hds hst hk2 hg hxc hcan hL hLn hyh hlL
          go_wp2_with fail
          refine (HCan.out _).mono ?_
          rintro e w7 ⟨rfl, hb7⟩
          have M7 := Lib.hid (hM.out.below hb7)
          clear q0 q1 q2 q3 q4 q5 z0 z1 z2 z3 z4 z5 qx hb7
          obtain ⟨⟨q0, q1, q2, q3, q4, q5⟩, z0, z1, z2, z3, z4, z5⟩ := M7.out.box
          go_wp2_with fail
          refine (HWd.out _).mono ?_
          rintro e w8 ⟨rfl, hb8⟩
          have M8 := Lib.hid (M7.out.below hb8)
          have hs8 : w.heap.size + 1 ≤ w8.heap.size := M8.out.lt
          have own8 := M8.out.o1
          rw [hwsl.out] at own8
          clear q0 q1 q2 q3 q4 q5 z0 z1 z2 z3 z4 z5 hb8 M7
          go_wp2_with (first
            | (at_builtin; refine wpList_append_row _ elemInt rfl (.tmp 53) (.tmp 56) rfl (w.heap.size + 1) _ _ _ rfl (own8.alloc _) _ _ 1 1 [.int .i64 (wd : Int)] rfl (Row.newAt _ _ rfl _ [.int .i64 (wd : Int)] 1 1 rfl) ?_ ?_ ?_ ?_ ?_))
          · first | rfl | (intro z hz; simp at hz; subst hz; rfl)
          · unfold maxLen; omega
          · omega
          · first | omega | (simp; omega)
          · intro v9 w9 hv9 hg9 hat9
            obtain ⟨A9, c9, rfl, _, _⟩ := own_form hv9
            have M9 := Lib.hid (M8.out.pushW (y := wd) (by rw [hwsl.out]; exact hv9) hg9 (by simpa using hat9))
            obtain ⟨⟨q0, q1, q2, q3, q4, q5⟩, z0, z1, z2, z3, z4, z5⟩ := M9.out.box
            clear hv9 hg9 hat9 own8 M8
            have HW9 := Lib.hid (HWo.out w9 M9.out.kp)
            go_wp2_with fail
            refine HW9.out.mono ?_
            rintro e wa ⟨rfl, hba⟩
            have Ma := Lib.hid (M9.out.below hba)
            clear q0 q1 q2 q3 q4 q5 z0 z1 z2 z3 z4 z5 hba HW9
            have ownA := Ma.out.o2
            rw [hdl.out] at ownA
            have hsa : w.heap.size + 1 ≤ wa.heap.size := Ma.out.lt
            go_wp2_with (first
              | (at_builtin; refine wpList_append_str elemByte Tryz.underlying9 rfl (.tmp 68) (.tmp 69) rfl (w.heap.size + 1) _ _ _ rfl ownA T rfl (by omega) (by omega) ?_))
            intro vb wb hvb hgb hatb
            obtain ⟨Ab, cb, rfl, _, _⟩ := own_form hvb
            rw [hTl.out] at hvb
            have Mb := Lib.hid (Ma.out.pushD (bs := L) (n := lL) hlL'.out.symm (by rw [hdl.out]; exact hvb) hgb hatb)
            clear hvb hgb hatb ownA Ma
            obtain ⟨⟨q0, q1, q2, q3, q4, q5⟩, z0, z1, z2, z3, z4, z5⟩ := Mb.out.box
            go_upto_region 18 with (fail)
            refine wp_region_cls_tail 4 (by kernel_rfl) (by kernel_rfl) ?_
            have c0 := clsCell q0
            have c1 := clsCell q1
            have c2 := clsCell q2
            have c3 := clsCell q3
            have c4 := clsCell q4
            have c5 := clsCell q5
            simp only [List.take_succ_cons, List.take_zero]
            repeat (go_big_quiet_step (fail))
            refine wpQuiet_nil ?_
            rintro wc ⟨⟨wc, hB⟩, rfl⟩
            simp only [List.drop_succ_cons, List.drop_zero]
            have Mc := Lib.hid (Mb.out.below hB)
            clear c0 c1 c2 c3 c4 c5 q0 q1 q2 q3 q4 q5 z0 z1 z2 z3 z4 z5 hB Mb
            have hAd := Lib.hid (HAd.out wc Mc.out.kp Mc.out.lt)
            go_wp2_with fail
            refine hAd.out.mono ?_
            rintro e wd2 ⟨Ad, cd, rfl, hownd, hapd⟩
            have Md := Lib.hid (Mc.out.setK hownd hapd)
            have kbd := Mc.out.box.grown hapd.grow (fun e => by have := (World.ownsRow.lt Mc.out.kp _ e).1; omega)
            clear hownd hapd hAd
            obtain ⟨⟨q0, q1, q2, q3, q4, q5⟩, z0, z1, z2, z3, z4, z5⟩ := kbd
            unfold set6 at Md
            go_wp2_with fail
            go_roundw
            case rel => exact ⟨k2, Ad, cd, i + 1, m + lL, pre ++ [x], rest, ws ++ [wd], ds ++ L, A9, c9, Ab, cb, rfl, rfl, by go_num, by omega, hmL, Lib.hid ⟨hv2.out, hlk2.out, hfo2.out, hcod.out, hprl.out, hws2.out, hds2.out, hwsl2.out⟩, Md⟩
            case measure => simp [intOf]; omega
    · have hin2 : i = n := by omega
      have hxs : xs = [] := by
        have h1 := congrArg List.length hsp
        rw [hN.out, List.length_append, hpl] at h1
        exact List.eq_nil_of_length_eq_zero (by omega)
      subst hxs
      have hds2 : ds = k.data codes := by simpa [Kn.data] using hds
      have hws2 : ws = k.widths codes := by simpa [Kn.widths] using hws
      have ownD := hM.out.o2
      have ownW := Lib.hid hM.out.o1
      have hbl := Lib.hid hM.out.bel
      rw [hdl.out] at ownD
      have hcv := run_convert_own (n := m) elemByte Tryz.underlying5 Tryz.underlying9 ds (by rw [hdl.out]; exact ownD) hdl.out
      have hcv2 := fun j => run_convert_own (n := m) (w := wr.drewN j) elemByte Tryz.underlying5 Tryz.underlying9 ds (by rw [hdl.out]; exact own_drewN ownD j) hdl.out
      replace hds2 := Lib.hid hds2
      replace hws2 := Lib.hid hws2
      have hnin : ¬ (i : Int) < n := by omega
      replace hin2 := Lib.hid hin2
      clear hS hv' hlk hfo hsp hpl hws hds ownD hM
      go_wp2_with fail
      go_quiet (fail)
      go_wp2_with fail
      refine bodyPost_ret (v := .tuple #[.slice A1 i c1, .string (bsL ds), .bool true]) (by simp [results, Tryz.results128, go_sem]) rfl ?_
      refine ⟨A1, c1, by rw [hin2.out, ← hds2.out], ?_, below_drewN hbl.out _⟩
      have ow := ownW.out
      rw [hws2.out, hwl.out, hin2.out] at ow
      exact own_drewN (own_base ow (by omega)) _

end Go.Proofs.YthlgpgaeajfchaaGreatDoor
