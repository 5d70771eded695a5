/-
  append of a string's bytes onto bytes that are owned, and where the row lies behind it.
  The reference's l2Walk, for codes that can follow one after the other.
-/
import Derived.Test.YthlgpgaeajfchaaGreatDoorWordsA
import Derived.Test.YthlgpgaeajfchaaGreatDoorInts
import Derived.Lib.AppendStr
import Derived.Handy
import Derived.Test.YthlgpgaeajfchaaGreatDoorWordsG
import Derived.Test.YthlgpgaeajfchaaGreatDoorWordsC
import Derived.Deep.RegionHeld3
import Derived.Deep.RegionLaw

namespace Go.Proofs.YthlgpgaeajfchaaGreatDoor
open Go.RowKit
set_option linter.unusedVariables false

section
variable {P : Program} (w : World)

theorem run_append_str {t u ty e : TypeId} (el : Elem P t e (.int .u8 0) 1 1) (hu : P.underlying u = some .string) (base : Nat)
    (v : Value) (n : Nat) (xs : List Value) (hown : w.ownsRow base e 1 v n xs) (s : ByteArray) (h63 : n + s.size ≤ 1000000) (hbase : base ≤ w.heap.size) :
    ∃ v' w', (Builtin.append_ #[t, u] ty #[v, .string s]).run P w = .ok v' w' ∧ w'.ownsRow base e 1 v' (n + s.size) (xs ++ s.data.toList.map byteV) ∧ w.grownBy w' v.ownBlock ∧
      (v'.ownBlock = v.ownBlock ∨ v'.ownBlock = some w.heap.size) := by
  obtain ⟨i, hi, hz, hsize, hby⟩ := info_parts el.hinfo
  have hm : n + s.size ≤ maxLen := by unfold maxLen; omega
  obtain ⟨v', w', hr, h2, h3, _⟩ := Lib.run_append_own_string (P := P) w base t u ty e i el.ht hu hi hz hsize hby v n xs hown s hm (by omega) hbase
  refine ⟨v', w', hr, h2, h3, ?_⟩
  have hxl : xs.length = n := by simpa using hown.1
  rcases hown.2 with ⟨rfl, rfl⟩ | ⟨g, cap, cur, rfl, hbg, hg, hnc, hcm, hcs, htake⟩
  · by_cases h0 : s.size = 0
    · left
      have hf := Lib.run_firstCells_string (P := P) w 1 s
      rw [h0] at hf
      have hr2 : (Builtin.append_ #[t, u] ty #[.slice none 0 0, .string s]).run P w = .ok (.slice none 0 0) w := by
        simp [Builtin.append_, run_underlying el.ht, run_underlying hu, sizeOf, typeInfo, hi, hsize, Builtin.lenOf, h0, hf]
      rw [hr2] at hr
      injection hr with e1 e2
      rw [← e1]
    · right
      have hr2 := run_append_nil_string (P := P) w t u ty e i (.int .u8 0) el.ht hu hi hz s (by omega) (by omega) (by rw [hby]; omega)
      rw [hr2] at hr
      injection hr with e1 e2
      rw [← e1]
      rfl
  · by_cases hroom : n + s.size ≤ cap
    · left
      have hcs' : cur.size = cap := by simpa using hcs
      have hr2 := Lib.run_append_room_string (P := P) w t u ty e i el.ht hu hi hsize g n cap cur hg s hroom (by omega)
      rw [hr2] at hr
      injection hr with e1 e2
      rw [← e1]
      rfl
    · right
      have holds : ∀ j u, xs[j]? = some u → w.cell? ((⟨g, 0, none⟩ : Addr).add j) = some u := hown.cells (g := g) rfl
      have hr2 := Lib.run_append_grow_string (P := P) w t u ty e i (.int .u8 0) el.ht hu hi hz ⟨g, 0, none⟩ n cap xs (by rw [hsize]; simpa using hxl) holds s (by omega) (by omega) (by rw [hby]; exact growslice_fits (by omega) (by omega))
      rw [hr2] at hr
      injection hr with e1 e2
      rw [← e1]
      rfl

theorem wp_append_str {o : Oper} {a : Act} {K : Act → World → Prop} {Q : Exit → Act → World → Prop} {t u e : TypeId} (el : Elem P t e (.int .u8 0) 1 1) (hu : P.underlying u = some .string) (sl x : Operand)
    (ho : o.op = .call { callee := .builtin .append, args := #[sl, x], argTypes := #[t, u] }) (base : Nat)
    (v : Value) (n : Nat) (xs : List Value) (hs : a.eval sl = v) (hown : w.ownsRow base e 1 v n xs) (s : ByteArray) (hx : a.eval x = .string s) (h63 : n + s.size ≤ 1000000) (hbase : base ≤ w.heap.size)
    (h : ∀ v' w', w'.ownsRow base e 1 v' (n + s.size) (xs ++ s.data.toList.map byteV) → w.grownBy w' v.ownBlock → (v'.ownBlock = v.ownBlock ∨ v'.ownBlock = some w.heap.size) → K (a.put o.dst v') w') : o.wp P a w K Q := by
  obtain ⟨v', w', hrun, h2, h3, h4⟩ := run_append_str (P := P) w (ty := o.type) el hu base v n xs hown s h63 hbase
  unfold Oper.wp execOp
  simp only [ho, resolve, invoke, builtin, Sem.run_bind, Sem.run_pure, Result.andThen_ok, List.map_toArray, List.map_cons, List.map_nil, hs, hx, hrun]
  exact h v' w' h2 h3 h4

theorem step_append_str {ops : Array Oper} {o : Oper} {a : Act} {K : Act → World → Prop} {Q : Exit → Act → World → Prop} {E : Prop} {t u e : TypeId} (el : Elem P t e (.int .u8 0) 1 1) (hu : P.underlying u = some .string) (hgd : o.guard = none) (sl x : Operand)
    (ho : o.op = .call { callee := .builtin .append, args := #[sl, x], argTypes := #[t, u] }) (base : Nat)
    (v : Value) (n : Nat) (xs : List Value) (hs : a.eval sl = v) (hown : w.ownsRow base e 1 v n xs) (s : ByteArray) (hx : a.eval x = .string s) (h63 : n + s.size ≤ 1000000) (hbase : base ≤ w.heap.size)
    (h : ∀ v' w', w'.ownsRow base e 1 v' (n + s.size) (xs ++ s.data.toList.map byteV) → w.grownBy w' v.ownBlock → (v'.ownBlock = v.ownBlock ∨ v'.ownBlock = some w.heap.size) → K (a.put o.dst v') w') :
    if Region.wanted o (yielded ops a.tmps) = true then Oper.wp P o a w K Q else E := by
  have hw : Region.wanted o (yielded ops a.tmps) = true := by simp [Region.wanted, hgd]
  rw [if_pos hw]
  exact wp_append_str w el hu sl x ho base v n xs hs hown s hx h63 hbase h
end

end Go.Proofs.YthlgpgaeajfchaaGreatDoor

namespace Go.Proofs.YthlgpgaeajfchaaGreatDoor
open Go.RowKit
set_option linter.unusedVariables false

/-- The widths of codes. -/
def Kn.widths (k : Kn) : List Nat → List Nat
  | [] => []
  | x :: xs => k.width :: (if x = k.fin then [] else (k.step x).widths xs)

theorem Kn.Follow.widths_length {k : Kn} {xs : List Nat} (h : k.Follow xs) : k.Valid → (k.widths xs).length = xs.length := by
  induction h with
  | nil k => intro _; rfl
  | last k => intro _; simp [Kn.widths]
  | cons k x xs hg hf ih =>
    intro hv
    have hne : x ≠ k.fin := by
      rcases hg with h1 | h1
      · have := k.fin_eq; omega
      · exact Kn.can_ne_fin hv h1
    rw [Kn.widths, if_neg hne, List.length_cons, List.length_cons, ih (Kn.step_valid hv hg)]

theorem KB.drew {w : World} {H : Nat} {a b c d e f : Value} (h : KB w H a b c d e f) : KB w.drew H a b c d e f := ⟨h.c, h.f⟩

theorem kb_other {w : World} {H J : Nat} {a b c d e f : Value} (h : KB w H a b c d e f) (hne : H ≠ J) (a' b' c' d' e' f' : Value) : KB (set6 w J a' b' c' d' e' f') H a b c d e f := by
  obtain ⟨⟨c0, c1, c2, c3, c4, c5⟩, f0, f1, f2, f3, f4, f5⟩ := h
  have hc : ∀ (W : World) (j i : Nat) (u : Value), (W.setCell ⟨J, i, none⟩ u).cell? ⟨H, j, none⟩ = W.cell? ⟨H, j, none⟩ := fun W j i u => World.cell?_setCell_other _ _ _ _ (by intro e; injection e; omega)
  unfold set6
  refine ⟨?_, ?_⟩
  · simp only [hc]; exact ⟨c0, c1, c2, c3, c4, c5⟩
  · simp only [World.frozen?_setCell]; exact ⟨f0, f1, f2, f3, f4, f5⟩

/-- The memory of l2Walk's loop. -/
structure WkM (k : Kn) (w0 : World) (H : Nat) (k' : Kn) (A : Option Addr) (c : Nat) (ws : List Nat) (ds : List UInt8) (v1 v2 : Value) (w : World) : Prop where
  box : KB w H (.int .i64 (k.o : Int)) (.int .i64 (k.l : Int)) (.int .i64 (k.m : Int)) (.slice A k'.ps.length c) (.int .i64 (k.base : Int)) (.int .i64 k'.lastI)
  res : KB w (H + 1) (.int .i64 0) (.int .i64 0) (.int .i64 0) (.slice none 0 0) (.int .i64 0) (.int .i64 0)
  l1 : k'.Lies w A H v1
  l2 : k'.Lies w A H v2
  o1 : w.ownsRow (H + 2) 3 1 v1 ws.length (ws.map natV)
  o2 : w.ownsRow (H + 2) 5 1 v2 ds.length (ds.map byteV)
  ap : Apart v1 v2
  bel : Below H w0 w

section
variable {k : Kn} {w0 : World} {H : Nat} {k' : Kn} {A : Option Addr} {c : Nat} {ws : List Nat} {ds : List UInt8} {v1 v2 : Value} {w w' : World}

theorem WkM.lt (h : WkM k w0 H k' A c ws ds v1 v2 w) : H + 1 < w.heap.size := h.res.lt

theorem WkM.below (h : WkM k w0 H k' A c ws ds v1 v2 w) (hb : Below w.heap.size w w') : WkM k w0 H k' A c ws ds v1 v2 w' :=
  ⟨h.box.below hb, h.res.below hb, h.l1.below hb, h.l2.below hb, own_below h.o1 hb (Nat.le_refl _), own_below h.o2 hb (Nat.le_refl _), h.ap, h.bel.trans (hb.mono (by have := h.lt; omega))⟩

theorem WkM.pushW (h : WkM k w0 H k' A c ws ds v1 v2 w) {o : Obj} {v1' : Value} {y : Nat} (hv : w'.ownsRow (H + 2) 3 1 v1' (ws.length + 1) (ws.map natV ++ [natV y])) (hg : (w.alloc o).grownBy w' v1.ownBlock) (hat : v1'.ownBlock = v1.ownBlock ∨ v1'.ownBlock = some (w.heap.size + 1)) :
    WkM k w0 H k' A c (ws ++ [y]) ds v1' v2 w' := by
  have hlt := h.lt
  have hb : Below w.heap.size w (w.alloc o) := (Below.refl _ _).alloc (Nat.le_refl _) o
  have hog : ∀ g, v1.ownBlock = some g → H + 2 ≤ g := fun g hg => (h.o1.lt g hg).1
  have hat' : v1'.ownBlock = v1.ownBlock ∨ v1'.ownBlock = some (w.alloc o).heap.size := by rw [World.size_alloc]; exact hat
  refine ⟨(h.box.below hb).grown hg (fun e => by have := hog _ e; omega), (h.res.below hb).grown hg (fun e => by have := hog _ e; omega), (h.l1.below hb).grown hg hat', (h.l1.below hb).grownO hg (h.l2.below hb), ?_, ?_, ?_, ?_⟩
  · rw [List.length_append, List.map_append]; exact hv
  · exact (h.o2.alloc o).kept hg h.ap.kept
  · exact h.ap.step hat (fun g hg => by have := (h.o2.lt g hg).2; omega)
  · exact (h.bel.alloc (by omega) o).grown hg (by rw [World.size_alloc]; omega) (fun g hg => by have := hog _ hg; omega)

theorem WkM.pushD (h : WkM k w0 H k' A c ws ds v1 v2 w) {v2' : Value} {bs : List UInt8} {n : Nat} (hn : n = bs.length) (hv : w'.ownsRow (H + 2) 5 1 v2' (ds.length + n) (ds.map byteV ++ bs.map byteV)) (hg : w.grownBy w' v2.ownBlock) (hat : v2'.ownBlock = v2.ownBlock ∨ v2'.ownBlock = some w.heap.size) :
    WkM k w0 H k' A c ws (ds ++ bs) v1 v2' w' := by
  have hlt := h.lt
  have hog : ∀ g, v2.ownBlock = some g → H + 2 ≤ g := fun g hg => (h.o2.lt g hg).1
  refine ⟨h.box.grown hg (fun e => by have := hog _ e; omega), h.res.grown hg (fun e => by have := hog _ e; omega), h.l2.grownO hg h.l1, h.l2.grown hg hat, ?_, ?_, ?_, ?_⟩
  · exact h.o1.kept hg h.ap.symm.kept
  · rw [List.length_append, List.map_append, ← hn]; exact hv
  · exact (h.ap.symm.step hat (fun g hg => (h.o1.lt g hg).2)).symm
  · exact h.bel.grown hg (by omega) (fun g hg => by have := hog _ hg; omega)

theorem WkM.setK (h : WkM k w0 H k' A c ws ds v1 v2 w) {k2 : Kn} {A2 : Option Addr} {c2 : Nat} (hb : Below w.heap.size w w') (hown : k2.Own w' w.heap.size A2 c2) :
    WkM k w0 H k2 A2 c2 ws ds v1 v2 (set6 w' H (.int .i64 (k.o : Int)) (.int .i64 (k.l : Int)) (.int .i64 (k.m : Int)) (.slice A2 k2.ps.length c2) (.int .i64 (k.base : Int)) (.int .i64 k2.lastI)) := by
  have hlt := h.lt
  have h2 := h.below hb
  refine ⟨h2.box.set _ _ _ _ _ _, ?_, lies_set6 (Kn.Lies.of_own hown (by omega) (fun g hg => (h.o1.lt g hg).2)) _ _ _ _ _ _, lies_set6 (Kn.Lies.of_own hown (by omega) (fun g hg => (h.o2.lt g hg).2)) _ _ _ _ _ _, own_set6 h2.o1 (by omega) _ _ _ _ _ _, own_set6 h2.o2 (by omega) _ _ _ _ _ _, h2.ap, below_set6 h2.bel (Nat.le_refl _) _ _ _ _ _ _⟩
  obtain ⟨⟨c0, c1, c2, c3, c4, c5⟩, f0, f1, f2, f3, f4, f5⟩ := h2.res
  have hc : ∀ (W : World) (j i : Nat) (u : Value), (W.setCell ⟨H, i, none⟩ u).cell? ⟨H + 1, j, none⟩ = W.cell? ⟨H + 1, j, none⟩ := fun W j i u => World.cell?_setCell_other _ _ _ _ (by simp)
  unfold set6
  refine ⟨?_, ?_⟩
  · simp only [hc]; exact ⟨c0, c1, c2, c3, c4, c5⟩
  · simp only [World.frozen?_setCell]; exact ⟨f0, f1, f2, f3, f4, f5⟩

end

theorem Kn.Follow.head {k : Kn} {x : Nat} {xs : List Nat} (h : k.Follow (x :: xs)) (hv : k.Valid) : (x = k.fin ∧ xs = []) ∨ (x ≠ k.fin ∧ k.goes x ∧ (k.step x).Follow xs) := by
  cases h with
  | last => exact Or.inl ⟨rfl, rfl⟩
  | cons =>
    rename_i hg hf
    refine Or.inr ⟨?_, hg, hf⟩
    rcases hg with h1 | h1
    · have := k.fin_eq; omega
    · exact Kn.can_ne_fin hv h1

theorem Kn.Like.like_fin {k k' : Kn} (h : k.Like k') : k'.fin = k.fin := h.fin

theorem Kn.val_eq' (k : Kn) (A : Option Addr) (c : Nat) : k.val A c = .agg #[.int .i64 (k.o : Int), .int .i64 (k.l : Int), .int .i64 (k.m : Int), .slice A k.ps.length c, .int .i64 (k.base : Int), .int .i64 k.lastI] := rfl

/-- What l2Walk hands back. -/
structure WkR (k : Kn) (codes : List Nat) (w : World) (e : Ending) (w' : World) : Prop where
  ex : ∃ (Ak : Option Addr) (nk ck : Nat) (qk : Int) (A' : Option Addr) (c' : Nat), e = .returned (.tuple #[.agg #[.int .i64 (k.o : Int), .int .i64 (k.l : Int), .int .i64 (k.m : Int), .slice Ak nk ck, .int .i64 (k.base : Int), .int .i64 qk], .slice A' codes.length c', .string (bsL (k.data codes)), .bool true]) ∧ w'.ownsRow w.heap.size 3 1 (.slice A' codes.length c') codes.length ((k.widths codes).map natV) ∧ Below w.heap.size w w'

set_option maxHeartbeats 8000000 in
set_option maxRecDepth 100000 in
theorem specL2Walk (k : Kn) (A : Option Addr) (c B : Nat) (codes : List Nat) (Ac : Option Addr) (cc : Nat) (w : World) (h : k.Valid) (hA : k.At w B A) (hB : B ≤ w.heap.size) (hc : k.ps.length ≤ c) (hF : k.Follow codes)
    (hrow : Row w B 1 Ac codes.length (codes.map natV)) (hn : codes.length ≤ 100000) (hd : (k.data codes).length ≤ 2000) :
    Calls Tryz.prog 174 #[k.val A c, .slice Ac codes.length cc] w fun e w' => WkR k codes w e w' := by
  have hpw := h.pow
  have hl8 := h.lit8
  have HC := fun W => specL1Clear k.o k.l k.m W (by omega)
  unfold setV at HC
  have hcl : 2 ^ k.l = k.clear := rfl
  rw [hcl] at HC
  have HE := fun W => specL1End k.o k.l k.m W (by omega)
  have hfe : 2 ^ k.l + 1 = k.fin := rfl
  rw [hfe] at HE
  have hwl := hF.widths_length h
  obtain ⟨n, hnn⟩ : ∃ n, codes.length = n := ⟨_, rfl⟩
  rw [hnn] at hrow hn hwl
  replace HC := Lib.hid HC
  replace HE := Lib.hid HE
  replace hrow := Lib.hid hrow
  replace hwl := Lib.hid hwl
  replace hd := Lib.hid hd
  have hN := Lib.hid hnn
  have hA' : k.At (((w.alloc (.cells #[.int .i64 (k.o : Int), .int .i64 (k.l : Int), .int .i64 (k.m : Int), .slice A k.ps.length c, .int .i64 (k.base : Int), .int .i64 k.lastI] 48)).alloc (.cells #[.int .i64 0, .int .i64 0, .int .i64 0, .slice none 0 0, .int .i64 0, .int .i64 0] 48)).alloc (.cells #[] 3) |>.alloc (.cells #[] 5)) B A :=
    hA.below ((((Below.refl _ _).alloc (Nat.le_refl _) _).alloc (by simp) _).alloc (by simp; omega) _ |>.alloc (by simp; omega) _) hB
  have M0 : Hid (WkM k w w.heap.size k A c [] [] (.slice (some ⟨w.heap.size + 1 + 1, 0, none⟩) 0 0) (.slice (some ⟨w.heap.size + 1 + 1 + 1, 0, none⟩) 0 0) (((w.alloc (.cells #[.int .i64 (k.o : Int), .int .i64 (k.l : Int), .int .i64 (k.m : Int), .slice A k.ps.length c, .int .i64 (k.base : Int), .int .i64 k.lastI] 48)).alloc (.cells #[.int .i64 0, .int .i64 0, .int .i64 0, .slice none 0 0, .int .i64 0, .int .i64 0] 48)).alloc (.cells #[] 3) |>.alloc (.cells #[] 5))) := by
    refine Lib.hid ⟨(((KB.start w _ _ _ _ _ _ _).alloc _).alloc _).alloc _, ?_, ?_, ?_, ?_, ?_, ?_, ?_⟩
    · have g := ((KB.start (w.alloc (.cells #[.int .i64 (k.o : Int), .int .i64 (k.l : Int), .int .i64 (k.m : Int), .slice A k.ps.length c, .int .i64 (k.base : Int), .int .i64 k.lastI] 48)) 48 (.int .i64 0) (.int .i64 0) (.int .i64 0) (.slice none 0 0) (.int .i64 0) (.int .i64 0)).alloc (.cells #[] 3)).alloc (.cells #[] 5)
      rw [World.size_alloc] at g
      exact g
    · exact Kn.Lies.of_at hA' (by simp; omega) hB (fun g hg => by simp [Value.ownBlock] at hg; omega)
    · exact Kn.Lies.of_at hA' (by simp; omega) hB (fun g hg => by simp [Value.ownBlock] at hg; omega)
    · exact (own_empty _ (w.heap.size + 1 + 1) (by simp) (w.heap.size + 2) (by omega) _ _).alloc _
    · exact own_empty _ (w.heap.size + 1 + 1 + 1) (by simp) (w.heap.size + 2) (by omega) _ _
    · intro g hg hv
      simp [Value.ownBlock] at hg hv
      omega
    · exact (((Below.refl _ _).alloc (Nat.le_refl _) _).alloc (by simp) _).alloc (by simp; omega) _ |>.alloc (by simp; omega) _
  replace h := Lib.hid h
  have hF' := Lib.hid hF
  rw [Kn.val_eq']
  clear hl8 hcl hfe hA hA' hF hnn
  rw [hN.out]
  go_enter Tryz.func174, Tryz.ntmps174
  go_wp2_with fail
  go_loopw [8, 9, 10] (fun u v j wr => ∃ (k' : Kn) (A' : Option Addr) (c' : Nat) (i : Nat) (pre xs ws : List Nat) (ds : List UInt8) (A1 : Option Addr) (c1 : Nat) (A2 : Option Addr) (c2 : Nat), u = .slice A1 i c1 ∧ v = .slice A2 ds.length c2 ∧ j = .int .i64 (i : Int) ∧ i ≤ n ∧ Hid (k'.Valid ∧ k.Like k' ∧ k'.Follow xs ∧ codes = pre ++ xs ∧ pre.length = i ∧ ws ++ k'.widths xs = k.widths codes ∧ ds ++ k'.data xs = k.data codes ∧ ws.length = i ∧ k'.ps.length ≤ c') ∧ Hid (WkM k w w.heap.size k' A' c' ws ds u v wr)) (fun _ _ j _ => n - (intOf j).toNat)
  case atStart => exact ⟨k, A, c, 0, [], codes, [], [], _, _, _, _, rfl, rfl, rfl, Nat.zero_le _, Lib.hid ⟨h.out, Kn.Like.refl k, hF'.out, rfl, rfl, rfl, rfl, rfl, hc⟩, M0⟩
  case round =>
    clear M0
    obtain ⟨k', A', c', i, pre, xs, ws, ds, A1, c1, A2, c2, rfl, rfl, rfl, hin, hS, hM⟩ := hrel
    obtain ⟨hv', hlk, hfo, hsp, hpl, hws, hds, hwsl, hcap⟩ := hS.out
    have HWd := fun W => specL2Width k' A' c' W hv'
    rw [hlk.val] at HWd
    replace HWd := Lib.hid HWd
    by_cases hin' : (i : Int) < n
    · obtain ⟨x, rest, rfl⟩ : ∃ x rest, xs = x :: rest := by
        cases xs with
        | nil =>
          exfalso
          have h1 := congrArg List.length hsp
          rw [hN.out, List.append_nil, hpl] at h1
          omega
        | cons x rest => exact ⟨x, rest, rfl⟩
      have hx : codes[i]? = some x := by rw [hsp, ← hpl]; simp
      have hri := hrow.out
      obtain ⟨bc, off, rfl, hbB, hcells⟩ := hri.2 (by omega)
      have hcx : w.cell? ⟨bc, off + i, none⟩ = some (.int .i64 (x : Int)) := hcells i _ (by rw [List.getElem?_map, hx]; rfl)
      have hhead := hfo.head hv'
      have hwdt : k'.widths (x :: rest) = k'.width :: (if x = k'.fin then [] else (k'.step x).widths rest) := rfl
      have hdat : k'.data (x :: rest) = if x = k'.fin then [] else (if x = k'.clear then [] else k'.any x) ++ (k'.step x).data rest := rfl
      rw [hwdt] at hws
      rw [hdat] at hds
      rw [hlk.fin] at hws hds hhead
      rw [hlk.clear] at hds
      obtain ⟨wd, hwd⟩ : ∃ z, k'.width = z := ⟨_, rfl⟩
      have hwdb := Kn.width_le hv'
      have hmb := hv'.most10
      have wdb : wd ≤ 10 := by omega
      rw [hwd] at HWd hws
      replace hv' := Lib.hid hv'
      replace hlk := Lib.hid hlk
      replace hsp := Lib.hid hsp
      replace hpl := Lib.hid hpl
      replace hws := Lib.hid hws
      replace hds := Lib.hid hds
      replace hwsl := Lib.hid hwsl
      replace hcap := Lib.hid hcap
      replace hhead := Lib.hid hhead
      replace hcx := Lib.hid hcx
      have i0 : (0 : Int) ≤ i := by omega
      have hsz := hM.out.lt
      clear hS hfo hx hri hcells hwdt hdat hwdb hmb
      obtain ⟨⟨q0, q1, q2, q3, q4, q5⟩, z0, z1, z2, z3, z4, z5⟩ := hM.out.box
      go_wp2_with fail
      refine (HWd.out _).mono ?_
      rintro e w4 ⟨rfl, hb4⟩
      have M4 := Lib.hid (hM.out.below hb4)
      have hsz4 := M4.out.lt
      have own4 := M4.out.o1
      rw [hwsl.out] at own4
      clear q0 q1 q2 q3 q4 q5 z0 z1 z2 z3 z4 z5 hb4 hM
      go_wp2_with (first
        | (at_builtin; refine wpList_append_row _ elemInt rfl (.tmp 19) (.tmp 22) rfl (w.heap.size + 2) _ _ _ rfl (own4.alloc _) _ _ 1 1 [natV wd] rfl (Row.newAt _ _ rfl _ [natV wd] 1 1 rfl) ?_ ?_ ?_ ?_ ?_))
      · intro z hz; simp at hz; subst hz; rfl
      · unfold maxLen; omega
      · omega
      · simp; omega
      · intro v5 w5 hv5 hg5 hat5
        obtain ⟨A5, c5, rfl, _, _⟩ := own_form hv5
        have M5 := Lib.hid (M4.out.pushW (y := wd) (by rw [hwsl.out]; exact hv5) hg5 hat5)
        have hsz5 := M5.out.lt
        have qx := (M5.out.bel.cell (p := ⟨bc, off + i, none⟩) (by show bc < _; omega)).trans hcx.out
        obtain ⟨⟨q0, q1, q2, q3, q4, q5⟩, z0, z1, z2, z3, z4, z5⟩ := M5.out.box
        clear hv5 hg5 hat5 M4 own4
        rcases hhead.out with ⟨hxf, hr0⟩ | ⟨hxf, hg, hfo⟩
        · subst hxf hr0
          go_wp2_with fail
          refine wp_region_cls (by kernel_rfl) (by kernel_rfl) ?_
          have cc0 := clsCell q0
          have cc1 := clsCell q1
          have cc2 := clsCell q2
          have cc6 := clsCell qx
          repeat (go_big_quiet_step (first | (go_at_call 156; exact clsCall (HE.out _))))
          refine wpQuiet_nil ?_
          rintro w6 ⟨⟨w6, hB⟩, rfl⟩
          have M6 := Lib.hid (M5.out.below hB)
          have hsz6 := M6.out.lt
          clear q0 q1 q2 q3 q4 q5 z0 z1 z2 z3 z4 z5 qx hB M5
          obtain ⟨⟨q0, q1, q2, q3, q4, q5⟩, z0, z1, z2, z3, z4, z5⟩ := M6.out.box
          obtain ⟨⟨r0, r1, r2, r3, r4, r5⟩, y0, y1, y2, y3, y4, y5⟩ := M6.out.res
          have hni : n = i + 1 := by
            have h1 := congrArg List.length hsp.out
            rw [hN.out, List.length_append, hpl.out] at h1
            simpa using h1
          have en : (n : Int) - 1 = (i : Int) := by omega
          have wi : IntKind.i64.wrap (i : Int) = i := IntWalk.i64_in _ (by omega)
          have hds2 : ds = k.data codes := by simpa using hds.out
          have hws2 : ws ++ [wd] = k.widths codes := by simpa using hws.out
          have hdl := hd.out
          rw [← hds2] at hdl
          have hcv1 := run_convert_own (n := ds.length) (w := w6.drew) elemByte Tryz.underlying5 Tryz.underlying9 ds (World.ownsRow.drew M6.out.o2) rfl
          have own8 := fun (a b c d e f : Value) => World.ownsRow.drew (own_set6 (H := w.heap.size + 1) M6.out.o2 (by omega) a b c d e f)
          have hcv2 := fun (a b c d e f : Value) => run_convert_own (n := ds.length) elemByte Tryz.underlying5 Tryz.underlying9 ds (own8 a b c d e f) rfl
          have own9 := Lib.hid (fun (a b c d e f : Value) => World.ownsRow.drew (own_set6 (H := w.heap.size + 1) M6.out.o1 (by omega) a b c d e f))
          have bel9 := Lib.hid (fun (a b c d e f : Value) => (below_set6 (H := w.heap.size + 1) M6.out.bel (by omega) a b c d e f).drew)
          have S1 := M6.out.box.drew.c
          have S2 := fun (a b c d e f : Value) => (kb_other (J := w.heap.size + 1) M6.out.box (by omega) a b c d e f).drew.c
          have S3 := fun (a b c d e f : Value) => And.intro (S2 a b c d e f) (hcv2 a b c d e f)
          unfold set6 at S3
          replace S3 := Lib.hid S3
          replace S1 := Lib.hid (And.intro S1 hcv1)
          replace hds2 := Lib.hid hds2
          replace hws2 := Lib.hid hws2
          replace hni := Lib.hid hni
          replace hdl := Lib.hid hdl
          clear own8 hcv2 hcv1 S2 hhead
          go_wp2_with fail
          go_region_held3 (fun w' => (w'.cell? ⟨w.heap.size, 0, none⟩ = some (.int .i64 (k.o : Int)) ∧ w'.cell? ⟨w.heap.size, 1, none⟩ = some (.int .i64 (k.l : Int)) ∧ w'.cell? ⟨w.heap.size, 2, none⟩ = some (.int .i64 (k.m : Int)) ∧ w'.cell? ⟨w.heap.size, 3, none⟩ = some (.slice A' k'.ps.length c') ∧ w'.cell? ⟨w.heap.size, 4, none⟩ = some (.int .i64 (k.base : Int)) ∧ w'.cell? ⟨w.heap.size, 5, none⟩ = some (.int .i64 k'.lastI)) ∧ (convert 22 9 (.slice A2 ds.length c2)).run Tryz.prog w' = .ok (.string (bsL ds)) w') (first | with_reducible exact S1.out | with_reducible exact S3.out _ _ _ _ _ _) (fail)
          go_wp2_with fail
          refine bodyPost_ret (v := .tuple #[.agg #[.int .i64 (k.o : Int), .int .i64 (k.l : Int), .int .i64 (k.m : Int), .slice A' k'.ps.length c', .int .i64 (k.base : Int), .int .i64 k'.lastI], .slice A5 (i + 1) c5, .string (bsL ds), .bool true]) (by simp [results, Tryz.results174, go_sem, r0, r1, r2, r3, r4, r5]) rfl ?_
          have hol := own9.out (.int .i64 (k.o : Int)) (.int .i64 (k.l : Int)) (.int .i64 (k.m : Int)) (.slice A' k'.ps.length c') (.int .i64 (k.base : Int)) (.int .i64 k'.lastI)
          rw [hws2.out, hwl.out, hni.out] at hol
          refine ⟨_, _, _, _, A5, c5, by rw [hN.out, ← hds2.out, hni.out], ?_, bel9.out _ _ _ _ _ _⟩
          rw [hN.out, hni.out]
          exact own_base hol (by omega)
        · have hxi : ((x : Int) == (k.fin : Int)) = false := by rw [beq_eq_false_iff_ne]; omega
          replace hg := Lib.hid hg
          replace hfo := Lib.hid hfo
          go_wp2_with fail
          refine wp_region_cls (by kernel_rfl) (by kernel_rfl) ?_
          have cc0 := clsCell q0
          have cc1 := clsCell q1
          have cc2 := clsCell q2
          have cc6 := clsCell qx
          repeat (go_big_quiet_step (first | (go_at_call 156; exact clsCall (HE.out _))))
          refine wpQuiet_nil ?_
          rintro w6 ⟨⟨w6, hB⟩, rfl⟩
          have M6 := Lib.hid (M5.out.below hB)
          have hsz6 := M6.out.lt
          clear q0 q1 q2 q3 q4 q5 z0 z1 z2 z3 z4 z5 qx hB M5
          have qx := (M6.out.bel.cell (p := ⟨bc, off + i, none⟩) (by show bc < _; omega)).trans hcx.out
          obtain ⟨⟨q0, q1, q2, q3, q4, q5⟩, z0, z1, z2, z3, z4, z5⟩ := M6.out.box
          have hdl0 := congrArg List.length hds.out
          rw [List.length_append] at hdl0
          have hdl1 := hd.out
          have hdl : (ds.length : Int) ≤ 2000 := by omega
          have hcod : codes = (pre ++ [x]) ++ rest := by rw [hsp.out]; simp
          have hprl : (pre ++ [x]).length = i + 1 := by rw [List.length_append, hpl.out]; rfl
          have hwid : (ws ++ [wd]) ++ (k'.step x).widths rest = k.widths codes := by
            have := hws.out
            rw [if_neg hxf] at this
            rw [← this]; simp
          have hdat := hds.out
          rw [if_neg hxf] at hdat
          replace hcod := Lib.hid hcod
          replace hwid := Lib.hid hwid
          replace hdat := Lib.hid hdat
          clear hdl0 hdl1 hds hws
          go_wp2_with fail
          by_cases hxc : x = k.clear
          · have hxi2 : ((x : Int) != (k.clear : Int)) = false := by rw [bne_eq_false_iff_eq]; omega
            have hsem : Hid ((k'.step x).Follow rest ∧ codes = (pre ++ [x]) ++ rest ∧ (pre ++ [x]).length = i + 1 ∧ (ws ++ [wd]) ++ (k'.step x).widths rest = k.widths codes ∧ ds ++ (k'.step x).data rest = k.data codes) := Lib.hid ⟨hfo.out, hcod.out, hprl, hwid.out, by rw [← hdat.out, if_pos hxc]; rfl⟩
            clear hprl hcod hwid hdat hfo hxc
            refine wp_region_cls (by kernel_rfl) (by kernel_rfl) ?_
            have cc0 := clsCell q0
            have cc1 := clsCell q1
            have cc2 := clsCell q2
            have cc6 := clsCell qx
            repeat (go_big_quiet_step (first | (go_at_call 62; exact clsCall (HC.out _))))
            refine wpQuiet_nil ?_
            rintro w7 ⟨⟨w7, hB⟩, rfl⟩
            have M7 := Lib.hid (M6.out.below hB)
            have hsz7 := M7.out.lt
            clear q0 q1 q2 q3 q4 q5 z0 z1 z2 z3 z4 z5 qx hB M6
            have qx := (M7.out.bel.cell (p := ⟨bc, off + i, none⟩) (by show bc < _; omega)).trans hcx.out
            obtain ⟨⟨q0, q1, q2, q3, q4, q5⟩, z0, z1, z2, z3, z4, z5⟩ := M7.out.box
            go_wp2_with fail
            have hlk2 := hlk.out.trans (k'.like_step x)
            have hgs2 := hg.out
            have H13 := specL2Step k' A' c' w7.heap.size x w7.drew hv'.out M7.out.l1.row (Nat.le_refl _) hcap.out hg.out
            rw [hlk.out.val] at H13
            have Md := M7.out.below ((Below.refl _ _).drew)
            replace H13 := Lib.hid H13
            replace Md := Lib.hid Md
            have hlk2h := Lib.hid hlk2
            have hv2 := Lib.hid (Kn.step_valid hv'.out hg.out)
            obtain ⟨k2, hk2⟩ : ∃ k2, k'.step x = k2 := ⟨_, rfl⟩
            rw [hk2] at hlk2h hlk2 hv2 H13 hsem
            clear hgs2
            go_region_with (first | (go_at_call 184; refine H13.out.mono ?_; rintro e w8 ⟨A8, c8, rfl, hown8, hb8⟩; rw [hlk2.val]; have hcap8 := Lib.hid hown8.cap; have M8 := Lib.hid (Md.out.setK hb8 hown8); have kb8 := (Md.out.below hb8).box; obtain ⟨⟨p0, p1, p2, p3, p4, p5⟩, y0, y1, y2, y3, y4, y5⟩ := kb8; clear hown8 hb8))
            all_goals (go_wp2_with fail)
            all_goals go_roundw
            all_goals (try (case measure => simp [intOf]; omega))
            all_goals exact ⟨k2, A8, c8, i + 1, pre ++ [x], rest, ws ++ [wd], ds, A5, c5, A2, c2, rfl, rfl, by go_num, by omega, Lib.hid ⟨hv2.out, hlk2h.out, hsem.out.1, hsem.out.2.1, hsem.out.2.2.1, hsem.out.2.2.2.1, hsem.out.2.2.2.2, by rw [List.length_append, hwsl.out]; rfl, hcap8.out⟩, M8⟩
          · have hxi2 : ((x : Int) != (k.clear : Int)) = true := by rw [bne_iff_ne]; omega
            have hcan : Hid (k'.can x) := Lib.hid (by
              rcases hg.out with h1 | h1
              · exact absurd (h1.trans hlk.out.clear) hxc
              · exact h1)
            have hsem : Hid ((k'.step x).Follow rest ∧ codes = (pre ++ [x]) ++ rest ∧ (pre ++ [x]).length = i + 1 ∧ (ws ++ [wd]) ++ (k'.step x).widths rest = k.widths codes ∧ (ds ++ k'.any x) ++ (k'.step x).data rest = k.data codes) := Lib.hid ⟨hfo.out, hcod.out, hprl, hwid.out, by rw [← hdat.out, if_neg hxc]; simp⟩
            have HFo := fun W => specL2Follows k' A' c' x true W hv'.out ⟨fun _ => hcan.out, fun _ => rfl⟩
            rw [hlk.out.val] at HFo
            replace HFo := Lib.hid HFo
            clear hprl hcod hwid hdat hfo hxc
            refine wp_region_cls (by kernel_rfl) (by kernel_rfl) ?_
            have cc0 := clsCell q0
            have cc1 := clsCell q1
            have cc2 := clsCell q2
            have cc6 := clsCell qx
            repeat (go_big_quiet_step (first | (go_at_call 62; exact clsCall (HC.out _))))
            refine wpQuiet_nil ?_
            rintro w7 ⟨⟨w7, hB⟩, rfl⟩
            have M7 := Lib.hid (M6.out.below hB)
            have hsz7 := M7.out.lt
            clear q0 q1 q2 q3 q4 q5 z0 z1 z2 z3 z4 z5 qx hB M6
            have qx := (M7.out.bel.cell (p := ⟨bc, off + i, none⟩) (by show bc < _; omega)).trans hcx.out
            obtain ⟨⟨q0, q1, q2, q3, q4, q5⟩, z0, z1, z2, z3, z4, z5⟩ := M7.out.box
            go_wp2_with fail
            refine wp_region_cls (by kernel_rfl) (by kernel_rfl) ?_
            have cc0 := clsCell q0
            have cc1 := clsCell q1
            have cc2 := clsCell q2
            have cc3 := clsCell q3
            have cc4 := clsCell q4
            have cc5 := clsCell q5
            have cc6 := clsCell qx
            repeat (go_big_quiet_step (first | (go_at_call 183; exact clsCall (HFo.out _))))
            refine wpQuiet_nil ?_
            rintro w8 ⟨⟨w8, hB⟩, rfl⟩
            have M8 := Lib.hid (M7.out.below hB)
            have hsz8 := M8.out.lt
            clear q0 q1 q2 q3 q4 q5 z0 z1 z2 z3 z4 z5 qx hB M7
            have qx := (M8.out.bel.cell (p := ⟨bc, off + i, none⟩) (by show bc < _; omega)).trans hcx.out
            obtain ⟨⟨q0, q1, q2, q3, q4, q5⟩, z0, z1, z2, z3, z4, z5⟩ := M8.out.box
            have HY := specL2Any k' A' c' w8.heap.size x w8.drew hv'.out M8.out.l1.row (Nat.le_refl _) hcan.out
            rw [hlk.out.val] at HY
            replace HY := Lib.hid HY
            have hale := k'.any_le x
            have hroom := hv'.out.room
            have hpow := hv'.out.pow
            obtain ⟨L, hL⟩ : ∃ L, k'.any x = L := ⟨_, rfl⟩
            rw [hL] at HY hale hsem
            have hLb : Hid (L.length ≤ 1026) := Lib.hid (by omega)
            clear hale hroom hpow hL hxi2 HFo
            have Sx : Hid ((w8.drew.cell? ⟨w.heap.size, 0, none⟩ = some (.int .i64 (k.o : Int)) ∧ w8.drew.cell? ⟨w.heap.size, 1, none⟩ = some (.int .i64 (k.l : Int)) ∧ w8.drew.cell? ⟨w.heap.size, 2, none⟩ = some (.int .i64 (k.m : Int)) ∧ w8.drew.cell? ⟨w.heap.size, 3, none⟩ = some (.slice A' k'.ps.length c') ∧ w8.drew.cell? ⟨w.heap.size, 4, none⟩ = some (.int .i64 (k.base : Int)) ∧ w8.drew.cell? ⟨w.heap.size, 5, none⟩ = some (.int .i64 k'.lastI)) ∧ w8.drew.cell? ⟨bc, off + i, none⟩ = some (.int .i64 (x : Int))) := Lib.hid ⟨M8.out.box.drew.c, qx⟩
            clear q0 q1 q2 q3 q4 q5 z0 z1 z2 z3 z4 z5 qx
            go_wp2_with fail
            go_region_held3 (fun w' => (w'.cell? ⟨w.heap.size, 0, none⟩ = some (.int .i64 (k.o : Int)) ∧ w'.cell? ⟨w.heap.size, 1, none⟩ = some (.int .i64 (k.l : Int)) ∧ w'.cell? ⟨w.heap.size, 2, none⟩ = some (.int .i64 (k.m : Int)) ∧ w'.cell? ⟨w.heap.size, 3, none⟩ = some (.slice A' k'.ps.length c') ∧ w'.cell? ⟨w.heap.size, 4, none⟩ = some (.int .i64 (k.base : Int)) ∧ w'.cell? ⟨w.heap.size, 5, none⟩ = some (.int .i64 k'.lastI)) ∧ w'.cell? ⟨bc, off + i, none⟩ = some (.int .i64 (x : Int))) (first | with_reducible exact Sx.out | with_reducible exact S9.out | with_reducible exact SA.out) (first | (go_at_call 179; refine HY.out.mono ?_; rintro e w9 ⟨rfl, hb9⟩; have M9 := Lib.hid ((M8.out.below (Below.refl _ _).drew).below hb9); have S9 := Lib.hid (And.intro M9.out.box.c ((M9.out.bel.cell (p := ⟨bc, off + i, none⟩) (by show bc < _; omega)).trans hcx.out)); clear hb9) | (refine step_append_str _ elemByte Tryz.underlying9 (by rfl) (.tmp 63) (.tmp 69) (by rfl) (w.heap.size + 2) _ _ _ (by rfl) M9.out.o2 (bsL L) (by rfl) (by have := hLb.out; rw [bsL_size]; omega) (by have := M9.out.lt; omega) ?_; intro vA wA hvA hgA hatA; obtain ⟨A6, c6, rfl, _, _⟩ := own_form hvA; have MA := Lib.hid (M9.out.pushD (bs := L) (n := (bsL L).size) rfl (by simpa using hvA) hgA hatA); have SA := Lib.hid (And.intro MA.out.box.c ((MA.out.bel.cell (p := ⟨bc, off + i, none⟩) (by show bc < _; omega)).trans hcx.out)); clear hvA hgA hatA))
            have hszA := MA.out.lt
            obtain ⟨⟨q0, q1, q2, q3, q4, q5⟩, qx⟩ := SA.out
            have hDL : (Value.slice A6 (ds.length + (bsL L).size) c6) = .slice A6 (ds ++ L).length c6 := by rw [List.length_append]; rfl
            clear S9 M9 M8 HY Sx hcan
            go_wp2_with fail
            have hlk2 := hlk.out.trans (k'.like_step x)
            have hgs2 := hg.out
            have H13 := specL2Step k' A' c' wA.heap.size x wA.drew hv'.out MA.out.l1.row (Nat.le_refl _) hcap.out hg.out
            rw [hlk.out.val] at H13
            have Md := MA.out.below ((Below.refl _ _).drew)
            replace H13 := Lib.hid H13
            replace Md := Lib.hid Md
            have hlk2h := Lib.hid hlk2
            have hv2 := Lib.hid (Kn.step_valid hv'.out hg.out)
            obtain ⟨k2, hk2⟩ : ∃ k2, k'.step x = k2 := ⟨_, rfl⟩
            rw [hk2] at hlk2h hlk2 hv2 H13 hsem
            clear hgs2
            go_region_with (first | (go_at_call 184; refine H13.out.mono ?_; rintro e w8 ⟨A8, c8, rfl, hown8, hb8⟩; rw [hlk2.val]; have hcap8 := Lib.hid hown8.cap; have M8 := Lib.hid (Md.out.setK hb8 hown8); have kb8 := (Md.out.below hb8).box; obtain ⟨⟨p0, p1, p2, p3, p4, p5⟩, y0, y1, y2, y3, y4, y5⟩ := kb8; clear hown8 hb8))
            all_goals (go_wp2_with fail)
            all_goals go_roundw
            all_goals (try (case measure => simp [intOf]; omega))
            all_goals exact ⟨k2, A8, c8, i + 1, pre ++ [x], rest, ws ++ [wd], ds ++ L, A5, c5, A6, c6, rfl, hDL, by go_num, by omega, Lib.hid ⟨hv2.out, hlk2h.out, hsem.out.1, hsem.out.2.1, hsem.out.2.2.1, hsem.out.2.2.2.1, hsem.out.2.2.2.2, by rw [List.length_append, hwsl.out]; rfl, hcap8.out⟩, M8⟩
    · have hin2 : i = n := by omega
      have hxs : xs = [] := by
        have h1 := congrArg List.length hsp
        rw [hN.out, List.length_append, hpl] at h1
        exact List.eq_nil_of_length_eq_zero (by omega)
      subst hxs
      have hds2 : ds = k.data codes := by simpa [Kn.data] using hds
      have hws2 : ws = k.widths codes := by simpa [Kn.widths] using hws
      have hdl : ds.length ≤ 2000 := by rw [hds2]; exact hd.out
      have hdl2 : (ds.length : Int) ≤ 2000 := by omega
      have hsz6 := hM.out.lt
      obtain ⟨⟨q0, q1, q2, q3, q4, q5⟩, z0, z1, z2, z3, z4, z5⟩ := hM.out.box
      obtain ⟨⟨r0, r1, r2, r3, r4, r5⟩, y0, y1, y2, y3, y4, y5⟩ := hM.out.res
      have hcv1 := run_convert_own (n := ds.length) (w := wr.drew) elemByte Tryz.underlying5 Tryz.underlying9 ds (World.ownsRow.drew hM.out.o2) rfl
      have own8 := fun (a b c d e f : Value) => World.ownsRow.drew (own_set6 (H := w.heap.size + 1) hM.out.o2 (by omega) a b c d e f)
      have hcv2 := fun (a b c d e f : Value) => run_convert_own (n := ds.length) elemByte Tryz.underlying5 Tryz.underlying9 ds (own8 a b c d e f) rfl
      have own9 := Lib.hid (fun (a b c d e f : Value) => World.ownsRow.drew (own_set6 (H := w.heap.size + 1) hM.out.o1 (by omega) a b c d e f))
      have bel9 := Lib.hid (fun (a b c d e f : Value) => (below_set6 (H := w.heap.size + 1) hM.out.bel (by omega) a b c d e f).drew)
      have S1 := hM.out.box.drew.c
      have S2 := fun (a b c d e f : Value) => (kb_other (J := w.heap.size + 1) hM.out.box (by omega) a b c d e f).drew.c
      have S3 := fun (a b c d e f : Value) => And.intro (S2 a b c d e f) (hcv2 a b c d e f)
      unfold set6 at S3
      replace S3 := Lib.hid S3
      replace S1 := Lib.hid (And.intro S1 hcv1)
      replace hds2 := Lib.hid hds2
      replace hws2 := Lib.hid hws2
      replace hin2 := Lib.hid hin2
      clear own8 hcv2 hcv1 S2 hS hv' hlk hfo hsp hpl hws hds hwsl hcap HWd hdl
      go_wp2_with fail
      go_region_held3 (fun w' => (w'.cell? ⟨w.heap.size, 0, none⟩ = some (.int .i64 (k.o : Int)) ∧ w'.cell? ⟨w.heap.size, 1, none⟩ = some (.int .i64 (k.l : Int)) ∧ w'.cell? ⟨w.heap.size, 2, none⟩ = some (.int .i64 (k.m : Int)) ∧ w'.cell? ⟨w.heap.size, 3, none⟩ = some (.slice A' k'.ps.length c') ∧ w'.cell? ⟨w.heap.size, 4, none⟩ = some (.int .i64 (k.base : Int)) ∧ w'.cell? ⟨w.heap.size, 5, none⟩ = some (.int .i64 k'.lastI)) ∧ (convert 22 9 (.slice A2 ds.length c2)).run Tryz.prog w' = .ok (.string (bsL ds)) w') (first | with_reducible exact S1.out | with_reducible exact S3.out _ _ _ _ _ _) (fail)
      go_wp2_with fail
      refine bodyPost_ret (v := .tuple #[.agg #[.int .i64 (k.o : Int), .int .i64 (k.l : Int), .int .i64 (k.m : Int), .slice A' k'.ps.length c', .int .i64 (k.base : Int), .int .i64 k'.lastI], .slice A1 i c1, .string (bsL ds), .bool true]) (by simp [results, Tryz.results174, go_sem, r0, r1, r2, r3, r4, r5]) rfl ?_
      have hol := own9.out (.int .i64 (k.o : Int)) (.int .i64 (k.l : Int)) (.int .i64 (k.m : Int)) (.slice A' k'.ps.length c') (.int .i64 (k.base : Int)) (.int .i64 k'.lastI)
      rw [hws2.out, hwl.out, hin2.out] at hol
      refine ⟨_, _, _, _, A1, c1, by rw [hN.out, ← hds2.out, hin2.out], ?_, bel9.out _ _ _ _ _ _⟩
      rw [hN.out]
      exact own_base hol (by omega)

end Go.Proofs.YthlgpgaeajfchaaGreatDoor
