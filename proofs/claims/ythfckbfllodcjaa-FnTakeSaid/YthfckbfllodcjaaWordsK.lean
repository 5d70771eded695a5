/-
  The reference's l2Pack.
-/
import Derived.Test.YthfckbfllodcjaaWordsJ
import Derived.Test.YthfckbfllodcjaaBits
namespace Go.Proofs.Ythfckbfllodcjaa
open Go.RowKit
set_option linter.unusedVariables false

/-- The bits of codes with their widths. -/
def packW (o : Nat) : List Nat → List Nat → List UInt8
  | x :: xs, wd :: ws => codeL o x wd ++ packW o xs ws
  | _, _ => []

/-- The bits of codes behind what is known. -/
def Kn.bits (k : Kn) (codes : List Nat) : List UInt8 := packW k.o codes (k.widths codes)

theorem packW_length (o : Nat) : ∀ (xs ws : List Nat), (∀ wd ∈ ws, wd ≤ 10) → (packW o xs ws).length ≤ 10 * xs.length := by
  intro xs
  induction xs with
  | nil => intro ws _; simp [packW]
  | cons x xs ih =>
    intro ws hw
    cases ws with
    | nil => simp [packW]
    | cons wd ws =>
      have h1 := ih ws (fun y hy => hw y (List.mem_cons_of_mem _ hy))
      have h2 := hw wd (by simp)
      rw [packW, List.length_append, codeL_length, List.length_cons]
      omega

theorem packW_drop (o : Nat) (xs ws : List Nat) (i x wd : Nat) (hx : xs[i]? = some x) (hw : ws[i]? = some wd) : packW o (xs.drop i) (ws.drop i) = codeL o x wd ++ packW o (xs.drop (i + 1)) (ws.drop (i + 1)) := by
  have h1 : xs.drop i = x :: xs.drop (i + 1) := by
    obtain ⟨h, e⟩ := List.getElem?_eq_some_iff.1 hx
    rw [List.drop_eq_getElem_cons h, e]
  have h2 : ws.drop i = wd :: ws.drop (i + 1) := by
    obtain ⟨h, e⟩ := List.getElem?_eq_some_iff.1 hw
    rw [List.drop_eq_getElem_cons h, e]
  rw [h1, h2, packW]

theorem Kn.Follow.bounds {k : Kn} {xs : List Nat} (h : k.Follow xs) : k.Valid → (∀ x ∈ xs, x ≤ 1023) ∧ ∀ wd ∈ k.widths xs, wd ≤ 10 := by
  induction h with
  | nil k => intro _; simp [Kn.widths]
  | last k =>
    intro hv
    have h1 := hv.pow
    have h2 := k.fin_eq
    have h3 := Kn.width_le hv
    have h4 := hv.most10
    refine ⟨fun x hx => ?_, fun wd hw => ?_⟩
    · simp at hx; omega
    · simp [Kn.widths] at hw; omega
  | cons k x xs hg hf ih =>
    intro hv
    obtain ⟨i1, i2⟩ := ih (Kn.step_valid hv hg)
    have h1 := hv.pow
    have h2 := k.fin_eq
    have h3 := Kn.width_le hv
    have h4 := hv.most10
    have hx1 : x ≤ 1023 := by
      rcases hg with g | g
      · omega
      · have := Kn.can_great hv g
        have := Kn.great_bounds hv
        omega
    refine ⟨fun y hy => ?_, fun wd hw => ?_⟩
    · rcases List.mem_cons.1 hy with rfl | h
      · exact hx1
      · exact i1 y h
    · rw [Kn.widths] at hw
      rcases List.mem_cons.1 hw with rfl | h
      · omega
      · split at h
        · simp at h
        · exact i2 wd h

/-- The memory of l2Pack's loop. -/
structure PkM (w0 : World) (H : Nat) (a b c d e f : Value) (wds : List Nat) (ob : List UInt8) (vw vo : Value) (w : World) : Prop where
  box : KB w H a b c d e f
  ow : w.ownsRow (H + 1) 3 1 vw wds.length (wds.map natV)
  oo : w.ownsRow (H + 1) 5 1 vo ob.length (ob.map byteV)
  ap : Apart vw vo
  bel : Below H w0 w

section
variable {w0 : World} {H : Nat} {a b c d e f : Value} {wds : List Nat} {ob : List UInt8} {vw vo : Value} {w w' : World}

theorem PkM.below (h : PkM w0 H a b c d e f wds ob vw vo w) (hb : Below w.heap.size w w') : PkM w0 H a b c d e f wds ob vw vo w' :=
  ⟨h.box.below hb, own_below h.ow hb (Nat.le_refl _), own_below h.oo hb (Nat.le_refl _), h.ap, h.bel.trans (hb.mono (by have := h.box.lt; omega))⟩

theorem PkM.push (h : PkM w0 H a b c d e f wds ob vw vo w) {vo' : Value} {bs : List UInt8} {n : Nat} (hn : n = bs.length) (hv : w'.ownsRow (H + 1) 5 1 vo' (ob.length + n) (ob.map byteV ++ bs.map byteV)) (hg : w.grownBy w' vo.ownBlock) (hat : vo'.ownBlock = vo.ownBlock ∨ vo'.ownBlock = some w.heap.size) :
    PkM w0 H a b c d e f wds (ob ++ bs) vw vo' w' := by
  have hlt := h.box.lt
  have hog : ∀ g, vo.ownBlock = some g → H + 1 ≤ g := fun g hg => (h.oo.lt g hg).1
  refine ⟨h.box.grown hg (fun e => by have := hog _ e; omega), h.ow.kept hg h.ap.symm.kept, ?_, (h.ap.symm.step hat (fun g hg => (h.ow.lt g hg).2)).symm, h.bel.grown hg (by omega) (fun g hg => by have := hog _ hg; omega)⟩
  rw [List.length_append, List.map_append, ← hn]; exact hv

theorem PkM.width (h : PkM w0 H a b c d e f wds ob vw vo w) {A : Option Addr} {n cw i wd : Nat} (hv : vw = .slice A n cw) (hi : wds[i]? = some wd) : ∃ g, A = some ⟨g, 0, none⟩ ∧ w.cell? ⟨g, i, none⟩ = some (.int .i64 (wd : Int)) := by
  subst hv
  have ho := h.ow
  obtain ⟨A', c', e, _, _⟩ := own_form ho
  injection e with e1 e2 e3
  subst e2
  have hlt := (List.getElem?_eq_some_iff.1 hi).1
  obtain ⟨g, rfl, _, _, hc, _⟩ := own_at ho (by omega)
  exact ⟨g, rfl, hc i _ (by rw [List.getElem?_map, hi]; rfl)⟩

end

set_option maxHeartbeats 8000000 in
theorem specL2Pack (k : Kn) (A : Option Addr) (c B : Nat) (codes : List Nat) (Ac : Option Addr) (cc : Nat) (w : World) (h : k.Valid) (hA : k.At w B A) (hB : B ≤ w.heap.size) (hc : k.ps.length ≤ c) (hF : k.Follow codes)
    (hrow : Row w B 1 Ac codes.length (codes.map natV)) (hn : codes.length ≤ 10000) (hd : (k.data codes).length ≤ 2000) :
    Calls Try.prog 74 #[k.val A c, .slice Ac codes.length cc] w fun e w' => e = .returned (.string (bsL (k.bits codes))) ∧ Below w.heap.size w w' := by
  have HW := fun (W : World) (hb : Below w.heap.size w W) => specL2Walk k A c B codes Ac cc W h (hA.below hb hB) (Nat.le_trans hB hb.size) hc hF (hrow.below hb hB) (by omega) hd
  simp only [Kn.val_eq k A c] at HW
  have hbd := hF.bounds h
  have hwl := hF.widths_length h
  have hko := h.ord
  obtain ⟨n, hnn⟩ : ∃ n, codes.length = n := ⟨_, rfl⟩
  obtain ⟨wds, hwds⟩ : ∃ z, k.widths codes = z := ⟨_, rfl⟩
  have hbits : k.bits codes = packW k.o codes wds := by unfold Kn.bits; rw [hwds]
  have hbl := packW_length k.o codes wds (by rw [← hwds]; exact hbd.2)
  rw [hwds] at hbd hwl
  rw [hnn] at hrow hn hwl HW hbl
  replace HW := Lib.hid HW
  replace hrow := Lib.hid hrow
  replace hbd := Lib.hid hbd
  replace hbits := Lib.hid hbits
  replace hwds := Lib.hid hwds
  replace hN := Lib.hid hnn
  rw [Kn.val_eq, hnn]
  have kb0 := (KB.start w 91 (.int .i64 (k.o : Int)) (.int .i64 (k.l : Int)) (.int .i64 (k.m : Int)) (.slice A k.ps.length c) (.int .i64 (k.base : Int)) (.int .i64 k.lastI)).alloc (.cells #[] 5)
  have hlt0 := kb0.lt
  replace kb0 := Lib.hid kb0
  obtain ⟨⟨q0, q1, q2, q3, q4, q5⟩, z0, z1, z2, z3, z4, z5⟩ := kb0.out
  clear h hA hF hd hnn hc
  go_enter Try.func74, Try.ntmps74
  go_wp2_with fail
  refine (HW.out _ (((Below.refl _ _).alloc (Nat.le_refl _) _).alloc (by simp) _)).mono ?_
  rintro e w2 ⟨Ak, nk, ck, qk, A2, c2, rfl, hown, hb2⟩
  rw [hN.out, hwds.out] at hown
  simp only [World.size_alloc] at hown
  have hs2 := hb2.size
  simp only [World.size_alloc] at hs2
  have hB2 : Below w.heap.size w w2 := (((Below.refl _ _).alloc (Nat.le_refl _) _).alloc (by simp) _).trans (hb2.mono (by simp; omega))
  have M0 : Hid (PkM w w.heap.size (.int .i64 (k.o : Int)) (.int .i64 (k.l : Int)) (.int .i64 (k.m : Int)) (.slice A k.ps.length c) (.int .i64 (k.base : Int)) (.int .i64 k.lastI) wds [] (.slice A2 n c2) (.slice (some ⟨w.heap.size + 1, 0, none⟩) 0 0) (w2.alloc (.cells #[.int .i64 (k.o : Int), .int .i64 (k.l : Int), .int .i64 (k.m : Int), .slice Ak nk ck, .int .i64 (k.base : Int), .int .i64 qk] 91))) := by
    refine Lib.hid ⟨(kb0.out.below hb2).alloc _, ?_, ?_, ?_, hB2.alloc (by omega) _⟩
    · rw [hwl]; exact (own_base hown (by omega)).alloc _
    · exact (own_below (own_empty (w.alloc _) (w.heap.size + 1) (by simp) (w.heap.size + 1) (Nat.le_refl _) 5 1) hb2 (Nat.le_refl _)).alloc _
    · intro g hg hv
      simp [Value.ownBlock] at hv
      have := (hown.lt g hg).1
      omega
  clear hown hb2 hB2 q0 q1 q2 q3 q4 q5 z0 z1 z2 z3 z4 z5 hlt0 kb0 HW
  rw [hN.out]
  go_wp2_with fail
  go_loopw [5, 10] (fun u j wr => ∃ (i : Nat) (ob : List UInt8) (A1 : Option Addr) (c1 : Nat), u = .slice A1 ob.length c1 ∧ j = .int .i64 (i : Int) ∧ i ≤ n ∧ Hid (ob ++ packW k.o (codes.drop i) (wds.drop i) = packW k.o codes wds) ∧ Hid (PkM w w.heap.size (.int .i64 (k.o : Int)) (.int .i64 (k.l : Int)) (.int .i64 (k.m : Int)) (.slice A k.ps.length c) (.int .i64 (k.base : Int)) (.int .i64 k.lastI) wds ob (.slice A2 n c2) u wr)) (fun _ j _ => n - (intOf j).toNat)
  case atStart => exact ⟨0, [], _, _, rfl, rfl, Nat.zero_le _, Lib.hid rfl, M0⟩
  case round =>
    clear M0
    obtain ⟨i, ob, A1, c1, rfl, rfl, hin, hS, hM⟩ := hrel
    by_cases hin' : (i : Int) < n
    · have hx1 : i < codes.length := by rw [hN.out]; omega
      have hw1 : i < wds.length := by omega
      obtain ⟨x, hx⟩ : ∃ x, codes[i]? = some x := ⟨_, List.getElem?_eq_getElem hx1⟩
      obtain ⟨wd, hwd⟩ : ∃ x, wds[i]? = some x := ⟨_, List.getElem?_eq_getElem hw1⟩
      have hxb := hbd.out.1 x (List.mem_of_getElem? hx)
      have hwb := hbd.out.2 wd (List.mem_of_getElem? hwd)
      have hri := hrow.out
      obtain ⟨bc, off, rfl, hbB, hcells⟩ := hri.2 (by omega)
      have hcx : w.cell? ⟨bc, off + i, none⟩ = some (.int .i64 (x : Int)) := hcells i _ (by rw [List.getElem?_map, hx]; rfl)
      have hst := packW_drop k.o codes wds i x wd hx hwd
      have hcl := codeL_length k.o x wd
      have hol : ob.length ≤ 10 * n := by
        have := congrArg List.length hS.out
        rw [List.length_append] at this
        omega
      obtain ⟨gw, rfl, hcw⟩ := hM.out.width rfl hwd
      have HL := specL1Code k.o x wd wr.drew (by omega) (by omega) (by omega)
      obtain ⟨L, hL⟩ : ∃ L, codeL k.o x wd = L := ⟨_, rfl⟩
      rw [hL] at HL hst hcl
      have hcb : L.length ≤ 10 := by omega
      clear hcl
      have hS2 : Hid ((ob ++ L) ++ packW k.o (codes.drop (i + 1)) (wds.drop (i + 1)) = packW k.o codes wds) := Lib.hid (by rw [← hS.out, hst]; simp)
      have hlt := hM.out.box.lt
      have hbc := (hM.out.bel.cell (p := ⟨bc, off + i, none⟩) (by show bc < _; omega)).trans hcx
      have hgw := cell_lt hcw
      have Sx : Hid (wr.drew.cell? ⟨w.heap.size, 0, none⟩ = some (.int .i64 (k.o : Int)) ∧ wr.drew.cell? ⟨bc, off + i, none⟩ = some (.int .i64 (x : Int)) ∧ wr.drew.cell? ⟨gw, i, none⟩ = some (.int .i64 (wd : Int))) := Lib.hid ⟨hM.out.box.c.1, hbc, hcw⟩
      have i0 : (0 : Int) ≤ i := by omega
      replace HL := Lib.hid HL
      replace hcx := Lib.hid hcx
      replace hwd := Lib.hid hwd
      clear hx hst hL hS hri hcells hbc hcw hx1 hw1
      go_wp2_with fail
      go_region_held3 (fun w' => w'.cell? ⟨w.heap.size, 0, none⟩ = some (.int .i64 (k.o : Int)) ∧ w'.cell? ⟨bc, off + i, none⟩ = some (.int .i64 (x : Int)) ∧ w'.cell? ⟨gw, i, none⟩ = some (.int .i64 (wd : Int))) (first | with_reducible exact Sx.out | with_reducible exact S9.out | with_reducible exact SA.out) (first | (go_at_call 83; refine HL.out.mono ?_; rintro e w9 ⟨rfl, hb9⟩; have M9 := Lib.hid ((hM.out.below (Below.refl _ _).drew).below hb9); have S9 := Lib.hid (And.intro M9.out.box.c.1 (And.intro ((M9.out.bel.cell (p := ⟨bc, off + i, none⟩) (by show bc < _; omega)).trans hcx.out) ((hb9.cell (p := ⟨gw, i, none⟩) hgw).trans Sx.out.2.2))); clear hb9) | (refine step_append_str _ elemByte Try.underlying9 (by rfl) (.tmp 26) (.tmp 38) (by rfl) (w.heap.size + 1) _ _ _ (by rfl) M9.out.oo (bsL L) (by rfl) (by rw [bsL_size]; omega) (by have := M9.out.box.lt; omega) ?_; intro vA wA hvA hgA hatA; obtain ⟨A6, c6, rfl, _, _⟩ := own_form hvA; have MA := Lib.hid (M9.out.push (bs := L) (n := (bsL L).size) rfl (by simpa using hvA) hgA hatA); have SA := Lib.hid (And.intro MA.out.box.c.1 (And.intro ((MA.out.bel.cell (p := ⟨bc, off + i, none⟩) (by show bc < _; omega)).trans hcx.out) (by obtain ⟨g2, hg2, hc2⟩ := MA.out.width rfl hwd.out; obtain rfl : gw = g2 := (by injection hg2 with e9; injection e9); exact hc2))); clear hvA hgA hatA))
      have hDL : (Value.slice A6 (ob.length + (bsL L).size) c6) = .slice A6 (ob ++ L).length c6 := by rw [List.length_append]; rfl
      go_wp2_with fail
      go_roundw
      case rel => exact ⟨i + 1, ob ++ L, A6, c6, hDL, by go_num, by omega, hS2, MA⟩
      case measure => simp [intOf]; omega
    · have hin2 : i = n := by omega
      have hob : ob = k.bits codes := by
        have hs := hS.out
        rw [List.drop_eq_nil_of_le (by rw [hN.out]; omega)] at hs
        rw [hbits.out, ← hs]
        simp [packW]
      have hcv := run_convert_own (n := ob.length) elemByte Try.underlying5 Try.underlying9 ob hM.out.oo rfl
      replace hob := Lib.hid hob
      go_wp2_with fail
      go_ret
      exact ⟨by rw [← hob.out]; rfl, hM.out.bel⟩

end Go.Proofs.Ythfckbfllodcjaa
