/-
  The reference's l2Pack.
  Reading codes from bits, as plain data; what was packed is read back.
-/
import Derived.Test.YthlgpgaeajfchaaGreatDoorWordsJ
import Derived.Test.YthlgpgaeajfchaaGreatDoorBits

namespace Go.Proofs.YthlgpgaeajfchaaGreatDoor
open Go.RowKit
set_option linter.unusedVariables false
set_option maxRecDepth 100000

/-- The bits of codes with their widths. -/
def packW (o : Nat) : List Nat → List Nat → List UInt8
  | x :: xs, wd :: ws => codeL o x wd ++ packW o xs ws
  | _, _ => []

/-- The bits of codes behind what is known. -/
def Kn.bits (k : Kn) (codes : List Nat) : List UInt8 := packW k.o codes (k.widths codes)

theorem packW_length (o : Nat) : ∀ (xs ws : List Nat), (∀ wd ∈ ws, wd ≤ 10) → (packW o xs ws).length ≤ 10 * xs.length := by
  intro xs
  induction xs with
  | nil => intro ws _; simp [packW]
  | cons x xs ih =>
    intro ws hw
    cases ws with
    | nil => simp [packW]
    | cons wd ws =>
      have h1 := ih ws (fun y hy => hw y (List.mem_cons_of_mem _ hy))
      have h2 := hw wd (by simp)
      rw [packW, List.length_append, codeL_length, List.length_cons]
      omega

theorem packW_drop (o : Nat) (xs ws : List Nat) (i x wd : Nat) (hx : xs[i]? = some x) (hw : ws[i]? = some wd) : packW o (xs.drop i) (ws.drop i) = codeL o x wd ++ packW o (xs.drop (i + 1)) (ws.drop (i + 1)) := by
  have h1 : xs.drop i = x :: xs.drop (i + 1) := by
    obtain ⟨h, e⟩ := List.getElem?_eq_some_iff.1 hx
    rw [List.drop_eq_getElem_cons h, e]
  have h2 : ws.drop i = wd :: ws.drop (i + 1) := by
    obtain ⟨h, e⟩ := List.getElem?_eq_some_iff.1 hw
    rw [List.drop_eq_getElem_cons h, e]
  rw [h1, h2, packW]

theorem Kn.Follow.bounds {k : Kn} {xs : List Nat} (h : k.Follow xs) : k.Valid → (∀ x ∈ xs, x ≤ 1023) ∧ ∀ wd ∈ k.widths xs, wd ≤ 10 := by
  induction h with
  | nil k => intro _; simp [Kn.widths]
  | last k =>
    intro hv
    have h1 := hv.pow
    have h2 := k.fin_eq
    have h3 := Kn.width_le hv
    have h4 := hv.most10
    refine ⟨fun x hx => ?_, fun wd hw => ?_⟩
    · simp at hx; omega
    · simp [Kn.widths] at hw; omega
  | cons k x xs hg hf ih =>
    intro hv
    obtain ⟨i1, i2⟩ := ih (Kn.step_valid hv hg)
    have h1 := hv.pow
    have h2 := k.fin_eq
    have h3 := Kn.width_le hv
    have h4 := hv.most10
    have hx1 : x ≤ 1023 := by
      rcases hg with g | g
      · omega
      · have := Kn.can_great hv g
        have := Kn.great_bounds hv
        omega
    refine ⟨fun y hy => ?_, fun wd hw => ?_⟩
    · rcases List.mem_cons.1 hy with rfl | h
      · exact hx1
      · exact i1 y h
    · rw [Kn.widths] at hw
      rcases List.mem_cons.1 hw with rfl | h
      · omega
      · split at h
        · simp at h
        · exact i2 wd h

/-- The memory of l2Pack's loop. -/
structure PkM (w0 : World) (H : Nat) (a b c d e f : Value) (wds : List Nat) (ob : List UInt8) (vw vo : Value) (w : World) : Prop where
  box : KB w H a b c d e f
  ow : w.ownsRow (H + 1) 3 1 vw wds.length (wds.map natV)
  oo : w.ownsRow (H + 1) 5 1 vo ob.length (ob.map byteV)
  ap : Apart vw vo
  bel : Below H w0 w

section
variable {w0 : World} {H : Nat} {a b c d e f : Value} {wds : List Nat} {ob : List UInt8} {vw vo : Value} {w w' : World}

theorem PkM.below (h : PkM w0 H a b c d e f wds ob vw vo w) (hb : Below w.heap.size w w') : PkM w0 H a b c d e f wds ob vw vo w' :=
  ⟨h.box.below hb, own_below h.ow hb (Nat.le_refl _), own_below h.oo hb (Nat.le_refl _), h.ap, h.bel.trans (hb.mono (by have := h.box.lt; omega))⟩

theorem PkM.push (h : PkM w0 H a b c d e f wds ob vw vo w) {vo' : Value} {bs : List UInt8} {n : Nat} (hn : n = bs.length) (hv : w'.ownsRow (H + 1) 5 1 vo' (ob.length + n) (ob.map byteV ++ bs.map byteV)) (hg : w.grownBy w' vo.ownBlock) (hat : vo'.ownBlock = vo.ownBlock ∨ vo'.ownBlock = some w.heap.size) :
    PkM w0 H a b c d e f wds (ob ++ bs) vw vo' w' := by
  have hlt := h.box.lt
  have hog : ∀ g, vo.ownBlock = some g → H + 1 ≤ g := fun g hg => (h.oo.lt g hg).1
  refine ⟨h.box.grown hg (fun e => by have := hog _ e; omega), h.ow.kept hg h.ap.symm.kept, ?_, (h.ap.symm.step hat (fun g hg => (h.ow.lt g hg).2)).symm, h.bel.grown hg (by omega) (fun g hg => by have := hog _ hg; omega)⟩
  rw [List.length_append, List.map_append, ← hn]; exact hv

theorem PkM.width (h : PkM w0 H a b c d e f wds ob vw vo w) {A : Option Addr} {n cw i wd : Nat} (hv : vw = .slice A n cw) (hi : wds[i]? = some wd) : ∃ g, A = some ⟨g, 0, none⟩ ∧ w.cell? ⟨g, i, none⟩ = some (.int .i64 (wd : Int)) := by
  subst hv
  have ho := h.ow
  obtain ⟨A', c', e, _, _⟩ := own_form ho
  injection e with e1 e2 e3
  subst e2
  have hlt := (List.getElem?_eq_some_iff.1 hi).1
  obtain ⟨g, rfl, _, _, hc, _⟩ := own_at ho (by omega)
  exact ⟨g, rfl, hc i _ (by rw [List.getElem?_map, hi]; rfl)⟩

end

set_option maxHeartbeats 8000000 in
theorem specL2Pack (k : Kn) (A : Option Addr) (c B : Nat) (codes : List Nat) (Ac : Option Addr) (cc : Nat) (w : World) (h : k.Valid) (hA : k.At w B A) (hB : B ≤ w.heap.size) (hc : k.ps.length ≤ c) (hF : k.Follow codes)
    (hrow : Row w B 1 Ac codes.length (codes.map natV)) (hn : codes.length ≤ 10000) (hd : (k.data codes).length ≤ 2000) :
    Calls Tryz.prog 159 #[k.val A c, .slice Ac codes.length cc] w fun e w' => e = .returned (.string (bsL (k.bits codes))) ∧ Below w.heap.size w w' := by
  have HW := fun (W : World) (hb : Below w.heap.size w W) => specL2Walk k A c B codes Ac cc W h (hA.below hb hB) (Nat.le_trans hB hb.size) hc hF (hrow.below hb hB) (by omega) hd
  simp only [Kn.val_eq k A c] at HW
  have hbd := hF.bounds h
  have hwl := hF.widths_length h
  have hko := h.ord
  obtain ⟨n, hnn⟩ : ∃ n, codes.length = n := ⟨_, rfl⟩
  obtain ⟨wds, hwds⟩ : ∃ z, k.widths codes = z := ⟨_, rfl⟩
  have hbits : k.bits codes = packW k.o codes wds := by unfold Kn.bits; rw [hwds]
  have hbl := packW_length k.o codes wds (by rw [← hwds]; exact hbd.2)
  rw [hwds] at hbd hwl
  rw [hnn] at hrow hn hwl HW hbl
  replace HW := Lib.hid HW
  replace hrow := Lib.hid hrow
  replace hbd := Lib.hid hbd
  replace hbits := Lib.hid hbits
  replace hwds := Lib.hid hwds
  replace hN := Lib.hid hnn
  rw [Kn.val_eq, hnn]
  have kb0 := (KB.start w 48 (.int .i64 (k.o : Int)) (.int .i64 (k.l : Int)) (.int .i64 (k.m : Int)) (.slice A k.ps.length c) (.int .i64 (k.base : Int)) (.int .i64 k.lastI)).alloc (.cells #[] 5)
  have hlt0 := kb0.lt
  replace kb0 := Lib.hid kb0
  obtain ⟨⟨q0, q1, q2, q3, q4, q5⟩, z0, z1, z2, z3, z4, z5⟩ := kb0.out
  clear h hA hF hd hnn hc
  go_enter Tryz.func159, Tryz.ntmps159
  go_wp2_with fail
  refine (HW.out _ (((Below.refl _ _).alloc (Nat.le_refl _) _).alloc (by simp) _)).mono ?_
  rintro e w2 ⟨Ak, nk, ck, qk, A2, c2, rfl, hown, hb2⟩
  rw [hN.out, hwds.out] at hown
  simp only [World.size_alloc] at hown
  have hs2 := hb2.size
  simp only [World.size_alloc] at hs2
  have hB2 : Below w.heap.size w w2 := (((Below.refl _ _).alloc (Nat.le_refl _) _).alloc (by simp) _).trans (hb2.mono (by simp; omega))
  have M0 : Hid (PkM w w.heap.size (.int .i64 (k.o : Int)) (.int .i64 (k.l : Int)) (.int .i64 (k.m : Int)) (.slice A k.ps.length c) (.int .i64 (k.base : Int)) (.int .i64 k.lastI) wds [] (.slice A2 n c2) (.slice (some ⟨w.heap.size + 1, 0, none⟩) 0 0) (w2.alloc (.cells #[.int .i64 (k.o : Int), .int .i64 (k.l : Int), .int .i64 (k.m : Int), .slice Ak nk ck, .int .i64 (k.base : Int), .int .i64 qk] 48))) := by
    refine Lib.hid ⟨(kb0.out.below hb2).alloc _, ?_, ?_, ?_, hB2.alloc (by omega) _⟩
    · rw [hwl]; exact (own_base hown (by omega)).alloc _
    · exact (own_below (own_empty (w.alloc _) (w.heap.size + 1) (by simp) (w.heap.size + 1) (Nat.le_refl _) 5 1) hb2 (Nat.le_refl _)).alloc _
    · intro g hg hv
      simp [Value.ownBlock] at hv
      have := (hown.lt g hg).1
      omega
  clear hown hb2 hB2 q0 q1 q2 q3 q4 q5 z0 z1 z2 z3 z4 z5 hlt0 kb0 HW
  rw [hN.out]
  go_wp2_with fail
  go_loopw [5, 10] (fun u j wr => ∃ (i : Nat) (ob : List UInt8) (A1 : Option Addr) (c1 : Nat), u = .slice A1 ob.length c1 ∧ j = .int .i64 (i : Int) ∧ i ≤ n ∧ Hid (ob ++ packW k.o (codes.drop i) (wds.drop i) = packW k.o codes wds) ∧ Hid (PkM w w.heap.size (.int .i64 (k.o : Int)) (.int .i64 (k.l : Int)) (.int .i64 (k.m : Int)) (.slice A k.ps.length c) (.int .i64 (k.base : Int)) (.int .i64 k.lastI) wds ob (.slice A2 n c2) u wr)) (fun _ j _ => n - (intOf j).toNat)
  case atStart => exact ⟨0, [], _, _, rfl, rfl, Nat.zero_le _, Lib.hid rfl, M0⟩
  case round =>
    clear M0
    obtain ⟨i, ob, A1, c1, rfl, rfl, hin, hS, hM⟩ := hrel
    by_cases hin' : (i : Int) < n
    · have hx1 : i < codes.length := by rw [hN.out]; omega
      have hw1 : i < wds.length := by omega
      obtain ⟨x, hx⟩ : ∃ x, codes[i]? = some x := ⟨_, List.getElem?_eq_getElem hx1⟩
      obtain ⟨wd, hwd⟩ : ∃ x, wds[i]? = some x := ⟨_, List.getElem?_eq_getElem hw1⟩
      have hxb := hbd.out.1 x (List.mem_of_getElem? hx)
      have hwb := hbd.out.2 wd (List.mem_of_getElem? hwd)
      have hri := hrow.out
      obtain ⟨bc, off, rfl, hbB, hcells⟩ := hri.2 (by omega)
      have hcx : w.cell? ⟨bc, off + i, none⟩ = some (.int .i64 (x : Int)) := hcells i _ (by rw [List.getElem?_map, hx]; rfl)
      have hst := packW_drop k.o codes wds i x wd hx hwd
      have hcl := codeL_length k.o x wd
      have hol : ob.length ≤ 10 * n := by
        have := congrArg List.length hS.out
        rw [List.length_append] at this
        omega
      obtain ⟨gw, rfl, hcw⟩ := hM.out.width rfl hwd
      have HL := specL1Code k.o x wd wr.drew (by omega) (by omega) (by omega)
      obtain ⟨L, hL⟩ : ∃ L, codeL k.o x wd = L := ⟨_, rfl⟩
      rw [hL] at HL hst hcl
      have hcb : L.length ≤ 10 := by omega
      clear hcl
      have hS2 : Hid ((ob ++ L) ++ packW k.o (codes.drop (i + 1)) (wds.drop (i + 1)) = packW k.o codes wds) := Lib.hid (by rw [← hS.out, hst]; simp)
      have hlt := hM.out.box.lt
      have hbc := (hM.out.bel.cell (p := ⟨bc, off + i, none⟩) (by show bc < _; omega)).trans hcx
      have hgw := cell_lt hcw
      have Sx : Hid (wr.drew.cell? ⟨w.heap.size, 0, none⟩ = some (.int .i64 (k.o : Int)) ∧ wr.drew.cell? ⟨bc, off + i, none⟩ = some (.int .i64 (x : Int)) ∧ wr.drew.cell? ⟨gw, i, none⟩ = some (.int .i64 (wd : Int))) := Lib.hid ⟨hM.out.box.c.1, hbc, hcw⟩
      have i0 : (0 : Int) ≤ i := by omega
      replace HL := Lib.hid HL
      replace hcx := Lib.hid hcx
      replace hwd := Lib.hid hwd
      clear hx hst hL hS hri hcells hbc hcw hx1 hw1
      go_wp2_with fail
      go_region_held3 (fun w' => w'.cell? ⟨w.heap.size, 0, none⟩ = some (.int .i64 (k.o : Int)) ∧ w'.cell? ⟨bc, off + i, none⟩ = some (.int .i64 (x : Int)) ∧ w'.cell? ⟨gw, i, none⟩ = some (.int .i64 (wd : Int))) (first | with_reducible exact Sx.out | with_reducible exact S9.out | with_reducible exact SA.out) (first | (go_at_call 175; refine HL.out.mono ?_; rintro e w9 ⟨rfl, hb9⟩; have M9 := Lib.hid ((hM.out.below (Below.refl _ _).drew).below hb9); have S9 := Lib.hid (And.intro M9.out.box.c.1 (And.intro ((M9.out.bel.cell (p := ⟨bc, off + i, none⟩) (by show bc < _; omega)).trans hcx.out) ((hb9.cell (p := ⟨gw, i, none⟩) hgw).trans Sx.out.2.2))); clear hb9) | (refine step_append_str _ elemByte Tryz.underlying9 (by rfl) (.tmp 26) (.tmp 38) (by rfl) (w.heap.size + 1) _ _ _ (by rfl) M9.out.oo (bsL L) (by rfl) (by rw [bsL_size]; omega) (by have := M9.out.box.lt; omega) ?_; intro vA wA hvA hgA hatA; obtain ⟨A6, c6, rfl, _, _⟩ := own_form hvA; have MA := Lib.hid (M9.out.push (bs := L) (n := (bsL L).size) rfl (by simpa using hvA) hgA hatA); have SA := Lib.hid (And.intro MA.out.box.c.1 (And.intro ((MA.out.bel.cell (p := ⟨bc, off + i, none⟩) (by show bc < _; omega)).trans hcx.out) (by obtain ⟨g2, hg2, hc2⟩ := MA.out.width rfl hwd.out; obtain rfl : gw = g2 := (by injection hg2 with e9; injection e9); exact hc2))); clear hvA hgA hatA))
      have hDL : (Value.slice A6 (ob.length + (bsL L).size) c6) = .slice A6 (ob ++ L).length c6 := by rw [List.length_append]; rfl
      go_wp2_with fail
      go_roundw
      case rel => exact ⟨i + 1, ob ++ L, A6, c6, hDL, by go_num, by omega, hS2, MA⟩
      case measure => simp [intOf]; omega
    · have hin2 : i = n := by omega
      have hob : ob = k.bits codes := by
        have hs := hS.out
        rw [List.drop_eq_nil_of_le (by rw [hN.out]; omega)] at hs
        rw [hbits.out, ← hs]
        simp [packW]
      have hcv := run_convert_own (n := ob.length) elemByte Tryz.underlying5 Tryz.underlying9 ob hM.out.oo rfl
      replace hob := Lib.hid hob
      go_wp2_with fail
      go_ret
      exact ⟨by rw [← hob.out]; rfl, hM.out.bel⟩

end Go.Proofs.YthlgpgaeajfchaaGreatDoor

namespace Go.Proofs.YthlgpgaeajfchaaGreatDoor
set_option linter.unusedVariables false

instance (k : Kn) (x : Nat) : Decidable (k.can x) := by unfold Kn.can; infer_instance

/-- What is read: the codes, how it ends (0 whole, 1 short, 2 wrong, 3 long), the bits that were read. -/
structure Un where
  codes : List Nat
  fin : Nat
  bits : Nat

/-- The number of the next bits. -/
def Kn.peek (k : Kn) (bits : List UInt8) (p : Nat) : Nat := numO k.o ((bits.drop p).take k.width)

/-- Codes read from bits, by fuel: as many codes as may follow. -/
def unF (bits : List UInt8) : Nat → Kn → Nat → Nat → List Nat → Un
  | 0, _, p, _, acc => ⟨acc, 3, p⟩
  | f + 1, k, p, size, acc =>
    if bits.length < p + k.width then ⟨acc, 1, p⟩
    else if k.peek bits p = k.fin then ⟨acc ++ [k.peek bits p], 0, p + k.width⟩
    else if k.peek bits p ≠ k.clear ∧ ¬ k.can (k.peek bits p) then ⟨acc, 2, p + k.width⟩
    else if 2000 < size + (if k.peek bits p = k.clear then 0 else (k.any (k.peek bits p)).length) then ⟨acc, 3, p + k.width⟩
    else unF bits f (k.step (k.peek bits p)) (p + k.width) (size + (if k.peek bits p = k.clear then 0 else (k.any (k.peek bits p)).length)) (acc ++ [k.peek bits p])

/-- What is read can follow. -/
structure UnOk (bits : List UInt8) (f : Nat) (k : Kn) (p size : Nat) (acc : List Nat) (u : Un) : Prop where
  ex : ∃ more, u.codes = acc ++ more ∧ k.Follow more ∧ more.length ≤ f ∧ size + (k.data more).length ≤ 2000 ∧ (u.fin = 0 → more.getLast? = some k.fin)
  fin : u.fin ≤ 3
  lo : p ≤ u.bits
  hi : u.bits ≤ bits.length

theorem unF_ok (bits : List UInt8) : ∀ (f : Nat) (k : Kn) (p size : Nat) (acc : List Nat), k.Valid → size ≤ 2000 → p ≤ bits.length → UnOk bits f k p size acc (unF bits f k p size acc) := by
  intro f
  induction f with
  | zero =>
    intro k p size acc _ hs hp
    exact ⟨⟨[], by simp [unF], Kn.Follow.nil k, by simp, by simpa [Kn.data] using hs, fun h => by simp [unF] at h⟩, by simp [unF], by simp [unF], by simpa [unF] using hp⟩
  | succ f ih =>
    intro k p size acc hv hs hp
    have hcf := k.fin_eq
    rw [unF]
    obtain ⟨x, hx⟩ : ∃ x, k.peek bits p = x := ⟨_, rfl⟩
    rw [hx]
    by_cases h1 : bits.length < p + k.width
    · rw [if_pos h1]
      exact ⟨⟨[], by simp, Kn.Follow.nil k, by simp, by simpa [Kn.data] using hs, fun h => by cases h⟩, by simp, Nat.le_refl _, hp⟩
    rw [if_neg h1]
    by_cases h2 : x = k.fin
    · rw [if_pos h2]
      exact ⟨⟨[x], rfl, by rw [h2]; exact Kn.Follow.last k, by simp, by rw [Kn.data, if_pos h2]; simpa using hs, fun _ => by rw [h2]; rfl⟩, by simp, by simp, by show p + k.width ≤ _; omega⟩
    rw [if_neg h2]
    by_cases h3 : x ≠ k.clear ∧ ¬ k.can x
    · rw [if_pos h3]
      exact ⟨⟨[], by simp, Kn.Follow.nil k, by simp, by simpa [Kn.data] using hs, fun h => by cases h⟩, by simp, by simp, by show p + k.width ≤ _; omega⟩
    rw [if_neg h3]
    obtain ⟨z, hz⟩ : ∃ z, (if x = k.clear then 0 else (k.any x).length) = z := ⟨_, rfl⟩
    rw [hz]
    by_cases h4 : 2000 < size + z
    · rw [if_pos h4]
      exact ⟨⟨[], by simp, Kn.Follow.nil k, by simp, by simpa [Kn.data] using hs, fun h => by cases h⟩, by simp, by simp, by show p + k.width ≤ _; omega⟩
    rw [if_neg h4]
    have hg : k.goes x := by
      by_cases hc : x = k.clear
      · exact Or.inl hc
      · by_cases hk : k.can x
        · exact Or.inr hk
        · exact absurd ⟨hc, hk⟩ h3
    obtain ⟨⟨more, e1, e2, e3, e4, e5⟩, i2, i3, i4⟩ := ih (k.step x) (p + k.width) (size + z) (acc ++ [x]) (Kn.step_valid hv hg) (by omega) (by omega)
    refine ⟨⟨x :: more, by rw [e1]; simp, Kn.Follow.cons k x more hg e2, by simpa using e3, ?_, ?_⟩, i2, by omega, i4⟩
    · rw [Kn.data, if_neg h2, List.length_append]
      have : (if x = k.clear then ([] : List UInt8) else k.any x).length = z := by
        rw [← hz]; split <;> rfl
      rw [this]
      omega
    · intro h0
      have h5 := e5 h0
      rw [(k.like_step x).fin] at h5
      cases more with
      | nil => simp at h5
      | cons y ys => rw [List.getLast?_cons_cons]; exact h5

theorem need_lt (n : Nat) : n < 2 ^ need n := by
  induction n using Nat.strongRecOn with
  | ind n ih =>
    by_cases h : 1 < n
    · rw [need_step h, Nat.pow_succ]
      have := ih (n / 2) (by omega)
      omega
    · rw [need_end h]
      omega

theorem Kn.fits_width {k : Kn} (h : k.Valid) {x : Nat} (hx : k.goes x ∨ x = k.fin) : x < 2 ^ k.width := by
  have hw : 2 ^ need k.great ≤ 2 ^ k.width := Nat.pow_le_pow_right (by omega) (by unfold Kn.width; omega)
  have hw2 : 2 ^ (k.l + 1) ≤ 2 ^ k.width := Nat.pow_le_pow_right (by omega) (by unfold Kn.width; omega)
  have hn := need_lt k.great
  have hp : 2 ^ (k.l + 1) = 2 * k.clear := by rw [Nat.pow_succ]; show k.clear * 2 = _; omega
  have hpw := h.pow
  have hf := k.fin_eq
  rcases hx with (h1 | h1) | h1
  · omega
  · have := Kn.can_great h h1
    omega
  · omega

theorem bitC_val (c i : Nat) : (bitC c i).toNat - 48 = c / 2 ^ i % 2 := by
  unfold bitC
  rw [UInt8.toNat_ofNat']
  omega

theorem numL_code (c : Nat) : ∀ w, numL ((List.range w).map (bitC c)).reverse = c % 2 ^ w := by
  intro w
  have main : ∀ (w : Nat) (l : List UInt8), numL (((List.range w).map (bitC c)).reverse ++ l) = l.foldl (fun n b => 2 * n + (b.toNat - 48)) (c % 2 ^ w) → True := fun _ _ _ => trivial
  clear main
  have key : ∀ (w n : Nat), (((List.range w).map (bitC c)).reverse).foldl (fun n b => 2 * n + (b.toNat - 48)) n = n * 2 ^ w + c % 2 ^ w := by
    intro w
    induction w with
    | zero => intro n; simp [Nat.mod_one]
    | succ w ih =>
      intro n
      rw [range_snoc, List.reverse_append]
      show List.foldl _ n ([bitC c w] ++ _) = _
      rw [List.foldl_append]
      show List.foldl _ (2 * n + ((bitC c w).toNat - 48)) _ = _
      rw [ih, bitC_val, Nat.pow_succ, Nat.mod_mul, Nat.add_mul]
      have : 2 * n * 2 ^ w = n * (2 ^ w * 2) := by rw [Nat.mul_comm 2 n, Nat.mul_assoc, Nat.mul_comm 2]
      rw [this, Nat.mul_comm (c / 2 ^ w % 2)]
      omega
  have := key w 0
  unfold numL
  rw [this]
  omega

/-- The number of a code's bits is the code. -/
theorem numO_code {o c w : Nat} (h : c < 2 ^ w) : numO o (codeL o c w) = c := by
  unfold numO codeL
  by_cases ho : o = 0
  · rw [if_pos ho, if_pos ho, numL_code, Nat.mod_eq_of_lt h]
  · rw [if_neg ho, if_neg ho, numL_code, Nat.mod_eq_of_lt h]

theorem Kn.bits_cons {k : Kn} {x : Nat} {xs : List Nat} (h : x ≠ k.fin) : k.bits (x :: xs) = codeL k.o x k.width ++ (k.step x).bits xs := by
  unfold Kn.bits
  rw [Kn.widths, if_neg h, packW, (k.like_step x).o]

theorem Kn.bits_last {k : Kn} {x : Nat} (h : x = k.fin) : k.bits [x] = codeL k.o x k.width := by
  unfold Kn.bits
  rw [Kn.widths, if_pos h, packW]
  simp [packW]

/-- What was packed is read back. -/
theorem unF_bits (bits : List UInt8) : ∀ (codes : List Nat) (f : Nat) (k : Kn) (p size : Nat) (acc tail : List Nat → List UInt8) (a : List Nat), k.Valid → k.Follow codes → codes.getLast? = some k.fin → codes.length ≤ f → size + (k.data codes).length ≤ 2000 →
    bits.drop p = k.bits codes ++ tail [] → p ≤ bits.length → unF bits f k p size a = ⟨a ++ codes, 0, p + (k.bits codes).length⟩ := by
  intro codes
  induction codes with
  | nil => intro f k p size acc tail a _ _ h; simp at h
  | cons x xs ih =>
    intro f k p size acc tail a hv hF hl hlen hs hb hp
    have hbl : (bits.drop p).length = (k.bits (x :: xs)).length + (tail []).length := by rw [hb, List.length_append]
    rw [List.length_drop] at hbl
    cases f with
    | zero => simp at hlen
    | succ f =>
      have hcl := codeL_length k.o x k.width
      rcases hF.head hv with ⟨h1, rfl⟩ | ⟨h1, hg, hF2⟩
      · have hpk : k.peek bits p = x := by
          unfold Kn.peek
          rw [hb, Kn.bits_last h1, List.take_left' hcl]
          exact numO_code (Kn.fits_width hv (Or.inr h1))
        rw [Kn.bits_last h1] at hbl ⊢
        rw [unF, hpk, if_neg (by omega), if_pos h1, hcl]
      · have hxne : xs ≠ [] := by
          rintro rfl
          simp at hl
          exact h1 hl
        have hpk : k.peek bits p = x := by
          unfold Kn.peek
          rw [hb, Kn.bits_cons h1, List.append_assoc, List.take_left' hcl]
          exact numO_code (Kn.fits_width hv (Or.inl hg))
        rw [Kn.bits_cons h1, List.length_append, hcl] at hbl
        rw [Kn.data, if_neg h1, List.length_append] at hs
        obtain ⟨z, hz⟩ : ∃ z, (if x = k.clear then 0 else (k.any x).length) = z := ⟨_, rfl⟩
        have hz2 : (if x = k.clear then ([] : List UInt8) else k.any x).length = z := by rw [← hz]; split <;> rfl
        rw [hz2] at hs
        have h3 : ¬ (x ≠ k.clear ∧ ¬ k.can x) := by
          rintro ⟨h4, h5⟩
          rcases hg with h6 | h6
          · exact h4 h6
          · exact h5 h6
        rw [unF, hpk, if_neg (by omega), if_neg h1, if_neg h3, hz, if_neg (by omega)]
        have hl2 : xs.getLast? = some (k.step x).fin := by
          rw [(k.like_step x).fin]
          cases xs with
          | nil => exact absurd rfl hxne
          | cons y ys => rw [List.getLast?_cons_cons] at hl; exact hl
        have hd2 : bits.drop (p + k.width) = (k.step x).bits xs ++ tail [] := by
          rw [← List.drop_drop, hb, Kn.bits_cons h1, List.append_assoc, List.drop_left' hcl]
        rw [ih f (k.step x) (p + k.width) (size + z) acc tail (a ++ [x]) (Kn.step_valid hv hg) hF2 hl2 (by simpa using hlen) (by omega) hd2 (by omega), Kn.bits_cons h1, List.length_append, hcl]
        simp [Nat.add_assoc]

/-- The bits of bytes. -/
def unpL (o : Nat) (l : List UInt8) : List UInt8 := l.flatMap fun b => codeL o b.toNat 8

theorem unpL_length (o : Nat) (l : List UInt8) : (unpL o l).length = 8 * l.length := by
  unfold unpL
  induction l with
  | nil => rfl
  | cons x xs ih => rw [List.flatMap_cons, List.length_append, codeL_length, ih, List.length_cons]; omega

theorem unpL_append (o : Nat) (a b : List UInt8) : unpL o (a ++ b) = unpL o a ++ unpL o b := by unfold unpL; exact List.flatMap_append

theorem unpL_one (o : Nat) (b : UInt8) : unpL o [b] = codeL o b.toNat 8 := by simp [unpL]

theorem unpL_digs (o : Nat) (l : List UInt8) : Digs (unpL o l) := by
  intro b hb
  unfold unpL at hb
  obtain ⟨c, _, hc⟩ := List.mem_flatMap.1 hb
  exact codeL_digs o _ 8 b hc

/-- What a stream is read as. -/
def Kn.unpack (k : Kn) (stream : List UInt8) : Un := unF (unpL k.o stream) 3100 k 0 0 []

/-- How many bytes of a stream are used. -/
def Kn.used (k : Kn) (stream : List UInt8) : Nat := if (k.unpack stream).fin = 1 then stream.length else ((k.unpack stream).bits + 7) / 8

theorem dig_byte {b : UInt8} (h : 48 ≤ b.toNat ∧ b.toNat ≤ 49) : b = UInt8.ofNat (48 + (b.toNat - 48)) := by
  apply UInt8.toNat_inj.1
  rw [UInt8.toNat_ofNat']
  omega

/-- The code of the number of digits are the digits. -/
theorem codeL_num {o : Nat} {l : List UInt8} (h : Digs l) {w : Nat} (hw : l.length = w) : codeL o (numO o l) w = l := by
  have key : ∀ (w : Nat) (l : List UInt8), l.length = w → Digs l → ((List.range w).map (bitC (numL l))).reverse = l := by
    intro w
    induction w with
    | zero => intro l hl _; rw [List.eq_nil_of_length_eq_zero hl]; rfl
    | succ w ih =>
      intro l hl hd
      cases l with
      | nil => simp at hl
      | cons a l =>
        have hl2 : l.length = w := by simpa using hl
        have hd2 : Digs l := fun b hb => hd b (List.mem_cons_of_mem _ hb)
        have ha := hd a (by simp)
        have hlt := numL_lt w l hl2 hd2
        have hn : numL (a :: l) = (a.toNat - 48) * 2 ^ w + numL l := by
          have key2 : ∀ (l : List UInt8) (n : Nat), l.foldl (fun n b => 2 * n + (b.toNat - 48)) n = n * 2 ^ l.length + numL l := by
            intro l
            induction l with
            | nil => intro n; simp [numL]
            | cons b l ih2 =>
              intro n
              unfold numL
              rw [List.foldl_cons, List.foldl_cons, ih2, ih2, List.length_cons, Nat.pow_succ]
              have e1 : (2 * n + (b.toNat - 48)) * 2 ^ l.length = n * (2 ^ l.length * 2) + (b.toNat - 48) * 2 ^ l.length := by
                rw [Nat.add_mul, Nat.mul_comm 2 n, Nat.mul_assoc, Nat.mul_comm 2]
              rw [e1]
              simp only [Nat.mul_zero, Nat.zero_add]
              omega
          show List.foldl _ (2 * 0 + (a.toNat - 48)) l = _
          rw [key2, hl2]
          simp
        rw [range_snoc, List.reverse_append]
        show [bitC (numL (a :: l)) w] ++ _ = [a] ++ l
        have e2 : bitC (numL (a :: l)) w = a := by
          unfold bitC
          rw [hn, Nat.mul_comm, Nat.mul_add_div (by exact Nat.two_pow_pos w), Nat.div_eq_of_lt hlt]
          have : (a.toNat - 48 + 0) % 2 = a.toNat - 48 := by omega
          rw [this]
          exact (dig_byte ha).symm
        have e3 : (List.range w).map (bitC (numL (a :: l))) = (List.range w).map (bitC (numL l)) := by
          apply List.map_congr_left
          intro i hi
          have hi2 := List.mem_range.1 hi
          unfold bitC
          congr 2
          rw [hn]
          have hp : 2 ^ w = 2 ^ (i + 1) * 2 ^ (w - i - 1) := by rw [← Nat.pow_add]; congr 1; omega
          have e4 : (a.toNat - 48) * 2 ^ w = 2 ^ i * (2 * ((a.toNat - 48) * 2 ^ (w - i - 1))) := by
            rw [hp, Nat.pow_succ]
            simp only [Nat.mul_comm, Nat.mul_left_comm, Nat.mul_assoc]
          rw [e4, Nat.mul_add_div (Nat.two_pow_pos i)]
          omega
        rw [e2, e3, ih l hl2 hd2]
  unfold codeL numO
  by_cases ho : o = 0
  · rw [if_pos ho, if_pos ho]
    have := key w l.reverse (by simpa using hw) (digs_rev h)
    have := congrArg List.reverse this
    rw [List.reverse_reverse, List.reverse_reverse] at this
    exact this
  · rw [if_neg ho, if_neg ho]
    exact key w l hw h

/-- Bits that were packed, and unpacked, are there with zeros behind. -/
theorem unpL_pack {o : Nat} {l : List UInt8} (h : Digs l) : unpL o (packL o l) = padL l := by
  have hd := padL_digs h
  have hlen := padL_length l
  obtain ⟨p, hp⟩ : ∃ p, padL l = p := ⟨_, rfl⟩
  obtain ⟨m, hm⟩ : ∃ m, (l.length + 7) / 8 = m := ⟨_, rfl⟩
  rw [hp] at hd hlen ⊢
  rw [hm] at hlen
  have hm2 : (padL l).length / 8 = m := by rw [hp]; omega
  have key : ∀ n, n ≤ m → unpL o ((List.range n).map (packAt o p)) = p.take (8 * n) := by
    intro n
    induction n with
    | zero => intro _; simp [unpL]
    | succ n ih =>
      intro hn
      rw [range_snoc, unpL_append, unpL_one, ih (by omega)]
      have hlt : ((p.drop (8 * n)).take 8).length = 8 := by rw [List.length_take, List.length_drop]; omega
      have hdd := digs_take (digs_drop hd (8 * n)) 8
      have hb : (packAt o p n).toNat = numO o ((p.drop (8 * n)).take 8) := by
        unfold packAt
        rw [UInt8.toNat_ofNat']
        have := numO_lt o 8 hlt hdd
        omega
      rw [hb, codeL_num hdd hlt, show 8 * (n + 1) = 8 * n + 8 by omega, List.take_add]
  have := key m (Nat.le_refl _)
  rw [List.take_of_length_le (by omega)] at this
  have e : packL o l = (List.range m).map (packAt o p) := by
    show (List.range ((padL l).length / 8)).map (packAt o (padL l)) = _
    rw [hm2, hp]
  rw [e]
  exact this

/-- A packed stream is read as its codes, and used whole. -/
theorem Kn.unpack_pack {k : Kn} (h : k.Valid) {codes : List Nat} (hF : k.Follow codes) (hl : codes.getLast? = some k.fin) (hlen : codes.length ≤ 3100) (hd : (k.data codes).length ≤ 2000) (hdg : Digs (k.bits codes)) :
    k.unpack (packL k.o (k.bits codes)) = ⟨codes, 0, (k.bits codes).length⟩ ∧ k.used (packL k.o (k.bits codes)) = (packL k.o (k.bits codes)).length := by
  have h1 : k.unpack (packL k.o (k.bits codes)) = ⟨codes, 0, (k.bits codes).length⟩ := by
    unfold Kn.unpack
    rw [unpL_pack hdg]
    have := unF_bits (padL (k.bits codes)) codes 3100 k 0 0 (fun _ => []) (fun _ => List.replicate ((8 - (k.bits codes).length % 8) % 8) 48) [] h hF hl hlen (by omega) (by rw [List.drop_zero]; rfl) (Nat.zero_le _)
    rw [this]
    simp
  refine ⟨h1, ?_⟩
  unfold Kn.used
  rw [h1, packL_length]
  simp

theorem Kn.bits_digs (k : Kn) (codes : List Nat) : Digs (k.bits codes) := by
  have key : ∀ (xs ws : List Nat), Digs (packW k.o xs ws) := by
    intro xs
    induction xs with
    | nil => intro ws; simp [packW, Digs]
    | cons x xs ih =>
      intro ws
      cases ws with
      | nil => simp [packW, Digs]
      | cons wd ws => rw [packW]; exact digs_append (codeL_digs _ _ _) (ih ws)
  exact key _ _

end Go.Proofs.YthlgpgaeajfchaaGreatDoor
