/-
  The reference's l5Ready, l5Block, l5Make and MakeContainer.
-/
import Derived.Test.YthlgpgaeajfchaaGreatDoorComp
import Derived.Test.YthlgpgaeajfchaaGreatDoorMakeC
namespace Go.Proofs.YthlgpgaeajfchaaGreatDoor
open Go.RowKit
set_option linter.unusedVariables false
set_option maxRecDepth 100000

/-- The block of data, with the number 0. -/
def Kn.block (k : Kn) (d : List UInt8) : Blk := if dfits k.o k.l k.m d ∧ (k.comp d).length < d.length then ⟨0, false, d.length, bsL (k.comp d)⟩ else ⟨0, true, d.length, bsL d⟩

/-- The blocks of data with a size, by fuel. -/
def splitF (k : Kn) (size : Nat) : Nat → List UInt8 → List Blk
  | 0, _ => []
  | f + 1, d => if d = [] then [] else k.block (d.take size) :: splitF k size f (d.drop size)

def Kn.split (k : Kn) (size : Nat) (d : List UInt8) : List Blk := splitF k size d.length d

theorem Kn.comp_pos (k : Kn) (d : List UInt8) (h : k.Valid) : 1 ≤ (k.comp d).length := by
  unfold Kn.comp
  rw [packL_length]
  have h1 : k.clear ≠ k.fin := by have := k.fin_eq; omega
  unfold Kn.greedy
  rw [Kn.bits_cons h1, List.length_append, codeL_length]
  have := (Kn.width_le h).1
  omega

theorem Kn.block_okb {k : Kn} (h : k.Valid) {d : List UInt8} (h1 : 1 ≤ d.length) (h2 : d.length ≤ 64) : (k.block d).okb := by
  unfold Kn.block
  split
  · rename_i hc
    exact ⟨h1, h2, by show 1 ≤ (k.comp d).length ∧ _; exact ⟨k.comp_pos d h, hc.2⟩⟩
  · exact ⟨h1, h2, rfl⟩

theorem Kn.block_size (k : Kn) (d : List UInt8) : (k.block d).size = d.length := by unfold Kn.block; split <;> rfl

theorem splitF_okb {k : Kn} (h : k.Valid) {size : Nat} (h1 : 1 ≤ size) (h2 : size ≤ 64) : ∀ (f : Nat) (d : List UInt8), ∀ b ∈ splitF k size f d, b.okb := by
  intro f
  induction f with
  | zero => intro d b hb; simp [splitF] at hb
  | succ f ih =>
    intro d b hb
    rw [splitF] at hb
    split at hb
    · simp at hb
    · rename_i hd
      have hl : d.length ≠ 0 := fun e => hd (List.eq_nil_of_length_eq_zero e)
      rcases List.mem_cons.1 hb with rfl | hb
      · exact Kn.block_okb h (by rw [List.length_take]; omega) (by rw [List.length_take]; omega)
      · exact ih _ b hb

theorem splitF_szs (k : Kn) {size : Nat} (h1 : 1 ≤ size) : ∀ (f : Nat) (d : List UInt8), d.length ≤ f → szs (splitF k size f d) = d.length ∧ (splitF k size f d).length = (d.length + size - 1) / size := by
  intro f
  induction f with
  | zero =>
    intro d hd
    have : d = [] := List.eq_nil_of_length_eq_zero (by omega)
    subst this
    refine ⟨rfl, ?_⟩
    show 0 = (0 + size - 1) / size
    rw [Nat.div_eq_of_lt (by omega)]
  | succ f ih =>
    intro d hd
    rw [splitF]
    split
    · rename_i h0
      subst h0
      refine ⟨rfl, ?_⟩
      show 0 = (0 + size - 1) / size
      rw [Nat.div_eq_of_lt (by omega)]
    · rename_i h0
      have hl : d.length ≠ 0 := fun e => h0 (List.eq_nil_of_length_eq_zero e)
      obtain ⟨i1, i2⟩ := ih (d.drop size) (by rw [List.length_drop]; omega)
      refine ⟨?_, ?_⟩
      · show (k.block (d.take size)).size + _ = _
        rw [i1, Kn.block_size, List.length_take, List.length_drop]
        omega
      · rw [List.length_cons, i2, List.length_drop]
        by_cases h3 : d.length ≤ size
        · rw [show d.length - size + size - 1 = size - 1 by omega, Nat.div_eq_of_lt (by omega)]
          rw [show d.length + size - 1 = (d.length - 1) + size by omega, Nat.add_div_right _ (by omega), Nat.div_eq_of_lt (by omega)]
        · rw [show d.length + size - 1 = (d.length - size + size - 1) + size by omega, Nat.add_div_right _ (by omega)]

theorem splitF_length_le (k : Kn) {size : Nat} (h1 : 1 ≤ size) (f : Nat) (d : List UInt8) (hd : d.length ≤ f) {n : Nat} (hn : d.length ≤ size * n) : (splitF k size f d).length ≤ n := by
  rw [(splitF_szs k h1 f d hd).2]
  have : d.length + size - 1 < size * (n + 1) := by rw [Nat.mul_succ]; omega
  have := Nat.div_lt_of_lt_mul this
  omega

theorem splitF_more (k : Kn) {size : Nat} (h1 : 1 ≤ size) : ∀ (f g : Nat) (d : List UInt8), d.length ≤ f → d.length ≤ g → splitF k size f d = splitF k size g d := by
  intro f
  induction f with
  | zero =>
    intro g d hf hg
    have : d = [] := List.eq_nil_of_length_eq_zero (by omega)
    subst this
    cases g <;> simp [splitF]
  | succ f ih =>
    intro g d hf hg
    by_cases h0 : d = []
    · subst h0; cases g <;> simp [splitF]
    · have hl : d.length ≠ 0 := fun e => h0 (List.eq_nil_of_length_eq_zero e)
      cases g with
      | zero => omega
      | succ g =>
        rw [splitF, splitF, if_neg h0, if_neg h0, ih g (d.drop size) (by rw [List.length_drop]; omega) (by rw [List.length_drop]; omega)]

theorem specL5Ready (o l m : Int) (s : ByteArray) (r : Bool) (w : World) (hs : s.size ≤ 1048576) (hr : r = true ↔ dfits o l m s.data.toList) :
    Calls Tryz.prog 23 #[.agg #[.int .i64 o, .int .i64 l, .int .i64 m], .string s] w fun e w' => e = .returned (.bool r) ∧ Below w.heap.size w w' := by
  have H := Lib.hid (fun W => specDataFits o l m s r W hs hr)
  clear hr
  go_enter Tryz.func23, Tryz.ntmps23
  go_wp2_with fail
  refine (H.out _).mono ?_
  rintro e w1 ⟨rfl, hb1⟩
  go_wp2_with fail
  go_ret
  exact ⟨rfl, ((Below.refl _ _).alloc (Nat.le_refl _) _).trans (hb1.mono (by simp))⟩

/-- A box of four cells that can be written. -/
structure KB4 (w : World) (H : Nat) (a b c d : Value) : Prop where
  c : w.cell? ⟨H, 0, none⟩ = some a ∧ w.cell? ⟨H, 1, none⟩ = some b ∧ w.cell? ⟨H, 2, none⟩ = some c ∧ w.cell? ⟨H, 3, none⟩ = some d
  f : w.frozen? ⟨H, 0, none⟩ = false ∧ w.frozen? ⟨H, 1, none⟩ = false ∧ w.frozen? ⟨H, 2, none⟩ = false ∧ w.frozen? ⟨H, 3, none⟩ = false

theorem KB4.start (w : World) (T : TypeId) (a b c d : Value) : KB4 (w.alloc (.cells #[a, b, c, d] T)) w.heap.size a b c d := by
  have hf : ∀ j, (w.alloc (.cells #[a, b, c, d] T)).frozen? ⟨w.heap.size, j, none⟩ = false := fun j => by simp
  exact ⟨⟨box_cell (Below.refl _ _) rfl, box_cell (Below.refl _ _) rfl, box_cell (Below.refl _ _) rfl, box_cell (Below.refl _ _) rfl⟩, hf 0, hf 1, hf 2, hf 3⟩

theorem KB4.lt {w : World} {H : Nat} {a b c d : Value} (h : KB4 w H a b c d) : H < w.heap.size := cell_lt h.c.1

theorem KB4.below {w w' : World} {H : Nat} {a b c d : Value} (h : KB4 w H a b c d) (hb : Below w.heap.size w w') : KB4 w' H a b c d := by
  have hlt := h.lt
  obtain ⟨⟨c0, c1, c2, c3⟩, f0, f1, f2, f3⟩ := h
  have hc : ∀ j, w'.cell? ⟨H, j, none⟩ = w.cell? ⟨H, j, none⟩ := fun j => hb.cell (p := ⟨H, j, none⟩) hlt
  have hf : ∀ j, w'.frozen? ⟨H, j, none⟩ = w.frozen? ⟨H, j, none⟩ := fun j => hb.frozen (p := ⟨H, j, none⟩) hlt
  exact ⟨⟨(hc 0).trans c0, (hc 1).trans c1, (hc 2).trans c2, (hc 3).trans c3⟩, (hf 0).trans f0, (hf 1).trans f1, (hf 2).trans f2, (hf 3).trans f3⟩

theorem below_set4 {w w0 : World} {B H : Nat} (h : Below B w0 w) (hH : B ≤ H) (a b c d : Value) : Below B w0 ((((w.setCell ⟨H, 0, none⟩ a).setCell ⟨H, 1, none⟩ b).setCell ⟨H, 2, none⟩ c).setCell ⟨H, 3, none⟩ d) :=
  (((h.setCell hH _).setCell hH _).setCell hH _).setCell hH _

set_option maxHeartbeats 4000000 in
theorem specL5Block (o l m num : Nat) (d L : List UInt8) (w : World) (h : dfits o l m d) (hL : L.length ≤ 100000) :
    Calls Tryz.prog 51 #[.agg #[.int .i64 (o : Int), .int .i64 (l : Int), .int .i64 (m : Int)], .string (bsL d), .int .i64 (num : Int), .string (bsL L)] w fun e w' => e = .returned (renum num ((Kn.dict o l m d).block L)).val ∧ Below w.heap.size w w' := by
  obtain ⟨hfr, e1, e2, e3⟩ := Kn.dict_fresh h
  have kr0 := KB4.start (w.alloc (.cells #[.int .i64 (o : Int), .int .i64 (l : Int), .int .i64 (m : Int)] 24)) 65 (.int .i64 0) (.bool false) (.int .i64 0) (.string ⟨#[]⟩)
  rw [World.size_alloc] at kr0
  have hW0 := Lib.hid (((Below.refl w.heap.size w).alloc (Nat.le_refl _) (.cells #[.int .i64 (o : Int), .int .i64 (l : Int), .int .i64 (m : Int)] 24)).alloc (by simp) (.cells #[.int .i64 0, .bool false, .int .i64 0, .string ⟨#[]⟩] 65))
  replace kr0 := Lib.hid kr0
  by_cases hf : dfits o l m L
  · have HC := fun W => specCompressWithYes o l m d L W h hf
    have hbk : renum num ((Kn.dict o l m d).block L) = if ((Kn.dict o l m d).comp L).length < L.length then ⟨num, false, L.length, bsL ((Kn.dict o l m d).comp L)⟩ else ⟨num, true, L.length, bsL L⟩ := by
      unfold Kn.block
      rw [e1, e2, e3]
      by_cases hc : ((Kn.dict o l m d).comp L).length < L.length
      · rw [if_pos ⟨hf, hc⟩, if_pos hc]; rfl
      · rw [if_neg (fun hh => hc hh.2), if_neg hc]; rfl
    rw [hbk]
    have hcl : ((Kn.dict o l m d).comp L).length ≤ 100000 := by
      unfold Kn.comp
      rw [packL_length]
      have hv := hfr.val
      have hff : (Kn.dict o l m d).fits L := by
        have := hf.2.2
        simp only [Int.toNat_natCast] at this
        have hcl : (Kn.dict o l m d).clear = 2 ^ l := by unfold Kn.clear; rw [e2]
        rw [Kn.fits_lits, hcl]
        exact this
      have h1 := (Kn.greedy_spec hv hff)
      have h2 := packW_length (Kn.dict o l m d).o ((Kn.dict o l m d).greedy L) ((Kn.dict o l m d).widths ((Kn.dict o l m d).greedy L)) (h1.1.bounds hv).2
      have h3 := h1.2.2
      have h4 := hf.2.1
      show (((Kn.dict o l m d).bits _).length + 7) / 8 ≤ _
      unfold Kn.bits
      omega
    obtain ⟨R, hR⟩ : ∃ R, (Kn.dict o l m d).comp L = R := ⟨_, rfl⟩
    rw [hR] at HC hcl ⊢
    have hRs : (bsL R).size = R.length := rfl
    have hLs : (bsL L).size = L.length := rfl
    obtain ⟨n, hn⟩ : ∃ n, L.length = n := ⟨_, rfl⟩
    obtain ⟨c, hc⟩ : ∃ c, R.length = c := ⟨_, rfl⟩
    rw [hn] at hLs hL ⊢
    rw [hc] at hRs hcl ⊢
    obtain ⟨T, hT⟩ : ∃ T, bsL R = T := ⟨_, rfl⟩
    obtain ⟨U, hU⟩ : ∃ U, bsL L = U := ⟨_, rfl⟩
    rw [hT] at HC hRs ⊢
    rw [hU] at HC hLs ⊢
    replace HC := Lib.hid HC
    clear hbk hR hn hc hT hU hfr e1 e2 e3 h hf
    by_cases hlt : c < n
    · rw [if_pos hlt]
      unfold Blk.val
      have g1 : decide (c < n) = true := decide_eq_true hlt
      go_enter Tryz.func51, Tryz.ntmps51
      go_wp2_with fail
      refine (HC.out _).mono ?_
      rintro e w1 ⟨rfl, hb1⟩
      obtain ⟨⟨r0, r1, r2, r3⟩, y0, y1, y2, y3⟩ := kr0.out.below hb1
      have hW1 := Lib.hid (below_set4 (H := w.heap.size + 1) (hW0.out.trans (hb1.mono hW0.out.size)) (by omega) (.int .i64 (num : Int)) (.bool false) (.int .i64 (n : Int)) (.string T))
      clear hb1 kr0 hW0
      go_wp2_with fail
      refine bodyPost_ret (v := .agg #[.int .i64 (num : Int), .bool false, .int .i64 (n : Int), .string T]) (by simp [results, Tryz.results51, go_sem, r0, r1, r2, r3]) rfl ?_
      exact ⟨rfl, hW1.out⟩
    · rw [if_neg hlt]
      unfold Blk.val
      have g1 : decide (c < n) = false := decide_eq_false hlt
      go_enter Tryz.func51, Tryz.ntmps51
      go_wp2_with fail
      refine (HC.out _).mono ?_
      rintro e w1 ⟨rfl, hb1⟩
      obtain ⟨⟨r0, r1, r2, r3⟩, y0, y1, y2, y3⟩ := kr0.out.below hb1
      have hW1 := Lib.hid (below_set4 (H := w.heap.size + 1) (hW0.out.trans (hb1.mono hW0.out.size)) (by omega) (.int .i64 (num : Int)) (.bool true) (.int .i64 (n : Int)) (.string U))
      clear hb1 kr0 hW0
      go_wp2_with fail
      refine bodyPost_ret (v := .agg #[.int .i64 (num : Int), .bool true, .int .i64 (n : Int), .string U]) (by simp [results, Tryz.results51, go_sem, r0, r1, r2, r3]) rfl ?_
      exact ⟨rfl, hW1.out⟩
  · have HC := fun W => specCompressWithNo o l m d (bsL L) W h (by show L.length ≤ _; omega) hf
    have hbk : renum num ((Kn.dict o l m d).block L) = ⟨num, true, L.length, bsL L⟩ := by
      unfold Kn.block
      rw [e1, e2, e3, if_neg (fun hh => hf hh.1)]; rfl
    rw [hbk]
    have hLs : (bsL L).size = L.length := rfl
    obtain ⟨n, hn⟩ : ∃ n, L.length = n := ⟨_, rfl⟩
    rw [hn] at hLs hL ⊢
    obtain ⟨U, hU⟩ : ∃ U, bsL L = U := ⟨_, rfl⟩
    rw [hU] at HC hLs ⊢
    replace HC := Lib.hid HC
    clear hbk hn hU hfr e1 e2 e3 h hf
    unfold Blk.val
    go_enter Tryz.func51, Tryz.ntmps51
    go_wp2_with fail
    refine (HC.out _).mono ?_
    rintro e w1 ⟨rfl, hb1⟩
    obtain ⟨⟨r0, r1, r2, r3⟩, y0, y1, y2, y3⟩ := kr0.out.below hb1
    have hW1 := Lib.hid (below_set4 (H := w.heap.size + 1) (hW0.out.trans (hb1.mono hW0.out.size)) (by omega) (.int .i64 (num : Int)) (.bool true) (.int .i64 (n : Int)) (.string U))
    clear hb1 kr0 hW0
    go_wp2_with fail
    refine bodyPost_ret (v := .agg #[.int .i64 (num : Int), .bool true, .int .i64 (n : Int), .string U]) (by simp [results, Tryz.results51, go_sem, r0, r1, r2, r3]) rfl ?_
    exact ⟨rfl, hW1.out⟩

theorem textsFrom_cons (i : Nat) (b : Blk) (bs : List Blk) : textsFrom i (b :: bs) = textB (renum i b) ++ textsFrom (i + 1) bs := rfl

set_option maxHeartbeats 4000000 in
theorem specL5Make (o l m size : Nat) (d L : List UInt8) (w : World) (h : dfits o l m d) (hL : L.length ≤ 2000) (h1 : 1 ≤ size) (h64 : size ≤ 64) (h40 : L.length ≤ size * 40) :
    Calls Tryz.prog 25 #[.agg #[.int .i64 (o : Int), .int .i64 (l : Int), .int .i64 (m : Int)], .string (bsL d), .int .i64 0, .string (bsL L), .int .i64 (size : Int)] w fun e w' => e = .returned (.string (textsFrom 0 ((Kn.dict o l m d).split size L))) ∧ Below w.heap.size w w' := by
  have hv := (Kn.dict_fresh h).1.val
  have HB := fun (num : Nat) (X : List UInt8) (hX : X.length ≤ 100000) (W : World) => specL5Block o l m num d X W h hX
  obtain ⟨k, hk⟩ : ∃ k, Kn.dict o l m d = k := ⟨_, rfl⟩
  rw [hk] at HB hv ⊢
  have hsl : (k.split size L).length ≤ 40 := splitF_length_le k h1 _ _ (Nat.le_refl _) h40
  have hok := splitF_okb hv h1 h64 L.length L
  replace HB := Lib.hid HB
  replace hok := Lib.hid hok
  replace hsl := Lib.hid hsl
  replace hv := Lib.hid hv
  have hW0 := Lib.hid (Below.refl (w.heap.size + 1) (w.alloc (.cells #[.int .i64 (o : Int), .int .i64 (l : Int), .int .i64 (m : Int)] 24)))
  clear h hk
  go_enter Tryz.func25, Tryz.ntmps25
  go_wp2_with fail
  go_loopw [2, 3, 11] (fun u v t wr => ∃ (i : Nat) (dd : List UInt8) (acc : ByteArray), u = .int .i64 (i : Int) ∧ v = .string (bsL dd) ∧ t = .string acc ∧ Hid (∃ pre f, k.split size L = pre ++ splitF k size f dd ∧ pre.length = i ∧ dd.length ≤ f ∧ acc = textsFrom 0 pre) ∧ dd.length ≤ 2000 ∧ Hid (Below (w.heap.size + 1) (w.alloc (.cells #[.int .i64 (o : Int), .int .i64 (l : Int), .int .i64 (m : Int)] 24)) wr)) (fun _ v _ _ => szOf v)
  case atStart => exact ⟨0, L, ByteArray.empty, rfl, rfl, rfl, Lib.hid ⟨[], L.length, rfl, rfl, Nat.le_refl _, rfl⟩, hL, hW0⟩
  case round =>
    clear hW0
    obtain ⟨i, dd, acc, rfl, rfl, rfl, hS, hdl, hbel⟩ := hrel
    have hcmp : dd.isEmpty = decide (dd = []) := by cases dd <;> rfl
    obtain ⟨q0, q1, q2, _⟩ := box3 hbel.out
    by_cases hd : dd = []
    · have hfin : acc = textsFrom 0 (k.split size L) := by
        obtain ⟨pre, f, e1, e2, e3, e4⟩ := hS.out
        rw [hd] at e1
        have : splitF k size f [] = [] := by cases f <;> simp [splitF]
        rw [this, List.append_nil] at e1
        rw [e1, e4]
      rw [decide_eq_true hd] at hcmp
      replace hfin := Lib.hid hfin
      clear hd
      go_wp2_with fail
      go_ret
      exact ⟨ret_str hfin.out, ((Below.refl _ _).alloc (Nat.le_refl _) _).trans (hbel.out.mono (by omega))⟩
    · rw [decide_eq_false hd] at hcmp
      have hl0 : dd.length ≠ 0 := fun e => hd (List.eq_nil_of_length_eq_zero e)
      obtain ⟨n, hn⟩ : ∃ n, min size dd.length = n := ⟨_, rfl⟩
      have hnm : min (size : Int) (dd.length : Int) = (n : Int) := by omega
      have hnd : n ≤ dd.length := by omega
      have hn1 : 1 ≤ n := by omega
      have hdsz : (bsL dd).size = dd.length := rfl
      have htk : (bsL dd).extract 0 n = bsL (dd.take size) := by
        rw [bsL_take]
        congr 1
        by_cases hc : size ≤ dd.length
        · rw [show n = size by omega]
        · rw [show n = dd.length by omega, List.take_of_length_le (Nat.le_refl _), List.take_of_length_le (by omega)]
      have hdr : (bsL dd).extract n dd.length = bsL (dd.drop size) := by
        rw [bsL_drop]
        congr 1
        by_cases hc : size ≤ dd.length
        · rw [show n = size by omega]
        · rw [show n = dd.length by omega, List.drop_eq_nil_of_le (Nat.le_refl _), List.drop_eq_nil_of_le (by omega)]
      have hbk := HB.out i (dd.take size) (by rw [List.length_take]; omega)
      obtain ⟨b, hb⟩ : ∃ b, k.block (dd.take size) = b := ⟨_, rfl⟩
      have hS2 : ∃ pre f, k.split size L = pre ++ splitF k size f (dd.drop size) ∧ pre.length = i + 1 ∧ (dd.drop size).length ≤ f ∧ acc ++ textB (renum i b) = textsFrom 0 pre := by
        obtain ⟨pre, f, e1, e2, e3, e4⟩ := hS.out
        cases f with
        | zero => exact absurd (List.eq_nil_of_length_eq_zero (by omega)) hd
        | succ f =>
          rw [splitF, if_neg hd, hb] at e1
          refine ⟨pre ++ [b], f, by rw [e1]; simp, by rw [List.length_append, e2]; rfl, by rw [List.length_drop]; omega, ?_⟩
          rw [textsFrom_append, e4, Nat.zero_add, e2]
          show _ = _ ++ (textB (renum i b) ++ ByteArray.empty)
          rw [ByteArray.append_empty]
      have hi40 : i < 40 := by
        obtain ⟨pre, f, e1, e2, _⟩ := hS2
        have := congrArg List.length e1
        rw [List.length_append] at this
        have := hsl.out
        omega
      have hbok : b.okb := by rw [← hb]; exact Kn.block_okb hv.out (by rw [List.length_take]; omega) (by rw [List.length_take]; omega)
      have hbody := Blk.okb_body hbok
      have hacc : acc.size ≤ 74 * i := by
        obtain ⟨pre, f, e1, e2, e3, e4⟩ := hS.out
        rw [e4]
        have := textsFrom_size pre (fun b hb => hok.out b (by show b ∈ k.split size L; rw [e1]; exact List.mem_append_left _ hb)) 0
        omega
      have htl := textB_size (renum i b)
      have hbs2 : (renum i b).body.size = b.body.size := rfl
      have hT := fun W => specL5Text (renum i b) W (by show i ≤ _; omega) (by show b.size ≤ _; have := hbok.2.1; omega) (by omega)
      rw [hb] at hbk
      obtain ⟨V, hV⟩ : ∃ V, (renum i b).val = V := ⟨_, rfl⟩
      obtain ⟨T, hTT⟩ : ∃ T, textB (renum i b) = T := ⟨_, rfl⟩
      rw [hV] at hbk hT
      rw [hTT] at hT hS2 htl
      have hadd : ∀ W, (Op.stringOp .add acc T).run Tryz.prog W = .ok (.string (acc ++ T)) W := fun W => run_string_add_sum W _ _ (by omega)
      have hmes : (dd.drop size).length < dd.length := by rw [List.length_drop]; omega
      have hdl2 : (dd.drop size).length ≤ 2000 := by rw [List.length_drop]; omega
      obtain ⟨D2, hD2⟩ : ∃ D2, dd.drop size = D2 := ⟨_, rfl⟩
      obtain ⟨X2, hX2⟩ : ∃ X2, bsL (dd.take size) = X2 := ⟨_, rfl⟩
      rw [hD2] at hdr hS2 hmes hdl2
      rw [hX2] at htk hbk
      replace hbk := Lib.hid hbk
      replace hT := Lib.hid hT
      replace hS2 := Lib.hid hS2
      replace hmes := Lib.hid (show szOf (.string (bsL D2)) < szOf (.string (bsL dd)) from hmes)
      have i0 : (0 : Int) ≤ n := by omega
      have i1 : (n : Int) ≤ dd.length := by omega
      clear hd hl0 hb hbok hbody hV hTT hD2 hX2 hS hn htl hacc hbs2
      go_wp2_with fail
      refine wp_region_cls (by kernel_rfl) (by kernel_rfl) ?_
      have c0 := clsCell q0
      have c1 := clsCell q1
      have c2 := clsCell q2
      repeat (go_big_quiet_step (first | (go_at_call 51; exact clsCall (hbk.out _)) | (go_at_call 50; exact clsCall (hT.out _))))
      refine wpQuiet_nil ?_
      rintro w1 ⟨⟨w1, hB1⟩, rfl⟩
      have hb1 := Lib.hid (hbel.out.trans (hB1.mono (by have := hbel.out.size; simp at this; omega)))
      clear c0 c1 c2 q0 q1 q2 hB1
      go_wp2_with fail
      go_roundw
      case rel => exact ⟨i + 1, D2, acc ++ T, by go_num, rfl, rfl, hS2, hdl2, hb1⟩
      case measure => exact hmes.out

set_option maxHeartbeats 4000000 in
theorem specMakeContainerYes (o l m size : Nat) (d L : List UInt8) (w : World) (h : dfits o l m d) (h1 : 1 ≤ size) (h64 : size ≤ 64) (h40 : L.length ≤ size * 40) (hL : L.length ≤ 2000) :
    Calls Tryz.prog 6 #[.agg #[.int .i64 (o : Int), .int .i64 (l : Int), .int .i64 (m : Int)], .string (bsL d), .string (bsL L), .int .i64 (size : Int)] w fun e w' => e = .returned (.tuple #[.string (textsFrom 0 ((Kn.dict o l m d).split size L)), .bool true]) ∧ Below w.heap.size w w' := by
  have HR := fun W => specL5Ready o l m (bsL d) true W (by show d.length ≤ _; have := h.2.1; omega) (btrue h)
  have HI := fun W => specL1In (size : Int) 1 64 true W (btrue (by omega))
  have HM := fun W => specL5Make o l m size d L W h hL h1 h64 h40
  obtain ⟨R, hR⟩ : ∃ R, textsFrom 0 ((Kn.dict o l m d).split size L) = R := ⟨_, rfl⟩
  rw [hR] at HM ⊢
  have hLs : (bsL L).size = L.length := rfl
  obtain ⟨n, hn⟩ : ∃ n, L.length = n := ⟨_, rfl⟩
  obtain ⟨U, hU⟩ : ∃ U, bsL L = U := ⟨_, rfl⟩
  rw [hn] at hLs hL h40
  rw [hU] at hLs HM ⊢
  obtain ⟨z, hz⟩ : ∃ z : Nat, (size : Int) * 40 = z := ⟨size * 40, by omega⟩
  have g1 : decide (z < n) = false := decide_eq_false (by omega)
  have g2 : decide ((z : Int) < n) = false := decide_eq_false (by omega)
  replace HR := Lib.hid HR
  replace HI := Lib.hid HI
  replace HM := Lib.hid HM
  clear h hR hn hU h40
  go_enter Tryz.func6, Tryz.ntmps6
  go_wp2_with fail
  refine (HR.out _).mono ?_
  rintro e w1 ⟨rfl, hb1⟩
  have hB1 := hb1.mono (show w.heap.size + 1 ≤ _ by simp)
  obtain ⟨q0, q1, q2, _⟩ := box3 hB1
  have hW1 := Lib.hid (((Below.refl _ _).alloc (Nat.le_refl _) _).trans (hB1.mono (show w.heap.size ≤ _ by omega)))
  clear hb1 hB1
  go_wp2_with fail
  refine (HI.out _).mono ?_
  rintro e w2 ⟨rfl, rfl⟩
  go_wp2_with fail
  refine (HM.out _).mono ?_
  rintro e w3 ⟨rfl, hb3⟩
  have hW3 := Lib.hid (hW1.out.trans (hb3.mono hW1.out.size))
  clear hb3 hW1 q0 q1 q2
  go_wp2_with fail
  go_ret2
  exact ⟨rfl, hW3.out⟩

set_option maxHeartbeats 4000000 in
theorem specMakeContainerNo (o l m size : Int) (s U : ByteArray) (w : World) (hs : s.size ≤ 1048576) (hU : U.size ≤ 1048576) (h : ¬ (dfits o l m s.data.toList ∧ (1 ≤ size ∧ size ≤ 64) ∧ (U.size : Int) ≤ size * 40 ∧ U.size ≤ 2000)) :
    Calls Tryz.prog 6 #[.agg #[.int .i64 o, .int .i64 l, .int .i64 m], .string s, .string U, .int .i64 size] w fun e w' => e = .returned (.tuple #[.string ⟨#[]⟩, .bool false]) ∧ Below w.heap.size w w' := by
  by_cases h1 : dfits o l m s.data.toList
  · have HR := Lib.hid (fun W => specL5Ready o l m s true W hs (btrue h1))
    by_cases h2 : 1 ≤ size ∧ size ≤ 64
    · have HI := Lib.hid (fun W => specL1In size 1 64 true W (btrue h2))
      obtain ⟨h2a, h2b⟩ := h2
      obtain ⟨sz, rfl⟩ : ∃ n : Nat, size = n := ⟨size.toNat, by omega⟩
      obtain ⟨n, hn⟩ : ∃ n, U.size = n := ⟨_, rfl⟩
      obtain ⟨z, hz⟩ : ∃ z : Nat, (sz : Int) * 40 = z := ⟨sz * 40, by omega⟩
      have hznn : z < n ∨ (¬ z < n ∧ 2000 < n) := by
        rcases Nat.lt_or_ge z n with h5 | h5
        · exact Or.inl h5
        · right
          refine ⟨by omega, ?_⟩
          rcases Nat.lt_or_ge 2000 n with h6 | h6
          · exact h6
          · exact absurd ⟨h1, ⟨h2a, h2b⟩, by omega, by omega⟩ h
      clear h h1
      rcases hznn with h5 | ⟨h5, h6⟩
      · have g1 : decide (z < n) = true := decide_eq_true h5
        have g2 : decide ((z : Int) < n) = true := decide_eq_true (by omega)
        go_enter Tryz.func6, Tryz.ntmps6
        go_wp2_with fail
        refine (HR.out _).mono ?_
        rintro e w1 ⟨rfl, hb1⟩
        have hW1 := Lib.hid (((Below.refl w.heap.size w).alloc (Nat.le_refl _) _).trans (hb1.mono (by simp)))
        clear hb1
        go_wp2_with fail
        refine (HI.out _).mono ?_
        rintro e w2 ⟨rfl, rfl⟩
        go_wp2_with fail
        go_ret2
        exact ⟨rfl, hW1.out⟩
      · have g1 : decide (z < n) = false := decide_eq_false h5
        have g2 : decide ((z : Int) < n) = false := decide_eq_false (by omega)
        go_enter Tryz.func6, Tryz.ntmps6
        go_wp2_with fail
        refine (HR.out _).mono ?_
        rintro e w1 ⟨rfl, hb1⟩
        have hW1 := Lib.hid (((Below.refl w.heap.size w).alloc (Nat.le_refl _) _).trans (hb1.mono (by simp)))
        clear hb1
        go_wp2_with fail
        refine (HI.out _).mono ?_
        rintro e w2 ⟨rfl, rfl⟩
        go_wp2_with fail
        go_ret2
        exact ⟨rfl, hW1.out⟩
    · have HI := Lib.hid (fun W => specL1In size 1 64 false W (bfalse h2))
      clear h h1 h2
      go_enter Tryz.func6, Tryz.ntmps6
      go_wp2_with fail
      refine (HR.out _).mono ?_
      rintro e w1 ⟨rfl, hb1⟩
      have hW1 := Lib.hid (((Below.refl w.heap.size w).alloc (Nat.le_refl _) _).trans (hb1.mono (by simp)))
      clear hb1
      go_wp2_with fail
      refine (HI.out _).mono ?_
      rintro e w2 ⟨rfl, rfl⟩
      go_wp2_with fail
      go_ret2
      exact ⟨rfl, hW1.out⟩
  · have HR := Lib.hid (fun W => specL5Ready o l m s false W hs (bfalse h1))
    clear h h1
    go_enter Tryz.func6, Tryz.ntmps6
    go_wp2_with fail
    refine (HR.out _).mono ?_
    rintro e w1 ⟨rfl, hb1⟩
    have hW1 := Lib.hid (((Below.refl w.heap.size w).alloc (Nat.le_refl _) _).trans (hb1.mono (by simp)))
    clear hb1
    go_wp2_with fail
    go_ret2
    exact ⟨rfl, hW1.out⟩

end Go.Proofs.YthlgpgaeajfchaaGreatDoor
