/-
  Draws of ranges, of a text out of some, of bent texts, of patches and their texts.
-/
import Derived.Test.YtlcflddjbhlloaaDoorDrawSix
import Derived.Test.YtlcflddjbhlloaaDoorParsePatch
import Derived.Test.YtlcflddjbhlloaaDoorPatchOf
namespace Go.Proofs.YtlcflddjbhlloaaDoor
open Go.RowKit
set_option linter.unusedVariables false

theorem txt_empty {d : ByteArray} (h : d.size = 0) : d.toList.isEmpty = true := by
  rw [ByteArray.toList_eq]
  have : d.data.toList = [] := List.eq_nil_of_length_eq_zero (by simpa using h)
  rw [this]; rfl

theorem txt_full {d : ByteArray} (h : d.size ≠ 0) : d.toList.isEmpty = false := by
  rw [ByteArray.toList_eq]
  cases hd : d.data.toList with
  | nil => exact absurd (show d.data.toList.length = 0 by rw [hd]; rfl) (by simpa using h)
  | cons a b => rfl

/-- Two drawn numbers. -/
def RangePost (g P : Nat) (w : World) (e : Ending) (w' : World) : Prop := ∃ f t : Int, e = .returned (.tuple #[.int .i64 f, .int .i64 t]) ∧ Dr g P w w'

set_option maxHeartbeats 4000000 in
theorem specL5Range (g P n : Nat) (w : World) (h : RdAt w g P) (hP : P ≤ 700000) (hn : n ≤ 5000) :
    Calls Tryd.prog 56 #[.pointer (some ⟨g, 0, none⟩), .int .i64 (n : Int)] w (RangePost g (P + 4) w) := by
  have hg := h.lt
  have i0 : (0 : Int) ≤ n := by omega
  obtain ⟨n1, hn1⟩ : ∃ x : Nat, (n : Int) + 1 = x := ⟨n + 1, by omega⟩
  go_enter Tryd.func56, Tryd.ntmps56
  go_wp2_with fail
  refine (specPick g P n1 _ h (by omega) (by omega) (by omega)).mono ?_
  rintro e w1 ⟨r, rfl, hr, _, hd1⟩
  have hrn : r ≤ n := by omega
  obtain ⟨m, hm⟩ : ∃ x : Nat, (n : Int) - r = x := ⟨n - r, by omega⟩
  obtain ⟨m1, hm1⟩ : ∃ x : Nat, (m : Int) + 1 = x := ⟨m + 1, by omega⟩
  clear hr
  go_wp2_with fail
  refine (specPick g (P + 1) m1 _ hd1.rd (by omega) (by omega) (by omega)).mono ?_
  rintro e w2 ⟨r2, rfl, hr2, _, hd2⟩
  obtain ⟨k, hk⟩ : ∃ x : Nat, (r : Int) + r2 = x := ⟨r + r2, by omega⟩
  have hd2' := hd1.trans hd2
  have hz2 := hd2'.size
  clear hr2 hd1 hd2
  go_wp2_with fail
  refine (specPick g (P + 2) 20 _ hd2'.rd (by omega) (by omega) (by omega)).mono ?_
  rintro e w3 ⟨c, rfl, hc, _, hd3⟩
  have hd3' := hd2'.trans hd3
  have hz3 := hd3'.size
  clear hc hd2' hd3
  by_cases c0 : c = 0
  · subst c0
    go_wp2_with fail
    refine (specNum g (P + 3) w3.heap.size [-1, 9223372036854775807] 2 2 _ (hd3'.rd.alloc _) (by omega) rfl (by omega) (by omega) (fun j z hz => new_cell _ _ rfl _ ([-1, 9223372036854775807].map (Value.int .i64)) j _ (by rw [List.getElem?_map, hz]; rfl)) (by omega) (by simp)).mono ?_
    rintro e w4 ⟨z, hz, rfl, hd4⟩
    clear hz
    go_wp2_with fail
    go_returns
    exact ⟨_, _, rfl, ((hd3'.alloc _).trans hd4).more (by omega)⟩
  · by_cases c1 : c = 1
    · subst c1
      go_wp2_with fail
      refine (specNum g (P + 3) w3.heap.size [-1, (n1 : Int), 9223372036854775807] 3 3 _ (hd3'.rd.alloc _) (by omega) rfl (by omega) (by omega) (fun j z hz => new_cell _ _ rfl _ ([-1, (n1 : Int), 9223372036854775807].map (Value.int .i64)) j _ (by rw [List.getElem?_map, hz]; rfl)) (by omega) (by simp)).mono ?_
      rintro e w4 ⟨z, hz, rfl, hd4⟩
      clear hz
      go_wp2_with fail
      go_returns
      exact ⟨_, _, rfl, ((hd3'.alloc _).trans hd4).more (by omega)⟩
    · by_cases c2 : c = 2
      · subst c2
        go_wp2_with fail
        go_returns
        exact ⟨_, _, rfl, hd3'.more (by omega)⟩
      · go_wp2_with fail
        go_returns
        exact ⟨_, _, rfl, hd3'.more (by omega)⟩

/-- A text out of some. -/
def OfPost (g P : Nat) (ss : List ByteArray) (w : World) (e : Ending) (w' : World) : Prop := ∃ s ∈ ss, e = .returned (.string s) ∧ Dr g P w w'

set_option maxHeartbeats 1000000 in
theorem specOf (g P b : Nat) (ss : List ByteArray) (n c : Nat) (w : World) (h : RdAt w g P) (hP : P ≤ 900000) (hzl : ss.length = n) (hn0 : 0 < n) (hn : n ≤ 100)
    (hcell : ∀ j z, ss[j]? = some z → w.cell? ⟨b, j, none⟩ = some (.string z)) (hgb : g < b) (hb : b < w.heap.size) :
    Calls Tryd.prog 59 #[.pointer (some ⟨g, 0, none⟩), .slice (some ⟨b, 0, none⟩) n c] w (OfPost g (P + 1) ss w) := by
  have HC := Lib.hid hcell
  have HZ := Lib.hid hzl
  clear hcell hzl
  go_enter Tryd.func59, Tryd.ntmps59
  go_wp2_with fail
  refine (specPick g P n _ h (by omega) (by omega) (by omega)).mono ?_
  rintro e w1 ⟨r, rfl, hr1, _, hd1⟩
  have hr : r < ss.length := by have := HZ.out; omega
  obtain ⟨z, hz⟩ : ∃ z, ss[r]? = some z := ⟨_, List.getElem?_eq_getElem hr⟩
  have hc := HC.out r z hz
  have hc1 : w1.cell? ⟨b, r, none⟩ = some (.string z) := (World.cell?_of_block (hd1.only.block b hb (fun e => by injection e with e; omega))).trans hc
  have hrn : r < n := by have := HZ.out; omega
  have i1 : (0 : Int) ≤ r := by omega
  have i2 : (r : Int) < n := by omega
  have HM := Lib.hid (List.mem_of_getElem? hz)
  clear hr1 hc hz hr
  go_wp2_with fail
  go_ret
  exact ⟨z, HM.out, rfl, hd1⟩

/-- What is put into a bent text. -/
def bentL : List ByteArray := [⟨#[]⟩, ⟨#[48]⟩, ⟨#[49]⟩, ⟨#[59]⟩, ⟨#[44]⟩, ⟨#[46]⟩, ⟨#[45]⟩, ⟨#[124]⟩, ⟨#[32]⟩]

theorem bentL_size (o : ByteArray) (h : o ∈ bentL) : o.size ≤ 1 := by
  unfold bentL at h
  simp at h
  rcases h with rfl | rfl | rfl | rfl | rfl | rfl | rfl | rfl | rfl <;> decide

set_option maxHeartbeats 4000000 in
theorem specL3Bent (g P : Nat) (t : ByteArray) (w : World) (h : RdAt w g P) (hP : P ≤ 700000) (ht : t.size ≤ 100000) :
    Calls Tryd.prog 43 #[.pointer (some ⟨g, 0, none⟩), .string t] w (DrawStr g (P + 4) (t.size + 1) w) := by
  have hg := h.lt
  by_cases h0 : t.size = 0
  · have g1 := txt_empty h0
    go_enter Tryd.func43, Tryd.ntmps43
    go_wp2_with fail
    refine (specPick g P 2 _ h (by omega) (by omega) (by omega)).mono ?_
    rintro e w1 ⟨r, rfl, hr, _, hd1⟩
    clear hr
    go_wp2_with fail
    all_goals go_ret
    all_goals exact ⟨t, rfl, by omega, hd1.more (by omega)⟩
  have g1 := txt_full h0
  go_enter Tryd.func43, Tryd.ntmps43
  go_wp2_with fail
  refine (specPick g P 2 _ h (by omega) (by omega) (by omega)).mono ?_
  rintro e w1 ⟨r, rfl, hr, _, hd1⟩
  clear hr
  by_cases hr0 : r = 0
  · subst hr0
    go_wp2_with fail
    go_ret
    exact ⟨t, rfl, by omega, hd1.more (by omega)⟩
  have hz1 := hd1.size
  go_wp2_with fail
  refine (specPick g (P + 1) t.size _ hd1.rd (by omega) (by omega) (by omega)).mono ?_
  rintro e w2 ⟨k, rfl, hk, _, hd2⟩
  have hkt : k < t.size := by omega
  have i1 : (0 : Int) ≤ k := by omega
  have i2 : (k : Int) ≤ t.size := by omega
  have HH := Lib.hid (hd1.trans hd2)
  have hz2 := HH.out.size
  clear hk hd1 hd2 hr0 g1 h
  go_upto_region 4 with fail
  refine wp_region_any (by kernel_rfl) ?_
  change wpAny _ _ _ _ _ _ _ (World.drew _)
  refine wpAny_take (i := 0) (v := .string t) rfl (by kernel_rfl) (by kernel_rfl) (by kernel_rfl) (fun _ _ _ h => h) (Or.inl ⟨by kernel_rfl, fun w => by go_simp⟩) ?_
  refine wpAny_take (i := 1) (v := .int .i64 (k : Int)) rfl (by kernel_rfl) (by kernel_rfl) (by kernel_rfl) (fun _ _ _ h => h) (Or.inl ⟨by kernel_rfl, fun w => by go_simp⟩) ?_
  refine wpAny_take (i := 2) (v := .string (t.extract 0 k)) rfl (by kernel_rfl) (by kernel_rfl) (by kernel_rfl) (fun _ _ _ h => h) (Or.inl ⟨by kernel_rfl, fun w => by go_simp⟩) ?_
  refine wpAny_take (i := 3) (v := .pointer (some ⟨g, 0, none⟩)) rfl (by kernel_rfl) (by kernel_rfl) (by kernel_rfl) (fun _ _ _ h => h) (Or.inl ⟨by kernel_rfl, fun w => by go_simp⟩) ?_
  refine wpAny_take (i := 7) (v := .string t) rfl (by kernel_rfl) (by kernel_rfl) (by kernel_rfl) (fun _ _ _ h => h) (Or.inl ⟨by kernel_rfl, fun w => by go_simp⟩) ?_
  refine wpAny_take (i := 8) (v := .int .i64 (k : Int)) rfl (by kernel_rfl) (by kernel_rfl) (by kernel_rfl) (fun _ _ _ h => h) (Or.inl ⟨by kernel_rfl, fun w => by go_simp⟩) ?_
  refine wpAny_take (i := 9) (v := .pointer (some ⟨g, 0, none⟩)) rfl (by kernel_rfl) (by kernel_rfl) (by kernel_rfl) (fun _ _ _ h => h) (Or.inl ⟨by kernel_rfl, fun w => by go_simp⟩) ?_
  refine wpAny_ready (rs := [4]) (by kernel_rfl) (by simp) ?_
  refine AllReady.cons rfl (fun K hK => ?_) AllReady.nil
  go_simp
  refine hK _ _ ?_
  clear hK K
  refine wpAny_ready (rs := [5]) (by kernel_rfl) (by simp) ?_
  refine AllReady.cons rfl (fun K hK => ?_) AllReady.nil
  go_simp
  go_wp2_with (go_at_call 59; refine (specOf g (P + 2) w2.heap.size bentL 9 9 ((w2.alloc (.cells #[.string ⟨#[]⟩, .string ⟨#[48]⟩, .string ⟨#[49]⟩, .string ⟨#[59]⟩, .string ⟨#[44]⟩, .string ⟨#[46]⟩, .string ⟨#[45]⟩, .string ⟨#[124]⟩, .string ⟨#[32]⟩] 9)).drew) (show RdAt ((w2.alloc (.cells #[.string ⟨#[]⟩, .string ⟨#[48]⟩, .string ⟨#[49]⟩, .string ⟨#[59]⟩, .string ⟨#[44]⟩, .string ⟨#[46]⟩, .string ⟨#[45]⟩, .string ⟨#[124]⟩, .string ⟨#[32]⟩] 9)).drew) g (P + 2) from (HH.out.rd.alloc _).drewN 1) (by omega) rfl (by omega) (by omega) (fun j z hz => new_cell _ _ rfl _ (bentL.map Value.string) j _ (by rw [List.getElem?_map, hz]; rfl)) (by omega) (by simp)).mono ?_; rintro e w3 ⟨o, ho, rfl, hd3⟩)
  have hoz : o.size ≤ 1 := bentL_size o ho
  have hadd1 : ∀ W, (Op.stringOp .add (t.extract 0 k) o).run Tryd.prog W = .ok (.string (t.extract 0 k ++ o)) W := fun W => run_string_add_sum W _ _ (by simp; omega)
  refine wpAny_take (i := 6) (v := .string (t.extract 0 k ++ o)) rfl (by kernel_rfl) (by kernel_rfl) (by kernel_rfl) (fun _ _ _ h => h) (Or.inl ⟨by kernel_rfl, fun w => by go_simp⟩) ?_
  refine wpAny_ready (rs := [10]) (by kernel_rfl) (by simp) ?_
  refine AllReady.cons rfl (fun K hK => ?_) AllReady.nil
  go_simp
  go_wp2_with (go_at_call 29; refine (specPick g (P + 2 + 1) 2 w3 (show RdAt w3 g (P + 2 + 1) from hd3.rd) (by omega) (by omega) (by omega)).mono ?_; rintro e w4 ⟨r2, rfl, hr2, _, hd4⟩)
  obtain ⟨k2, hk2⟩ : ∃ x : Nat, (k : Int) + r2 = x := ⟨k + r2, by omega⟩
  have wk2 : IntKind.i64.wrap (k2 : Int) = k2 := IntWalk.i64_in _ (by omega)
  have hk2a : (0 : Int) ≤ k2 := by omega
  have hk2b : (k2 : Int) ≤ t.size := by omega
  have hk2c : k2 ≤ t.size := by omega
  refine wpAny_take (i := 11) (v := .int .i64 (k2 : Int)) rfl (by kernel_rfl) (by kernel_rfl) (by kernel_rfl) (fun _ _ _ h => h) (Or.inl ⟨by kernel_rfl, fun w => by go_simp⟩) ?_
  refine wpAny_take (i := 12) (v := .string (t.extract k2 t.size)) rfl (by kernel_rfl) (by kernel_rfl) (by kernel_rfl) (fun _ _ _ h => h) (Or.inl ⟨by kernel_rfl, fun w => by go_simp⟩) ?_
  have hadd2 : ∀ W, (Op.stringOp .add (t.extract 0 k ++ o) (t.extract k2 t.size)).run Tryd.prog W = .ok (.string (t.extract 0 k ++ o ++ t.extract k2 t.size)) W := fun W => run_string_add_sum W _ _ (by rw [ByteArray.size_append]; simp; omega)
  refine wpAny_take (i := 13) (v := .string (t.extract 0 k ++ o ++ t.extract k2 t.size)) rfl (by kernel_rfl) (by kernel_rfl) (by kernel_rfl) (fun _ _ _ h => h) (Or.inl ⟨by kernel_rfl, fun w => by go_simp⟩) ?_
  refine wpAny_take (i := 14) (v := .string (t.extract 0 k ++ o ++ t.extract k2 t.size)) rfl (by kernel_rfl) (by kernel_rfl) (by kernel_rfl) (fun _ _ _ h => h) (Or.inl ⟨by kernel_rfl, fun w => by go_simp⟩) ?_
  refine wpAny_done (by kernel_rfl) ?_ _
  simp only [List.getElem_toArray, List.getElem_cons_succ, List.getElem_cons_zero, Act.put, List.setIfInBounds_toArray, List.set_cons_succ, List.set_cons_zero]
  go_wp2_with fail
  go_ret
  exact ⟨_, rfl, by rw [ByteArray.size_append, ByteArray.size_append]; simp; omega, (((HH.out.alloc _).drew.trans hd3).trans hd4).more (by omega)⟩

theorem ByteRow.below {w w' : World} {A : Option Addr} {n : Nat} {bs : List UInt8} (h : ByteRow w A n bs) (hb : Below w.heap.size w w') : ByteRow w' A n bs :=
  ⟨h.le, h.len, (h.row.below hb (Nat.le_refl _)).more hb.size⟩

/-- A text and a patch, and new memory. -/
def TextPatch (w : World) (e : Ending) (w' : World) : Prop := ∃ (s : ByteArray) (f t : Int) (d : ByteArray), e = .returned (.tuple #[.string s, .agg #[.int .i64 f, .int .i64 t, .string d]]) ∧ s.size ≤ 30 ∧ d.size ≤ 30 ∧ Below w.heap.size w w'

set_option maxHeartbeats 2000000 in
theorem specDrawApplyPatch (A : Option Addr) (n c : Nat) (bs : List UInt8) (w : World) (h : ByteRow w A n bs) (hnc : n ≤ c) :
    Calls Tryd.prog 41 #[.slice A n c] w (TextPatch w) := by
  go_enter Tryd.func41, Tryd.ntmps41
  go_wp2_with fail
  have hbox : BoxAt (w.alloc (.cells #[.int .i64 0, .int .i64 0, .string ⟨#[]⟩] 23)) w.heap.size 0 0 ⟨#[]⟩ := heap_alloc_new w _
  have hrow : ByteRow (w.alloc (.cells #[.int .i64 0, .int .i64 0, .string ⟨#[]⟩] 23)) A n bs := h.below ((Below.refl _ _).alloc (Nat.le_refl _) _)
  refine (specL9Open A n c bs _ hrow hnc).mono ?_
  rintro e w1 ⟨rfl, hrd, hb1⟩
  have hbox1 := hbox.below hb1 (Nat.le_refl _)
  have hB1 : Below w.heap.size w w1 := ((Below.refl _ _).alloc (Nat.le_refl _) _).trans (hb1.mono (by simp))
  have hg : (w.alloc (.cells #[.int .i64 0, .int .i64 0, .string ⟨#[]⟩] 23)).heap.size = w.heap.size + 1 := by simp
  rw [hg] at hrd
  rw [hg]
  have hglt := hrd.lt
  clear hbox hrow hb1 hg
  go_wp2_with fail
  refine (specL6Two (w.heap.size + 1) 0 _ hrd (by omega)).mono ?_
  rintro e w2 ⟨a, b, rfl, ha, hb, hd2⟩
  go_wp2_with fail
  refine (specL5Range (w.heap.size + 1) (0 + 93) a.size _ hd2.rd (by omega) (by omega)).mono ?_
  rintro e w3 ⟨f, t, rfl, hd3⟩
  have hd := hd2.trans hd3
  have hbox3 : BoxAt w3 w.heap.size 0 0 ⟨#[]⟩ := hd.block hbox1 (by omega)
  have hB3 : Below w.heap.size w w3 := hB1.trans (hd.below (by omega) hglt)
  have hz3 := hB3.size
  have HB := Lib.hid hB3
  clear hd2 hd3 hd hbox1 hB1 hB3
  obtain ⟨q0, q1, q2, qf⟩ := hbox3.cells
  have hlt := hbox3.lt
  clear hbox3
  go_wp2_with fail
  refine bodyPost_ret (v := .tuple #[.string a, .agg #[.int .i64 f, .int .i64 t, .string b]]) (by simp [results, Tryd.results41, go_sem, q0, q1, q2]) rfl ?_
  refine ⟨a, f, t, b, rfl, ha, hb, ?_⟩
  have hB := HB.out
  clear q0 q1 q2 qf HB
  go_grown

theorem specDrawInvertPatch (A : Option Addr) (n c : Nat) (bs : List UInt8) (w : World) (h : ByteRow w A n bs) (hnc : n ≤ c) :
    Calls Tryd.prog 15 #[.slice A n c] w (TextPatch w) := by
  go_enter Tryd.func15, Tryd.ntmps15
  go_wp2_with fail
  have hbox : BoxAt (w.alloc (.cells #[.int .i64 0, .int .i64 0, .string ⟨#[]⟩] 23)) w.heap.size 0 0 ⟨#[]⟩ := heap_alloc_new w _
  have hrow : ByteRow (w.alloc (.cells #[.int .i64 0, .int .i64 0, .string ⟨#[]⟩] 23)) A n bs := h.below ((Below.refl _ _).alloc (Nat.le_refl _) _)
  refine (specDrawApplyPatch A n c bs _ hrow hnc).mono ?_
  rintro e w1 ⟨a, f, t, d, rfl, ha, hd, hb1⟩
  have hbox1 := hbox.below hb1 (Nat.le_refl _)
  have hB1 : Below w.heap.size w w1 := ((Below.refl _ _).alloc (Nat.le_refl _) _).trans (hb1.mono (by simp))
  have HB := Lib.hid hB1
  have hz1 := hB1.size
  obtain ⟨q0, q1, q2, qf⟩ := hbox1.cells
  have hlt := hbox1.lt
  clear hbox hrow hb1 hB1 hbox1
  go_wp2_with fail
  refine bodyPost_ret (v := .tuple #[.string a, .agg #[.int .i64 f, .int .i64 t, .string d]]) (by simp [results, Tryd.results15, go_sem, q0, q1, q2]) rfl ?_
  refine ⟨a, f, t, d, rfl, ha, hd, ?_⟩
  have hB := HB.out
  clear q0 q1 q2 qf HB
  go_grown

/-- A text, and new memory. -/
def NewText (M : Nat) (w : World) (e : Ending) (w' : World) : Prop := ∃ s : ByteArray, e = .returned (.string s) ∧ s.size ≤ M ∧ Below w.heap.size w w'

theorem fmtO_size (f t : Int) (d : ByteArray) : (fmtO f t d).size ≤ 10000 := by
  unfold fmtO
  split
  · rename_i hv
    have h1 := hv.1
    have h2 := hv.2.1
    have h3 := hv.2.2.1
    have z1 := decB_size f.toNat
    have z2 := decB_size t.toNat
    have z3 := dash_hex_size d hv.2.2.2
    unfold fmtP
    simp only [ByteArray.size_append]
    have h4 : (⟨#[32]⟩ : ByteArray).size = 1 := rfl
    rw [h4]
    omega
  · show 0 ≤ _; omega

set_option maxHeartbeats 2000000 in
theorem specDrawParsePatch (A : Option Addr) (n c : Nat) (bs : List UInt8) (w : World) (h : ByteRow w A n bs) (hnc : n ≤ c) :
    Calls Tryd.prog 17 #[.slice A n c] w (NewText 10001 w) := by
  go_enter Tryd.func17, Tryd.ntmps17
  go_wp2_with fail
  refine (specL9Open A n c bs _ h hnc).mono ?_
  rintro e w1 ⟨rfl, hrd, hb1⟩
  obtain ⟨g, hg⟩ : ∃ g, w.heap.size = g := ⟨_, rfl⟩
  rw [hg] at hrd hb1
  rw [hg]
  have hglt := hrd.lt
  have HGG := Lib.hid hg
  clear hg
  go_wp2_with fail
  refine (specL6Two g 0 _ hrd (by omega)).mono ?_
  rintro e w2 ⟨a, b, rfl, ha, hb, hd2⟩
  have HS := fun W => specPatchOf a b W (by omega) (by omega)
  obtain ⟨P, hP⟩ : ∃ P, pat a b = P := ⟨_, rfl⟩
  rw [hP] at HS
  obtain ⟨f, t, d, ok⟩ := P
  unfold PB.val at HS
  have HS := Lib.hid HS
  clear hP
  go_wp2_with fail
  refine (HS.out _).mono ?_
  rintro e w3 ⟨rfl, hb3⟩
  have H3 := Lib.hid (hd2.then_below hb3)
  clear hd2 hb3
  go_upto_region 4 with fail
  have H4 := Lib.hid (H3.out.alloc (.cells #[.int .i64 f, .int .i64 t, .string d] 23))
  have hq : BoxAt (w3.alloc (.cells #[.int .i64 f, .int .i64 t, .string d] 23)) w3.heap.size f t d := heap_alloc_new w3 _
  generalize w3.alloc (.cells #[.int .i64 f, .int .i64 t, .string d] 23) = w4 at H4 hq ⊢
  obtain ⟨r0, r1, r2, rf⟩ := hq.cells
  clear hq H3
  have HF := Lib.hid (fun W => specFormatPatch f t d W)
  have hfz := fmtO_size f t d
  obtain ⟨X, hX⟩ : ∃ X, fmtO f t d = X := ⟨_, rfl⟩
  rw [hX] at HF hfz
  clear hX
  go_wp2_with fail
  refine (HF.out _).mono ?_
  rintro e w5 ⟨rfl, hb5⟩
  have hd5 := H4.out.then_below hb5
  clear r0 r1 r2 rf hb5 H4
  go_wp2_with fail
  refine (specL3Bent g _ X _ hd5.rd (by omega) (by omega)).mono ?_
  rintro e w6 ⟨y, rfl, hy, hd6⟩
  have hbb := hb1.trans ((hd5.trans hd6).below (Nat.le_refl _) hglt)
  clear hd5 hd6
  go_wp2_with fail
  go_ret
  exact ⟨y, rfl, by omega, by rw [HGG.out]; exact hbb⟩

end Go.Proofs.YtlcflddjbhlloaaDoor
