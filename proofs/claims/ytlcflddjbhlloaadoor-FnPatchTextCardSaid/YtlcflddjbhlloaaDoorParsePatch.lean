/-
  The contracts of ParsePatch.
-/
import Derived.Test.YtlcflddjbhlloaaDoorParseSmall
import Derived.Test.YtlcflddjbhlloaaDoorCut
import Derived.Test.YtlcflddjbhlloaaDoorNum
import Derived.Test.YtlcflddjbhlloaaDoorDrawTwo
import Derived.Deep.CutBlock
namespace Go.Proofs.YtlcflddjbhlloaaDoor
open Go.RowKit
set_option linter.unusedVariables false

/-- A patch in a cell block. -/
def BoxAt (w : World) (g : Nat) (s t : Int) (d : ByteArray) : Prop := w.heap[g]? = some (.cells #[.int .i64 s, .int .i64 t, .string d] 23 (0, 0))

theorem BoxAt.cells {w : World} {g : Nat} {s t : Int} {d : ByteArray} (h : BoxAt w g s t d) : w.cell? ⟨g, 0, none⟩ = some (.int .i64 s) ∧ w.cell? ⟨g, 1, none⟩ = some (.int .i64 t) ∧ w.cell? ⟨g, 2, none⟩ = some (.string d) ∧ ∀ o, w.frozen? ⟨g, o, none⟩ = false := by
  refine ⟨?_, ?_, ?_, fun o => ?_⟩ <;> simp [World.cell?, World.frozen?, show w.heap[g]? = _ from h]

theorem BoxAt.lt {w : World} {g : Nat} {s t : Int} {d : ByteArray} (h : BoxAt w g s t d) : g < w.heap.size := (Array.getElem?_eq_some_iff.1 h).1

theorem BoxAt.below {w w' : World} {g C : Nat} {s t : Int} {d : ByteArray} (h : BoxAt w g s t d) (hb : Below C w w') (hC : w.heap.size ≤ C) : BoxAt w' g s t d :=
  (hb.block g (by have := h.lt; omega)).trans h

theorem BoxAt.alloc {w : World} {g : Nat} {s t : Int} {d : ByteArray} (h : BoxAt w g s t d) (x : Obj) : BoxAt (w.alloc x) g s t d := h.below ((Below.refl _ _).alloc (Nat.le_refl _) x) (Nat.le_refl _)

theorem ret_pp {t : ByteArray} {f u : Int} {d : ByteArray} {b : Bool} (h : ppOf t = ⟨f, u, d, b⟩) : Ending.returned (.tuple #[.agg #[.int .i64 f, .int .i64 u, .string d], .bool b]) = .returned (ppOf t).val := by rw [h]; rfl

theorem row_cell {w : World} {B g n : Nat} {xs : List ByteArray} {s : ByteArray} (h : Row w B 1 (some ⟨g, 0, none⟩) n (xs.map Value.string)) (j : Nat) (hj : xs[j]? = some s) : w.cell? ⟨g, j, none⟩ = some (.string s) := by
  have hl := h.1
  have hjl := (List.getElem?_eq_some_iff.1 hj).1
  obtain ⟨b, off, e, _, hc⟩ := h.2 (by simp at hl; omega)
  injection e with e
  injection e with e1 e2
  subst e1 e2
  have := hc j (.string s) (by simp [hj])
  rwa [Nat.zero_add] at this

set_option maxHeartbeats 4000000 in
theorem specParsePatch (t : ByteArray) (w : World) (ht : t.size ≤ 1048576) :
    Calls Tryd.prog 6 #[.string t] w fun e w' => e = .returned (ppOf t).val ∧ Below w.heap.size w w' := by
  obtain ⟨ps, hps⟩ : ∃ ps, cutB t = ps := ⟨_, rfl⟩
  have hsz : ∀ p ∈ ps, p.size ≤ 1048576 := fun p hp => by
    rw [← hps] at hp
    unfold cutB at hp
    obtain ⟨l, hl, rfl⟩ := List.mem_map.1 hp
    have := cutL_size t.data.toList l hl
    show l.toArray.size ≤ _
    simp at this ⊢
    omega
  have HPS := Lib.hid hps
  have HSZ := Lib.hid hsz
  clear hps hsz
  go_enter Tryd.func6, Tryd.ntmps6
  go_wp2_with fail
  have hbox0 : BoxAt (w.alloc (.cells #[.int .i64 0, .int .i64 0, .string ⟨#[]⟩] 23)) w.heap.size 0 0 ⟨#[]⟩ := heap_alloc_new w _
  refine (specL9Cut t _ ht).mono ?_
  rintro e w1 ⟨A, n, c, rfl, hown, hb1⟩
  rw [HPS.out] at hown
  have hln : ps.length = n := by have := hown.1; simpa using this
  have hbox1 := hbox0.below hb1 (Nat.le_refl _)
  have hB1 : Below w.heap.size w w1 := ((Below.refl _ _).alloc (Nat.le_refl _) _).trans (hb1.mono (by simp))
  have hz1 := hB1.size
  clear hbox0 hb1
  by_cases h3 : n = 3
  · subst h3
    obtain ⟨p0, p1, p2, hp⟩ : ∃ a b c, ps = [a, b, c] := by
      match ps, hln with
      | [a, b, c], _ => exact ⟨a, b, c, rfl⟩
    subst hp
    obtain ⟨g, rfl, hg1, hg2⟩ := own_addr hown (by omega)
    have hrow := Row.of_own hown
    have k0 := row_cell hrow 0 (s := p0) rfl
    have k1 := row_cell hrow 1 (s := p1) rfl
    have k2 := row_cell hrow 2 (s := p2) rfl
    have hc3 : (3 : Int) ≤ (c : Int) := by
      obtain ⟨_, _, hh, h, _⟩ := own_form hown
      simp only [Value.slice.injEq] at hh
      omega
    have s0 := HSZ.out p0 (by simp)
    have s1 := HSZ.out p1 (by simp)
    have s2 := HSZ.out p2 (by simp)
    have HB := Lib.hid (And.intro hbox1 hB1)
    clear hown hrow hbox1 hB1 hln
    go_wp2_with fail
    refine (specL9Num p0 _ s0).mono ?_
    rintro e w2 ⟨v0, b0, rfl, hv0, rfl⟩
    have HV0 := Lib.hid hv0
    clear hv0
    go_wp2_with fail
    refine (specL9Num p1 _ s1).mono ?_
    rintro e w2 ⟨v1, b1, rfl, hv1, rfl⟩
    have HV1 := Lib.hid hv1
    clear hv1
    go_wp2_with fail
    refine (specL3None p2 _).mono ?_
    rintro e w2 ⟨rfl, rfl⟩
    have huz : (undash p2).size ≤ 1048576 := by unfold undash; split; exact Nat.zero_le _; exact s2
    go_wp2_with fail
    refine (specParseHex (undash p2) _ huz).mono ?_
    rintro e w3 ⟨rfl, hb3⟩
    obtain ⟨d, hd⟩ : ∃ d, (unhexB (undash p2)).1 = d := ⟨_, rfl⟩
    rw [hd]
    have HD := Lib.hid (show ∀ x : ByteArray, x.size ≤ 2000 → p2 = dashB (hexOf x) → d = x from fun x hx e => by rw [← hd, e, (dash_back hx).1])
    have HB3 := Lib.hid (And.intro (HB.out.1.below hb3 (Nat.le_refl _)) (HB.out.2.trans (hb3.mono HB.out.2.size)))
    clear hd huz hb3 k0 k1 k2 HB hc3
    go_upto_region 8 with fail
    have hbx := HB3.out.1.alloc (.cells #[.int .i64 v0, .int .i64 v1, .string d] 23)
    have hBx := HB3.out.2.alloc HB3.out.2.size (.cells #[.int .i64 v0, .int .i64 v1, .string d] 23)
    go_wp2_with fail
    refine (specFormatPatch v0 v1 d _).mono ?_
    rintro e w5 ⟨rfl, hb5⟩
    have hbox5 := hbx.below hb5 (Nat.le_refl _)
    have hB5 := hBx.trans (hb5.mono hBx.size)
    have hp5 : BoxAt w5 w3.heap.size v0 v1 d := (show BoxAt (w3.alloc (.cells #[.int .i64 v0, .int .i64 v1, .string d] 23)) w3.heap.size v0 v1 d from heap_alloc_new w3 _).below hb5 (Nat.le_refl _)
    obtain ⟨q0, q1, q2, qf⟩ := hbox5.cells
    obtain ⟨r0, r1, r2, rf⟩ := hp5.cells
    have hz5 := hB5.size
    have hne := HB3.out.1.lt
    have hgne : w.heap.size ≠ w3.heap.size := by omega
    clear hbx hBx hb5 hbox5 hp5
    have HBB := Lib.hid hB5
    clear hB5
    by_cases he : fmtO v0 v1 d = t
    · have hv : pvalid v0 v1 d.size := by
        by_cases hv : pvalid v0 v1 d.size
        · exact hv
        · exfalso
          have h1 : fmtO v0 v1 d = ⟨#[]⟩ := if_neg hv
          have h2 := three_of HPS.out
          rw [← he, h1] at h2
          simp at h2
      obtain ⟨F, rfl⟩ : ∃ F : Nat, v0 = F := ⟨v0.toNat, by have := hv.1; omega⟩
      obtain ⟨T, rfl⟩ : ∃ T : Nat, v1 = T := ⟨v1.toNat, by have := hv.1; have := hv.2.1; omega⟩
      have hpp : ppOf t = ⟨F, T, d, true⟩ := pp_yes hv (by rw [← he]; unfold fmtO; rw [if_pos hv]; rfl)
      have HPP := Lib.hid hpp
      rw [he]
      clear hv hpp he
      go_wp2_with fail
      refine bodyPost_ret (v := .tuple #[.agg #[.int .i64 (F : Int), .int .i64 (T : Int), .string d], .bool true]) (by simp [results, Tryd.results6, go_sem, q0, q1, q2]) rfl ?_
      refine ⟨ret_pp HPP.out, ?_⟩
      have hB5 := HBB.out
      clear q0 q1 q2 qf r0 r1 r2 rf HBB HB3 HPP
      go_grown
    · have hpp : ppOf t = ⟨0, 0, ByteArray.empty, false⟩ := pp_no fun F T x hv e => by
        obtain ⟨e0, e1, e2⟩ := parts_of HPS.out hv.2.2.2 e
        have hF : F ≤ 2000 := by have := hv.2.1; have := hv.2.2.1; omega
        have hT : T ≤ 2000 := by have := hv.2.2.1; omega
        apply he
        rw [HV0.out F hF e0, HV1.out T hT e1, HD.out x hv.2.2.2 e2, e]
        unfold fmtO
        rw [if_pos hv]
        rfl
      have HPP := Lib.hid hpp
      have hne2 : ((fmtO v0 v1 d).toList == t.toList) = false := by
        rw [beq_eq_false_iff_ne, toList_data, toList_data]
        exact fun h => he (ba_of_list h)
      obtain ⟨X, hX⟩ : ∃ X, fmtO v0 v1 d = X := ⟨_, rfl⟩
      rw [hX] at hne2
      rw [hX]
      clear hpp he hX
      go_wp2_with fail
      refine bodyPost_ret (v := .tuple #[.agg #[.int .i64 0, .int .i64 0, .string ByteArray.empty], .bool false]) (by simp [results, Tryd.results6, go_sem, q0, q1, q2]; rfl) rfl ?_
      refine ⟨ret_pp HPP.out, ?_⟩
      have hB5 := HBB.out
      clear q0 q1 q2 qf r0 r1 r2 rf HBB HB3 HPP
      go_grown
  · have hpp : ppOf t = ⟨0, 0, ByteArray.empty, false⟩ := pp_no fun F T x hv e => by
      have h1 := cut_fmt (F := F) (T := T) hv.2.2.2
      rw [← e, HPS.out] at h1
      rw [h1] at hln
      simp at hln
      omega
    have HPP := Lib.hid hpp
    have hn3 : ((n : Int) == 3) = false := by rw [beq_eq_false_iff_ne]; omega
    obtain ⟨q0, q1, q2, qf⟩ := hbox1.cells
    clear hpp hown hbox1
    go_wp2_with fail
    refine bodyPost_ret (v := .tuple #[.agg #[.int .i64 0, .int .i64 0, .string ByteArray.empty], .bool false]) (by simp [results, Tryd.results6, go_sem, q0, q1, q2]; rfl) rfl ?_
    refine ⟨ret_pp HPP.out, ?_⟩
    clear q0 q1 q2 qf HPP
    go_grown

end Go.Proofs.YtlcflddjbhlloaaDoor
