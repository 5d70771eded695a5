/-
  Draws of two strings; DrawPatchOf.
-/
import Derived.Test.YtlcflddjbhlloaaDoorDrawWild
namespace Go.Proofs.YtlcflddjbhlloaaDoor
open Go.RowKit
set_option linter.unusedVariables false

/-- Two drawn strings. -/
def DrawTwo (g P M : Nat) (w : World) (e : Ending) (w' : World) : Prop := ∃ s t : ByteArray, e = .returned (.tuple #[.string s, .string t]) ∧ s.size ≤ M ∧ t.size ≤ M ∧ Dr g P w w'

set_option maxHeartbeats 4000000 in
theorem specL6Two (g P : Nat) (w : World) (h : RdAt w g P) (hP : P ≤ 700000) :
    Calls Tryd.prog 28 #[.pointer (some ⟨g, 0, none⟩)] w (DrawTwo g (P + 93) 30 w) := by
  have hg := h.lt
  go_enter Tryd.func28, Tryd.ntmps28
  go_wp2_with fail
  refine (specL1Some g P _ h (by omega)).mono ?_
  rintro e w1 ⟨o, l, m, rfl, ho, hl1, hl8, hlm, hm, hd1⟩
  have hz1 := hd1.size
  have HD := fun (n P : Nat) (W : World) (h1 : RdAt W g P) (h2 : P ≤ 800000) (h3 : n ≤ 5000) => specL1Data g P o l m n W h1 h2 hl1 hl8 h3
  unfold setV at HD ⊢
  have HD := Lib.hid HD
  obtain ⟨b, hb⟩ : ∃ b, w1.heap.size = b := ⟨_, rfl⟩
  have hset : SetAt (w1.alloc (.cells #[.int .i64 (o : Int), .int .i64 (l : Int), .int .i64 (m : Int)] 70)) b o l m := by
    subst hb
    exact heap_alloc_new w1 _
  have hbg : b ≠ g := by omega
  have hdA := hd1.alloc (.cells #[.int .i64 (o : Int), .int .i64 (l : Int), .int .i64 (m : Int)] 70)
  clear hd1
  go_wp2_with fail
  refine (HD.out 12 (P + 5) _ hdA.rd (by omega) (by omega)).mono ?_
  rintro e w2 ⟨f, rfl, hf, hd2⟩
  have hset2 := hset.dr hd2 hbg
  have hd2' := hdA.trans hd2
  have hz2 := hd2'.size
  obtain ⟨q0, q1, q2⟩ := hset2.cells
  clear hset hdA hd2
  go_wp2_with fail
  refine (HD.out 12 (P + 33) _ (hd2'.rd.more (by omega)) (by omega) (by omega)).mono ?_
  rintro e w3 ⟨a, rfl, ha, hd3⟩
  have hset3 := hset2.dr hd3 hbg
  have hd3' := hd2'.trans hd3
  have hz3 := hd3'.size
  clear q0 q1 q2
  obtain ⟨q0, q1, q2⟩ := hset3.cells
  clear hset2 hd2' hd3
  have HS3 := Lib.hid (And.intro hset3 hd3')
  clear hset3 hd3'
  go_wp2_with fail
  go_region_with (first
    | (go_at_call 54; refine (HD.out 6 (P + 77) _ (hd4.rd.more (by omega)) (by omega) (by omega)).mono ?_; rintro e w5 ⟨t2, rfl, ht2, hd5⟩;
        have hb1 : ∀ W, (Op.stringOp .add f t2).run Tryd.prog W = .ok (.string (f ++ t2)) W := fun W => run_string_add_sum W _ _ (by omega);
        have hb2 : ∀ W, (Op.stringOp .add (f ++ t2) a).run Tryd.prog W = .ok (.string (f ++ t2 ++ a)) W := fun W => run_string_add_sum W _ _ (by rw [ByteArray.size_append]; omega))
    | (go_at_call 54; refine (HD.out 6 (P + 61) _ (show RdAt w3.drew g (P + 61) from HS3.out.2.rd.more (by omega)) (by omega) (by omega)).mono ?_; rintro e w4 ⟨t1, rfl, ht1, hd4⟩;
        obtain ⟨z0, z1, z2⟩ := ((show SetAt w3.drew b o l m from HS3.out.1).dr hd4 hbg).cells;
        have ha1 : ∀ W, (Op.stringOp .add f t1).run Tryd.prog W = .ok (.string (f ++ t1)) W := fun W => run_string_add_sum W _ _ (by omega);
        have ha2 : ∀ W, (Op.stringOp .add (f ++ t1) a).run Tryd.prog W = .ok (.string (f ++ t1 ++ a)) W := fun W => run_string_add_sum W _ _ (by rw [ByteArray.size_append]; omega)))
  all_goals
    go_wp2_with fail
    go_returns
    exact ⟨_, _, rfl, by rw [ByteArray.size_append, ByteArray.size_append]; omega, by rw [ByteArray.size_append, ByteArray.size_append]; omega, ((HS3.out.2.drew.trans hd4).trans hd5).more (by omega)⟩

/-- Two strings that are not too long, and new memory. -/
def TwoStrs (M K : Nat) (w : World) (e : Ending) (w' : World) : Prop := ∃ s t : ByteArray, e = .returned (.tuple #[.string s, .string t]) ∧ s.size ≤ M ∧ t.size ≤ K ∧ Below w.heap.size w w'

set_option maxHeartbeats 2000000 in
theorem specDrawPatchOf (A : Option Addr) (n c : Nat) (bs : List UInt8) (w : World) (h : ByteRow w A n bs) (hnc : n ≤ c) :
    Calls Tryd.prog 9 #[.slice A n c] w (TwoStrs 2002 30 w) := by
  go_enter Tryd.func9, Tryd.ntmps9
  go_wp2_with fail
  refine (specL9Open A n c bs _ h hnc).mono ?_
  rintro e w1 ⟨rfl, hrd, hb1⟩
  have hz1 := hb1.size
  have hglt := hrd.lt
  obtain ⟨g, hg⟩ : ∃ g, w.heap.size = g := ⟨_, rfl⟩
  rw [hg] at hrd hb1 hz1 hglt
  rw [hg]
  have HGG := Lib.hid hg
  clear hg
  go_wp2_with fail
  refine (specL6Two g 0 _ hrd (by omega)).mono ?_
  rintro e w2 ⟨a, b, rfl, ha, hb, hd2⟩
  have hz2 := hd2.size
  go_wp2_with fail
  refine (specPick g (0 + 93) 24 _ hd2.rd (by omega) (by omega) (by omega)).mono ?_
  rintro e w3 ⟨r, rfl, hr, _, hd3⟩
  have hd3' := hd2.trans hd3
  have hz3 := hd3'.size
  clear hr hd2 hd3
  by_cases h0 : r = 0
  · subst h0
    go_wp2_with fail
    refine (specNum g 94 w3.heap.size [2000, 2001] 2 2 _ ((hd3'.rd.more (by omega)).alloc _) (by omega) rfl (by omega) (by omega) (fun j z hz => new_cell _ _ rfl _ ([2000, 2001].map (Value.int .i64)) j _ (by rw [List.getElem?_map, hz]; rfl)) (by omega) (by simp)).mono ?_
    rintro e w4 ⟨z, hz, rfl, hd4⟩
    have hd4' := (hd3'.alloc _).trans hd4
    have hz4 := hd4'.size
    have hzz : 0 ≤ z ∧ z ≤ 2001 := by simp at hz; omega
    clear hd3' hd4 hz
    go_wp2_with fail
    refine (specL9Many ⟨#[97]⟩ z _ (by show 1 ≤ 1048576; omega) (by omega) (by show 1 * _ ≤ _; omega)).mono ?_
    rintro e w5 ⟨rfl, rfl⟩
    have hsz := repB_size ⟨#[97]⟩ z.toNat
    have hs1 : (⟨#[97]⟩ : ByteArray).size = 1 := rfl
    rw [hs1] at hsz
    obtain ⟨t, ht⟩ : ∃ t, repB ⟨#[97]⟩ z.toNat = t := ⟨_, rfl⟩
    rw [ht] at hsz
    rw [ht]
    clear ht hs1
    have htz : t.size ≤ 2001 := by omega
    go_wp2_with fail
    refine (specL1Wild g 95 t _ (hd4'.rd.more (by omega)) (by omega) (by omega)).mono ?_
    rintro e w6 ⟨u, rfl, hu, hd6⟩
    have hbb := hb1.trans ((hd4'.trans hd6).below (Nat.le_refl _) hglt)
    clear hd4' hd6
    go_wp2_with fail
    go_returns
    exact ⟨u, b, rfl, by omega, hb, by rw [HGG.out]; exact hbb⟩
  · have hbb := hb1.trans (hd3'.below (Nat.le_refl _) hglt)
    clear hd3'
    go_wp2_with fail
    go_returns
    exact ⟨a, b, rfl, by omega, hb, by rw [HGG.out]; exact hbb⟩

end Go.Proofs.YtlcflddjbhlloaaDoor
