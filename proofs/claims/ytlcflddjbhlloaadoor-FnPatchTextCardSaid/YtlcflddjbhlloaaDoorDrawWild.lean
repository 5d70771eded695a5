/-
  Draws of wild data, of two strings, and DrawPatchOf.
-/
import Derived.Test.YtlcflddjbhlloaaDoorDrawTwo
import Derived.Test.YtlcflddjbhlloaaDoorMark
import Derived.Deep.RegionHeld3
namespace Go.Proofs.YtlcflddjbhlloaaDoor
open Go.RowKit
set_option linter.unusedVariables false

theorem Dr.cell {w w1 : World} {g P : Nat} (h : Dr g P w w1) (b j : Nat) (v : Value) (hc : w.cell? ⟨b, j, none⟩ = some v) (hb : b < w.heap.size) (hne : b ≠ g) : w1.cell? ⟨b, j, none⟩ = some v :=
  (World.cell?_of_block (h.only.block b hb (fun e => by injection e with e; exact hne e))).trans hc

theorem Dr.drew {w w1 : World} {g P : Nat} (h : Dr g P w w1) : Dr g P w w1.drew := h.drewN 1

theorem new_cell2 (w : World) (H : Nat) (hH : w.heap.size = H) (e : TypeId) (cs : List Value) (o : Obj) (j : Nat) (u : Value) (hu : cs[j]? = some u) : ((w.alloc (.cells cs.toArray e)).alloc o).cell? ⟨H, j, none⟩ = some u := by
  rw [World.cell?_alloc_lt _ _ _ (by subst hH; simp)]
  exact new_cell w H hH e cs j u hu

set_option maxHeartbeats 4000000 in
theorem specL1Wild (g P : Nat) (s : ByteArray) (w : World) (h : RdAt w g P) (hP : P ≤ 800000) (hs : s.size ≤ 100000) :
    Calls Tryd.prog 30 #[.pointer (some ⟨g, 0, none⟩), .string s] w (DrawStr g (P + 2) (max (s.size + 1) 2001) w) := by
  have hg := h.lt
  have hcv := fun W a h => run_one_byte (P := Tryd.prog) Tryd.underlying28 Tryd.underlying5 Tryd.underlying9 255 (by omega) W a h
  have hcv0 := fun W a h => run_one_byte (P := Tryd.prog) Tryd.underlying28 Tryd.underlying5 Tryd.underlying9 0 (by omega) W a h
  simp only [Int.cast_ofNat_Int] at hcv hcv0
  have hadd : ∀ W, (Op.stringOp .add s ⟨#[UInt8.ofNat 255]⟩).run Tryd.prog W = .ok (.string (s ++ ⟨#[UInt8.ofNat 255]⟩)) W := fun W => run_string_add_sum W _ _ (by show s.size + 1 ≤ _; omega)
  go_enter Tryd.func30, Tryd.ntmps30
  go_wp2_with fail
  refine (specPick g P 40 _ h (by omega) (by omega) (by omega)).mono ?_
  rintro e w1 ⟨r, rfl, hr1, _, hd1⟩
  clear hr1
  by_cases h0 : r = 0
  · subst h0
    go_wp2_with fail
    go_ret
    exact ⟨_, rfl, by rw [ByteArray.size_append]; show s.size + 1 ≤ _; omega, (hd1.alloc _).more (by omega)⟩
  · by_cases h1 : r = 1
    · subst h1
      have hz1 := hd1.size
      have HH := Lib.hid hd1
      go_wp2_with fail
      go_region_with (first
        | (go_at_call 32; refine (specNum g (P + 1) _ [2000, 2001] 2 2 _ (by first | exact (HH.out.rd.alloc _).alloc _ | exact HH.out.rd.alloc _) (by omega) rfl (by omega) (by omega) (by intro j z hz; first | exact new_cell _ _ (by solve | (simp; done) | (simp; omega)) _ ([2000, 2001].map (Value.int .i64)) j _ (by rw [List.getElem?_map, hz]; rfl) | exact new_cell2 _ _ (by solve | (simp; done) | (simp; omega)) _ ([2000, 2001].map (Value.int .i64)) _ j _ (by rw [List.getElem?_map, hz]; rfl)) (by first | omega | (simp; omega)) (by solve | (simp; done) | (simp; omega))).mono ?_; rintro e wn ⟨z, hz, rfl, hdn⟩; (first
            | have hbc : wn.cell? ⟨w1.heap.size, 0, none⟩ = some (.int .u8 0) := hdn.cell _ 0 (.int .u8 0) (by first | exact new_cell _ _ (by solve | (simp; done) | (simp; omega)) _ [.int .u8 0] 0 _ rfl | exact new_cell2 _ _ (by solve | (simp; done) | (simp; omega)) _ [.int .u8 0] _ 0 _ rfl) (by solve | (simp; done) | (simp; omega)) (by omega)
            | have hbc : wn.cell? ⟨w1.heap.size + 1, 0, none⟩ = some (.int .u8 0) := hdn.cell _ 0 (.int .u8 0) (by first | exact new_cell _ _ (by solve | (simp; done) | (simp; omega)) _ [.int .u8 0] 0 _ rfl | exact new_cell2 _ _ (by solve | (simp; done) | (simp; omega)) _ [.int .u8 0] _ 0 _ rfl) (by solve | (simp; done) | (simp; omega)) (by omega)
            | skip))
        | (go_at_call 31; refine (specL9Many ⟨#[UInt8.ofNat 0]⟩ _ _ (by show 1 ≤ 1048576; omega) (by simp at hz; omega) (by show 1 * _ ≤ _; simp at hz; omega)).mono ?_; rintro e wm ⟨rfl, rfl⟩))
      all_goals
        go_wp2_with fail
        go_ret
        refine ⟨_, rfl, by rw [repB_size]; show 1 * _ ≤ _; simp at hz; omega, ?_⟩
        first
          | exact ((HH.out.alloc _).alloc _).drew.trans hdn
          | exact ((HH.out.alloc _).drew.trans hdn).alloc _
    · go_wp2_with fail
      go_ret
      exact ⟨s, rfl, by omega, hd1.more (by omega)⟩

end Go.Proofs.YtlcflddjbhlloaaDoor
