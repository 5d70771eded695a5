/-
  The contracts of JoinContainers, of the program and of the reference: both make the same container of the blocks of two.
  The contracts of TakeBlocks, of the program and of the reference: both make the same container of some blocks of another one.
-/
import Derived.Test.YtopklampiaecdaaGreatMakeC
import Derived.Test.YtopklampiaecdaaGreatContSpec

namespace Go.Proofs.YtopklampiaecdaaGreat
open Go.RowKit
set_option linter.unusedVariables false

/-- What JoinContainers returns. -/
def joinC : Option (List Blk) → Option (List Blk) → Option ByteArray
  | some x, some y => mkC (x ++ y)
  | _, _ => none

end Go.Proofs.YtopklampiaecdaaGreat

namespace Go.Proofs.YtopklampiaecdaaGreat
open Go.RowKit
set_option linter.unusedVariables false

/-- A part of a slice that one reads. -/
theorem Row.sub {w : World} {B size n c l r : Nat} {A : Option Addr} {xs : List Value} (h : Row w B size A n xs) (hl : l ≤ r) (hr : r ≤ n) (hc : n ≤ c) :
    Row w B size (if c = l then A else A.map (·.add (l * size))) (r - l) ((xs.drop (l * size)).take ((r - l) * size)) := by
  have h1 : r * size ≤ n * size := Nat.mul_le_mul_right _ hr
  have h2 : (r - l) * size = r * size - l * size := Nat.sub_mul _ _ _
  refine ⟨by rw [List.length_take, List.length_drop, h.1]; omega, fun hn => ?_⟩
  obtain ⟨b, off, e, hb, hcell⟩ := h.2 (by omega)
  subst e
  refine ⟨b, off + l * size, by rw [if_neg (by omega), Option.map_some, addr_add], hb, fun j u hu => ?_⟩
  rw [List.getElem?_take] at hu
  split at hu
  · rw [List.getElem?_drop] at hu
    rw [Nat.add_assoc]
    exact hcell _ _ hu
  · cases hu

/-- 'x[l:r]' of a slice that one reads. -/
theorem run_sub {P : Program} {w : World} {t e : TypeId} {z : Value} {B size bytes n c l r : Nat} {A : Option Addr} {xs : List Value} (el : Elem P t e z size bytes) (h : Row w B size A n xs) (hl : l ≤ r) (hr : r ≤ n) (hc : n ≤ c) :
    ∃ A' c', (∀ W, (Instr.slice t (.slice A n c) (some (.int .i64 (l : Int))) (some (.int .i64 (r : Int))) none).run P W = .ok (.slice A' (r - l) c') W) ∧ Row w B size A' (r - l) ((xs.drop (l * size)).take ((r - l) * size)) := by
  obtain ⟨i, hi, hz, hsize, hby⟩ := info_parts el.hinfo
  refine ⟨_, c - l, fun W => ?_, h.sub hl hr hc⟩
  have he : P.elem t = e := by simp [Program.elem, el.ht]
  have ht' : P.underlying t = some (.slice (P.elem t)) := by rw [he]; exact el.ht
  have hs : (sizeOf (P.elem t)).run P W = .ok size W := by rw [he]; simp [sizeOf, typeInfo, hi, hsize]
  rw [run_slice_lh W t A n c ht' .i64 .i64 _ _ (by omega) (by omega) (by omega), hs]
  simp only [Result.andThen, sliced, Int.toNat_natCast]

/-- When some blocks can be taken. -/
def takeOk (n : Nat) (first k : Int) : Prop := 0 ≤ first ∧ first ≤ n ∧ 0 ≤ k ∧ k ≤ (n : Int) - first

instance (n : Nat) (first k : Int) : Decidable (takeOk n first k) := by unfold takeOk; infer_instance

/-- What TakeBlocks returns. -/
def takeC (o : Option (List Blk)) (first k : Int) : Option ByteArray :=
  match o with
  | some bs => if takeOk bs.length first k then mkC ((bs.drop first.toNat).take k.toNat) else none
  | none => none

theorem takeC_no {bs : List Blk} {first k : Int} (h : ¬ takeOk bs.length first k) : takeC (some bs) first k = none := if_neg h

theorem takeC_yes {bs : List Blk} {f k : Nat} (h : f + k ≤ bs.length) : takeC (some bs) (f : Int) (k : Int) = mkC ((bs.drop f).take k) := by
  unfold takeC
  simp only [Int.toNat_natCast]
  exact if_pos ⟨by omega, by omega, by omega, by omega⟩

theorem sub_okb {bs : List Blk} (h : Numbered bs) (f k : Nat) : ∀ b ∈ (bs.drop f).take k, b.okb := fun b hb => Blk.okb_of (h.of_mem (List.mem_of_mem_drop (List.mem_of_mem_take hb)))

theorem sub_szs {bs : List Blk} (h : Numbered bs) (f k : Nat) : szs ((bs.drop f).take k) ≤ 1048576 := by
  have h1 := szs_le (bs := (bs.drop f).take k) fun b hb => h.of_mem (List.mem_of_mem_drop (List.mem_of_mem_take hb))
  have h2 := h.length
  have h3 : ((bs.drop f).take k).length ≤ bs.length := by rw [List.length_take, List.length_drop]; omega
  omega

end Go.Proofs.YtopklampiaecdaaGreat
