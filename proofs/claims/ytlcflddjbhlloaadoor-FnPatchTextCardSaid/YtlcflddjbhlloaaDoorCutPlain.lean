/-
  A text cut at its spaces: plain facts.
-/
import Derived.Test.YtlcflddjbhlloaaDoorMem
import Derived.Lib.SplitLaws
import Derived.Lib.IndexLaws
import Derived.Lib.IndexBytes
namespace Go.Proofs.YtlcflddjbhlloaaDoor
set_option linter.unusedVariables false

/-- The pieces of a text between its spaces. -/
def cutL : List UInt8 → List (List UInt8)
  | [] => [[]]
  | c :: r => if c = 32 then [] :: cutL r else match cutL r with
    | [] => [[c]]
    | p :: ps => (c :: p) :: ps

theorem cutL_ne (l : List UInt8) : ∃ p ps, cutL l = p :: ps := by
  cases l with
  | nil => exact ⟨[], [], rfl⟩
  | cons c r =>
    unfold cutL
    split
    · exact ⟨_, _, rfl⟩
    · split
      · exact ⟨_, _, rfl⟩
      · exact ⟨_, _, rfl⟩

theorem cutL_none : ∀ (a : List UInt8), (32 : UInt8) ∉ a → cutL a = [a]
  | [], _ => rfl
  | c :: r, h => by
    have h1 : c ≠ 32 := fun e => h (by simp [e])
    have h2 := cutL_none r (fun e => h (List.mem_cons_of_mem _ e))
    unfold cutL
    rw [if_neg h1, h2]

theorem cutL_at : ∀ (a b : List UInt8), (32 : UInt8) ∉ a → cutL (a ++ 32 :: b) = a :: cutL b
  | [], b, _ => by simp [cutL]
  | c :: r, b, h => by
    have h1 : c ≠ 32 := fun e => h (by simp [e])
    have h2 := cutL_at r b (fun e => h (List.mem_cons_of_mem _ e))
    rw [List.cons_append, cutL, if_neg h1, h2]

theorem cutL_mem : ∀ (l : List UInt8) (p : List UInt8), p ∈ cutL l → (32 : UInt8) ∉ p
  | [], p, h => by simp [cutL] at h; subst h; simp
  | c :: r, p, h => by
    unfold cutL at h
    split at h
    · rcases List.mem_cons.1 h with rfl | h
      · simp
      · exact cutL_mem r p h
    · rename_i hc
      obtain ⟨q, qs, e⟩ := cutL_ne r
      rw [e] at h
      simp only at h
      rcases List.mem_cons.1 h with rfl | h
      · have := cutL_mem r q (by rw [e]; simp)
        simp only [List.mem_cons, not_or]
        exact ⟨fun e => hc e.symm, this⟩
      · exact cutL_mem r p (by rw [e]; exact List.mem_cons_of_mem _ h)

theorem cutL_size : ∀ (l : List UInt8) (p : List UInt8), p ∈ cutL l → p.length ≤ l.length
  | [], p, h => by simp [cutL] at h; subst h; simp
  | c :: r, p, h => by
    unfold cutL at h
    split at h
    · rcases List.mem_cons.1 h with rfl | h
      · simp
      · have := cutL_size r p h; simp; omega
    · obtain ⟨q, qs, e⟩ := cutL_ne r
      rw [e] at h
      simp only at h
      rcases List.mem_cons.1 h with rfl | h
      · have := cutL_size r q (by rw [e]; simp); simp; omega
      · have := cutL_size r p (by rw [e]; exact List.mem_cons_of_mem _ h); simp; omega

/-- Pieces joined by spaces. -/
def joinL : List (List UInt8) → List UInt8
  | [] => []
  | [p] => p
  | p :: q :: r => p ++ 32 :: joinL (q :: r)

theorem joinL_cut : ∀ l : List UInt8, joinL (cutL l) = l
  | [] => rfl
  | c :: r => by
    have ih := joinL_cut r
    obtain ⟨q, qs, e⟩ := cutL_ne r
    rw [e] at ih
    unfold cutL
    split
    · rename_i hc
      rw [e]
      simp only [joinL, List.nil_append]
      rw [ih, hc]
    · rw [e]
      simp only
      cases qs with
      | nil => simp only [joinL] at ih ⊢; rw [ih]
      | cons q2 qs => simp only [joinL, List.cons_append] at ih ⊢; rw [ih]

theorem cut_three {l a b c : List UInt8} (h : cutL l = [a, b, c]) : l = a ++ 32 :: (b ++ 32 :: c) ∧ (32 : UInt8) ∉ a ∧ (32 : UInt8) ∉ b ∧ (32 : UInt8) ∉ c := by
  refine ⟨?_, cutL_mem l a (by rw [h]; simp), cutL_mem l b (by rw [h]; simp), cutL_mem l c (by rw [h]; simp)⟩
  have := joinL_cut l
  rw [h] at this
  exact this.symm

theorem three_cut {a b c : List UInt8} (ha : (32 : UInt8) ∉ a) (hb : (32 : UInt8) ∉ b) (hc : (32 : UInt8) ∉ c) : cutL (a ++ 32 :: (b ++ 32 :: c)) = [a, b, c] := by
  rw [cutL_at a _ ha, cutL_at b _ hb, cutL_none c hc]

/-- The pieces as strings. -/
def cutB (s : ByteArray) : List ByteArray := (cutL s.data.toList).map fun l => ⟨l.toArray⟩

theorem indexByte_at : ∀ (a b : List UInt8), (32 : UInt8) ∉ a → Lib.indexByte (a ++ 32 :: b) 32 = (a.length : Int)
  | [], b, _ => by simp [Lib.indexByte]
  | c :: r, b, h => by
    have h1 : (c == (32 : UInt8)) = false := by rw [beq_eq_false_iff_ne]; exact fun e => h (by simp [e])
    have h2 := indexByte_at r b (fun e => h (List.mem_cons_of_mem _ e))
    rw [List.cons_append, Lib.indexByte, h1, h2]
    have h3 : ((r.length : Int) == -1) = false := by rw [beq_eq_false_iff_ne]; omega
    simp [h3]

theorem splitK_cut : ∀ (n : Nat) (l : List UInt8), l.length ≤ n → Lib.splitK [32] 0 (l.count 32) l = cutL l := by
  intro n
  induction n with
  | zero =>
    intro l hl
    have : l = [] := List.eq_nil_of_length_eq_zero (by omega)
    subst this
    rfl
  | succ n ih =>
    intro l hl
    by_cases hm : (32 : UInt8) ∈ l
    · obtain ⟨a, b, rfl, ha⟩ := List.eq_append_cons_of_mem hm
      have hc : (a ++ 32 :: b).count 32 = b.count 32 + 1 := by
        rw [List.count_append, List.count_cons_self, List.count_eq_zero_of_not_mem ha]; omega
      have hi : Lib.index (a ++ 32 :: b) [32] = (a.length : Int) := by rw [Lib.index_one, indexByte_at a b ha]
      have h3 : ((a.length : Int) == -1) = false := by rw [beq_eq_false_iff_ne]; omega
      rw [hc, Lib.splitK, hi, h3, cutL_at a b ha]
      simp only [Bool.false_eq_true, if_false, Int.toNat_natCast, Nat.add_zero, List.length_cons, List.length_nil, Nat.zero_add]
      rw [List.take_append_of_le_length (Nat.le_refl _), List.take_length, show a ++ (32 : UInt8) :: b = a ++ [32] ++ b by simp, List.drop_append_of_le_length (by simp), List.drop_of_length_le (by simp), List.nil_append]
      rw [ih b (by simp at hl; omega)]
    · rw [List.count_eq_zero_of_not_mem hm, cutL_none l hm]
      rfl

theorem splitB_cut (s : ByteArray) : Lib.splitB ⟨#[32]⟩ 0 (Lib.countB s ⟨#[32]⟩) s = cutB s := by
  have h1 := Lib.splitB_data ⟨#[32]⟩ 0 (Lib.countB s ⟨#[32]⟩) s
  have h2 : Lib.countB s ⟨#[32]⟩ = s.data.toList.count 32 := Lib.count_one 32 s.data.toList
  have h3 := splitK_cut s.data.toList.length s.data.toList (Nat.le_refl _)
  rw [h2] at h1 ⊢
  have h4 : (Lib.splitB ⟨#[32]⟩ 0 (s.data.toList.count 32) s).map (·.data.toList) = cutL s.data.toList := h1.trans h3
  unfold cutB
  rw [← h4, List.map_map]
  conv => lhs; rw [← List.map_id (Lib.splitB ⟨#[32]⟩ 0 (s.data.toList.count 32) s)]
  apply List.map_congr_left
  intro x _
  rfl

theorem cutB_length (s : ByteArray) : (cutB s).length = Lib.countB s ⟨#[32]⟩ + 1 := by
  rw [← splitB_cut, Lib.splitB_all _ (by show 1 ≤ 1; omega) 0 _ _ rfl]

end Go.Proofs.YtlcflddjbhlloaaDoor
