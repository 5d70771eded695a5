/-
  The contracts of LostNumbers, of the program and of the reference: the numbers without pieces.
-/
import Derived.Test.YtcafejahdiedpaaPcValid
import Derived.Test.YtcafejahdiedpaaPcLaw
namespace Go.Proofs.Ytcafejahdiedpaa
open Go.RowKit
set_option linter.unusedVariables false

theorem ba_nil {a : ByteArray} (h : a.toList = []) : a = ByteArray.empty := by
  rw [ByteArray.toList_eq] at h
  exact ByteArray.ext (Array.toList_inj.1 h)

/-- Whether there is a piece with a number. -/
def hasN (ps : List Pc) (m : Int) : Bool := ps.any fun p => decide (p.num = m)

/-- The data of the first piece with a number. -/
def dataN : List Pc → Int → ByteArray
  | [], _ => ByteArray.empty
  | p :: ps, m => if p.num = m then p.data else dataN ps m

theorem pcScan_all {lim b : Int} {ps : List Pc} (h : pcScan lim b ps = true) :
    (∀ p ∈ ps, 0 ≤ p.num ∧ p.num ≤ lim ∧ b < p.num ∧ 1 ≤ p.data.size ∧ p.data.size ≤ 64) ∧ ps.Pairwise fun p q => p.num < q.num := by
  induction ps generalizing b with
  | nil => exact ⟨fun p hp => by simp at hp, List.Pairwise.nil⟩
  | cons x xs ih =>
    simp only [pcScan] at h
    split at h
    · rename_i hx
      obtain ⟨h1, h2⟩ := ih h
      refine ⟨fun p hp => ?_, List.Pairwise.cons (fun q hq => (h1 q hq).2.2.1) h2⟩
      rcases List.mem_cons.1 hp with rfl | hp
      · exact hx
      · have := h1 p hp
        exact ⟨this.1, this.2.1, by omega, this.2.2.2⟩
    · cases h

theorem pcOk_asc {ps : List Pc} {count : Int} (h : pcOk ps count) {i j : Nat} {p q : Pc} (hij : i < j) (hp : ps[i]? = some p) (hq : ps[j]? = some q) : p.num < q.num := by
  have h2 := (pcScan_all h.2.2).2
  obtain ⟨hi, rfl⟩ := List.getElem?_eq_some_iff.1 hp
  obtain ⟨hj, rfl⟩ := List.getElem?_eq_some_iff.1 hq
  exact List.pairwise_iff_getElem.1 h2 i j hi hj hij

theorem pcOk_mem {ps : List Pc} {count : Int} (h : pcOk ps count) {p : Pc} (hp : p ∈ ps) : 0 ≤ p.num ∧ p.num ≤ count - 1 ∧ -1 < p.num ∧ 1 ≤ p.data.size ∧ p.data.size ≤ 64 := (pcScan_all h.2.2).1 p hp

theorem dataN_not {ps : List Pc} {m : Int} (h : hasN ps m = false) : dataN ps m = ByteArray.empty := by
  induction ps with
  | nil => rfl
  | cons x xs ih =>
    simp only [hasN, List.any_cons, Bool.or_eq_false_iff, decide_eq_false_iff_not] at h
    simp only [dataN]
    rw [if_neg h.1]
    exact ih h.2

theorem dataN_mem {ps : List Pc} {m : Int} (h : hasN ps m = true) : ∃ p ∈ ps, p.num = m ∧ dataN ps m = p.data := by
  induction ps with
  | nil => simp [hasN] at h
  | cons x xs ih =>
    by_cases hx : x.num = m
    · exact ⟨x, List.mem_cons_self .., hx, by simp [dataN, hx]⟩
    · have : hasN xs m = true := by simpa [hasN, hx] using h
      obtain ⟨p, hp, h1, h2⟩ := ih this
      exact ⟨p, List.mem_cons_of_mem _ hp, h1, by simp [dataN, hx, h2]⟩

theorem dataN_size {ps : List Pc} {count m : Int} (h : pcOk ps count) : (dataN ps m).size ≤ 64 ∧ (hasN ps m = true → 1 ≤ (dataN ps m).size) := by
  rcases hm : hasN ps m with _ | _
  · rw [dataN_not hm]; exact ⟨Nat.zero_le _, fun h => by cases h⟩
  · obtain ⟨p, hp, _, h2⟩ := dataN_mem hm
    have := pcOk_mem h hp
    rw [h2]; exact ⟨this.2.2.2.2, fun _ => this.2.2.2.1⟩

/-- The numbers below a count without pieces. -/
def lostI (ps : List Pc) (n : Nat) : List Int := ((List.range n).filter fun m : Nat => !hasN ps (m : Int)).map fun m : Nat => (m : Int)

theorem lostI_yes {ps : List Pc} {m : Nat} (h : hasN ps m = true) : lostI ps (m + 1) = lostI ps m := by
  unfold lostI; rw [List.range_succ, List.filter_append]; simp [h]

theorem lostI_no {ps : List Pc} {m : Nat} (h : hasN ps m = false) : lostI ps (m + 1) = lostI ps m ++ [(m : Int)] := by
  unfold lostI; rw [List.range_succ, List.filter_append]; simp [h]

theorem lostI_length (ps : List Pc) (n : Nat) : (lostI ps n).length ≤ n := by
  unfold lostI
  rw [List.length_map]
  have := List.length_filter_le (fun m : Nat => !hasN ps (m : Int)) (List.range n)
  simpa using this

instance (ps : List Pc) (count : Int) : Decidable (pcOk ps count) := by unfold pcOk; infer_instance

/-- What LostNumbers returns. -/
def lostOf (ps : List Pc) (count : Int) : List Int := if pcOk ps count then lostI ps count.toNat else []

/-- New memory that holds numbers. -/
def IntsPost (W : World) (zs : List Int) (e : Ending) (w' : World) : Prop :=
  ∃ A c, e = .returned (.slice A zs.length c) ∧ w'.ownsRow W.heap.size 3 1 (.slice A zs.length c) zs.length (zs.map intV) ∧ Below W.heap.size W w'

/-- The first k pieces are those with numbers below m. -/
def SplitAt (ps : List Pc) (k : Nat) (m : Int) : Prop := ∀ (i : Nat) (p : Pc), ps[i]? = some p → (i < k ↔ p.num < m)

theorem split_hit {ps : List Pc} {count : Int} (h : pcOk ps count) {k : Nat} {m : Int} {p : Pc} (hs : SplitAt ps k m) (hp : ps[k]? = some p) (hm : p.num = m) : SplitAt ps (k + 1) (m + 1) := by
  intro i q hq
  rcases Nat.lt_trichotomy i k with hi | hi | hi
  · have := (hs i q hq).1 hi
    exact ⟨fun _ => by omega, fun _ => by omega⟩
  · subst hi
    rw [hp] at hq
    injection hq with hq
    subst hq
    exact ⟨fun _ => by omega, fun _ => by omega⟩
  · have := pcOk_asc h hi hp hq
    exact ⟨fun _ => by omega, fun _ => by omega⟩

theorem split_miss {ps : List Pc} {count : Int} (h : pcOk ps count) {k : Nat} {m : Int} (hs : SplitAt ps k m) (hp : ∀ p, ps[k]? = some p → p.num ≠ m) : SplitAt ps k (m + 1) ∧ hasN ps m = false := by
  have key : ∀ (i : Nat) (q : Pc), ps[i]? = some q → k ≤ i → m < q.num := by
    intro i q hq hi
    have h1 : ¬ q.num < m := fun hh => by have := (hs i q hq).2 hh; omega
    rcases Nat.eq_or_lt_of_le hi with rfl | hi
    · have := hp q hq; omega
    · have hki : k < ps.length := by have := (List.getElem?_eq_some_iff.1 hq).1; omega
      have hk := List.getElem?_eq_getElem hki
      have h2 := hp _ hk
      have h3 : ¬ (ps[k]'hki).num < m := fun hh => by have := (hs k _ hk).2 hh; omega
      have := pcOk_asc h hi hk hq
      omega
  constructor
  · intro i q hq
    constructor
    · intro hi
      have := (hs i q hq).1 hi; omega
    · intro hq2
      rcases Nat.lt_or_ge i k with hi | hi
      · exact hi
      · have := key i q hq hi; omega
  · unfold hasN
    rw [List.any_eq_false]
    intro q hq
    obtain ⟨i, hi, rfl⟩ := List.mem_iff_getElem.1 hq
    have hg := List.getElem?_eq_getElem hi
    simp only [decide_eq_true_eq]
    rcases Nat.lt_or_ge i k with hik | hik
    · have := (hs i _ hg).1 hik; omega
    · have := key i _ hg hik; omega

theorem split_has {ps : List Pc} {k : Nat} {m : Int} {p : Pc} (hp : ps[k]? = some p) (hm : p.num = m) : hasN ps m = true := by
  unfold hasN
  rw [List.any_eq_true]
  exact ⟨p, List.mem_of_getElem? hp, by simpa using hm⟩

theorem split_zero {ps : List Pc} {count : Int} (h : pcOk ps count) : SplitAt ps 0 0 := by
  intro i p hp
  have := pcOk_mem h (List.mem_of_getElem? hp)
  exact ⟨fun hh => absurd hh (by omega), fun hh => by omega⟩

set_option maxHeartbeats 400000 in
theorem specL7Has (A : Option Addr) (n c B : Nat) (ps : List Pc) (m : Int) (w : World) (h : Row w B 2 A n (cellsP ps)) (hn : n ≤ 1048576) :
    Calls Try.prog 65 #[.slice A n c, .int .i64 m] w fun e w' => e = .returned (.string (dataN ps m)) ∧ w = w' := by
  have hlen := h.len2
  obtain ⟨R, hR⟩ : ∃ R, dataN ps m = R := ⟨_, rfl⟩
  rw [hR]
  have HR := Lib.hid hR
  clear hR
  go_enter Try.func65, Try.ntmps65
  go_wp2_with fail
  go_loop [5] (fun i => ∃ k : Nat, k ≤ n ∧ i = .int .i64 k ∧ Hid (dataN (ps.drop k) m = R)) (fun i => n - (intOf i).toNat)
  case atStart => exact ⟨0, Nat.zero_le _, rfl, HR⟩
  case round =>
    obtain ⟨k, hk, rfl, HK⟩ := hrel
    by_cases hlt : k < n
    · obtain ⟨⟨num, data⟩, hp⟩ : ∃ p, ps[k]? = some p := ⟨_, List.getElem?_eq_getElem (by omega)⟩
      obtain ⟨g, off, rfl, _, p0, p1⟩ := h.pc hlt hp
      have hd : dataN (ps.drop k) m = if num = m then data else dataN (ps.drop (k + 1)) m := by rw [pcScan_drop (lim := 0) (b := 0) hp]; rfl
      rw [HK.out] at hd
      clear hp hlen h
      by_cases hm : num = m
      · subst hm
        rw [if_pos rfl] at hd
        have HD := Lib.hid hd
        clear hd
        go_wp2_with fail
        go_ret
        exact ⟨ret_str HD.out.symm, rfl⟩
      · rw [if_neg hm] at hd
        have HD := Lib.hid hd
        have hnm : (num == m) = false := by rw [beq_eq_false_iff_ne]; exact hm
        clear hd hm
        go_wp2_with fail
        go_round
        case rel => exact ⟨k + 1, by omega, by go_num, Lib.hid HD.out.symm⟩
        case measure => simp [intOf]; omega
    · have hd : R = ByteArray.empty := by rw [← HK.out, List.drop_eq_nil_of_le (by omega)]; rfl
      have HD := Lib.hid hd
      clear hd hlen
      go_wp2_with fail
      go_ret
      exact ⟨ret_str HD.out.symm, rfl⟩

end Go.Proofs.Ytcafejahdiedpaa
