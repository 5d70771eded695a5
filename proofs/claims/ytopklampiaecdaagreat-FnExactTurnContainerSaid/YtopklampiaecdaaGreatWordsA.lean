/-
  The reference's small functions over what is known: the end code, the last code, digits, the next word, whether it grows, the greatest code, the width.
  Pairs in memory: two cells each; what is known with its pairs at hand; the texts of words as strings.
-/
import Derived.Test.YtopklampiaecdaaGreatKn
import Derived.Test.YtopklampiaecdaaGreatDrawTwo
import Derived.Deep.RegionHeld3
import Derived.BigQuiet
import Derived.Test.YtopklampiaecdaaGreatMem

namespace Go.Proofs.YtopklampiaecdaaGreat
open Go.RowKit
set_option linter.unusedVariables false

theorem specL1End (o l m : Nat) (w : World) (hl : l ≤ 16) :
    Calls Tryz.prog 125 #[.agg #[.int .i64 (o : Int), .int .i64 (l : Int), .int .i64 (m : Int)]] w fun e w' => e = .returned (.int .i64 ((2 ^ l + 1 : Nat) : Int)) ∧ Below w.heap.size w w' := by
  obtain ⟨c, hc⟩ : ∃ c, 2 ^ l = c := ⟨_, rfl⟩
  have hcb : c ≤ 65536 := by rw [← hc]; have := Nat.pow_le_pow_right (n := 2) (by omega) hl; omega
  have H := fun W => specL1Two l W hl
  rw [hc] at H
  have H := Lib.hid H
  obtain ⟨d, hd⟩ : ∃ d : Nat, (c : Int) + 1 = d := ⟨c + 1, by omega⟩
  have hd2 : ((2 ^ l + 1 : Nat) : Int) = d := by rw [← hd, ← hc]; omega
  rw [hd2]
  clear hc hd2
  go_enter Tryz.func125, Tryz.ntmps125
  go_wp2_with fail
  refine (H.out _).mono ?_
  rintro e w1 ⟨rfl, rfl⟩
  go_wp2_with fail
  go_ret
  exact ⟨rfl, (Below.refl _ _).alloc (Nat.le_refl _) _⟩

theorem specL1Last (o l m : Nat) (w : World) (hm : m ≤ 16) :
    Calls Tryz.prog 152 #[.agg #[.int .i64 (o : Int), .int .i64 (l : Int), .int .i64 (m : Int)]] w fun e w' => e = .returned (.int .i64 ((2 ^ m - 1 : Nat) : Int)) ∧ Below w.heap.size w w' := by
  obtain ⟨c, hc⟩ : ∃ c, 2 ^ m = c := ⟨_, rfl⟩
  have hcb : c ≤ 65536 := by rw [← hc]; have := Nat.pow_le_pow_right (n := 2) (by omega) hm; omega
  have hc1 : 1 ≤ c := by rw [← hc]; exact Nat.one_le_two_pow
  have H := fun W => specL1Two m W hm
  rw [hc] at H
  have H := Lib.hid H
  obtain ⟨d, hd⟩ : ∃ d : Nat, (c : Int) - 1 = d := ⟨c - 1, by omega⟩
  have hd2 : ((2 ^ m - 1 : Nat) : Int) = d := by rw [← hd, hc]; omega
  rw [hd2]
  clear hc hd2
  go_enter Tryz.func152, Tryz.ntmps152
  go_wp2_with fail
  refine (H.out _).mono ?_
  rintro e w1 ⟨rfl, rfl⟩
  go_wp2_with fail
  go_ret
  exact ⟨rfl, (Below.refl _ _).alloc (Nat.le_refl _) _⟩

/-- How many binary digits a number has (one for 0). -/
def need (n : Nat) : Nat := if h : 1 < n then need (n / 2) + 1 else 1
termination_by n
decreasing_by omega

theorem need_step {n : Nat} (h : 1 < n) : need n = need (n / 2) + 1 := by rw [need, dif_pos h]

theorem need_end {n : Nat} (h : ¬ 1 < n) : need n = 1 := by rw [need, dif_neg h]

theorem need_le (n : Nat) : need n ≤ n + 1 := by
  induction n using Nat.strongRecOn with
  | ind n ih =>
    rw [need]
    split
    · have := ih (n / 2) (by omega); omega
    · omega

theorem specL1Needed (n : Nat) (w : World) (hn : n ≤ 1048576) :
    Calls Tryz.prog 158 #[.int .i64 (n : Int)] w fun e w' => e = .returned (.int .i64 (need n : Int)) ∧ w = w' := by
  have hb := need_le n
  have HB := Lib.hid hb
  clear hb
  go_enter Tryz.func158, Tryz.ntmps158
  go_wp2_with fail
  go_loopw [0, 3] (fun x y wr => ∃ (k j : Nat), x = .int .i64 (k : Int) ∧ y = .int .i64 (j : Int) ∧ k ≤ n ∧ j + k ≤ n + 1 ∧ Hid (need n = need k + (j - 1)) ∧ 1 ≤ j ∧ wr = w) (fun x _ _ => (intOf x).toNat)
  case atStart => exact ⟨n, 1, rfl, rfl, Nat.le_refl _, by omega, Lib.hid (by omega), by omega, rfl⟩
  case round =>
    obtain ⟨k, j, rfl, rfl, hk, hj, HN, hj1, rfl⟩ := hrel
    by_cases h1 : 1 < k
    · obtain ⟨q, hq⟩ : ∃ q, k / 2 = q := ⟨_, rfl⟩
      have eq : (k : Int) / 2 = q := by omega
      have hqk : q < k := by omega
      have HN2 : Hid (need n = need q + (j + 1 - 1)) := Lib.hid (by have := HN.out; rw [need_step h1, hq] at this; omega)
      clear hq
      go_wp2_with fail
      go_roundw
      case rel => exact ⟨q, j + 1, by go_num, by go_num, by omega, by omega, HN2, by omega, trivial⟩
      case measure => simp [intOf]; omega
    · have hr : need n = j := by have := HN.out; rw [need_end h1] at this; omega
      have HR := Lib.hid hr
      clear hr
      go_wp2_with fail
      go_ret
      exact ⟨by rw [HR.out]; rfl, rfl⟩

/-- The last code as a number: -1 for none. -/
def Kn.lastI (k : Kn) : Int := match k.last with
  | some c => (c : Int)
  | none => -1

/-- What is known as a value. -/
def Kn.val (k : Kn) (A : Option Addr) (c : Nat) : Value := .agg #[.int .i64 (k.o : Int), .int .i64 (k.l : Int), .int .i64 (k.m : Int), .slice A k.ps.length c, .int .i64 (k.base : Int), .int .i64 k.lastI]

theorem box6 {w wx : World} {T : TypeId} {a b c d e f : Value} (h : Below (w.heap.size + 1) (w.alloc (.cells #[a, b, c, d, e, f] T)) wx) :
    wx.cell? ⟨w.heap.size, 0, none⟩ = some a ∧ wx.cell? ⟨w.heap.size, 1, none⟩ = some b ∧ wx.cell? ⟨w.heap.size, 2, none⟩ = some c ∧ wx.cell? ⟨w.heap.size, 3, none⟩ = some d ∧ wx.cell? ⟨w.heap.size, 4, none⟩ = some e ∧ wx.cell? ⟨w.heap.size, 5, none⟩ = some f ∧
      Below (w.heap.size + 1) (w.alloc (.cells #[a, b, c, d, e, f] T)) wx := by
  have e : wx.heap[w.heap.size]? = some (.cells #[a, b, c, d, e, f] T (0, 0)) := (h.block _ (by omega)).trans (heap_alloc_new w _)
  refine ⟨?_, ?_, ?_, ?_, ?_, ?_, h⟩ <;> simp [World.cell?, e]

theorem box6_call {w wx wy : World} {T : TypeId} {a b c d e f : Value} (hb : Below wx.heap.size wx wy) (h : Below (w.heap.size + 1) (w.alloc (.cells #[a, b, c, d, e, f] T)) wx) :
    wy.cell? ⟨w.heap.size, 0, none⟩ = some a ∧ wy.cell? ⟨w.heap.size, 1, none⟩ = some b ∧ wy.cell? ⟨w.heap.size, 2, none⟩ = some c ∧ wy.cell? ⟨w.heap.size, 3, none⟩ = some d ∧ wy.cell? ⟨w.heap.size, 4, none⟩ = some e ∧ wy.cell? ⟨w.heap.size, 5, none⟩ = some f ∧
      Below (w.heap.size + 1) (w.alloc (.cells #[a, b, c, d, e, f] T)) wy :=
  box6 (h.trans (hb.mono (by have := h.size; simp at this; omega)))

set_option maxHeartbeats 2000000 in
theorem specL2Next (k : Kn) (A : Option Addr) (c : Nat) (w : World) (h : k.Valid) :
    Calls Tryz.prog 162 #[k.val A c] w fun e w' => e = .returned (.int .i64 (k.next : Int)) ∧ Below w.heap.size w w' := by
  have hp := h.pow
  have hr := h.room
  have hl := h.lit8
  have HE := fun W => specL1End k.o k.l k.m W (by omega)
  have hf : 2 ^ k.l + 1 = k.fin := rfl
  rw [hf] at HE
  have HE := Lib.hid HE
  obtain ⟨f, hff⟩ : ∃ f, k.fin = f := ⟨_, rfl⟩
  obtain ⟨n, hn⟩ : ∃ n, k.ps.length = n := ⟨_, rfl⟩
  obtain ⟨f1, hf1⟩ : ∃ x : Nat, (f : Int) + 1 = x := ⟨f + 1, by omega⟩
  obtain ⟨x, hx⟩ : ∃ x : Nat, (f1 : Int) + n = x := ⟨f1 + n, by omega⟩
  have hnx : k.next = x := by unfold Kn.next; omega
  rw [hff] at HE
  rw [hnx]
  have hfb : f ≤ 257 := by have := k.fin_eq; omega
  have hnb : n ≤ 1023 := by omega
  obtain ⟨o, ho⟩ : ∃ x, k.o = x := ⟨_, rfl⟩
  obtain ⟨l, hl'⟩ : ∃ x, k.l = x := ⟨_, rfl⟩
  obtain ⟨m, hm⟩ : ∃ x, k.m = x := ⟨_, rfl⟩
  obtain ⟨b, hb⟩ : ∃ x, k.base = x := ⟨_, rfl⟩
  obtain ⟨q, hq⟩ : ∃ x, k.lastI = x := ⟨_, rfl⟩
  unfold Kn.val
  rw [ho, hl', hm, hb, hq, hn]
  rw [ho, hl', hm] at HE
  have wf1 : IntKind.i64.wrap (f1 : Int) = f1 := IntWalk.i64_in _ (by omega)
  have wx1 : IntKind.i64.wrap (x : Int) = x := IntWalk.i64_in _ (by omega)
  clear hp hr hl hf hff hnx h ho hl' hm hb hq hn
  go_enter Tryz.func162, Tryz.ntmps162
  go_wp2_with fail
  go_region_held3 (fun w' => w'.cell? ⟨w.heap.size, 0, none⟩ = some (.int .i64 (o : Int)) ∧ w'.cell? ⟨w.heap.size, 1, none⟩ = some (.int .i64 (l : Int)) ∧ w'.cell? ⟨w.heap.size, 2, none⟩ = some (.int .i64 (m : Int)) ∧ w'.cell? ⟨w.heap.size, 3, none⟩ = some (.slice A n c) ∧ w'.cell? ⟨w.heap.size, 4, none⟩ = some (.int .i64 (b : Int)) ∧ w'.cell? ⟨w.heap.size, 5, none⟩ = some (.int .i64 q) ∧
      Below (w.heap.size + 1) (w.alloc (.cells #[.int .i64 (o : Int), .int .i64 (l : Int), .int .i64 (m : Int), .slice A n c, .int .i64 (b : Int), .int .i64 q] 64)) w')
    (first | exact box6 (Below.refl _ _).drew | (go_split_ands; exact box6_call (by assumption) (by assumption)))
    (first | (go_at_call 125; refine (HE.out _).mono ?_; rintro e w' ⟨rfl, hb⟩))
  go_split_ands
  have hB : Below (w.heap.size + 1) (w.alloc (.cells #[.int .i64 (o : Int), .int .i64 (l : Int), .int .i64 (m : Int), .slice A n c, .int .i64 (b : Int), .int .i64 q] 64)) w' := by assumption
  have hW : Below w.heap.size w w' := ((Below.refl _ _).alloc (Nat.le_refl _) _).trans (hB.mono (by omega))
  go_wp2_with fail
  go_ret
  exact ⟨rfl, hW⟩

theorem Kn.lastI_nat {k : Kn} {q : Nat} (h : k.last = some q) : k.lastI = q := by unfold Kn.lastI; rw [h]

theorem Kn.lastI_none {k : Kn} (h : k.last = none) : k.lastI = -1 := by unfold Kn.lastI; rw [h]

set_option maxHeartbeats 2000000 in
theorem specL2Grows (k : Kn) (A : Option Addr) (c : Nat) (r : Bool) (w : World) (h : k.Valid) (hr : r = true ↔ k.grows) :
    Calls Tryz.prog 161 #[k.val A c] w fun e w' => e = .returned (.bool r) ∧ Below w.heap.size w w' := by
  have hp := h.pow
  have hm10 := h.most10
  have HN := fun W => specL2Next k A c W h
  have HL := fun W => specL1Last k.o k.l k.m W (by omega)
  have ht : 2 ^ k.m - 1 = k.top := rfl
  rw [ht] at HL
  obtain ⟨t, hte⟩ : ∃ t, k.top = t := ⟨_, rfl⟩
  obtain ⟨x, hx⟩ : ∃ x, k.next = x := ⟨_, rfl⟩
  have hlast : (k.last = none ∧ k.lastI = -1) ∨ (k.last.isSome = true ∧ 0 ≤ k.lastI) := by
    cases hl : k.last with
    | none => exact Or.inl ⟨rfl, Kn.lastI_none hl⟩
    | some q => exact Or.inr ⟨rfl, by rw [Kn.lastI_nat hl]; omega⟩
  obtain ⟨n, hn⟩ : ∃ n, k.ps.length = n := ⟨_, rfl⟩
  obtain ⟨o, ho⟩ : ∃ x, k.o = x := ⟨_, rfl⟩
  obtain ⟨l, hl'⟩ : ∃ x, k.l = x := ⟨_, rfl⟩
  obtain ⟨m, hm⟩ : ∃ x, k.m = x := ⟨_, rfl⟩
  obtain ⟨b, hb⟩ : ∃ x, k.base = x := ⟨_, rfl⟩
  obtain ⟨q, hq⟩ : ∃ x, k.lastI = x := ⟨_, rfl⟩
  unfold Kn.val at HN ⊢
  rw [hte] at HL
  rw [hx] at HN
  rw [ho, hl', hm, hb, hq, hn] at HN
  rw [ho, hl', hm] at HL
  rw [ho, hl', hm, hb, hq, hn]
  rw [hq] at hlast
  have HN := Lib.hid HN
  have HL := Lib.hid HL
  unfold Kn.grows at hr
  rw [hx, hte] at hr
  rcases hlast with ⟨h1, h2⟩ | ⟨h1, h2⟩
  · have hrf : r = false := by
      cases r with
      | false => rfl
      | true => have := (hr.1 rfl).1; rw [h1] at this; cases this
    have g1 : decide ((0 : Int) ≤ q) = false := decide_eq_false (by omega)
    subst hrf
    clear hr hp hm10 ht hte hx h1 h hq hn ho hl' hm hb
    clear h2
    go_enter Tryz.func161, Tryz.ntmps161
    go_wp2_with fail
    go_quiet (fail)
    go_wp2_with fail
    go_ret
    exact ⟨rfl, below_drewN ((Below.refl _ _).alloc (Nat.le_refl _) _) _⟩
  · have g1 : decide ((0 : Int) ≤ q) = true := decide_eq_true h2
    have hrv : r = decide (x ≤ t) := by
      rw [Bool.eq_iff_iff, hr, decide_eq_true_eq]
      constructor
      · intro hh; have := hh.2; omega
      · intro hh; exact ⟨h1, by omega⟩
    rw [hrv]
    clear hr hrv hp hm10 ht hte hx h1 h hq hn ho hl' hm hb
    go_enter Tryz.func161, Tryz.ntmps161
    go_wp2_with fail
    go_region_held3 (fun w' => w'.cell? ⟨w.heap.size, 0, none⟩ = some (.int .i64 (o : Int)) ∧ w'.cell? ⟨w.heap.size, 1, none⟩ = some (.int .i64 (l : Int)) ∧ w'.cell? ⟨w.heap.size, 2, none⟩ = some (.int .i64 (m : Int)) ∧ w'.cell? ⟨w.heap.size, 3, none⟩ = some (.slice A n c) ∧ w'.cell? ⟨w.heap.size, 4, none⟩ = some (.int .i64 (b : Int)) ∧ w'.cell? ⟨w.heap.size, 5, none⟩ = some (.int .i64 q) ∧
      Below (w.heap.size + 1) (w.alloc (.cells #[.int .i64 (o : Int), .int .i64 (l : Int), .int .i64 (m : Int), .slice A n c, .int .i64 (b : Int), .int .i64 q] 64)) w')
      (first | exact box6 (Below.refl _ _).drew | (go_split_ands; exact box6_call (by assumption) (by assumption)))
      (first | (go_at_call 162; refine (HN.out _).mono ?_; rintro e w' ⟨rfl, hb⟩) | (go_at_call 152; refine (HL.out _).mono ?_; rintro e w' ⟨rfl, hb⟩))
    go_split_ands
    have hB : Below (w.heap.size + 1) (w.alloc (.cells #[.int .i64 (o : Int), .int .i64 (l : Int), .int .i64 (m : Int), .slice A n c, .int .i64 (b : Int), .int .i64 q] 64)) w' := by assumption
    have hW : Below w.heap.size w w' := ((Below.refl _ _).alloc (Nat.le_refl _) _).trans (hB.mono (by omega))
    go_wp2_with fail
    go_ret
    exact ⟨rfl, hW⟩

set_option maxHeartbeats 2000000 in
theorem specL2Greatest (k : Kn) (A : Option Addr) (c : Nat) (w : World) (h : k.Valid) :
    Calls Tryz.prog 159 #[k.val A c] w fun e w' => e = .returned (.int .i64 (k.great : Int)) ∧ Below w.heap.size w w' := by
  have hp := h.pow
  have hr := h.room
  have hn1 : 1 ≤ k.next := by unfold Kn.next; omega
  have hnb : k.next ≤ 4000 := by unfold Kn.next; have := k.fin_eq; omega
  have HN := fun W => specL2Next k A c W h
  obtain ⟨g, hg⟩ : ∃ g, decide k.grows = g := ⟨_, rfl⟩
  have HG := fun W => specL2Grows k A c g W h (by rw [← hg]; exact decide_eq_true_iff)
  have hgr : k.great = if g = true then k.next else k.next - 1 := by
    unfold Kn.great
    by_cases hgg : k.grows
    · rw [if_pos hgg, if_pos (by rw [← hg]; exact decide_eq_true hgg)]
    · rw [if_neg hgg, if_neg (by rw [← hg]; simp [hgg])]
  rw [hgr]
  obtain ⟨x, hx⟩ : ∃ x, k.next = x := ⟨_, rfl⟩
  obtain ⟨y, hy⟩ : ∃ y : Nat, (x : Int) - 1 = y := ⟨x - 1, by omega⟩
  obtain ⟨n, hn⟩ : ∃ n, k.ps.length = n := ⟨_, rfl⟩
  obtain ⟨o, ho⟩ : ∃ x, k.o = x := ⟨_, rfl⟩
  obtain ⟨l, hl'⟩ : ∃ x, k.l = x := ⟨_, rfl⟩
  obtain ⟨m, hm⟩ : ∃ x, k.m = x := ⟨_, rfl⟩
  obtain ⟨b, hb⟩ : ∃ x, k.base = x := ⟨_, rfl⟩
  obtain ⟨q, hq⟩ : ∃ x, k.lastI = x := ⟨_, rfl⟩
  unfold Kn.val at HN HG ⊢
  rw [hx] at HN hn1 hnb ⊢
  rw [ho, hl', hm, hb, hq, hn] at HN HG
  rw [ho, hl', hm, hb, hq, hn]
  have HN := Lib.hid HN
  have HG := Lib.hid HG
  have hy2 : x - 1 = y := by omega
  rw [hy2]
  clear hp hr hg hgr hx h hq hn ho hl' hm hb hy2
  cases g with
  | true =>
    go_enter Tryz.func159, Tryz.ntmps159
    go_wp2_with fail
    refine (HG.out _).mono ?_
    rintro e w1 ⟨rfl, hb1⟩
    have hB1 : Below (w.heap.size + 1) (w.alloc (.cells #[.int .i64 (o : Int), .int .i64 (l : Int), .int .i64 (m : Int), .slice A n c, .int .i64 (b : Int), .int .i64 q] 64)) w1 := hb1.mono (by simp)
    obtain ⟨q0, q1, q2, q3, q4, q5, _⟩ := box6 hB1
    have HW := Lib.hid (show Below w.heap.size w w1 from ((Below.refl _ _).alloc (Nat.le_refl _) _).trans (hB1.mono (by omega)))
    clear hb1 hB1
    go_wp2_with fail
    refine (HN.out _).mono ?_
    rintro e w2 ⟨rfl, hb2⟩
    go_wp2_with fail
    go_ret
    exact ⟨rfl, HW.out.trans (hb2.mono HW.out.size)⟩
  | false =>
    go_enter Tryz.func159, Tryz.ntmps159
    go_wp2_with fail
    refine (HG.out _).mono ?_
    rintro e w1 ⟨rfl, hb1⟩
    have hB1 : Below (w.heap.size + 1) (w.alloc (.cells #[.int .i64 (o : Int), .int .i64 (l : Int), .int .i64 (m : Int), .slice A n c, .int .i64 (b : Int), .int .i64 q] 64)) w1 := hb1.mono (by simp)
    obtain ⟨q0, q1, q2, q3, q4, q5, _⟩ := box6 hB1
    have HW := Lib.hid (show Below w.heap.size w w1 from ((Below.refl _ _).alloc (Nat.le_refl _) _).trans (hB1.mono (by omega)))
    clear hb1 hB1
    go_wp2_with fail
    refine (HN.out _).mono ?_
    rintro e w2 ⟨rfl, hb2⟩
    go_wp2_with fail
    go_ret
    exact ⟨rfl, HW.out.trans (hb2.mono HW.out.size)⟩

end Go.Proofs.YtopklampiaecdaaGreat

namespace Go.Proofs.YtopklampiaecdaaGreat
open Go.RowKit
set_option linter.unusedVariables false

/-- The two cells of a pair. -/
def pairCells (p : Nat × Nat) : List Value := [.int .i64 (p.1 : Int), .int .i64 (p.2 : Int)]

/-- The cells of pairs, one behind the other. -/
def cellsP (ps : List (Nat × Nat)) : List Value := ps.flatMap pairCells

theorem cellsP_append (a b : List (Nat × Nat)) : cellsP (a ++ b) = cellsP a ++ cellsP b := by unfold cellsP; exact List.flatMap_append

theorem cellsP_one (b : Nat × Nat) : cellsP [b] = pairCells b := by simp [cellsP]

theorem cellsP_length (ps : List (Nat × Nat)) : (cellsP ps).length = ps.length * 2 := by
  induction ps with
  | nil => rfl
  | cons x xs ih =>
    have h : cellsP (x :: xs) = pairCells x ++ cellsP xs := by simp [cellsP]
    rw [h, List.length_append, ih]
    simp [pairCells]; omega

theorem cellsP_oneCell (ps : List (Nat × Nat)) : ∀ u ∈ cellsP ps, u.oneCell' = true := by
  intro u hu
  unfold cellsP at hu
  obtain ⟨b, _, hb⟩ := List.mem_flatMap.1 hu
  simp only [pairCells, List.mem_cons, List.not_mem_nil, or_false] at hb
  rcases hb with rfl | rfl <;> rfl

theorem cellsP_get (ps : List (Nat × Nat)) (k j : Nat) (b : Nat × Nat) (hb : ps[k]? = some b) (hj : j < 2) : (cellsP ps)[k * 2 + j]? = (pairCells b)[j]? := by
  induction ps generalizing k with
  | nil => simp at hb
  | cons x xs ih =>
    have h : cellsP (x :: xs) = pairCells x ++ cellsP xs := by simp [cellsP]
    have hl : (pairCells x).length = 2 := rfl
    rw [h]
    cases k with
    | zero =>
      simp only [List.getElem?_cons_zero, Option.some.injEq] at hb
      subst hb
      rw [List.getElem?_append_left (by omega), Nat.zero_mul, Nat.zero_add]
    | succ k =>
      rw [List.getElem?_append_right (by omega), hl, show (k + 1) * 2 + j - 2 = k * 2 + j from by omega]
      exact ih k (by simpa using hb)

theorem cellsP_take (ps : List (Nat × Nat)) (k : Nat) : cellsP (ps.take k) = (cellsP ps).take (k * 2) := by
  induction ps generalizing k with
  | nil => simp [cellsP]
  | cons x xs ih =>
    cases k with
    | zero => simp [cellsP]
    | succ k =>
      have h : ∀ (y : Nat × Nat) (ys : List (Nat × Nat)), cellsP (y :: ys) = pairCells y ++ cellsP ys := fun y ys => by simp [cellsP]
      have hl : (pairCells x).length = 2 := rfl
      rw [List.take_succ_cons, h, h, ih, show (k + 1) * 2 = 2 + k * 2 from by omega, List.take_append, hl, show 2 + k * 2 - 2 = k * 2 from by omega, List.take_of_length_le (show (pairCells x).length ≤ 2 + k * 2 by omega)]

theorem Row.pair {w : World} {B n : Nat} {A : Option Addr} {ps : List (Nat × Nat)} (h : Row w B 2 A n (cellsP ps)) {k p q : Nat} (hk : k < n) (hb : ps[k]? = some (p, q)) :
    ∃ b off, A = some ⟨b, off, none⟩ ∧ b < B ∧ w.cell? ⟨b, off + k * 2, none⟩ = some (.int .i64 (p : Int)) ∧ w.cell? ⟨b, off + k * 2 + 1, none⟩ = some (.int .i64 (q : Int)) := by
  obtain ⟨b, off, e, hB, hc⟩ := h.2 (by omega)
  refine ⟨b, off, e, hB, ?_, ?_⟩
  · exact hc (k * 2 + 0) _ ((cellsP_get ps k 0 _ hb (by omega)).trans rfl)
  · exact hc (k * 2 + 1) _ ((cellsP_get ps k 1 _ hb (by omega)).trans rfl)

theorem Row.len2 {w : World} {B n : Nat} {A : Option Addr} {ps : List (Nat × Nat)} (h : Row w B 2 A n (cellsP ps)) : ps.length = n := by
  have := h.1; rw [cellsP_length] at this; omega

theorem infoPair : (Tryz.prog.info? 166).map (fun i => (i.zero, i.size, i.bytes)) = some (some (.agg #[.int .i64 0, .int .i64 0]), 2, 16) := by kernel_rfl

theorem elemPair : Elem Tryz.prog 62 166 (.agg #[.int .i64 0, .int .i64 0]) 2 16 := ⟨Tryz.underlying62, infoPair, rfl, by decide⟩

/-- A text as a string. -/
abbrev bsL (l : List UInt8) : ByteArray := ⟨l.toArray⟩

/-- The pairs of what is known lie in memory. -/
def Kn.At (k : Kn) (w : World) (B : Nat) (A : Option Addr) : Prop := Row w B 2 A k.ps.length (cellsP k.ps)

theorem belowC {w wx wy : World} (hb : Below wx.heap.size wx wy) (h : Below w.heap.size w wx) : Below w.heap.size w wy := h.trans (hb.mono h.size)

/-- A list with its first i elements and its last i ones changed for each other. -/
def swp (l : List UInt8) (i : Nat) : List UInt8 := (List.range l.length).map fun j => if j < i ∨ l.length - 1 - j < i then l.getD (l.length - 1 - j) 0 else l.getD j 0

theorem swp_zero (l : List UInt8) : swp l 0 = l := by
  apply List.ext_getElem?
  intro j
  unfold swp
  by_cases hj : j < l.length
  · simp [hj, List.getD]
  · simp [hj]

theorem swp_length (l : List UInt8) (i : Nat) : (swp l i).length = l.length := by simp [swp]

theorem swp_get (l : List UInt8) (i : Nat) {j : Nat} (hj : j < l.length) : (swp l i)[j]? = some (if j < i ∨ l.length - 1 - j < i then l.getD (l.length - 1 - j) 0 else l.getD j 0) := by
  unfold swp
  simp [hj]

theorem swp_half (l : List UInt8) {i : Nat} (h : l.length / 2 ≤ i) (h2 : i ≤ l.length / 2) : swp l i = l.reverse := by
  apply List.ext_getElem?
  intro j
  by_cases hj : j < l.length
  · rw [swp_get l i hj, List.getElem?_reverse hj]
    by_cases hc : j < i ∨ l.length - 1 - j < i
    · rw [if_pos hc, List.getD, List.getElem?_eq_getElem (by omega)]
      rfl
    · rw [if_neg hc]
      have e : j = l.length - 1 - j := by omega
      conv => lhs; rw [e]
      rw [List.getD, List.getElem?_eq_getElem (by omega)]
      rfl
  · rw [List.getElem?_eq_none (by rw [swp_length]; omega), List.getElem?_eq_none (by simp; omega)]

theorem swp_succ (l : List UInt8) {i : Nat} (h : i < l.length / 2) : swp l (i + 1) = ((swp l i).set i (l.getD (l.length - 1 - i) 0)).set (l.length - 1 - i) (l.getD i 0) := by
  apply List.ext_getElem?
  intro j
  by_cases hj : j < l.length
  · rw [swp_get l _ hj]
    by_cases h1 : j = l.length - 1 - i
    · subst h1
      rw [List.getElem?_set_self (by simp [swp_length]; omega), if_pos (by omega)]
      rw [show l.length - 1 - (l.length - 1 - i) = i by omega]
    · rw [List.getElem?_set_ne (by omega)]
      by_cases h2 : j = i
      · subst h2
        rw [List.getElem?_set_self (by simp [swp_length]; omega), if_pos (by omega)]
      · rw [List.getElem?_set_ne (by omega), swp_get l _ hj]
        by_cases hc : j < i ∨ l.length - 1 - j < i
        · rw [if_pos hc, if_pos (by omega)]
        · rw [if_neg hc, if_neg (by omega)]
  · rw [List.getElem?_eq_none (by rw [swp_length]; omega), List.getElem?_eq_none (by simp [swp_length]; omega)]

/-- A word has at most one byte more than there are pairs. -/
theorem wordF_le (fin : Nat) (ps : List (Nat × Nat)) : ∀ (f c : Nat), (wordF fin ps f c).length ≤ f + 1 := by
  intro f
  induction f with
  | zero => intro c; simp [wordF]
  | succ f ih =>
    intro c
    rw [wordF]
    split
    · split
      · rename_i p b _
        have := ih p
        simp; omega
      · simp
    · simp

theorem Kn.word_le (k : Kn) (c : Nat) : (k.word c).length ≤ k.ps.length + 2 := wordF_le _ _ _ _

theorem Kn.any_le (k : Kn) (c : Nat) : (k.any c).length ≤ k.ps.length + 3 := by
  unfold Kn.any
  split
  · rename_i q _
    split
    · have := k.word_le q
      rw [List.length_append, List.length_take]
      omega
    · have := k.word_le c; omega
  · have := k.word_le c; omega

end Go.Proofs.YtopklampiaecdaaGreat
