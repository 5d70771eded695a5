/-
  The reference's small functions over what is known: the end code, the last code, digits, the next word, whether it grows, the greatest code, the width.
  Pairs in memory: two cells each; what is known with its pairs at hand; the texts of words as strings.
  The reference's l2Width and l2Word.
-/
import Derived.Test.YthlgpgaeajfchaaGreatDoorKn
import Derived.Test.YthlgpgaeajfchaaGreatDoorInts
import Derived.Deep.RegionHeld3
import Derived.BigQuiet
import Derived.Test.YthlgpgaeajfchaaGreatDoorMem
import Derived.Lib.MinMax

namespace Go.Proofs.YthlgpgaeajfchaaGreatDoor
open Go.RowKit
set_option linter.unusedVariables false

theorem specL1End (o l m : Nat) (w : World) (hl : l ≤ 16) :
    Calls Tryz.prog 156 #[.agg #[.int .i64 (o : Int), .int .i64 (l : Int), .int .i64 (m : Int)]] w fun e w' => e = .returned (.int .i64 ((2 ^ l + 1 : Nat) : Int)) ∧ Below w.heap.size w w' := by
  obtain ⟨c, hc⟩ : ∃ c, 2 ^ l = c := ⟨_, rfl⟩
  have hcb : c ≤ 65536 := by rw [← hc]; have := Nat.pow_le_pow_right (n := 2) (by omega) hl; omega
  have H := fun W => specL1Two l W hl
  rw [hc] at H
  have H := Lib.hid H
  obtain ⟨d, hd⟩ : ∃ d : Nat, (c : Int) + 1 = d := ⟨c + 1, by omega⟩
  have hd2 : ((2 ^ l + 1 : Nat) : Int) = d := by rw [← hd, ← hc]; omega
  rw [hd2]
  clear hc hd2
  go_enter Tryz.func156, Tryz.ntmps156
  go_wp2_with fail
  refine (H.out _).mono ?_
  rintro e w1 ⟨rfl, rfl⟩
  go_wp2_with fail
  go_ret
  exact ⟨rfl, (Below.refl _ _).alloc (Nat.le_refl _) _⟩

theorem specL1Last (o l m : Nat) (w : World) (hm : m ≤ 16) :
    Calls Tryz.prog 155 #[.agg #[.int .i64 (o : Int), .int .i64 (l : Int), .int .i64 (m : Int)]] w fun e w' => e = .returned (.int .i64 ((2 ^ m - 1 : Nat) : Int)) ∧ Below w.heap.size w w' := by
  obtain ⟨c, hc⟩ : ∃ c, 2 ^ m = c := ⟨_, rfl⟩
  have hcb : c ≤ 65536 := by rw [← hc]; have := Nat.pow_le_pow_right (n := 2) (by omega) hm; omega
  have hc1 : 1 ≤ c := by rw [← hc]; exact Nat.one_le_two_pow
  have H := fun W => specL1Two m W hm
  rw [hc] at H
  have H := Lib.hid H
  obtain ⟨d, hd⟩ : ∃ d : Nat, (c : Int) - 1 = d := ⟨c - 1, by omega⟩
  have hd2 : ((2 ^ m - 1 : Nat) : Int) = d := by rw [← hd, hc]; omega
  rw [hd2]
  clear hc hd2
  go_enter Tryz.func155, Tryz.ntmps155
  go_wp2_with fail
  refine (H.out _).mono ?_
  rintro e w1 ⟨rfl, rfl⟩
  go_wp2_with fail
  go_ret
  exact ⟨rfl, (Below.refl _ _).alloc (Nat.le_refl _) _⟩

/-- How many binary digits a number has (one for 0). -/
def need (n : Nat) : Nat := if h : 1 < n then need (n / 2) + 1 else 1
termination_by n
decreasing_by omega

theorem need_step {n : Nat} (h : 1 < n) : need n = need (n / 2) + 1 := by rw [need, dif_pos h]

theorem need_end {n : Nat} (h : ¬ 1 < n) : need n = 1 := by rw [need, dif_neg h]

theorem need_le (n : Nat) : need n ≤ n + 1 := by
  induction n using Nat.strongRecOn with
  | ind n ih =>
    rw [need]
    split
    · have := ih (n / 2) (by omega); omega
    · omega

theorem specL1Needed (n : Nat) (w : World) (hn : n ≤ 1048576) :
    Calls Tryz.prog 187 #[.int .i64 (n : Int)] w fun e w' => e = .returned (.int .i64 (need n : Int)) ∧ w = w' := by
  have hb := need_le n
  have HB := Lib.hid hb
  clear hb
  go_enter Tryz.func187, Tryz.ntmps187
  go_wp2_with fail
  go_loopw [0, 3] (fun x y wr => ∃ (k j : Nat), x = .int .i64 (k : Int) ∧ y = .int .i64 (j : Int) ∧ k ≤ n ∧ j + k ≤ n + 1 ∧ Hid (need n = need k + (j - 1)) ∧ 1 ≤ j ∧ wr = w) (fun x _ _ => (intOf x).toNat)
  case atStart => exact ⟨n, 1, rfl, rfl, Nat.le_refl _, by omega, Lib.hid (by omega), by omega, rfl⟩
  case round =>
    obtain ⟨k, j, rfl, rfl, hk, hj, HN, hj1, rfl⟩ := hrel
    by_cases h1 : 1 < k
    · obtain ⟨q, hq⟩ : ∃ q, k / 2 = q := ⟨_, rfl⟩
      have eq : (k : Int) / 2 = q := by omega
      have hqk : q < k := by omega
      have HN2 : Hid (need n = need q + (j + 1 - 1)) := Lib.hid (by have := HN.out; rw [need_step h1, hq] at this; omega)
      clear hq
      go_wp2_with fail
      go_roundw
      case rel => exact ⟨q, j + 1, by go_num, by go_num, by omega, by omega, HN2, by omega, trivial⟩
      case measure => simp [intOf]; omega
    · have hr : need n = j := by have := HN.out; rw [need_end h1] at this; omega
      have HR := Lib.hid hr
      clear hr
      go_wp2_with fail
      go_ret
      exact ⟨by rw [HR.out]; rfl, rfl⟩

/-- The last code as a number: -1 for none. -/
def Kn.lastI (k : Kn) : Int := match k.last with
  | some c => (c : Int)
  | none => -1

/-- What is known as a value. -/
def Kn.val (k : Kn) (A : Option Addr) (c : Nat) : Value := .agg #[.int .i64 (k.o : Int), .int .i64 (k.l : Int), .int .i64 (k.m : Int), .slice A k.ps.length c, .int .i64 (k.base : Int), .int .i64 k.lastI]

theorem box6 {w wx : World} {T : TypeId} {a b c d e f : Value} (h : Below (w.heap.size + 1) (w.alloc (.cells #[a, b, c, d, e, f] T)) wx) :
    wx.cell? ⟨w.heap.size, 0, none⟩ = some a ∧ wx.cell? ⟨w.heap.size, 1, none⟩ = some b ∧ wx.cell? ⟨w.heap.size, 2, none⟩ = some c ∧ wx.cell? ⟨w.heap.size, 3, none⟩ = some d ∧ wx.cell? ⟨w.heap.size, 4, none⟩ = some e ∧ wx.cell? ⟨w.heap.size, 5, none⟩ = some f ∧
      Below (w.heap.size + 1) (w.alloc (.cells #[a, b, c, d, e, f] T)) wx := by
  have e : wx.heap[w.heap.size]? = some (.cells #[a, b, c, d, e, f] T (0, 0)) := (h.block _ (by omega)).trans (heap_alloc_new w _)
  refine ⟨?_, ?_, ?_, ?_, ?_, ?_, h⟩ <;> simp [World.cell?, e]

theorem box6_call {w wx wy : World} {T : TypeId} {a b c d e f : Value} (hb : Below wx.heap.size wx wy) (h : Below (w.heap.size + 1) (w.alloc (.cells #[a, b, c, d, e, f] T)) wx) :
    wy.cell? ⟨w.heap.size, 0, none⟩ = some a ∧ wy.cell? ⟨w.heap.size, 1, none⟩ = some b ∧ wy.cell? ⟨w.heap.size, 2, none⟩ = some c ∧ wy.cell? ⟨w.heap.size, 3, none⟩ = some d ∧ wy.cell? ⟨w.heap.size, 4, none⟩ = some e ∧ wy.cell? ⟨w.heap.size, 5, none⟩ = some f ∧
      Below (w.heap.size + 1) (w.alloc (.cells #[a, b, c, d, e, f] T)) wy :=
  box6 (h.trans (hb.mono (by have := h.size; simp at this; omega)))

set_option maxHeartbeats 2000000 in
theorem specL2Next (k : Kn) (A : Option Addr) (c : Nat) (w : World) (h : k.Valid) :
    Calls Tryz.prog 176 #[k.val A c] w fun e w' => e = .returned (.int .i64 (k.next : Int)) ∧ Below w.heap.size w w' := by
  have hp := h.pow
  have hr := h.room
  have hl := h.lit8
  have HE := fun W => specL1End k.o k.l k.m W (by omega)
  have hf : 2 ^ k.l + 1 = k.fin := rfl
  rw [hf] at HE
  have HE := Lib.hid HE
  obtain ⟨f, hff⟩ : ∃ f, k.fin = f := ⟨_, rfl⟩
  obtain ⟨n, hn⟩ : ∃ n, k.ps.length = n := ⟨_, rfl⟩
  obtain ⟨f1, hf1⟩ : ∃ x : Nat, (f : Int) + 1 = x := ⟨f + 1, by omega⟩
  obtain ⟨x, hx⟩ : ∃ x : Nat, (f1 : Int) + n = x := ⟨f1 + n, by omega⟩
  have hnx : k.next = x := by unfold Kn.next; omega
  rw [hff] at HE
  rw [hnx]
  have hfb : f ≤ 257 := by have := k.fin_eq; omega
  have hnb : n ≤ 1023 := by omega
  obtain ⟨o, ho⟩ : ∃ x, k.o = x := ⟨_, rfl⟩
  obtain ⟨l, hl'⟩ : ∃ x, k.l = x := ⟨_, rfl⟩
  obtain ⟨m, hm⟩ : ∃ x, k.m = x := ⟨_, rfl⟩
  obtain ⟨b, hb⟩ : ∃ x, k.base = x := ⟨_, rfl⟩
  obtain ⟨q, hq⟩ : ∃ x, k.lastI = x := ⟨_, rfl⟩
  unfold Kn.val
  rw [ho, hl', hm, hb, hq, hn]
  rw [ho, hl', hm] at HE
  have wf1 : IntKind.i64.wrap (f1 : Int) = f1 := IntWalk.i64_in _ (by omega)
  have wx1 : IntKind.i64.wrap (x : Int) = x := IntWalk.i64_in _ (by omega)
  clear hp hr hl hf hff hnx h ho hl' hm hb hq hn
  go_enter Tryz.func176, Tryz.ntmps176
  go_wp2_with fail
  go_region_held3 (fun w' => w'.cell? ⟨w.heap.size, 0, none⟩ = some (.int .i64 (o : Int)) ∧ w'.cell? ⟨w.heap.size, 1, none⟩ = some (.int .i64 (l : Int)) ∧ w'.cell? ⟨w.heap.size, 2, none⟩ = some (.int .i64 (m : Int)) ∧ w'.cell? ⟨w.heap.size, 3, none⟩ = some (.slice A n c) ∧ w'.cell? ⟨w.heap.size, 4, none⟩ = some (.int .i64 (b : Int)) ∧ w'.cell? ⟨w.heap.size, 5, none⟩ = some (.int .i64 q) ∧
      Below (w.heap.size + 1) (w.alloc (.cells #[.int .i64 (o : Int), .int .i64 (l : Int), .int .i64 (m : Int), .slice A n c, .int .i64 (b : Int), .int .i64 q] 48)) w')
    (first | exact box6 (Below.refl _ _).drew | (go_split_ands; exact box6_call (by assumption) (by assumption)))
    (first | (go_at_call 156; refine (HE.out _).mono ?_; rintro e w' ⟨rfl, hb⟩))
  go_split_ands
  have hB : Below (w.heap.size + 1) (w.alloc (.cells #[.int .i64 (o : Int), .int .i64 (l : Int), .int .i64 (m : Int), .slice A n c, .int .i64 (b : Int), .int .i64 q] 48)) w' := by assumption
  have hW : Below w.heap.size w w' := ((Below.refl _ _).alloc (Nat.le_refl _) _).trans (hB.mono (by omega))
  go_wp2_with fail
  go_ret
  exact ⟨rfl, hW⟩

theorem Kn.lastI_nat {k : Kn} {q : Nat} (h : k.last = some q) : k.lastI = q := by unfold Kn.lastI; rw [h]

theorem Kn.lastI_none {k : Kn} (h : k.last = none) : k.lastI = -1 := by unfold Kn.lastI; rw [h]

set_option maxHeartbeats 2000000 in
theorem specL2Grows (k : Kn) (A : Option Addr) (c : Nat) (r : Bool) (w : World) (h : k.Valid) (hr : r = true ↔ k.grows) :
    Calls Tryz.prog 180 #[k.val A c] w fun e w' => e = .returned (.bool r) ∧ Below w.heap.size w w' := by
  have hp := h.pow
  have hm10 := h.most10
  have HN := fun W => specL2Next k A c W h
  have HL := fun W => specL1Last k.o k.l k.m W (by omega)
  have ht : 2 ^ k.m - 1 = k.top := rfl
  rw [ht] at HL
  obtain ⟨t, hte⟩ : ∃ t, k.top = t := ⟨_, rfl⟩
  obtain ⟨x, hx⟩ : ∃ x, k.next = x := ⟨_, rfl⟩
  have hlast : (k.last = none ∧ k.lastI = -1) ∨ (k.last.isSome = true ∧ 0 ≤ k.lastI) := by
    cases hl : k.last with
    | none => exact Or.inl ⟨rfl, Kn.lastI_none hl⟩
    | some q => exact Or.inr ⟨rfl, by rw [Kn.lastI_nat hl]; omega⟩
  obtain ⟨n, hn⟩ : ∃ n, k.ps.length = n := ⟨_, rfl⟩
  obtain ⟨o, ho⟩ : ∃ x, k.o = x := ⟨_, rfl⟩
  obtain ⟨l, hl'⟩ : ∃ x, k.l = x := ⟨_, rfl⟩
  obtain ⟨m, hm⟩ : ∃ x, k.m = x := ⟨_, rfl⟩
  obtain ⟨b, hb⟩ : ∃ x, k.base = x := ⟨_, rfl⟩
  obtain ⟨q, hq⟩ : ∃ x, k.lastI = x := ⟨_, rfl⟩
  unfold Kn.val at HN ⊢
  rw [hte] at HL
  rw [hx] at HN
  rw [ho, hl', hm, hb, hq, hn] at HN
  rw [ho, hl', hm] at HL
  rw [ho, hl', hm, hb, hq, hn]
  rw [hq] at hlast
  have HN := Lib.hid HN
  have HL := Lib.hid HL
  unfold Kn.grows at hr
  rw [hx, hte] at hr
  rcases hlast with ⟨h1, h2⟩ | ⟨h1, h2⟩
  · have hrf : r = false := by
      cases r with
      | false => rfl
      | true => have := (hr.1 rfl).1; rw [h1] at this; cases this
    have g1 : decide ((0 : Int) ≤ q) = false := decide_eq_false (by omega)
    subst hrf
    clear hr hp hm10 ht hte hx h1 h hq hn ho hl' hm hb
    clear h2
    go_enter Tryz.func180, Tryz.ntmps180
    go_wp2_with fail
    go_quiet (fail)
    go_wp2_with fail
    go_ret
    exact ⟨rfl, below_drewN ((Below.refl _ _).alloc (Nat.le_refl _) _) _⟩
  · have g1 : decide ((0 : Int) ≤ q) = true := decide_eq_true h2
    have hrv : r = decide (x ≤ t) := by
      rw [Bool.eq_iff_iff, hr, decide_eq_true_eq]
      constructor
      · intro hh; have := hh.2; omega
      · intro hh; exact ⟨h1, by omega⟩
    rw [hrv]
    clear hr hrv hp hm10 ht hte hx h1 h hq hn ho hl' hm hb
    go_enter Tryz.func180, Tryz.ntmps180
    go_wp2_with fail
    go_region_held3 (fun w' => w'.cell? ⟨w.heap.size, 0, none⟩ = some (.int .i64 (o : Int)) ∧ w'.cell? ⟨w.heap.size, 1, none⟩ = some (.int .i64 (l : Int)) ∧ w'.cell? ⟨w.heap.size, 2, none⟩ = some (.int .i64 (m : Int)) ∧ w'.cell? ⟨w.heap.size, 3, none⟩ = some (.slice A n c) ∧ w'.cell? ⟨w.heap.size, 4, none⟩ = some (.int .i64 (b : Int)) ∧ w'.cell? ⟨w.heap.size, 5, none⟩ = some (.int .i64 q) ∧
      Below (w.heap.size + 1) (w.alloc (.cells #[.int .i64 (o : Int), .int .i64 (l : Int), .int .i64 (m : Int), .slice A n c, .int .i64 (b : Int), .int .i64 q] 48)) w')
      (first | exact box6 (Below.refl _ _).drew | (go_split_ands; exact box6_call (by assumption) (by assumption)))
      (first | (go_at_call 176; refine (HN.out _).mono ?_; rintro e w' ⟨rfl, hb⟩) | (go_at_call 155; refine (HL.out _).mono ?_; rintro e w' ⟨rfl, hb⟩))
    go_split_ands
    have hB : Below (w.heap.size + 1) (w.alloc (.cells #[.int .i64 (o : Int), .int .i64 (l : Int), .int .i64 (m : Int), .slice A n c, .int .i64 (b : Int), .int .i64 q] 48)) w' := by assumption
    have hW : Below w.heap.size w w' := ((Below.refl _ _).alloc (Nat.le_refl _) _).trans (hB.mono (by omega))
    go_wp2_with fail
    go_ret
    exact ⟨rfl, hW⟩

set_option maxHeartbeats 2000000 in
theorem specL2Greatest (k : Kn) (A : Option Addr) (c : Nat) (w : World) (h : k.Valid) :
    Calls Tryz.prog 178 #[k.val A c] w fun e w' => e = .returned (.int .i64 (k.great : Int)) ∧ Below w.heap.size w w' := by
  have hp := h.pow
  have hr := h.room
  have hn1 : 1 ≤ k.next := by unfold Kn.next; omega
  have hnb : k.next ≤ 4000 := by unfold Kn.next; have := k.fin_eq; omega
  have HN := fun W => specL2Next k A c W h
  obtain ⟨g, hg⟩ : ∃ g, decide k.grows = g := ⟨_, rfl⟩
  have HG := fun W => specL2Grows k A c g W h (by rw [← hg]; exact decide_eq_true_iff)
  have hgr : k.great = if g = true then k.next else k.next - 1 := by
    unfold Kn.great
    by_cases hgg : k.grows
    · rw [if_pos hgg, if_pos (by rw [← hg]; exact decide_eq_true hgg)]
    · rw [if_neg hgg, if_neg (by rw [← hg]; simp [hgg])]
  rw [hgr]
  obtain ⟨x, hx⟩ : ∃ x, k.next = x := ⟨_, rfl⟩
  obtain ⟨y, hy⟩ : ∃ y : Nat, (x : Int) - 1 = y := ⟨x - 1, by omega⟩
  obtain ⟨n, hn⟩ : ∃ n, k.ps.length = n := ⟨_, rfl⟩
  obtain ⟨o, ho⟩ : ∃ x, k.o = x := ⟨_, rfl⟩
  obtain ⟨l, hl'⟩ : ∃ x, k.l = x := ⟨_, rfl⟩
  obtain ⟨m, hm⟩ : ∃ x, k.m = x := ⟨_, rfl⟩
  obtain ⟨b, hb⟩ : ∃ x, k.base = x := ⟨_, rfl⟩
  obtain ⟨q, hq⟩ : ∃ x, k.lastI = x := ⟨_, rfl⟩
  unfold Kn.val at HN HG ⊢
  rw [hx] at HN hn1 hnb ⊢
  rw [ho, hl', hm, hb, hq, hn] at HN HG
  rw [ho, hl', hm, hb, hq, hn]
  have HN := Lib.hid HN
  have HG := Lib.hid HG
  have hy2 : x - 1 = y := by omega
  rw [hy2]
  clear hp hr hg hgr hx h hq hn ho hl' hm hb hy2
  cases g with
  | true =>
    go_enter Tryz.func178, Tryz.ntmps178
    go_wp2_with fail
    refine (HG.out _).mono ?_
    rintro e w1 ⟨rfl, hb1⟩
    have hB1 : Below (w.heap.size + 1) (w.alloc (.cells #[.int .i64 (o : Int), .int .i64 (l : Int), .int .i64 (m : Int), .slice A n c, .int .i64 (b : Int), .int .i64 q] 48)) w1 := hb1.mono (by simp)
    obtain ⟨q0, q1, q2, q3, q4, q5, _⟩ := box6 hB1
    have HW := Lib.hid (show Below w.heap.size w w1 from ((Below.refl _ _).alloc (Nat.le_refl _) _).trans (hB1.mono (by omega)))
    clear hb1 hB1
    go_wp2_with fail
    refine (HN.out _).mono ?_
    rintro e w2 ⟨rfl, hb2⟩
    go_wp2_with fail
    go_ret
    exact ⟨rfl, HW.out.trans (hb2.mono HW.out.size)⟩
  | false =>
    go_enter Tryz.func178, Tryz.ntmps178
    go_wp2_with fail
    refine (HG.out _).mono ?_
    rintro e w1 ⟨rfl, hb1⟩
    have hB1 : Below (w.heap.size + 1) (w.alloc (.cells #[.int .i64 (o : Int), .int .i64 (l : Int), .int .i64 (m : Int), .slice A n c, .int .i64 (b : Int), .int .i64 q] 48)) w1 := hb1.mono (by simp)
    obtain ⟨q0, q1, q2, q3, q4, q5, _⟩ := box6 hB1
    have HW := Lib.hid (show Below w.heap.size w w1 from ((Below.refl _ _).alloc (Nat.le_refl _) _).trans (hB1.mono (by omega)))
    clear hb1 hB1
    go_wp2_with fail
    refine (HN.out _).mono ?_
    rintro e w2 ⟨rfl, hb2⟩
    go_wp2_with fail
    go_ret
    exact ⟨rfl, HW.out.trans (hb2.mono HW.out.size)⟩

end Go.Proofs.YthlgpgaeajfchaaGreatDoor

namespace Go.Proofs.YthlgpgaeajfchaaGreatDoor
open Go.RowKit
set_option linter.unusedVariables false

/-- The two cells of a pair. -/
def pairCells (p : Nat × Nat) : List Value := [.int .i64 (p.1 : Int), .int .i64 (p.2 : Int)]

/-- The cells of pairs, one behind the other. -/
def cellsP (ps : List (Nat × Nat)) : List Value := ps.flatMap pairCells

theorem cellsP_append (a b : List (Nat × Nat)) : cellsP (a ++ b) = cellsP a ++ cellsP b := by unfold cellsP; exact List.flatMap_append

theorem cellsP_one (b : Nat × Nat) : cellsP [b] = pairCells b := by simp [cellsP]

theorem cellsP_length (ps : List (Nat × Nat)) : (cellsP ps).length = ps.length * 2 := by
  induction ps with
  | nil => rfl
  | cons x xs ih =>
    have h : cellsP (x :: xs) = pairCells x ++ cellsP xs := by simp [cellsP]
    rw [h, List.length_append, ih]
    simp [pairCells]; omega

theorem cellsP_oneCell (ps : List (Nat × Nat)) : ∀ u ∈ cellsP ps, u.oneCell' = true := by
  intro u hu
  unfold cellsP at hu
  obtain ⟨b, _, hb⟩ := List.mem_flatMap.1 hu
  simp only [pairCells, List.mem_cons, List.not_mem_nil, or_false] at hb
  rcases hb with rfl | rfl <;> rfl

theorem cellsP_get (ps : List (Nat × Nat)) (k j : Nat) (b : Nat × Nat) (hb : ps[k]? = some b) (hj : j < 2) : (cellsP ps)[k * 2 + j]? = (pairCells b)[j]? := by
  induction ps generalizing k with
  | nil => simp at hb
  | cons x xs ih =>
    have h : cellsP (x :: xs) = pairCells x ++ cellsP xs := by simp [cellsP]
    have hl : (pairCells x).length = 2 := rfl
    rw [h]
    cases k with
    | zero =>
      simp only [List.getElem?_cons_zero, Option.some.injEq] at hb
      subst hb
      rw [List.getElem?_append_left (by omega), Nat.zero_mul, Nat.zero_add]
    | succ k =>
      rw [List.getElem?_append_right (by omega), hl, show (k + 1) * 2 + j - 2 = k * 2 + j from by omega]
      exact ih k (by simpa using hb)

theorem cellsP_take (ps : List (Nat × Nat)) (k : Nat) : cellsP (ps.take k) = (cellsP ps).take (k * 2) := by
  induction ps generalizing k with
  | nil => simp [cellsP]
  | cons x xs ih =>
    cases k with
    | zero => simp [cellsP]
    | succ k =>
      have h : ∀ (y : Nat × Nat) (ys : List (Nat × Nat)), cellsP (y :: ys) = pairCells y ++ cellsP ys := fun y ys => by simp [cellsP]
      have hl : (pairCells x).length = 2 := rfl
      rw [List.take_succ_cons, h, h, ih, show (k + 1) * 2 = 2 + k * 2 from by omega, List.take_append, hl, show 2 + k * 2 - 2 = k * 2 from by omega, List.take_of_length_le (show (pairCells x).length ≤ 2 + k * 2 by omega)]

theorem Row.pair {w : World} {B n : Nat} {A : Option Addr} {ps : List (Nat × Nat)} (h : Row w B 2 A n (cellsP ps)) {k p q : Nat} (hk : k < n) (hb : ps[k]? = some (p, q)) :
    ∃ b off, A = some ⟨b, off, none⟩ ∧ b < B ∧ w.cell? ⟨b, off + k * 2, none⟩ = some (.int .i64 (p : Int)) ∧ w.cell? ⟨b, off + k * 2 + 1, none⟩ = some (.int .i64 (q : Int)) := by
  obtain ⟨b, off, e, hB, hc⟩ := h.2 (by omega)
  refine ⟨b, off, e, hB, ?_, ?_⟩
  · exact hc (k * 2 + 0) _ ((cellsP_get ps k 0 _ hb (by omega)).trans rfl)
  · exact hc (k * 2 + 1) _ ((cellsP_get ps k 1 _ hb (by omega)).trans rfl)

theorem Row.len2 {w : World} {B n : Nat} {A : Option Addr} {ps : List (Nat × Nat)} (h : Row w B 2 A n (cellsP ps)) : ps.length = n := by
  have := h.1; rw [cellsP_length] at this; omega

theorem infoPair : (Tryz.prog.info? 123).map (fun i => (i.zero, i.size, i.bytes)) = some (some (.agg #[.int .i64 0, .int .i64 0]), 2, 16) := by kernel_rfl

theorem elemPair : Elem Tryz.prog 46 123 (.agg #[.int .i64 0, .int .i64 0]) 2 16 := ⟨Tryz.underlying46, infoPair, rfl, by decide⟩

/-- A text as a string. -/
abbrev bsL (l : List UInt8) : ByteArray := ⟨l.toArray⟩

/-- The pairs of what is known lie in memory. -/
def Kn.At (k : Kn) (w : World) (B : Nat) (A : Option Addr) : Prop := Row w B 2 A k.ps.length (cellsP k.ps)

theorem belowC {w wx wy : World} (hb : Below wx.heap.size wx wy) (h : Below w.heap.size w wx) : Below w.heap.size w wy := h.trans (hb.mono h.size)

/-- A list with its first i elements and its last i ones changed for each other. -/
def swp (l : List UInt8) (i : Nat) : List UInt8 := (List.range l.length).map fun j => if j < i ∨ l.length - 1 - j < i then l.getD (l.length - 1 - j) 0 else l.getD j 0

theorem swp_zero (l : List UInt8) : swp l 0 = l := by
  apply List.ext_getElem?
  intro j
  unfold swp
  by_cases hj : j < l.length
  · simp [hj, List.getD]
  · simp [hj]

theorem swp_length (l : List UInt8) (i : Nat) : (swp l i).length = l.length := by simp [swp]

theorem swp_get (l : List UInt8) (i : Nat) {j : Nat} (hj : j < l.length) : (swp l i)[j]? = some (if j < i ∨ l.length - 1 - j < i then l.getD (l.length - 1 - j) 0 else l.getD j 0) := by
  unfold swp
  simp [hj]

theorem swp_half (l : List UInt8) {i : Nat} (h : l.length / 2 ≤ i) (h2 : i ≤ l.length / 2) : swp l i = l.reverse := by
  apply List.ext_getElem?
  intro j
  by_cases hj : j < l.length
  · rw [swp_get l i hj, List.getElem?_reverse hj]
    by_cases hc : j < i ∨ l.length - 1 - j < i
    · rw [if_pos hc, List.getD, List.getElem?_eq_getElem (by omega)]
      rfl
    · rw [if_neg hc]
      have e : j = l.length - 1 - j := by omega
      conv => lhs; rw [e]
      rw [List.getD, List.getElem?_eq_getElem (by omega)]
      rfl
  · rw [List.getElem?_eq_none (by rw [swp_length]; omega), List.getElem?_eq_none (by simp; omega)]

theorem swp_succ (l : List UInt8) {i : Nat} (h : i < l.length / 2) : swp l (i + 1) = ((swp l i).set i (l.getD (l.length - 1 - i) 0)).set (l.length - 1 - i) (l.getD i 0) := by
  apply List.ext_getElem?
  intro j
  by_cases hj : j < l.length
  · rw [swp_get l _ hj]
    by_cases h1 : j = l.length - 1 - i
    · subst h1
      rw [List.getElem?_set_self (by simp [swp_length]; omega), if_pos (by omega)]
      rw [show l.length - 1 - (l.length - 1 - i) = i by omega]
    · rw [List.getElem?_set_ne (by omega)]
      by_cases h2 : j = i
      · subst h2
        rw [List.getElem?_set_self (by simp [swp_length]; omega), if_pos (by omega)]
      · rw [List.getElem?_set_ne (by omega), swp_get l _ hj]
        by_cases hc : j < i ∨ l.length - 1 - j < i
        · rw [if_pos hc, if_pos (by omega)]
        · rw [if_neg hc, if_neg (by omega)]
  · rw [List.getElem?_eq_none (by rw [swp_length]; omega), List.getElem?_eq_none (by simp [swp_length]; omega)]

/-- A word has at most one byte more than there are pairs. -/
theorem wordF_le (fin : Nat) (ps : List (Nat × Nat)) : ∀ (f c : Nat), (wordF fin ps f c).length ≤ f + 1 := by
  intro f
  induction f with
  | zero => intro c; simp [wordF]
  | succ f ih =>
    intro c
    rw [wordF]
    split
    · split
      · rename_i p b _
        have := ih p
        simp; omega
      · simp
    · simp

theorem Kn.word_le (k : Kn) (c : Nat) : (k.word c).length ≤ k.ps.length + 2 := wordF_le _ _ _ _

theorem Kn.any_le (k : Kn) (c : Nat) : (k.any c).length ≤ k.ps.length + 3 := by
  unfold Kn.any
  split
  · rename_i q _
    split
    · have := k.word_le q
      rw [List.length_append, List.length_take]
      omega
    · have := k.word_le c; omega
  · have := k.word_le c; omega

end Go.Proofs.YthlgpgaeajfchaaGreatDoor

namespace Go.Proofs.YthlgpgaeajfchaaGreatDoor
open Go.RowKit
set_option linter.unusedVariables false

/-- The number of bits of the next code. -/
def Kn.width (k : Kn) : Nat := max (k.l + 1) (need k.great)

theorem need_pow : ∀ (m n : Nat), n < 2 ^ m → 1 ≤ m → need n ≤ m := by
  intro m
  induction m with
  | zero => intro n _ h; omega
  | succ m ih =>
    intro n hn _
    by_cases h1 : 1 < n
    · rw [need_step h1]
      by_cases hm : m = 0
      · subst hm; omega
      · have := ih (n / 2) (by rw [Nat.pow_succ] at hn; omega) (by omega)
        omega
    · rw [need_end h1]; omega

theorem Kn.width_le {k : Kn} (h : k.Valid) : 1 ≤ k.width ∧ k.width ≤ k.m := by
  have hg := Kn.great_bounds h
  have hm := h.most
  have ht : k.top + 1 = 2 ^ k.m := by
    unfold Kn.top
    have := Nat.one_le_two_pow (n := k.m)
    omega
  have hn := need_pow k.m k.great (by omega) (by omega)
  unfold Kn.width
  omega

set_option maxHeartbeats 2000000 in
theorem specL2Width (k : Kn) (A : Option Addr) (c : Nat) (w : World) (h : k.Valid) :
    Calls Tryz.prog 182 #[k.val A c] w fun e w' => e = .returned (.int .i64 (k.width : Int)) ∧ Below w.heap.size w w' := by
  have hp := h.pow
  have hl8 := h.lit8
  have hgb := Kn.great_bounds h
  have HG := fun W => specL2Greatest k A c W h
  obtain ⟨x, hx⟩ : ∃ x, k.great = x := ⟨_, rfl⟩
  have HD := fun W => specL1Needed x W (by omega)
  have hnb := need_le x
  obtain ⟨y, hy⟩ : ∃ y, need x = y := ⟨_, rfl⟩
  have hwd : k.width = max (k.l + 1) y := by unfold Kn.width; rw [hx, hy]
  obtain ⟨n, hn⟩ : ∃ n, k.ps.length = n := ⟨_, rfl⟩
  obtain ⟨o, ho⟩ : ∃ x, k.o = x := ⟨_, rfl⟩
  obtain ⟨l, hl'⟩ : ∃ x, k.l = x := ⟨_, rfl⟩
  obtain ⟨m, hm⟩ : ∃ x, k.m = x := ⟨_, rfl⟩
  obtain ⟨b, hb⟩ : ∃ x, k.base = x := ⟨_, rfl⟩
  obtain ⟨q, hq⟩ : ∃ x, k.lastI = x := ⟨_, rfl⟩
  unfold Kn.val at HG ⊢
  rw [hwd]
  rw [hx] at HG hgb
  rw [hy] at HD hnb
  rw [ho, hl', hm, hb, hq, hn] at HG
  rw [ho, hl', hm, hb, hq, hn]
  rw [hl'] at hl8
  obtain ⟨l1, hl1⟩ : ∃ z : Nat, (l : Int) + 1 = z := ⟨l + 1, by omega⟩
  have hl1' : l + 1 = l1 := by omega
  rw [hl1']
  have hyb : y ≤ 3000 := by omega
  have HG := Lib.hid HG
  have HD := Lib.hid HD
  have w1 : IntKind.i64.wrap (l1 : Int) = l1 := IntWalk.i64_in _ (by omega)
  have emax : ((max l1 y : Nat) : Int) = max (l1 : Int) (y : Int) := by omega
  rw [emax]
  clear hp hgb hx hy h hn ho hl' hm hb hq hl1' hwd hnb emax
  go_enter Tryz.func182, Tryz.ntmps182
  go_wp2_with fail
  go_region_held3 (fun w' => w'.cell? ⟨w.heap.size, 0, none⟩ = some (.int .i64 (o : Int)) ∧ w'.cell? ⟨w.heap.size, 1, none⟩ = some (.int .i64 (l : Int)) ∧ w'.cell? ⟨w.heap.size, 2, none⟩ = some (.int .i64 (m : Int)) ∧ w'.cell? ⟨w.heap.size, 3, none⟩ = some (.slice A n c) ∧ w'.cell? ⟨w.heap.size, 4, none⟩ = some (.int .i64 (b : Int)) ∧ w'.cell? ⟨w.heap.size, 5, none⟩ = some (.int .i64 q) ∧
      Below (w.heap.size + 1) (w.alloc (.cells #[.int .i64 (o : Int), .int .i64 (l : Int), .int .i64 (m : Int), .slice A n c, .int .i64 (b : Int), .int .i64 q] 48)) w')
    (first | exact box6 (Below.refl _ _).drew | assumption | (go_split_ands; exact box6_call (by assumption) (by assumption)) | (go_split_ands; exact ⟨by assumption, by assumption, by assumption, by assumption, by assumption, by assumption, by assumption⟩))
    (first | (go_at_call 178; refine (HG.out _).mono ?_; rintro e w' ⟨rfl, hb⟩) | (go_at_call 187; refine (HD.out _).mono ?_; rintro e w' ⟨rfl, rfl⟩))
  go_split_ands
  have hB : Below (w.heap.size + 1) (w.alloc (.cells #[.int .i64 (o : Int), .int .i64 (l : Int), .int .i64 (m : Int), .slice A n c, .int .i64 (b : Int), .int .i64 q] 48)) w' := by assumption
  go_wp2_with fail
  go_ret
  exact ⟨rfl, ((Below.refl _ _).alloc (Nat.le_refl _) _).trans (hB.mono (by omega))⟩

theorem zero2 {w w2 : World} {t : Nat} (h : Below (w.alloc (.cells #[.int .i64 0, .int .i64 0] t)).drew.heap.size (w.alloc (.cells #[.int .i64 0, .int .i64 0] t)).drew w2) :
    w2.cell? ⟨w.heap.size, 0, none⟩ = some (.int .i64 0) ∧ w2.cell? ⟨w.heap.size, 1, none⟩ = some (.int .i64 0) ∧ w2.frozen? ⟨w.heap.size, 0, none⟩ = false ∧ w2.frozen? ⟨w.heap.size, 1, none⟩ = false :=
  ⟨(h.cell (p := ⟨w.heap.size, 0, none⟩) (by simp)).trans (by simp), (h.cell (p := ⟨w.heap.size, 1, none⟩) (by simp)).trans (by simp), (h.frozen (p := ⟨w.heap.size, 0, none⟩) (by simp)).trans (by simp), (h.frozen (p := ⟨w.heap.size, 1, none⟩) (by simp)).trans (by simp)⟩

theorem set2 {w : World} {b : Nat} {v0 v1 u0 u1 : Value} (h0 : w.cell? ⟨b, 0, none⟩ = some u0) (h1 : w.cell? ⟨b, 1, none⟩ = some u1) :
    ((w.setCell ⟨b, 0, none⟩ v0).setCell ⟨b, 1, none⟩ v1).cell? ⟨b, 0, none⟩ = some v0 ∧ ((w.setCell ⟨b, 0, none⟩ v0).setCell ⟨b, 1, none⟩ v1).cell? ⟨b, 1, none⟩ = some v1 :=
  ⟨(World.cell?_setCell_other _ _ _ _ (by simp)).trans (World.cell?_setCell_same _ _ _ h0), World.cell?_setCell_same _ _ _ ((World.cell?_setCell_other _ _ _ _ (by simp)).trans h1)⟩

theorem byteV_nat {c : Nat} (h : c < 256) : Value.int .u8 (c : Int) = byteV (UInt8.ofNat c) := by
  unfold byteV
  rw [UInt8.toNat_ofNat', Nat.mod_eq_of_lt (by omega)]

set_option maxHeartbeats 4000000 in
theorem specL2Word (k : Kn) (A : Option Addr) (c B x : Nat) (w : World) (h : k.Valid) (hA : k.At w B A) (hB : B ≤ w.heap.size) (hx : k.has k.ps.length x) :
    Calls Tryz.prog 186 #[k.val A c, .int .i64 (x : Int)] w fun e w' => e = .returned (.string (bsL (k.word x))) ∧ Below w.heap.size w w' := by
  have hp := h.pow
  have hl8 := h.lit8
  have hgb := Kn.great_bounds h
  have hfe := k.fin_eq
  have hwl := k.word_le x
  have hxf : x ≤ k.fin + k.ps.length := by unfold Kn.has at hx; omega
  have HE := fun W => specL1End k.o k.l k.m W (by omega)
  have hf : 2 ^ k.l + 1 = k.fin := rfl
  rw [hf] at HE
  obtain ⟨f, hff⟩ : ∃ f, k.fin = f := ⟨_, rfl⟩
  rw [hff] at HE hxf
  obtain ⟨R, hR⟩ : ∃ R, k.word x = R := ⟨_, rfl⟩
  rw [hR] at hwl ⊢
  have HV := Lib.hid h
  have HA := Lib.hid hA
  have hfb : f ≤ 257 := by omega
  have hnb : k.ps.length ≤ 1023 := by omega
  have HF := Lib.hid hff
  have HX := Lib.hid hx
  have HR := Lib.hid hR
  obtain ⟨n, hn⟩ : ∃ x, k.ps.length = x := ⟨_, rfl⟩
  obtain ⟨o, ho⟩ : ∃ x, k.o = x := ⟨_, rfl⟩
  obtain ⟨l, hl'⟩ : ∃ x, k.l = x := ⟨_, rfl⟩
  obtain ⟨m, hm⟩ : ∃ x, k.m = x := ⟨_, rfl⟩
  obtain ⟨b, hb⟩ : ∃ x, k.base = x := ⟨_, rfl⟩
  obtain ⟨q, hq⟩ : ∃ x, k.lastI = x := ⟨_, rfl⟩
  try unfold Kn.val at HE
  try rw [hn] at HE
  try rw [ho] at HE
  try rw [hl'] at HE
  try rw [hm] at HE
  try rw [hb] at HE
  try rw [hq] at HE
  simp only [Kn.val, hn, ho, hl', hm, hb, hq]
  rw [hn] at hwl hnb hxf
  have HN := Lib.hid hn
  have HE := Lib.hid HE
  clear hp hl8 hgb hfe hf hff hR h hA hx hn ho hl' hm hb hq
  go_enter Tryz.func186, Tryz.ntmps186
  go_wp2_with fail
  go_loopw [1, 5] (fun v s wr => ∃ (y j : Nat) (bs : List UInt8), v = .int .i64 (y : Int) ∧ Hid (k.has k.ps.length y) ∧ y ≤ f + n ∧ Hid (bs.length = j) ∧ j + y ≤ n + x + 2 ∧ Hid (R = k.word y ++ bs.reverse) ∧ wr.ownsRow (w.heap.size + 1) 5 1 s j (bs.map byteV) ∧
    Below (w.heap.size + 1) (w.alloc (.cells #[.int .i64 (o : Int), .int .i64 (l : Int), .int .i64 (m : Int), .slice A n c, .int .i64 (b : Int), .int .i64 q] 48)) wr) (fun v _ _ => (intOf v).toNat)
  case atStart => exact ⟨x, 0, [], rfl, HX, by have := HX.out; have := HF.out; have := HN.out; have := k.fin_eq; unfold Kn.has at *; omega, Lib.hid rfl, by omega, Lib.hid (by rw [HR.out]; simp), (by have := World.ownsRow_lit (base := w.heap.size + 1) (size := 1) (e := 5) (w.alloc (.cells #[.int .i64 (o : Int), .int .i64 (l : Int), .int .i64 (m : Int), .slice A n c, .int .i64 (b : Int), .int .i64 q] 48)) #[] 0 (by simp) (by unfold maxLen; omega) rfl; simpa using this), (Below.refl _ _).alloc (by simp) _⟩
  case round =>
    obtain ⟨y, j, bs, rfl, HY, hyn, HL, hj, HW, hown, hbel⟩ := hrel
    have hwz := hbel.size
    simp only [World.alloc, Array.size_push] at hwz
    obtain ⟨q0, q1, q2, q3, q4, q5, _⟩ := box6 hbel
    obtain ⟨Av, cv, rfl, _, _⟩ := own_form hown
    by_cases hyf : f < y
    · obtain ⟨d1, hd1⟩ : ∃ z : Nat, (y : Int) - f = z := ⟨y - f, by omega⟩
      obtain ⟨i, hi⟩ : ∃ z : Nat, (d1 : Int) - 1 = z := ⟨d1 - 1, by omega⟩
      have hyi : y = k.fin + 1 + i := by have := HF.out; omega
      have hin : i < n := by omega
      obtain ⟨⟨p, u⟩, hpu⟩ : ∃ b, k.ps[i]? = some b := ⟨_, List.getElem?_eq_getElem (by have := HN.out; omega)⟩
      have hvp := HV.out.pair i p u hpu
      have hwy := Kn.word_pair HV.out hpu
      rw [← hyi] at hwy
      have hbw := HV.out.below i p u hpu
      have hpc := HV.out.pow
      have hub : u < 256 := by omega
      have hpy : p < y := by omega
      have hA1 := HA.out
      unfold Kn.At at hA1
      rw [HN.out] at hA1
      have HVP : Hid (k.has k.ps.length p) := Lib.hid (Kn.has_more hvp.1 (by have := HN.out; omega))
      have HWY := Lib.hid hwy
      have HPU := Lib.hid hpu
      clear hpu hvp hwy hbw hpc hyi
      go_wp2_with fail
      refine (HE.out _).mono ?_
      rintro e w1 ⟨rfl, hb1⟩
      have hbel1 := hbel.trans (hb1.mono hwz)
      have hown1 := own_below hown hb1 (Nat.le_refl _)
      clear q0 q1 q2 q3 q4 q5 hbel hown hb1 hwz
      have hwz := hbel1.size
      simp only [World.alloc, Array.size_push] at hwz
      obtain ⟨q0, q1, q2, q3, q4, q5, _⟩ := box6 hbel1
      obtain ⟨ba, off, rfl, hbB, g0, g1⟩ := (hA1.below ((Below.refl _ _).alloc (Nat.le_refl _) _ |>.trans (hbel1.mono (by omega))) hB).pair hin HPU.out
      clear hA1
      have w1k : IntKind.i64.wrap (d1 : Int) = d1 := IntWalk.i64_in _ (by omega)
      have w2k : IntKind.i64.wrap (i : Int) = i := IntWalk.i64_in _ (by omega)
      have i0 : (0 : Int) ≤ i := by omega
      have i1 : (i : Int) < n := by omega
      go_upto_region 3 with (fail)
      go_cut [6] (fun v wx => ∃ a2 : Nat, v = .pointer (some ⟨a2, 0, none⟩) ∧ w1.heap.size ≤ a2 ∧ wx.cell? ⟨a2, 0, none⟩ = some (.int .i64 (p : Int)) ∧ wx.cell? ⟨a2, 1, none⟩ = some (.int .i64 (u : Int)) ∧ Below w1.heap.size w1 wx)
      case first =>
        have hs3 : ba < w1.heap.size := by omega
        have hs4 : w.heap.size < w1.heap.size := by omega
        go_region_with (first | (go_at_call 156; (refine (HE.out _).mono ?_; rintro e w2 ⟨rfl, hb2⟩; have hW2 : Below w1.heap.size w1 w2 := belowC hb2 (by go_grown); have c3 := (hW2.cell (p := ⟨w.heap.size, 3, none⟩) (by show w.heap.size < _; omega)).trans q3; have c4 := (hW2.cell (p := ⟨ba, off + i * 2, none⟩) (by show ba < _; omega)).trans g0; have c5 := (hW2.cell (p := ⟨ba, off + i * 2 + 1, none⟩) (by show ba < _; omega)).trans g1; have hs2 := hW2.size; have hs3 : ba < w2.heap.size := (by omega); have hs4 : w.heap.size < w2.heap.size := (by omega); first | (have z0 := zero2 hb2; obtain ⟨z0, z1, z2, z3⟩ := z0) | skip)) | fail)
        all_goals (go_wp2_with fail)
        all_goals (go_meet)
        all_goals (refine ⟨_, rfl, by omega, ?_, ?_, ?_⟩)
        all_goals (first | (go_grown; done) | (simp; done) | exact (set2 z0 z1).1 | exact (set2 z0 z1).2)
      case rest =>
        obtain ⟨a2, rfl, ha2, p0, p1, hbx⟩ := hcut
        have hbelx := hbel1.trans (hbx.mono hwz)
        have hownx := own_below hown1 hbx (Nat.le_refl _)
        have hzx := hbx.size
        have HE2 := Lib.hid (byteV_nat hub)
        have wu : IntKind.u8.wrap (u : Int) = u := u8_in u hub
        have hgx : ∀ g, (Value.slice Av j cv).ownBlock = some g → w.heap.size + 1 ≤ g ∧ g ≠ a2 := fun g hg => by
          have := hown1.lt g hg
          exact ⟨this.1, by omega⟩
        clear hbel1 hown1 hbx q0 q1 q2 q3 q4 q5 g0 g1
        go_wp2_with (first
            | (at_builtin; refine wpList_append_row _ elemByte rfl (.tmp 25) (.tmp 29) rfl (w.heap.size + 1) _ _ _ rfl (hownx.alloc _) _ _ 1 1 [.int .u8 (u : Int)] rfl (Row.newAt _ _ rfl _ [.int .u8 (u : Int)] 1 1 rfl) ?_ ?_ ?_ ?_ ?_))
        · intro z hz; simp at hz; subst hz; rfl
        · unfold maxLen; omega
        · omega
        · simp; omega
        · intro v4 w4 hv4 hg4 _
          have p0' : w4.cell? ⟨a2, 0, none⟩ = some (.int .i64 (p : Int)) := hg4.cell ((World.cell?_alloc_some _ _ _ (by rw [p0]; rfl)).trans p0) (fun e => (hgx _ e.symm).2 rfl)
          have hb4 := (hbelx.alloc (by omega) _).grown hg4 (by simp; omega) (fun g hg => (hgx g hg).1)
          have hv4' : w4.ownsRow (w.heap.size + 1) 5 1 v4 (j + 1) ((bs ++ [UInt8.ofNat u]).map byteV) := by rw [List.map_append, List.map_cons, List.map_nil, ← HE2.out]; exact hv4
          clear hownx hbelx hg4 hv4 hgx
          go_wp2_with fail
          go_roundw
          case rel => exact ⟨p, j + 1, bs ++ [UInt8.ofNat u], rfl, HVP, by omega, Lib.hid (by rw [List.length_append, HL.out]; rfl), by omega, Lib.hid (by rw [HW.out, HWY.out]; simp), hv4', hb4⟩
          case measure => simp [intOf]; omega
    · have hyc : y < 256 := by
        have h1 := HY.out
        have h2 := HF.out
        have h3 := k.fin_eq
        have h4 := HV.out.pow
        unfold Kn.has at h1
        omega
      have HWY : Hid (R = (bs ++ [UInt8.ofNat y]).reverse) := Lib.hid (by rw [HW.out, k.word_lit (by have := HF.out; omega)]; simp)
      have HE2 := Lib.hid (byteV_nat hyc)
      have wy : IntKind.u8.wrap (y : Int) = y := u8_in y hyc
      clear HY HW
      go_wp2_with fail
      refine (HE.out _).mono ?_
      rintro e w1 ⟨rfl, hb1⟩
      have hbel1 := hbel.trans (hb1.mono hwz)
      have hown1 := own_below hown hb1 (Nat.le_refl _)
      have hgx : ∀ g, (Value.slice Av j cv).ownBlock = some g → w.heap.size + 1 ≤ g := fun g hg => (hown1.lt g hg).1
      clear q0 q1 q2 q3 q4 q5 hbel hown hb1 hwz
      have hwz := hbel1.size
      simp only [World.alloc, Array.size_push] at hwz
      go_wp2_with (first
            | (at_builtin; refine wpList_append_row _ elemByte rfl (.tmp 33) (.tmp 36) rfl (w.heap.size + 1) _ _ _ rfl (hown1.alloc _) _ _ 1 1 [.int .u8 (y : Int)] rfl (Row.newAt _ _ rfl _ [.int .u8 (y : Int)] 1 1 rfl) ?_ ?_ ?_ ?_ ?_))
      · intro z hz; simp at hz; subst hz; rfl
      · unfold maxLen; omega
      · omega
      · simp; omega
      · intro v4 w4 hv4 hg4 _
        have hb4 := (hbel1.alloc (by omega) _).grown hg4 (by simp; omega) hgx
        have hv4' : w4.ownsRow (w.heap.size + 1) 5 1 v4 (j + 1) ((bs ++ [UInt8.ofNat y]).map byteV) := by rw [List.map_append, List.map_cons, List.map_nil, ← HE2.out]; exact hv4
        obtain ⟨j2, hj2⟩ : ∃ j2, j + 1 = j2 := ⟨_, rfl⟩
        have hj2' : (bs ++ [UInt8.ofNat y]).length = j2 := by rw [List.length_append, HL.out]; exact hj2
        obtain ⟨b2, hb2⟩ : ∃ b2, bs ++ [UInt8.ofNat y] = b2 := ⟨_, rfl⟩
        rw [hb2] at hj2' hv4' HWY
        rw [hj2] at hv4'
        have HL2 := Lib.hid hj2'
        have hjb : 1 ≤ j2 ∧ j2 ≤ 5000 := by omega
        obtain ⟨A2, c2, rfl, _, _⟩ := own_form hv4'
        clear hown1 hbel1 hg4 hv4 hgx HE2 hb2 hj2' wy HL
        go_wp2_with fail
        go_loopw [7] (fun v wr => ∃ i : Nat, v = .int .i64 (i : Int) ∧ i ≤ j2 / 2 ∧ wr.ownsRow (w.heap.size + 1) 5 1 (.slice A2 j2 c2) j2 ((swp b2 i).map byteV) ∧
          Below (w.heap.size + 1) (w.alloc (.cells #[.int .i64 (o : Int), .int .i64 (l : Int), .int .i64 (m : Int), .slice A n c, .int .i64 (b : Int), .int .i64 q] 48)) wr) (fun v _ => j2 - (intOf v).toNat)
        case atStart => exact ⟨0, rfl, Nat.zero_le _, by rw [swp_zero]; exact hv4', hb4⟩
        case round =>
          clear hv4' hb4
          obtain ⟨i, rfl, hi, hown, hbel⟩ := hrel
          by_cases hij : i < j2 / 2
          · obtain ⟨g, rfl, hg1, hg2, hgc, hgf⟩ := own_at hown (by omega)
            obtain ⟨j3, hj3⟩ : ∃ z : Nat, (j2 : Int) - 1 = z := ⟨j2 - 1, by omega⟩
            obtain ⟨r, hr⟩ : ∃ z : Nat, (j3 : Int) - i = z := ⟨j3 - i, by omega⟩
            have hl2 := HL2.out
            have gi := swp_get b2 i (j := i) (by omega)
            have gr := swp_get b2 i (j := r) (by omega)
            rw [if_neg (by omega)] at gi gr
            have hsw := swp_succ b2 (i := i) (by omega)
            rw [show b2.length - 1 - i = r by omega] at hsw
            obtain ⟨x1, hx1⟩ : ∃ x1, b2.getD i 0 = x1 := ⟨_, rfl⟩
            obtain ⟨x2, hx2⟩ : ∃ x2, b2.getD r 0 = x2 := ⟨_, rfl⟩
            rw [hx1] at gi hsw
            rw [hx2] at gr hsw
            have ci := hgc i (byteV x1) (by rw [List.getElem?_map, gi]; rfl)
            have cr := hgc r (byteV x2) (by rw [List.getElem?_map, gr]; rfl)
            have hst := (hown.stored i (byteV x2)).1
            obtain ⟨g', hge, _, _, hgc2, hgf2⟩ := own_at hst (by omega)
            obtain rfl : g = g' := by injection hge with e; injection e
            have hst2 := (hst.stored r (byteV x1)).1
            have cr2 := hgc2 r (byteV x2) (by rw [List.getElem?_set_ne (by omega), List.getElem?_map, gr]; rfl)
            have e2 : ((((swp b2 i).map byteV).set i (byteV x2)).set r (byteV x1)) = (swp b2 (i + 1)).map byteV := by rw [hsw, List.map_set, List.map_set]
            rw [e2] at hst2
            have hb2 : Below (w.heap.size + 1) (w.alloc (.cells #[.int .i64 (o : Int), .int .i64 (l : Int), .int .i64 (m : Int), .slice A n c, .int .i64 (b : Int), .int .i64 q] 48)) ((wr.setCell ⟨g, i, none⟩ (byteV x2)).setCell ⟨g, r, none⟩ (byteV x1)) := (hbel.setCell hg1 _).setCell hg1 _
            have fi := hgf i
            have fr := hgf2 r
            unfold byteV at ci cr cr2 fr
            have HW2 := Lib.hid (And.intro hst2 hb2)
            clear hst hst2 hb2 hown hbel hgc hgf hgc2 hgf2 gi gr hsw hx1 hx2 hl2 e2
            have i1 : (0 : Int) ≤ i := by omega
            have i2 : (i : Int) < j2 := by omega
            have r1 : (0 : Int) ≤ r := by omega
            have r2 : (r : Int) < j2 := by omega
            have w3 : IntKind.i64.wrap (j3 : Int) = j3 := IntWalk.i64_in _ (by omega)
            have w4 : IntKind.i64.wrap (r : Int) = r := IntWalk.i64_in _ (by omega)
            go_wp2_with fail
            go_roundw
            case rel => exact ⟨i + 1, by go_num, by omega, HW2.out.1, HW2.out.2⟩
            case measure => simp [intOf]; omega
          · obtain rfl : i = j2 / 2 := by omega
            rw [swp_half b2 (by have := HL2.out; omega) (by have := HL2.out; omega)] at hown
            have hR := HWY.out
            rw [← hR] at hown
            have hRl : R.length = j2 := by rw [hR, List.length_reverse]; exact HL2.out
            have hcv := run_convert_own (n := j2) elemByte Tryz.underlying5 Tryz.underlying9 R (by rw [hRl]; exact hown) hRl
            clear hR
            have hb := ((Below.refl w.heap.size w).alloc (Nat.le_refl _) _).trans (hbel.mono (by omega))
            go_wp2_with fail
            go_ret
            exact ⟨rfl, hb⟩

end Go.Proofs.YthlgpgaeajfchaaGreatDoor
