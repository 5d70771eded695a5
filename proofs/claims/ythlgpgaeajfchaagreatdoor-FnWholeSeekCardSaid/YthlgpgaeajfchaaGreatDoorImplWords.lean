/-
  The program's words: what can be known, the next word, the width.
-/
import Derived.Test.YthlgpgaeajfchaaGreatDoorImplBits
import Derived.Test.YthlgpgaeajfchaaGreatDoorWordsC
import Derived.Test.YthlgpgaeajfchaaGreatDoorLearn
import Derived.Lib.BitFns
namespace Go.Proofs.YthlgpgaeajfchaaGreatDoor
open Go.RowKit
set_option linter.unusedVariables false

theorem need_bits (n : Nat) (h : n < 2 ^ 64) : max 1 (Lib.bitLen n) = need n := by
  induction n using Nat.strongRecOn with
  | ind n ih =>
    by_cases h1 : 1 < n
    · have h2 := ih (n / 2) (by omega) (by omega)
      have h3 := Lib.bitLen_half n (by omega) h
      rw [need_step h1, ← h2, h3]
      by_cases h4 : Lib.bitLen (n / 2) = 0
      · exfalso
        have h5 : n / 2 ≠ 0 := by omega
        have h6 := Lib.bitLen_half (n / 2) h5 (by omega)
        omega
      · omega
    · rw [need_end h1]
      have : n = 0 ∨ n = 1 := by omega
      rcases this with rfl | rfl <;> decide

set_option maxHeartbeats 2000000 in
theorem implBitsNeeded (n : Nat) (w : World) (hn : n ≤ 1048576) :
    Calls Tryz.prog 165 #[.int .i64 (n : Int)] w fun e w' => e = .returned (.int .i64 (need n : Int)) ∧ w = w' := by
  have hnd := need_bits n (by omega)
  have hle := need_le n
  have HB := Lib.hid (fun W => Tryz.bits_Len (n : Int) W (by omega) (by omega))
  rw [Int.toNat_natCast] at HB
  have wu : IntKind.u64.wrap (n : Int) = n := by
    unfold IntKind.wrap
    simp [IntKind.signed, IntKind.bits]
    omega
  obtain ⟨b, hb⟩ : ∃ b, Lib.bitLen n = b := ⟨_, rfl⟩
  rw [hb] at HB hnd
  have emax : max (1 : Int) (b : Int) = (need n : Nat) := by omega
  obtain ⟨y, hy⟩ : ∃ y, need n = y := ⟨_, rfl⟩
  rw [hy] at emax hle ⊢
  clear hb hnd hy
  go_enter Tryz.func165, Tryz.ntmps165
  go_wp2_with fail
  refine (HB.out _).mono ?_
  rintro e w1 ⟨rfl, rfl⟩
  go_wp2_with fail
  go_ret
  exact ⟨ret_int (by first | assumption | rfl), rfl⟩

set_option maxHeartbeats 2000000 in
theorem implNextWordS (k : Kn) (A : Option Addr) (c : Nat) (w : World) (hsv : sv k.o k.l k.m) (hnb0 : k.ps.length ≤ 1023) :
    Calls Tryz.prog 123 #[k.val A c] w fun e w' => e = .returned (.int .i64 (k.next : Int)) ∧ Below w.heap.size w w' := by
  have hl8 : k.l ≤ 8 := by have := hsv.2.1.2; omega
  have hp : k.clear ≤ 2 ^ 8 := Nat.pow_le_pow_right (by omega) hl8
  have HE := fun W => implEndCode k.o k.l k.m W hsv
  have hf : 2 ^ k.l + 1 = k.fin := rfl
  rw [hf] at HE
  have HE := Lib.hid HE
  obtain ⟨f, hff⟩ : ∃ f, k.fin = f := ⟨_, rfl⟩
  obtain ⟨n, hn⟩ : ∃ n, k.ps.length = n := ⟨_, rfl⟩
  obtain ⟨f1, hf1⟩ : ∃ x : Nat, (f : Int) + 1 = x := ⟨f + 1, by omega⟩
  obtain ⟨x, hx⟩ : ∃ x : Nat, (f1 : Int) + n = x := ⟨f1 + n, by omega⟩
  have hnx : k.next = x := by unfold Kn.next; omega
  rw [hff] at HE
  rw [hnx]
  have hfb : f ≤ 257 := by have := k.fin_eq; omega
  have hnb : n ≤ 1023 := by omega
  obtain ⟨o, ho⟩ : ∃ x, k.o = x := ⟨_, rfl⟩
  obtain ⟨l, hl'⟩ : ∃ x, k.l = x := ⟨_, rfl⟩
  obtain ⟨m, hm⟩ : ∃ x, k.m = x := ⟨_, rfl⟩
  obtain ⟨b, hb⟩ : ∃ x, k.base = x := ⟨_, rfl⟩
  obtain ⟨q, hq⟩ : ∃ x, k.lastI = x := ⟨_, rfl⟩
  unfold Kn.val
  rw [ho, hl', hm, hb, hq, hn]
  rw [ho, hl', hm] at HE
  have wf1 : IntKind.i64.wrap (f1 : Int) = f1 := IntWalk.i64_in _ (by omega)
  have wx1 : IntKind.i64.wrap (x : Int) = x := IntWalk.i64_in _ (by omega)
  clear hp hl8 hf hff hnx hsv hnb0 ho hl' hm hb hq hn
  go_enter Tryz.func123, Tryz.ntmps123
  go_wp2_with fail
  go_region_held3 (fun w' => w'.cell? ⟨w.heap.size, 0, none⟩ = some (.int .i64 (o : Int)) ∧ w'.cell? ⟨w.heap.size, 1, none⟩ = some (.int .i64 (l : Int)) ∧ w'.cell? ⟨w.heap.size, 2, none⟩ = some (.int .i64 (m : Int)) ∧ w'.cell? ⟨w.heap.size, 3, none⟩ = some (.slice A n c) ∧ w'.cell? ⟨w.heap.size, 4, none⟩ = some (.int .i64 (b : Int)) ∧ w'.cell? ⟨w.heap.size, 5, none⟩ = some (.int .i64 q) ∧
      Below (w.heap.size + 1) (w.alloc (.cells #[.int .i64 (o : Int), .int .i64 (l : Int), .int .i64 (m : Int), .slice A n c, .int .i64 (b : Int), .int .i64 q] 48)) w')
    (first | exact box6 (Below.refl _ _).drew | (go_split_ands; exact box6_call (by assumption) (by assumption)))
    (first | (go_at_call 89; refine (HE.out _).mono ?_; rintro e w' ⟨rfl, hb⟩))
  go_split_ands
  have hB : Below (w.heap.size + 1) (w.alloc (.cells #[.int .i64 (o : Int), .int .i64 (l : Int), .int .i64 (m : Int), .slice A n c, .int .i64 (b : Int), .int .i64 q] 48)) w' := by assumption
  have hW : Below w.heap.size w w' := ((Below.refl _ _).alloc (Nat.le_refl _) _).trans (hB.mono (by omega))
  go_wp2_with fail
  go_ret
  exact ⟨rfl, hW⟩

theorem implNextWord (k : Kn) (A : Option Addr) (c : Nat) (w : World) (h : k.Valid) :
    Calls Tryz.prog 123 #[k.val A c] w fun e w' => e = .returned (.int .i64 (k.next : Int)) ∧ Below w.heap.size w w' :=
  implNextWordS k A c w h.sv (by have := h.room; have := h.pow; omega)

set_option maxHeartbeats 2000000 in
theorem implGrows (k : Kn) (A : Option Addr) (c : Nat) (r : Bool) (w : World) (h : k.Valid) (hr : r = true ↔ k.grows) :
    Calls Tryz.prog 94 #[k.val A c] w fun e w' => e = .returned (.bool r) ∧ Below w.heap.size w w' := by
  have hp := h.pow
  have hm10 := h.most10
  have HN := fun W => implNextWord k A c W h
  have HL := fun W => implLastCode k.o k.l k.m W h.sv
  have ht : 2 ^ k.m - 1 = k.top := rfl
  rw [ht] at HL
  obtain ⟨t, hte⟩ : ∃ t, k.top = t := ⟨_, rfl⟩
  obtain ⟨x, hx⟩ : ∃ x, k.next = x := ⟨_, rfl⟩
  have hlast : (k.last = none ∧ k.lastI = -1) ∨ (k.last.isSome = true ∧ 0 ≤ k.lastI) := by
    cases hl : k.last with
    | none => exact Or.inl ⟨rfl, Kn.lastI_none hl⟩
    | some q => exact Or.inr ⟨rfl, by rw [Kn.lastI_nat hl]; omega⟩
  obtain ⟨n, hn⟩ : ∃ n, k.ps.length = n := ⟨_, rfl⟩
  obtain ⟨o, ho⟩ : ∃ x, k.o = x := ⟨_, rfl⟩
  obtain ⟨l, hl'⟩ : ∃ x, k.l = x := ⟨_, rfl⟩
  obtain ⟨m, hm⟩ : ∃ x, k.m = x := ⟨_, rfl⟩
  obtain ⟨b, hb⟩ : ∃ x, k.base = x := ⟨_, rfl⟩
  obtain ⟨q, hq⟩ : ∃ x, k.lastI = x := ⟨_, rfl⟩
  unfold Kn.val at HN ⊢
  rw [hte] at HL
  rw [hx] at HN
  rw [ho, hl', hm, hb, hq, hn] at HN
  rw [ho, hl', hm] at HL
  rw [ho, hl', hm, hb, hq, hn]
  rw [hq] at hlast
  have HN := Lib.hid HN
  have HL := Lib.hid HL
  unfold Kn.grows at hr
  rw [hx, hte] at hr
  rcases hlast with ⟨h1, h2⟩ | ⟨h1, h2⟩
  · have hrf : r = false := by
      cases r with
      | false => rfl
      | true => have := (hr.1 rfl).1; rw [h1] at this; cases this
    have g1 : (q != -1) = false := by rw [h2]; rfl
    subst hrf
    clear hr hp hm10 ht hte hx h1 h hq hn ho hl' hm hb
    clear h2
    go_enter Tryz.func94, Tryz.ntmps94
    go_wp2_with fail
    go_quiet (fail)
    go_wp2_with fail
    go_ret
    exact ⟨rfl, below_drewN ((Below.refl _ _).alloc (Nat.le_refl _) _) _⟩
  · have g1 : (q != -1) = true := by rw [bne_iff_ne]; omega
    have hrv : r = decide (x ≤ t) := by
      rw [Bool.eq_iff_iff, hr, decide_eq_true_eq]
      constructor
      · intro hh; have := hh.2; omega
      · intro hh; exact ⟨h1, by omega⟩
    rw [hrv]
    clear hr hrv hp hm10 ht hte hx h1 h hq hn ho hl' hm hb
    go_enter Tryz.func94, Tryz.ntmps94
    go_wp2_with fail
    go_region_held3 (fun w' => w'.cell? ⟨w.heap.size, 0, none⟩ = some (.int .i64 (o : Int)) ∧ w'.cell? ⟨w.heap.size, 1, none⟩ = some (.int .i64 (l : Int)) ∧ w'.cell? ⟨w.heap.size, 2, none⟩ = some (.int .i64 (m : Int)) ∧ w'.cell? ⟨w.heap.size, 3, none⟩ = some (.slice A n c) ∧ w'.cell? ⟨w.heap.size, 4, none⟩ = some (.int .i64 (b : Int)) ∧ w'.cell? ⟨w.heap.size, 5, none⟩ = some (.int .i64 q) ∧
      Below (w.heap.size + 1) (w.alloc (.cells #[.int .i64 (o : Int), .int .i64 (l : Int), .int .i64 (m : Int), .slice A n c, .int .i64 (b : Int), .int .i64 q] 48)) w')
      (first | exact box6 (Below.refl _ _).drew | (go_split_ands; exact box6_call (by assumption) (by assumption)))
      (first | (go_at_call 123; refine (HN.out _).mono ?_; rintro e w' ⟨rfl, hb⟩) | (go_at_call 88; refine (HL.out _).mono ?_; rintro e w' ⟨rfl, hb⟩))
    go_split_ands
    have hB : Below (w.heap.size + 1) (w.alloc (.cells #[.int .i64 (o : Int), .int .i64 (l : Int), .int .i64 (m : Int), .slice A n c, .int .i64 (b : Int), .int .i64 q] 48)) w' := by assumption
    have hW : Below w.heap.size w w' := ((Below.refl _ _).alloc (Nat.le_refl _) _).trans (hB.mono (by omega))
    go_wp2_with fail
    go_ret
    exact ⟨rfl, hW⟩

set_option maxHeartbeats 2000000 in
theorem implGreatest (k : Kn) (A : Option Addr) (c : Nat) (w : World) (h : k.Valid) :
    Calls Tryz.prog 166 #[k.val A c] w fun e w' => e = .returned (.int .i64 (k.great : Int)) ∧ Below w.heap.size w w' := by
  have hp := h.pow
  have hr := h.room
  have hn1 : 1 ≤ k.next := by unfold Kn.next; omega
  have hnb : k.next ≤ 4000 := by unfold Kn.next; have := k.fin_eq; omega
  have HN := fun W => implNextWord k A c W h
  obtain ⟨g, hg⟩ : ∃ g, decide k.grows = g := ⟨_, rfl⟩
  have HG := fun W => implGrows k A c g W h (by rw [← hg]; exact decide_eq_true_iff)
  have hgr : k.great = if g = true then k.next else k.next - 1 := by
    unfold Kn.great
    by_cases hgg : k.grows
    · rw [if_pos hgg, if_pos (by rw [← hg]; exact decide_eq_true hgg)]
    · rw [if_neg hgg, if_neg (by rw [← hg]; simp [hgg])]
  rw [hgr]
  obtain ⟨x, hx⟩ : ∃ x, k.next = x := ⟨_, rfl⟩
  obtain ⟨y, hy⟩ : ∃ y : Nat, (x : Int) - 1 = y := ⟨x - 1, by omega⟩
  obtain ⟨n, hn⟩ : ∃ n, k.ps.length = n := ⟨_, rfl⟩
  obtain ⟨o, ho⟩ : ∃ x, k.o = x := ⟨_, rfl⟩
  obtain ⟨l, hl'⟩ : ∃ x, k.l = x := ⟨_, rfl⟩
  obtain ⟨m, hm⟩ : ∃ x, k.m = x := ⟨_, rfl⟩
  obtain ⟨b, hb⟩ : ∃ x, k.base = x := ⟨_, rfl⟩
  obtain ⟨q, hq⟩ : ∃ x, k.lastI = x := ⟨_, rfl⟩
  unfold Kn.val at HN HG ⊢
  rw [hx] at HN hn1 hnb ⊢
  rw [ho, hl', hm, hb, hq, hn] at HN HG
  rw [ho, hl', hm, hb, hq, hn]
  have HN := Lib.hid HN
  have HG := Lib.hid HG
  have hy2 : x - 1 = y := by omega
  rw [hy2]
  clear hp hr hg hgr hx h hq hn ho hl' hm hb hy2
  cases g with
  | true =>
    go_enter Tryz.func166, Tryz.ntmps166
    go_wp2_with fail
    refine (HG.out _).mono ?_
    rintro e w1 ⟨rfl, hb1⟩
    have hB1 : Below (w.heap.size + 1) (w.alloc (.cells #[.int .i64 (o : Int), .int .i64 (l : Int), .int .i64 (m : Int), .slice A n c, .int .i64 (b : Int), .int .i64 q] 48)) w1 := hb1.mono (by simp)
    obtain ⟨q0, q1, q2, q3, q4, q5, _⟩ := box6 hB1
    have HW := Lib.hid (show Below w.heap.size w w1 from ((Below.refl _ _).alloc (Nat.le_refl _) _).trans (hB1.mono (by omega)))
    clear hb1 hB1
    go_wp2_with fail
    refine (HN.out _).mono ?_
    rintro e w2 ⟨rfl, hb2⟩
    go_wp2_with fail
    go_ret
    exact ⟨rfl, HW.out.trans (hb2.mono HW.out.size)⟩
  | false =>
    go_enter Tryz.func166, Tryz.ntmps166
    go_wp2_with fail
    refine (HG.out _).mono ?_
    rintro e w1 ⟨rfl, hb1⟩
    have hB1 : Below (w.heap.size + 1) (w.alloc (.cells #[.int .i64 (o : Int), .int .i64 (l : Int), .int .i64 (m : Int), .slice A n c, .int .i64 (b : Int), .int .i64 q] 48)) w1 := hb1.mono (by simp)
    obtain ⟨q0, q1, q2, q3, q4, q5, _⟩ := box6 hB1
    have HW := Lib.hid (show Below w.heap.size w w1 from ((Below.refl _ _).alloc (Nat.le_refl _) _).trans (hB1.mono (by omega)))
    clear hb1 hB1
    go_wp2_with fail
    refine (HN.out _).mono ?_
    rintro e w2 ⟨rfl, hb2⟩
    go_wp2_with fail
    go_ret
    exact ⟨rfl, HW.out.trans (hb2.mono HW.out.size)⟩


end Go.Proofs.YthlgpgaeajfchaaGreatDoor

namespace Go.Proofs.YthlgpgaeajfchaaGreatDoor
open Go.RowKit
set_option linter.unusedVariables false

set_option maxHeartbeats 2000000 in
theorem implWidth (k : Kn) (A : Option Addr) (c : Nat) (w : World) (h : k.Valid) :
    Calls Tryz.prog 145 #[k.val A c] w fun e w' => e = .returned (.int .i64 (k.width : Int)) ∧ Below w.heap.size w w' := by
  have hp := h.pow
  have hl8 := h.lit8
  have hgb := Kn.great_bounds h
  have HG := fun W => implGreatest k A c W h
  obtain ⟨x, hx⟩ : ∃ x, k.great = x := ⟨_, rfl⟩
  have HD := fun W => implBitsNeeded x W (by omega)
  have hnb := need_le x
  obtain ⟨y, hy⟩ : ∃ y, need x = y := ⟨_, rfl⟩
  have hwd : k.width = max (k.l + 1) y := by unfold Kn.width; rw [hx, hy]
  obtain ⟨n, hn⟩ : ∃ n, k.ps.length = n := ⟨_, rfl⟩
  obtain ⟨o, ho⟩ : ∃ x, k.o = x := ⟨_, rfl⟩
  obtain ⟨l, hl'⟩ : ∃ x, k.l = x := ⟨_, rfl⟩
  obtain ⟨m, hm⟩ : ∃ x, k.m = x := ⟨_, rfl⟩
  obtain ⟨b, hb⟩ : ∃ x, k.base = x := ⟨_, rfl⟩
  obtain ⟨q, hq⟩ : ∃ x, k.lastI = x := ⟨_, rfl⟩
  unfold Kn.val at HG ⊢
  rw [hwd]
  rw [hx] at HG hgb
  rw [hy] at HD hnb
  rw [ho, hl', hm, hb, hq, hn] at HG
  rw [ho, hl', hm, hb, hq, hn]
  rw [hl'] at hl8
  obtain ⟨l1, hl1⟩ : ∃ z : Nat, (l : Int) + 1 = z := ⟨l + 1, by omega⟩
  have hl1' : l + 1 = l1 := by omega
  rw [hl1']
  have hyb : y ≤ 3000 := by omega
  have HG := Lib.hid HG
  have HD := Lib.hid HD
  have w1 : IntKind.i64.wrap (l1 : Int) = l1 := IntWalk.i64_in _ (by omega)
  have emax : ((max l1 y : Nat) : Int) = max (y : Int) (l1 : Int) := by omega
  rw [emax]
  clear hp hgb hx hy h hn ho hl' hm hb hq hl1' hwd hnb emax
  go_enter Tryz.func145, Tryz.ntmps145
  go_wp2_with fail
  go_region_held3 (fun w' => w'.cell? ⟨w.heap.size, 0, none⟩ = some (.int .i64 (o : Int)) ∧ w'.cell? ⟨w.heap.size, 1, none⟩ = some (.int .i64 (l : Int)) ∧ w'.cell? ⟨w.heap.size, 2, none⟩ = some (.int .i64 (m : Int)) ∧ w'.cell? ⟨w.heap.size, 3, none⟩ = some (.slice A n c) ∧ w'.cell? ⟨w.heap.size, 4, none⟩ = some (.int .i64 (b : Int)) ∧ w'.cell? ⟨w.heap.size, 5, none⟩ = some (.int .i64 q) ∧
      Below (w.heap.size + 1) (w.alloc (.cells #[.int .i64 (o : Int), .int .i64 (l : Int), .int .i64 (m : Int), .slice A n c, .int .i64 (b : Int), .int .i64 q] 48)) w')
    (first | exact box6 (Below.refl _ _).drew | assumption | (go_split_ands; exact box6_call (by assumption) (by assumption)) | (go_split_ands; exact ⟨by assumption, by assumption, by assumption, by assumption, by assumption, by assumption, by assumption⟩))
    (first | (go_at_call 166; refine (HG.out _).mono ?_; rintro e w' ⟨rfl, hb⟩) | (go_at_call 165; refine (HD.out _).mono ?_; rintro e w' ⟨rfl, rfl⟩))
  go_split_ands
  have hB : Below (w.heap.size + 1) (w.alloc (.cells #[.int .i64 (o : Int), .int .i64 (l : Int), .int .i64 (m : Int), .slice A n c, .int .i64 (b : Int), .int .i64 q] 48)) w' := by assumption
  go_wp2_with fail
  go_ret
  exact ⟨rfl, ((Below.refl _ _).alloc (Nat.le_refl _) _).trans (hB.mono (by omega))⟩


set_option maxHeartbeats 2000000 in
theorem implIsFull (k : Kn) (A : Option Addr) (c : Nat) (r : Bool) (w : World) (h : k.Valid) (hr : r = true ↔ k.top < k.next ∧ k.base < k.ps.length) :
    Calls Tryz.prog 150 #[k.val A c] w fun e w' => e = .returned (.bool r) ∧ Below w.heap.size w w' := by
  have HN := fun W => implNextWord k A c W h
  have HL := fun W => implLastCode k.o k.l k.m W h.sv
  have ht : 2 ^ k.m - 1 = k.top := rfl
  rw [ht] at HL
  obtain ⟨t, hte⟩ : ∃ t, k.top = t := ⟨_, rfl⟩
  obtain ⟨x, hx⟩ : ∃ x, k.next = x := ⟨_, rfl⟩
  obtain ⟨n, hn⟩ : ∃ n, k.ps.length = n := ⟨_, rfl⟩
  obtain ⟨o, ho⟩ : ∃ x, k.o = x := ⟨_, rfl⟩
  obtain ⟨l, hl'⟩ : ∃ x, k.l = x := ⟨_, rfl⟩
  obtain ⟨m, hm⟩ : ∃ x, k.m = x := ⟨_, rfl⟩
  obtain ⟨b, hb⟩ : ∃ x, k.base = x := ⟨_, rfl⟩
  obtain ⟨q, hq⟩ : ∃ x, k.lastI = x := ⟨_, rfl⟩
  unfold Kn.val at HN ⊢
  rw [hte] at HL
  rw [hx] at HN
  rw [ho, hl', hm, hb, hq, hn] at HN
  rw [ho, hl', hm] at HL
  rw [ho, hl', hm, hb, hq, hn]
  rw [hte, hx, hb, hn] at hr
  have HN := Lib.hid HN
  have HL := Lib.hid HL
  by_cases h1 : t < x
  · have hrv : r = decide (b < n) := by
      rw [Bool.eq_iff_iff, hr, decide_eq_true_eq]
      exact ⟨fun hh => hh.2, fun hh => ⟨h1, hh⟩⟩
    have g1 : decide ((t : Int) < x) = true := decide_eq_true (by omega)
    rw [hrv]
    clear hr hrv ht hte hx h hq hn ho hl' hm hb
    go_enter Tryz.func150, Tryz.ntmps150
    go_wp2_with fail
    obtain ⟨q0, q1, q2, q3, q4, q5, _⟩ := box6 (Below.refl _ (w.alloc (.cells #[.int .i64 (o : Int), .int .i64 (l : Int), .int .i64 (m : Int), .slice A n c, .int .i64 (b : Int), .int .i64 q] 48)))
    refine wp_region_cls (by kernel_rfl) (by kernel_rfl) ?_
    have c0 := clsCell q0
    have c1 := clsCell q1
    have c2 := clsCell q2
    have c3 := clsCell q3
    have c4 := clsCell q4
    have c5 := clsCell q5
    repeat (go_big_quiet_step (first | (go_at_call 123; exact clsCall (HN.out _)) | (go_at_call 88; exact clsCall (HL.out _))))
    refine wpQuiet_nil ?_
    rintro w' ⟨⟨w', hB⟩, rfl⟩
    go_wp2_with fail
    go_ret
    exact ⟨rfl, ((Below.refl _ _).alloc (Nat.le_refl _) _).trans (hB.mono (by simp))⟩
  · have hrf : r = false := by
      cases r with
      | false => rfl
      | true => exact absurd (hr.1 rfl).1 h1
    have g1 : decide ((t : Int) < x) = false := decide_eq_false (by omega)
    subst hrf
    clear hr ht hte hx h hq hn ho hl' hm hb
    go_enter Tryz.func150, Tryz.ntmps150
    go_wp2_with fail
    obtain ⟨q0, q1, q2, q3, q4, q5, _⟩ := box6 (Below.refl _ (w.alloc (.cells #[.int .i64 (o : Int), .int .i64 (l : Int), .int .i64 (m : Int), .slice A n c, .int .i64 (b : Int), .int .i64 q] 48)))
    refine wp_region_cls (by kernel_rfl) (by kernel_rfl) ?_
    have c0 := clsCell q0
    have c1 := clsCell q1
    have c2 := clsCell q2
    have c3 := clsCell q3
    have c4 := clsCell q4
    have c5 := clsCell q5
    repeat (go_big_quiet_step (first | (go_at_call 123; exact clsCall (HN.out _)) | (go_at_call 88; exact clsCall (HL.out _))))
    refine wpQuiet_nil ?_
    rintro w' ⟨⟨w', hB⟩, rfl⟩
    go_wp2_with fail
    go_ret
    exact ⟨rfl, ((Below.refl _ _).alloc (Nat.le_refl _) _).trans (hB.mono (by simp))⟩

set_option maxHeartbeats 2000000 in
theorem implCanFollow (k : Kn) (A : Option Addr) (c x : Nat) (r : Bool) (w : World) (h : k.Valid) (hr : r = true ↔ x ≤ k.great) :
    Calls Tryz.prog 147 #[k.val A c, .int .i64 (x : Int)] w fun e w' => e = .returned (.bool r) ∧ Below w.heap.size w w' := by
  have HG := fun W => implGreatest k A c W h
  obtain ⟨g, hg⟩ : ∃ g, k.great = g := ⟨_, rfl⟩
  have hrv : r = decide (x ≤ g) := by rw [Bool.eq_iff_iff, hr, hg, decide_eq_true_eq]
  rw [hrv]
  obtain ⟨n, hn⟩ : ∃ n, k.ps.length = n := ⟨_, rfl⟩
  obtain ⟨o, ho⟩ : ∃ x, k.o = x := ⟨_, rfl⟩
  obtain ⟨l, hl'⟩ : ∃ x, k.l = x := ⟨_, rfl⟩
  obtain ⟨m, hm⟩ : ∃ x, k.m = x := ⟨_, rfl⟩
  obtain ⟨b, hb⟩ : ∃ x, k.base = x := ⟨_, rfl⟩
  obtain ⟨q, hq⟩ : ∃ x, k.lastI = x := ⟨_, rfl⟩
  unfold Kn.val at HG ⊢
  rw [hg] at HG
  rw [ho, hl', hm, hb, hq, hn] at HG
  rw [ho, hl', hm, hb, hq, hn]
  have HG := Lib.hid HG
  clear hr hrv hg h hq hn ho hl' hm hb
  go_enter Tryz.func147, Tryz.ntmps147
  go_wp2_with fail
  refine (HG.out _).mono ?_
  rintro e w1 ⟨rfl, hb1⟩
  go_wp2_with fail
  go_ret
  exact ⟨rfl, ((Below.refl _ _).alloc (Nat.le_refl _) _).trans (hb1.mono (by simp))⟩

end Go.Proofs.YthlgpgaeajfchaaGreatDoor
