/-
 The contracts of PatchOf, and the walk of the law FnExactPatchOf: it returns true for all arguments.
-/
import Derived.Test.YthlgpgaeajfchaaGreatPwMem

namespace Go.Proofs.YthlgpgaeajfchaaGreat
open Go.RowKit
set_option linter.unusedVariables false

def pfits (n : Nat) (f t : Int) (d : Nat) : Prop := n ≤ 2000 ∧ 0 ≤ f ∧ f ≤ t ∧ t ≤ n ∧ d ≤ 2000 ∧ n - (t - f) + d ≤ 2000

instance (n : Nat) (f t : Int) (d : Nat) : Decidable (pfits n f t d) := by unfold pfits; infer_instance

theorem implPatchFits (s : ByteArray) (f t : Int) (d : ByteArray) (b : Bool) (w : World) (hs : s.size ≤ 1048576) (hd : d.size ≤ 1048576) (hb : b = true ↔ pfits s.size f t d.size) :
  Calls Tryz.prog 86 #[.string s, .agg #[.int .i64 f, .int .i64 t, .string d]] w fun e w' => e = .returned (.bool b) ∧ Below w.heap.size w w' := by
 have HB := Lib.hid hb
 clear hb
 go_enter Tryz.func86, Tryz.ntmps86
 go_wp2
 all_goals go_ret
 all_goals refine ⟨ret_bool ?_, (Below.refl _ _).alloc (Nat.le_refl _) _⟩
 all_goals rw [Bool.eq_iff_iff, HB.out]; unfold pfits; simp; try omega

def apl (s : ByteArray) (f t : Int) (d : ByteArray) : ByteArray × Bool :=
 if pfits s.size f t d.size then (s.extract 0 f.toNat ++ d ++ s.extract t.toNat s.size, true) else (ByteArray.empty, false)

theorem apl_yes {s : ByteArray} {i j : Nat} {d : ByteArray} (h : pfits s.size i j d.size) : apl s i j d = (s.extract 0 i ++ d ++ s.extract j s.size, true) := by
 unfold apl; rw [if_pos h]; simp

theorem apl_no {s : ByteArray} {f t : Int} {d : ByteArray} (h : ¬ pfits s.size f t d.size) : apl s f t d = (ByteArray.empty, false) := by
 unfold apl; rw [if_neg h]

set_option maxHeartbeats 400000 in
theorem implApplyPatch (s : ByteArray) (f t : Int) (d : ByteArray) (w : World) (hs : s.size ≤ 1048576) (hd : d.size ≤ 1048576) :
  Calls Tryz.prog 46 #[.string s, .agg #[.int .i64 f, .int .i64 t, .string d]] w fun e w' => e = .returned (.tuple #[.string (apl s f t d).1, .bool (apl s f t d).2]) ∧ Below w.heap.size w w' := by
 by_cases h : pfits s.size f t d.size
 ·have h' := h
  unfold pfits at h'
  obtain ⟨i, rfl⟩ := Int.eq_ofNat_of_zero_le (show 0 ≤ f by omega)
  obtain ⟨j, rfl⟩ := Int.eq_ofNat_of_zero_le (show 0 ≤ t by omega)
  have HC := Lib.hid (apl_yes h)
  have hi : i ≤ s.size := by omega
  have hj : j ≤ s.size := by omega
  go_enter Tryz.func46, Tryz.ntmps46
  go_wp2_with fail
  refine (implPatchFits s i j d true _ hs hd (btrue h)).mono ?_
  rintro e w1 ⟨rfl, hb⟩
  obtain ⟨hc, hf⟩ := bcell hb
  go_wp2_with fail
  go_quiet (fail)
  go_wp2
  go_ret2
  exact ⟨ret_sb HC.out, below_drewN (((Below.refl _ _).alloc (Nat.le_refl _) _).trans (hb.mono (by simp))) _⟩
 ·have HC := Lib.hid (apl_no h)
  go_enter Tryz.func46, Tryz.ntmps46
  go_wp2_with fail
  refine (implPatchFits s f t d false _ hs hd (bfalse h)).mono ?_
  rintro e w1 ⟨rfl, hb⟩
  go_wp2_with fail
  go_ret2
  exact ⟨ret_sb HC.out, ((Below.refl _ _).alloc (Nat.le_refl _) _).trans (hb.mono (by simp))⟩

structure PB where
 f : Int
 t : Int
 d : ByteArray
 ok : Bool

def inv (s : ByteArray) (f t : Int) (d : ByteArray) : PB :=
 if pfits s.size f t d.size then ⟨f, f + d.size, s.extract f.toNat t.toNat, true⟩ else ⟨0, 0, ByteArray.empty, false⟩

theorem inv_yes {s : ByteArray} {i j : Nat} {d : ByteArray} (h : pfits s.size i j d.size) : inv s i j d = ⟨i, i + d.size, s.extract i j, true⟩ := by
 unfold inv; rw [if_pos h]; simp

theorem inv_no {s : ByteArray} {f t : Int} {d : ByteArray} (h : ¬ pfits s.size f t d.size) : inv s f t d = ⟨0, 0, ByteArray.empty, false⟩ := by
 unfold inv; rw [if_neg h]

def PB.val (p : PB) : Value := .tuple #[.agg #[.int .i64 p.f, .int .i64 p.t, .string p.d], .bool p.ok]

theorem ret_pb {f t : Int} {d : ByteArray} {b : Bool} {o : PB} (h : o = ⟨f, t, d, b⟩) : Ending.returned (.tuple #[.agg #[.int .i64 f, .int .i64 t, .string d], .bool b]) = .returned o.val := by rw [h]; rfl

set_option maxHeartbeats 400000 in
theorem implInvertPatch (s : ByteArray) (f t : Int) (d : ByteArray) (w : World) (hs : s.size ≤ 1048576) (hd : d.size ≤ 1048576) :
  Calls Tryz.prog 49 #[.string s, .agg #[.int .i64 f, .int .i64 t, .string d]] w fun e w' => e = .returned (inv s f t d).val ∧ Below w.heap.size w w' := by
 by_cases h : pfits s.size f t d.size
 ·have h' := h
  unfold pfits at h'
  obtain ⟨i, rfl⟩ := Int.eq_ofNat_of_zero_le (show 0 ≤ f by omega)
  obtain ⟨j, rfl⟩ := Int.eq_ofNat_of_zero_le (show 0 ≤ t by omega)
  have HC := Lib.hid (inv_yes h)
  have hi : i ≤ j := by omega
  have hj : j ≤ s.size := by omega
  go_enter Tryz.func49, Tryz.ntmps49
  go_wp2_with fail
  refine (implPatchFits s i j d true _ hs hd (btrue h)).mono ?_
  rintro e w1 ⟨rfl, hb⟩
  obtain ⟨hc, hf⟩ := bcell hb
  go_wp2_with fail
  go_region
  go_wp2
  refine bodyPost_ret (v := .tuple #[.agg #[.int .i64 i, .int .i64 (i + d.size), .string (s.extract i j)], .bool true]) (by simp [results, Tryz.results49, go_sem, hc]) rfl ?_
  refine ⟨ret_pb HC.out, ?_⟩
  clear hc hf h h' HC
  have hb' : Below w.heap.size w w1 := (((Below.refl _ _).alloc (Nat.le_refl _) _).alloc (by simp) _).trans (hb.mono (by simp; omega))
  clear hb
  go_grown
 ·have HC := Lib.hid (inv_no h)
  go_enter Tryz.func49, Tryz.ntmps49
  go_wp2_with fail
  refine (implPatchFits s f t d false _ hs hd (bfalse h)).mono ?_
  rintro e w1 ⟨rfl, hb⟩
  obtain ⟨hc, hf⟩ := bcell hb
  go_wp2_with fail
  refine bodyPost_ret (v := .tuple #[.agg #[.int .i64 0, .int .i64 0, .string ByteArray.empty], .bool false]) (by simp [results, Tryz.results49, go_sem, hc]; rfl) rfl ?_
  refine ⟨ret_pb HC.out, ?_⟩
  clear hc hf h HC
  have hb' : Below w.heap.size w w1 := (((Below.refl _ _).alloc (Nat.le_refl _) _).alloc (by simp) _).trans (hb.mono (by simp; omega))
  clear hb
  go_grown

def lcp : List UInt8 → List UInt8 → Nat
 | a :: xs, b :: ys => if a = b then lcp xs ys + 1 else 0
 | _, _ => 0

theorem lcp_le_left : ∀ a b : List UInt8, lcp a b ≤ a.length
 | [], b => by simp [lcp]
 | a :: xs, [] => by simp [lcp]
 | a :: xs, b :: ys => by
  have := lcp_le_left xs ys
  unfold lcp; split <;> simp <;> omega
theorem lcp_le_right : ∀ a b : List UInt8, lcp a b ≤ b.length
 | [], b => by simp [lcp]
 | a :: xs, [] => by simp [lcp]
 | a :: xs, b :: ys => by
  have := lcp_le_right xs ys
  unfold lcp; split <;> simp <;> omega
theorem lcp_step : ∀ (a b : List UInt8) (k : Nat) (ha : k < a.length) (hb : k < b.length), k ≤ lcp a b → a[k] = b[k] → k + 1 ≤ lcp a b
 | a :: xs, b :: ys, 0, _, _, _, h => by
  have h : a = b := by simpa using h
  unfold lcp; rw [if_pos h]; omega
 | a :: xs, b :: ys, k + 1, ha, hb, hk, h => by
  unfold lcp at hk ⊢
  split at hk
  ·rename_i e; rw [if_pos e]
   have := lcp_step xs ys k (by simpa using ha) (by simpa using hb) (by omega) (by simpa using h)
   omega
  ·omega
theorem lcp_stop : ∀ (a b : List UInt8) (k : Nat) (ha : k < a.length) (hb : k < b.length), k ≤ lcp a b → a[k] ≠ b[k] → lcp a b = k
 | a :: xs, b :: ys, 0, _, _, _, h => by
  have h : a ≠ b := by simpa using h
  unfold lcp; rw [if_neg h]
 | a :: xs, b :: ys, k + 1, ha, hb, hk, h => by
  unfold lcp at hk ⊢
  split at hk
  ·rename_i e; rw [if_pos e]
   have := lcp_stop xs ys k (by simpa using ha) (by simpa using hb) (by omega) (by simpa using h)
   omega
  ·omega

set_option maxHeartbeats 400000 in
theorem implSharedStart (a b : ByteArray) (w : World) (ha : a.size ≤ 1048576) (hb : b.size ≤ 1048576) :
  Calls Tryz.prog 87 #[.string a, .string b] w fun e w' => e = .returned (.int .i64 (lcp a.data.toList b.data.toList)) ∧ Drawn w w' := by
 have l1 := lcp_le_left a.data.toList b.data.toList
 have l2 := lcp_le_right a.data.toList b.data.toList
 go_enter Tryz.func87, Tryz.ntmps87
 go_wp2
 go_loopw [5] (fun i wr => ∃ k : Nat, k ≤ lcp a.data.toList b.data.toList ∧ i = .int .i64 k ∧ Drawn w wr) (fun i _ => a.size - (intOf i).toNat)
 case atStart => exact ⟨0, Nat.zero_le _, rfl, Drawn.refl _⟩
 case round =>
  obtain ⟨k, hk, rfl, hdr⟩ := hrel
  have hla : k ≤ a.size := by simpa using Nat.le_trans hk l1
  have hlb : k ≤ b.size := by simpa using Nat.le_trans hk l2
  by_cases h1 : k < a.size ∧ k < b.size
  ·obtain ⟨ha', hb'⟩ := h1
   have hda : decide ((k : Int) < a.size) = true := by simp; omega
   have hdb : decide ((k : Int) < b.size) = true := by simp; omega
   by_cases h2 : a[k] = b[k]
   ·have hs := lcp_step _ _ k (by simpa using ha') (by simpa using hb') hk (by simpa [ByteArray.getElem_eq_getElem_data] using h2)
    by_cases hm : b.size < a.size
    all_goals
     go_wp2
     go_quiet (fail)
     go_wp2
     go_roundw
     case rel => exact ⟨k + 1, hs, by go_num, hdr.more _⟩
     case measure => simp [intOf]; omega
   ·have hs := lcp_stop _ _ k (by simpa using ha') (by simpa using hb') hk (by simpa [ByteArray.getElem_eq_getElem_data] using h2)
    have HS := Lib.hid hs
    clear hs
    have h3 : (((a[k].toNat : Nat) : Int) == ((b[k].toNat : Nat) : Int)) = false := by
     rw [beq_eq_false_iff_ne]; intro h; exact h2 (UInt8.toNat_inj.1 (by omega))
    by_cases hm : b.size < a.size
    all_goals
     go_wp2
     go_quiet (fail)
     go_wp2
     go_ret
     exact ⟨ret_int (by rw [HS.out]), hdr.more _⟩
  ·have hs : lcp a.data.toList b.data.toList = k := by
    simp at l1 l2; omega
   have HS := Lib.hid hs
   clear hs
   by_cases hm : b.size < a.size
   ·have hd : decide (k < b.size) = false := by simp; omega
    clear h1
    go_wp2
    go_quiet (fail)
    go_wp2
    go_ret
    exact ⟨ret_int (by rw [HS.out]), hdr.more _⟩
   ·have hd : decide (k < a.size) = false := by simp; omega
    clear h1
    go_wp2
    go_quiet (fail)
    go_wp2
    go_ret
    exact ⟨ret_int (by rw [HS.out]), hdr.more _⟩

set_option maxHeartbeats 400000 in
theorem implSharedEnd (a b : ByteArray) (w : World) (ha : a.size ≤ 1048576) (hb : b.size ≤ 1048576) :
  Calls Tryz.prog 88 #[.string a, .string b] w fun e w' => e = .returned (.int .i64 (lcp a.data.toList.reverse b.data.toList.reverse)) ∧ Drawn w w' := by
 have l1 := lcp_le_left a.data.toList.reverse b.data.toList.reverse
 have l2 := lcp_le_right a.data.toList.reverse b.data.toList.reverse
 go_enter Tryz.func88, Tryz.ntmps88
 go_wp2
 go_loopw [5] (fun i wr => ∃ k : Nat, k ≤ lcp a.data.toList.reverse b.data.toList.reverse ∧ i = .int .i64 k ∧ Drawn w wr) (fun i _ => a.size - (intOf i).toNat)
 case atStart => exact ⟨0, Nat.zero_le _, rfl, Drawn.refl _⟩
 case round =>
  obtain ⟨k, hk, rfl, hdr⟩ := hrel
  have hla : k ≤ a.size := by simpa using Nat.le_trans hk l1
  have hlb : k ≤ b.size := by simpa using Nat.le_trans hk l2
  by_cases h1 : k < a.size ∧ k < b.size
  ·obtain ⟨ha', hb'⟩ := h1
   have hda : decide ((k : Int) < a.size) = true := by simp; omega
   have hdb : decide ((k : Int) < b.size) = true := by simp; omega
   obtain ⟨i, hi⟩ : ∃ i, i = a.size - 1 - k := ⟨_, rfl⟩
   obtain ⟨j, hj⟩ : ∃ j, j = b.size - 1 - k := ⟨_, rfl⟩
   have hil : i < a.size := by omega
   have hjl : j < b.size := by omega
   by_cases h2 : a[i] = b[j]
   ·have hs := lcp_step _ _ k (by simpa using ha') (by simpa using hb') hk (by subst hi hj; simpa [ByteArray.getElem_eq_getElem_data, List.getElem_reverse] using h2)
    have ea1 : IntKind.i64.wrap (↑a.size - 1) = ↑a.size - 1 := IntWalk.i64_in _ (by omega)
    have ea2 : IntKind.i64.wrap (↑a.size - 1 - ↑k) = (i : Int) := by rw [IntWalk.i64_in _ (by omega)]; omega
    have eb1 : IntKind.i64.wrap (↑b.size - 1) = ↑b.size - 1 := IntWalk.i64_in _ (by omega)
    have eb2 : IntKind.i64.wrap (↑b.size - 1 - ↑k) = (j : Int) := by rw [IntWalk.i64_in _ (by omega)]; omega
    clear hi hj
    by_cases hm : b.size < a.size
    all_goals
     go_wp2
     go_quiet (fail)
     clear ea1 ea2 eb1 eb2
     go_wp2
     go_roundw
     case rel => exact ⟨k + 1, hs, by go_num, hdr.more _⟩
     case measure => simp [intOf]; omega
   ·have hs := lcp_stop _ _ k (by simpa using ha') (by simpa using hb') hk (by subst hi hj; simpa [ByteArray.getElem_eq_getElem_data, List.getElem_reverse] using h2)
    have HS := Lib.hid hs
    clear hs
    have h3 : (((a[i].toNat : Nat) : Int) == ((b[j].toNat : Nat) : Int)) = false := by
     rw [beq_eq_false_iff_ne]; intro h; exact h2 (UInt8.toNat_inj.1 (by omega))
    have ea1 : IntKind.i64.wrap (↑a.size - 1) = ↑a.size - 1 := IntWalk.i64_in _ (by omega)
    have ea2 : IntKind.i64.wrap (↑a.size - 1 - ↑k) = (i : Int) := by rw [IntWalk.i64_in _ (by omega)]; omega
    have eb1 : IntKind.i64.wrap (↑b.size - 1) = ↑b.size - 1 := IntWalk.i64_in _ (by omega)
    have eb2 : IntKind.i64.wrap (↑b.size - 1 - ↑k) = (j : Int) := by rw [IntWalk.i64_in _ (by omega)]; omega
    clear hi hj
    by_cases hm : b.size < a.size
    all_goals
     go_wp2
     go_quiet (fail)
     clear ea1 ea2 eb1 eb2
     go_wp2
     go_ret
     exact ⟨ret_int (by rw [HS.out]), hdr.more _⟩
  ·have hs : lcp a.data.toList.reverse b.data.toList.reverse = k := by
    simp at l1 l2; omega
   have HS := Lib.hid hs
   clear hs
   by_cases hm : b.size < a.size
   ·have hd : decide (k < b.size) = false := by simp; omega
    clear h1
    go_wp2
    go_quiet (fail)
    go_wp2
    go_ret
    exact ⟨ret_int (by rw [HS.out]), hdr.more _⟩
   ·have hd : decide (k < a.size) = false := by simp; omega
    clear h1
    go_wp2
    go_quiet (fail)
    go_wp2
    go_ret
    exact ⟨ret_int (by rw [HS.out]), hdr.more _⟩

def endK (a b : ByteArray) (n : Nat) : Nat := lcp (a.extract n a.size).data.toList.reverse (b.extract n b.size).data.toList.reverse

theorem endK_le (a b : ByteArray) (n : Nat) (ha : n ≤ a.size) (hb : n ≤ b.size) : endK a b n ≤ a.size - n ∧ endK a b n ≤ b.size - n := by
 have h1 := lcp_le_left (a.extract n a.size).data.toList.reverse (b.extract n b.size).data.toList.reverse
 have h2 := lcp_le_right (a.extract n a.size).data.toList.reverse (b.extract n b.size).data.toList.reverse
 simp at h1 h2
 unfold endK
 constructor
 ·simpa using h1
 ·simpa using h2

def pat (a b : ByteArray) : PB :=
 if a.size ≤ 2000 ∧ b.size ≤ 2000 then
  ⟨lcp a.data.toList b.data.toList, a.size - endK a b (lcp a.data.toList b.data.toList), b.extract (lcp a.data.toList b.data.toList) (b.size - endK a b (lcp a.data.toList b.data.toList)), true⟩
 else ⟨0, 0, ByteArray.empty, false⟩

theorem pat_no (a b : ByteArray) (h : ¬ (a.size ≤ 2000 ∧ b.size ≤ 2000)) : pat a b = ⟨0, 0, ByteArray.empty, false⟩ := by
 unfold pat; rw [if_neg h]

theorem pat_yes {a b : ByteArray} {n k : Nat} (h : a.size ≤ 2000) (h' : b.size ≤ 2000) (hn : lcp a.data.toList b.data.toList = n) (hk : endK a b n = k) : pat a b = ⟨n, a.size - k, b.extract n (b.size - k), true⟩ := by
 unfold pat; rw [if_pos ⟨h, h'⟩, hn, hk]

set_option maxHeartbeats 400000 in
set_option maxRecDepth 20000 in
theorem implPatchOf (a b : ByteArray) (w : World) (ha : a.size ≤ 1048576) (hb : b.size ≤ 1048576) :
  Calls Tryz.prog 47 #[.string a, .string b] w fun e w' => e = .returned (pat a b).val ∧ Below w.heap.size w w' := by
 by_cases h : a.size ≤ 2000 ∧ b.size ≤ 2000
 ·obtain ⟨h1, h2⟩ := h
  obtain ⟨n, hn⟩ : ∃ n, lcp a.data.toList b.data.toList = n := ⟨_, rfl⟩
  have hna : n ≤ a.size := by have := lcp_le_left a.data.toList b.data.toList; simp at this; omega
  have hnb : n ≤ b.size := by have := lcp_le_right a.data.toList b.data.toList; simp at this; omega
  obtain ⟨k, hk⟩ : ∃ k, endK a b n = k := ⟨_, rfl⟩
  have hka := (endK_le a b n hna hnb).1
  have hkb := (endK_le a b n hna hnb).2
  rw [hk] at hka hkb
  have hC := pat_yes h1 h2 hn hk
  obtain ⟨j, hj⟩ : ∃ j, b.size - k = j := ⟨_, rfl⟩
  rw [hj] at hC
  have HC := Lib.hid hC
  have ej : (b.size : Int) - ↑k = ↑j := by omega
  have hnj : n ≤ j := by omega
  have hjb : j ≤ b.size := by omega
  clear hC hj
  have HN := Lib.hid hn
  have HK := Lib.hid hk
  clear hn hk
  go_enter Tryz.func47, Tryz.ntmps47
  go_wp2_with fail
  refine (implSharedStart a b _ ha hb).mono ?_
  rintro e w1 ⟨rfl, hd1⟩
  rw [HN.out]
  have hb1 := ((Below.refl _ _).alloc (Nat.le_refl _) _).trans (hd1.below w.heap.size)
  obtain ⟨hc1, hf1, hz1⟩ := hd1.cells
  clear hd1
  go_wp2_with fail
  have hc := implSharedEnd (a.extract n a.size) (b.extract n b.size)
  go_quiet ((go_at_call 88; exact Calls.quiet_of (hc _ (by simp; omega) (by simp; omega))))
  clear hc
  unfold endK at HK
  rw [HK.out]
  go_wp2
  refine bodyPost_ret (v := .tuple #[.agg #[.int .i64 n, .int .i64 (a.size - k), .string (b.extract n j)], .bool true]) (by simp [results, Tryz.results47, go_sem, hc1]) rfl ?_
  refine ⟨ret_pb HC.out, ?_⟩
  clear hc1 hf1 hz1 HC HK HN
  have hb2 := below_drewN hb1 nq
  go_grown
 ·have HC := Lib.hid (pat_no a b h)
  by_cases h1 : a.size ≤ 2000
  all_goals go_enter Tryz.func47, Tryz.ntmps47
  all_goals go_wp2
  all_goals refine bodyPost_ret (v := .tuple #[.agg #[.int .i64 0, .int .i64 0, .string ByteArray.empty], .bool false]) (by simp [results, Tryz.results47, go_sem]; rfl) rfl ?_
  all_goals refine ⟨ret_pb HC.out, ?_⟩
  all_goals go_grown

end Go.Proofs.YthlgpgaeajfchaaGreat

