/-
 Slices of integers of the call's own; the law's own helpers for them: eqIntS, markIntS, heldIntS; a world in which one block alone has turned.
-/
import Derived.Test.YthlgpgaeajfchaaGreatRows
import Derived.WalkKit
import Derived.WalkLawsBesides
import Derived.ProofKit
import Derived.OpenShut
import Derived.ShutString
import Derived.Deep.QuietTactic
import Derived.BigQuiet
import Derived.Deep.Draws
import Derived.Lib.Hide
import Derived.Below
import Derived.ChangeSame
import Derived.Handy
import Derived.BigRegion
import Derived.Lib.Repeat
import Derived.SliceStrings
import Derived.Deep.Slices
import Derived.Deep.OwnRows
import Derived.Maps.AppendAt
import Derived.Laws.BitsLemmas
import Derived.IntWalk
import Derived.Deep.DeepCutAuto
import Derived.Deep.CutBlock

namespace Go.Proofs.YthlgpgaeajfchaaGreat
open Go.RowKit Go.WideShapes Go.ChangeShapes

theorem ret_int {k : IntKind} {a b : Int} (h : a = b) : Ending.returned (.int k a) = .returned (.int k b) := by rw [h]
theorem ret_bool {a b : Bool} (h : a = b) : Ending.returned (.bool a) = .returned (.bool b) := by rw [h]
theorem ret_str {a b : ByteArray} (h : a = b) : Ending.returned (.string a) = .returned (.string b) := by rw [h]

def Drawn (w w' : World) : Prop := ∃ n, w' = w.drewN n
theorem Drawn.refl (w : World) : Drawn w w := ⟨0, rfl⟩
theorem Drawn.more {a w : World} (h : Drawn a w) (n : Nat) : Drawn a (w.drewN n) := by
 obtain ⟨k, rfl⟩ := h; exact ⟨k + n, World.drewN_drewN _ _ _⟩
theorem Drawn.drew {a w : World} (h : Drawn a w) : Drawn a w.drew := h.more 1
theorem Drawn.trans {a b c : World} (h : Drawn a b) (k : Drawn b c) : Drawn a c := by
 obtain ⟨n, rfl⟩ := k; exact h.more n
theorem Drawn.of (w : World) (n : Nat) : Drawn w (w.drewN n) := ⟨n, rfl⟩

theorem below_drewN {B : Nat} {a w : World} (h : Below B a w) (n : Nat) : Below B a (w.drewN n) := ⟨h.os, h.tape, h.output, h.size, h.block⟩
theorem Drawn.below {a w : World} (h : Drawn a w) (B : Nat) : Below B a w := by
 obtain ⟨n, rfl⟩ := h; exact below_drewN (Below.refl _ _) n

theorem Drawn.cells {a w : World} (h : Drawn a w) : (∀ p, w.cell? p = a.cell? p) ∧ (∀ p, w.frozen? p = a.frozen? p) ∧ w.heap.size = a.heap.size := by
 obtain ⟨n, rfl⟩ := h; exact ⟨fun _ => rfl, fun _ => rfl, rfl⟩
theorem bcell {W w1 : World} (hb : Below W.heap.size W w1) : (∀ b o, b < W.heap.size → w1.cell? ⟨b, o, none⟩ = W.cell? ⟨b, o, none⟩) ∧ (∀ b o, b < W.heap.size → w1.frozen? ⟨b, o, none⟩ = W.frozen? ⟨b, o, none⟩) :=
 ⟨fun b o h => hb.cell (p := ⟨b, o, none⟩) h, fun b o h => hb.frozen (p := ⟨b, o, none⟩) h⟩

end Go.Proofs.YthlgpgaeajfchaaGreat

namespace Go.Proofs.YthlgpgaeajfchaaGreat
open Go.RowKit
set_option linter.unusedVariables false

theorem btrue {p : Prop} (h : p) : (true = true ↔ p) := ⟨fun _ => h, fun _ => rfl⟩
theorem bfalse {p : Prop} (h : ¬ p) : (false = true ↔ p) := ⟨(fun e => by cases e), fun e => absurd e h⟩

theorem specL1In (n low high : Int) (b : Bool) (w : World) (hb : b = true ↔ low ≤ n ∧ n ≤ high) :
  Calls Tryz.prog 94 #[.int .i64 n, .int .i64 low, .int .i64 high] w fun e w' => e = .returned (.bool b) ∧ w = w' := by
 go_enter Tryz.func94, Tryz.ntmps94
 go_wp2
 all_goals go_ret
 all_goals refine ⟨ret_bool ?_, rfl⟩
 all_goals rw [Bool.eq_iff_iff, hb]; simp; try omega

theorem run_one_byte {P : Program} {src dst e : TypeId} (hs : P.underlying src = some (.slice e)) (he : P.underlying e = some (.int .u8)) (hd : P.underlying dst = some .string) (x : Nat) (hx : x < 256)
  (W : World) (a : Addr) (hc : W.cell? a = some (.int .u8 (x : Int))) : (convert src dst (.slice (some a) 1 1)).run P W = .ok (.string ⟨#[UInt8.ofNat x]⟩) W := by
 have := run_convert_bytes_back (P := P) W src dst e a 1 [UInt8.ofNat x] hs he hd (fun j hj => by
  have : j = 0 := by simpa using hj
  subst this
  simp [Addr.add, hc, Nat.mod_eq_of_lt hx])
 simpa using this

theorem ret_sb {a : ByteArray} {b : Bool} {o : ByteArray × Bool} (h : o = (a, b)) : Ending.returned (.tuple #[.string a, .bool b]) = .returned (.tuple #[.string o.1, .bool o.2]) := by rw [h]

def repB (s : ByteArray) : Nat → ByteArray
 | 0 => ByteArray.empty
 | n + 1 => s ++ repB s n

theorem repB_two (s : ByteArray) (n : Nat) : repB (s ++ s) n = repB s (2 * n) := by
 induction n with
 | zero => rfl
 | succ n ih =>
  rw [show 2 * (n + 1) = 2 * n + 1 + 1 from by omega]
  simp only [repB]
  rw [ih, ByteArray.append_assoc]

theorem repB_odd (s : ByteArray) {n : Nat} (h : n % 2 = 1) : s ++ repB (s ++ s) (n / 2) = repB s n := by
 rw [repB_two]
 obtain ⟨k, rfl⟩ : ∃ k, n = 2 * k + 1 := ⟨n / 2, by omega⟩
 rw [show (2 * k + 1) / 2 = k from by omega]
 rfl

theorem repB_even (s : ByteArray) {n : Nat} (h : n % 2 = 0) : repB (s ++ s) (n / 2) = repB s n := by
 rw [repB_two, show 2 * (n / 2) = n from by omega]

theorem repB_size (s : ByteArray) (n : Nat) : (repB s n).size = s.size * n := by
 induction n with
 | zero => rfl
 | succ n ih => simp only [repB, ByteArray.size_append, ih]; rw [Nat.mul_succ]; omega

def ManyAt (M : Nat) (R : ByteArray) (n : Nat) (s out : ByteArray) : Prop := out ++ repB s n = R ∧ s.size * n ≤ M ∧ out.size + s.size * n = R.size ∧ s.size ≤ 2 * M + 1048576

theorem many_start {s : ByteArray} {n : Nat} (hs : s.size ≤ 1048576) : ManyAt (s.size * n) (repB s n) n s ByteArray.empty :=
 ⟨by simp, Nat.le_refl _, by rw [repB_size]; show 0 + _ = _; omega, by omega⟩

theorem many_size {M n : Nat} {R s out : ByteArray} (h : ManyAt M R n s out) (hn : 0 < n) : s.size ≤ M := by
 have h1 : s.size * 1 ≤ s.size * n := Nat.mul_le_mul_left _ hn
 have := h.2.1
 omega

theorem many_odd {M n : Nat} {R s out : ByteArray} (h : ManyAt M R n s out) (hn : 0 < n) (ho : n % 2 = 1) : ManyAt M R (n / 2) (s ++ s) (out ++ s) := by
 have hz := many_size h hn
 obtain ⟨h1, h2, h3, h4⟩ := h
 have e : (s ++ s).size * (n / 2) + s.size = s.size * n := by
  rw [ByteArray.size_append, ← Nat.two_mul, Nat.mul_comm 2, Nat.mul_assoc, ← Nat.mul_succ]
  congr 1; omega
 refine ⟨by rw [ByteArray.append_assoc, repB_odd s ho]; exact h1, by omega, by rw [ByteArray.size_append]; omega, by rw [ByteArray.size_append]; omega⟩

theorem many_even {M n : Nat} {R s out : ByteArray} (h : ManyAt M R n s out) (hn : 0 < n) (ho : n % 2 = 0) : ManyAt M R (n / 2) (s ++ s) out := by
 have hz := many_size h hn
 obtain ⟨h1, h2, h3, h4⟩ := h
 have e : (s ++ s).size * (n / 2) = s.size * n := by
  rw [ByteArray.size_append, ← Nat.two_mul, Nat.mul_comm 2, Nat.mul_assoc]
  congr 1; omega
 refine ⟨by rw [repB_even s ho]; exact h1, by omega, by omega, by rw [ByteArray.size_append]; omega⟩

theorem many_end {M : Nat} {R s out : ByteArray} (h : ManyAt M R 0 s out) : out = R := by
 have := h.1
 simpa [repB] using this

set_option maxHeartbeats 1000000 in
theorem specL9Many (s : ByteArray) (n : Int) (w : World) (hs : s.size ≤ 1048576) (hn1 : n ≤ 9223372036854775807) (hM : s.size * n.toNat ≤ 1073741824) :
  Calls Tryz.prog 208 #[.string s, .int .i64 n] w fun e w' => e = .returned (.string (repB s n.toNat)) ∧ w = w' := by
 obtain ⟨R, hR⟩ : ∃ R, repB s n.toNat = R := ⟨_, rfl⟩
 have H0 := many_start (s := s) (n := n.toNat) hs
 rw [hR] at H0 ⊢
 obtain ⟨M, hMe⟩ : ∃ M, s.size * n.toNat = M := ⟨_, rfl⟩
 rw [hMe] at H0 hM
 have hRz : R.size = M := by rw [← hR, repB_size, hMe]
 have HR := Lib.hid hRz
 have H1 := Lib.hid H0
 clear hR hMe hRz H0
 by_cases h0 : 0 ≤ n
 ·obtain ⟨m, rfl⟩ := Int.eq_ofNat_of_zero_le h0
  have hm : m ≤ 9223372036854775807 := by omega
  rw [Int.toNat_natCast] at H1
  clear h0 hn1
  go_enter Tryz.func208, Tryz.ntmps208
  go_wp2_with fail
  go_loop [0, 1, 5] (fun v i o => ∃ (t : ByteArray) (k : Nat) (u : ByteArray), v = .string t ∧ i = .int .i64 k ∧ o = .string u ∧ k ≤ m ∧ Hid (ManyAt M R k t u)) (fun _ i _ => (intOf i).toNat)
  case atStart => exact ⟨s, m, ByteArray.empty, rfl, rfl, rfl, Nat.le_refl _, H1⟩
  case round =>
   obtain ⟨t, k, u, rfl, rfl, rfl, hkm, HK⟩ := hrel
   by_cases hk : 0 < k
   ·have hz := many_size HK.out hk
    have hu : u.size ≤ M := by have := HK.out.2.2.1; rw [HR.out] at this; omega
    have hadd1 : ∀ W, (Op.stringOp .add u t).run Tryz.prog W = .ok (.string (u ++ t)) W := fun W => run_string_add_sum W _ _ (by omega)
    have hadd2 : ∀ W, (Op.stringOp .add t t).run Tryz.prog W = .ok (.string (t ++ t)) W := fun W => run_string_add_sum W _ _ (by omega)
    rcases Nat.mod_two_eq_zero_or_one k with ho | ho
    ·have HX := Lib.hid (many_even HK.out hk ho)
     have e1 : (((k : Int) % 2) == 1) = false := by rw [beq_eq_false_iff_ne]; omega
     clear ho
     go_wp2_with fail
     go_round
     case rel => exact ⟨t ++ t, k / 2, u, rfl, by go_num, rfl, by omega, HX⟩
     case measure => simp [intOf]; omega
    ·have HX := Lib.hid (many_odd HK.out hk ho)
     have e1 : (((k : Int) % 2) == 1) = true := by rw [beq_iff_eq]; omega
     clear ho
     go_wp2_with fail
     go_round
     case rel => exact ⟨t ++ t, k / 2, u ++ t, rfl, by go_num, rfl, by omega, HX⟩
     case measure => simp [intOf]; omega
   ·obtain rfl : k = 0 := by omega
    have hu := many_end HK.out
    have HU := Lib.hid hu
    clear hu
    go_wp2_with fail
    go_ret
    exact ⟨ret_str HU.out, rfl⟩
 ·have hn0 : n.toNat = 0 := by omega
  rw [hn0] at H1
  have hu := many_end H1.out
  have HU := Lib.hid hu
  clear hu hn0 H1
  go_enter Tryz.func208, Tryz.ntmps208
  go_wp2_with fail
  refine wp_loop_rounds 1 ?_
  rw [rounds_succ]
  go_wp2_with fail
  go_ret
  exact ⟨ret_str HU.out, rfl⟩

theorem specL6Range (f t n : Int) (b : Bool) (w : World) (hb : b = true ↔ 0 ≤ f ∧ f ≤ t ∧ t ≤ n) :
  Calls Tryz.prog 73 #[.int .i64 f, .int .i64 t, .int .i64 n] w fun e w' => e = .returned (.bool b) ∧ w = w' := by
 have HB := Lib.hid hb
 clear hb
 by_cases h1 : 0 ≤ t ∧ t ≤ n
 ·obtain ⟨r, hr⟩ : ∃ r : Bool, r = true ↔ 0 ≤ f ∧ f ≤ t := ⟨decide (0 ≤ f ∧ f ≤ t), by simp⟩
  have HR := Lib.hid hr
  clear hr
  go_enter Tryz.func73, Tryz.ntmps73
  go_wp2_with fail
  refine (specL1In _ _ _ true _ (btrue (by omega))).mono ?_
  rintro e w' ⟨rfl, rfl⟩
  go_wp2_with fail
  refine (specL1In _ _ _ r _ HR.out).mono ?_
  rintro e w' ⟨rfl, rfl⟩
  go_wp2_with fail
  go_ret
  refine ⟨ret_bool ?_, rfl⟩
  rw [Bool.eq_iff_iff, HB.out]; simp [HR.out]; omega
 ·go_enter Tryz.func73, Tryz.ntmps73
  go_wp2_with fail
  refine (specL1In _ _ _ false _ (bfalse (by omega))).mono ?_
  rintro e w' ⟨rfl, rfl⟩
  go_wp2_with fail
  go_ret
  refine ⟨ret_bool ?_, rfl⟩
  rw [Bool.eq_iff_iff, HB.out]; simp; omega

structure Kn where
 o : Nat
 l : Nat
 m : Nat
 ps : List (Nat × Nat)
 base : Nat
 last : Option Nat

def Kn.clear (k : Kn) : Nat := 2 ^ k.l

def Kn.fin (k : Kn) : Nat := 2 ^ k.l + 1

def Kn.top (k : Kn) : Nat := 2 ^ k.m - 1

def Kn.next (k : Kn) : Nat := k.fin + 1 + k.ps.length

def Kn.grows (k : Kn) : Prop := k.last.isSome = true ∧ k.next ≤ k.top

instance (k : Kn) : Decidable k.grows := by unfold Kn.grows; infer_instance

def Kn.great (k : Kn) : Nat := if k.grows then k.next else k.next - 1

def Kn.has (k : Kn) (n c : Nat) : Prop := c < k.clear ∨ (k.fin < c ∧ c ≤ k.fin + n)

instance (k : Kn) (n c : Nat) : Decidable (k.has n c) := by unfold Kn.has; infer_instance

def wordF (fin : Nat) (ps : List (Nat × Nat)) : Nat → Nat → List UInt8
 | 0, c => [UInt8.ofNat c]
 | f + 1, c => if fin < c then match ps[c - fin - 1]? with
   | some (p, b) => wordF fin ps f p ++ [UInt8.ofNat b]
   | none => [UInt8.ofNat c]
  else [UInt8.ofNat c]

def Kn.word (k : Kn) (c : Nat) : List UInt8 := wordF k.fin k.ps (k.ps.length + 1) c

structure Kn.Valid (k : Kn) : Prop where
 ord : k.o < 2
 lit1 : 1 ≤ k.l
 lit8 : k.l ≤ 8
 most : k.l + 2 ≤ k.m
 most10 : k.m ≤ 10
 room : k.ps.length ≤ k.top - k.fin
 keep : k.base ≤ k.ps.length
 pair : ∀ i p b, k.ps[i]? = some (p, b) → k.has i p ∧ b < k.clear
 tail : ∀ c, k.last = some c → k.has k.ps.length c

theorem Kn.Valid.pow {k : Kn} (h : k.Valid) : 2 ≤ k.clear ∧ k.clear ≤ 256 ∧ 4 * k.clear ≤ k.top + 1 ∧ k.top ≤ 1023 := by
 unfold Kn.clear Kn.top
 have h1 : 2 ^ 1 ≤ 2 ^ k.l := Nat.pow_le_pow_right (by omega) h.lit1
 have h2 : 2 ^ k.l ≤ 2 ^ 8 := Nat.pow_le_pow_right (by omega) h.lit8
 have h3 : 2 ^ (k.l + 2) ≤ 2 ^ k.m := Nat.pow_le_pow_right (by omega) h.most
 have h4 : 2 ^ k.m ≤ 2 ^ 10 := Nat.pow_le_pow_right (by omega) h.most10
 have h5 : 2 ^ (k.l + 2) = 2 ^ k.l * 4 := by rw [Nat.pow_add]
 omega

theorem Kn.fin_eq (k : Kn) : k.fin = k.clear + 1 := rfl

theorem wordF_more {fin : Nat} {ps : List (Nat × Nat)} (hp : ∀ i p b, ps[i]? = some (p, b) → p ≤ fin ∨ p ≤ fin + i) : ∀ (f g c : Nat), c - fin ≤ f → c - fin ≤ g → wordF fin ps f c = wordF fin ps g c := by
 intro f
 induction f with
 | zero =>
  intro g c hf hg
  cases g with
  | zero => rfl
  | succ g => rw [wordF, wordF, if_neg (by omega)]
 | succ f ih =>
  intro g c hf hg
  by_cases hc : fin < c
  ·cases g with
   | zero => omega
   | succ g =>
    rw [wordF, wordF, if_pos hc, if_pos hc]
    rcases hx : ps[c - fin - 1]? with _ | ⟨p, b⟩
    ·rfl
    ·simp only
     have := hp _ _ _ hx
     rw [ih g p (by omega) (by omega)]
  ·cases g with
   | zero => rw [wordF, wordF, if_neg hc]
   | succ g => rw [wordF, wordF, if_neg hc, if_neg hc]

theorem Kn.Valid.below {k : Kn} (h : k.Valid) : ∀ i p b, k.ps[i]? = some (p, b) → p ≤ k.fin ∨ p ≤ k.fin + i := fun i p b hi => by
 have := (h.pair i p b hi).1
 have := k.fin_eq
 unfold Kn.has at *
 omega

theorem Kn.word_lit (k : Kn) {c : Nat} (hc : c ≤ k.fin) : k.word c = [UInt8.ofNat c] := by
 unfold Kn.word
 rw [wordF, if_neg (by omega)]

theorem Kn.word_pair {k : Kn} (h : k.Valid) {i p b : Nat} (hi : k.ps[i]? = some (p, b)) : k.word (k.fin + 1 + i) = k.word p ++ [UInt8.ofNat b] := by
 have hlt := (List.getElem?_eq_some_iff.1 hi).1
 have hb := h.below i p b hi
 unfold Kn.word
 conv => lhs; rw [wordF, if_pos (by omega)]
 rw [show k.fin + 1 + i - k.fin - 1 = i by omega, hi]
 simp only
 rw [wordF_more h.below k.ps.length (k.ps.length + 1) p (by omega) (by omega)]

theorem Kn.word_ne {k : Kn} (c : Nat) : k.word c ≠ [] := by
 unfold Kn.word
 rw [wordF]
 split
 ·split
  ·simp
  ·simp
 ·simp

def Kn.any (k : Kn) (c : Nat) : List UInt8 :=
 match k.last with
 | some q => if c = k.next then k.word q ++ (k.word q).take 1 else k.word c
 | none => k.word c

def Kn.find (k : Kn) (w : List UInt8) : Option Nat :=
 if w.length = 1 ∧ (w.headD 0).toNat < k.clear then some (w.headD 0).toNat
 else ((List.range' (k.fin + 1) (k.great - k.fin)).find? fun c => k.any c = w)

def Kn.after (k : Kn) (c : Nat) : Kn :=
 { k with ps := if k.grows then k.ps ++ [(k.last.getD 0, ((k.any c).headD 0).toNat)] else k.ps, last := some c }

def Kn.cleared (k : Kn) : Kn := { k with ps := k.ps.take k.base, last := none }

def Kn.longest (k : Kn) (data : List UInt8) : List UInt8 :=
 (List.range' (k.fin + 1) (k.great - k.fin)).foldl (fun best c => if best.length < (k.any c).length ∧ (k.any c).isPrefixOf data = true then k.any c else best) (data.take 1)

theorem Kn.cleared_valid {k : Kn} (h : k.Valid) : k.cleared.Valid := by
 have hk := h.keep
 refine ⟨h.ord, h.lit1, h.lit8, h.most, h.most10, ?_, ?_, ?_, ?_⟩
 ·show (k.ps.take k.base).length ≤ k.top - k.fin
  have := h.room
  rw [List.length_take]; omega
 ·show k.base ≤ (k.ps.take k.base).length
  rw [List.length_take]; omega
 ·intro i p b hi
  have hi' : k.ps[i]? = some (p, b) := by
   have hlt := (List.getElem?_eq_some_iff.1 hi).1
   have : i < k.base := by
    have := hlt
    simp only [Kn.cleared, List.length_take] at this
    omega
   simpa [Kn.cleared, List.getElem?_take, this] using hi
  exact h.pair i p b hi'
 ·intro c hc; cases hc

def Kn.can (k : Kn) (c : Nat) : Prop := k.has k.ps.length c ∨ (k.grows ∧ c = k.next)

theorem Kn.has_more {k : Kn} {n n' c : Nat} (h : k.has n c) (hn : n ≤ n') : k.has n' c := by
 unfold Kn.has at *; omega

theorem Kn.great_bounds {k : Kn} (h : k.Valid) : k.fin + k.ps.length ≤ k.great ∧ k.great ≤ k.top ∧ k.great ≤ k.fin + k.ps.length + 1 := by
 have hr := h.room
 have hp := h.pow
 have hf := k.fin_eq
 unfold Kn.great
 split
 ·rename_i hg
  have := hg.2
  unfold Kn.next at *
  omega
 ·unfold Kn.next
  omega

theorem Kn.can_range {k : Kn} (h : k.Valid) {c : Nat} (h1 : k.fin < c) (h2 : c ≤ k.great) : k.can c := by
 unfold Kn.great at h2
 split at h2
 ·rename_i hg
  by_cases hc : c = k.next
  ·exact Or.inr ⟨hg, hc⟩
  ·exact Or.inl (Or.inr ⟨h1, by unfold Kn.next at *; omega⟩)
 ·exact Or.inl (Or.inr ⟨h1, by unfold Kn.next at *; omega⟩)

theorem Kn.can_great {k : Kn} (h : k.Valid) {c : Nat} (hc : k.can c) : c < k.clear ∨ (k.fin < c ∧ c ≤ k.great) := by
 have hg := Kn.great_bounds h
 rcases hc with h1 | ⟨h1, h2⟩
 ·unfold Kn.has at h1; omega
 ·right
  unfold Kn.great
  rw [if_pos h1]
  unfold Kn.next at *
  omega

theorem headD_append {a b : List UInt8} (h : a ≠ []) : (a ++ b).headD 0 = a.headD 0 := by
 cases a with
 | nil => exact absurd rfl h
 | cons x xs => rfl

theorem Kn.word_head {k : Kn} (h : k.Valid) : ∀ (n c : Nat), c ≤ n → k.has k.ps.length c → ((k.word c).headD 0).toNat < k.clear := by
 have hp := h.pow
 intro n
 induction n with
 | zero =>
  intro c hc _
  obtain rfl : c = 0 := by omega
  rw [k.word_lit (by omega)]
  show (UInt8.ofNat 0).toNat < _
  rw [UInt8.toNat_ofNat']
  omega
 | succ n ih =>
  intro c hc hh
  by_cases hl : c < k.clear
  ·rw [k.word_lit (by have := k.fin_eq; omega)]
   show (UInt8.ofNat c).toNat < _
   rw [UInt8.toNat_ofNat']
   omega
  ·have hf := k.fin_eq
   have hh' : k.fin < c ∧ c ≤ k.fin + k.ps.length := by unfold Kn.has at hh; omega
   obtain ⟨i, rfl⟩ : ∃ i, c = k.fin + 1 + i := ⟨c - k.fin - 1, by omega⟩
   have hi : i < k.ps.length := by omega
   rcases hx : k.ps[i] with ⟨p, b⟩
   have hpb : k.ps[i]? = some (p, b) := by rw [List.getElem?_eq_getElem hi, hx]
   rw [Kn.word_pair h hpb, headD_append (Kn.word_ne p)]
   have h1 := (h.pair i p b hpb).1
   refine ih p ?_ (Kn.has_more h1 (by omega))
   unfold Kn.has at h1
   omega

theorem Kn.any_old {k : Kn} {c : Nat} (hc : c ≠ k.next) : k.any c = k.word c := by
 unfold Kn.any
 split
 ·rw [if_neg hc]
 ·rfl

theorem Kn.has_ne {k : Kn} {c : Nat} (hc : k.has k.ps.length c) : c ≠ k.next := by
 unfold Kn.has at hc
 unfold Kn.next
 have := k.fin_eq
 omega

theorem Kn.any_next {k : Kn} {q : Nat} (hq : k.last = some q) : k.any k.next = k.word q ++ (k.word q).take 1 := by
 unfold Kn.any
 rw [hq]
 simp only
 rw [if_pos trivial]

theorem Kn.any_head {k : Kn} (h : k.Valid) {c : Nat} (hc : k.can c) : ((k.any c).headD 0).toNat < k.clear ∧ k.any c ≠ [] := by
 rcases hc with h1 | ⟨h1, h2⟩
 ·rw [Kn.any_old (Kn.has_ne h1)]
  exact ⟨Kn.word_head h c c (Nat.le_refl _) h1, Kn.word_ne c⟩
 ·obtain ⟨q, hq⟩ : ∃ q, k.last = some q := by
   have := h1.1
   cases hl : k.last with
   | none => rw [hl] at this; cases this
   | some q => exact ⟨q, rfl⟩
  subst h2
  rw [Kn.any_next hq]
  have hn := Kn.word_ne (k := k) q
  refine ⟨?_, by simp [hn]⟩
  rw [headD_append hn]
  exact Kn.word_head h q q (Nat.le_refl _) (h.tail q hq)

theorem Kn.after_valid {k : Kn} (h : k.Valid) {c : Nat} (hc : k.can c) : (k.after c).Valid := by
 have hf := k.fin_eq
 have hp := h.pow
 by_cases hg : k.grows
 ·obtain ⟨q, hq⟩ : ∃ q, k.last = some q := by
   have := hg.1
   cases hl : k.last with
   | none => rw [hl] at this; cases this
   | some q => exact ⟨q, rfl⟩
  have e : k.after c = { k with ps := k.ps ++ [(q, ((k.any c).headD 0).toNat)], last := some c } := by
   unfold Kn.after
   rw [if_pos hg, hq]
   rfl
  rw [e]
  refine ⟨h.ord, h.lit1, h.lit8, h.most, h.most10, ?_, ?_, ?_, ?_⟩
  ·have := hg.2
   unfold Kn.next at this
   show (k.ps ++ _).length ≤ k.top - k.fin
   rw [List.length_append]
   simp only [List.length_cons, List.length_nil]
   omega
  ·have := h.keep
   show k.base ≤ (k.ps ++ _).length
   rw [List.length_append]
   omega
  ·intro i p b hi
   by_cases hlt : i < k.ps.length
   ·have hi' : k.ps[i]? = some (p, b) := by
     have : (k.ps ++ [(q, ((k.any c).headD 0).toNat)])[i]? = some (p, b) := hi
     rwa [List.getElem?_append_left hlt] at this
    exact h.pair i p b hi'
   ·have hi' : (k.ps ++ [(q, ((k.any c).headD 0).toNat)])[i]? = some (p, b) := hi
    have hil := (List.getElem?_eq_some_iff.1 hi').1
    rw [List.length_append] at hil
    simp only [List.length_cons, List.length_nil] at hil
    obtain rfl : i = k.ps.length := by omega
    rw [List.getElem?_append_right (Nat.le_refl _), Nat.sub_self] at hi'
    simp only [List.getElem?_cons_zero, Option.some.injEq, Prod.mk.injEq] at hi'
    obtain ⟨rfl, rfl⟩ := hi'
    exact ⟨h.tail _ hq, (Kn.any_head h hc).1⟩
  ·intro x hx
   have hx' : c = x := by injection hx
   subst hx'
   show k.has (k.ps ++ _).length c
   rw [List.length_append]
   rcases hc with h1 | ⟨h1, h2⟩
   ·exact Kn.has_more h1 (by omega)
   ·right
    unfold Kn.next at h2
    simp only [List.length_cons, List.length_nil]
    omega
 ·have e : k.after c = { k with last := some c } := by
   unfold Kn.after
   rw [if_neg hg]
  rw [e]
  refine ⟨h.ord, h.lit1, h.lit8, h.most, h.most10, h.room, h.keep, h.pair, ?_⟩
  intro x hx
  have hx' : c = x := by injection hx
  subst hx'
  rcases hc with h1 | ⟨h1, h2⟩
  ·exact h1
  ·exact absurd h1 hg

def Kn.fits (k : Kn) (data : List UInt8) : Prop := ∀ c ∈ data, c.toNat < k.clear

theorem Kn.longest_spec {k : Kn} (h : k.Valid) {x : UInt8} {r : List UInt8} (hx : x.toNat < k.clear) :
  (k.longest (x :: r)).isPrefixOf (x :: r) = true ∧ ∃ c, k.can c ∧ k.any c = k.longest (x :: r) := by
 have hf := k.fin_eq
 have hp := h.pow
 unfold Kn.longest
 have main : ∀ (cs : List Nat) (best : List UInt8), (∀ c ∈ cs, k.can c) → (best.isPrefixOf (x :: r) = true ∧ ∃ c, k.can c ∧ k.any c = best) →
   ((cs.foldl (fun best c => if best.length < (k.any c).length ∧ (k.any c).isPrefixOf (x :: r) = true then k.any c else best) best).isPrefixOf (x :: r) = true ∧
    ∃ c, k.can c ∧ k.any c = cs.foldl (fun best c => if best.length < (k.any c).length ∧ (k.any c).isPrefixOf (x :: r) = true then k.any c else best) best) := by
  intro cs
  induction cs with
  | nil => intro best _ hb; exact hb
  | cons c cs ih =>
   intro best hcs hb
   rw [List.foldl_cons]
   refine ih _ (fun c' hc' => hcs c' (List.mem_cons_of_mem _ hc')) ?_
   split
   ·rename_i hif
    exact ⟨hif.2, c, hcs c (by simp), rfl⟩
   ·exact hb
 refine main _ _ (fun c hc => ?_) ⟨by simp, x.toNat, Or.inl (Or.inl hx), ?_⟩
 ·rw [List.mem_range'] at hc
  obtain ⟨i, hi, rfl⟩ := hc
  exact Kn.can_range h (by omega) (by omega)
 ·rw [Kn.any_old (Kn.has_ne (Or.inl hx)), k.word_lit (by omega)]
  simp

theorem Kn.find_spec {k : Kn} (h : k.Valid) {w : List UInt8} (hw : ∃ c, k.can c ∧ k.any c = w) : ∃ c, k.find w = some c ∧ k.can c ∧ k.any c = w := by
 have hf := k.fin_eq
 have hp := h.pow
 obtain ⟨c, hc, he⟩ := hw
 unfold Kn.find
 by_cases h1 : w.length = 1 ∧ (w.headD 0).toNat < k.clear
 ·rw [if_pos h1]
  refine ⟨_, rfl, Or.inl (Or.inl h1.2), ?_⟩
  rw [Kn.any_old (Kn.has_ne (Or.inl h1.2)), k.word_lit (by omega)]
  match w, h1.1 with
  | [y], _ => simp
 ·rw [if_neg h1]
  rcases Kn.can_great h hc with hl | ⟨hl1, hl2⟩
  ·exfalso
   apply h1
   rw [Kn.any_old (Kn.has_ne (Or.inl hl)), k.word_lit (by omega)] at he
   subst he
   refine ⟨rfl, ?_⟩
   show (UInt8.ofNat c).toNat < _
   rw [UInt8.toNat_ofNat']
   omega
  ·have hmem : c ∈ List.range' (k.fin + 1) (k.great - k.fin) := by
    rw [List.mem_range']
    exact ⟨c - k.fin - 1, by omega, by omega⟩
   have hsome : ((List.range' (k.fin + 1) (k.great - k.fin)).find? fun c => decide (k.any c = w)).isSome = true := by
    rw [List.find?_isSome]
    exact ⟨c, hmem, by simpa using he⟩
   obtain ⟨c', hc'⟩ := Option.isSome_iff_exists.1 hsome
   refine ⟨c', hc', ?_, by simpa using List.find?_some hc'⟩
   have hm' := List.mem_of_find?_eq_some hc'
   rw [List.mem_range'] at hm'
   obtain ⟨i, hi, rfl⟩ := hm'
   exact Kn.can_range h (by omega) (by omega)

def Kn.step (k : Kn) (x : Nat) : Kn := if x = k.clear then k.cleared else k.after x

def Kn.goes (k : Kn) (x : Nat) : Prop := x = k.clear ∨ k.can x

theorem Kn.step_valid {k : Kn} (h : k.Valid) {x : Nat} (hx : k.goes x) : (k.step x).Valid := by
 unfold Kn.step
 split
 ·exact Kn.cleared_valid h
 ·rename_i hc
  rcases hx with h1 | h1
  ·exact absurd h1 hc
  ·exact Kn.after_valid h h1

theorem Kn.can_ne_clear {k : Kn} (h : k.Valid) {x : Nat} (hx : k.can x) : x ≠ k.clear := by
 have := Kn.can_great h hx
 have := k.fin_eq
 omega

theorem Kn.can_ne_fin {k : Kn} (h : k.Valid) {x : Nat} (hx : k.can x) : x ≠ k.fin := by
 have := Kn.can_great h hx
 have := k.fin_eq
 omega

structure Kn.Like (k k' : Kn) : Prop where
 o : k'.o = k.o
 l : k'.l = k.l
 m : k'.m = k.m
 base : k'.base = k.base

theorem Kn.Like.refl (k : Kn) : k.Like k := ⟨rfl, rfl, rfl, rfl⟩

theorem Kn.Like.trans {a b c : Kn} (h : a.Like b) (g : b.Like c) : a.Like c := ⟨g.o.trans h.o, g.l.trans h.l, g.m.trans h.m, g.base.trans h.base⟩

theorem Kn.like_cleared (k : Kn) : k.Like k.cleared := ⟨rfl, rfl, rfl, rfl⟩

theorem Kn.like_after (k : Kn) (x : Nat) : k.Like (k.after x) := ⟨rfl, rfl, rfl, rfl⟩

theorem Kn.like_step (k : Kn) (x : Nat) : k.Like (k.step x) := by
 unfold Kn.step
 split
 ·exact k.like_cleared
 ·exact k.like_after x

theorem Kn.Like.clear {k k' : Kn} (h : k.Like k') : k'.clear = k.clear := by unfold Kn.clear; rw [h.l]

theorem Kn.Like.fin {k k' : Kn} (h : k.Like k') : k'.fin = k.fin := by unfold Kn.fin; rw [h.l]

theorem Kn.Like.top {k k' : Kn} (h : k.Like k') : k'.top = k.top := by unfold Kn.top; rw [h.m]

inductive Kn.Follow : Kn → List Nat → Prop
 | nil (k : Kn) : Kn.Follow k []
 | last (k : Kn) : Kn.Follow k [k.fin]
 | cons (k : Kn) (x : Nat) (xs : List Nat) : k.goes x → Kn.Follow (k.step x) xs → Kn.Follow k (x :: xs)

def Kn.data (k : Kn) : List Nat → List UInt8
 | [] => []
 | x :: xs => if x = k.fin then [] else (if x = k.clear then [] else k.any x) ++ (k.step x).data xs

def greedyF : Nat → Kn → List UInt8 → List Nat
 | 0, k, _ => [k.fin]
 | f + 1, k, data =>
  if data = [] then [k.fin]
  else
   let c := (k.find (k.longest data)).getD 0
   let k' := k.after c
   let rest := data.drop (k.longest data).length
   if rest ≠ [] ∧ k'.top < k'.next ∧ k'.base < k'.ps.length then c :: k'.clear :: greedyF f k'.cleared rest
   else c :: greedyF f k' rest

def Kn.greedy (k : Kn) (data : List UInt8) : List Nat := k.clear :: greedyF data.length k.cleared data

theorem Kn.longest_take {k : Kn} (h : k.Valid) {data : List UInt8} (hne : data ≠ []) (hf : k.fits data) :
  ∃ c, k.find (k.longest data) = some c ∧ k.can c ∧ k.any c = k.longest data ∧ k.longest data ++ data.drop (k.longest data).length = data ∧ 1 ≤ (k.longest data).length ∧ (k.longest data).length ≤ data.length ∧ ((k.longest data).length = 1 → ((k.longest data).headD 0).toNat < k.clear) := by
 cases data with
 | nil => exact absurd rfl hne
 | cons x r =>
  have hx := hf x (by simp)
  obtain ⟨hp, hc⟩ := Kn.longest_spec h (r := r) hx
  obtain ⟨c, h1, h2, h3⟩ := Kn.find_spec h hc
  rw [List.isPrefixOf_iff_prefix] at hp
  have hh := Kn.any_head h h2
  rw [h3] at hh
  obtain ⟨W, hW⟩ : ∃ W, k.longest (x :: r) = W := ⟨_, rfl⟩
  rw [hW] at hp hh h3 h1 ⊢
  obtain ⟨t, ht⟩ := hp
  refine ⟨c, h1, h2, h3, ?_, ?_, ?_, fun _ => hh.1⟩
  ·rw [← ht]; simp
  ·cases W with
   | nil => exact absurd rfl hh.2
   | cons a l => simp
  ·rw [← ht]; simp

theorem Kn.Like.fits {k k' : Kn} (h : k.Like k') {data : List UInt8} (hf : k.fits data) : k'.fits data := fun c hc => by rw [h.clear]; exact hf c hc

theorem fits_drop {k : Kn} {data : List UInt8} (hf : k.fits data) (n : Nat) : k.fits (data.drop n) := fun c hc => hf c (List.mem_of_mem_drop hc)

theorem Kn.step_can {k : Kn} (h : k.Valid) {x : Nat} (hx : k.can x) : k.step x = k.after x := by
 unfold Kn.step
 rw [if_neg (Kn.can_ne_clear h hx)]

theorem Kn.step_clear (k : Kn) : k.step k.clear = k.cleared := by
 unfold Kn.step
 rw [if_pos rfl]

theorem greedyF_spec : ∀ (f : Nat) (k : Kn) (data : List UInt8), k.Valid → k.fits data → data.length ≤ f → k.Follow (greedyF f k data) ∧ k.data (greedyF f k data) = data ∧ (greedyF f k data).length ≤ 2 * data.length + 1 := by
 intro f
 induction f with
 | zero =>
  intro k data h hf hl
  have : data = [] := List.eq_nil_of_length_eq_zero (by omega)
  subst this
  refine ⟨Kn.Follow.last k, ?_, by simp [greedyF]⟩
  unfold greedyF Kn.data
  rw [if_pos rfl]
 | succ f ih =>
  intro k data h hf hl
  rw [greedyF]
  by_cases hd : data = []
  ·subst hd
   rw [if_pos rfl]
   refine ⟨Kn.Follow.last k, ?_, by simp⟩
   unfold Kn.data
   rw [if_pos rfl]
  ·rw [if_neg hd]
   obtain ⟨c, h1, h2, h3, h4, h5, h6, _⟩ := Kn.longest_take h hd hf
   simp only [h1, Option.getD_some]
   have hv := Kn.after_valid h h2
   have hlk := k.like_after c
   have hfr : (k.after c).fits (data.drop (k.longest data).length) := hlk.fits (fits_drop hf _)
   have hrl : (data.drop (k.longest data).length).length + (k.longest data).length = data.length := by rw [List.length_drop]; omega
   have hst := Kn.step_can h h2
   have hne := Kn.can_ne_fin h h2
   have hnc := Kn.can_ne_clear h h2
   split
   ·have hcv := Kn.cleared_valid hv
    have hlc := (k.after c).like_cleared
    obtain ⟨g1, g2, g3⟩ := ih (k.after c).cleared (data.drop (k.longest data).length) hcv (hlc.fits hfr) (by omega)
    have hcf : (k.after c).clear ≠ (k.after c).fin := by have := (k.after c).fin_eq; omega
    refine ⟨Kn.Follow.cons k c _ (Or.inr h2) ?_, ?_, ?_⟩
    ·rw [hst]
     exact Kn.Follow.cons _ _ _ (Or.inl rfl) (by rw [Kn.step_clear]; exact g1)
    ·rw [Kn.data, if_neg hne, if_neg hnc, hst, Kn.data, if_neg hcf, if_pos rfl, Kn.step_clear, g2, h3]
     simpa using h4
    ·simp only [List.length_cons]
     omega
   ·obtain ⟨g1, g2, g3⟩ := ih (k.after c) (data.drop (k.longest data).length) hv hfr (by omega)
    refine ⟨Kn.Follow.cons k c _ (Or.inr h2) (by rw [hst]; exact g1), ?_, ?_⟩
    ·rw [Kn.data, if_neg hne, if_neg hnc, hst, g2, h3]
     exact h4
    ·simp only [List.length_cons]
     omega

theorem Kn.greedy_spec {k : Kn} (h : k.Valid) {data : List UInt8} (hf : k.fits data) : k.Follow (k.greedy data) ∧ k.data (k.greedy data) = data ∧ (k.greedy data).length ≤ 2 * data.length + 2 := by
 obtain ⟨g1, g2, g3⟩ := greedyF_spec data.length k.cleared data (Kn.cleared_valid h) (k.like_cleared.fits hf) (Nat.le_refl _)
 have hcf : k.clear ≠ k.fin := by have := k.fin_eq; omega
 unfold Kn.greedy
 refine ⟨Kn.Follow.cons k _ _ (Or.inl rfl) (by rw [Kn.step_clear]; exact g1), ?_, by simp only [List.length_cons]; omega⟩
 rw [Kn.data, if_neg hcf, if_pos rfl, Kn.step_clear, g2]
 rfl

def Kn.full (k : Kn) : Prop := k.top < k.next ∧ k.base < k.ps.length

instance (k : Kn) : Decidable k.full := by unfold Kn.full; infer_instance

def greedyI : Nat → Kn → List UInt8 → List Nat
 | 0, k, _ => [k.fin]
 | f + 1, k, data =>
  if data = [] then [k.fin]
  else if k.full then k.clear :: (k.cleared.find (k.cleared.longest data)).getD 0 :: greedyI f (k.cleared.after ((k.cleared.find (k.cleared.longest data)).getD 0)) (data.drop (k.cleared.longest data).length)
  else (k.find (k.longest data)).getD 0 :: greedyI f (k.after ((k.find (k.longest data)).getD 0)) (data.drop (k.longest data).length)

theorem Kn.cleared_not_full (k : Kn) : ¬ k.cleared.full := by
 intro h
 have : k.base < (k.ps.take k.base).length := h.2
 rw [List.length_take] at this
 omega

theorem greedyI_eq : ∀ (f : Nat) (k : Kn) (data : List UInt8), k.Valid → k.fits data → data.length ≤ f → ¬ k.full → greedyI f k data = greedyF f k data := by
 intro f
 induction f with
 | zero => intro k data _ _ _ _; rfl
 | succ f ih =>
  intro k data h hf hl hn
  rw [greedyI, greedyF]
  by_cases hd : data = []
  ·rw [if_pos hd, if_pos hd]
  ·rw [if_neg hd, if_neg hd, if_neg hn]
   obtain ⟨c, h1, h2, h3, h4, h5, h6, _⟩ := Kn.longest_take h hd hf
   simp only [h1, Option.getD_some]
   have hv := Kn.after_valid h h2
   have hfr : (k.after c).fits (data.drop (k.longest data).length) := (k.like_after c).fits (fits_drop hf _)
   have hrl : (data.drop (k.longest data).length).length + (k.longest data).length = data.length := by rw [List.length_drop]; omega
   obtain ⟨rest, hr⟩ : ∃ r, data.drop (k.longest data).length = r := ⟨_, rfl⟩
   rw [hr] at hfr hrl ⊢
   by_cases hc : rest ≠ [] ∧ (k.after c).top < (k.after c).next ∧ (k.after c).base < (k.after c).ps.length
   ·rw [if_pos hc]
    congr 1
    have hfull : (k.after c).full := hc.2
    cases f with
    | zero => exact absurd (List.eq_nil_of_length_eq_zero (by omega)) hc.1
    | succ f =>
     have h7 := ih (k.after c).cleared rest (Kn.cleared_valid hv) ((k.after c).like_cleared.fits hfr) (by omega) (Kn.cleared_not_full _)
     rw [← h7, greedyI, greedyI, if_neg hc.1, if_pos hfull, if_neg hc.1, if_neg (Kn.cleared_not_full _)]
   ·rw [if_neg hc]
    congr 1
    by_cases hr0 : rest = []
    ·subst hr0
     cases f with
     | zero => rfl
     | succ f => rw [greedyI, greedyF, if_pos rfl, if_pos rfl]
    ·exact ih (k.after c) rest hv hfr (by omega) (fun hh => hc ⟨hr0, hh⟩)

theorem Kn.greedy_impl {k : Kn} (h : k.Valid) {data : List UInt8} (hf : k.fits data) : k.greedy data = k.clear :: greedyI data.length k.cleared data := by
 unfold Kn.greedy
 rw [greedyI_eq data.length k.cleared data (Kn.cleared_valid h) (k.like_cleared.fits hf) (Nat.le_refl _) (Kn.cleared_not_full k)]

structure Nd where
 par : Nat
 byte : Nat
 code : Nat

structure Tr where
 c : Nat
 ns : List Nd
 pr : List Nat

def nwordF (c : Nat) (ns : List Nd) : Nat → Nat → List UInt8
 | 0, i => [UInt8.ofNat i]
 | f + 1, i => if i < c then [UInt8.ofNat i] else match ns[i - c]? with
  | some d => nwordF c ns f d.par ++ [UInt8.ofNat d.byte]
  | none => [UInt8.ofNat i]

def Tr.word (t : Tr) (i : Nat) : List UInt8 := nwordF t.c t.ns (i + 1) i

structure NdOk (c : Nat) (ns : List Nd) : Prop where
 par : ∀ (j : Nat) (d : Nd), ns[j]? = some d → d.par < c + j ∧ d.byte < c
 uniq : ∀ (i j : Nat) (d e : Nd), ns[i]? = some d → ns[j]? = some e → d.par = e.par → d.byte = e.byte → i = j
 rise : ∀ (i j : Nat) (d e : Nd), ns[i]? = some d → ns[j]? = some e → i < j → d.code < e.code
 c256 : c ≤ 256

theorem nwordF_more {c : Nat} {ns : List Nd} (h : NdOk c ns) : ∀ (f g i : Nat), i < f → i < g → nwordF c ns f i = nwordF c ns g i := by
 intro f
 induction f with
 | zero => intro g i hf; omega
 | succ f ih =>
  intro g i hf hg
  cases g with
  | zero => omega
  | succ g =>
   rw [nwordF, nwordF]
   by_cases hc : i < c
   ·rw [if_pos hc, if_pos hc]
   ·rw [if_neg hc, if_neg hc]
    rcases hx : ns[i - c]? with _ | d
    ·rfl
    ·simp only
     have := (h.par _ _ hx).1
     rw [ih g d.par (by omega) (by omega)]

theorem Tr.word_lit (t : Tr) {i : Nat} (h : i < t.c) : t.word i = [UInt8.ofNat i] := by
 unfold Tr.word
 rw [nwordF, if_pos h]

theorem Tr.word_node {t : Tr} (h : NdOk t.c t.ns) {j : Nat} {d : Nd} (hd : t.ns[j]? = some d) : t.word (t.c + j) = t.word d.par ++ [UInt8.ofNat d.byte] := by
 have hp := (h.par _ _ hd).1
 unfold Tr.word
 conv => lhs; rw [nwordF, if_neg (by omega)]
 rw [show t.c + j - t.c = j by omega, hd]
 simp only
 rw [nwordF_more h (t.c + j) (d.par + 1) d.par (by omega) (by omega)]

theorem Tr.word_ne (t : Tr) (i : Nat) : t.word i ≠ [] := by
 unfold Tr.word
 rw [nwordF]
 split
 ·simp
 ·split <;> simp

theorem Tr.node_or (t : Tr) {i : Nat} (h : i < t.c + t.ns.length) : i < t.c ∨ ∃ j d, i = t.c + j ∧ t.ns[j]? = some d := by
 by_cases hc : i < t.c
 ·exact Or.inl hc
 ·exact Or.inr ⟨i - t.c, t.ns[i - t.c]'(by omega), by omega, List.getElem?_eq_getElem (by omega)⟩

theorem snoc_inj {a b : List UInt8} {x y : UInt8} (h : a ++ [x] = b ++ [y]) : a = b ∧ x = y := by
 have := List.append_inj' h rfl
 exact ⟨this.1, by simpa using this.2⟩

theorem ofNat_inj {a b : Nat} (ha : a < 256) (hb : b < 256) (h : UInt8.ofNat a = UInt8.ofNat b) : a = b := by
 have := congrArg UInt8.toNat h
 rw [UInt8.toNat_ofNat', UInt8.toNat_ofNat'] at this
 omega

theorem Tr.word_inj {t : Tr} (h : NdOk t.c t.ns) : ∀ (n i k : Nat), i < n → i < t.c + t.ns.length → k < t.c + t.ns.length → t.word i = t.word k → i = k := by
 have hc := h.c256
 intro n
 induction n with
 | zero => intro i k hi; omega
 | succ n ih =>
  intro i k hi h1 h2 he
  rcases t.node_or h1 with ha | ⟨ja, da, rfl, hda⟩
  ·rcases t.node_or h2 with hb | ⟨jb, db, rfl, hdb⟩
   ·rw [t.word_lit ha, t.word_lit hb] at he
    have he' : UInt8.ofNat i = UInt8.ofNat k := by simpa using he
    exact ofNat_inj (by omega) (by omega) he'
   ·rw [t.word_lit ha, Tr.word_node h hdb] at he
    have := congrArg List.length he
    have hn := t.word_ne db.par
    rw [List.length_append] at this
    have h3 : (t.word db.par).length ≠ 0 := fun e => hn (List.eq_nil_of_length_eq_zero e)
    simp only [List.length_cons, List.length_nil] at this
    omega
  ·rcases t.node_or h2 with hb | ⟨jb, db, rfl, hdb⟩
   ·rw [t.word_lit hb, Tr.word_node h hda] at he
    have := congrArg List.length he
    have hn := t.word_ne da.par
    rw [List.length_append] at this
    have h3 : (t.word da.par).length ≠ 0 := fun e => hn (List.eq_nil_of_length_eq_zero e)
    simp only [List.length_cons, List.length_nil] at this
    omega
   ·rw [Tr.word_node h hda, Tr.word_node h hdb] at he
    obtain ⟨e1, e2⟩ := snoc_inj he
    have pa := h.par _ _ hda
    have pb := h.par _ _ hdb
    have hja := (List.getElem?_eq_some_iff.1 hda).1
    have hjb := (List.getElem?_eq_some_iff.1 hdb).1
    have e3 := ih da.par db.par (by omega) (by omega) (by omega) e1
    have e4 := ofNat_inj (by omega) (by omega) e2
    rw [h.uniq _ _ _ _ hda hdb e3 e4]

structure TrOk (k : Kn) (t : Tr) : Prop where
 nd : NdOk t.c t.ns
 cl : t.c = k.clear
 len : t.pr.length = k.ps.length
 pr : ∀ (j n : Nat), t.pr[j]? = some n → n < t.c + t.ns.length ∧ t.word n = k.word (k.fin + 1 + j)
 code : ∀ (j : Nat) (d : Nd), t.ns[j]? = some d → k.fin < d.code ∧ t.pr[d.code - k.fin - 1]? = some (t.c + j) ∧ ∀ i, t.pr[i]? = some (t.c + j) → d.code ≤ k.fin + 1 + i

def Tr.of (t : Tr) (fin : Nat) (x : Nat) : Nat := if fin < x then t.pr.getD (x - fin - 1) 0 else x

theorem TrOk.of {k : Kn} {t : Tr} (h : TrOk k t) {x : Nat} (hx : k.has k.ps.length x) : t.of k.fin x < t.c + t.ns.length ∧ t.word (t.of k.fin x) = k.word x ∧ (x < k.clear → t.of k.fin x = x) ∧ (k.fin < x → t.pr[x - k.fin - 1]? = some (t.of k.fin x)) := by
 have hf := k.fin_eq
 have hc := h.cl
 have hl := h.len
 unfold Tr.of
 by_cases h1 : k.fin < x
 ·rw [if_pos h1]
  have hlt : x - k.fin - 1 < t.pr.length := by unfold Kn.has at hx; omega
  have e : t.pr[x - k.fin - 1]? = some (t.pr.getD (x - k.fin - 1) 0) := by rw [List.getD, List.getElem?_eq_getElem hlt]; rfl
  have := h.pr _ _ e
  rw [show k.fin + 1 + (x - k.fin - 1) = x by omega] at this
  exact ⟨this.1, this.2, fun h2 => by omega, fun _ => e⟩
 ·rw [if_neg h1]
  have hx' : x < k.clear := by unfold Kn.has at hx; omega
  refine ⟨by omega, ?_, fun _ => rfl, fun h2 => absurd h2 h1⟩
  rw [t.word_lit (by omega), k.word_lit (by omega)]

def Tr.IsKid (t : Tr) (p b r : Nat) : Prop := ∃ (j : Nat) (d : Nd), r = t.c + j ∧ t.ns[j]? = some d ∧ d.par = p ∧ d.byte = b

def Tr.NoKid (t : Tr) (p b : Nat) : Prop := ∀ (j : Nat) (d : Nd), t.ns[j]? = some d → d.par = p → d.byte ≠ b

def Tr.same (t : Tr) (n : Nat) : Tr := { t with pr := t.pr ++ [n] }

def Tr.more (t : Tr) (p b x : Nat) : Tr := { t with ns := t.ns ++ [⟨p, b, x⟩], pr := t.pr ++ [t.c + t.ns.length] }

def Kn.Low (k : Kn) : Prop := ∀ i p b, k.ps[i]? = some (p, b) → p ≤ k.fin ∨ p ≤ k.fin + i

def Kn.push (k : Kn) (q b : Nat) : Kn := { k with ps := k.ps ++ [(q, b)] }

theorem Kn.push_word {k : Kn} {q b : Nat} (hb : k.Low) {x : Nat} (hx : x ≤ k.fin + k.ps.length) : (k.push q b).word x = k.word x := by
 have main : ∀ (f x : Nat), x ≤ k.fin + k.ps.length → wordF k.fin (k.ps ++ [(q, b)]) f x = wordF k.fin k.ps f x := by
  intro f
  induction f with
  | zero => intro x _; rfl
  | succ f ih =>
   intro x hx
   rw [wordF, wordF]
   by_cases h1 : k.fin < x
   ·rw [if_pos h1, if_pos h1, List.getElem?_append_left (by omega)]
    rcases hp : k.ps[x - k.fin - 1]? with _ | ⟨p, y⟩
    ·rfl
    ·simp only
     have := hb _ _ _ hp
     rw [ih p (by omega)]
   ·rw [if_neg h1, if_neg h1]
 show wordF k.fin (k.ps ++ [(q, b)]) ((k.ps ++ [(q, b)]).length + 1) x = wordF k.fin k.ps (k.ps.length + 1) x
 rw [main _ _ hx]
 exact wordF_more hb _ _ x (by rw [List.length_append]; simp; omega) (by omega)

theorem Kn.push_last {k : Kn} {q b : Nat} (hb : k.Low) (hq : k.has k.ps.length q) : (k.push q b).word (k.fin + 1 + k.ps.length) = k.word q ++ [UInt8.ofNat b] := by
 have hf := k.fin_eq
 have hql : q ≤ k.fin + k.ps.length := by unfold Kn.has at hq; omega
 have main : (k.push q b).word (k.fin + 1 + k.ps.length) = (k.push q b).word q ++ [UInt8.ofNat b] := by
  have hp : ∀ i p y, (k.push q b).ps[i]? = some (p, y) → p ≤ (k.push q b).fin ∨ p ≤ (k.push q b).fin + i := by
   intro i p y hi
   show p ≤ k.fin ∨ p ≤ k.fin + i
   have hi' : (k.ps ++ [(q, b)])[i]? = some (p, y) := hi
   by_cases h1 : i < k.ps.length
   ·rw [List.getElem?_append_left h1] at hi'
    exact hb i p y hi'
   ·have h2 := (List.getElem?_eq_some_iff.1 hi').1
    rw [List.length_append] at h2
    simp at h2
    obtain rfl : i = k.ps.length := by omega
    rw [List.getElem?_append_right (Nat.le_refl _), Nat.sub_self] at hi'
    simp at hi'
    obtain ⟨rfl, rfl⟩ := hi'
    unfold Kn.has at hq
    omega
  have hlen : (k.push q b).ps.length = k.ps.length + 1 := by show (k.ps ++ [(q, b)]).length = _; simp
  unfold Kn.word
  conv => lhs; rw [wordF, if_pos (show (k.push q b).fin < k.fin + 1 + k.ps.length by show k.fin < _; omega)]
  have e : (k.push q b).ps[k.fin + 1 + k.ps.length - (k.push q b).fin - 1]? = some (q, b) := by
   show (k.ps ++ [(q, b)])[k.fin + 1 + k.ps.length - k.fin - 1]? = _
   rw [List.getElem?_append_right (by omega), show k.fin + 1 + k.ps.length - k.fin - 1 - k.ps.length = 0 by omega]
   rfl
  rw [e]
  simp only
  rw [wordF_more hp (k.push q b).ps.length ((k.push q b).ps.length + 1) q (by rw [hlen]; show q - k.fin ≤ _; omega) (by rw [hlen]; show q - k.fin ≤ _; omega)]
 rw [main, Kn.push_word hb hql]

theorem nwordF_append {c : Nat} {ns ms : List Nd} (h : NdOk c ns) : ∀ (f i : Nat), i < c + ns.length → nwordF c (ns ++ ms) f i = nwordF c ns f i := by
 intro f
 induction f with
 | zero => intro i _; rfl
 | succ f ih =>
  intro i hi
  rw [nwordF, nwordF]
  by_cases h1 : i < c
  ·rw [if_pos h1, if_pos h1]
  ·rw [if_neg h1, if_neg h1, List.getElem?_append_left (by omega)]
   rcases hx : ns[i - c]? with _ | d
   ·rfl
   ·simp only
    have := (h.par _ _ hx).1
    have hl := (List.getElem?_eq_some_iff.1 hx).1
    rw [ih d.par (by omega)]

theorem TrOk.same {k : Kn} {t : Tr} (h : TrOk k t) (hv : k.Low) {q b n : Nat} (hq : k.has k.ps.length q) (hn : t.IsKid (t.of k.fin q) b n) : TrOk (k.push q b) (t.same n) := by
 obtain ⟨j, d, rfl, hd, hp, hb⟩ := hn
 have hw := (h.of hq).2.1
 have hjl := (List.getElem?_eq_some_iff.1 hd).1
 have hpl : (k.push q b).ps.length = k.ps.length + 1 := by show (k.ps ++ [(q, b)]).length = _; simp
 refine ⟨h.nd, h.cl, ?_, ?_, ?_⟩
 ·show (t.pr ++ [_]).length = _
  rw [hpl, List.length_append, h.len]; rfl
 ·intro i n hi
  have hi' : (t.pr ++ [t.c + j])[i]? = some n := hi
  show n < t.c + t.ns.length ∧ t.word n = (k.push q b).word (k.fin + 1 + i)
  by_cases h1 : i < t.pr.length
  ·rw [List.getElem?_append_left h1] at hi'
   have := h.pr i n hi'
   rw [Kn.push_word hv (by rw [← h.len]; omega)]
   exact this
  ·have h2 := (List.getElem?_eq_some_iff.1 hi').1
   rw [List.length_append] at h2
   simp at h2
   obtain rfl : i = t.pr.length := by omega
   rw [List.getElem?_append_right (Nat.le_refl _), Nat.sub_self] at hi'
   simp at hi'
   subst hi'
   refine ⟨by omega, ?_⟩
   rw [h.len, Kn.push_last hv hq, Tr.word_node h.nd hd, hp, hw, hb]
 ·intro i e hi
  show k.fin < e.code ∧ (t.pr ++ [t.c + j])[e.code - k.fin - 1]? = some (t.c + i) ∧ _
  have h1 := h.code i e hi
  have hlt := (List.getElem?_eq_some_iff.1 h1.2.1).1
  refine ⟨h1.1, by rw [List.getElem?_append_left hlt]; exact h1.2.1, ?_⟩
  intro x hx
  have hx' : (t.pr ++ [t.c + j])[x]? = some (t.c + i) := hx
  show e.code ≤ k.fin + 1 + x
  by_cases h2 : x < t.pr.length
  ·rw [List.getElem?_append_left h2] at hx'
   exact h1.2.2 x hx'
  ·omega

theorem TrOk.more {k : Kn} {t : Tr} (h : TrOk k t) (hv : k.Low) {q b : Nat} (hq : k.has k.ps.length q) (hb : b < k.clear) (hn : t.NoKid (t.of k.fin q) b) : TrOk (k.push q b) (t.more (t.of k.fin q) b k.next) := by
 have ho := h.of hq
 have hf := k.fin_eq
 have hpl : (k.push q b).ps.length = k.ps.length + 1 := by show (k.ps ++ [(q, b)]).length = _; simp
 have hget : ∀ {i : Nat} {d : Nd}, (t.ns ++ [⟨t.of k.fin q, b, k.next⟩])[i]? = some d → t.ns[i]? = some d ∨ (i = t.ns.length ∧ d = ⟨t.of k.fin q, b, k.next⟩) := by
  intro i d hi
  by_cases h1 : i < t.ns.length
  ·rw [List.getElem?_append_left h1] at hi
   exact Or.inl hi
  ·have h2 := (List.getElem?_eq_some_iff.1 hi).1
   rw [List.length_append] at h2
   simp at h2
   obtain rfl : i = t.ns.length := by omega
   rw [List.getElem?_append_right (Nat.le_refl _), Nat.sub_self] at hi
   simp at hi
   exact Or.inr ⟨rfl, hi.symm⟩
 have hnd : NdOk t.c (t.ns ++ [⟨t.of k.fin q, b, k.next⟩]) := by
  refine ⟨?_, ?_, ?_, h.nd.c256⟩
  ·intro j d hj
   rcases hget hj with h1 | ⟨rfl, rfl⟩
   ·exact h.nd.par j d h1
   ·exact ⟨ho.1, by rw [h.cl]; exact hb⟩
  ·intro i j d e hi hj e1 e2
   rcases hget hi with h1 | ⟨rfl, rfl⟩
   ·rcases hget hj with h2 | ⟨rfl, rfl⟩
    ·exact h.nd.uniq i j d e h1 h2 e1 e2
    ·exact absurd e2 (hn i d h1 e1)
   ·rcases hget hj with h2 | ⟨rfl, rfl⟩
    ·exact absurd e2.symm (hn j e h2 e1.symm)
    ·rfl
  ·intro i j d e hi hj hij
   rcases hget hi with h1 | ⟨rfl, rfl⟩
   ·rcases hget hj with h2 | ⟨rfl, rfl⟩
    ·exact h.nd.rise i j d e h1 h2 hij
    ·show d.code < k.next
     have h3 := h.code i d h1
     have h4 := (List.getElem?_eq_some_iff.1 h3.2.1).1
     unfold Kn.next
     rw [h.len] at h4
     omega
   ·rcases hget hj with h2 | ⟨rfl, rfl⟩
    ·have := (List.getElem?_eq_some_iff.1 h2).1; omega
    ·omega
 have hword : ∀ i, i < t.c + t.ns.length → (t.more (t.of k.fin q) b k.next).word i = t.word i := fun i hi => nwordF_append h.nd (i + 1) i hi
 have hlast : (t.more (t.of k.fin q) b k.next).word (t.c + t.ns.length) = k.word q ++ [UInt8.ofNat b] := by
  have := Tr.word_node (t := t.more (t.of k.fin q) b k.next) hnd (j := t.ns.length) (d := ⟨t.of k.fin q, b, k.next⟩) (by show (t.ns ++ _)[_]? = _; simp)
  rw [show (t.more (t.of k.fin q) b k.next).c = t.c from rfl] at this
  rw [this, hword _ ho.1, ho.2.1]
 refine ⟨hnd, h.cl, ?_, ?_, ?_⟩
 ·show (t.pr ++ [_]).length = _
  rw [hpl, List.length_append, h.len]; rfl
 ·intro i n hi
  have hi' : (t.pr ++ [t.c + t.ns.length])[i]? = some n := hi
  show n < t.c + (t.ns ++ [_]).length ∧ _ = (k.push q b).word (k.fin + 1 + i)
  rw [List.length_append]
  by_cases h1 : i < t.pr.length
  ·rw [List.getElem?_append_left h1] at hi'
   have := h.pr i n hi'
   rw [Kn.push_word hv (by rw [← h.len]; omega), hword n this.1]
   exact ⟨by omega, this.2⟩
  ·have h2 := (List.getElem?_eq_some_iff.1 hi').1
   rw [List.length_append] at h2
   simp at h2
   obtain rfl : i = t.pr.length := by omega
   rw [List.getElem?_append_right (Nat.le_refl _), Nat.sub_self] at hi'
   simp at hi'
   subst hi'
   refine ⟨by simp, ?_⟩
   rw [h.len, Kn.push_last hv hq]
   exact hlast
 ·intro i e hi
  show k.fin < e.code ∧ (t.pr ++ [t.c + t.ns.length])[e.code - k.fin - 1]? = some (t.c + i) ∧ ∀ x, (t.pr ++ [t.c + t.ns.length])[x]? = some (t.c + i) → e.code ≤ k.fin + 1 + x
  rcases hget hi with h1 | ⟨rfl, rfl⟩
  ·have h3 := h.code i e h1
   have hlt := (List.getElem?_eq_some_iff.1 h3.2.1).1
   have hil := (List.getElem?_eq_some_iff.1 h1).1
   refine ⟨h3.1, by rw [List.getElem?_append_left hlt]; exact h3.2.1, ?_⟩
   intro x hx
   by_cases h2 : x < t.pr.length
   ·rw [List.getElem?_append_left h2] at hx
    exact h3.2.2 x hx
   ·omega
  ·show k.fin < k.next ∧ (t.pr ++ [t.c + t.ns.length])[k.next - k.fin - 1]? = some (t.c + t.ns.length) ∧ ∀ x, (t.pr ++ [t.c + t.ns.length])[x]? = some (t.c + t.ns.length) → k.next ≤ k.fin + 1 + x
   have e1 : k.next - k.fin - 1 = t.pr.length := by unfold Kn.next; rw [h.len]; omega
   refine ⟨by unfold Kn.next; omega, by rw [e1]; simp, ?_⟩
   intro x hx
   by_cases h2 : x < t.pr.length
   ·rw [List.getElem?_append_left h2] at hx
    have := (h.pr x _ hx).1
    omega
   ·unfold Kn.next; rw [← h.len]; omega

theorem TrOk.start {k : Kn} (h : k.ps = []) (hc : k.clear ≤ 256) : TrOk k ⟨k.clear, [], []⟩ := by
 refine ⟨⟨?_, ?_, ?_, hc⟩, rfl, by rw [h]; rfl, ?_, ?_⟩
 ·intro j d hj; simp at hj
 ·intro i j d e hi; simp at hi
 ·intro i j d e hi; simp at hi
 ·intro j n hj; simp at hj
 ·intro j d hj; simp at hj

theorem wordF_take {fin : Nat} {ps : List (Nat × Nat)} {b : Nat} (hp : ∀ i p y, ps[i]? = some (p, y) → p ≤ fin ∨ p ≤ fin + i) : ∀ (f x : Nat), x ≤ fin + b → wordF fin (ps.take b) f x = wordF fin ps f x := by
 intro f
 induction f with
 | zero => intro x _; rfl
 | succ f ih =>
  intro x hx
  rw [wordF, wordF]
  by_cases h1 : fin < x
  ·rw [if_pos h1, if_pos h1, List.getElem?_take, if_pos (by omega)]
   rcases he : ps[x - fin - 1]? with _ | ⟨p, y⟩
   ·rfl
   ·simp only
    have := hp _ _ _ he
    rw [ih p (by omega)]
  ·rw [if_neg h1, if_neg h1]

theorem Kn.cleared_word {k : Kn} (h : k.Valid) {x : Nat} (hx : x ≤ k.fin + k.base) : k.cleared.word x = k.word x := by
 have hk := h.keep
 show wordF k.fin (k.ps.take k.base) ((k.ps.take k.base).length + 1) x = wordF k.fin k.ps (k.ps.length + 1) x
 rw [wordF_take h.below _ _ hx]
 exact wordF_more h.below _ _ x (by rw [List.length_take]; omega) (by omega)

theorem nwordF_take {c : Nat} {ns : List Nd} (h : NdOk c ns) {m : Nat} (hm : m ≤ ns.length) (f i : Nat) (hi : i < c + m) : nwordF c (ns.take m) f i = nwordF c ns f i := by
 have hok : NdOk c (ns.take m) := by
  have hg : ∀ (j : Nat) (d : Nd), (ns.take m)[j]? = some d → ns[j]? = some d := by
   intro j d hj
   rw [List.getElem?_take] at hj
   split at hj
   ·exact hj
   ·cases hj
  exact ⟨fun j d hj => h.par j d (hg j d hj), fun i j d e hi hj => h.uniq i j d e (hg _ _ hi) (hg _ _ hj), fun i j d e hi hj => h.rise i j d e (hg _ _ hi) (hg _ _ hj), h.c256⟩
 have := nwordF_append (ms := ns.drop m) hok f i (by rw [List.length_take]; omega)
 rw [List.take_append_drop] at this
 exact this.symm

theorem NdOk.take {c : Nat} {ns : List Nd} (h : NdOk c ns) (m : Nat) : NdOk c (ns.take m) := by
 have hg : ∀ (j : Nat) (d : Nd), (ns.take m)[j]? = some d → ns[j]? = some d := by
  intro j d hj
  rw [List.getElem?_take] at hj
  split at hj
  ·exact hj
  ·cases hj
 exact ⟨fun j d hj => h.par j d (hg j d hj), fun i j d e hi hj => h.uniq i j d e (hg _ _ hi) (hg _ _ hj), fun i j d e hi hj => h.rise i j d e (hg _ _ hi) (hg _ _ hj), h.c256⟩

theorem TrOk.forget {k : Kn} {t : Tr} (h : TrOk k t) (hv : k.Valid) {m : Nat} (hm : m ≤ t.ns.length)
  (h1 : ∀ (j : Nat) (d : Nd), j < m → t.ns[j]? = some d → d.code < k.fin + 1 + k.base) (h2 : ∀ (j : Nat) (d : Nd), m ≤ j → t.ns[j]? = some d → k.fin + 1 + k.base ≤ d.code) : TrOk k.cleared ⟨t.c, t.ns.take m, t.pr.take k.base⟩ := by
 have hk := hv.keep
 have hlen := h.len
 have hw : ∀ i, i < t.c + m → (⟨t.c, t.ns.take m, t.pr.take k.base⟩ : Tr).word i = t.word i := fun i hi => nwordF_take h.nd hm (i + 1) i hi
 refine ⟨h.nd.take m, h.cl, ?_, ?_, ?_⟩
 ·show (t.pr.take k.base).length = (k.ps.take k.base).length
  rw [List.length_take, List.length_take, hlen]
 ·intro j n hj
  have hj' : (t.pr.take k.base)[j]? = some n := hj
  rw [List.getElem?_take] at hj'
  split at hj'
  ·rename_i hjb
   have h3 := h.pr j n hj'
   have hnm : n < t.c + m := by
    rcases t.node_or h3.1 with ha | ⟨i, d, rfl, hd⟩
    ·omega
    ·rcases Nat.lt_or_ge i m with hi | hi
     ·omega
     ·have h4 := h2 i d hi hd
      have h5 := (h.code i d hd).2.2 j hj'
      omega
   show n < t.c + (t.ns.take m).length ∧ _ = k.cleared.word (k.fin + 1 + j)
   rw [List.length_take, hw n hnm, Kn.cleared_word hv (by omega)]
   exact ⟨by omega, h3.2⟩
  ·cases hj'
 ·intro j d hj
  have hj' : (t.ns.take m)[j]? = some d := hj
  rw [List.getElem?_take] at hj'
  split at hj'
  ·rename_i hjm
   have h3 := h.code j d hj'
   have h4 := h1 j d hjm hj'
   show k.fin < d.code ∧ (t.pr.take k.base)[d.code - k.fin - 1]? = some (t.c + j) ∧ ∀ i, (t.pr.take k.base)[i]? = some (t.c + j) → d.code ≤ k.fin + 1 + i
   refine ⟨h3.1, ?_, ?_⟩
   ·rw [List.getElem?_take, if_pos (by omega)]; exact h3.2.1
   ·intro i hi
    rw [List.getElem?_take] at hi
    split at hi
    ·exact h3.2.2 i hi
    ·cases hi
  ·cases hj'

theorem pre_take {w data : List UInt8} (h : w.isPrefixOf data = true) : w = data.take w.length ∧ w.length ≤ data.length := by
 rw [List.isPrefixOf_iff_prefix] at h
 obtain ⟨r, rfl⟩ := h
 simp

theorem take_isPrefixOf (data : List UInt8) (n : Nat) : (data.take n).isPrefixOf data = true := by
 rw [List.isPrefixOf_iff_prefix]; exact List.take_prefix n data

theorem Kn.longest_len {k : Kn} (h : k.Valid) {x : UInt8} {r : List UInt8} (hx : x.toNat < k.clear) {L : Nat} (h1 : 1 ≤ L) (hL : L ≤ (x :: r).length)
  (hat : L = 1 ∨ ∃ c, k.fin < c ∧ c ≤ k.great ∧ k.any c = (x :: r).take L)
  (hup : ∀ c, k.fin < c → c ≤ k.great → (k.any c).isPrefixOf (x :: r) = true → (k.any c).length ≤ L) : k.longest (x :: r) = (x :: r).take L := by
 have main : ∀ (cs : List Nat) (best : List UInt8), (∀ c ∈ cs, k.fin < c ∧ c ≤ k.great) → best.isPrefixOf (x :: r) = true → best.length ≤ L → (best.length = L ∨ ∃ c ∈ cs, k.any c = (x :: r).take L) →
   cs.foldl (fun best c => if best.length < (k.any c).length ∧ (k.any c).isPrefixOf (x :: r) = true then k.any c else best) best = (x :: r).take L := by
  intro cs
  induction cs with
  | nil =>
   intro best _ hp hb ho
   rcases ho with h2 | ⟨c, hc, _⟩
   ·have := (pre_take hp).1
    rw [h2] at this
    exact this
   ·simp at hc
  | cons c cs ih =>
   intro best hcs hp hb ho
   rw [List.foldl_cons]
   have hc := hcs c (by simp)
   split
   ·rename_i hif
    refine ih _ (fun c' hc' => hcs c' (List.mem_cons_of_mem _ hc')) hif.2 (hup c hc.1 hc.2 hif.2) ?_
    rcases ho with h2 | ⟨c', hc', he⟩
    ·have := hup c hc.1 hc.2 hif.2
     omega
    ·rcases List.mem_cons.1 hc' with rfl | h3
     ·left; rw [he, List.length_take]; omega
     ·exact Or.inr ⟨c', h3, he⟩
   ·rename_i hif
    refine ih _ (fun c' hc' => hcs c' (List.mem_cons_of_mem _ hc')) hp hb ?_
    rcases ho with h2 | ⟨c', hc', he⟩
    ·exact Or.inl h2
    ·rcases List.mem_cons.1 hc' with rfl | h3
     ·left
      have h4 : (k.any c').isPrefixOf (x :: r) = true := by rw [he]; exact take_isPrefixOf _ _
      have h5 : ¬ best.length < (k.any c').length := fun h6 => hif ⟨h6, h4⟩
      rw [he, List.length_take] at h5
      omega
     ·exact Or.inr ⟨c', h3, he⟩
 unfold Kn.longest
 refine main _ _ (fun c hc => ?_) (take_isPrefixOf _ _) (by rw [List.length_take]; omega) ?_
 ·rw [List.mem_range'] at hc
  obtain ⟨i, hi, rfl⟩ := hc
  omega
 ·rcases hat with h2 | ⟨c, hc1, hc2, he⟩
  ·left; rw [List.length_take]; simp; omega
  ·right
   refine ⟨c, ?_, he⟩
   rw [List.mem_range']
   exact ⟨c - k.fin - 1, by omega, by omega⟩

theorem Kn.find_least {k : Kn} {w : List UInt8} (h2 : w.length ≠ 1) {c : Nat} (hc1 : k.fin < c) (hc2 : c ≤ k.great) (he : k.any c = w) (hl : ∀ x, k.fin < x → x < c → k.any x ≠ w) : k.find w = some c := by
 unfold Kn.find
 rw [if_neg (fun h => h2 h.1)]
 have : List.range' (k.fin + 1) (k.great - k.fin) = List.range' (k.fin + 1) (c - k.fin - 1) ++ c :: List.range' (c + 1) (k.great - c) := by
  have e1 : k.great - k.fin = (c - k.fin - 1) + ((k.great - c) + 1) := by omega
  rw [e1, ← List.range'_append_1]
  congr 1
  rw [List.range'_succ, show k.fin + 1 + (c - k.fin - 1) = c by omega]
 rw [this, List.find?_append]
 have hn : (List.range' (k.fin + 1) (c - k.fin - 1)).find? (fun c => decide (k.any c = w)) = none := by
  rw [List.find?_eq_none]
  intro x hx
  rw [List.mem_range'] at hx
  obtain ⟨i, hi, rfl⟩ := hx
  simp only [decide_eq_true_eq]
  exact hl _ (by omega) (by omega)
 rw [hn]
 simp [he]

structure Tr.Far (t : Tr) (data : List UInt8) (n size : Nat) : Prop where
 pos : 1 ≤ size
 le : size ≤ data.length
 node : n < t.c + t.ns.length
 word : t.word n = data.take size

theorem Tr.Far.step {t : Tr} (hn : NdOk t.c t.ns) {data : List UInt8} {n size r : Nat} (h : t.Far data n size) (hs : size < data.length) (hk : t.IsKid n (data[size]).toNat r) : t.Far data r (size + 1) := by
 obtain ⟨j, d, rfl, hd, hp, hb⟩ := hk
 have hjl := (List.getElem?_eq_some_iff.1 hd).1
 refine ⟨by omega, by omega, by omega, ?_⟩
 rw [Tr.word_node hn hd, hp, h.word, hb, List.take_succ_eq_append_getElem hs]
 simp

theorem Tr.Far.first {t : Tr} {x : UInt8} {r : List UInt8} (hx : x.toNat < t.c) : t.Far (x :: r) x.toNat 1 := by
 refine ⟨Nat.le_refl _, by simp, by omega, ?_⟩
 rw [t.word_lit hx]
 simp

theorem Tr.Far.max {t : Tr} (hn : NdOk t.c t.ns) {data : List UInt8} {n size : Nat} (h : t.Far data n size) (hs : ∀ (hlt : size < data.length), t.NoKid n (data[size]).toNat) :
  ∀ (f i : Nat), i < f → i < t.c + t.ns.length → (t.word i).isPrefixOf data = true → (t.word i).length ≤ size ∧ ((t.word i).length = size → i = n) := by
 intro f
 induction f with
 | zero => intro i hi; omega
 | succ f ih =>
  intro i hi hl hp
  have heq : (t.word i).length = size → i = n := fun he => by
   have := (pre_take hp).1
   rw [he, ← h.word] at this
   exact Tr.word_inj hn (i + 1) i n (by omega) hl h.node this
  refine ⟨?_, heq⟩
  rcases t.node_or hl with ha | ⟨j, d, rfl, hd⟩
  ·rw [t.word_lit ha]
   exact h.pos
  ·have hpar := hn.par _ _ hd
   have hjl := (List.getElem?_eq_some_iff.1 hd).1
   have hwd := Tr.word_node hn hd
   have hpp : (t.word d.par).isPrefixOf data = true := by
    rw [hwd, List.isPrefixOf_iff_prefix] at hp
    rw [List.isPrefixOf_iff_prefix]
    exact (List.prefix_append _ _).trans hp
   have h3 := ih d.par (by omega) (by omega) hpp
   rw [hwd, List.length_append]
   simp only [List.length_cons, List.length_nil]
   rcases Nat.lt_or_ge (t.word d.par).length size with h4 | h4
   ·omega
   ·exfalso
    have h5 : (t.word d.par).length = size := by omega
    have h6 := h3.2 h5
    have h7 := pre_take hp
    rw [hwd, List.length_append, h5] at h7
    simp only [List.length_cons, List.length_nil] at h7
    have hlt : size < data.length := by omega
    have h8 := h7.1
    rw [List.take_succ_eq_append_getElem hlt] at h8
    have h9 := (snoc_inj h8).2
    refine hs hlt j d hd h6 ?_
    rw [← h9, UInt8.toNat_ofNat']
    have := hn.c256
    omega

def Tr.codeOf (t : Tr) (n : Nat) : Nat := if n < t.c then n else match t.ns[n - t.c]? with
 | some d => d.code
 | none => 0

theorem Tr.codeOf_lit (t : Tr) {n : Nat} (h : n < t.c) : t.codeOf n = n := by unfold Tr.codeOf; rw [if_pos h]

theorem Tr.codeOf_node (t : Tr) {j : Nat} {d : Nd} (h : t.ns[j]? = some d) : t.codeOf (t.c + j) = d.code := by
 unfold Tr.codeOf
 rw [if_neg (by omega), show t.c + j - t.c = j by omega, h]

theorem Kn.great_grows {k : Kn} (h : k.grows) : k.great = k.next := by unfold Kn.great; rw [if_pos h]

theorem Kn.great_not {k : Kn} (h : ¬ k.grows) : k.great = k.fin + k.ps.length := by unfold Kn.great; rw [if_neg h]; unfold Kn.next; omega

theorem TrOk.old {k : Kn} {t : Tr} (h : TrOk k t) {c : Nat} (h1 : k.fin < c) (h2 : c ≤ k.fin + k.ps.length) : ∃ i, t.pr[c - k.fin - 1]? = some i ∧ i < t.c + t.ns.length ∧ t.word i = k.any c := by
 have ho := h.of (x := c) (Or.inr ⟨h1, h2⟩)
 refine ⟨t.of k.fin c, ho.2.2.2 h1, ho.1, ?_⟩
 rw [ho.2.1, Kn.any_old (by unfold Kn.next; omega)]

theorem TrOk.longest_next {k : Kn} {t : Tr} (h : TrOk k t) (hv : k.Valid) {x : UInt8} {r : List UInt8} (hx : x.toNat < k.clear) {n size : Nat} (hf : t.Far (x :: r) n size) (hs : ∀ (hlt : size < (x :: r).length), t.NoKid n ((x :: r)[size]).toNat)
  (hlt : size < (x :: r).length) (hg : k.grows) {q : Nat} (hq : k.last = some q) (hqn : t.of k.fin q = n) (hb : (x :: r)[size] = (t.word n).headD 0) :
  k.longest (x :: r) = (x :: r).take (size + 1) ∧ k.find ((x :: r).take (size + 1)) = some k.next := by
 have hqh := hv.tail q hq
 have ho := h.of hqh
 rw [hqn] at ho
 have hany : k.any k.next = (x :: r).take (size + 1) := by
  rw [Kn.any_next hq, ← ho.2.1, List.take_succ_eq_append_getElem hlt, hf.word, hb, hf.word]
  congr 1
  cases hh : (x :: r).take size with
  | nil =>
   have h9 := congrArg List.length hh
   rw [List.length_take] at h9
   have := hf.pos
   simp only [List.length_nil] at h9
   omega
  | cons a l => simp
 have hgr := Kn.great_grows hg
 have hfl : k.fin < k.next := by unfold Kn.next; omega
 have hmax := fun i => Tr.Far.max h.nd hf hs (i + 1) i (by omega)
 refine ⟨Kn.longest_len hv hx (by omega) (by omega) (Or.inr ⟨k.next, hfl, by omega, hany⟩) ?_, ?_⟩
 ·intro c hc1 hc2 hp
  by_cases hcn : c = k.next
  ·subst hcn; rw [hany, List.length_take]; omega
  ·obtain ⟨i, _, hi, hw⟩ := h.old hc1 (by rw [hgr] at hc2; unfold Kn.next at *; omega)
   rw [← hw] at hp ⊢
   have := (hmax i hi hp).1
   omega
 ·refine Kn.find_least (by rw [List.length_take]; have := hf.pos; omega) hfl (by omega) hany ?_
  intro c hc1 hc2 he
  obtain ⟨i, _, hi, hw⟩ := h.old hc1 (by unfold Kn.next at *; omega)
  rw [← hw] at he
  have := (hmax i hi (by rw [he]; exact take_isPrefixOf _ _)).1
  rw [he, List.length_take] at this
  omega

theorem TrOk.longest_node {k : Kn} {t : Tr} (h : TrOk k t) (hv : k.Valid) {x : UInt8} {r : List UInt8} (hx : x.toNat < k.clear) {n size : Nat} (hf : t.Far (x :: r) n size) (hs : ∀ (hlt : size < (x :: r).length), t.NoKid n ((x :: r)[size]).toNat)
  (hno : ∀ (hlt : size < (x :: r).length) (q : Nat), k.grows → k.last = some q → t.of k.fin q = n → (x :: r)[size] ≠ (t.word n).headD 0) :
  k.longest (x :: r) = (x :: r).take size ∧ k.find ((x :: r).take size) = some (t.codeOf n) := by
 have hfc := k.fin_eq
 have hcl := h.cl
 have hb := Kn.great_bounds hv
 have hmax := fun i => Tr.Far.max h.nd hf hs (i + 1) i (by omega)
 have hold : ∀ c, k.fin < c → c ≤ k.great → (k.any c).isPrefixOf (x :: r) = true → (k.any c).length ≤ size := by
  intro c hc1 hc2 hp
  by_cases hcn : k.grows ∧ c = k.next
  ·obtain ⟨hg, rfl⟩ := hcn
   obtain ⟨q, hq⟩ := Option.isSome_iff_exists.1 hg.1
   have ho := h.of (hv.tail q hq)
   have hne := k.word_ne (c := q)
   have hany := Kn.any_next hq
   have hp2 := pre_take hp
   have hl1 : (k.any k.next).length = (k.word q).length + 1 := by
    rw [hany, List.length_append, List.length_take]
    have : (k.word q).length ≠ 0 := fun e => hne (List.eq_nil_of_length_eq_zero e)
    omega
   rcases Nat.lt_or_ge (k.word q).length size with h1 | h1
   ·omega
   ·exfalso
    have hpq : (t.word (t.of k.fin q)).isPrefixOf (x :: r) = true := by
     rw [ho.2.1, List.isPrefixOf_iff_prefix]
     rw [hany, List.isPrefixOf_iff_prefix] at hp
     exact (List.prefix_append _ _).trans hp
    have h3 := hmax _ ho.1 hpq
    rw [ho.2.1] at h3
    have h4 : (k.word q).length = size := by omega
    have h5 := h3.2 h4
    have hlt : size < (x :: r).length := by omega
    refine hno hlt q hg hq h5 ?_
    have h6 := hp2.1
    rw [hl1, h4, hany, List.take_succ_eq_append_getElem hlt] at h6
    rw [← h5, ho.2.1]
    cases hw : k.word q with
    | nil => exact absurd hw hne
    | cons a l =>
     rw [hw] at h6
     simp only [List.take_succ_cons, List.take_zero] at h6
     exact (snoc_inj h6).2.symm
  ·obtain ⟨i, _, hi, hw⟩ := h.old hc1 (by
    by_cases hg : k.grows
    ·rw [Kn.great_grows hg] at hc2
     have : c ≠ k.next := fun e => hcn ⟨hg, e⟩
     unfold Kn.next at *; omega
    ·rw [Kn.great_not hg] at hc2; exact hc2)
   rw [← hw] at hp ⊢
   exact (hmax i hi hp).1
 have hsz := hf.pos
 have hle := hf.le
 rcases t.node_or hf.node with ha | ⟨j, d, rfl, hd⟩
 ·have hwl := hf.word
  rw [t.word_lit ha] at hwl
  have hs1 : size = 1 := by
   have h9 := congrArg List.length hwl
   rw [List.length_take] at h9
   simp only [List.length_cons, List.length_nil] at h9 hle
   omega
  refine ⟨Kn.longest_len hv hx hsz hle (Or.inl hs1) hold, ?_⟩
  rw [← hwl, t.codeOf_lit ha]
  unfold Kn.find
  have hn256 : n < 256 := by have := h.nd.c256; omega
  have e : (UInt8.ofNat n).toNat = n := by rw [UInt8.toNat_ofNat']; omega
  rw [if_pos ⟨rfl, by show (UInt8.ofNat n).toNat < _; rw [e]; omega⟩]
  show some (UInt8.ofNat n).toNat = _
  rw [e]
 ·have hc := h.code j d hd
  have hlt := (List.getElem?_eq_some_iff.1 hc.2.1).1
  rw [h.len] at hlt
  have hdn : d.code ≠ k.next := by unfold Kn.next; omega
  have hw : k.any d.code = (x :: r).take size := by
   rw [Kn.any_old hdn, ← hf.word]
   have := (h.pr _ _ hc.2.1).2
   rw [this, show k.fin + 1 + (d.code - k.fin - 1) = d.code by omega]
  refine ⟨Kn.longest_len hv hx hsz hle (Or.inr ⟨d.code, hc.1, by omega, hw⟩) hold, ?_⟩
  rw [t.codeOf_node hd]
  have hl2 : ((x :: r).take size).length ≠ 1 := by
   rw [← hf.word, Tr.word_node h.nd hd, List.length_append]
   have : (t.word d.par).length ≠ 0 := fun e => t.word_ne d.par (List.eq_nil_of_length_eq_zero e)
   simp only [List.length_cons, List.length_nil]
   omega
  refine Kn.find_least hl2 hc.1 (by omega) hw ?_
  intro c hc1 hc2 he
  obtain ⟨i, hi1, hi, hwi⟩ := h.old hc1 (by omega)
  rw [he] at hwi
  have h3 := (hmax i hi (by rw [hwi]; exact take_isPrefixOf _ _)).2 (by rw [hwi, List.length_take]; omega)
  subst h3
  have := hc.2.2 _ hi1
  omega

theorem greedyF_len : ∀ (f : Nat) (k : Kn) (data : List UInt8), k.Valid → k.fits data → data.length ≤ f → (k.last = none → k.ps.length ≤ k.base) → (greedyF f k data).length ≤ 1 + data.length + (data.length + (if k.last.isSome then 1 else 0)) / 2 := by
 intro f
 induction f with
 | zero =>
  intro k data h hf hl _
  rw [greedyF]
  simp
  omega
 | succ f ih =>
  intro k data h hf hl hfr
  rw [greedyF]
  by_cases hd : data = []
  ·subst hd
   rw [if_pos rfl]
   simp
  ·rw [if_neg hd]
   obtain ⟨c, h1, h2, h3, h4, h5, h6, _⟩ := Kn.longest_take h hd hf
   simp only [h1, Option.getD_some]
   have hv := Kn.after_valid h h2
   have hfr2 : (k.after c).fits (data.drop (k.longest data).length) := (k.like_after c).fits (fits_drop hf _)
   have hrl : (data.drop (k.longest data).length).length + (k.longest data).length = data.length := by rw [List.length_drop]; omega
   have hls : (k.after c).last.isSome = true := rfl
   split
   ·rename_i hif
    have hcv := Kn.cleared_valid hv
    have h7 := ih (k.after c).cleared (data.drop (k.longest data).length) hcv ((k.after c).like_cleared.fits hfr2) (by omega) (fun _ => by show ((k.after c).ps.take (k.after c).base).length ≤ (k.after c).base; rw [List.length_take]; omega)
    have h8 : (k.after c).cleared.last.isSome = false := rfl
    rw [h8] at h7
    have h9 : k.last.isSome = true := by
     cases hl2 : k.last with
     | some q => rfl
     | none =>
      exfalso
      have hng : ¬ k.grows := fun hg => by have := hg.1; rw [hl2] at this; cases this
      have e : (k.after c).ps = k.ps := by show (if k.grows then _ else _) = _; rw [if_neg hng]
      have e2 : (k.after c).base = k.base := rfl
      have := hif.2.2
      rw [e, e2] at this
      have := hfr hl2
      omega
    rw [h9]
    simp only [List.length_cons, if_true, if_neg Bool.false_ne_true] at h7 ⊢
    omega
   ·have h7 := ih (k.after c) (data.drop (k.longest data).length) hv hfr2 (by omega) (fun e => by rw [e] at hls; cases hls)
    rw [hls] at h7
    simp only [List.length_cons, if_true] at h7 ⊢
    split <;> omega

theorem Kn.greedy_len {k : Kn} (h : k.Valid) {data : List UInt8} (hf : k.fits data) : (k.greedy data).length ≤ 2 + data.length + data.length / 2 := by
 have h1 := greedyF_len data.length k.cleared data (Kn.cleared_valid h) (k.like_cleared.fits hf) (Nat.le_refl _) (fun _ => by show (k.ps.take k.base).length ≤ k.base; rw [List.length_take]; omega)
 have h2 : k.cleared.last.isSome = false := rfl
 rw [h2] at h1
 simp only [if_neg Bool.false_ne_true] at h1
 unfold Kn.greedy
 rw [List.length_cons]
 omega

end Go.Proofs.YthlgpgaeajfchaaGreat

namespace Go.Proofs.YthlgpgaeajfchaaGreat
open Go.RowKit Go.WideShapes Go.ChangeShapes
set_option linter.unusedVariables false

def Row (w : World) (B size : Nat) (A : Option Addr) (n : Nat) (xs : List Value) : Prop :=
 xs.length = n * size ∧ (0 < n → ∃ b off, A = some ⟨b, off, none⟩ ∧ b < B ∧ ∀ j u, xs[j]? = some u → w.cell? ⟨b, off + j, none⟩ = some u)

theorem addr_add (b off j : Nat) : (⟨b, off, none⟩ : Addr).add j = ⟨b, off + j, none⟩ := by unfold Addr.add; split <;> simp_all

section
variable {w w' : World} {B B' size n : Nat} {A : Option Addr} {xs : List Value}

theorem Row.none_ : Row w B size A 0 [] := ⟨by simp, fun h => absurd h (by omega)⟩

theorem Row.keep (h : Row w B size A n xs) (hk : ∀ p : Addr, p.block < B → w'.cell? p = w.cell? p) : Row w' B size A n xs :=
 ⟨h.1, fun hn => by
  obtain ⟨b, off, e, hb, hc⟩ := h.2 hn
  exact ⟨b, off, e, hb, fun j u hu => (hk ⟨b, off + j, none⟩ hb).trans (hc j u hu)⟩⟩

theorem Row.more (h : Row w B size A n xs) (hB : B ≤ B') : Row w B' size A n xs :=
 ⟨h.1, fun hn => by
  obtain ⟨b, off, e, hb, hc⟩ := h.2 hn
  exact ⟨b, off, e, by omega, hc⟩⟩

theorem Row.below {C : Nat} (h : Row w B size A n xs) (hb : Below C w w') (hC : B ≤ C) : Row w' B size A n xs := h.keep fun _ hp => hb.cell (by omega)

theorem Row.drew (h : Row w B size A n xs) : Row w.drew B size A n xs := h

theorem Row.drewN (h : Row w B size A n xs) (k : Nat) : Row (w.drewN k) B size A n xs := h

theorem Row.alloc (h : Row w B size A n xs) (hB : B ≤ w.heap.size) (o : Obj) : Row (w.alloc o) B size A n xs := h.keep fun p hp => World.cell?_alloc_lt w o p (by omega)

theorem Row.setCell (h : Row w B size A n xs) {p : Addr} (hB : B ≤ p.block) (u : Value) : Row (w.setCell p u) B size A n xs :=
 h.keep fun q hq => World.cell?_setCell_other w p q u (fun e => by subst e; omega)

theorem Row.grown (h : Row w B size A n xs) {row : Option Nat} (hg : w.grownBy w' row) (hB : B ≤ w.heap.size) (hr : ∀ g, row = some g → B ≤ g) : Row w' B size A n xs :=
 h.keep fun p hp => World.cell?_of_block (hg.block p.block (by omega) (fun e => by have := hr _ e.symm; omega))

theorem Row.cut (h : Row w B size A n xs) {k : Nat} (hk : k ≤ n) : Row w B size A k (xs.take (k * size)) := by
 refine ⟨by rw [List.length_take, h.1]; exact Nat.min_eq_left (Nat.mul_le_mul_right _ hk), fun hn => ?_⟩
 obtain ⟨b, off, e, hb, hc⟩ := h.2 (by omega)
 refine ⟨b, off, e, hb, fun j u hu => hc j u ?_⟩
 rw [List.getElem?_take] at hu
 split at hu
 ·exact hu
 ·cases hu

theorem Row.of_own {base : Nat} {e : TypeId} {c : Nat} (h : w.ownsRow base e size (.slice A n c) n xs) : Row w w.heap.size size A n xs := by
 refine ⟨h.1, fun hn => ?_⟩
 rcases h.2 with ⟨h0, h1⟩ | ⟨g, cap, cur, hv, _, hg, _⟩
 ·omega
 ·simp only [Value.slice.injEq] at hv
  obtain ⟨rfl, _, rfl⟩ := hv
  refine ⟨g, 0, rfl, (Array.getElem?_eq_some_iff.1 hg).1, fun j u hu => ?_⟩
  have := h.cells (g := g) rfl j u hu
  rw [addr_add] at this
  exact this

theorem Row.new (w : World) (e : TypeId) (cs : List Value) (n size : Nat) (h : cs.length = n * size) : Row (w.alloc (.cells cs.toArray e)) (w.heap.size + 1) size (some ⟨w.heap.size, 0, none⟩) n cs := by
 refine ⟨h, fun _ => ⟨_, _, rfl, by omega, fun j u hu => ?_⟩⟩
 rw [World.cell?_alloc_mark]
 simpa using hu

theorem own_form {base : Nat} {e : TypeId} {v : Value} (h : w.ownsRow base e size v n xs) : ∃ A c, v = .slice A n c ∧ n ≤ c ∧ c ≤ maxLen := by
 rcases h.2 with ⟨rfl, rfl⟩ | ⟨g, cap, cur, rfl, _, _, h1, h2, _⟩
 ·exact ⟨none, 0, rfl, Nat.le_refl _, Nat.zero_le _⟩
 ·exact ⟨_, _, rfl, h1, h2⟩

theorem own_drewN {base : Nat} {e : TypeId} {v : Value} (h : w.ownsRow base e size v n xs) (k : Nat) : (w.drewN k).ownsRow base e size v n xs := h

theorem own_below {base : Nat} {e : TypeId} {v : Value} {C : Nat} (h : w.ownsRow base e size v n xs) (hb : Below C w w') (hC : w.heap.size ≤ C) : w'.ownsRow base e size v n xs := by
 refine ⟨h.1, ?_⟩
 rcases h.2 with hn | ⟨g, cap, cur, rfl, hg, hgg, rest⟩
 ·exact .inl hn
 ·have hlt := (Array.getElem?_eq_some_iff.1 hgg).1
  exact .inr ⟨g, cap, cur, rfl, hg, (hb.block g (by omega)).trans hgg, rest⟩

theorem own_base {base base' : Nat} {e : TypeId} {v : Value} (h : w.ownsRow base e size v n xs) (hb : base' ≤ base) : w.ownsRow base' e size v n xs := by
 refine ⟨h.1, ?_⟩
 rcases h.2 with hn | ⟨g, cap, cur, hv, hg, hgg, rest⟩
 ·exact .inl hn
 ·exact .inr ⟨g, cap, cur, hv, by omega, hgg, rest⟩
end

def Apart (u v : Value) : Prop := ∀ g, u.ownBlock = some g → v.ownBlock ≠ some g

theorem Apart.symm {u v : Value} (h : Apart u v) : Apart v u := fun g hv hu => h g hu hv

theorem Apart.kept {u v : Value} (h : Apart u v) : v.ownBlock = none ∨ v.ownBlock ≠ u.ownBlock := by
 rcases hv : v.ownBlock with _ | g
 ·exact Or.inl rfl
 ·exact Or.inr fun e => h g e.symm hv

theorem Apart.step {u u' v : Value} {N : Nat} (h : Apart u v) (hu : u'.ownBlock = u.ownBlock ∨ u'.ownBlock = some N) (hv : ∀ k, v.ownBlock = some k → k < N) : Apart u' v := by
 intro g hg hvg
 rcases hu with e | e
 ·exact h g (e.symm.trans hg) hvg
 ·rw [hg] at e
  injection e with e
  have := hv g hvg
  omega

structure Elem (P : Program) (t e : TypeId) (z : Value) (size bytes : Nat) : Prop where
 ht : P.underlying t = some (.slice e)
 hinfo : (P.info? e).map (fun i => (i.zero, i.size, i.bytes)) = some (some z, size, bytes)
 hzs : z.cells.size = size
 hsz : 0 < size

section
variable {P : Program} (w : World)

theorem run_append_row {t ty e : TypeId} {z : Value} {size bytes : Nat} (el : Elem P t e z size bytes) (base : Nat)
  (v : Value) (n : Nat) (xs : List Value) (hown : w.ownsRow base e size v n xs)
  (B : Nat) (A : Option Addr) (m c : Nat) (news : List Value) (hr : Row w B size A m news) (h1 : ∀ u ∈ news, u.oneCell' = true)
  (h63 : n + m ≤ maxLen) (hbytes : (n + m) * bytes ≤ 140737488355328) (hbase : base ≤ w.heap.size) :
  ∃ v' w', (Builtin.append_ #[t, t] ty #[v, .slice A m c]).run P w = .ok v' w' ∧ w'.ownsRow base e size v' (n + m) (xs ++ news) ∧ w.grownBy w' v.ownBlock ∧
   (v'.ownBlock = v.ownBlock ∨ v'.ownBlock = some w.heap.size) := by
 obtain ⟨i, hi, hz, hsize, hby⟩ := info_parts el.hinfo
 have hnil : ∀ c : Nat, m = 0 → (Builtin.append_ #[t, t] ty #[v, .slice none 0 c]).run P w = .ok v w := by
  intro c _
  rcases hown.2 with ⟨rfl, rfl⟩ | ⟨g, cap, cur, rfl, _, _, hnc, _⟩
  ·simp [Builtin.append_, run_underlying el.ht, sizeOf, typeInfo, hi, Builtin.lenOf, Builtin.firstCells]
  ·simp [Builtin.append_, run_underlying el.ht, sizeOf, typeInfo, hi, Builtin.lenOf, Builtin.firstCells, hnc, storeCells]
 rcases A with _ | ad
 ·have hm : m = 0 := by
   rcases Nat.eq_zero_or_pos m with h0 | h0
   ·exact h0
   ·obtain ⟨b, off, h, _⟩ := hr.2 h0
    cases h
  subst hm
  have hn : news = [] := List.eq_nil_of_length_eq_zero (by simpa using hr.1)
  subst hn
  exact ⟨v, w, hnil c rfl, by simpa using hown, World.grownBy.refl w _, .inl rfl⟩
 ·have hcells : ∀ j u, news[j]? = some u → w.cell? (ad.add j) = some u := by
   intro j u hu
   rcases Nat.eq_zero_or_pos m with h0 | h0
   ·subst h0
    have hn : news = [] := List.eq_nil_of_length_eq_zero (by simpa using hr.1)
    subst hn
    simp at hu
   ·obtain ⟨b, off, h, _, hc⟩ := hr.2 h0
    injection h with h
    subst h
    rw [addr_add]
    exact hc j u hu
  obtain ⟨v', w', hrun, h2, h3, _, h5⟩ := run_append_own_at (P := P) w base t ty e i z size bytes el.ht hi hz hsize hby el.hzs el.hsz v n xs hown ad m c news hr.1 hcells h1 h63 hbytes hbase
  exact ⟨v', w', hrun, h2, h3, h5⟩

theorem wp_append_row {o : Oper} {a : Act} {K : Act → World → Prop} {Q : Exit → Act → World → Prop} {t e : TypeId} {z : Value} {size bytes : Nat} (el : Elem P t e z size bytes) (s x : Operand)
  (ho : o.op = .call { callee := .builtin .append, args := #[s, x], argTypes := #[t, t] }) (base : Nat)
  (v : Value) (n : Nat) (xs : List Value) (hs : a.eval s = v) (hown : w.ownsRow base e size v n xs)
  (B : Nat) (A : Option Addr) (m c : Nat) (news : List Value) (hx : a.eval x = .slice A m c) (hr : Row w B size A m news) (h1 : ∀ u ∈ news, u.oneCell' = true)
  (h63 : n + m ≤ maxLen) (hbytes : (n + m) * bytes ≤ 140737488355328) (hbase : base ≤ w.heap.size)
  (h : ∀ v' w', w'.ownsRow base e size v' (n + m) (xs ++ news) → w.grownBy w' v.ownBlock → (v'.ownBlock = v.ownBlock ∨ v'.ownBlock = some w.heap.size) → K (a.put o.dst v') w') : o.wp P a w K Q := by
 obtain ⟨v', w', hrun, h2, h3, h4⟩ := run_append_row (P := P) w (ty := o.type) el base v n xs hown B A m c news hr h1 h63 hbytes hbase
 unfold Oper.wp execOp
 simp only [ho, resolve, invoke, builtin, Sem.run_bind, Sem.run_pure, Result.andThen_ok, List.map_toArray, List.map_cons, List.map_nil, hs, hx, hrun]
 exact h v' w' h2 h3 h4

theorem wpList_append_row {ops : Array Oper} {rest : List Oper} {o : Oper} {a : Act} {Q : Exit → Act → World → Prop} {t e : TypeId} {z : Value} {size bytes : Nat} (el : Elem P t e z size bytes) (hgd : o.guard = none) (s x : Operand)
  (ho : o.op = .call { callee := .builtin .append, args := #[s, x], argTypes := #[t, t] }) (base : Nat)
  (v : Value) (n : Nat) (xs : List Value) (hs : a.eval s = v) (hown : w.ownsRow base e size v n xs)
  (B : Nat) (A : Option Addr) (m c : Nat) (news : List Value) (hx : a.eval x = .slice A m c) (hr : Row w B size A m news) (h1 : ∀ u ∈ news, u.oneCell' = true)
  (h63 : n + m ≤ maxLen) (hbytes : (n + m) * bytes ≤ 140737488355328) (hbase : base ≤ w.heap.size)
  (h : ∀ v' w', w'.ownsRow base e size v' (n + m) (xs ++ news) → w.grownBy w' v.ownBlock → (v'.ownBlock = v.ownBlock ∨ v'.ownBlock = some w.heap.size) → wpList P ops Q rest (a.put o.dst v') w') : wpList P ops Q (o :: rest) a w :=
 wpList_plain hgd fun _ hK => wp_append_row w el s x ho base v n xs hs hown B A m c news hx hr h1 h63 hbytes hbase fun v' w' h2 h3 h4 => hK _ _ (h v' w' h2 h3 h4)

theorem step_append_row {ops : Array Oper} {o : Oper} {a : Act} {K : Act → World → Prop} {Q : Exit → Act → World → Prop} {E : Prop} {t e : TypeId} {z : Value} {size bytes : Nat} (el : Elem P t e z size bytes) (hgd : o.guard = none) (s x : Operand)
  (ho : o.op = .call { callee := .builtin .append, args := #[s, x], argTypes := #[t, t] }) (base : Nat)
  (v : Value) (n : Nat) (xs : List Value) (hs : a.eval s = v) (hown : w.ownsRow base e size v n xs)
  (B : Nat) (A : Option Addr) (m c : Nat) (news : List Value) (hx : a.eval x = .slice A m c) (hr : Row w B size A m news) (h1 : ∀ u ∈ news, u.oneCell' = true)
  (h63 : n + m ≤ maxLen) (hbytes : (n + m) * bytes ≤ 140737488355328) (hbase : base ≤ w.heap.size)
  (h : ∀ v' w', w'.ownsRow base e size v' (n + m) (xs ++ news) → w.grownBy w' v.ownBlock → (v'.ownBlock = v.ownBlock ∨ v'.ownBlock = some w.heap.size) → K (a.put o.dst v') w') :
  if Region.wanted o (yielded ops a.tmps) = true then Oper.wp P o a w K Q else E := by
 have hw : Region.wanted o (yielded ops a.tmps) = true := by simp [Region.wanted, hgd]
 rw [if_pos hw]
 exact wp_append_row w el s x ho base v n xs hs hown B A m c news hx hr h1 h63 hbytes hbase h
end

def lenOf : Value → Nat
 | .slice _ n _ => n
 | _ => 0

theorem range_snoc {β : Type} (n : Nat) (f : Nat → β) : (List.range (n + 1)).map f = (List.range n).map f ++ [f n] := by
 rw [List.range_succ, List.map_append]; rfl

theorem own_at {w : World} {base : Nat} {e : TypeId} {A : Option Addr} {n c : Nat} {xs : List Value} (h : w.ownsRow base e 1 (.slice A n c) n xs) (hn : 0 < n) :
  ∃ g, A = some ⟨g, 0, none⟩ ∧ base ≤ g ∧ g < w.heap.size ∧ (∀ j u, xs[j]? = some u → w.cell? ⟨g, j, none⟩ = some u) ∧ ∀ j, w.frozen? ⟨g, j, none⟩ = false := by
 rcases h.2 with ⟨h0, h1⟩ | ⟨g, cap, cur, hv, hb, hg, _⟩
 ·omega
 ·simp only [Value.slice.injEq] at hv
  obtain ⟨rfl, _, rfl⟩ := hv
  refine ⟨g, rfl, hb, (Array.getElem?_eq_some_iff.1 hg).1, fun j u hu => ?_, h.frozenAt⟩
  have := h.cells (g := g) rfl j u hu
  rw [addr_add, Nat.zero_add] at this
  exact this

def byteV (b : UInt8) : Value := .int .u8 (b.toNat : Int)

theorem run_convert_own {P : Program} {w : World} {t d e : TypeId} {base : Nat} {A : Option Addr} {n c : Nat} (el : Elem P t e (.int .u8 0) 1 1) (he : P.underlying e = some (.int .u8)) (hd : P.underlying d = some .string)
  (bs : List UInt8) (h : w.ownsRow base e 1 (.slice A bs.length c) bs.length (bs.map byteV)) (hn : bs.length = n) : (convert t d (.slice A n c)).run P w = .ok (.string ⟨bs.toArray⟩) w := by
 subst hn
 rcases Nat.eq_zero_or_pos bs.length with h0 | h0
 ·rcases A with _ | ad
  ·have hbs : bs = [] := List.eq_nil_of_length_eq_zero h0
   subst hbs
   exact run_convert_bytes_nil (P := P) w t e el.ht he 0 c d hd
  ·have := run_convert_bytes_back (P := P) w t d e ad c bs el.ht he hd (fun j hj => by omega)
   exact this
 ·obtain ⟨g, rfl, _, _, hc, _⟩ := own_at h h0
  refine run_convert_bytes_back (P := P) w t d e ⟨g, 0, none⟩ c bs el.ht he hd (fun j hj => ?_)
  rw [addr_add, Nat.zero_add]
  exact hc j _ (by simp [byteV, hj])

structure StrRow (w : World) (A : Option Addr) (n : Nat) (ss : List ByteArray) : Prop where
 le : n ≤ maxLen
 len : ss.length = n
 each : ∀ s ∈ ss, s.size ≤ maxLen
 row : Row w w.heap.size 1 A n (ss.map Value.string)

theorem StrRow.below {w w' : World} {A : Option Addr} {n : Nat} {ss : List ByteArray} (h : StrRow w A n ss) (hb : Below w.heap.size w w') : StrRow w' A n ss :=
 ⟨h.le, h.len, h.each, (h.row.below hb (Nat.le_refl _)).more hb.size⟩

structure ByteRow (w : World) (A : Option Addr) (n : Nat) (bs : List UInt8) : Prop where
 le : n ≤ maxLen
 len : bs.length = n
 row : Row w w.heap.size 1 A n (bs.map byteV)

section
variable {H : Type} {enc : TypeId × Value → H} {P : Program} {w : World} {base : Nat} {held : Bool}

theorem row_of_cells {A : Addr} {n : Nat} {xs : List Value} (hl : xs.length = n) (h : ∀ i u, xs[i]? = some u → w.cell? (A.add i) = some u) : Row w w.heap.size 1 (some A) n xs := by
 refine ⟨by simpa using hl, fun hn => ?_⟩
 have h0 := h 0 (xs[0]'(by omega)) (List.getElem?_eq_getElem (by omega))
 obtain ⟨b, off, spot⟩ := A
 have hs : spot = none := by simpa [Addr.add] using World.cell?_spot h0
 subst hs
 refine ⟨b, off, rfl, ?_, fun j u hu => ?_⟩
 ·have := World.block_lt_of_cell? w _ h0
  simpa [Addr.add] using this
 ·have := h j u hu
  rw [addr_add] at this
  exact this

theorem reads_bytes {t e : TypeId} {A : Option Addr} {len cap : Nat} {d : DataW H} {p : List MemPlace} (ht : P.underlying t = some (.slice e)) (he : P.underlying e = some (.int .u8)) (hc : P.cellsOf e = 1)
  (h : DataW.Trod enc P w base (fun _ => true) held t (.slice A len cap) d p) (_hp : ∀ x ∈ p, x.block < w.heap.size) : ∃ bs, ByteRow w A len bs := by
 obtain ⟨fuel, hf⟩ := h
 rcases open_ints ht he hc hf with ⟨hcs, _⟩ | ⟨x, l, c, zs, hcs, _, hl, hm, hz, _, hcell, hws⟩
 ·simp [Value.cells] at hcs
  obtain ⟨rfl, rfl, rfl⟩ := hcs
  exact ⟨[], ⟨Nat.zero_le _, rfl, Row.none_⟩⟩
 ·simp [Value.cells] at hcs
  obtain ⟨rfl, rfl, rfl⟩ := hcs
  have hz' : zs.length = cap := by simpa using hz
  refine ⟨(zs.take len).map (fun z => UInt8.ofNat z.toNat), ⟨by omega, by simp; omega, row_of_cells (by simp; omega) fun i u hu => ?_⟩⟩
  rw [List.getElem?_map, List.getElem?_map, List.getElem?_take] at hu
  split at hu
  ·rename_i hi
   have hil : i < zs.length := by omega
   have := hcell i hil
   rw [this, ← hu]
   have hwf := hws zs[i] (List.getElem_mem hil)
   have hb : 0 ≤ zs[i] ∧ zs[i] ≤ 255 := by simpa [Lit.wf, IntKind.min, IntKind.max, IntKind.signed, IntKind.bits] using hwf
   simp only [List.getD, List.getElem?_eq_getElem hil, Option.map_some, Option.getD_some, byteV, Option.some.injEq, Value.int.injEq, true_and]
   rw [UInt8.toNat_ofNat']
   omega
  ·simp at hu

theorem reads_bytes_le {t e : TypeId} {A : Option Addr} {len cap : Nat} {d : DataW H} {p : List MemPlace} (ht : P.underlying t = some (.slice e)) (he : P.underlying e = some (.int .u8)) (hc : P.cellsOf e = 1)
  (h : DataW.Trod enc P w base (fun _ => true) held t (.slice A len cap) d p) : len ≤ cap := by
 obtain ⟨fuel, hf⟩ := h
 rcases open_ints ht he hc hf with ⟨hcs, _⟩ | ⟨x, l, c, zs, hcs, _, hl, hm, hz, _, hcell, hws⟩
 ·simp [Value.cells] at hcs
  obtain ⟨rfl, rfl, rfl⟩ := hcs
  exact Nat.le_refl _
 ·simp [Value.cells] at hcs
  obtain ⟨rfl, rfl, rfl⟩ := hcs
  exact hl

end

def bAt (s : ByteArray) (j : Nat) : UInt8 := s.data.toList.getD j 0

theorem bAt_lt {s : ByteArray} {j : Nat} (h : j < s.size) : bAt s j = s[j] := by
 unfold bAt; rw [List.getD_eq_getElem?_getD, List.getElem?_eq_getElem (by simpa using h)]; rfl

end Go.Proofs.YthlgpgaeajfchaaGreat

namespace Go.Proofs.YthlgpgaeajfchaaGreat
open Go.RowKit
set_option linter.unusedVariables false

theorem Row.newAt (w : World) (H : Nat) (hH : w.heap.size = H) (e : TypeId) (cs : List Value) (n size : Nat) (h : cs.length = n * size) : Row (w.alloc (.cells cs.toArray e)) (H + 1) size (some ⟨H, 0, none⟩) n cs := by
 subst hH; exact Row.new w e cs n size h

theorem own_empty (w : World) (H : Nat) (hH : w.heap.size = H) (base : Nat) (hb : base ≤ H) (e : TypeId) (size : Nat) : (w.alloc (.cells #[] e)).ownsRow base e size (.slice (some ⟨H, 0, none⟩) 0 0) 0 [] := by
 subst hH
 exact World.ownsRow_lit (size := size) (e := e) w #[] 0 hb (Nat.zero_le _) (by simp)

theorem own_made (w : World) (cs : Array Value) (c base size : Nat) (e : TypeId) (hb : base ≤ w.heap.size) (hm : c ≤ maxLen) (hs : cs.size = c * size) : (w.alloc (.cells cs e)).ownsRow base e size (.slice (some ⟨w.heap.size, 0, none⟩) 0 c) 0 [] :=
 ⟨by simp, .inr ⟨w.heap.size, c, cs, rfl, hb, heap_alloc_new w _, Nat.zero_le _, hm, hs, by simp⟩⟩

theorem run_make_rowN {P : Program} (t e : TypeId) (i : TypeInfo) (z : Value) (ht : P.underlying t = some (.slice e)) (hi : P.info? e = some i) (hz : i.zero = some z)
  (kl kc : IntKind) (n c : Nat) (hnc : n ≤ c) (hbytes : i.bytes * c ≤ 281474976710656) (h63 : c ≤ 9223372036854775807) (w : World) :
  (Instr.makeSlice t (.int kl (n : Int)) (.int kc (c : Int))).run P w = .ok (.slice (some ⟨w.heap.size, 0, none⟩) n c) (w.alloc (.cells (madeCells z.cells (c * i.size)) e)) := by
 have hb : (i.bytes : Int) * (c : Int) ≤ 281474976710656 := by
  have h : ((i.bytes * c : Nat) : Int) ≤ 281474976710656 := by omega
  rwa [Int.natCast_mul] at h
 have hr := run_make (P := P) w t e i z ht hi hz kl kc n c (by omega) (by omega) hb (by omega)
 simp only [Int.toNat_natCast] at hr
 exact hr

theorem infoByte : (Tryz.prog.info? 5).map (fun i => (i.zero, i.size, i.bytes)) = some (some (.int .u8 0), 1, 1) := by kernel_rfl

theorem elemByte : Elem Tryz.prog 22 5 (.int .u8 0) 1 1 := ⟨Tryz.underlying22, infoByte, rfl, by decide⟩

theorem infoInt : (Tryz.prog.info? 3).map (fun i => (i.zero, i.size, i.bytes)) = some (some (.int .i64 0), 1, 8) := by kernel_rfl

theorem elemInt : Elem Tryz.prog 43 3 (.int .i64 0) 1 8 := ⟨Tryz.underlying43, infoInt, rfl, by decide⟩

theorem only_setCell {a w : World} {g : Nat} (h : a.grownBy w (some g)) {p : Addr} (hp : p.block = g) (u : Value) : a.grownBy (w.setCell p u) (some g) :=
 ⟨h.os, h.tape, h.output, by simpa [World.setCell] using h.size, fun i hi hne => (Below.heap_setCell w p u i (by
  rintro rfl
  exact hne (by rw [hp]))).trans (h.block i hi hne)⟩

theorem only_below {a w w' : World} {row : Option Nat} (h : a.grownBy w row) (hb : Below w.heap.size w w') : a.grownBy w' row :=
 ⟨hb.os.trans h.os, hb.tape.trans h.tape, hb.output.trans h.output, Nat.le_trans h.size hb.size, fun i hi hn => (hb.block i (Nat.lt_of_lt_of_le hi h.size)).trans (h.block i hi hn)⟩

theorem only_drawn {a w w' : World} {row : Option Nat} (h : a.grownBy w row) (hd : Drawn w w') : a.grownBy w' row := only_below h (hd.below _)

theorem Below.only {B : Nat} {a w w' : World} {row : Option Nat} (h : Below B a w) (hg : w.grownBy w' row) (hB : B ≤ w.heap.size) (hr : ∀ g, row = some g → B ≤ g) : Below B a w' := h.grown hg hB hr

def two (n : Nat) : ByteArray := ⟨#[UInt8.ofNat (n / 256), UInt8.ofNat n]⟩

theorem run_two {P : Program} {src dst e : TypeId} (hs : P.underlying src = some (.slice e)) (he : P.underlying e = some (.int .u8)) (hd : P.underlying dst = some .string) (n : Nat) (w : World) :
  (convert src dst (.slice (some ⟨w.heap.size, 0, none⟩) 2 2)).run P (w.alloc (.cells #[.int .u8 ((n : Int) / 256 % 256), .int .u8 ((n : Int) % 256)] e)) =
   .ok (.string (two n)) (w.alloc (.cells #[.int .u8 ((n : Int) / 256 % 256), .int .u8 ((n : Int) % 256)] e)) := by
 refine run_convert_bytes_back (P := P) _ src dst e ⟨w.heap.size, 0, none⟩ 2 [UInt8.ofNat (n / 256), UInt8.ofNat n] hs he hd (fun j hj => ?_)
 rw [addr_add, Nat.zero_add, World.cell?_alloc_mark]
 match j, hj with
 | 0, _ => simp
 | 1, _ => simp

set_option maxRecDepth 20000 in
theorem implTwoBytes (n : Nat) (w : World) (hn : n ≤ 1048576) :
  Calls Tryz.prog 124 #[.int .i64 n] w fun e w' => e = .returned (.string (two n)) ∧ Below w.heap.size w w' := by
 have hcv := run_two (P := Tryz.prog) Tryz.underlying22 Tryz.underlying5 Tryz.underlying9 n w
 go_enter Tryz.func124, Tryz.ntmps124
 go_wp2
 go_ret
 exact ⟨rfl, (Below.refl _ _).alloc (Nat.le_refl _) _⟩

set_option maxRecDepth 20000 in
theorem specL4Two (n : Nat) (w : World) (hn : n ≤ 1048576) :
  Calls Tryz.prog 142 #[.int .i64 n] w fun e w' => e = .returned (.string (two n)) ∧ Below w.heap.size w w' := by
 have hcv := run_two (P := Tryz.prog) Tryz.underlying22 Tryz.underlying5 Tryz.underlying9 n w
 go_enter Tryz.func142, Tryz.ntmps142
 go_wp2
 go_ret
 exact ⟨rfl, (Below.refl _ _).alloc (Nat.le_refl _) _⟩

theorem ofInt_i64 (a : Nat) (ha : a < 9223372036854775808) : (BitVec.ofInt 64 (a : Int)).toNat = a := by
 rw [BitVec.ofInt_natCast, BitVec.toNat_ofNat]; exact Nat.mod_eq_of_lt (by omega)

theorem i64_and_nat (a b : Nat) (ha : a < 9223372036854775808) (hb : b < 9223372036854775808) : bits .and .i64 (a : Int) (b : Int) = ((a &&& b : Nat) : Int) := by
 have hx : a &&& b < 2 ^ 63 := Nat.and_lt_two_pow _ (by omega)
 show IntKind.i64.wrap ((BitVec.ofInt 64 (a : Int) &&& BitVec.ofInt 64 (b : Int)).toNat : Int) = _
 rw [BitVec.toNat_and, ofInt_i64 a ha, ofInt_i64 b hb, IntKind.wrap_i64]
 omega

theorem i64_or_nat (a b : Nat) (ha : a < 9223372036854775808) (hb : b < 9223372036854775808) : bits .or .i64 (a : Int) (b : Int) = ((a ||| b : Nat) : Int) := by
 have hx : a ||| b < 2 ^ 63 := Nat.or_lt_two_pow (by omega) (by omega)
 show IntKind.i64.wrap ((BitVec.ofInt 64 (a : Int) ||| BitVec.ofInt 64 (b : Int)).toNat : Int) = _
 rw [BitVec.toNat_or, ofInt_i64 a ha, ofInt_i64 b hb, IntKind.wrap_i64]
 omega

theorem shift_or (x y : Nat) (hy : y < 256) : (x * 256 ||| y) = 256 * x + y := by
 have h := Nat.two_pow_add_eq_or_of_lt (i := 8) (b := y) (by omega) x
 rw [Nat.mul_comm x 256]
 exact h.symm

theorem or_i64 (x y : Nat) (hx : x < 256) (hy : y < 256) : bits .or .i64 ((x : Int) * 256) (y : Int) = 256 * (x : Int) + y := by
 have h : ((x : Int) * 256) = ((x * 256 : Nat) : Int) := by omega
 rw [h, i64_or_nat _ _ (by omega) (by omega), shift_or x y hy]
 omega

theorem implNumberAtD (s : ByteArray) (i : Nat) (a : Int) (w : World) (ha : a = i) (hs : s.size ≤ 1048576) (hi : i + 1 < s.size) :
  Calls Tryz.prog 108 #[.string s, .int .i64 a] w fun e w' => e = .returned (.int .i64 (256 * ((bAt s i).toNat : Int) + ((bAt s (i + 1)).toNat : Int))) ∧ w.drew = w' := by
 subst ha
 have hi0 : i < s.size := by omega
 obtain ⟨j, hj⟩ : ∃ j, i + 1 = j := ⟨_, rfl⟩
 rw [hj]
 have hj0 : j < s.size := by omega
 rw [bAt_lt hi0, bAt_lt hj0]
 obtain ⟨x, hx⟩ : ∃ x, s[i].toNat = x := ⟨_, rfl⟩
 obtain ⟨y, hy⟩ : ∃ y, s[j].toNat = y := ⟨_, rfl⟩
 have hx1 : x < 256 := by rw [← hx]; exact UInt8.toNat_lt _
 have hy1 : y < 256 := by rw [← hy]; exact UInt8.toNat_lt _
 have hor := or_i64 x y hx1 hy1
 have e1 : IntKind.i64.wrap (↑i + 1) = (j : Int) := by rw [IntWalk.i64_in _ (by omega)]; omega
 have ex : IntKind.i64.wrap (x : Int) = x := IntWalk.i64_in _ (by omega)
 have ey : IntKind.i64.wrap (y : Int) = y := IntWalk.i64_in _ (by omega)
 have ez : IntKind.i64.wrap ((x : Int) * 256) = (x : Int) * 256 := IntWalk.i64_in _ (by omega)
 clear hj
 go_enter Tryz.func108, Tryz.ntmps108
 go_wp2
 go_region
 clear e1 ex ey ez
 go_wp2
 go_ret
 exact ⟨by rw [hx, hy]; rfl, rfl⟩

theorem specL5PairD (s : ByteArray) (w : World) (hs : s.size ≤ 1048576) (hi : 1 < s.size) :
  Calls Tryz.prog 127 #[.string s] w fun e w' => e = .returned (.int .i64 (256 * ((bAt s 0).toNat : Int) + ((bAt s 1).toNat : Int))) ∧ w.drew = w' := by
 have hi0 : 0 < s.size := by omega
 rw [bAt_lt hi0, bAt_lt hi]
 obtain ⟨x, hx⟩ : ∃ x, s[0].toNat = x := ⟨_, rfl⟩
 obtain ⟨y, hy⟩ : ∃ y, s[1].toNat = y := ⟨_, rfl⟩
 have hx1 : x < 256 := by rw [← hx]; exact UInt8.toNat_lt _
 have hy1 : y < 256 := by rw [← hy]; exact UInt8.toNat_lt _
 have ex : IntKind.i64.wrap (x : Int) = x := IntWalk.i64_in _ (by omega)
 have ey : IntKind.i64.wrap (y : Int) = y := IntWalk.i64_in _ (by omega)
 have ez : IntKind.i64.wrap (256 * (x : Int)) = 256 * (x : Int) := IntWalk.i64_in _ (by omega)
 have es : IntKind.i64.wrap (256 * (x : Int) + (y : Int)) = 256 * (x : Int) + (y : Int) := IntWalk.i64_in _ (by omega)
 go_enter Tryz.func127, Tryz.ntmps127
 go_wp2
 go_region
 clear ex ey ez es
 go_wp2
 go_ret
 exact ⟨by rw [hx, hy]; rfl, rfl⟩

theorem only_then {a b c : World} {row row' : Option Nat} (h : a.grownBy b row) (k : b.grownBy c row') (hr : ∀ j, row' = some j → a.heap.size ≤ j ∨ row = some j) : a.grownBy c row :=
 ⟨k.os.trans h.os, k.tape.trans h.tape, k.output.trans h.output, Nat.le_trans h.size k.size, fun i hi hne => (k.block i (Nat.lt_of_lt_of_le hi h.size) (fun e => by
  rcases hr i e.symm with h1 | h1
  ·omega
  ·exact hne h1.symm)).trans (h.block i hi hne)⟩

theorem byteV_cell (x : Nat) (hx : x < 256) : Value.int .u8 (x : Int) = byteV (UInt8.ofNat x) := by
 unfold byteV; rw [UInt8.toNat_ofNat']; congr 2; omega

theorem two_pow_wrap (n : Nat) (hn : n ≤ 16) : wrap64 ((2 : Int) ^ n) = ((2 ^ n : Nat) : Int) := by
 have h : ∀ k : Fin 17, wrap64 ((2 : Int) ^ k.val) = ((2 ^ k.val : Nat) : Int) := by decide +kernel
 exact h ⟨n, by omega⟩

theorem specL1Two (n : Nat) (w : World) (hn : n ≤ 16) :
  Calls Tryz.prog 140 #[.int .i64 (n : Int)] w fun e w' => e = .returned (.int .i64 ((2 ^ n : Nat) : Int)) ∧ w = w' := by
 go_enter Tryz.func140, Tryz.ntmps140
 have e := two_pow_wrap n hn
 go_wp2_with fail
 go_ret
 exact ⟨by rw [← e]; rfl, rfl⟩

def setV (o l m : Nat) : Value := .agg #[.int .i64 (o : Int), .int .i64 (l : Int), .int .i64 (m : Int)]

set_option maxHeartbeats 1000000 in
theorem specL1Clear (o l m : Nat) (w : World) (hl : l ≤ 16) :
  Calls Tryz.prog 117 #[setV o l m] w fun e w' => e = .returned (.int .i64 ((2 ^ l : Nat) : Int)) ∧ Below w.heap.size w w' := by
 unfold setV
 go_enter Tryz.func117, Tryz.ntmps117
 go_wp2_with fail
 refine (specL1Two l _ hl).mono ?_
 rintro e w1 ⟨rfl, rfl⟩
 go_wp2_with fail
 go_ret
 exact ⟨rfl, (Below.refl _ _).alloc (Nat.le_refl _) _⟩

theorem new_cell (w : World) (H : Nat) (hH : w.heap.size = H) (e : TypeId) (cs : List Value) (j : Nat) (u : Value) (hu : cs[j]? = some u) : (w.alloc (.cells cs.toArray e)).cell? ⟨H, j, none⟩ = some u := by
 subst hH
 have h := Row.newAt w _ rfl e cs cs.length 1 (by omega)
 have hlt : j < cs.length := (List.getElem?_eq_some_iff.1 hu).1
 obtain ⟨b, off, e1, _, hc⟩ := h.2 (by omega)
 injection e1 with e1
 injection e1 with e1 e2
 subst e1 e2
 have := hc j u hu
 rwa [Nat.zero_add] at this

theorem u8_in (x : Nat) (hx : x < 256) : IntKind.u8.wrap (x : Int) = x := by simp [IntKind.wrap, IntKind.signed, IntKind.bits]; omega

end Go.Proofs.YthlgpgaeajfchaaGreat

