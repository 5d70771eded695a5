/-
 ParseHex of the program and of the reference.
-/
import Derived.Test.YthlgpgaeajfchaaGreatDoorMem
import Derived.Test.YthlgpgaeajfchaaGreatDoorBase
import Derived.Test.YthlgpgaeajfchaaGreatDoorInts
import Derived.Test.YthlgpgaeajfchaaGreatDoorShelf
import Derived.Lib.ItoaNum
import Derived.Deep.RegionHeld3
import Derived.Handy
import Derived.Lib.AppendIntMem
import Derived.Lib.LaidTab
import Derived.Lib.AtoiAll
import Derived.Lib.AtoiErrMem
import Derived.Deep.DeepCutAuto
import Derived.Lib.SplitLaws
import Derived.Lib.IndexLaws
import Derived.Lib.IndexBytes
import Derived.Lib.Bytealg

namespace Go.Proofs.YthlgpgaeajfchaaGreatDoor
open Go.RowKit
set_option linter.unusedVariables false

def decB (n : Nat) : ByteArray := ⟨(Lib.decDigits n).toArray⟩

theorem decDigits_length (n : Nat) : (Lib.decDigits n).length ≤ n + 1 := by
 induction n using Nat.strongRecOn with
 | ind n ih =>
  rw [Lib.decDigits]
  split
  ·simp
  ·have := ih (n / 10) (by omega)
   simp only [List.length_append, List.length_cons, List.length_nil]
   omega

theorem decB_size (n : Nat) : (decB n).size ≤ n + 1 := by
 have := decDigits_length n
 show (Lib.decDigits n).toArray.size ≤ _
 simpa using this

def hexD (n : Nat) : UInt8 := if n < 10 then UInt8.ofNat (48 + n) else UInt8.ofNat (87 + n)

def hexB (l : List UInt8) : List UInt8 := l.flatMap fun x => [hexD (x.toNat / 16), hexD (x.toNat % 16)]

theorem hexB_snoc (l : List UInt8) (x : UInt8) : hexB (l ++ [x]) = hexB l ++ [hexD (x.toNat / 16), hexD (x.toNat % 16)] := by simp [hexB, List.flatMap_append]

theorem hexB_length (l : List UInt8) : (hexB l).length = 2 * l.length := by
 induction l with
 | nil => rfl
 | cons x xs ih =>
  have h : hexB (x :: xs) = [hexD (x.toNat / 16), hexD (x.toNat % 16)] ++ hexB xs := by simp [hexB]
  rw [h, List.length_append, ih]; simp; omega

def hexOf (s : ByteArray) : ByteArray := if s.size ≤ 4000 then ⟨(hexB s.data.toList).toArray⟩ else ByteArray.empty

theorem take_byte' (s : ByteArray) (k : Nat) (h : k < s.size) : s.data.toList.take (k + 1) = s.data.toList.take k ++ [s[k]] := by
 rw [List.take_succ_eq_append_getElem (by simpa using h)]; rfl

theorem hexC (p : Nat) (h : p < (⟨#[48, 49, 50, 51, 52, 53, 54, 55, 56, 57, 97, 98, 99, 100, 101, 102]⟩ : ByteArray).size) : (⟨#[48, 49, 50, 51, 52, 53, 54, 55, 56, 57, 97, 98, 99, 100, 101, 102]⟩ : ByteArray)[p] = hexD p := by
 have h2 : ∀ p : Fin 16, (⟨#[48, 49, 50, 51, 52, 53, 54, 55, 56, 57, 97, 98, 99, 100, 101, 102]⟩ : ByteArray)[p.val]'(p.isLt) = hexD p.val := by decide +kernel
 exact h2 ⟨p, h⟩

theorem u8_and15 (x : Nat) (hx : x < 256) : bits .and .u8 (x : Int) 15 = ((x % 16 : Nat) : Int) := by
 have h : ∀ y : Fin 256, bits .and .u8 ((y.val : Nat) : Int) 15 = ((y.val % 16 : Nat) : Int) := by decide +kernel
 exact h ⟨x, hx⟩

set_option maxHeartbeats 1000000 in
theorem implFormatHex (s : ByteArray) (w : World) (hs : s.size ≤ 1048576) :
  Calls Tryz.prog 8 #[.string s] w fun e w' => e = .returned (.string (hexOf s)) ∧ Below w.heap.size w w' := by
 by_cases h4 : s.size ≤ 4000
 ·have hR : hexOf s = ⟨(hexB s.data.toList).toArray⟩ := if_pos h4
  have hbl : (hexB s.data.toList).length = 2 * s.size := by rw [hexB_length]; simp
  obtain ⟨bs, hbs⟩ : ∃ bs, hexB s.data.toList = bs := ⟨_, rfl⟩
  rw [hbs] at hR hbl
  rw [hR]
  have HBL := Lib.hid hbl
  have HBS := Lib.hid hbs
  clear hR hbl hbs
  obtain ⟨i0, hi0, hz0, hz1, hz2⟩ := info_parts infoByte
  obtain ⟨c2, hc2⟩ : ∃ c2, 2 * s.size = c2 := ⟨_, rfl⟩
  have hmk := fun W => run_make_rowN (P := Tryz.prog) 22 5 i0 _ Tryz.underlying22 hi0 hz0 .i64 .i64 0 c2 (Nat.zero_le _) (by rw [hz2]; omega) (by omega) W
  obtain ⟨cs, hcs⟩ : ∃ cs, madeCells (Value.int .u8 0).cells (c2 * i0.size) = cs := ⟨_, rfl⟩
  have hcsz : cs.size = c2 * 1 := by rw [← hcs, hz1]; simp [madeCells]
  rw [hcs, Int.natCast_zero] at hmk
  have ec2 : 2 * (s.size : Int) = c2 := by omega
  have hc2m : c2 ≤ 8000 := by omega
  have HO := Lib.hid (own_made w cs c2 w.heap.size 1 5 (Nat.le_refl _) (by unfold maxLen; omega) hcsz)
  have HC2 := Lib.hid hc2
  clear hcs hcsz hi0 hz0 hz1 hz2 hc2
  go_enter Tryz.func8, Tryz.ntmps8
  go_wp2_with fail
  clear ec2 hmk
  go_loopw [3, 14] (fun v i wr => ∃ k : Nat, k ≤ s.size ∧ i = .int .i64 k ∧ wr.ownsRow w.heap.size 5 1 v (2 * k) ((hexB (s.data.toList.take k)).map byteV) ∧ Below w.heap.size w wr) (fun _ i _ => s.size - (intOf i).toNat)
  case atStart => exact ⟨0, Nat.zero_le _, rfl, HO.out, (Below.refl _ _).alloc (Nat.le_refl _) _⟩
  case round =>
   obtain ⟨k, hk, rfl, hown, hbel⟩ := hrel
   have hwz := hbel.size
   obtain ⟨Av, cv, rfl, _, _⟩ := own_form hown
   by_cases hlt : k < s.size
   ·have ht := take_byte' s k hlt
    obtain ⟨x, hx⟩ : ∃ x, s[k].toNat = x := ⟨_, rfl⟩
    have hx2 : x < 256 := by rw [← hx]; exact UInt8.toNat_lt _
    have hy := hexB_snoc (s.data.toList.take k) s[k]
    rw [← ht, hx] at hy
    have HY := Lib.hid hy
    have i1 : (0 : Int) ≤ k := by omega
    have i2 : (k : Int) < s.size := by omega
    obtain ⟨p, hp⟩ : ∃ p, x / 16 = p := ⟨_, rfl⟩
    obtain ⟨q, hq⟩ : ∃ q, x % 16 = q := ⟨_, rfl⟩
    have hand : bits .and .u8 (x : Int) 15 = (q : Int) := by rw [u8_and15 x hx2, hq]
    have hdiv : (x : Int) / 16 = p := by omega
    have hp2 : p < 16 := by omega
    have hq2 : q < 16 := by omega
    have i3 : (0 : Int) ≤ p := by omega
    have i4 : (p : Int) < 16 := by omega
    have i5 : (0 : Int) ≤ q := by omega
    have i6 : (q : Int) < 16 := by omega
    have HP := Lib.hid (And.intro hp hq)
    clear hy ht hp hq
    go_wp2_with fail
    go_region_held3 (fun _ => True) (trivial)
     (first | (refine step_append_row _ elemByte (by rfl) (.tmp 17) (.tmp 28) (by rfl) w.heap.size _ _ _ (by rfl) (World.ownsRow.drew (hown.alloc _)) _ _ 2 2 [_, _] (by rfl) (Row.drew (Row.newAt wr wr.heap.size rfl _ [_, _] 2 1 rfl)) (by intro u hu; simp at hu; rcases hu with rfl | rfl <;> rfl) (by unfold maxLen; omega) (by omega) (by simp; omega) ?_; intro v2 w2 hv2 hg2 _))
    all_goals
     rw [hexC, hexC] at hv2
     have hbel2 : Below w.heap.size w w2 := (hbel.alloc hwz _).drew.grown hg2 (by simp; omega) (fun g hg => (hown.lt g hg).1)
     have HV := Lib.hid hv2
     clear hand hdiv hg2 hv2 hown hbel
     go_wp2_with fail
     go_roundw
     case rel => exact ⟨k + 1, by omega, by go_num, by rw [HY.out, HP.out.1, HP.out.2, List.map_append, show 2 * (k + 1) = 2 * k + 2 from by omega]; exact HV.out, hbel2⟩
     case measure => simp [intOf]; omega
   ·obtain rfl : k = s.size := by omega
    have ht : s.data.toList.take s.size = s.data.toList := List.take_of_length_le (by simp)
    rw [ht, HBS.out] at hown
    have hcv := run_convert_own elemByte Tryz.underlying5 Tryz.underlying9 bs (by rw [HBL.out]; exact hown) HBL.out
    clear ht
    go_wp2_with fail
    go_ret
    exact ⟨rfl, hbel⟩
 ·have hR : hexOf s = ByteArray.empty := if_neg h4
  rw [hR]
  clear hR
  go_enter Tryz.func8, Tryz.ntmps8
  go_wp2_with fail
  go_ret
  exact ⟨rfl, Below.refl _ _⟩

def dashB (s : ByteArray) : ByteArray := if s.toList = [] then ⟨#[45]⟩ else s

theorem implOrDash (s : ByteArray) (w : World) :
  Calls Tryz.prog 33 #[.string s] w fun e w' => e = .returned (.string (dashB s)) ∧ w = w' := by
 by_cases h : s.toList = []
 ·have hR : dashB s = ⟨#[45]⟩ := if_pos h
  have h2 : s.toList.isEmpty = true := by rw [h]; rfl
  rw [hR]
  clear hR
  go_enter Tryz.func33, Tryz.ntmps33
  go_wp2_with fail
  go_ret
  exact ⟨rfl, rfl⟩
 ·have hR : dashB s = s := if_neg h
  have h2 : s.toList.isEmpty = false := by cases hd3 : s.toList with
   | nil => exact absurd hd3 h
   | cons a b => rfl
  rw [hR]
  clear hR
  go_enter Tryz.func33, Tryz.ntmps33
  go_wp2_with fail
  go_ret
  exact ⟨rfl, rfl⟩

def pfits (n : Nat) (f t : Int) (d : Nat) : Prop := n ≤ 2000 ∧ 0 ≤ f ∧ f ≤ t ∧ t ≤ n ∧ d ≤ 2000 ∧ n - (t - f) + d ≤ 2000

instance (n : Nat) (f t : Int) (d : Nat) : Decidable (pfits n f t d) := by unfold pfits; infer_instance

structure PB where
 f : Int
 t : Int
 d : ByteArray
 ok : Bool

def inv (s : ByteArray) (f t : Int) (d : ByteArray) : PB :=
 if pfits s.size f t d.size then ⟨f, f + d.size, s.extract f.toNat t.toNat, true⟩ else ⟨0, 0, ByteArray.empty, false⟩

def PB.val (p : PB) : Value := .tuple #[.agg #[.int .i64 p.f, .int .i64 p.t, .string p.d], .bool p.ok]

def TabW (w : World) : Prop := Lib.TabIs Tryz.prog w "internal/strconv.uint64pow10" .u64 Lib.pow10Tab

theorem TabW.below {w w' : World} {C : Nat} (h : TabW w) (hb : Below C w w') (hC : w.heap.size ≤ C) : TabW w' := by
 unfold TabW Lib.TabIs World.var? at h ⊢
 rcases hg : Tryz.prog.globalNamed "internal/strconv.uint64pow10" with _ | g
 ·rw [hg] at h; simp at h
 ·rw [hg] at h
  simp only [Option.bind_some] at h ⊢
  have hlt : g < w.heap.size := by
   rcases Nat.lt_or_ge g w.heap.size with h' | h'
   ·exact h'
   ·rw [Array.getElem?_eq_none h'] at h; cases h
  rw [hb.block g (by omega)]
  exact h

theorem implItoa (n : Nat) (w : World) (hn : n ≤ 1048576) (hT : TabW w) :
  Calls Tryz.prog 32 #[.int .i64 (n : Int)] w fun e w' => e = .returned (.string (decB n)) ∧ Below w.heap.size w w' := by
 refine (Tryz.strconv_Itoa (n : Int) (by omega) (by omega) w hT).mono ?_
 rintro e w' ⟨rfl, k, os, rfl⟩
 refine ⟨?_, Lib.below_grow _ _ (Nat.le_refl _) _ _⟩
 unfold Lib.itoa decB
 rw [if_neg (by omega), Int.toNat_natCast]

def valL (l : List UInt8) : Nat := l.foldl (fun a c => a * 10 + (c.toNat - 48)) 0

theorem valL_snoc (l : List UInt8) (c : UInt8) : valL (l ++ [c]) = valL l * 10 + (c.toNat - 48) := by
 unfold valL; rw [List.foldl_append]; rfl

theorem dd_eq (n : Nat) : Lib.decDigits n = if n < 10 then [UInt8.ofNat (48 + n)] else Lib.decDigits (n / 10) ++ [UInt8.ofNat (48 + n % 10)] := by
 conv => lhs; rw [Lib.decDigits]
 split <;> rfl

theorem u8_48 (d : Nat) (h : d < 10) : (UInt8.ofNat (48 + d)).toNat = 48 + d := by rw [UInt8.toNat_ofNat']; omega

theorem dd_digit (n : Nat) : ∀ c ∈ Lib.decDigits n, 48 ≤ c.toNat ∧ c.toNat ≤ 57 := by
 induction n using Nat.strongRecOn with
 | ind n ih =>
  intro c hc
  rw [dd_eq] at hc
  split at hc
  ·rename_i h
   rw [List.mem_singleton.1 hc, u8_48 _ h]; omega
  ·rcases List.mem_append.1 hc with hc | hc
   ·exact ih (n / 10) (by omega) c hc
   ·rw [List.mem_singleton.1 hc, u8_48 _ (by omega)]; omega

theorem dd_val (n : Nat) : valL (Lib.decDigits n) = n := by
 induction n using Nat.strongRecOn with
 | ind n ih =>
  rw [dd_eq]
  split
  ·rename_i h
   show valL ([] ++ [_]) = n
   rw [valL_snoc, u8_48 _ h]
   show 0 * 10 + _ = _
   omega
  ·rw [valL_snoc, ih (n / 10) (by omega), u8_48 _ (by omega)]; omega

theorem dd_head (n : Nat) (hn : 1 ≤ n) : ∃ c r, Lib.decDigits n = c :: r ∧ c.toNat ≠ 48 := by
 induction n using Nat.strongRecOn with
 | ind n ih =>
  rw [dd_eq]
  split
  ·rename_i h
   exact ⟨_, [], rfl, by rw [u8_48 _ h]; omega⟩
  ·obtain ⟨c, r, e, h⟩ := ih (n / 10) (by omega) (by omega)
   exact ⟨c, r ++ [_], by rw [e]; rfl, h⟩

theorem parse_fold : ∀ (l : List UInt8) (acc : Nat), (∀ c ∈ l, 48 ≤ c.toNat ∧ c.toNat ≤ 57) → l.foldl (fun a c => a * 10 + (c.toNat - 48)) acc ≤ 100000000000000000 → acc ≤ 100000000000000000 →
  Lib.parseUint10 acc l = .ok (l.foldl (fun a c => a * 10 + (c.toNat - 48)) acc)
 | [], acc, _, _, _ => rfl
 | c :: r, acc, hd, hf, ha => by
  have h1 := hd c (by simp)
  have hmono : ∀ (l : List UInt8) (a : Nat), a ≤ l.foldl (fun a c => a * 10 + (c.toNat - 48)) a := by
   intro l
   induction l with
   | nil => intro a; exact Nat.le_refl _
   | cons x xs ih => intro a; rw [List.foldl_cons]; exact Nat.le_trans (by omega) (ih _)
  rw [List.foldl_cons] at hf ⊢
  have h2 := Nat.le_trans (hmono r (acc * 10 + (c.toNat - 48))) hf
  rw [Lib.parseUint10, if_pos h1, if_neg (by omega), if_neg (by omega)]
  exact parse_fold r _ (fun c hc => hd c (List.mem_cons_of_mem _ hc)) hf h2

theorem atoi_dec (F : Nat) (hF : F ≤ 4000) : Lib.atoiAll (Lib.decDigits F) = .ok (F : Int) := by
 have hd := dd_digit F
 have hv := dd_val F
 obtain ⟨c, r, e⟩ : ∃ c r, Lib.decDigits F = c :: r := by
  rcases Nat.eq_zero_or_pos F with h | h
  ·subst h; exact ⟨_, _, by rw [dd_eq]; rfl⟩
  ·obtain ⟨c, r, e, _⟩ := dd_head F h; exact ⟨c, r, e⟩
 rw [e] at hd hv ⊢
 have h1 := hd c (by simp)
 have hp : Lib.parseMag (c :: r) = .ok F := by
  unfold Lib.parseMag
  rw [if_neg (by simp)]
  rw [parse_fold (c :: r) 0 hd (by unfold valL at hv; rw [hv]; omega) (by omega)]
  unfold valL at hv; rw [hv]
 unfold Lib.atoiAll
 simp only
 rw [if_neg (by omega), hp]
 simp only
 rw [if_neg (by omega)]
 have h2 : ¬ c.toNat = 45 := by omega
 simp [h2]

def Fits (n k : Nat) : Prop := n < 10 ^ k ∧ k ≤ 17

theorem Fits.le {n k : Nat} (h : Fits n k) : n ≤ 100000000000000000 := by
 have h1 : 10 ^ k ≤ 10 ^ 17 := Nat.pow_le_pow_right (by omega) h.2
 have := h.1
 omega

theorem Fits.next {n k d : Nat} (h : Fits n k) (hd : d ≤ 9) (hk : k < 17) : Fits (n * 10 + d) (k + 1) := by
 refine ⟨?_, by omega⟩
 have := h.1
 rw [Nat.pow_succ]
 omega

structure LaidW (w : World) : Prop where
 tab : TabW w
 syn : ∃ tp p, w.var? Tryz.prog "strconv.ErrSyntax" = some #[.iface tp p]
 rng : ∃ tp p, w.var? Tryz.prog "strconv.ErrRange" = some #[.iface tp p]
 max : ∃ m, w.cell? ⟨0, 0, none⟩ = some (.int .i64 m)

theorem var_below {P : Program} {w w' : World} {C : Nat} {name : String} {cs : Array Value} (h : w.var? P name = some cs) (hb : Below C w w') (hC : w.heap.size ≤ C) : w'.var? P name = some cs := by
 unfold World.var? at h ⊢
 rcases hg : P.globalNamed name with _ | g
 ·rw [hg] at h; simp at h
 ·rw [hg] at h
  simp only [Option.bind_some] at h ⊢
  have hlt : g < w.heap.size := by
   rcases Nat.lt_or_ge g w.heap.size with h' | h'
   ·exact h'
   ·rw [Array.getElem?_eq_none h'] at h; cases h
  rw [hb.block g (by omega)]
  exact h

theorem LaidW.below {w w' : World} {C : Nat} (h : LaidW w) (hb : Below C w w') (hC : w.heap.size ≤ C) : LaidW w' := by
 obtain ⟨h1, ⟨t2, p2, h2⟩, ⟨t3, p3, h3⟩, ⟨m, h4⟩⟩ := h
 refine ⟨h1.below hb hC, ⟨t2, p2, var_below h2 hb hC⟩, ⟨t3, p3, var_below h3 hb hC⟩, ⟨m, ?_⟩⟩
 have hlt : 0 < w.heap.size := by
  rcases Nat.lt_or_ge 0 w.heap.size with h' | h'
  ·exact h'
  ·simp [World.cell?, Array.getElem?_eq_none h'] at h4
 exact (World.cell?_of_block (hb.block 0 (by omega))).trans h4

def PnRes (s : ByteArray) (w : World) (e : Ending) (w' : World) : Prop :=
 ∃ (v : Int) (b : Bool), e = .returned (.tuple #[.int .i64 v, .bool b]) ∧ (b = true → 0 ≤ v → s = decB v.toNat) ∧ (∀ F : Nat, F ≤ 4000 → s = decB F → b = true ∧ v = F) ∧ Below w.heap.size w w'

set_option maxHeartbeats 2000000 in
theorem implParseNumber (s : ByteArray) (w : World) (hs : s.size ≤ 1048576) (hL : LaidW w) :
  Calls Tryz.prog 30 #[.string s] w (PnRes s w) := by
 have hno : ∀ r, Lib.atoiAll s.data.toList = r → (∀ F : Nat, r ≠ .ok (F : Int)) → ∀ F : Nat, F ≤ 4000 → s ≠ decB F := fun r h1 h2 F hF e => by
  subst e
  exact h2 F (h1.symm.trans (atoi_dec F hF))
 cases h : Lib.atoiAll s.data.toList with
 | ok v =>
  have hb := Lib.atoiAll_bounds h
  have HI := Lib.hid (fun W hT => Tryz.strconv_Itoa v (by omega) (by omega) W hT)
  have HA := Lib.hid (fun W => Tryz.strconv_Atoi_ok s (by omega) v h W)
  have H1 := Lib.hid (show ∀ F : Nat, F ≤ 4000 → s = decB F → v = F from fun F hF e => by
   subst e
   have := h.symm.trans (atoi_dec F hF)
   injection this)
  have HD := Lib.hid (show ∀ F : Nat, v = F → (⟨(Lib.itoa v).toArray⟩ : ByteArray) = decB F from fun F e => by subst e; unfold Lib.itoa decB; rw [if_neg (by omega), Int.toNat_natCast])
  obtain ⟨X, hX⟩ : ∃ X, (⟨(Lib.itoa v).toArray⟩ : ByteArray) = X := ⟨_, rfl⟩
  rw [hX] at HI HD
  have H2 := Lib.hid (show 0 ≤ v → X = decB v.toNat from fun h0 => by rw [← hX]; unfold Lib.itoa decB; rw [if_neg (by omega)])
  clear hb h hno hX
  by_cases he : s = X
  ·subst he
   go_enter Tryz.func30, Tryz.ntmps30
   go_wp2_with (go_at_call 55; refine (HA.out _).mono ?_; rintro e w1 ⟨rfl, hw⟩)
   have hb1 : Below w.heap.size w w1 := by
    rcases hw with rfl | ⟨t, rfl⟩
    ·exact Below.refl _ _
    ·exact Lib.bytesWorld_below _ _ _
   have hT := (hL.below hb1 (Nat.le_refl _)).tab
   have hz1 := hb1.size
   clear hw
   go_wp2_with (go_at_call 32; refine (HI.out _ hT).mono ?_; rintro e w2 ⟨rfl, k, os, rfl⟩)
   go_returns
   exact ⟨v, true, rfl, fun _ h0 => H2.out h0, fun F hF e => ⟨rfl, H1.out F hF e⟩, hb1.trans ((Lib.below_grow _ _ (Nat.le_refl _) _ _).mono hz1)⟩
  ·have hne : (X.toList == s.toList) = false := by
    rw [beq_eq_false_iff_ne]
    intro e
    rw [ByteArray.toList_eq, ByteArray.toList_eq] at e
    exact he (ByteArray.ext (Array.toList_inj.1 e)).symm
   have HE := Lib.hid he
   clear he
   go_enter Tryz.func30, Tryz.ntmps30
   go_wp2_with (go_at_call 55; refine (HA.out _).mono ?_; rintro e w1 ⟨rfl, hw⟩)
   have hb1 : Below w.heap.size w w1 := by
    rcases hw with rfl | ⟨t, rfl⟩
    ·exact Below.refl _ _
    ·exact Lib.bytesWorld_below _ _ _
   have hT := (hL.below hb1 (Nat.le_refl _)).tab
   have hz1 := hb1.size
   clear hw
   go_wp2_with (go_at_call 32; refine (HI.out _ hT).mono ?_; rintro e w2 ⟨rfl, k, os, rfl⟩)
   go_returns
   refine ⟨0, false, rfl, ?_, fun F hF e => absurd (e.trans (HD.out F (H1.out F hF e)).symm) HE.out, hb1.trans ((Lib.below_grow _ _ (Nat.le_refl _) _ _).mono hz1)⟩
   intro h2
   cases h2
 | «syntax» =>
  obtain ⟨tp, p, hv⟩ := hL.syn
  have HN := Lib.hid (hno _ h (by intro F e; cases e))
  go_enter Tryz.func30, Tryz.ntmps30
  go_wp2_with (go_at_call 55; refine (Tryz.strconv_Atoi_syntax_var s (by omega) h tp p _ hv).mono ?_; rintro e w1 ⟨N, rfl, -, -, hb⟩)
  go_wp2_with fail
  go_returns
  refine ⟨0, false, rfl, ?_, fun F hF e => absurd e (HN.out F hF), hb⟩
  intro h2
  cases h2
 | range =>
  obtain ⟨tp, p, hv⟩ := hL.rng
  have HN := Lib.hid (hno _ h (by intro F e; cases e))
  go_enter Tryz.func30, Tryz.ntmps30
  go_wp2_with (go_at_call 55; refine (Tryz.strconv_Atoi_range_var s (by omega) h tp p _ hv).mono ?_; rintro e w1 ⟨N, rfl, -, -, hb⟩)
  go_wp2_with fail
  go_returns
  refine ⟨0, false, rfl, ?_, fun F hF e => absurd e (HN.out F hF), hb⟩
  intro h2
  cases h2

def cutL : List UInt8 → List (List UInt8)
 | [] => [[]]
 | c :: r => if c = 32 then [] :: cutL r else match cutL r with
  | [] => [[c]]
  | p :: ps => (c :: p) :: ps

theorem cutL_none : ∀ (a : List UInt8), (32 : UInt8) ∉ a → cutL a = [a]
 | [], _ => rfl
 | c :: r, h => by
  have h1 : c ≠ 32 := fun e => h (by simp [e])
  have h2 := cutL_none r (fun e => h (List.mem_cons_of_mem _ e))
  unfold cutL
  rw [if_neg h1, h2]

theorem cutL_at : ∀ (a b : List UInt8), (32 : UInt8) ∉ a → cutL (a ++ 32 :: b) = a :: cutL b
 | [], b, _ => by simp [cutL]
 | c :: r, b, h => by
  have h1 : c ≠ 32 := fun e => h (by simp [e])
  have h2 := cutL_at r b (fun e => h (List.mem_cons_of_mem _ e))
  rw [List.cons_append, cutL, if_neg h1, h2]

def cutB (s : ByteArray) : List ByteArray := (cutL s.data.toList).map fun l => ⟨l.toArray⟩

theorem indexByte_at : ∀ (a b : List UInt8), (32 : UInt8) ∉ a → Lib.indexByte (a ++ 32 :: b) 32 = (a.length : Int)
 | [], b, _ => by simp [Lib.indexByte]
 | c :: r, b, h => by
  have h1 : (c == (32 : UInt8)) = false := by rw [beq_eq_false_iff_ne]; exact fun e => h (by simp [e])
  have h2 := indexByte_at r b (fun e => h (List.mem_cons_of_mem _ e))
  rw [List.cons_append, Lib.indexByte, h1, h2]
  have h3 : ((r.length : Int) == -1) = false := by rw [beq_eq_false_iff_ne]; omega
  simp [h3]

theorem splitK_cut : ∀ (n : Nat) (l : List UInt8), l.length ≤ n → Lib.splitK [32] 0 (l.count 32) l = cutL l := by
 intro n
 induction n with
 | zero =>
  intro l hl
  have : l = [] := List.eq_nil_of_length_eq_zero (by omega)
  subst this
  rfl
 | succ n ih =>
  intro l hl
  by_cases hm : (32 : UInt8) ∈ l
  ·obtain ⟨a, b, rfl, ha⟩ := List.eq_append_cons_of_mem hm
   have hc : (a ++ 32 :: b).count 32 = b.count 32 + 1 := by
    rw [List.count_append, List.count_cons_self, List.count_eq_zero_of_not_mem ha]; omega
   have hi : Lib.index (a ++ 32 :: b) [32] = (a.length : Int) := by rw [Lib.index_one, indexByte_at a b ha]
   have h3 : ((a.length : Int) == -1) = false := by rw [beq_eq_false_iff_ne]; omega
   rw [hc, Lib.splitK, hi, h3, cutL_at a b ha]
   simp only [Bool.false_eq_true, if_false, Int.toNat_natCast, Nat.add_zero, List.length_cons, List.length_nil, Nat.zero_add]
   rw [List.take_append_of_le_length (Nat.le_refl _), List.take_length, show a ++ (32 : UInt8) :: b = a ++ [32] ++ b by simp, List.drop_append_of_le_length (by simp), List.drop_of_length_le (by simp), List.nil_append]
   rw [ih b (by simp at hl; omega)]
  ·rw [List.count_eq_zero_of_not_mem hm, cutL_none l hm]
   rfl

theorem splitB_cut (s : ByteArray) : Lib.splitB ⟨#[32]⟩ 0 (Lib.countB s ⟨#[32]⟩) s = cutB s := by
 have h1 := Lib.splitB_data ⟨#[32]⟩ 0 (Lib.countB s ⟨#[32]⟩) s
 have h2 : Lib.countB s ⟨#[32]⟩ = s.data.toList.count 32 := Lib.count_one 32 s.data.toList
 have h3 := splitK_cut s.data.toList.length s.data.toList (Nat.le_refl _)
 rw [h2] at h1 ⊢
 have h4 : (Lib.splitB ⟨#[32]⟩ 0 (s.data.toList.count 32) s).map (·.data.toList) = cutL s.data.toList := h1.trans h3
 unfold cutB
 rw [← h4, List.map_map]
 conv => lhs; rw [← List.map_id (Lib.splitB ⟨#[32]⟩ 0 (s.data.toList.count 32) s)]
 apply List.map_congr_left
 intro x _
 rfl

theorem cutB_length (s : ByteArray) : (cutB s).length = Lib.countB s ⟨#[32]⟩ + 1 := by
 rw [← splitB_cut, Lib.splitB_all _ (by show 1 ≤ 1; omega) 0 _ _ rfl]

def hexV (c : UInt8) : Option Nat := if 48 ≤ c.toNat ∧ c.toNat ≤ 57 then some (c.toNat - 48) else if 97 ≤ c.toNat ∧ c.toNat ≤ 102 then some (c.toNat - 87) else none

def unhexL : List UInt8 → Option (List UInt8)
 | [] => some []
 | [_] => none
 | a :: b :: r => match hexV a, hexV b, unhexL r with
  | some x, some y, some l => some (UInt8.ofNat (16 * x + y) :: l)
  | _, _, _ => none

theorem hexV_D (x : Nat) (h : x < 16) : hexV (hexD x) = some x := by
 have h2 : ∀ p : Fin 16, hexV (hexD p.val) = some p.val := by decide +kernel
 exact h2 ⟨x, h⟩

theorem hexV_some (c : UInt8) (x : Nat) (h : hexV c = some x) : x < 16 ∧ hexD x = c := by
 have h2 : ∀ p : Fin 256, ∀ y, hexV (UInt8.ofNat p.val) = some y → y < 16 ∧ hexD y = UInt8.ofNat p.val := by
  intro p
  have h3 : ∀ p : Fin 256, (match hexV (UInt8.ofNat p.val) with | some y => decide (y < 16 ∧ hexD y = UInt8.ofNat p.val) | none => true) = true := by decide +kernel
  intro y hy
  have := h3 p
  rw [hy] at this
  exact of_decide_eq_true this
 have e : UInt8.ofNat c.toNat = c := by simp
 have := h2 ⟨c.toNat, c.toNat_lt⟩ x (by simpa [e] using h)
 simpa [e] using this

theorem unhex_hex : ∀ l : List UInt8, unhexL (hexB l) = some l
 | [] => rfl
 | c :: r => by
  have hc := c.toNat_lt
  have e : hexB (c :: r) = hexD (c.toNat / 16) :: hexD (c.toNat % 16) :: hexB r := by simp [hexB]
  rw [e, unhexL, hexV_D _ (by omega), hexV_D _ (by omega), unhex_hex r]
  simp only
  have : 16 * (c.toNat / 16) + c.toNat % 16 = c.toNat := by omega
  rw [this]
  simp

theorem unhex_snoc : ∀ (l bs : List UInt8) (a b : UInt8) (x y : Nat), unhexL l = some bs → hexV a = some x → hexV b = some y → unhexL (l ++ [a, b]) = some (bs ++ [UInt8.ofNat (16 * x + y)])
 | [], bs, a, b, x, y, h, ha, hb => by
  simp only [unhexL] at h; injection h with h; subst h
  simp [unhexL, ha, hb]
 | [_], bs, a, b, x, y, h, _, _ => by simp [unhexL] at h
 | c :: d :: l, bs, a, b, x, y, h, ha, hb => by
  rw [unhexL] at h
  rcases h1 : hexV c with _ | u
  ·rw [h1] at h; simp at h
  rcases h2 : hexV d with _ | v
  ·rw [h1, h2] at h; simp at h
  rcases h3 : unhexL l with _ | q
  ·rw [h1, h2, h3] at h; simp at h
  rw [h1, h2, h3] at h
  simp only at h
  injection h with h
  subst h
  have ih := unhex_snoc l q a b x y h3 ha hb
  rw [List.cons_append, List.cons_append, unhexL, h1, h2, ih]
  rfl

theorem unhex_bad : ∀ (l bs : List UInt8) (a b : UInt8) (r : List UInt8), unhexL l = some bs → (hexV a = none ∨ hexV b = none) → unhexL (l ++ a :: b :: r) = none
 | [], bs, a, b, r, h, hab => by
  rw [List.nil_append, unhexL]
  rcases hab with e | e
  ·rw [e]
  ·rw [e]; cases hexV a <;> rfl
 | [_], bs, a, b, r, h, _ => by simp [unhexL] at h
 | c :: d :: l, bs, a, b, r, h, hab => by
  rw [unhexL] at h
  rcases h1 : hexV c with _ | u
  ·rw [h1] at h; simp at h
  rcases h2 : hexV d with _ | v
  ·rw [h1, h2] at h; simp at h
  rcases h3 : unhexL l with _ | q
  ·rw [h1, h2, h3] at h; simp at h
  have ih := unhex_bad l q a b r h3 hab
  rw [List.cons_append, List.cons_append, unhexL, h1, h2, ih]

def unhexB (s : ByteArray) : ByteArray × Bool :=
 if s.size % 2 = 0 ∧ s.size ≤ 8000 then match unhexL s.data.toList with
  | some l => (⟨l.toArray⟩, true)
  | none => (⟨#[]⟩, false)
 else (⟨#[]⟩, false)

def idxV (x : Nat) : Int := match hexV (UInt8.ofNat x) with
 | some v => (v : Int)
 | none => -1

theorem idx_some {x v : Nat} (h : hexV (UInt8.ofNat x) = some v) : idxV x = v := by unfold idxV; rw [h]

theorem idx_none {x : Nat} (h : hexV (UInt8.ofNat x) = none) : idxV x = -1 := by unfold idxV; rw [h]

theorem index_hex (x : Nat) (h : x < 256) : Lib.indexByte (⟨#[48, 49, 50, 51, 52, 53, 54, 55, 56, 57, 97, 98, 99, 100, 101, 102]⟩ : ByteArray).data.toList ((x : Int).toNat.toUInt8) = idxV x := by
 have h2 : ∀ p : Fin 256, Lib.indexByte (⟨#[48, 49, 50, 51, 52, 53, 54, 55, 56, 57, 97, 98, 99, 100, 101, 102]⟩ : ByteArray).data.toList (((p.val : Nat) : Int).toNat.toUInt8) = idxV p.val := by decide +kernel
 exact h2 ⟨x, h⟩

theorem implIndexHex (x : Nat) (w : World) (h : x < 256) :
  Calls Tryz.prog 26 #[.string ⟨#[48, 49, 50, 51, 52, 53, 54, 55, 56, 57, 97, 98, 99, 100, 101, 102]⟩, .int .u8 (x : Int)] w fun e w' => e = .returned (.int .i64 (idxV x)) ∧ w = w' := by
 refine (Tryz.strings_IndexByte _ (x : Int) w).mono ?_
 rintro e w' ⟨rfl, rfl⟩
 exact ⟨by rw [index_hex x h], rfl⟩

def PhRes (s : ByteArray) (w : World) (e : Ending) (w' : World) : Prop := e = .returned (.tuple #[.string (unhexB s).1, .bool (unhexB s).2]) ∧ Below w.heap.size w w'

theorem phr {s : ByteArray} {t : ByteArray} {b : Bool} (h : unhexB s = (t, b)) : Ending.returned (.tuple #[.string t, .bool b]) = .returned (.tuple #[.string (unhexB s).1, .bool (unhexB s).2]) := by rw [h]

theorem unhexB_some {s : ByteArray} {l : List UInt8} (h1 : s.size % 2 = 0) (h2 : s.size ≤ 8000) (h : unhexL s.data.toList = some l) : unhexB s = (⟨l.toArray⟩, true) := by
 unfold unhexB; rw [if_pos ⟨h1, h2⟩, h]

theorem unhexB_none {s : ByteArray} (h1 : s.size % 2 = 0) (h2 : s.size ≤ 8000) (h : unhexL s.data.toList = none) : unhexB s = (⟨#[]⟩, false) := by
 unfold unhexB; rw [if_pos ⟨h1, h2⟩, h]

theorem u8_in' (x : Nat) (hx : x < 256) : IntKind.u8.wrap (x : Int) = x := by simp [IntKind.wrap, IntKind.signed, IntKind.bits]; omega

theorem byteV_cell' (x : Nat) (hx : x < 256) : Value.int .u8 (x : Int) = byteV (UInt8.ofNat x) := by
 unfold byteV; rw [UInt8.toNat_ofNat']; congr 2; omega

theorem or_16 (x y : Nat) (hx : x < 16) (hy : y < 16) : bits .or .i64 (((16 * x : Nat)) : Int) (y : Int) = ((16 * x + y : Nat) : Int) := by
 have h : ∀ p q : Fin 16, bits .or .i64 (((16 * p.val : Nat)) : Int) ((q.val : Nat) : Int) = ((16 * p.val + q.val : Nat) : Int) := by decide +kernel
 exact h ⟨x, hx⟩ ⟨y, hy⟩

set_option maxHeartbeats 4000000 in
set_option maxRecDepth 100000 in
theorem implParseHex (s : ByteArray) (w : World) (hs : s.size ≤ 1048576) :
  Calls Tryz.prog 7 #[.string s] w (PhRes s w) := by
 by_cases hok : s.size % 2 = 0 ∧ s.size ≤ 8000
 ·obtain ⟨he, h8⟩ := hok
  have HU1 := Lib.hid (fun l => unhexB_some he h8 (l := l))
  have HU2 := Lib.hid (unhexB_none he h8)
  obtain ⟨m, hm⟩ : ∃ m, s.size = 2 * m := ⟨s.size / 2, by omega⟩
  obtain ⟨z, hz⟩ : ∃ z, s.size = z := ⟨_, rfl⟩
  have hzm : z = 2 * m := by omega
  have ez2 : (z : Int) % 2 = 0 := by omega
  have ez3 : (z : Int) / 2 = m := by omega
  have ez4 : (z : Int) ≤ 8000 := by omega
  have ez5 : (((z : Int) % 2) == 0) = true := by rw [beq_iff_eq]; omega
  obtain ⟨i0, hi0, hz0, hz1, hz2⟩ := info_parts infoByte
  have hmk := fun W => run_make_rowN (P := Tryz.prog) 22 5 i0 _ Tryz.underlying22 hi0 hz0 .i64 .i64 0 m (Nat.zero_le _) (by rw [hz2]; omega) (by omega) W
  obtain ⟨cs, hcs⟩ : ∃ cs, madeCells (Value.int .u8 0).cells (m * i0.size) = cs := ⟨_, rfl⟩
  have hcsz : cs.size = m * 1 := by rw [← hcs, hz1]; simp [madeCells]
  rw [hcs, Int.natCast_zero] at hmk
  have HO := Lib.hid (own_made w cs m w.heap.size 1 5 (Nat.le_refl _) (by unfold maxLen; omega) hcsz)
  have hmk' := hmk w
  clear hcs hcsz hi0 hz0 hz1 hz2 hm he h8 hmk
  go_enter Tryz.func7, Tryz.ntmps7
  go_wp2_with fail
  go_loopw [4, 5] (fun v x wr => ∃ (k : Nat) (bs : List UInt8), x = .int .i64 ((2 * k : Nat) : Int) ∧ k ≤ m ∧ Hid (unhexL (s.data.toList.take (2 * k)) = some bs ∧ bs.length = k) ∧ wr.ownsRow w.heap.size 5 1 v k (bs.map byteV) ∧ Below w.heap.size w wr) (fun _ x _ => z - (intOf x).toNat)
  case atStart => exact ⟨0, [], rfl, Nat.zero_le _, Lib.hid ⟨rfl, rfl⟩, HO.out, (Below.refl _ _).alloc (Nat.le_refl _) _⟩
  case round =>
   obtain ⟨k, bs, rfl, hk, HB, hown, hbel⟩ := hrel
   have hwz := hbel.size
   clear hmk' HO
   obtain ⟨Av, cv, rfl, _, _⟩ := own_form hown
   obtain ⟨j, hj⟩ : ∃ j, 2 * k = j := ⟨_, rfl⟩
   rw [hj]
   by_cases hlt : k < m
   ·have h1 : j < s.size := by omega
    have h2 : j + 1 < s.size := by omega
    obtain ⟨j1, hj1⟩ : ∃ x, j + 1 = x := ⟨_, rfl⟩
    obtain ⟨j2, hj2⟩ : ∃ x, j + 2 = x := ⟨_, rfl⟩
    have ej1 : (j : Int) + 1 = j1 := by omega
    have ej2 : (j : Int) + 2 = j2 := by omega
    have h2' : j1 < s.size := by omega
    have hjz : j < z := by omega
    have hjz1 : j1 < z := by omega
    obtain ⟨x, hx⟩ : ∃ x, (s[j]'h1).toNat = x := ⟨_, rfl⟩
    obtain ⟨y, hy⟩ : ∃ x, (s[j1]'h2').toNat = x := ⟨_, rfl⟩
    have hx8 : x < 256 := by rw [← hx]; exact UInt8.toNat_lt _
    have hy8 : y < 256 := by rw [← hy]; exact UInt8.toNat_lt _
    have hsx : UInt8.ofNat x = s[j]'h1 := by rw [← hx]; simp
    have hsy : UInt8.ofNat y = s[j1]'h2' := by rw [← hy]; simp
    have htake : s.data.toList.take (2 * (k + 1)) = s.data.toList.take (2 * k) ++ [UInt8.ofNat x, UInt8.ofNat y] := by
     rw [show 2 * (k + 1) = 2 * k + 1 + 1 from by omega, List.take_succ_eq_append_getElem (by simp; omega), List.take_succ_eq_append_getElem (by simp; omega), hsx, hsy]
     simp only [List.append_assoc, List.cons_append, List.nil_append]
     congr 1
     subst hj hj1
     rfl
    have hall : s.data.toList = s.data.toList.take (2 * k) ++ UInt8.ofNat x :: UInt8.ofNat y :: s.data.toList.drop (2 * (k + 1)) := by
     conv => lhs; rw [← List.take_append_drop (2 * (k + 1)) s.data.toList]
     rw [htake]; simp
    have hbad : (hexV (UInt8.ofNat x) = none ∨ hexV (UInt8.ofNat y) = none) → unhexB s = (⟨#[]⟩, false) := fun h => by
     refine HU2.out ?_
     rw [hall, unhex_bad _ _ _ _ _ HB.out.1 h]
    have HBAD := Lib.hid hbad
    have HT := Lib.hid htake
    clear hsx hsy hall hbad htake
    rcases hvx : hexV (UInt8.ofNat x) with _ | a
    ·have ix := idx_none hvx
     have HIX := fun W => implIndexHex x W hx8
     rw [ix] at HIX
     have HX := Lib.hid HIX
     have hR := HBAD.out (Or.inl hvx)
     clear HIX ix
     rcases hvy : hexV (UInt8.ofNat y) with _ | b
     ·have HY := Lib.hid (fun W => idx_none hvy ▸ implIndexHex y W hy8)
      go_wp2_with (first | (go_at_call_of 26 (Value.int .u8 (x : Int)); refine (HX.out _).mono ?_; rintro e w' ⟨rfl, rfl⟩) | (go_at_call_of 26 (Value.int .u8 (y : Int)); refine (HY.out _).mono ?_; rintro e w' ⟨rfl, rfl⟩))
      go_returns
      exact ⟨phr hR, hbel⟩
     ·have HY := Lib.hid (fun W => idx_some hvy ▸ implIndexHex y W hy8)
      go_wp2_with (first | (go_at_call_of 26 (Value.int .u8 (x : Int)); refine (HX.out _).mono ?_; rintro e w' ⟨rfl, rfl⟩) | (go_at_call_of 26 (Value.int .u8 (y : Int)); refine (HY.out _).mono ?_; rintro e w' ⟨rfl, rfl⟩))
      go_returns
      exact ⟨phr hR, hbel⟩
    ·have ha16 := (hexV_some _ _ hvx).1
     have HX := Lib.hid (fun W => idx_some hvx ▸ implIndexHex x W hx8)
     rcases hvy : hexV (UInt8.ofNat y) with _ | b
     ·have HY := Lib.hid (fun W => idx_none hvy ▸ implIndexHex y W hy8)
      have hR := HBAD.out (Or.inr hvy)
      go_wp2_with (first | (go_at_call_of 26 (Value.int .u8 (x : Int)); refine (HX.out _).mono ?_; rintro e w' ⟨rfl, rfl⟩) | (go_at_call_of 26 (Value.int .u8 (y : Int)); refine (HY.out _).mono ?_; rintro e w' ⟨rfl, rfl⟩))
      go_returns
      exact ⟨phr hR, hbel⟩
     ·have hb16 := (hexV_some _ _ hvy).1
      have HY := Lib.hid (fun W => idx_some hvy ▸ implIndexHex y W hy8)
      obtain ⟨c, hc⟩ : ∃ c, 16 * a = c := ⟨_, rfl⟩
      obtain ⟨q, hq⟩ : ∃ q, c + b = q := ⟨_, rfl⟩
      have hq8 : q < 256 := by omega
      have wq := u8_in' q hq8
      have ebv := byteV_cell' q hq8
      have ec : (a : Int) * 16 = c := by omega
      have hor : bits .or .i64 (c : Int) (b : Int) = (q : Int) := by rw [← hq, ← hc]; exact or_16 a b ha16 hb16
      have wc : IntKind.i64.wrap (c : Int) = c := IntWalk.i64_in _ (by omega)
      have wq2 : IntKind.i64.wrap (q : Int) = q := IntWalk.i64_in _ (by omega)
      have HN : Hid (unhexL (s.data.toList.take (2 * (k + 1))) = some (bs ++ [UInt8.ofNat q]) ∧ (bs ++ [UInt8.ofNat q]).length = k + 1) := Lib.hid ⟨by rw [HT.out, unhex_snoc _ _ _ _ a b HB.out.1 hvx hvy, hc, hq], by rw [List.length_append, HB.out.2]; rfl⟩
      have HE := Lib.hid ebv
      have HQ := Lib.hid (And.intro hc hq)
      clear ebv hc hq hvx hvy HBAD
      go_wp2_with (first
       | (go_at_call_of 26 (Value.int .u8 (x : Int)); refine (HX.out _).mono ?_; rintro e w' ⟨rfl, rfl⟩)
       | (go_at_call_of 26 (Value.int .u8 (y : Int)); refine (HY.out _).mono ?_; rintro e w' ⟨rfl, rfl⟩)
       | (at_builtin; refine wpList_append_row _ elemByte rfl (.tmp 42) (.tmp 48) rfl w.heap.size _ _ _ rfl (hown.alloc _) _ _ 1 1 [.int .u8 (q : Int)] rfl (Row.newAt _ wr.heap.size rfl _ [.int .u8 (q : Int)] 1 1 rfl) ?_ ?_ ?_ ?_ ?_))
      ·intro u hu; simp at hu; subst hu; rfl
      ·unfold maxLen; omega
      ·omega
      ·simp; omega
      ·intro v4 w4 hv4 hg4 _
       have hbel4 : Below w.heap.size w w4 := (hbel.alloc hwz _).grown hg4 (by simp; omega) (fun g hg => (hown.lt g hg).1)
       have hv4' : w4.ownsRow w.heap.size 5 1 v4 (k + 1) ((bs ++ [UInt8.ofNat q]).map byteV) := by rw [List.map_append, List.map_cons, List.map_nil, ← HE.out]; exact hv4
       clear hown hbel hg4 hv4
       go_wp2_with fail
       go_roundw
       case rel => exact ⟨k + 1, bs ++ [UInt8.ofNat q], by congr 1; omega, by omega, HN, hv4', hbel4⟩
       case measure => simp [intOf]; omega
   ·obtain rfl : k = m := by omega
    have hjz : ¬ j < z := by omega
    have ht : s.data.toList.take (2 * k) = s.data.toList := List.take_of_length_le (by simp; omega)
    have hfin : unhexB s = (⟨bs.toArray⟩, true) := by
     have := HB.out.1
     rw [ht] at this
     exact HU1.out _ this
    have HFIN := Lib.hid hfin
    have hcv := run_convert_own (n := k) elemByte Tryz.underlying5 Tryz.underlying9 bs (by rw [HB.out.2]; exact hown) HB.out.2
    clear ht hfin
    go_wp2_with fail
    go_returns
    exact ⟨phr HFIN.out, hbel⟩
 ·have hR : unhexB s = (⟨#[]⟩, false) := by unfold unhexB; rw [if_neg hok]
  have HR := Lib.hid hR
  clear hR
  obtain ⟨z, hz⟩ : ∃ z, s.size = z := ⟨_, rfl⟩
  rw [hz] at hok
  by_cases he : z % 2 = 0
  ·have h8 : (8000 : Int) < z := by omega
   have ez5 : (((z : Int) % 2) == 0) = true := by rw [beq_iff_eq]; omega
   have ez2 : (z : Int) % 2 = 0 := by omega
   obtain ⟨m, hm⟩ : ∃ m : Nat, (z : Int) / 2 = m := ⟨z / 2, by omega⟩
   have hm1 : m ≤ 1048576 := by omega
   clear hm hm1
   clear hok he
   go_enter Tryz.func7, Tryz.ntmps7
   go_wp2_with fail
   go_returns
   exact ⟨phr HR.out, Below.refl _ _⟩
  ·have ez5 : (((z : Int) % 2) == 0) = false := by rw [beq_eq_false_iff_ne]; omega
   have ez2 : (z : Int) % 2 = 1 := by omega
   obtain ⟨m, hm⟩ : ∃ m : Nat, (z : Int) / 2 = m := ⟨z / 2, by omega⟩
   have hm1 : m ≤ 1048576 := by omega
   clear hm hm1
   clear hok he
   go_enter Tryz.func7, Tryz.ntmps7
   go_wp2_with fail
   go_returns
   exact ⟨phr HR.out, Below.refl _ _⟩

end Go.Proofs.YthlgpgaeajfchaaGreatDoor

