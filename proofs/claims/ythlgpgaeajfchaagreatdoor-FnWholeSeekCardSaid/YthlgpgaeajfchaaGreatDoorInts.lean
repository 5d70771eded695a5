/-
  Slices of integers of the call's own; the law's own helpers for them: eqIntS, markIntS, heldIntS; a world in which one block alone has turned.
  The contracts of the functions that write numbers as two bytes and read them: impl.twoBytes, impl.numberAt, spec.l4Two, spec.l5Pair.
-/
import Derived.Test.YthlgpgaeajfchaaGreatDoorMem
import Derived.Laws.BitsLemmas
import Derived.IntWalk
import Derived.BigQuiet
import Derived.Deep.DeepCutAuto
import Derived.Deep.CutBlock

namespace Go.Proofs.YthlgpgaeajfchaaGreatDoor
open Go.RowKit
set_option linter.unusedVariables false

theorem Row.newAt (w : World) (H : Nat) (hH : w.heap.size = H) (e : TypeId) (cs : List Value) (n size : Nat) (h : cs.length = n * size) : Row (w.alloc (.cells cs.toArray e)) (H + 1) size (some ⟨H, 0, none⟩) n cs := by
  subst hH; exact Row.new w e cs n size h

/-- An empty slice that is not nil. -/
theorem own_empty (w : World) (H : Nat) (hH : w.heap.size = H) (base : Nat) (hb : base ≤ H) (e : TypeId) (size : Nat) : (w.alloc (.cells #[] e)).ownsRow base e size (.slice (some ⟨H, 0, none⟩) 0 0) 0 [] := by
  subst hH
  exact World.ownsRow_lit (size := size) (e := e) w #[] 0 hb (Nat.zero_le _) (by simp)

/-- An empty slice with a capacity. -/
theorem own_made (w : World) (cs : Array Value) (c base size : Nat) (e : TypeId) (hb : base ≤ w.heap.size) (hm : c ≤ maxLen) (hs : cs.size = c * size) : (w.alloc (.cells cs e)).ownsRow base e size (.slice (some ⟨w.heap.size, 0, none⟩) 0 c) 0 [] :=
  ⟨by simp, .inr ⟨w.heap.size, c, cs, rfl, hb, heap_alloc_new w _, Nat.zero_le _, hm, hs, by simp⟩⟩

/-- What make leaves: elements of several cells. -/
theorem run_make_rowN {P : Program} (t e : TypeId) (i : TypeInfo) (z : Value) (ht : P.underlying t = some (.slice e)) (hi : P.info? e = some i) (hz : i.zero = some z)
    (kl kc : IntKind) (n c : Nat) (hnc : n ≤ c) (hbytes : i.bytes * c ≤ 281474976710656) (h63 : c ≤ 9223372036854775807) (w : World) :
    (Instr.makeSlice t (.int kl (n : Int)) (.int kc (c : Int))).run P w = .ok (.slice (some ⟨w.heap.size, 0, none⟩) n c) (w.alloc (.cells (madeCells z.cells (c * i.size)) e)) := by
  have hb : (i.bytes : Int) * (c : Int) ≤ 281474976710656 := by
    have h : ((i.bytes * c : Nat) : Int) ≤ 281474976710656 := by omega
    rwa [Int.natCast_mul] at h
  have hr := run_make (P := P) w t e i z ht hi hz kl kc n c (by omega) (by omega) hb (by omega)
  simp only [Int.toNat_natCast] at hr
  exact hr

theorem infoByte : (Tryz.prog.info? 5).map (fun i => (i.zero, i.size, i.bytes)) = some (some (.int .u8 0), 1, 1) := by kernel_rfl

theorem elemByte : Elem Tryz.prog 22 5 (.int .u8 0) 1 1 := ⟨Tryz.underlying22, infoByte, rfl, by decide⟩

theorem infoInt : (Tryz.prog.info? 3).map (fun i => (i.zero, i.size, i.bytes)) = some (some (.int .i64 0), 1, 8) := by kernel_rfl

theorem elemInt : Elem Tryz.prog 44 3 (.int .i64 0) 1 8 := ⟨Tryz.underlying44, infoInt, rfl, by decide⟩

theorem only_setCell {a w : World} {g : Nat} (h : a.grownBy w (some g)) {p : Addr} (hp : p.block = g) (u : Value) : a.grownBy (w.setCell p u) (some g) :=
  ⟨h.os, h.tape, h.output, by simpa [World.setCell] using h.size, fun i hi hne => (Below.heap_setCell w p u i (by
    rintro rfl
    exact hne (by rw [hp]))).trans (h.block i hi hne)⟩

theorem only_below {a w w' : World} {row : Option Nat} (h : a.grownBy w row) (hb : Below w.heap.size w w') : a.grownBy w' row :=
  ⟨hb.os.trans h.os, hb.tape.trans h.tape, hb.output.trans h.output, Nat.le_trans h.size hb.size, fun i hi hn => (hb.block i (Nat.lt_of_lt_of_le hi h.size)).trans (h.block i hi hn)⟩

theorem only_drawn {a w w' : World} {row : Option Nat} (h : a.grownBy w row) (hd : Drawn w w') : a.grownBy w' row := only_below h (hd.below _)

/-- What is above a block is nothing that one keeps below it. -/
theorem Below.only {B : Nat} {a w w' : World} {row : Option Nat} (h : Below B a w) (hg : w.grownBy w' row) (hB : B ≤ w.heap.size) (hr : ∀ g, row = some g → B ≤ g) : Below B a w' := h.grown hg hB hr

end Go.Proofs.YthlgpgaeajfchaaGreatDoor

namespace Go.Proofs.YthlgpgaeajfchaaGreatDoor
open Go.RowKit
set_option linter.unusedVariables false

/-- A number, modulo 65536, in two bytes, the one of higher value first. -/
def two (n : Nat) : ByteArray := ⟨#[UInt8.ofNat (n / 256), UInt8.ofNat n]⟩

/-- 'string([]byte{x, y})', of the two bytes of a number. -/
theorem run_two {P : Program} {src dst e : TypeId} (hs : P.underlying src = some (.slice e)) (he : P.underlying e = some (.int .u8)) (hd : P.underlying dst = some .string) (n : Nat) (w : World) :
    (convert src dst (.slice (some ⟨w.heap.size, 0, none⟩) 2 2)).run P (w.alloc (.cells #[.int .u8 ((n : Int) / 256 % 256), .int .u8 ((n : Int) % 256)] e)) =
      .ok (.string (two n)) (w.alloc (.cells #[.int .u8 ((n : Int) / 256 % 256), .int .u8 ((n : Int) % 256)] e)) := by
  refine run_convert_bytes_back (P := P) _ src dst e ⟨w.heap.size, 0, none⟩ 2 [UInt8.ofNat (n / 256), UInt8.ofNat n] hs he hd (fun j hj => ?_)
  rw [addr_add, Nat.zero_add, World.cell?_alloc_mark]
  match j, hj with
  | 0, _ => simp
  | 1, _ => simp

set_option maxRecDepth 20000 in
theorem implTwoBytes (n : Nat) (w : World) (hn : n ≤ 1048576) :
    Calls Tryz.prog 67 #[.int .i64 n] w fun e w' => e = .returned (.string (two n)) ∧ Below w.heap.size w w' := by
  have hcv := run_two (P := Tryz.prog) Tryz.underlying22 Tryz.underlying5 Tryz.underlying9 n w
  go_enter Tryz.func67, Tryz.ntmps67
  go_wp2
  go_ret
  exact ⟨rfl, (Below.refl _ _).alloc (Nat.le_refl _) _⟩

set_option maxRecDepth 20000 in
theorem specL4Two (n : Nat) (w : World) (hn : n ≤ 1048576) :
    Calls Tryz.prog 73 #[.int .i64 n] w fun e w' => e = .returned (.string (two n)) ∧ Below w.heap.size w w' := by
  have hcv := run_two (P := Tryz.prog) Tryz.underlying22 Tryz.underlying5 Tryz.underlying9 n w
  go_enter Tryz.func73, Tryz.ntmps73
  go_wp2
  go_ret
  exact ⟨rfl, (Below.refl _ _).alloc (Nat.le_refl _) _⟩

theorem ofInt_i64 (a : Nat) (ha : a < 9223372036854775808) : (BitVec.ofInt 64 (a : Int)).toNat = a := by
  rw [BitVec.ofInt_natCast, BitVec.toNat_ofNat]; exact Nat.mod_eq_of_lt (by omega)

theorem i64_and_nat (a b : Nat) (ha : a < 9223372036854775808) (hb : b < 9223372036854775808) : bits .and .i64 (a : Int) (b : Int) = ((a &&& b : Nat) : Int) := by
  have hx : a &&& b < 2 ^ 63 := Nat.and_lt_two_pow _ (by omega)
  show IntKind.i64.wrap ((BitVec.ofInt 64 (a : Int) &&& BitVec.ofInt 64 (b : Int)).toNat : Int) = _
  rw [BitVec.toNat_and, ofInt_i64 a ha, ofInt_i64 b hb, IntKind.wrap_i64]
  omega

theorem i64_or_nat (a b : Nat) (ha : a < 9223372036854775808) (hb : b < 9223372036854775808) : bits .or .i64 (a : Int) (b : Int) = ((a ||| b : Nat) : Int) := by
  have hx : a ||| b < 2 ^ 63 := Nat.or_lt_two_pow (by omega) (by omega)
  show IntKind.i64.wrap ((BitVec.ofInt 64 (a : Int) ||| BitVec.ofInt 64 (b : Int)).toNat : Int) = _
  rw [BitVec.toNat_or, ofInt_i64 a ha, ofInt_i64 b hb, IntKind.wrap_i64]
  omega

theorem shift_or (x y : Nat) (hy : y < 256) : (x * 256 ||| y) = 256 * x + y := by
  have h := Nat.two_pow_add_eq_or_of_lt (i := 8) (b := y) (by omega) x
  rw [Nat.mul_comm x 256]
  exact h.symm

theorem or_i64 (x y : Nat) (hx : x < 256) (hy : y < 256) : bits .or .i64 ((x : Int) * 256) (y : Int) = 256 * (x : Int) + y := by
  have h : ((x : Int) * 256) = ((x * 256 : Nat) : Int) := by omega
  rw [h, i64_or_nat _ _ (by omega) (by omega), shift_or x y hy]
  omega

theorem implNumberAtD (s : ByteArray) (i : Nat) (a : Int) (w : World) (ha : a = i) (hs : s.size ≤ 1048576) (hi : i + 1 < s.size) :
    Calls Tryz.prog 58 #[.string s, .int .i64 a] w fun e w' => e = .returned (.int .i64 (256 * ((bAt s i).toNat : Int) + ((bAt s (i + 1)).toNat : Int))) ∧ w.drew = w' := by
  subst ha
  have hi0 : i < s.size := by omega
  obtain ⟨j, hj⟩ : ∃ j, i + 1 = j := ⟨_, rfl⟩
  rw [hj]
  have hj0 : j < s.size := by omega
  rw [bAt_lt hi0, bAt_lt hj0]
  obtain ⟨x, hx⟩ : ∃ x, s[i].toNat = x := ⟨_, rfl⟩
  obtain ⟨y, hy⟩ : ∃ y, s[j].toNat = y := ⟨_, rfl⟩
  have hx1 : x < 256 := by rw [← hx]; exact UInt8.toNat_lt _
  have hy1 : y < 256 := by rw [← hy]; exact UInt8.toNat_lt _
  have hor := or_i64 x y hx1 hy1
  have e1 : IntKind.i64.wrap (↑i + 1) = (j : Int) := by rw [IntWalk.i64_in _ (by omega)]; omega
  have ex : IntKind.i64.wrap (x : Int) = x := IntWalk.i64_in _ (by omega)
  have ey : IntKind.i64.wrap (y : Int) = y := IntWalk.i64_in _ (by omega)
  have ez : IntKind.i64.wrap ((x : Int) * 256) = (x : Int) * 256 := IntWalk.i64_in _ (by omega)
  clear hj
  go_enter Tryz.func58, Tryz.ntmps58
  go_wp2
  go_region
  clear e1 ex ey ez
  go_wp2
  go_ret
  exact ⟨by rw [hx, hy]; rfl, rfl⟩

theorem only_then {a b c : World} {row row' : Option Nat} (h : a.grownBy b row) (k : b.grownBy c row') (hr : ∀ j, row' = some j → a.heap.size ≤ j ∨ row = some j) : a.grownBy c row :=
  ⟨k.os.trans h.os, k.tape.trans h.tape, k.output.trans h.output, Nat.le_trans h.size k.size, fun i hi hne => (k.block i (Nat.lt_of_lt_of_le hi h.size) (fun e => by
    rcases hr i e.symm with h1 | h1
    · omega
    · exact hne h1.symm)).trans (h.block i hi hne)⟩

theorem byteV_cell (x : Nat) (hx : x < 256) : Value.int .u8 (x : Int) = byteV (UInt8.ofNat x) := by
  unfold byteV; rw [UInt8.toNat_ofNat']; congr 2; omega

theorem two_pow_wrap (n : Nat) (hn : n ≤ 16) : wrap64 ((2 : Int) ^ n) = ((2 ^ n : Nat) : Int) := by
  have h : ∀ k : Fin 17, wrap64 ((2 : Int) ^ k.val) = ((2 ^ k.val : Nat) : Int) := by decide +kernel
  exact h ⟨n, by omega⟩

theorem specL1Two (n : Nat) (w : World) (hn : n ≤ 16) :
    Calls Tryz.prog 86 #[.int .i64 (n : Int)] w fun e w' => e = .returned (.int .i64 ((2 ^ n : Nat) : Int)) ∧ w = w' := by
  go_enter Tryz.func86, Tryz.ntmps86
  have e := two_pow_wrap n hn
  go_wp2_with fail
  go_ret
  exact ⟨by rw [← e]; rfl, rfl⟩

/-- A setting as a value. -/
def setV (o l m : Nat) : Value := .agg #[.int .i64 (o : Int), .int .i64 (l : Int), .int .i64 (m : Int)]

set_option maxHeartbeats 1000000 in
theorem specL1Clear (o l m : Nat) (w : World) (hl : l ≤ 16) :
    Calls Tryz.prog 62 #[setV o l m] w fun e w' => e = .returned (.int .i64 ((2 ^ l : Nat) : Int)) ∧ Below w.heap.size w w' := by
  unfold setV
  go_enter Tryz.func62, Tryz.ntmps62
  go_wp2_with fail
  refine (specL1Two l _ hl).mono ?_
  rintro e w1 ⟨rfl, rfl⟩
  go_wp2_with fail
  go_ret
  exact ⟨rfl, (Below.refl _ _).alloc (Nat.le_refl _) _⟩

theorem new_cell (w : World) (H : Nat) (hH : w.heap.size = H) (e : TypeId) (cs : List Value) (j : Nat) (u : Value) (hu : cs[j]? = some u) : (w.alloc (.cells cs.toArray e)).cell? ⟨H, j, none⟩ = some u := by
  subst hH
  have h := Row.newAt w _ rfl e cs cs.length 1 (by omega)
  have hlt : j < cs.length := (List.getElem?_eq_some_iff.1 hu).1
  obtain ⟨b, off, e1, _, hc⟩ := h.2 (by omega)
  injection e1 with e1
  injection e1 with e1 e2
  subst e1 e2
  have := hc j u hu
  rwa [Nat.zero_add] at this

theorem u8_in (x : Nat) (hx : x < 256) : IntKind.u8.wrap (x : Int) = x := by simp [IntKind.wrap, IntKind.signed, IntKind.bits]; omega

end Go.Proofs.YthlgpgaeajfchaaGreatDoor
