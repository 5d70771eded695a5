/-
  Small lemmas on worlds, endings and rows that the walks of this seat use.
  Small contracts that many functions use: spec.l7Most, spec.l1In, a string of one byte.
  A string repeated: l9Many of the reference.
-/
import Derived.Test.YthlgpgaeajfchaaGreatDoorRows
import Derived.WalkKit
import Derived.WalkLawsBesides
import Derived.ProofKit
import Derived.OpenShut
import Derived.ShutString
import Derived.Deep.QuietTactic
import Derived.BigQuiet
import Derived.Deep.Draws
import Derived.Lib.Hide
import Derived.Below
import Derived.ChangeSame
import Derived.Handy
import Derived.BigRegion
import Derived.Lib.Repeat

namespace Go.Proofs.YthlgpgaeajfchaaGreatDoor
open Go.RowKit Go.WideShapes Go.ChangeShapes

theorem ret_int {k : IntKind} {a b : Int} (h : a = b) : Ending.returned (.int k a) = .returned (.int k b) := by rw [h]
theorem ret_bool {a b : Bool} (h : a = b) : Ending.returned (.bool a) = .returned (.bool b) := by rw [h]
theorem ret_str {a b : ByteArray} (h : a = b) : Ending.returned (.string a) = .returned (.string b) := by rw [h]

/-- The world has only had its order draws counted on. -/
def Drawn (w w' : World) : Prop := ∃ n, w' = w.drewN n
theorem Drawn.refl (w : World) : Drawn w w := ⟨0, rfl⟩
theorem Drawn.more {a w : World} (h : Drawn a w) (n : Nat) : Drawn a (w.drewN n) := by
  obtain ⟨k, rfl⟩ := h; exact ⟨k + n, World.drewN_drewN _ _ _⟩
theorem Drawn.drew {a w : World} (h : Drawn a w) : Drawn a w.drew := h.more 1
theorem Drawn.trans {a b c : World} (h : Drawn a b) (k : Drawn b c) : Drawn a c := by
  obtain ⟨n, rfl⟩ := k; exact h.more n
theorem Drawn.of (w : World) (n : Nat) : Drawn w (w.drewN n) := ⟨n, rfl⟩

theorem below_drewN {B : Nat} {a w : World} (h : Below B a w) (n : Nat) : Below B a (w.drewN n) := ⟨h.os, h.tape, h.output, h.size, h.block⟩
theorem Drawn.below {a w : World} (h : Drawn a w) (B : Nat) : Below B a w := by
  obtain ⟨n, rfl⟩ := h; exact below_drewN (Below.refl _ _) n

theorem Drawn.cells {a w : World} (h : Drawn a w) : (∀ p, w.cell? p = a.cell? p) ∧ (∀ p, w.frozen? p = a.frozen? p) ∧ w.heap.size = a.heap.size := by
  obtain ⟨n, rfl⟩ := h; exact ⟨fun _ => rfl, fun _ => rfl, rfl⟩
theorem bcell {W w1 : World} (hb : Below W.heap.size W w1) : (∀ b o, b < W.heap.size → w1.cell? ⟨b, o, none⟩ = W.cell? ⟨b, o, none⟩) ∧ (∀ b o, b < W.heap.size → w1.frozen? ⟨b, o, none⟩ = W.frozen? ⟨b, o, none⟩) :=
  ⟨fun b o h => hb.cell (p := ⟨b, o, none⟩) h, fun b o h => hb.frozen (p := ⟨b, o, none⟩) h⟩

section
variable {H : Type} {enc : TypeId × Value → H} {P : Program}
/-- The row's last step where of the world 'Below' alone is known. -/
theorem post_of_below {f : Func} {s : ChangeSpec} {apart fresh handsOn again : Bool} {W W' : World} {args : Array Value} {v : Value} {ds gs : List (DataW H)} {before pa pv : List MemPlace}
    (hW : DataW.Whole enc P f.params.toList s.vars apart W args.toList ds gs before)
    (hres : ∀ (b : Nat) (sp : Nat → Bool) (hd : Bool), DataW.TrodAll enc P W' b sp hd f.resultTypes.toList (v.resultList f.resultTypes.size) (s.fn H (ds ++ gs)).results [])
    (hargs : ∀ sp : Nat → Bool, (∀ p ∈ before, sp p.block = true) → DataW.TrodAll enc P W' 0 sp true f.params.toList args.toList (s.fn H (ds ++ gs)).args pa)
    (hvars : ∀ sp : Nat → Bool, (∀ p ∈ before, sp p.block = true) → DataW.TrodVars enc P W' sp s.vars (s.fn H (ds ++ gs)).vars pv)
    (hps : before = pa ++ pv) (hb : Below W.heap.size W W')
    (hok : ∀ (j : Nat) (t : TypeId) (r : Value), f.resultTypes[j]? = some t → (v.resultList f.resultTypes.size)[j]? = some r → Value.okWide P W' .any 0 t r) :
    s.post enc P f apart fresh handsOn again W args v W' := by
  have hlt : ∀ p ∈ before, p.block < W.heap.size := fun p hp => hW.lt p hp
  have hold : ∀ p ∈ before, (fun b => decide (b < W.heap.size)) p.block = true := fun p hp => by simpa using hlt p hp
  refine ⟨ds, gs, before, [], pa, pv, hW, hres _ _ _, hargs _ hold, hvars _ hold, World.keptBut_mono (fun p hp => ⟨hp, ?_⟩) (hb.frame (· ∈ before)), fun _ => ?_⟩
  · rw [hps, List.mem_append] at hp
    exact Or.inr hp
  · obtain ⟨_, _, _, _, _, hz, hn⟩ := hW
    refine ⟨hok, _, _, ([] ++ pa) ++ pv, ⟨[] ++ pa, pv, trodAll_append (hargs _ (fun _ _ => rfl)) (hres _ _ _), hvars _ (fun _ _ => rfl), rfl, ?_, ?_⟩, ?_⟩
    · intro b off hp
      have hin : MemPlace.cell b off ∈ before := by rw [hps]; simpa using hp
      rw [hb.frozen (hlt _ hin)]
      exact hz b off hin
    · intro ha
      have := hn ha
      rw [hps] at this
      simpa using this
    · intro p hp _
      rw [hps]
      simpa using hp
end
end Go.Proofs.YthlgpgaeajfchaaGreatDoor

namespace Go.Proofs.YthlgpgaeajfchaaGreatDoor
open Go.RowKit
set_option linter.unusedVariables false

theorem btrue {p : Prop} (h : p) : (true = true ↔ p) := ⟨fun _ => h, fun _ => rfl⟩
theorem bfalse {p : Prop} (h : ¬ p) : (false = true ↔ p) := ⟨(fun e => by cases e), fun e => absurd e h⟩

theorem specL1In (n low high : Int) (b : Bool) (w : World) (hb : b = true ↔ low ≤ n ∧ n ≤ high) :
    Calls Tryz.prog 24 #[.int .i64 n, .int .i64 low, .int .i64 high] w fun e w' => e = .returned (.bool b) ∧ w = w' := by
  go_enter Tryz.func24, Tryz.ntmps24
  go_wp2
  all_goals go_ret
  all_goals refine ⟨ret_bool ?_, rfl⟩
  all_goals rw [Bool.eq_iff_iff, hb]; simp; try omega

/-- 'string([]byte{x})': a slice of one byte as a string. -/
theorem run_one_byte {P : Program} {src dst e : TypeId} (hs : P.underlying src = some (.slice e)) (he : P.underlying e = some (.int .u8)) (hd : P.underlying dst = some .string) (x : Nat) (hx : x < 256)
    (W : World) (a : Addr) (hc : W.cell? a = some (.int .u8 (x : Int))) : (convert src dst (.slice (some a) 1 1)).run P W = .ok (.string ⟨#[UInt8.ofNat x]⟩) W := by
  have := run_convert_bytes_back (P := P) W src dst e a 1 [UInt8.ofNat x] hs he hd (fun j hj => by
    have : j = 0 := by simpa using hj
    subst this
    simp [Addr.add, hc, Nat.mod_eq_of_lt hx])
  simpa using this

theorem ret_sb {a : ByteArray} {b : Bool} {o : ByteArray × Bool} (h : o = (a, b)) : Ending.returned (.tuple #[.string a, .bool b]) = .returned (.tuple #[.string o.1, .bool o.2]) := by rw [h]

end Go.Proofs.YthlgpgaeajfchaaGreatDoor

namespace Go.Proofs.YthlgpgaeajfchaaGreatDoor
open Go.RowKit
set_option linter.unusedVariables false

/-- A string n times. -/
def repB (s : ByteArray) : Nat → ByteArray
  | 0 => ByteArray.empty
  | n + 1 => s ++ repB s n

theorem repB_two (s : ByteArray) (n : Nat) : repB (s ++ s) n = repB s (2 * n) := by
  induction n with
  | zero => rfl
  | succ n ih =>
    rw [show 2 * (n + 1) = 2 * n + 1 + 1 from by omega]
    simp only [repB]
    rw [ih, ByteArray.append_assoc]

theorem repB_odd (s : ByteArray) {n : Nat} (h : n % 2 = 1) : s ++ repB (s ++ s) (n / 2) = repB s n := by
  rw [repB_two]
  obtain ⟨k, rfl⟩ : ∃ k, n = 2 * k + 1 := ⟨n / 2, by omega⟩
  rw [show (2 * k + 1) / 2 = k from by omega]
  rfl

theorem repB_even (s : ByteArray) {n : Nat} (h : n % 2 = 0) : repB (s ++ s) (n / 2) = repB s n := by
  rw [repB_two, show 2 * (n / 2) = n from by omega]

theorem repB_size (s : ByteArray) (n : Nat) : (repB s n).size = s.size * n := by
  induction n with
  | zero => rfl
  | succ n ih => simp only [repB, ByteArray.size_append, ih]; rw [Nat.mul_succ]; omega

/-- What l9Many has still to do. -/
def ManyAt (M : Nat) (R : ByteArray) (n : Nat) (s out : ByteArray) : Prop := out ++ repB s n = R ∧ s.size * n ≤ M ∧ out.size + s.size * n = R.size ∧ s.size ≤ 2 * M + 1048576

theorem many_start {s : ByteArray} {n : Nat} (hs : s.size ≤ 1048576) : ManyAt (s.size * n) (repB s n) n s ByteArray.empty :=
  ⟨by simp, Nat.le_refl _, by rw [repB_size]; show 0 + _ = _; omega, by omega⟩

theorem many_size {M n : Nat} {R s out : ByteArray} (h : ManyAt M R n s out) (hn : 0 < n) : s.size ≤ M := by
  have h1 : s.size * 1 ≤ s.size * n := Nat.mul_le_mul_left _ hn
  have := h.2.1
  omega

theorem many_odd {M n : Nat} {R s out : ByteArray} (h : ManyAt M R n s out) (hn : 0 < n) (ho : n % 2 = 1) : ManyAt M R (n / 2) (s ++ s) (out ++ s) := by
  have hz := many_size h hn
  obtain ⟨h1, h2, h3, h4⟩ := h
  have e : (s ++ s).size * (n / 2) + s.size = s.size * n := by
    rw [ByteArray.size_append, ← Nat.two_mul, Nat.mul_comm 2, Nat.mul_assoc, ← Nat.mul_succ]
    congr 1; omega
  refine ⟨by rw [ByteArray.append_assoc, repB_odd s ho]; exact h1, by omega, by rw [ByteArray.size_append]; omega, by rw [ByteArray.size_append]; omega⟩

theorem many_even {M n : Nat} {R s out : ByteArray} (h : ManyAt M R n s out) (hn : 0 < n) (ho : n % 2 = 0) : ManyAt M R (n / 2) (s ++ s) out := by
  have hz := many_size h hn
  obtain ⟨h1, h2, h3, h4⟩ := h
  have e : (s ++ s).size * (n / 2) = s.size * n := by
    rw [ByteArray.size_append, ← Nat.two_mul, Nat.mul_comm 2, Nat.mul_assoc]
    congr 1; omega
  refine ⟨by rw [repB_even s ho]; exact h1, by omega, by omega, by rw [ByteArray.size_append]; omega⟩

theorem many_end {M : Nat} {R s out : ByteArray} (h : ManyAt M R 0 s out) : out = R := by
  have := h.1
  simpa [repB] using this

theorem repL_data (s : ByteArray) (n : Nat) : (repB s n).data.toList = Lib.repeatL s.data.toList n := by
  induction n with
  | zero => rfl
  | succ n ih => simp only [repB, Lib.repeatL, ByteArray.data_append, Array.toList_append, ih]

theorem repL_eq (s : ByteArray) (n : Nat) : (⟨(Lib.repeatL s.data.toList n).toArray⟩ : ByteArray) = repB s n := by
  apply ByteArray.ext
  rw [← repL_data]

set_option maxHeartbeats 1000000 in
theorem specL9Many (s : ByteArray) (n : Int) (w : World) (hs : s.size ≤ 1048576) (hn1 : n ≤ 9223372036854775807) (hM : s.size * n.toNat ≤ 1073741824) :
    Calls Tryz.prog 181 #[.string s, .int .i64 n] w fun e w' => e = .returned (.string (repB s n.toNat)) ∧ w = w' := by
  obtain ⟨R, hR⟩ : ∃ R, repB s n.toNat = R := ⟨_, rfl⟩
  have H0 := many_start (s := s) (n := n.toNat) hs
  rw [hR] at H0 ⊢
  obtain ⟨M, hMe⟩ : ∃ M, s.size * n.toNat = M := ⟨_, rfl⟩
  rw [hMe] at H0 hM
  have hRz : R.size = M := by rw [← hR, repB_size, hMe]
  have HR := Lib.hid hRz
  have H1 := Lib.hid H0
  clear hR hMe hRz H0
  by_cases h0 : 0 ≤ n
  · obtain ⟨m, rfl⟩ := Int.eq_ofNat_of_zero_le h0
    have hm : m ≤ 9223372036854775807 := by omega
    rw [Int.toNat_natCast] at H1
    clear h0 hn1
    go_enter Tryz.func181, Tryz.ntmps181
    go_wp2_with fail
    go_loop [0, 1, 5] (fun v i o => ∃ (t : ByteArray) (k : Nat) (u : ByteArray), v = .string t ∧ i = .int .i64 k ∧ o = .string u ∧ k ≤ m ∧ Hid (ManyAt M R k t u)) (fun _ i _ => (intOf i).toNat)
    case atStart => exact ⟨s, m, ByteArray.empty, rfl, rfl, rfl, Nat.le_refl _, H1⟩
    case round =>
      obtain ⟨t, k, u, rfl, rfl, rfl, hkm, HK⟩ := hrel
      by_cases hk : 0 < k
      · have hz := many_size HK.out hk
        have hu : u.size ≤ M := by have := HK.out.2.2.1; rw [HR.out] at this; omega
        have hadd1 : ∀ W, (Op.stringOp .add u t).run Tryz.prog W = .ok (.string (u ++ t)) W := fun W => run_string_add_sum W _ _ (by omega)
        have hadd2 : ∀ W, (Op.stringOp .add t t).run Tryz.prog W = .ok (.string (t ++ t)) W := fun W => run_string_add_sum W _ _ (by omega)
        rcases Nat.mod_two_eq_zero_or_one k with ho | ho
        · have HX := Lib.hid (many_even HK.out hk ho)
          have e1 : (((k : Int) % 2) == 1) = false := by rw [beq_eq_false_iff_ne]; omega
          clear ho
          go_wp2_with fail
          go_round
          case rel => exact ⟨t ++ t, k / 2, u, rfl, by go_num, rfl, by omega, HX⟩
          case measure => simp [intOf]; omega
        · have HX := Lib.hid (many_odd HK.out hk ho)
          have e1 : (((k : Int) % 2) == 1) = true := by rw [beq_iff_eq]; omega
          clear ho
          go_wp2_with fail
          go_round
          case rel => exact ⟨t ++ t, k / 2, u ++ t, rfl, by go_num, rfl, by omega, HX⟩
          case measure => simp [intOf]; omega
      · obtain rfl : k = 0 := by omega
        have hu := many_end HK.out
        have HU := Lib.hid hu
        clear hu
        go_wp2_with fail
        go_ret
        exact ⟨ret_str HU.out, rfl⟩
  · have hn0 : n.toNat = 0 := by omega
    rw [hn0] at H1
    have hu := many_end H1.out
    have HU := Lib.hid hu
    clear hu hn0 H1
    go_enter Tryz.func181, Tryz.ntmps181
    go_wp2_with fail
    refine wp_loop_rounds 1 ?_
    rw [rounds_succ]
    go_wp2_with fail
    go_ret
    exact ⟨ret_str HU.out, rfl⟩

end Go.Proofs.YthlgpgaeajfchaaGreatDoor
