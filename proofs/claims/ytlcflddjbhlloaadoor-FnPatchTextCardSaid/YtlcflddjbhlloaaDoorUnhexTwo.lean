/-
  ParseHex of the program and of the reference.
-/
import Derived.Test.YtlcflddjbhlloaaDoorUnhex
import Derived.Test.YtlcflddjbhlloaaDoorInts
namespace Go.Proofs.YtlcflddjbhlloaaDoor
open Go.RowKit
set_option linter.unusedVariables false

/-- What ParseHex hands back. -/
def PhRes (s : ByteArray) (w : World) (e : Ending) (w' : World) : Prop := e = .returned (.tuple #[.string (unhexB s).1, .bool (unhexB s).2]) ∧ Below w.heap.size w w'

theorem phr {s : ByteArray} {t : ByteArray} {b : Bool} (h : unhexB s = (t, b)) : Ending.returned (.tuple #[.string t, .bool b]) = .returned (.tuple #[.string (unhexB s).1, .bool (unhexB s).2]) := by rw [h]

theorem unhexB_some {s : ByteArray} {l : List UInt8} (h1 : s.size % 2 = 0) (h2 : s.size ≤ 8000) (h : unhexL s.data.toList = some l) : unhexB s = (⟨l.toArray⟩, true) := by
  unfold unhexB; rw [if_pos ⟨h1, h2⟩, h]

theorem unhexB_none {s : ByteArray} (h1 : s.size % 2 = 0) (h2 : s.size ≤ 8000) (h : unhexL s.data.toList = none) : unhexB s = (⟨#[]⟩, false) := by
  unfold unhexB; rw [if_pos ⟨h1, h2⟩, h]

theorem u8_in' (x : Nat) (hx : x < 256) : IntKind.u8.wrap (x : Int) = x := by simp [IntKind.wrap, IntKind.signed, IntKind.bits]; omega

theorem byteV_cell' (x : Nat) (hx : x < 256) : Value.int .u8 (x : Int) = byteV (UInt8.ofNat x) := by
  unfold byteV; rw [UInt8.toNat_ofNat']; congr 2; omega

theorem or_16 (x y : Nat) (hx : x < 16) (hy : y < 16) : bits .or .i64 (((16 * x : Nat)) : Int) (y : Int) = ((16 * x + y : Nat) : Int) := by
  have h : ∀ p q : Fin 16, bits .or .i64 (((16 * p.val : Nat)) : Int) ((q.val : Nat) : Int) = ((16 * p.val + q.val : Nat) : Int) := by decide +kernel
  exact h ⟨x, hx⟩ ⟨y, hy⟩

set_option maxHeartbeats 4000000 in
set_option maxRecDepth 100000 in
theorem implParseHex (s : ByteArray) (w : World) (hs : s.size ≤ 1048576) :
    Calls Tryd.prog 52 #[.string s] w (PhRes s w) := by
  by_cases hok : s.size % 2 = 0 ∧ s.size ≤ 8000
  · obtain ⟨he, h8⟩ := hok
    have HU1 := Lib.hid (fun l => unhexB_some he h8 (l := l))
    have HU2 := Lib.hid (unhexB_none he h8)
    obtain ⟨m, hm⟩ : ∃ m, s.size = 2 * m := ⟨s.size / 2, by omega⟩
    obtain ⟨z, hz⟩ : ∃ z, s.size = z := ⟨_, rfl⟩
    have hzm : z = 2 * m := by omega
    have ez2 : (z : Int) % 2 = 0 := by omega
    have ez3 : (z : Int) / 2 = m := by omega
    have ez4 : (z : Int) ≤ 8000 := by omega
    have ez5 : (((z : Int) % 2) == 0) = true := by rw [beq_iff_eq]; omega
    obtain ⟨i0, hi0, hz0, hz1, hz2⟩ := info_parts infoByte
    have hmk := fun W => run_make_rowN (P := Tryd.prog) 28 5 i0 _ Tryd.underlying28 hi0 hz0 .i64 .i64 0 m (Nat.zero_le _) (by rw [hz2]; omega) (by omega) W
    obtain ⟨cs, hcs⟩ : ∃ cs, madeCells (Value.int .u8 0).cells (m * i0.size) = cs := ⟨_, rfl⟩
    have hcsz : cs.size = m * 1 := by rw [← hcs, hz1]; simp [madeCells]
    rw [hcs, Int.natCast_zero] at hmk
    have HO := Lib.hid (own_made w cs m w.heap.size 1 5 (Nat.le_refl _) (by unfold maxLen; omega) hcsz)
    have hmk' := hmk w
    clear hcs hcsz hi0 hz0 hz1 hz2 hm he h8 hmk
    go_enter Tryd.func52, Tryd.ntmps52
    go_wp2_with fail
    go_loopw [4, 5] (fun v x wr => ∃ (k : Nat) (bs : List UInt8), x = .int .i64 ((2 * k : Nat) : Int) ∧ k ≤ m ∧ Hid (unhexL (s.data.toList.take (2 * k)) = some bs ∧ bs.length = k) ∧ wr.ownsRow w.heap.size 5 1 v k (bs.map byteV) ∧ Below w.heap.size w wr) (fun _ x _ => z - (intOf x).toNat)
    case atStart => exact ⟨0, [], rfl, Nat.zero_le _, Lib.hid ⟨rfl, rfl⟩, HO.out, (Below.refl _ _).alloc (Nat.le_refl _) _⟩
    case round =>
      obtain ⟨k, bs, rfl, hk, HB, hown, hbel⟩ := hrel
      have hwz := hbel.size
      clear hmk' HO
      obtain ⟨Av, cv, rfl, _, _⟩ := own_form hown
      obtain ⟨j, hj⟩ : ∃ j, 2 * k = j := ⟨_, rfl⟩
      rw [hj]
      by_cases hlt : k < m
      · have h1 : j < s.size := by omega
        have h2 : j + 1 < s.size := by omega
        obtain ⟨j1, hj1⟩ : ∃ x, j + 1 = x := ⟨_, rfl⟩
        obtain ⟨j2, hj2⟩ : ∃ x, j + 2 = x := ⟨_, rfl⟩
        have ej1 : (j : Int) + 1 = j1 := by omega
        have ej2 : (j : Int) + 2 = j2 := by omega
        have h2' : j1 < s.size := by omega
        have hjz : j < z := by omega
        have hjz1 : j1 < z := by omega
        obtain ⟨x, hx⟩ : ∃ x, (s[j]'h1).toNat = x := ⟨_, rfl⟩
        obtain ⟨y, hy⟩ : ∃ x, (s[j1]'h2').toNat = x := ⟨_, rfl⟩
        have hx8 : x < 256 := by rw [← hx]; exact UInt8.toNat_lt _
        have hy8 : y < 256 := by rw [← hy]; exact UInt8.toNat_lt _
        have hsx : UInt8.ofNat x = s[j]'h1 := by rw [← hx]; simp
        have hsy : UInt8.ofNat y = s[j1]'h2' := by rw [← hy]; simp
        have htake : s.data.toList.take (2 * (k + 1)) = s.data.toList.take (2 * k) ++ [UInt8.ofNat x, UInt8.ofNat y] := by
          rw [show 2 * (k + 1) = 2 * k + 1 + 1 from by omega, List.take_succ_eq_append_getElem (by simp; omega), List.take_succ_eq_append_getElem (by simp; omega), hsx, hsy]
          simp only [List.append_assoc, List.cons_append, List.nil_append]
          congr 1
          subst hj hj1
          rfl
        have hall : s.data.toList = s.data.toList.take (2 * k) ++ UInt8.ofNat x :: UInt8.ofNat y :: s.data.toList.drop (2 * (k + 1)) := by
          conv => lhs; rw [← List.take_append_drop (2 * (k + 1)) s.data.toList]
          rw [htake]; simp
        have hbad : (hexV (UInt8.ofNat x) = none ∨ hexV (UInt8.ofNat y) = none) → unhexB s = (⟨#[]⟩, false) := fun h => by
          refine HU2.out ?_
          rw [hall, unhex_bad _ _ _ _ _ HB.out.1 h]
        have HBAD := Lib.hid hbad
        have HT := Lib.hid htake
        clear hsx hsy hall hbad htake
        rcases hvx : hexV (UInt8.ofNat x) with _ | a
        · have ix := idx_none hvx
          have HIX := fun W => implIndexHex x W hx8
          rw [ix] at HIX
          have HX := Lib.hid HIX
          have hR := HBAD.out (Or.inl hvx)
          clear HIX ix
          rcases hvy : hexV (UInt8.ofNat y) with _ | b
          · have HY := Lib.hid (fun W => idx_none hvy ▸ implIndexHex y W hy8)
            go_wp2_with (first | (go_at_call_of 65 (Value.int .u8 (x : Int)); refine (HX.out _).mono ?_; rintro e w' ⟨rfl, rfl⟩) | (go_at_call_of 65 (Value.int .u8 (y : Int)); refine (HY.out _).mono ?_; rintro e w' ⟨rfl, rfl⟩))
            go_returns
            exact ⟨phr hR, hbel⟩
          · have HY := Lib.hid (fun W => idx_some hvy ▸ implIndexHex y W hy8)
            go_wp2_with (first | (go_at_call_of 65 (Value.int .u8 (x : Int)); refine (HX.out _).mono ?_; rintro e w' ⟨rfl, rfl⟩) | (go_at_call_of 65 (Value.int .u8 (y : Int)); refine (HY.out _).mono ?_; rintro e w' ⟨rfl, rfl⟩))
            go_returns
            exact ⟨phr hR, hbel⟩
        · have ha16 := (hexV_some _ _ hvx).1
          have HX := Lib.hid (fun W => idx_some hvx ▸ implIndexHex x W hx8)
          rcases hvy : hexV (UInt8.ofNat y) with _ | b
          · have HY := Lib.hid (fun W => idx_none hvy ▸ implIndexHex y W hy8)
            have hR := HBAD.out (Or.inr hvy)
            go_wp2_with (first | (go_at_call_of 65 (Value.int .u8 (x : Int)); refine (HX.out _).mono ?_; rintro e w' ⟨rfl, rfl⟩) | (go_at_call_of 65 (Value.int .u8 (y : Int)); refine (HY.out _).mono ?_; rintro e w' ⟨rfl, rfl⟩))
            go_returns
            exact ⟨phr hR, hbel⟩
          · have hb16 := (hexV_some _ _ hvy).1
            have HY := Lib.hid (fun W => idx_some hvy ▸ implIndexHex y W hy8)
            obtain ⟨c, hc⟩ : ∃ c, 16 * a = c := ⟨_, rfl⟩
            obtain ⟨q, hq⟩ : ∃ q, c + b = q := ⟨_, rfl⟩
            have hq8 : q < 256 := by omega
            have wq := u8_in' q hq8
            have ebv := byteV_cell' q hq8
            have ec : (a : Int) * 16 = c := by omega
            have hor : bits .or .i64 (c : Int) (b : Int) = (q : Int) := by rw [← hq, ← hc]; exact or_16 a b ha16 hb16
            have wc : IntKind.i64.wrap (c : Int) = c := IntWalk.i64_in _ (by omega)
            have wq2 : IntKind.i64.wrap (q : Int) = q := IntWalk.i64_in _ (by omega)
            have HN : Hid (unhexL (s.data.toList.take (2 * (k + 1))) = some (bs ++ [UInt8.ofNat q]) ∧ (bs ++ [UInt8.ofNat q]).length = k + 1) := Lib.hid ⟨by rw [HT.out, unhex_snoc _ _ _ _ a b HB.out.1 hvx hvy, hc, hq], by rw [List.length_append, HB.out.2]; rfl⟩
            have HE := Lib.hid ebv
            have HQ := Lib.hid (And.intro hc hq)
            clear ebv hc hq hvx hvy HBAD
            go_wp2_with (first
              | (go_at_call_of 65 (Value.int .u8 (x : Int)); refine (HX.out _).mono ?_; rintro e w' ⟨rfl, rfl⟩)
              | (go_at_call_of 65 (Value.int .u8 (y : Int)); refine (HY.out _).mono ?_; rintro e w' ⟨rfl, rfl⟩)
              | (at_builtin; refine wpList_append_row _ elemByte rfl (.tmp 42) (.tmp 48) rfl w.heap.size _ _ _ rfl (hown.alloc _) _ _ 1 1 [.int .u8 (q : Int)] rfl (Row.newAt _ wr.heap.size rfl _ [.int .u8 (q : Int)] 1 1 rfl) ?_ ?_ ?_ ?_ ?_))
            · intro u hu; simp at hu; subst hu; rfl
            · unfold maxLen; omega
            · omega
            · simp; omega
            · intro v4 w4 hv4 hg4 _
              have hbel4 : Below w.heap.size w w4 := (hbel.alloc hwz _).grown hg4 (by simp; omega) (fun g hg => (hown.lt g hg).1)
              have hv4' : w4.ownsRow w.heap.size 5 1 v4 (k + 1) ((bs ++ [UInt8.ofNat q]).map byteV) := by rw [List.map_append, List.map_cons, List.map_nil, ← HE.out]; exact hv4
              clear hown hbel hg4 hv4
              go_wp2_with fail
              go_roundw
              case rel => exact ⟨k + 1, bs ++ [UInt8.ofNat q], by congr 1; omega, by omega, HN, hv4', hbel4⟩
              case measure => simp [intOf]; omega
      · obtain rfl : k = m := by omega
        have hjz : ¬ j < z := by omega
        have ht : s.data.toList.take (2 * k) = s.data.toList := List.take_of_length_le (by simp; omega)
        have hfin : unhexB s = (⟨bs.toArray⟩, true) := by
          have := HB.out.1
          rw [ht] at this
          exact HU1.out _ this
        have HFIN := Lib.hid hfin
        have hcv := run_convert_own (n := k) elemByte Tryd.underlying5 Tryd.underlying9 bs (by rw [HB.out.2]; exact hown) HB.out.2
        clear ht hfin
        go_wp2_with fail
        go_returns
        exact ⟨phr HFIN.out, hbel⟩
  · have hR : unhexB s = (⟨#[]⟩, false) := by unfold unhexB; rw [if_neg hok]
    have HR := Lib.hid hR
    clear hR
    obtain ⟨z, hz⟩ : ∃ z, s.size = z := ⟨_, rfl⟩
    rw [hz] at hok
    by_cases he : z % 2 = 0
    · have h8 : (8000 : Int) < z := by omega
      have ez5 : (((z : Int) % 2) == 0) = true := by rw [beq_iff_eq]; omega
      have ez2 : (z : Int) % 2 = 0 := by omega
      obtain ⟨m, hm⟩ : ∃ m : Nat, (z : Int) / 2 = m := ⟨z / 2, by omega⟩
      have hm1 : m ≤ 1048576 := by omega
      clear hm hm1
      clear hok he
      go_enter Tryd.func52, Tryd.ntmps52
      go_wp2_with fail
      go_returns
      exact ⟨phr HR.out, Below.refl _ _⟩
    · have ez5 : (((z : Int) % 2) == 0) = false := by rw [beq_eq_false_iff_ne]; omega
      have ez2 : (z : Int) % 2 = 1 := by omega
      obtain ⟨m, hm⟩ : ∃ m : Nat, (z : Int) / 2 = m := ⟨z / 2, by omega⟩
      have hm1 : m ≤ 1048576 := by omega
      clear hm hm1
      clear hok he
      go_enter Tryd.func52, Tryd.ntmps52
      go_wp2_with fail
      go_returns
      exact ⟨phr HR.out, Below.refl _ _⟩

set_option maxHeartbeats 4000000 in
set_option maxRecDepth 100000 in
theorem specParseHex (s : ByteArray) (w : World) (hs : s.size ≤ 1048576) :
    Calls Tryd.prog 20 #[.string s] w (PhRes s w) := by
  by_cases hok : s.size % 2 = 0 ∧ s.size ≤ 8000
  · obtain ⟨he, h8⟩ := hok
    have HU1 := Lib.hid (fun l => unhexB_some he h8 (l := l))
    have HU2 := Lib.hid (unhexB_none he h8)
    obtain ⟨m, hm⟩ : ∃ m, s.size = 2 * m := ⟨s.size / 2, by omega⟩
    obtain ⟨z, hz⟩ : ∃ z, s.size = z := ⟨_, rfl⟩
    have hzm : z = 2 * m := by omega
    have ez2 : (z : Int) % 2 = 0 := by omega
    have ez3 : (z : Int) / 2 = m := by omega
    have ez4 : (z : Int) ≤ 8000 := by omega
    have ez5 : (((z : Int) % 2) == 0) = true := by rw [beq_iff_eq]; omega
    obtain ⟨i0, hi0, hz0, hz1, hz2⟩ := info_parts infoByte
    have hmk := fun W => run_make_rowN (P := Tryd.prog) 28 5 i0 _ Tryd.underlying28 hi0 hz0 .i64 .i64 0 m (Nat.zero_le _) (by rw [hz2]; omega) (by omega) W
    obtain ⟨cs, hcs⟩ : ∃ cs, madeCells (Value.int .u8 0).cells (m * i0.size) = cs := ⟨_, rfl⟩
    have hcsz : cs.size = m * 1 := by rw [← hcs, hz1]; simp [madeCells]
    rw [hcs, Int.natCast_zero] at hmk
    have HO := Lib.hid (own_made w cs m w.heap.size 1 5 (Nat.le_refl _) (by unfold maxLen; omega) hcsz)
    have hmk' := hmk w
    clear hcs hcsz hi0 hz0 hz1 hz2 hm he h8 hmk
    go_enter Tryd.func20, Tryd.ntmps20
    go_wp2_with fail
    go_loopw [4, 5] (fun v x wr => ∃ (k : Nat) (bs : List UInt8), x = .int .i64 ((2 * k : Nat) : Int) ∧ k ≤ m ∧ Hid (unhexL (s.data.toList.take (2 * k)) = some bs ∧ bs.length = k) ∧ wr.ownsRow w.heap.size 5 1 v k (bs.map byteV) ∧ Below w.heap.size w wr) (fun _ x _ => z - (intOf x).toNat)
    case atStart => exact ⟨0, [], rfl, Nat.zero_le _, Lib.hid ⟨rfl, rfl⟩, HO.out, (Below.refl _ _).alloc (Nat.le_refl _) _⟩
    case round =>
      obtain ⟨k, bs, rfl, hk, HB, hown, hbel⟩ := hrel
      have hwz := hbel.size
      clear hmk' HO
      obtain ⟨Av, cv, rfl, _, _⟩ := own_form hown
      obtain ⟨j, hj⟩ : ∃ j, 2 * k = j := ⟨_, rfl⟩
      rw [hj]
      by_cases hlt : k < m
      · have h1 : j < s.size := by omega
        have h2 : j + 1 < s.size := by omega
        obtain ⟨j1, hj1⟩ : ∃ x, j + 1 = x := ⟨_, rfl⟩
        obtain ⟨j2, hj2⟩ : ∃ x, j + 2 = x := ⟨_, rfl⟩
        have ej1 : (j : Int) + 1 = j1 := by omega
        have ej2 : (j : Int) + 2 = j2 := by omega
        have h2' : j1 < s.size := by omega
        have hjz : j < z := by omega
        have hjz1 : j1 < z := by omega
        obtain ⟨x, hx⟩ : ∃ x, (s[j]'h1).toNat = x := ⟨_, rfl⟩
        obtain ⟨y, hy⟩ : ∃ x, (s[j1]'h2').toNat = x := ⟨_, rfl⟩
        have hx8 : x < 256 := by rw [← hx]; exact UInt8.toNat_lt _
        have hy8 : y < 256 := by rw [← hy]; exact UInt8.toNat_lt _
        have hsx : UInt8.ofNat x = s[j]'h1 := by rw [← hx]; simp
        have hsy : UInt8.ofNat y = s[j1]'h2' := by rw [← hy]; simp
        have htake : s.data.toList.take (2 * (k + 1)) = s.data.toList.take (2 * k) ++ [UInt8.ofNat x, UInt8.ofNat y] := by
          rw [show 2 * (k + 1) = 2 * k + 1 + 1 from by omega, List.take_succ_eq_append_getElem (by simp; omega), List.take_succ_eq_append_getElem (by simp; omega), hsx, hsy]
          simp only [List.append_assoc, List.cons_append, List.nil_append]
          congr 1
          subst hj hj1
          rfl
        have hall : s.data.toList = s.data.toList.take (2 * k) ++ UInt8.ofNat x :: UInt8.ofNat y :: s.data.toList.drop (2 * (k + 1)) := by
          conv => lhs; rw [← List.take_append_drop (2 * (k + 1)) s.data.toList]
          rw [htake]; simp
        have hbad : (hexV (UInt8.ofNat x) = none ∨ hexV (UInt8.ofNat y) = none) → unhexB s = (⟨#[]⟩, false) := fun h => by
          refine HU2.out ?_
          rw [hall, unhex_bad _ _ _ _ _ HB.out.1 h]
        have HBAD := Lib.hid hbad
        have HT := Lib.hid htake
        clear hsx hsy hall hbad htake
        rcases hvx : hexV (UInt8.ofNat x) with _ | a
        · have ix := idx_none hvx
          have HIX := fun W => specFindHex x W hx8
          rw [ix] at HIX
          have HX := Lib.hid HIX
          have hR := HBAD.out (Or.inl hvx)
          clear HIX ix
          rcases hvy : hexV (UInt8.ofNat y) with _ | b
          · have HY := Lib.hid (fun W => idx_none hvy ▸ specFindHex y W hy8)
            go_wp2_with (first | (go_at_call_of 44 (Value.int .u8 (x : Int)); refine (HX.out _).mono ?_; rintro e w' ⟨rfl, rfl⟩) | (go_at_call_of 44 (Value.int .u8 (y : Int)); refine (HY.out _).mono ?_; rintro e w' ⟨rfl, rfl⟩))
            go_returns
            exact ⟨phr hR, hbel⟩
          · have HY := Lib.hid (fun W => idx_some hvy ▸ specFindHex y W hy8)
            go_wp2_with (first | (go_at_call_of 44 (Value.int .u8 (x : Int)); refine (HX.out _).mono ?_; rintro e w' ⟨rfl, rfl⟩) | (go_at_call_of 44 (Value.int .u8 (y : Int)); refine (HY.out _).mono ?_; rintro e w' ⟨rfl, rfl⟩))
            go_returns
            exact ⟨phr hR, hbel⟩
        · have ha16 := (hexV_some _ _ hvx).1
          have HX := Lib.hid (fun W => idx_some hvx ▸ specFindHex x W hx8)
          rcases hvy : hexV (UInt8.ofNat y) with _ | b
          · have HY := Lib.hid (fun W => idx_none hvy ▸ specFindHex y W hy8)
            have hR := HBAD.out (Or.inr hvy)
            go_wp2_with (first | (go_at_call_of 44 (Value.int .u8 (x : Int)); refine (HX.out _).mono ?_; rintro e w' ⟨rfl, rfl⟩) | (go_at_call_of 44 (Value.int .u8 (y : Int)); refine (HY.out _).mono ?_; rintro e w' ⟨rfl, rfl⟩))
            go_returns
            exact ⟨phr hR, hbel⟩
          · have hb16 := (hexV_some _ _ hvy).1
            have HY := Lib.hid (fun W => idx_some hvy ▸ specFindHex y W hy8)
            obtain ⟨c, hc⟩ : ∃ c, 16 * a = c := ⟨_, rfl⟩
            obtain ⟨q, hq⟩ : ∃ q, c + b = q := ⟨_, rfl⟩
            have hq8 : q < 256 := by omega
            have wq := u8_in' q hq8
            have ebv := byteV_cell' q hq8
            have ec : (16 : Int) * a = c := by omega
            have eq : (c : Int) + b = q := by omega
            have wc : IntKind.i64.wrap (c : Int) = c := IntWalk.i64_in _ (by omega)
            have wq2 : IntKind.i64.wrap (q : Int) = q := IntWalk.i64_in _ (by omega)
            have HN : Hid (unhexL (s.data.toList.take (2 * (k + 1))) = some (bs ++ [UInt8.ofNat q]) ∧ (bs ++ [UInt8.ofNat q]).length = k + 1) := Lib.hid ⟨by rw [HT.out, unhex_snoc _ _ _ _ a b HB.out.1 hvx hvy, hc, hq], by rw [List.length_append, HB.out.2]; rfl⟩
            have HE := Lib.hid ebv
            have HQ := Lib.hid (And.intro hc hq)
            clear ebv hc hq hvx hvy HBAD
            go_wp2_with (first
              | (go_at_call_of 44 (Value.int .u8 (x : Int)); refine (HX.out _).mono ?_; rintro e w' ⟨rfl, rfl⟩)
              | (go_at_call_of 44 (Value.int .u8 (y : Int)); refine (HY.out _).mono ?_; rintro e w' ⟨rfl, rfl⟩)
              | (at_builtin; refine wpList_append_row _ elemByte rfl (.tmp 42) (.tmp 48) rfl w.heap.size _ _ _ rfl (hown.alloc _) _ _ 1 1 [.int .u8 (q : Int)] rfl (Row.newAt _ wr.heap.size rfl _ [.int .u8 (q : Int)] 1 1 rfl) ?_ ?_ ?_ ?_ ?_))
            · intro u hu; simp at hu; subst hu; rfl
            · unfold maxLen; omega
            · omega
            · simp; omega
            · intro v4 w4 hv4 hg4 _
              have hbel4 : Below w.heap.size w w4 := (hbel.alloc hwz _).grown hg4 (by simp; omega) (fun g hg => (hown.lt g hg).1)
              have hv4' : w4.ownsRow w.heap.size 5 1 v4 (k + 1) ((bs ++ [UInt8.ofNat q]).map byteV) := by rw [List.map_append, List.map_cons, List.map_nil, ← HE.out]; exact hv4
              clear hown hbel hg4 hv4
              go_wp2_with fail
              go_roundw
              case rel => exact ⟨k + 1, bs ++ [UInt8.ofNat q], by congr 1; omega, by omega, HN, hv4', hbel4⟩
              case measure => simp [intOf]; omega
      · obtain rfl : k = m := by omega
        have hjz : ¬ j < z := by omega
        have ht : s.data.toList.take (2 * k) = s.data.toList := List.take_of_length_le (by simp; omega)
        have hfin : unhexB s = (⟨bs.toArray⟩, true) := by
          have := HB.out.1
          rw [ht] at this
          exact HU1.out _ this
        have HFIN := Lib.hid hfin
        have hcv := run_convert_own (n := k) elemByte Tryd.underlying5 Tryd.underlying9 bs (by rw [HB.out.2]; exact hown) HB.out.2
        clear ht hfin
        go_wp2_with fail
        go_returns
        exact ⟨phr HFIN.out, hbel⟩
  · have hR : unhexB s = (⟨#[]⟩, false) := by unfold unhexB; rw [if_neg hok]
    have HR := Lib.hid hR
    clear hR
    obtain ⟨z, hz⟩ : ∃ z, s.size = z := ⟨_, rfl⟩
    rw [hz] at hok
    by_cases he : z % 2 = 0
    · have h8 : (8000 : Int) < z := by omega
      have ez5 : (((z : Int) % 2) == 0) = true := by rw [beq_iff_eq]; omega
      have ez2 : (z : Int) % 2 = 0 := by omega
      obtain ⟨m, hm⟩ : ∃ m : Nat, (z : Int) / 2 = m := ⟨z / 2, by omega⟩
      have hm1 : m ≤ 1048576 := by omega
      obtain ⟨i0, hi0, hz0, hz1, hz2⟩ := info_parts infoByte
      have hmk := run_make_rowN (P := Tryd.prog) 28 5 i0 _ Tryd.underlying28 hi0 hz0 .i64 .i64 0 m (Nat.zero_le _) (by rw [hz2]; omega) (by omega) w
      rw [Int.natCast_zero] at hmk
      clear hi0 hz0 hz1 hz2
      clear hok he
      go_enter Tryd.func20, Tryd.ntmps20
      go_wp2_with fail
      go_returns
      exact ⟨phr HR.out, (Below.refl _ _).alloc (Nat.le_refl _) _⟩
    · have ez5 : (((z : Int) % 2) == 0) = false := by rw [beq_eq_false_iff_ne]; omega
      have ez2 : (z : Int) % 2 = 1 := by omega
      obtain ⟨m, hm⟩ : ∃ m : Nat, (z : Int) / 2 = m := ⟨z / 2, by omega⟩
      have hm1 : m ≤ 1048576 := by omega
      obtain ⟨i0, hi0, hz0, hz1, hz2⟩ := info_parts infoByte
      have hmk := run_make_rowN (P := Tryd.prog) 28 5 i0 _ Tryd.underlying28 hi0 hz0 .i64 .i64 0 m (Nat.zero_le _) (by rw [hz2]; omega) (by omega) w
      rw [Int.natCast_zero] at hmk
      clear hi0 hz0 hz1 hz2
      clear hok he
      go_enter Tryd.func20, Tryd.ntmps20
      go_wp2_with fail
      go_returns
      exact ⟨phr HR.out, (Below.refl _ _).alloc (Nat.le_refl _) _⟩

end Go.Proofs.YtlcflddjbhlloaaDoor
