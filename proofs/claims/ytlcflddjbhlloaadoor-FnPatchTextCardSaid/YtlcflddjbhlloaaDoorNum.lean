/-
  Numbers read: l9Num of the reference, parseNumber of the program.
-/
import Derived.Test.YtlcflddjbhlloaaDoorNumPlain
import Derived.Test.YtlcflddjbhlloaaDoorFmtPatch
import Derived.Lib.AtoiErrMem
import Derived.Deep.DeepCutAuto
namespace Go.Proofs.YtlcflddjbhlloaaDoor
open Go.RowKit
set_option linter.unusedVariables false

/-- What reading a number gives at the digits of a small one. -/
def NumOf (s : ByteArray) (v : Int) : Prop := ∀ F : Nat, F ≤ 2000 → s = decB F → v = F

/-- What l9Num returns. -/
def NumRes (s : ByteArray) (w : World) (e : Ending) (w' : World) : Prop := ∃ (v : Int) (b : Bool), e = .returned (.tuple #[.int .i64 v, .bool b]) ∧ NumOf s v ∧ w = w'

theorem numOf_not {s : ByteArray} {v : Int} (h : ∀ F : Nat, F ≤ 2000 → s ≠ decB F) : NumOf s v := fun F hF e => absurd e (h F hF)

theorem take_val (s : ByteArray) (k : Nat) (h : k < s.size) : valL (s.data.toList.take (k + 1)) = valL (s.data.toList.take k) * 10 + ((s[k]).toNat - 48) := by
  rw [List.take_succ_eq_append_getElem (by simpa using h), valL_snoc]; rfl

/-- The number that stands behind the first k bytes fits. -/
def Fits (n k : Nat) : Prop := n < 10 ^ k ∧ k ≤ 17

theorem Fits.le {n k : Nat} (h : Fits n k) : n ≤ 100000000000000000 := by
  have h1 : 10 ^ k ≤ 10 ^ 17 := Nat.pow_le_pow_right (by omega) h.2
  have := h.1
  omega

theorem Fits.next {n k d : Nat} (h : Fits n k) (hd : d ≤ 9) (hk : k < 17) : Fits (n * 10 + d) (k + 1) := by
  refine ⟨?_, by omega⟩
  have := h.1
  rw [Nat.pow_succ]
  omega

set_option maxHeartbeats 4000000 in
set_option maxRecDepth 100000 in
theorem specL9Num (s : ByteArray) (w : World) (hs : s.size ≤ 1048576) :
    Calls Tryd.prog 19 #[.string s] w (NumRes s w) := by
  by_cases h0 : 0 < s.size
  · obtain ⟨x0, hx0⟩ : ∃ x, (s[0]'h0).toNat = x := ⟨_, rfl⟩
    by_cases h45 : x0 = 45
    · subst h45
      have HNO := Lib.hid (show ∀ F : Nat, F ≤ 2000 → s ≠ decB F from fun F hF e => by have := (num_facts e hF).2.2.1 0 h0; omega)
      obtain ⟨t, ht⟩ : ∃ t, s.extract 1 s.size = t := ⟨_, rfl⟩
      have htz : t.size ≤ 1048576 := by rw [← ht]; simp; omega
      have i1 : (1 : Int) ≤ (s.size : Int) := by omega
      go_enter Tryd.func19, Tryd.ntmps19
      go_upto_region 4 with fail
      obtain ⟨m, hm⟩ : ∃ m, t.size = m := ⟨_, rfl⟩
      by_cases hz : m = 0
      · subst hz
        go_wp2_with fail
        go_returns
        exact ⟨_, _, rfl, (numOf_not HNO.out), rfl⟩
      · have hm0 : 0 < t.size := by omega
        have hzb : ((m : Int) == 0) = false := by rw [beq_eq_false_iff_ne]; omega
        by_cases h17 : 17 < m
        · go_wp2_with fail
          go_returns
          exact ⟨_, _, rfl, (numOf_not HNO.out), rfl⟩
        · have h17' : (m : Int) ≤ 17 := by omega
          obtain ⟨y, hy⟩ : ∃ y, (t[0]'hm0).toNat = y := ⟨_, rfl⟩
          by_cases h48 : y = 48 ∧ (1 < m ∨ True)
          · obtain ⟨h48a, h48b⟩ := h48
            have hyb : ((y : Int) == 48) = true := by rw [beq_iff_eq]; omega
            go_wp2_with fail
            all_goals go_returns
            all_goals exact ⟨_, _, rfl, (numOf_not HNO.out), rfl⟩
          · have h48c : y = 48 → m ≤ 1 := fun e => by by_cases h : 1 < m; exact absurd ⟨e, Or.inl h⟩ h48; omega
            by_cases hy48 : y = 48
            · have hyb : ((y : Int) == 48) = true := by rw [beq_iff_eq]; omega
              have hm1 : m = 1 := by have := h48c hy48; omega
              exact absurd ⟨hy48, Or.inr trivial⟩ h48
            · have hyb : ((y : Int) == 48) = false := by rw [beq_eq_false_iff_ne]; omega
              go_wp2_with fail
              go_loopw [5, 6] (fun u x wr => ∃ (k n : Nat), x = .int .i64 (k : Int) ∧ u = .int .i64 (n : Int) ∧ k ≤ m ∧ Hid (Fits n k ∧ valL (t.data.toList.take k) = n) ∧ wr = w) (fun _ x _ => m - (intOf x).toNat)
              case atStart => exact ⟨0, 0, rfl, rfl, Nat.zero_le _, Lib.hid ⟨⟨by omega, by omega⟩, by rw [List.take_zero]; rfl⟩, rfl⟩
              case round =>
                obtain ⟨k, n, rfl, rfl, hk, HF, rfl⟩ := hrel
                by_cases hlt : k < m
                · have hkt : k < t.size := by omega
                  obtain ⟨x, hx⟩ : ∃ x, (t[k]'hkt).toNat = x := ⟨_, rfl⟩
                  have hx8 : x < 256 := by rw [← hx]; exact UInt8.toNat_lt _
                  by_cases hlo : x < 48
                  · have hlo' : (x : Int) < 48 := by omega
                    go_wp2_with fail
                    go_returns
                    exact ⟨_, _, rfl, (numOf_not HNO.out), rfl⟩
                  · by_cases hhi : 57 < x
                    · have hhi' : (57 : Int) < x := by omega
                      have hlo' : (48 : Int) ≤ x := by omega
                      go_wp2_with fail
                      go_returns
                      exact ⟨_, _, rfl, (numOf_not HNO.out), rfl⟩
                    · have hlo' : (48 : Int) ≤ x := by omega
                      have hhi' : (x : Int) ≤ 57 := by omega
                      obtain ⟨d, hd⟩ : ∃ d : Nat, (x : Int) - 48 = d := ⟨x - 48, by omega⟩
                      have hd9 : d ≤ 9 := by omega
                      obtain ⟨a, ha⟩ : ∃ a : Nat, (n : Int) * 10 = a := ⟨n * 10, by omega⟩
                      obtain ⟨c, hc⟩ : ∃ c : Nat, (a : Int) + d = c := ⟨a + d, by omega⟩
                      have hbig := HF.out.1.le
                      have wa : IntKind.i64.wrap (a : Int) = a := IntWalk.i64_in _ (by omega)
                      have wc : IntKind.i64.wrap (c : Int) = c := IntWalk.i64_in _ (by omega)
                      have wd : IntKind.u8.wrap (d : Int) = d := by simp [IntKind.wrap, IntKind.signed, IntKind.bits]; omega
                      have wd2 : IntKind.i64.wrap (d : Int) = d := IntWalk.i64_in _ (by omega)
                      have hn2 : c = n * 10 + d := by omega
                      have HN : Hid (Fits c (k + 1) ∧ valL (t.data.toList.take (k + 1)) = c) := Lib.hid ⟨by rw [hn2]; exact HF.out.1.next hd9 (by omega), by rw [take_val _ _ hkt, HF.out.2, hx, hn2]; omega⟩
                      clear hbig hn2 HF
                      go_wp2_with fail
                      go_roundw
                      case rel => exact ⟨k + 1, c, by go_num, rfl, by omega, HN, trivial⟩
                      case measure => simp [intOf]; omega
                · obtain rfl : k = m := by omega
                  have hbig := HF.out.1.le
                  have wn : IntKind.i64.wrap (-(n : Int)) = -(n : Int) := IntWalk.i64_in _ (by omega)
                  clear hbig
                  go_wp2_with fail
                  go_returns
                  exact ⟨_, _, rfl, (numOf_not HNO.out), rfl⟩
    · have hx45 : ((x0 : Int) == 45) = false := by rw [beq_eq_false_iff_ne]; omega
      go_enter Tryd.func19, Tryd.ntmps19
      go_upto_region 4 with fail
      obtain ⟨m, hm⟩ : ∃ m, s.size = m := ⟨_, rfl⟩
      by_cases hz : m = 0
      · subst hz
        go_wp2_with fail
        go_returns
        exact ⟨_, _, rfl, (numOf_not fun F hF e => by have := (num_facts e hF).1; omega), rfl⟩
      · have hm0 : 0 < s.size := by omega
        have hzb : ((m : Int) == 0) = false := by rw [beq_eq_false_iff_ne]; omega
        by_cases h17 : 17 < m
        · go_wp2_with fail
          go_returns
          exact ⟨_, _, rfl, (numOf_not fun F hF e => by have := (num_facts e hF).2.1; omega), rfl⟩
        · have h17' : (m : Int) ≤ 17 := by omega
          obtain ⟨y, hy⟩ : ∃ y, (s[0]'hm0).toNat = y := ⟨_, rfl⟩
          by_cases h48 : y = 48 ∧ (1 < m ∨ False)
          · obtain ⟨h48a, h48b⟩ := h48
            have hyb : ((y : Int) == 48) = true := by rw [beq_iff_eq]; omega
            have hm1 : 1 < m := by rcases h48b with h | h; exact h; exact absurd h id
            go_wp2_with fail
            go_returns
            exact ⟨_, _, rfl, (numOf_not fun F hF e => by have := (num_facts e hF).2.2.2.1 hm0 (by omega); omega), rfl⟩
          · have h48c : y = 48 → m ≤ 1 := fun e => by by_cases h : 1 < m; exact absurd ⟨e, Or.inl h⟩ h48; omega
            by_cases hy48 : y = 48
            · have hyb : ((y : Int) == 48) = true := by rw [beq_iff_eq]; omega
              have hm1 : m = 1 := by have := h48c hy48; omega
              go_wp2_with fail
              go_loopw [5, 6] (fun u x wr => ∃ (k n : Nat), x = .int .i64 (k : Int) ∧ u = .int .i64 (n : Int) ∧ k ≤ m ∧ Hid (Fits n k ∧ valL (s.data.toList.take k) = n) ∧ wr = w) (fun _ x _ => m - (intOf x).toNat)
              case atStart => exact ⟨0, 0, rfl, rfl, Nat.zero_le _, Lib.hid ⟨⟨by omega, by omega⟩, by rw [List.take_zero]; rfl⟩, rfl⟩
              case round =>
                obtain ⟨k, n, rfl, rfl, hk, HF, rfl⟩ := hrel
                by_cases hlt : k < m
                · have hkt : k < s.size := by omega
                  obtain ⟨x, hx⟩ : ∃ x, (s[k]'hkt).toNat = x := ⟨_, rfl⟩
                  have hx8 : x < 256 := by rw [← hx]; exact UInt8.toNat_lt _
                  by_cases hlo : x < 48
                  · have hlo' : (x : Int) < 48 := by omega
                    go_wp2_with fail
                    go_returns
                    exact ⟨_, _, rfl, (numOf_not fun F hF e => by have := (num_facts e hF).2.2.1 k hkt; omega), rfl⟩
                  · by_cases hhi : 57 < x
                    · have hhi' : (57 : Int) < x := by omega
                      have hlo' : (48 : Int) ≤ x := by omega
                      go_wp2_with fail
                      go_returns
                      exact ⟨_, _, rfl, (numOf_not fun F hF e => by have := (num_facts e hF).2.2.1 k hkt; omega), rfl⟩
                    · have hlo' : (48 : Int) ≤ x := by omega
                      have hhi' : (x : Int) ≤ 57 := by omega
                      obtain ⟨d, hd⟩ : ∃ d : Nat, (x : Int) - 48 = d := ⟨x - 48, by omega⟩
                      have hd9 : d ≤ 9 := by omega
                      obtain ⟨a, ha⟩ : ∃ a : Nat, (n : Int) * 10 = a := ⟨n * 10, by omega⟩
                      obtain ⟨c, hc⟩ : ∃ c : Nat, (a : Int) + d = c := ⟨a + d, by omega⟩
                      have hbig := HF.out.1.le
                      have wa : IntKind.i64.wrap (a : Int) = a := IntWalk.i64_in _ (by omega)
                      have wc : IntKind.i64.wrap (c : Int) = c := IntWalk.i64_in _ (by omega)
                      have wd : IntKind.u8.wrap (d : Int) = d := by simp [IntKind.wrap, IntKind.signed, IntKind.bits]; omega
                      have wd2 : IntKind.i64.wrap (d : Int) = d := IntWalk.i64_in _ (by omega)
                      have hn2 : c = n * 10 + d := by omega
                      have HN : Hid (Fits c (k + 1) ∧ valL (s.data.toList.take (k + 1)) = c) := Lib.hid ⟨by rw [hn2]; exact HF.out.1.next hd9 (by omega), by rw [take_val _ _ hkt, HF.out.2, hx, hn2]; omega⟩
                      clear hbig hn2 HF
                      go_wp2_with fail
                      go_roundw
                      case rel => exact ⟨k + 1, c, by go_num, rfl, by omega, HN, trivial⟩
                      case measure => simp [intOf]; omega
                · obtain rfl : k = m := by omega
                  have hv : valL s.data.toList = n := by have := HF.out.2; rwa [List.take_of_length_le (by simp; omega)] at this
                  have HV := Lib.hid hv
                  clear hv
                  go_wp2_with fail
                  go_returns
                  exact ⟨_, _, rfl, (fun F hF e => by have := (num_facts e hF).2.2.2.2; rw [HV.out] at this; rw [← this]), rfl⟩
            · have hyb : ((y : Int) == 48) = false := by rw [beq_eq_false_iff_ne]; omega
              go_wp2_with fail
              go_loopw [5, 6] (fun u x wr => ∃ (k n : Nat), x = .int .i64 (k : Int) ∧ u = .int .i64 (n : Int) ∧ k ≤ m ∧ Hid (Fits n k ∧ valL (s.data.toList.take k) = n) ∧ wr = w) (fun _ x _ => m - (intOf x).toNat)
              case atStart => exact ⟨0, 0, rfl, rfl, Nat.zero_le _, Lib.hid ⟨⟨by omega, by omega⟩, by rw [List.take_zero]; rfl⟩, rfl⟩
              case round =>
                obtain ⟨k, n, rfl, rfl, hk, HF, rfl⟩ := hrel
                by_cases hlt : k < m
                · have hkt : k < s.size := by omega
                  obtain ⟨x, hx⟩ : ∃ x, (s[k]'hkt).toNat = x := ⟨_, rfl⟩
                  have hx8 : x < 256 := by rw [← hx]; exact UInt8.toNat_lt _
                  by_cases hlo : x < 48
                  · have hlo' : (x : Int) < 48 := by omega
                    go_wp2_with fail
                    go_returns
                    exact ⟨_, _, rfl, (numOf_not fun F hF e => by have := (num_facts e hF).2.2.1 k hkt; omega), rfl⟩
                  · by_cases hhi : 57 < x
                    · have hhi' : (57 : Int) < x := by omega
                      have hlo' : (48 : Int) ≤ x := by omega
                      go_wp2_with fail
                      go_returns
                      exact ⟨_, _, rfl, (numOf_not fun F hF e => by have := (num_facts e hF).2.2.1 k hkt; omega), rfl⟩
                    · have hlo' : (48 : Int) ≤ x := by omega
                      have hhi' : (x : Int) ≤ 57 := by omega
                      obtain ⟨d, hd⟩ : ∃ d : Nat, (x : Int) - 48 = d := ⟨x - 48, by omega⟩
                      have hd9 : d ≤ 9 := by omega
                      obtain ⟨a, ha⟩ : ∃ a : Nat, (n : Int) * 10 = a := ⟨n * 10, by omega⟩
                      obtain ⟨c, hc⟩ : ∃ c : Nat, (a : Int) + d = c := ⟨a + d, by omega⟩
                      have hbig := HF.out.1.le
                      have wa : IntKind.i64.wrap (a : Int) = a := IntWalk.i64_in _ (by omega)
                      have wc : IntKind.i64.wrap (c : Int) = c := IntWalk.i64_in _ (by omega)
                      have wd : IntKind.u8.wrap (d : Int) = d := by simp [IntKind.wrap, IntKind.signed, IntKind.bits]; omega
                      have wd2 : IntKind.i64.wrap (d : Int) = d := IntWalk.i64_in _ (by omega)
                      have hn2 : c = n * 10 + d := by omega
                      have HN : Hid (Fits c (k + 1) ∧ valL (s.data.toList.take (k + 1)) = c) := Lib.hid ⟨by rw [hn2]; exact HF.out.1.next hd9 (by omega), by rw [take_val _ _ hkt, HF.out.2, hx, hn2]; omega⟩
                      clear hbig hn2 HF
                      go_wp2_with fail
                      go_roundw
                      case rel => exact ⟨k + 1, c, by go_num, rfl, by omega, HN, trivial⟩
                      case measure => simp [intOf]; omega
                · obtain rfl : k = m := by omega
                  have hv : valL s.data.toList = n := by have := HF.out.2; rwa [List.take_of_length_le (by simp; omega)] at this
                  have HV := Lib.hid hv
                  clear hv
                  go_wp2_with fail
                  go_returns
                  exact ⟨_, _, rfl, (fun F hF e => by have := (num_facts e hF).2.2.2.2; rw [HV.out] at this; rw [← this]), rfl⟩
  · have hz : s.size = 0 := by omega
    go_enter Tryd.func19, Tryd.ntmps19
    go_wp2_with fail
    go_returns
    exact ⟨_, _, rfl, (numOf_not fun F hF e => by have := (num_facts e hF).1; omega), rfl⟩

/-- What the listed variables give: the table, the two errors, the number in bytealg's variable. -/
structure LaidW (w : World) : Prop where
  tab : TabW w
  syn : ∃ tp p, w.var? Tryd.prog "strconv.ErrSyntax" = some #[.iface tp p]
  rng : ∃ tp p, w.var? Tryd.prog "strconv.ErrRange" = some #[.iface tp p]
  max : ∃ m, w.cell? ⟨0, 0, none⟩ = some (.int .i64 m)

theorem var_below {P : Program} {w w' : World} {C : Nat} {name : String} {cs : Array Value} (h : w.var? P name = some cs) (hb : Below C w w') (hC : w.heap.size ≤ C) : w'.var? P name = some cs := by
  unfold World.var? at h ⊢
  rcases hg : P.globalNamed name with _ | g
  · rw [hg] at h; simp at h
  · rw [hg] at h
    simp only [Option.bind_some] at h ⊢
    have hlt : g < w.heap.size := by
      rcases Nat.lt_or_ge g w.heap.size with h' | h'
      · exact h'
      · rw [Array.getElem?_eq_none h'] at h; cases h
    rw [hb.block g (by omega)]
    exact h

theorem LaidW.below {w w' : World} {C : Nat} (h : LaidW w) (hb : Below C w w') (hC : w.heap.size ≤ C) : LaidW w' := by
  obtain ⟨h1, ⟨t2, p2, h2⟩, ⟨t3, p3, h3⟩, ⟨m, h4⟩⟩ := h
  refine ⟨h1.below hb hC, ⟨t2, p2, var_below h2 hb hC⟩, ⟨t3, p3, var_below h3 hb hC⟩, ⟨m, ?_⟩⟩
  have hlt : 0 < w.heap.size := by
    rcases Nat.lt_or_ge 0 w.heap.size with h' | h'
    · exact h'
    · simp [World.cell?, Array.getElem?_eq_none h'] at h4
  exact (World.cell?_of_block (hb.block 0 (by omega))).trans h4

/-- What parseNumber returns. -/
def PnRes (s : ByteArray) (w : World) (e : Ending) (w' : World) : Prop :=
  ∃ (v : Int) (b : Bool), e = .returned (.tuple #[.int .i64 v, .bool b]) ∧ (b = true → 0 ≤ v → s = decB v.toNat) ∧ (∀ F : Nat, F ≤ 2000 → s = decB F → b = true ∧ v = F) ∧ Below w.heap.size w w'

set_option maxHeartbeats 2000000 in
theorem implParseNumber (s : ByteArray) (w : World) (hs : s.size ≤ 1048576) (hL : LaidW w) :
    Calls Tryd.prog 24 #[.string s] w (PnRes s w) := by
  have hno : ∀ r, Lib.atoiAll s.data.toList = r → (∀ F : Nat, r ≠ .ok (F : Int)) → ∀ F : Nat, F ≤ 2000 → s ≠ decB F := fun r h1 h2 F hF e => by
    subst e
    exact h2 F (h1.symm.trans (atoi_dec F hF))
  cases h : Lib.atoiAll s.data.toList with
  | ok v =>
    have hb := Lib.atoiAll_bounds h
    have HI := Lib.hid (fun W hT => Tryd.strconv_Itoa v (by omega) (by omega) W hT)
    have HA := Lib.hid (fun W => Tryd.strconv_Atoi_ok s (by omega) v h W)
    have H1 := Lib.hid (show ∀ F : Nat, F ≤ 2000 → s = decB F → v = F from fun F hF e => by
      subst e
      have := h.symm.trans (atoi_dec F hF)
      injection this)
    have HD := Lib.hid (show ∀ F : Nat, v = F → (⟨(Lib.itoa v).toArray⟩ : ByteArray) = decB F from fun F e => by subst e; unfold Lib.itoa decB; rw [if_neg (by omega), Int.toNat_natCast])
    obtain ⟨X, hX⟩ : ∃ X, (⟨(Lib.itoa v).toArray⟩ : ByteArray) = X := ⟨_, rfl⟩
    rw [hX] at HI HD
    have H2 := Lib.hid (show 0 ≤ v → X = decB v.toNat from fun h0 => by rw [← hX]; unfold Lib.itoa decB; rw [if_neg (by omega)])
    clear hb h hno hX
    by_cases he : s = X
    · subst he
      go_enter Tryd.func24, Tryd.ntmps24
      go_wp2_with (go_at_call 50; refine (HA.out _).mono ?_; rintro e w1 ⟨rfl, hw⟩)
      have hb1 : Below w.heap.size w w1 := by
        rcases hw with rfl | ⟨t, rfl⟩
        · exact Below.refl _ _
        · exact Lib.bytesWorld_below _ _ _
      have hT := (hL.below hb1 (Nat.le_refl _)).tab
      have hz1 := hb1.size
      clear hw
      go_wp2_with (go_at_call 38; refine (HI.out _ hT).mono ?_; rintro e w2 ⟨rfl, k, os, rfl⟩)
      go_returns
      exact ⟨v, true, rfl, fun _ h0 => H2.out h0, fun F hF e => ⟨rfl, H1.out F hF e⟩, hb1.trans ((Lib.below_grow _ _ (Nat.le_refl _) _ _).mono hz1)⟩
    · have hne : (X.toList == s.toList) = false := by
        rw [beq_eq_false_iff_ne]
        intro e
        rw [ByteArray.toList_eq, ByteArray.toList_eq] at e
        exact he (ByteArray.ext (Array.toList_inj.1 e)).symm
      have HE := Lib.hid he
      clear he
      go_enter Tryd.func24, Tryd.ntmps24
      go_wp2_with (go_at_call 50; refine (HA.out _).mono ?_; rintro e w1 ⟨rfl, hw⟩)
      have hb1 : Below w.heap.size w w1 := by
        rcases hw with rfl | ⟨t, rfl⟩
        · exact Below.refl _ _
        · exact Lib.bytesWorld_below _ _ _
      have hT := (hL.below hb1 (Nat.le_refl _)).tab
      have hz1 := hb1.size
      clear hw
      go_wp2_with (go_at_call 38; refine (HI.out _ hT).mono ?_; rintro e w2 ⟨rfl, k, os, rfl⟩)
      go_returns
      refine ⟨0, false, rfl, ?_, fun F hF e => absurd (e.trans (HD.out F (H1.out F hF e)).symm) HE.out, hb1.trans ((Lib.below_grow _ _ (Nat.le_refl _) _ _).mono hz1)⟩
      intro h2
      cases h2
  | «syntax» =>
    obtain ⟨tp, p, hv⟩ := hL.syn
    have HN := Lib.hid (hno _ h (by intro F e; cases e))
    go_enter Tryd.func24, Tryd.ntmps24
    go_wp2_with (go_at_call 50; refine (Tryd.strconv_Atoi_syntax_var s (by omega) h tp p _ hv).mono ?_; rintro e w1 ⟨N, rfl, -, -, hb⟩)
    go_wp2_with fail
    go_returns
    refine ⟨0, false, rfl, ?_, fun F hF e => absurd e (HN.out F hF), hb⟩
    intro h2
    cases h2
  | range =>
    obtain ⟨tp, p, hv⟩ := hL.rng
    have HN := Lib.hid (hno _ h (by intro F e; cases e))
    go_enter Tryd.func24, Tryd.ntmps24
    go_wp2_with (go_at_call 50; refine (Tryd.strconv_Atoi_range_var s (by omega) h tp p _ hv).mono ?_; rintro e w1 ⟨N, rfl, -, -, hb⟩)
    go_wp2_with fail
    go_returns
    refine ⟨0, false, rfl, ?_, fun F hF e => absurd e (HN.out F hF), hb⟩
    intro h2
    cases h2

end Go.Proofs.YtlcflddjbhlloaaDoor
