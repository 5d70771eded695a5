/-
  The walk of the law FnXor: it returns true for all drawn strings.
-/
import Derived.Test.YtjapfilkjngkjaaDrawXor
import Derived.Test.YtjapfilkjngkjaaXorMath
import Derived.Deep.RegionHeld3
import Derived.Test.YtjapfilkjngkjaaMark
namespace Go.Proofs.Ytjapfilkjngkjaa
open Go.RowKit
set_option linter.unusedVariables false

set_option maxHeartbeats 1000000 in
theorem lawsSoMany (s : ByteArray) (n : Nat) (w : World) (hn : n ≤ 1048576) (hM : s.size ≤ 1000) :
    Calls Try.prog 9 #[.string s, .int .i64 (n : Int)] w fun e w' => e = .returned (.string (repB s n)) ∧ w = w' := by
  have hsn : ∀ k, repB s (k + 1) = repB s k ++ s := fun k => by
    induction k with
    | zero => simp [repB]
    | succ k ih =>
      conv => lhs; rw [repB, ih, ← ByteArray.append_assoc]
      rfl
  have HSN := Lib.hid hsn
  clear hsn
  go_enter Try.func9, Try.ntmps9
  go_wp2_with fail
  go_loop [5, 6] (fun v i => ∃ k : Nat, k ≤ n ∧ i = .int .i64 k ∧ v = .string (repB s k)) (fun _ i => n - (intOf i).toNat)
  case atStart => exact ⟨0, Nat.zero_le _, rfl, rfl⟩
  case round =>
    obtain ⟨k, hk, rfl, rfl⟩ := hrel
    have hz := repB_size s k
    have hz2 : s.size * k ≤ 1000 * 1048576 := Nat.mul_le_mul hM (by omega)
    have hx := HSN.out k
    obtain ⟨t, ht⟩ : ∃ t, repB s k = t := ⟨_, rfl⟩
    rw [ht] at hz hx ⊢
    have HX := Lib.hid hx
    have HZ := Lib.hid hz
    have hts : t.size ≤ 1048576000 := by omega
    have hadd : ∀ W, (Op.stringOp .add t s).run Try.prog W = .ok (.string (t ++ s)) W := fun W => run_string_add_sum W _ _ (by omega)
    clear hx hz hz2
    by_cases hlt : k < n
    · clear ht
      go_wp2_with fail
      go_round
      case rel => exact ⟨k + 1, by omega, by go_num, by rw [HX.out]⟩
      case measure => simp [intOf]; omega
    · obtain rfl : k = n := by omega
      have HT := Lib.hid ht
      clear ht
      go_wp2_with fail
      go_ret
      exact ⟨ret_str HT.out.symm, rfl⟩

theorem max_take (ss : List ByteArray) (j : Nat) (s : ByteArray) (h : ss[j]? = some s) : maxSz (ss.take (j + 1)) = max (maxSz (ss.take j)) s.size := by
  obtain ⟨h1, h2⟩ := List.getElem?_eq_some_iff.1 h
  rw [maxSz_take_succ ss j h1, h2]

set_option maxHeartbeats 4000000 in
theorem lawFnXor (A : Option Addr) (n c : Nat) (bs : List UInt8) (w : World) (h : ByteRow w A n bs) (hnc : n ≤ c) :
    Calls Try.prog 3 #[.slice A n c] w fun e w' => e = .returned (.bool true) ∧ Below w.heap.size w w' := by
  have hle := h.le
  unfold maxLen at hle
  by_cases hn : n ≤ 1048576
  · go_enter Try.func3, Try.ntmps3
    go_wp2_with fail
    refine (specDrawXorTexts A n c bs _ h hnc).mono ?_
    rintro e w1 ⟨A1, m, c1, ss, rfl, hown1, hm5, hss, hb1⟩
    have hsl : ss.length = m := by have := hown1.1; simpa using this
    have hrow1 := Row.of_own hown1
    have hz1 := hb1.size
    have hs2 : ∀ s ∈ ss, s.size ≤ 1048576 := fun s hs => by have := hss s hs; omega
    have hmx9 : maxSz ss ≤ 9 := maxSz_le hss
    obtain ⟨x, hx⟩ : ∃ x, xorAll ss = x := ⟨_, rfl⟩
    have hxs : x.size = maxSz ss := by rw [← hx, xorAll_size]
    have HI := fun W h1 h2 => implXorTexts A1 m c1 w1.heap.size ss W hsl h1 h2 (by omega) hs2
    have HS := fun W h1 h2 => specXorTexts A1 m c1 w1.heap.size ss W hsl h1 h2 (by omega) hs2
    rw [hx] at HI HS
    have HI := Lib.hid HI
    have HS := Lib.hid HS
    have hx9 : x.size ≤ 9 := by omega
    -- what the two further sums are
    have hrl : ss.reverse.length = m := by simpa using hsl
    have hrs : ∀ s ∈ ss.reverse, s.size ≤ 1048576 := fun s hs => hs2 s (List.mem_reverse.1 hs)
    have hts : ∀ s ∈ x :: ss.reverse, s.size ≤ 1048576 := fun s hs => by
      rcases List.mem_cons.1 hs with rfl | h
      · omega
      · exact hrs s h
    have h1s : ∀ s ∈ [x], s.size ≤ 1048576 := fun s hs => by simp at hs; subst hs; omega
    have hZ : xorAll (x :: ss.reverse) = repB ⟨#[0]⟩ (maxSz ss) := by rw [← hx, xorAll_twice]
    have hR : xorAll ss.reverse = x := by rw [xorAll_reverse, hx]
    obtain ⟨Z, hZe⟩ : ∃ Z, repB ⟨#[0]⟩ (maxSz ss) = Z := ⟨_, rfl⟩
    rw [hZe] at hZ
    have X1 := fun A c B W h1 h2 => implXorTexts A (m + 1) c B (x :: ss.reverse) W (by rw [List.length_cons, hrl]) h1 h2 (by omega) hts
    have X2 := fun A c B W h1 h2 => implXorTexts A m c B ss.reverse W hrl h1 h2 (by omega) hrs
    have X3 := fun A c B W h1 h2 => implXorTexts A 1 c B [x] W rfl h1 h2 (by omega) h1s
    rw [hZ] at X1
    rw [hR] at X2
    rw [xorAll_one] at X3
    obtain ⟨mx, hmx⟩ : ∃ k, maxSz ss = k := ⟨_, rfl⟩
    rw [hmx] at hmx9 hxs hZe
    have X4 := fun W => lawsSoMany ⟨#[0]⟩ mx W (by omega) (by show 1 ≤ 1000; omega)
    rw [hZe] at X4
    have X1 := Lib.hid X1
    have X2 := Lib.hid X2
    have X3 := Lib.hid X3
    have X4 := Lib.hid X4
    have HL := Lib.hid hsl
    have HRL := Lib.hid hrl
    have HMX := Lib.hid hmx
    have HXS := Lib.hid hxs
    have hrget : ∀ j, j < m → ∃ s, ss.reverse[j]? = some s ∧ ss[m - 1 - j]? = some s ∧ s.size ≤ 9 := fun j hj => by
      have h1 : j < ss.reverse.length := by omega
      refine ⟨ss.reverse[j], List.getElem?_eq_getElem h1, ?_, hss _ (List.mem_reverse.1 (List.getElem_mem h1))⟩
      rw [List.getElem_reverse]
      rw [List.getElem?_eq_getElem (by omega)]
      congr 1
      simp [hsl]
    have HG := Lib.hid hrget
    have hb0 : Below w.heap.size w w1 := hb1
    clear hx hZ hR hZe hss hs2 hts h1s hrs hsl hrl hmx hxs hown1 hrget hb1
    go_wp2_with fail
    refine (HI.out _ hrow1 (Nat.le_refl _)).mono ?_
    rintro e w2 ⟨rfl, hb2⟩
    have hrow2 := hrow1.below hb2 (Nat.le_refl _)
    have hz2 := hb2.size
    have hb02 := hb0.trans (hb2.mono hz1)
    go_wp2_with fail
    refine (HS.out _ hrow2 hz2).mono ?_
    rintro e w3 ⟨rfl, hb3⟩
    have hrow3 := hrow2.below hb3 hz2
    have hz3 := hb3.size
    have hb03 := hb02.trans (hb3.mono hb02.size)
    have hz03 := hb03.size
    have hz2' : w1.heap.size ≤ w3.heap.size := Nat.le_trans hz2 hz3
    clear hb0 hb2 hb02 hb3 hrow1 hrow2
    go_wp2_with fail
    go_loopw [5, 6, 7] (fun v q i wr => ∃ (j : Nat) (k : Nat), j ≤ m ∧ i = .int .i64 ((m : Int) - 1 - j) ∧ q = .int .i64 (k : Int) ∧ Hid (maxSz (ss.reverse.take j) = k) ∧ k ≤ 9 ∧ wr.ownsRow w3.heap.size 9 1 v (j + 1) ((x :: ss.reverse.take j).map .string) ∧ Below w3.heap.size w3 wr) (fun _ _ i _ => (intOf i + 1).toNat)
    case atStart => exact ⟨0, 0, Nat.zero_le _, by simp, rfl, Lib.hid (by simp [maxSz]), by omega, World.ownsRow_lit (base := w3.heap.size) (size := 1) (e := 9) w3 #[.string x] 1 (Nat.le_refl _) (by unfold maxLen; omega) rfl, (Below.refl _ _).alloc (Nat.le_refl _) _⟩
    case round =>
      obtain ⟨j, k, hj, rfl, rfl, HK, hk9, hown, hbel⟩ := hrel
      have hwz := hbel.size
      obtain ⟨Av, cv, rfl, _, _⟩ := own_form hown
      by_cases hlt : j < m
      · obtain ⟨s, hs1, hs2, hs9⟩ := HG.out j hlt
        obtain ⟨q, hq⟩ : ∃ q, m - 1 - j = q := ⟨_, rfl⟩
        rw [hq] at hs2
        have eq : (m : Int) - 1 - j = q := by omega
        have hqm : q < m := by omega
        have hm := max_take _ j s hs1
        rw [HK.out] at hm
        obtain ⟨k', hk'⟩ : ∃ k', max k s.size = k' := ⟨_, rfl⟩
        rw [hk'] at hm
        have emax : max (k : Int) (s.size : Int) = k' := by omega
        have hk9' : k' ≤ 9 := by omega
        obtain ⟨b, off, rfl, hbl, hc⟩ := (hrow3.below hbel hz2').2 (by omega)
        have hcell : wr.cell? ⟨b, off + q, none⟩ = some (.string s) := hc q _ (by simp [hs2])
        have htk : (x :: ss.reverse.take (j + 1)).map Value.string = (x :: ss.reverse.take j).map Value.string ++ [.string s] := by
          obtain ⟨h1, h2⟩ := List.getElem?_eq_some_iff.1 hs1
          rw [List.take_succ_eq_append_getElem h1, h2]; simp
        have HTK := Lib.hid htk
        have HM := Lib.hid hm
        have hq1 : (m : Int) - 1 - ((j + 1 : Nat) : Int) = (q : Int) - 1 := by omega
        have HQ1 := Lib.hid hq1
        have i1 : (0 : Int) ≤ q := by omega
        have i2 : (q : Int) < m := by omega
        rw [eq]
        have HEQ := Lib.hid eq
        have hcell' : ∀ o, (wr.alloc o).cell? ⟨b, off + q, none⟩ = some (.string s) := fun o => by rw [World.cell?_alloc_lt _ _ _ (by show b < _; omega)]; exact hcell
        have HS2 := Lib.hid hs2
        have HKK := Lib.hid hk'
        clear hc hs1 hs2 hq htk hm hq1 eq hk' emax
        go_wp2_with (first
          | (at_builtin; refine wpList_append_row _ elemStr rfl (.tmp 28) (.tmp 33) rfl w3.heap.size _ _ _ rfl (hown.alloc _) _ _ 1 1 [.string s] rfl (Row.newAt _ wr.heap.size rfl _ [.string s] 1 1 rfl) ?_ ?_ ?_ ?_ ?_))
        · intro u hu; simp at hu; subst hu; rfl
        · unfold maxLen; omega
        · omega
        · simp; omega
        · intro v4 w4 hv4 hg4 _
          have hbel4 : Below w3.heap.size w3 w4 := (hbel.alloc hwz _).grown hg4 (by simp; omega) (fun g hg => (hown.lt g hg).1)
          have hv4' : w4.ownsRow w3.heap.size 9 1 v4 (j + 1 + 1) ((x :: ss.reverse.take (j + 1)).map .string) := by rw [HTK.out]; simpa using hv4
          have hcell4 : w4.cell? ⟨b, off + q, none⟩ = some (.string s) := by
            have h1 := (hrow3.below hbel4 hz2').2 (by omega)
            obtain ⟨b2, off2, e2, hb2, hc2⟩ := h1
            injection e2 with e2
            injection e2 with e2 e3
            subst e2 e3
            exact hc2 q _ (by simp [HS2.out])
          clear hown hbel hg4 hv4 hcell hcell'
          go_wp2_with fail
          go_roundw
          case rel => exact ⟨j + 1, k', by omega, by rw [HQ1.out], by have := HKK.out; congr 1; split <;> omega, HM, hk9', hv4', hbel4⟩
          case measure => simp [intOf]
      · obtain rfl : j = m := by omega
        have e1 : (j : Int) - 1 - j = -1 := by omega
        rw [e1]
        have ht : ss.reverse.take j = ss.reverse := List.take_of_length_le (by rw [HRL.out]; omega)
        rw [ht] at hown HK
        have hkm : k = mx := by rw [← HK.out, ← HMX.out, maxSz_reverse]
        subst hkm
        obtain ⟨g5, rfl, hg5, hg5l⟩ := own_addr hown (by omega)
        have hrT := Row.of_own hown
        have hncv : j + 1 ≤ cv := by
          obtain ⟨_, _, hh, h, _⟩ := own_form hown
          simp only [Value.slice.injEq] at hh
          omega
        have hrS : Row wr wr.heap.size 1 (some ⟨g5, 1, none⟩) j (ss.reverse.map .string) := by
          refine ⟨by simp; have := HL.out; omega, fun hn => ⟨g5, 1, rfl, hg5l, fun i u hu => ?_⟩⟩
          obtain ⟨b2, off2, e2, hb2, hc2⟩ := hrT.2 (by omega)
          injection e2 with e2
          injection e2 with e2 e3
          subst e2 e3
          have := hc2 (i + 1) u (by simpa using hu)
          rwa [Nat.zero_add, Nat.add_comm] at this
        have hcv0 : ∀ (W : World) (a : Addr), W.cell? a = some (.int .u8 0) → (convert 22 9 (.slice (some a) 1 1)).run Try.prog W = .ok (.string ⟨#[0]⟩) W := fun W a h => run_one_byte (P := Try.prog) Try.underlying22 Try.underlying5 Try.underlying9 0 (by omega) W a h
        have hj1 : (1 : Int) ≤ ((j + 1 : Nat) : Int) := by omega
        have hj2 : (1 : Int) ≤ (cv : Int) := by omega
        have hxm : ((x.size : Int) == k) = true := by have := HXS.out; rw [beq_iff_eq]; omega
        clear e1 ht hown
        by_cases hcv : cv = 1
        · obtain rfl : j = 0 := by omega
          subst hcv
          have hre : ss.reverse = [] := List.eq_nil_of_length_eq_zero HRL.out
          have hrS0 : Row wr wr.heap.size 1 (some ⟨g5, 0, none⟩) 0 (ss.reverse.map .string) := by rw [hre]; exact Row.none_
          clear hre hrS
          go_wp2_with fail
          refine wp_region_any (by kernel_rfl) ?_
          change wpAny _ _ _ _ _ _ _ (World.drew _)
          refine wpAny_take (i := 0) (v := .slice (some ⟨g5, 0, none⟩) (0 + 1) 1) rfl (by kernel_rfl) (by kernel_rfl) (by kernel_rfl) (fun _ _ _ h => h) (Or.inl ⟨by kernel_rfl, fun w => by go_simp⟩) ?_
          refine wpAny_take (i := 4) (v := .int .i64 (k : Int)) rfl (by kernel_rfl) (by kernel_rfl) (by kernel_rfl) (fun _ _ _ h => h) (Or.inl ⟨by kernel_rfl, fun w => by go_simp⟩) ?_
          refine wpAny_ready (rs := [1, 2]) (by kernel_rfl) (by simp) ?_
          refine AllReady.cons rfl (fun K hK => ?_) (AllReady.cons rfl (fun K hK => ?_) AllReady.nil)
          · go_simp
            go_wp2_with (go_at_call 7; refine (X1.out _ _ wr.heap.size _ (hrT.below ((Below.refl _ _).drew) (Nat.le_refl _)) (by simp)).mono ?_; rintro e wa ⟨rfl, hbwa⟩)
            have hBa : Below wr.heap.size wr wa := (Below.refl _ _).drew.trans (hbwa.mono (by simp))
            have hBas := hBa.size
            refine wpAny_ready (rs := [2]) (by kernel_rfl) (by simp) ?_
            refine AllReady.cons rfl (fun K hK => ?_) AllReady.nil
            go_simp
            refine hK _ _ ?_
            clear hK K
            refine wpAny_ready (rs := [3]) (by kernel_rfl) (by simp) ?_
            refine AllReady.cons rfl (fun K hK => ?_) AllReady.nil
            go_simp
            refine hK _ _ ?_
            clear hK K
            refine wpAny_ready (rs := [5]) (by kernel_rfl) (by simp) ?_
            refine AllReady.cons rfl (fun K hK => ?_) AllReady.nil
            go_simp
            go_wp2_with (go_at_call 9; refine (X4.out _).mono ?_; rintro e wm ⟨rfl, rfl⟩)
            have hB1 : Below wr.heap.size wr (wa.alloc (.cells #[.int .u8 0] 5)) := hBa.alloc hBas _
            have hB1s := hB1.size
            refine wpAny_take (i := 6) (v := .bool true) rfl (by kernel_rfl) (by kernel_rfl) (by kernel_rfl) (fun _ _ _ h => h) (Or.inl ⟨by kernel_rfl, fun w => by go_simp⟩) ?_
            refine wpAny_take (i := 7) (v := .bool true) rfl (by kernel_rfl) (by kernel_rfl) (by kernel_rfl) (fun _ _ _ h => h) (Or.inl ⟨by kernel_rfl, fun w => by go_simp⟩) ?_
            refine wpAny_take (i := 8) (v := .slice (some ⟨g5, 0, none⟩) (0 + 1) 1) rfl (by kernel_rfl) (by kernel_rfl) (by kernel_rfl) (fun _ _ _ h => h) (Or.inl ⟨by kernel_rfl, fun w => by go_simp⟩) ?_
            refine wpAny_take (i := 9) (v := .slice (some ⟨g5, 0, none⟩) 0 0) rfl (by kernel_rfl) (by kernel_rfl) (by kernel_rfl) (fun _ _ _ h => h) (Or.inl ⟨by kernel_rfl, fun w => by go_simp⟩) ?_
            refine wpAny_take (i := 11) (v := .string x) rfl (by kernel_rfl) (by kernel_rfl) (by kernel_rfl) (fun _ _ _ h => h) (Or.inl ⟨by kernel_rfl, fun w => by go_simp⟩) ?_
            refine wpAny_ready (rs := [10]) (by kernel_rfl) (by simp) ?_
            refine AllReady.cons rfl (fun K hK => ?_) AllReady.nil
            go_simp
            go_wp2_with (go_at_call 7; refine (X2.out _ _ wr.heap.size _ (hrS0.below hB1 (Nat.le_refl _)) hB1s).mono ?_; rintro e wz ⟨rfl, hbz⟩)
            have hB2 : Below wr.heap.size wr wz := hB1.trans (hbz.mono hB1s)
            have hB2s := hB2.size
            refine wpAny_take (i := 12) (v := .bool true) rfl (by kernel_rfl) (by kernel_rfl) (by kernel_rfl) (fun _ _ _ h => h) (Or.inl ⟨by kernel_rfl, fun w => by go_simp⟩) ?_
            refine wpAny_take (i := 13) (v := .bool true) rfl (by kernel_rfl) (by kernel_rfl) (by kernel_rfl) (fun _ _ _ h => h) (Or.inl ⟨by kernel_rfl, fun w => by go_simp⟩) ?_
            refine wpAny_take (i := 14) (v := .bool true) rfl (by kernel_rfl) (by kernel_rfl) (by kernel_rfl) (fun _ _ _ h => h) (Or.inl ⟨by kernel_rfl, fun w => by go_simp⟩) ?_
            refine wpAny_take (i := 15) (v := .string x) rfl (by kernel_rfl) (by kernel_rfl) (by kernel_rfl) (fun _ _ _ h => h) (Or.inl ⟨by kernel_rfl, fun w => by go_simp⟩) ?_
            refine wpAny_take (i := 16) (v := .int .i64 (x.size : Int)) rfl (by kernel_rfl) (by kernel_rfl) (by kernel_rfl) (fun _ _ _ h => h) (Or.inl ⟨by kernel_rfl, fun w => by go_simp⟩) ?_
            refine wpAny_take (i := 17) (v := .int .i64 (k : Int)) rfl (by kernel_rfl) (by kernel_rfl) (by kernel_rfl) (fun _ _ _ h => h) (Or.inl ⟨by kernel_rfl, fun w => by go_simp⟩) ?_
            refine wpAny_take (i := 18) (v := .bool true) rfl (by kernel_rfl) (by kernel_rfl) (by kernel_rfl) (fun _ _ _ h => h) (Or.inl ⟨by kernel_rfl, fun w => by go_simp⟩) ?_
            refine wpAny_take (i := 19) (v := .bool true) rfl (by kernel_rfl) (by kernel_rfl) (by kernel_rfl) (fun _ _ _ h => h) (Or.inl ⟨by kernel_rfl, fun w => by go_simp⟩) ?_
            refine wpAny_take (i := 20) (v := .bool true) rfl (by kernel_rfl) (by kernel_rfl) (by kernel_rfl) (fun _ _ _ h => h) (Or.inl ⟨by kernel_rfl, fun w => by go_simp⟩) ?_
            refine wpAny_take (i := 21) (v := .string x) rfl (by kernel_rfl) (by kernel_rfl) (by kernel_rfl) (fun _ _ _ h => h) (Or.inl ⟨by kernel_rfl, fun w => by go_simp⟩) ?_
            refine wpAny_take (i := 24) (v := .string x) rfl (by kernel_rfl) (by kernel_rfl) (by kernel_rfl) (fun _ _ _ h => h) (Or.inl ⟨by kernel_rfl, fun w => by go_simp⟩) ?_
            refine wpAny_ready (rs := [22]) (by kernel_rfl) (by simp) ?_
            refine AllReady.cons rfl (fun K hK => ?_) AllReady.nil
            go_simp
            refine hK _ _ ?_
            clear hK K
            refine wpAny_ready (rs := [23]) (by kernel_rfl) (by simp) ?_
            refine AllReady.cons rfl (fun K hK => ?_) AllReady.nil
            go_simp
            go_wp2_with (go_at_call 7; refine (X3.out _ _ _ _ (Row.newAt _ _ rfl _ [.string x] 1 1 rfl) (by simp)).mono ?_; rintro e wy ⟨rfl, hby⟩)
            have hB3 : Below wr.heap.size wr wy := (hB2.alloc hB2s _).trans (hby.mono (by simp; omega))
            refine wpAny_take (i := 25) (v := .bool true) rfl (by kernel_rfl) (by kernel_rfl) (by kernel_rfl) (fun _ _ _ h => h) (Or.inl ⟨by kernel_rfl, fun w => by go_simp⟩) ?_
            refine wpAny_take (i := 26) (v := .bool true) rfl (by kernel_rfl) (by kernel_rfl) (by kernel_rfl) (fun _ _ _ h => h) (Or.inl ⟨by kernel_rfl, fun w => by go_simp⟩) ?_
            refine wpAny_take (i := 27) (v := .bool true) rfl (by kernel_rfl) (by kernel_rfl) (by kernel_rfl) (fun _ _ _ h => h) (Or.inl ⟨by kernel_rfl, fun w => by go_simp⟩) ?_
            refine wpAny_done (by kernel_rfl) ?_ _
            simp only [List.getElem_toArray, List.getElem_cons_succ, List.getElem_cons_zero, Act.put, List.setIfInBounds_toArray, List.set_cons_succ, List.set_cons_zero]
            go_wp2_with fail
            go_ret
            exact ⟨rfl, (hb03.trans (hbel.mono hz03)).trans (hB3.mono (by omega))⟩
          · go_simp
            refine hK _ _ ?_
            clear hK K
            refine wpAny_ready (rs := [1, 3]) (by kernel_rfl) (by simp) ?_
            refine AllReady.cons rfl (fun K hK => ?_) (AllReady.cons rfl (fun K hK => ?_) AllReady.nil)
            · go_simp
              go_wp2_with (go_at_call 7; refine (X1.out _ _ wr.heap.size _ (hrT.below (((Below.refl _ _).alloc (Nat.le_refl _) _).drew) (Nat.le_refl _)) (by simp)).mono ?_; rintro e wa ⟨rfl, hbwa⟩)
              have hBa : Below wr.heap.size wr wa := ((Below.refl _ _).alloc (Nat.le_refl _) _).drew.trans (hbwa.mono (by simp))
              have hBas := hBa.size
              have hca := (bcell hbwa).1
              refine wpAny_ready (rs := [3]) (by kernel_rfl) (by simp) ?_
              refine AllReady.cons rfl (fun K hK => ?_) AllReady.nil
              go_simp
              refine hK _ _ ?_
              clear hK K
              clear hca
              refine wpAny_ready (rs := [5]) (by kernel_rfl) (by simp) ?_
              refine AllReady.cons rfl (fun K hK => ?_) AllReady.nil
              go_simp
              go_wp2_with (go_at_call 9; refine (X4.out _).mono ?_; rintro e wm ⟨rfl, rfl⟩)
              have hB1 : Below wr.heap.size wr wa := hBa
              have hB1s := hB1.size
              refine wpAny_take (i := 6) (v := .bool true) rfl (by kernel_rfl) (by kernel_rfl) (by kernel_rfl) (fun _ _ _ h => h) (Or.inl ⟨by kernel_rfl, fun w => by go_simp⟩) ?_
              refine wpAny_take (i := 7) (v := .bool true) rfl (by kernel_rfl) (by kernel_rfl) (by kernel_rfl) (fun _ _ _ h => h) (Or.inl ⟨by kernel_rfl, fun w => by go_simp⟩) ?_
              refine wpAny_take (i := 8) (v := .slice (some ⟨g5, 0, none⟩) (0 + 1) 1) rfl (by kernel_rfl) (by kernel_rfl) (by kernel_rfl) (fun _ _ _ h => h) (Or.inl ⟨by kernel_rfl, fun w => by go_simp⟩) ?_
              refine wpAny_take (i := 9) (v := .slice (some ⟨g5, 0, none⟩) 0 0) rfl (by kernel_rfl) (by kernel_rfl) (by kernel_rfl) (fun _ _ _ h => h) (Or.inl ⟨by kernel_rfl, fun w => by go_simp⟩) ?_
              refine wpAny_take (i := 11) (v := .string x) rfl (by kernel_rfl) (by kernel_rfl) (by kernel_rfl) (fun _ _ _ h => h) (Or.inl ⟨by kernel_rfl, fun w => by go_simp⟩) ?_
              refine wpAny_ready (rs := [10]) (by kernel_rfl) (by simp) ?_
              refine AllReady.cons rfl (fun K hK => ?_) AllReady.nil
              go_simp
              go_wp2_with (go_at_call 7; refine (X2.out _ _ wr.heap.size _ (hrS0.below hB1 (Nat.le_refl _)) hB1s).mono ?_; rintro e wz ⟨rfl, hbz⟩)
              have hB2 : Below wr.heap.size wr wz := hB1.trans (hbz.mono hB1s)
              have hB2s := hB2.size
              refine wpAny_take (i := 12) (v := .bool true) rfl (by kernel_rfl) (by kernel_rfl) (by kernel_rfl) (fun _ _ _ h => h) (Or.inl ⟨by kernel_rfl, fun w => by go_simp⟩) ?_
              refine wpAny_take (i := 13) (v := .bool true) rfl (by kernel_rfl) (by kernel_rfl) (by kernel_rfl) (fun _ _ _ h => h) (Or.inl ⟨by kernel_rfl, fun w => by go_simp⟩) ?_
              refine wpAny_take (i := 14) (v := .bool true) rfl (by kernel_rfl) (by kernel_rfl) (by kernel_rfl) (fun _ _ _ h => h) (Or.inl ⟨by kernel_rfl, fun w => by go_simp⟩) ?_
              refine wpAny_take (i := 15) (v := .string x) rfl (by kernel_rfl) (by kernel_rfl) (by kernel_rfl) (fun _ _ _ h => h) (Or.inl ⟨by kernel_rfl, fun w => by go_simp⟩) ?_
              refine wpAny_take (i := 16) (v := .int .i64 (x.size : Int)) rfl (by kernel_rfl) (by kernel_rfl) (by kernel_rfl) (fun _ _ _ h => h) (Or.inl ⟨by kernel_rfl, fun w => by go_simp⟩) ?_
              refine wpAny_take (i := 17) (v := .int .i64 (k : Int)) rfl (by kernel_rfl) (by kernel_rfl) (by kernel_rfl) (fun _ _ _ h => h) (Or.inl ⟨by kernel_rfl, fun w => by go_simp⟩) ?_
              refine wpAny_take (i := 18) (v := .bool true) rfl (by kernel_rfl) (by kernel_rfl) (by kernel_rfl) (fun _ _ _ h => h) (Or.inl ⟨by kernel_rfl, fun w => by go_simp⟩) ?_
              refine wpAny_take (i := 19) (v := .bool true) rfl (by kernel_rfl) (by kernel_rfl) (by kernel_rfl) (fun _ _ _ h => h) (Or.inl ⟨by kernel_rfl, fun w => by go_simp⟩) ?_
              refine wpAny_take (i := 20) (v := .bool true) rfl (by kernel_rfl) (by kernel_rfl) (by kernel_rfl) (fun _ _ _ h => h) (Or.inl ⟨by kernel_rfl, fun w => by go_simp⟩) ?_
              refine wpAny_take (i := 21) (v := .string x) rfl (by kernel_rfl) (by kernel_rfl) (by kernel_rfl) (fun _ _ _ h => h) (Or.inl ⟨by kernel_rfl, fun w => by go_simp⟩) ?_
              refine wpAny_take (i := 24) (v := .string x) rfl (by kernel_rfl) (by kernel_rfl) (by kernel_rfl) (fun _ _ _ h => h) (Or.inl ⟨by kernel_rfl, fun w => by go_simp⟩) ?_
              refine wpAny_ready (rs := [22]) (by kernel_rfl) (by simp) ?_
              refine AllReady.cons rfl (fun K hK => ?_) AllReady.nil
              go_simp
              refine hK _ _ ?_
              clear hK K
              refine wpAny_ready (rs := [23]) (by kernel_rfl) (by simp) ?_
              refine AllReady.cons rfl (fun K hK => ?_) AllReady.nil
              go_simp
              go_wp2_with (go_at_call 7; refine (X3.out _ _ _ _ (Row.newAt _ _ rfl _ [.string x] 1 1 rfl) (by simp)).mono ?_; rintro e wy ⟨rfl, hby⟩)
              have hB3 : Below wr.heap.size wr wy := (hB2.alloc hB2s _).trans (hby.mono (by simp; omega))
              refine wpAny_take (i := 25) (v := .bool true) rfl (by kernel_rfl) (by kernel_rfl) (by kernel_rfl) (fun _ _ _ h => h) (Or.inl ⟨by kernel_rfl, fun w => by go_simp⟩) ?_
              refine wpAny_take (i := 26) (v := .bool true) rfl (by kernel_rfl) (by kernel_rfl) (by kernel_rfl) (fun _ _ _ h => h) (Or.inl ⟨by kernel_rfl, fun w => by go_simp⟩) ?_
              refine wpAny_take (i := 27) (v := .bool true) rfl (by kernel_rfl) (by kernel_rfl) (by kernel_rfl) (fun _ _ _ h => h) (Or.inl ⟨by kernel_rfl, fun w => by go_simp⟩) ?_
              refine wpAny_done (by kernel_rfl) ?_ _
              simp only [List.getElem_toArray, List.getElem_cons_succ, List.getElem_cons_zero, Act.put, List.setIfInBounds_toArray, List.set_cons_succ, List.set_cons_zero]
              go_wp2_with fail
              go_ret
              exact ⟨rfl, (hb03.trans (hbel.mono hz03)).trans (hB3.mono (by omega))⟩
            · go_simp
              refine hK _ _ ?_
              clear hK K
              refine wpAny_ready (rs := [1]) (by kernel_rfl) (by simp) ?_
              refine AllReady.cons rfl (fun K hK => ?_) AllReady.nil
              go_simp
              go_wp2_with (go_at_call 7; refine (X1.out _ _ wr.heap.size _ (hrT.below (((Below.refl _ _).alloc (Nat.le_refl _) _).drew) (Nat.le_refl _)) (by simp)).mono ?_; rintro e wa ⟨rfl, hbwa⟩)
              have hBa : Below wr.heap.size wr wa := ((Below.refl _ _).alloc (Nat.le_refl _) _).drew.trans (hbwa.mono (by simp))
              have hBas := hBa.size
              refine wpAny_ready (rs := [5]) (by kernel_rfl) (by simp) ?_
              refine AllReady.cons rfl (fun K hK => ?_) AllReady.nil
              go_simp
              go_wp2_with (go_at_call 9; refine (X4.out _).mono ?_; rintro e wm ⟨rfl, rfl⟩)
              have hB1 : Below wr.heap.size wr wa := hBa
              have hB1s := hB1.size
              refine wpAny_take (i := 6) (v := .bool true) rfl (by kernel_rfl) (by kernel_rfl) (by kernel_rfl) (fun _ _ _ h => h) (Or.inl ⟨by kernel_rfl, fun w => by go_simp⟩) ?_
              refine wpAny_take (i := 7) (v := .bool true) rfl (by kernel_rfl) (by kernel_rfl) (by kernel_rfl) (fun _ _ _ h => h) (Or.inl ⟨by kernel_rfl, fun w => by go_simp⟩) ?_
              refine wpAny_take (i := 8) (v := .slice (some ⟨g5, 0, none⟩) (0 + 1) 1) rfl (by kernel_rfl) (by kernel_rfl) (by kernel_rfl) (fun _ _ _ h => h) (Or.inl ⟨by kernel_rfl, fun w => by go_simp⟩) ?_
              refine wpAny_take (i := 9) (v := .slice (some ⟨g5, 0, none⟩) 0 0) rfl (by kernel_rfl) (by kernel_rfl) (by kernel_rfl) (fun _ _ _ h => h) (Or.inl ⟨by kernel_rfl, fun w => by go_simp⟩) ?_
              refine wpAny_take (i := 11) (v := .string x) rfl (by kernel_rfl) (by kernel_rfl) (by kernel_rfl) (fun _ _ _ h => h) (Or.inl ⟨by kernel_rfl, fun w => by go_simp⟩) ?_
              refine wpAny_ready (rs := [10]) (by kernel_rfl) (by simp) ?_
              refine AllReady.cons rfl (fun K hK => ?_) AllReady.nil
              go_simp
              go_wp2_with (go_at_call 7; refine (X2.out _ _ wr.heap.size _ (hrS0.below hB1 (Nat.le_refl _)) hB1s).mono ?_; rintro e wz ⟨rfl, hbz⟩)
              have hB2 : Below wr.heap.size wr wz := hB1.trans (hbz.mono hB1s)
              have hB2s := hB2.size
              refine wpAny_take (i := 12) (v := .bool true) rfl (by kernel_rfl) (by kernel_rfl) (by kernel_rfl) (fun _ _ _ h => h) (Or.inl ⟨by kernel_rfl, fun w => by go_simp⟩) ?_
              refine wpAny_take (i := 13) (v := .bool true) rfl (by kernel_rfl) (by kernel_rfl) (by kernel_rfl) (fun _ _ _ h => h) (Or.inl ⟨by kernel_rfl, fun w => by go_simp⟩) ?_
              refine wpAny_take (i := 14) (v := .bool true) rfl (by kernel_rfl) (by kernel_rfl) (by kernel_rfl) (fun _ _ _ h => h) (Or.inl ⟨by kernel_rfl, fun w => by go_simp⟩) ?_
              refine wpAny_take (i := 15) (v := .string x) rfl (by kernel_rfl) (by kernel_rfl) (by kernel_rfl) (fun _ _ _ h => h) (Or.inl ⟨by kernel_rfl, fun w => by go_simp⟩) ?_
              refine wpAny_take (i := 16) (v := .int .i64 (x.size : Int)) rfl (by kernel_rfl) (by kernel_rfl) (by kernel_rfl) (fun _ _ _ h => h) (Or.inl ⟨by kernel_rfl, fun w => by go_simp⟩) ?_
              refine wpAny_take (i := 17) (v := .int .i64 (k : Int)) rfl (by kernel_rfl) (by kernel_rfl) (by kernel_rfl) (fun _ _ _ h => h) (Or.inl ⟨by kernel_rfl, fun w => by go_simp⟩) ?_
              refine wpAny_take (i := 18) (v := .bool true) rfl (by kernel_rfl) (by kernel_rfl) (by kernel_rfl) (fun _ _ _ h => h) (Or.inl ⟨by kernel_rfl, fun w => by go_simp⟩) ?_
              refine wpAny_take (i := 19) (v := .bool true) rfl (by kernel_rfl) (by kernel_rfl) (by kernel_rfl) (fun _ _ _ h => h) (Or.inl ⟨by kernel_rfl, fun w => by go_simp⟩) ?_
              refine wpAny_take (i := 20) (v := .bool true) rfl (by kernel_rfl) (by kernel_rfl) (by kernel_rfl) (fun _ _ _ h => h) (Or.inl ⟨by kernel_rfl, fun w => by go_simp⟩) ?_
              refine wpAny_take (i := 21) (v := .string x) rfl (by kernel_rfl) (by kernel_rfl) (by kernel_rfl) (fun _ _ _ h => h) (Or.inl ⟨by kernel_rfl, fun w => by go_simp⟩) ?_
              refine wpAny_take (i := 24) (v := .string x) rfl (by kernel_rfl) (by kernel_rfl) (by kernel_rfl) (fun _ _ _ h => h) (Or.inl ⟨by kernel_rfl, fun w => by go_simp⟩) ?_
              refine wpAny_ready (rs := [22]) (by kernel_rfl) (by simp) ?_
              refine AllReady.cons rfl (fun K hK => ?_) AllReady.nil
              go_simp
              refine hK _ _ ?_
              clear hK K
              refine wpAny_ready (rs := [23]) (by kernel_rfl) (by simp) ?_
              refine AllReady.cons rfl (fun K hK => ?_) AllReady.nil
              go_simp
              go_wp2_with (go_at_call 7; refine (X3.out _ _ _ _ (Row.newAt _ _ rfl _ [.string x] 1 1 rfl) (by simp)).mono ?_; rintro e wy ⟨rfl, hby⟩)
              have hB3 : Below wr.heap.size wr wy := (hB2.alloc hB2s _).trans (hby.mono (by simp; omega))
              refine wpAny_take (i := 25) (v := .bool true) rfl (by kernel_rfl) (by kernel_rfl) (by kernel_rfl) (fun _ _ _ h => h) (Or.inl ⟨by kernel_rfl, fun w => by go_simp⟩) ?_
              refine wpAny_take (i := 26) (v := .bool true) rfl (by kernel_rfl) (by kernel_rfl) (by kernel_rfl) (fun _ _ _ h => h) (Or.inl ⟨by kernel_rfl, fun w => by go_simp⟩) ?_
              refine wpAny_take (i := 27) (v := .bool true) rfl (by kernel_rfl) (by kernel_rfl) (by kernel_rfl) (fun _ _ _ h => h) (Or.inl ⟨by kernel_rfl, fun w => by go_simp⟩) ?_
              refine wpAny_done (by kernel_rfl) ?_ _
              simp only [List.getElem_toArray, List.getElem_cons_succ, List.getElem_cons_zero, Act.put, List.setIfInBounds_toArray, List.set_cons_succ, List.set_cons_zero]
              go_wp2_with fail
              go_ret
              exact ⟨rfl, (hb03.trans (hbel.mono hz03)).trans (hB3.mono (by omega))⟩
        · go_wp2_with fail
          refine wp_region_any (by kernel_rfl) ?_
          change wpAny _ _ _ _ _ _ _ (World.drew _)
          refine wpAny_take (i := 0) (v := .slice (some ⟨g5, 0, none⟩) (j + 1) cv) rfl (by kernel_rfl) (by kernel_rfl) (by kernel_rfl) (fun _ _ _ h => h) (Or.inl ⟨by kernel_rfl, fun w => by go_simp⟩) ?_
          refine wpAny_take (i := 4) (v := .int .i64 (k : Int)) rfl (by kernel_rfl) (by kernel_rfl) (by kernel_rfl) (fun _ _ _ h => h) (Or.inl ⟨by kernel_rfl, fun w => by go_simp⟩) ?_
          refine wpAny_ready (rs := [1, 2]) (by kernel_rfl) (by simp) ?_
          refine AllReady.cons rfl (fun K hK => ?_) (AllReady.cons rfl (fun K hK => ?_) AllReady.nil)
          · go_simp
            go_wp2_with (go_at_call 7; refine (X1.out _ _ wr.heap.size _ (hrT.below ((Below.refl _ _).drew) (Nat.le_refl _)) (by simp)).mono ?_; rintro e wa ⟨rfl, hbwa⟩)
            have hBa : Below wr.heap.size wr wa := (Below.refl _ _).drew.trans (hbwa.mono (by simp))
            have hBas := hBa.size
            refine wpAny_ready (rs := [2]) (by kernel_rfl) (by simp) ?_
            refine AllReady.cons rfl (fun K hK => ?_) AllReady.nil
            go_simp
            refine hK _ _ ?_
            clear hK K
            refine wpAny_ready (rs := [3]) (by kernel_rfl) (by simp) ?_
            refine AllReady.cons rfl (fun K hK => ?_) AllReady.nil
            go_simp
            refine hK _ _ ?_
            clear hK K
            refine wpAny_ready (rs := [5]) (by kernel_rfl) (by simp) ?_
            refine AllReady.cons rfl (fun K hK => ?_) AllReady.nil
            go_simp
            go_wp2_with (go_at_call 9; refine (X4.out _).mono ?_; rintro e wm ⟨rfl, rfl⟩)
            have hB1 : Below wr.heap.size wr (wa.alloc (.cells #[.int .u8 0] 5)) := hBa.alloc hBas _
            have hB1s := hB1.size
            refine wpAny_take (i := 6) (v := .bool true) rfl (by kernel_rfl) (by kernel_rfl) (by kernel_rfl) (fun _ _ _ h => h) (Or.inl ⟨by kernel_rfl, fun w => by go_simp⟩) ?_
            refine wpAny_take (i := 7) (v := .bool true) rfl (by kernel_rfl) (by kernel_rfl) (by kernel_rfl) (fun _ _ _ h => h) (Or.inl ⟨by kernel_rfl, fun w => by go_simp⟩) ?_
            refine wpAny_take (i := 8) (v := .slice (some ⟨g5, 0, none⟩) (j + 1) cv) rfl (by kernel_rfl) (by kernel_rfl) (by kernel_rfl) (fun _ _ _ h => h) (Or.inl ⟨by kernel_rfl, fun w => by go_simp⟩) ?_
            refine wpAny_take (i := 9) (v := .slice (some ⟨g5, 1, none⟩) j (cv - 1)) rfl (by kernel_rfl) (by kernel_rfl) (by kernel_rfl) (fun _ _ _ h => h) (Or.inl ⟨by kernel_rfl, fun w => by go_simp <;> (intro hh; exfalso; omega)⟩) ?_
            refine wpAny_take (i := 11) (v := .string x) rfl (by kernel_rfl) (by kernel_rfl) (by kernel_rfl) (fun _ _ _ h => h) (Or.inl ⟨by kernel_rfl, fun w => by go_simp⟩) ?_
            refine wpAny_ready (rs := [10]) (by kernel_rfl) (by simp) ?_
            refine AllReady.cons rfl (fun K hK => ?_) AllReady.nil
            go_simp
            go_wp2_with (go_at_call 7; refine (X2.out _ _ wr.heap.size _ (hrS.below hB1 (Nat.le_refl _)) hB1s).mono ?_; rintro e wz ⟨rfl, hbz⟩)
            have hB2 : Below wr.heap.size wr wz := hB1.trans (hbz.mono hB1s)
            have hB2s := hB2.size
            refine wpAny_take (i := 12) (v := .bool true) rfl (by kernel_rfl) (by kernel_rfl) (by kernel_rfl) (fun _ _ _ h => h) (Or.inl ⟨by kernel_rfl, fun w => by go_simp⟩) ?_
            refine wpAny_take (i := 13) (v := .bool true) rfl (by kernel_rfl) (by kernel_rfl) (by kernel_rfl) (fun _ _ _ h => h) (Or.inl ⟨by kernel_rfl, fun w => by go_simp⟩) ?_
            refine wpAny_take (i := 14) (v := .bool true) rfl (by kernel_rfl) (by kernel_rfl) (by kernel_rfl) (fun _ _ _ h => h) (Or.inl ⟨by kernel_rfl, fun w => by go_simp⟩) ?_
            refine wpAny_take (i := 15) (v := .string x) rfl (by kernel_rfl) (by kernel_rfl) (by kernel_rfl) (fun _ _ _ h => h) (Or.inl ⟨by kernel_rfl, fun w => by go_simp⟩) ?_
            refine wpAny_take (i := 16) (v := .int .i64 (x.size : Int)) rfl (by kernel_rfl) (by kernel_rfl) (by kernel_rfl) (fun _ _ _ h => h) (Or.inl ⟨by kernel_rfl, fun w => by go_simp⟩) ?_
            refine wpAny_take (i := 17) (v := .int .i64 (k : Int)) rfl (by kernel_rfl) (by kernel_rfl) (by kernel_rfl) (fun _ _ _ h => h) (Or.inl ⟨by kernel_rfl, fun w => by go_simp⟩) ?_
            refine wpAny_take (i := 18) (v := .bool true) rfl (by kernel_rfl) (by kernel_rfl) (by kernel_rfl) (fun _ _ _ h => h) (Or.inl ⟨by kernel_rfl, fun w => by go_simp⟩) ?_
            refine wpAny_take (i := 19) (v := .bool true) rfl (by kernel_rfl) (by kernel_rfl) (by kernel_rfl) (fun _ _ _ h => h) (Or.inl ⟨by kernel_rfl, fun w => by go_simp⟩) ?_
            refine wpAny_take (i := 20) (v := .bool true) rfl (by kernel_rfl) (by kernel_rfl) (by kernel_rfl) (fun _ _ _ h => h) (Or.inl ⟨by kernel_rfl, fun w => by go_simp⟩) ?_
            refine wpAny_take (i := 21) (v := .string x) rfl (by kernel_rfl) (by kernel_rfl) (by kernel_rfl) (fun _ _ _ h => h) (Or.inl ⟨by kernel_rfl, fun w => by go_simp⟩) ?_
            refine wpAny_take (i := 24) (v := .string x) rfl (by kernel_rfl) (by kernel_rfl) (by kernel_rfl) (fun _ _ _ h => h) (Or.inl ⟨by kernel_rfl, fun w => by go_simp⟩) ?_
            refine wpAny_ready (rs := [22]) (by kernel_rfl) (by simp) ?_
            refine AllReady.cons rfl (fun K hK => ?_) AllReady.nil
            go_simp
            refine hK _ _ ?_
            clear hK K
            refine wpAny_ready (rs := [23]) (by kernel_rfl) (by simp) ?_
            refine AllReady.cons rfl (fun K hK => ?_) AllReady.nil
            go_simp
            go_wp2_with (go_at_call 7; refine (X3.out _ _ _ _ (Row.newAt _ _ rfl _ [.string x] 1 1 rfl) (by simp)).mono ?_; rintro e wy ⟨rfl, hby⟩)
            have hB3 : Below wr.heap.size wr wy := (hB2.alloc hB2s _).trans (hby.mono (by simp; omega))
            refine wpAny_take (i := 25) (v := .bool true) rfl (by kernel_rfl) (by kernel_rfl) (by kernel_rfl) (fun _ _ _ h => h) (Or.inl ⟨by kernel_rfl, fun w => by go_simp⟩) ?_
            refine wpAny_take (i := 26) (v := .bool true) rfl (by kernel_rfl) (by kernel_rfl) (by kernel_rfl) (fun _ _ _ h => h) (Or.inl ⟨by kernel_rfl, fun w => by go_simp⟩) ?_
            refine wpAny_take (i := 27) (v := .bool true) rfl (by kernel_rfl) (by kernel_rfl) (by kernel_rfl) (fun _ _ _ h => h) (Or.inl ⟨by kernel_rfl, fun w => by go_simp⟩) ?_
            refine wpAny_done (by kernel_rfl) ?_ _
            simp only [List.getElem_toArray, List.getElem_cons_succ, List.getElem_cons_zero, Act.put, List.setIfInBounds_toArray, List.set_cons_succ, List.set_cons_zero]
            go_wp2_with fail
            go_ret
            exact ⟨rfl, (hb03.trans (hbel.mono hz03)).trans (hB3.mono (by omega))⟩
          · go_simp
            refine hK _ _ ?_
            clear hK K
            refine wpAny_ready (rs := [1, 3]) (by kernel_rfl) (by simp) ?_
            refine AllReady.cons rfl (fun K hK => ?_) (AllReady.cons rfl (fun K hK => ?_) AllReady.nil)
            · go_simp
              go_wp2_with (go_at_call 7; refine (X1.out _ _ wr.heap.size _ (hrT.below (((Below.refl _ _).alloc (Nat.le_refl _) _).drew) (Nat.le_refl _)) (by simp)).mono ?_; rintro e wa ⟨rfl, hbwa⟩)
              have hBa : Below wr.heap.size wr wa := ((Below.refl _ _).alloc (Nat.le_refl _) _).drew.trans (hbwa.mono (by simp))
              have hBas := hBa.size
              have hca := (bcell hbwa).1
              refine wpAny_ready (rs := [3]) (by kernel_rfl) (by simp) ?_
              refine AllReady.cons rfl (fun K hK => ?_) AllReady.nil
              go_simp
              refine hK _ _ ?_
              clear hK K
              clear hca
              refine wpAny_ready (rs := [5]) (by kernel_rfl) (by simp) ?_
              refine AllReady.cons rfl (fun K hK => ?_) AllReady.nil
              go_simp
              go_wp2_with (go_at_call 9; refine (X4.out _).mono ?_; rintro e wm ⟨rfl, rfl⟩)
              have hB1 : Below wr.heap.size wr wa := hBa
              have hB1s := hB1.size
              refine wpAny_take (i := 6) (v := .bool true) rfl (by kernel_rfl) (by kernel_rfl) (by kernel_rfl) (fun _ _ _ h => h) (Or.inl ⟨by kernel_rfl, fun w => by go_simp⟩) ?_
              refine wpAny_take (i := 7) (v := .bool true) rfl (by kernel_rfl) (by kernel_rfl) (by kernel_rfl) (fun _ _ _ h => h) (Or.inl ⟨by kernel_rfl, fun w => by go_simp⟩) ?_
              refine wpAny_take (i := 8) (v := .slice (some ⟨g5, 0, none⟩) (j + 1) cv) rfl (by kernel_rfl) (by kernel_rfl) (by kernel_rfl) (fun _ _ _ h => h) (Or.inl ⟨by kernel_rfl, fun w => by go_simp⟩) ?_
              refine wpAny_take (i := 9) (v := .slice (some ⟨g5, 1, none⟩) j (cv - 1)) rfl (by kernel_rfl) (by kernel_rfl) (by kernel_rfl) (fun _ _ _ h => h) (Or.inl ⟨by kernel_rfl, fun w => by go_simp <;> (intro hh; exfalso; omega)⟩) ?_
              refine wpAny_take (i := 11) (v := .string x) rfl (by kernel_rfl) (by kernel_rfl) (by kernel_rfl) (fun _ _ _ h => h) (Or.inl ⟨by kernel_rfl, fun w => by go_simp⟩) ?_
              refine wpAny_ready (rs := [10]) (by kernel_rfl) (by simp) ?_
              refine AllReady.cons rfl (fun K hK => ?_) AllReady.nil
              go_simp
              go_wp2_with (go_at_call 7; refine (X2.out _ _ wr.heap.size _ (hrS.below hB1 (Nat.le_refl _)) hB1s).mono ?_; rintro e wz ⟨rfl, hbz⟩)
              have hB2 : Below wr.heap.size wr wz := hB1.trans (hbz.mono hB1s)
              have hB2s := hB2.size
              refine wpAny_take (i := 12) (v := .bool true) rfl (by kernel_rfl) (by kernel_rfl) (by kernel_rfl) (fun _ _ _ h => h) (Or.inl ⟨by kernel_rfl, fun w => by go_simp⟩) ?_
              refine wpAny_take (i := 13) (v := .bool true) rfl (by kernel_rfl) (by kernel_rfl) (by kernel_rfl) (fun _ _ _ h => h) (Or.inl ⟨by kernel_rfl, fun w => by go_simp⟩) ?_
              refine wpAny_take (i := 14) (v := .bool true) rfl (by kernel_rfl) (by kernel_rfl) (by kernel_rfl) (fun _ _ _ h => h) (Or.inl ⟨by kernel_rfl, fun w => by go_simp⟩) ?_
              refine wpAny_take (i := 15) (v := .string x) rfl (by kernel_rfl) (by kernel_rfl) (by kernel_rfl) (fun _ _ _ h => h) (Or.inl ⟨by kernel_rfl, fun w => by go_simp⟩) ?_
              refine wpAny_take (i := 16) (v := .int .i64 (x.size : Int)) rfl (by kernel_rfl) (by kernel_rfl) (by kernel_rfl) (fun _ _ _ h => h) (Or.inl ⟨by kernel_rfl, fun w => by go_simp⟩) ?_
              refine wpAny_take (i := 17) (v := .int .i64 (k : Int)) rfl (by kernel_rfl) (by kernel_rfl) (by kernel_rfl) (fun _ _ _ h => h) (Or.inl ⟨by kernel_rfl, fun w => by go_simp⟩) ?_
              refine wpAny_take (i := 18) (v := .bool true) rfl (by kernel_rfl) (by kernel_rfl) (by kernel_rfl) (fun _ _ _ h => h) (Or.inl ⟨by kernel_rfl, fun w => by go_simp⟩) ?_
              refine wpAny_take (i := 19) (v := .bool true) rfl (by kernel_rfl) (by kernel_rfl) (by kernel_rfl) (fun _ _ _ h => h) (Or.inl ⟨by kernel_rfl, fun w => by go_simp⟩) ?_
              refine wpAny_take (i := 20) (v := .bool true) rfl (by kernel_rfl) (by kernel_rfl) (by kernel_rfl) (fun _ _ _ h => h) (Or.inl ⟨by kernel_rfl, fun w => by go_simp⟩) ?_
              refine wpAny_take (i := 21) (v := .string x) rfl (by kernel_rfl) (by kernel_rfl) (by kernel_rfl) (fun _ _ _ h => h) (Or.inl ⟨by kernel_rfl, fun w => by go_simp⟩) ?_
              refine wpAny_take (i := 24) (v := .string x) rfl (by kernel_rfl) (by kernel_rfl) (by kernel_rfl) (fun _ _ _ h => h) (Or.inl ⟨by kernel_rfl, fun w => by go_simp⟩) ?_
              refine wpAny_ready (rs := [22]) (by kernel_rfl) (by simp) ?_
              refine AllReady.cons rfl (fun K hK => ?_) AllReady.nil
              go_simp
              refine hK _ _ ?_
              clear hK K
              refine wpAny_ready (rs := [23]) (by kernel_rfl) (by simp) ?_
              refine AllReady.cons rfl (fun K hK => ?_) AllReady.nil
              go_simp
              go_wp2_with (go_at_call 7; refine (X3.out _ _ _ _ (Row.newAt _ _ rfl _ [.string x] 1 1 rfl) (by simp)).mono ?_; rintro e wy ⟨rfl, hby⟩)
              have hB3 : Below wr.heap.size wr wy := (hB2.alloc hB2s _).trans (hby.mono (by simp; omega))
              refine wpAny_take (i := 25) (v := .bool true) rfl (by kernel_rfl) (by kernel_rfl) (by kernel_rfl) (fun _ _ _ h => h) (Or.inl ⟨by kernel_rfl, fun w => by go_simp⟩) ?_
              refine wpAny_take (i := 26) (v := .bool true) rfl (by kernel_rfl) (by kernel_rfl) (by kernel_rfl) (fun _ _ _ h => h) (Or.inl ⟨by kernel_rfl, fun w => by go_simp⟩) ?_
              refine wpAny_take (i := 27) (v := .bool true) rfl (by kernel_rfl) (by kernel_rfl) (by kernel_rfl) (fun _ _ _ h => h) (Or.inl ⟨by kernel_rfl, fun w => by go_simp⟩) ?_
              refine wpAny_done (by kernel_rfl) ?_ _
              simp only [List.getElem_toArray, List.getElem_cons_succ, List.getElem_cons_zero, Act.put, List.setIfInBounds_toArray, List.set_cons_succ, List.set_cons_zero]
              go_wp2_with fail
              go_ret
              exact ⟨rfl, (hb03.trans (hbel.mono hz03)).trans (hB3.mono (by omega))⟩
            · go_simp
              refine hK _ _ ?_
              clear hK K
              refine wpAny_ready (rs := [1]) (by kernel_rfl) (by simp) ?_
              refine AllReady.cons rfl (fun K hK => ?_) AllReady.nil
              go_simp
              go_wp2_with (go_at_call 7; refine (X1.out _ _ wr.heap.size _ (hrT.below (((Below.refl _ _).alloc (Nat.le_refl _) _).drew) (Nat.le_refl _)) (by simp)).mono ?_; rintro e wa ⟨rfl, hbwa⟩)
              have hBa : Below wr.heap.size wr wa := ((Below.refl _ _).alloc (Nat.le_refl _) _).drew.trans (hbwa.mono (by simp))
              have hBas := hBa.size
              refine wpAny_ready (rs := [5]) (by kernel_rfl) (by simp) ?_
              refine AllReady.cons rfl (fun K hK => ?_) AllReady.nil
              go_simp
              go_wp2_with (go_at_call 9; refine (X4.out _).mono ?_; rintro e wm ⟨rfl, rfl⟩)
              have hB1 : Below wr.heap.size wr wa := hBa
              have hB1s := hB1.size
              refine wpAny_take (i := 6) (v := .bool true) rfl (by kernel_rfl) (by kernel_rfl) (by kernel_rfl) (fun _ _ _ h => h) (Or.inl ⟨by kernel_rfl, fun w => by go_simp⟩) ?_
              refine wpAny_take (i := 7) (v := .bool true) rfl (by kernel_rfl) (by kernel_rfl) (by kernel_rfl) (fun _ _ _ h => h) (Or.inl ⟨by kernel_rfl, fun w => by go_simp⟩) ?_
              refine wpAny_take (i := 8) (v := .slice (some ⟨g5, 0, none⟩) (j + 1) cv) rfl (by kernel_rfl) (by kernel_rfl) (by kernel_rfl) (fun _ _ _ h => h) (Or.inl ⟨by kernel_rfl, fun w => by go_simp⟩) ?_
              refine wpAny_take (i := 9) (v := .slice (some ⟨g5, 1, none⟩) j (cv - 1)) rfl (by kernel_rfl) (by kernel_rfl) (by kernel_rfl) (fun _ _ _ h => h) (Or.inl ⟨by kernel_rfl, fun w => by go_simp <;> (intro hh; exfalso; omega)⟩) ?_
              refine wpAny_take (i := 11) (v := .string x) rfl (by kernel_rfl) (by kernel_rfl) (by kernel_rfl) (fun _ _ _ h => h) (Or.inl ⟨by kernel_rfl, fun w => by go_simp⟩) ?_
              refine wpAny_ready (rs := [10]) (by kernel_rfl) (by simp) ?_
              refine AllReady.cons rfl (fun K hK => ?_) AllReady.nil
              go_simp
              go_wp2_with (go_at_call 7; refine (X2.out _ _ wr.heap.size _ (hrS.below hB1 (Nat.le_refl _)) hB1s).mono ?_; rintro e wz ⟨rfl, hbz⟩)
              have hB2 : Below wr.heap.size wr wz := hB1.trans (hbz.mono hB1s)
              have hB2s := hB2.size
              refine wpAny_take (i := 12) (v := .bool true) rfl (by kernel_rfl) (by kernel_rfl) (by kernel_rfl) (fun _ _ _ h => h) (Or.inl ⟨by kernel_rfl, fun w => by go_simp⟩) ?_
              refine wpAny_take (i := 13) (v := .bool true) rfl (by kernel_rfl) (by kernel_rfl) (by kernel_rfl) (fun _ _ _ h => h) (Or.inl ⟨by kernel_rfl, fun w => by go_simp⟩) ?_
              refine wpAny_take (i := 14) (v := .bool true) rfl (by kernel_rfl) (by kernel_rfl) (by kernel_rfl) (fun _ _ _ h => h) (Or.inl ⟨by kernel_rfl, fun w => by go_simp⟩) ?_
              refine wpAny_take (i := 15) (v := .string x) rfl (by kernel_rfl) (by kernel_rfl) (by kernel_rfl) (fun _ _ _ h => h) (Or.inl ⟨by kernel_rfl, fun w => by go_simp⟩) ?_
              refine wpAny_take (i := 16) (v := .int .i64 (x.size : Int)) rfl (by kernel_rfl) (by kernel_rfl) (by kernel_rfl) (fun _ _ _ h => h) (Or.inl ⟨by kernel_rfl, fun w => by go_simp⟩) ?_
              refine wpAny_take (i := 17) (v := .int .i64 (k : Int)) rfl (by kernel_rfl) (by kernel_rfl) (by kernel_rfl) (fun _ _ _ h => h) (Or.inl ⟨by kernel_rfl, fun w => by go_simp⟩) ?_
              refine wpAny_take (i := 18) (v := .bool true) rfl (by kernel_rfl) (by kernel_rfl) (by kernel_rfl) (fun _ _ _ h => h) (Or.inl ⟨by kernel_rfl, fun w => by go_simp⟩) ?_
              refine wpAny_take (i := 19) (v := .bool true) rfl (by kernel_rfl) (by kernel_rfl) (by kernel_rfl) (fun _ _ _ h => h) (Or.inl ⟨by kernel_rfl, fun w => by go_simp⟩) ?_
              refine wpAny_take (i := 20) (v := .bool true) rfl (by kernel_rfl) (by kernel_rfl) (by kernel_rfl) (fun _ _ _ h => h) (Or.inl ⟨by kernel_rfl, fun w => by go_simp⟩) ?_
              refine wpAny_take (i := 21) (v := .string x) rfl (by kernel_rfl) (by kernel_rfl) (by kernel_rfl) (fun _ _ _ h => h) (Or.inl ⟨by kernel_rfl, fun w => by go_simp⟩) ?_
              refine wpAny_take (i := 24) (v := .string x) rfl (by kernel_rfl) (by kernel_rfl) (by kernel_rfl) (fun _ _ _ h => h) (Or.inl ⟨by kernel_rfl, fun w => by go_simp⟩) ?_
              refine wpAny_ready (rs := [22]) (by kernel_rfl) (by simp) ?_
              refine AllReady.cons rfl (fun K hK => ?_) AllReady.nil
              go_simp
              refine hK _ _ ?_
              clear hK K
              refine wpAny_ready (rs := [23]) (by kernel_rfl) (by simp) ?_
              refine AllReady.cons rfl (fun K hK => ?_) AllReady.nil
              go_simp
              go_wp2_with (go_at_call 7; refine (X3.out _ _ _ _ (Row.newAt _ _ rfl _ [.string x] 1 1 rfl) (by simp)).mono ?_; rintro e wy ⟨rfl, hby⟩)
              have hB3 : Below wr.heap.size wr wy := (hB2.alloc hB2s _).trans (hby.mono (by simp; omega))
              refine wpAny_take (i := 25) (v := .bool true) rfl (by kernel_rfl) (by kernel_rfl) (by kernel_rfl) (fun _ _ _ h => h) (Or.inl ⟨by kernel_rfl, fun w => by go_simp⟩) ?_
              refine wpAny_take (i := 26) (v := .bool true) rfl (by kernel_rfl) (by kernel_rfl) (by kernel_rfl) (fun _ _ _ h => h) (Or.inl ⟨by kernel_rfl, fun w => by go_simp⟩) ?_
              refine wpAny_take (i := 27) (v := .bool true) rfl (by kernel_rfl) (by kernel_rfl) (by kernel_rfl) (fun _ _ _ h => h) (Or.inl ⟨by kernel_rfl, fun w => by go_simp⟩) ?_
              refine wpAny_done (by kernel_rfl) ?_ _
              simp only [List.getElem_toArray, List.getElem_cons_succ, List.getElem_cons_zero, Act.put, List.setIfInBounds_toArray, List.set_cons_succ, List.set_cons_zero]
              go_wp2_with fail
              go_ret
              exact ⟨rfl, (hb03.trans (hbel.mono hz03)).trans (hB3.mono (by omega))⟩
  · go_enter Try.func3, Try.ntmps3
    go_wp2_with fail
    go_ret
    exact ⟨rfl, Below.refl _ _⟩

end Go.Proofs.Ytjapfilkjngkjaa
