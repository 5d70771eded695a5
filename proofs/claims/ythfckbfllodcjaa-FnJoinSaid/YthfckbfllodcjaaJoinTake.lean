/-
  The contracts of JoinContainers, of the program and of the reference: both make the same container of the blocks of two.
  The contracts of TakeBlocks, of the program and of the reference: both make the same container of some blocks of another one.
-/
import Derived.Test.YthfckbfllodcjaaMakeC
import Derived.Test.YthfckbfllodcjaaContSpec

namespace Go.Proofs.Ythfckbfllodcjaa
open Go.RowKit
set_option linter.unusedVariables false

/-- What JoinContainers returns. -/
def joinC : Option (List Blk) → Option (List Blk) → Option ByteArray
  | some x, some y => mkC (x ++ y)
  | _, _ => none

set_option maxHeartbeats 1000000 in
theorem implJoinContainers (s t : ByteArray) (w : World) (hs : s.size ≤ 1048576) (ht : t.size ≤ 1048576) :
    Calls Try.prog 6 #[.string s, .string t] w fun e w' => e = .returned (optV (joinC (contB s) (contB t))) ∧ Below w.heap.size w w' := by
  rcases hx : contB s with _ | x
  · have H1 := Lib.hid (fun W => implContainerBlocksNo s W hs hx)
    rcases hy : contB t with _ | y
    · have H2 := Lib.hid (fun W => implContainerBlocksNo t W ht hy)
      clear hx hy
      go_enter Try.func6, Try.ntmps6
      go_wp2_with fail
      refine (H1.out _).mono ?_
      rintro e w1 ⟨A1, c1, rfl, ho1, hb1⟩
      go_wp2_with fail
      refine (H2.out _).mono ?_
      rintro e w2 ⟨A2, c2, rfl, ho2, hb2⟩
      go_wp2_with fail
      go_ret2
      exact ⟨rfl, hb1.trans (hb2.mono hb1.size)⟩
    · obtain ⟨m, hm⟩ : ∃ m, y.length = m := ⟨_, rfl⟩
      have H2 := Lib.hid (fun W => implContainerBlocksYes t y m W ht hy hm)
      clear hx hy hm
      go_enter Try.func6, Try.ntmps6
      go_wp2_with fail
      refine (H1.out _).mono ?_
      rintro e w1 ⟨A1, c1, rfl, ho1, hb1⟩
      go_wp2_with fail
      refine (H2.out _).mono ?_
      rintro e w2 ⟨A2, c2, rfl, ho2, hb2⟩
      go_wp2_with fail
      go_ret2
      exact ⟨rfl, hb1.trans (hb2.mono hb1.size)⟩
  · obtain ⟨n, hn⟩ : ∃ n, x.length = n := ⟨_, rfl⟩
    have hnx := contB_numbered hx
    have hn40 := hnx.length
    rw [hn] at hn40
    have H1 := Lib.hid (fun W => implContainerBlocksYes s x n W hs hx hn)
    rcases hy : contB t with _ | y
    · have H2 := Lib.hid (fun W => implContainerBlocksNo t W ht hy)
      clear hx hy hn
      go_enter Try.func6, Try.ntmps6
      go_wp2_with fail
      refine (H1.out _).mono ?_
      rintro e w1 ⟨A1, c1, rfl, ho1, hb1⟩
      go_wp2_with fail
      refine (H2.out _).mono ?_
      rintro e w2 ⟨A2, c2, rfl, ho2, hb2⟩
      go_wp2_with fail
      go_ret2
      exact ⟨rfl, hb1.trans (hb2.mono hb1.size)⟩
    · obtain ⟨m, hm⟩ : ∃ m, y.length = m := ⟨_, rfl⟩
      have hny := contB_numbered hy
      have hm40 := hny.length
      rw [hm] at hm40
      have H2 := Lib.hid (fun W => implContainerBlocksYes t y m W ht hy hm)
      have hok : ∀ b ∈ x ++ y, b.okb := fun b hb => by
        rcases List.mem_append.1 hb with h | h
        · exact Blk.okb_of (hnx.of_mem h)
        · exact Blk.okb_of (hny.of_mem h)
      have hz : szs (x ++ y) ≤ 1048576 := by
        have h1 := szs_le (fun b hb => hnx.of_mem hb)
        have h2 := szs_le (fun b hb => hny.of_mem hb)
        rw [szs_append]; omega
      have HM := Lib.hid (fun A k c W h1 h2 => implMakeContainer A k c W.heap.size (x ++ y) W h1 (Nat.le_refl _) h2 hz hok)
      obtain ⟨R, hR⟩ : ∃ R, mkC (x ++ y) = R := ⟨_, rfl⟩
      have hJ : joinC (some x) (some y) = R := hR
      rw [hR] at HM
      rw [hJ]
      clear hx hy hn hm hok hz hR hJ
      go_enter Try.func6, Try.ntmps6
      go_wp2_with fail
      refine (H1.out _).mono ?_
      rintro e w1 ⟨A1, c1, rfl, ho1, hb1⟩
      go_wp2_with fail
      refine (H2.out _).mono ?_
      rintro e w2 ⟨A2, c2, rfl, ho2, hb2⟩
      have ho1 := own_below ho1 hb2 (Nat.le_refl _)
      have hr2 := Row.of_own ho2
      have hb02 := hb1.trans (hb2.mono hb1.size)
      have hz02 := hb02.size
      clear ho2 hb1 hb2 H1 H2
      go_wp2_with (first
        | (at_builtin; refine wpList_append_row _ elemBlk rfl (.tmp 26) (.tmp 27) rfl w.heap.size _ _ _ rfl ho1 _ _ m _ (cellsB y) rfl hr2 ?_ ?_ ?_ ?_ ?_))
      · exact cellsB_oneCell y
      · unfold maxLen; omega
      · omega
      · exact hz02
      · intro v3 w3 hv3 hg3 _
        have hb03 : Below w.heap.size w w3 := hb02.grown hg3 hz02 (fun g hg => (ho1.lt g hg).1)
        rw [← cellsB_append] at hv3
        obtain ⟨A3, c3, rfl, _, _⟩ := own_form hv3
        have hz03 := hb03.size
        clear ho1 hr2 hb02 hg3
        go_wp2_with fail
        refine (HM.out A3 (n + m) c3 _ (Row.of_own hv3) (by omega)).mono ?_
        rintro e w4 ⟨rfl, hb4⟩
        go_wp2_with fail
        go_ret2
        exact ⟨rfl, hb03.trans (hb4.mono hz03)⟩

set_option maxHeartbeats 1000000 in
theorem specJoinContainers (s t : ByteArray) (w : World) (hs : s.size ≤ 1048576) (ht : t.size ≤ 1048576) :
    Calls Try.prog 7 #[.string s, .string t] w fun e w' => e = .returned (optV (joinC (contB s) (contB t))) ∧ Below w.heap.size w w' := by
  rcases hx : contB s with _ | x
  · have H1 := Lib.hid (fun W => specL5BlocksNo s W hs hx)
    rcases hy : contB t with _ | y
    · have H2 := Lib.hid (fun W => specL5BlocksNo t W ht hy)
      clear hx hy
      go_enter Try.func7, Try.ntmps7
      go_wp2_with fail
      refine (H1.out _).mono ?_
      rintro e w1 ⟨A1, c1, rfl, ho1, hb1⟩
      go_wp2_with fail
      refine (H2.out _).mono ?_
      rintro e w2 ⟨A2, c2, rfl, ho2, hb2⟩
      go_wp2_with fail
      go_ret2
      exact ⟨rfl, hb1.trans (hb2.mono hb1.size)⟩
    · obtain ⟨m, hm⟩ : ∃ m, y.length = m := ⟨_, rfl⟩
      have H2 := Lib.hid (fun W => specL5BlocksYes t y m W ht hy hm)
      clear hx hy hm
      go_enter Try.func7, Try.ntmps7
      go_wp2_with fail
      refine (H1.out _).mono ?_
      rintro e w1 ⟨A1, c1, rfl, ho1, hb1⟩
      go_wp2_with fail
      refine (H2.out _).mono ?_
      rintro e w2 ⟨A2, c2, rfl, ho2, hb2⟩
      go_wp2_with fail
      go_ret2
      exact ⟨rfl, hb1.trans (hb2.mono hb1.size)⟩
  · obtain ⟨n, hn⟩ : ∃ n, x.length = n := ⟨_, rfl⟩
    have hnx := contB_numbered hx
    have hn40 := hnx.length
    rw [hn] at hn40
    have H1 := Lib.hid (fun W => specL5BlocksYes s x n W hs hx hn)
    rcases hy : contB t with _ | y
    · have H2 := Lib.hid (fun W => specL5BlocksNo t W ht hy)
      clear hx hy hn
      go_enter Try.func7, Try.ntmps7
      go_wp2_with fail
      refine (H1.out _).mono ?_
      rintro e w1 ⟨A1, c1, rfl, ho1, hb1⟩
      go_wp2_with fail
      refine (H2.out _).mono ?_
      rintro e w2 ⟨A2, c2, rfl, ho2, hb2⟩
      go_wp2_with fail
      go_ret2
      exact ⟨rfl, hb1.trans (hb2.mono hb1.size)⟩
    · obtain ⟨m, hm⟩ : ∃ m, y.length = m := ⟨_, rfl⟩
      have hny := contB_numbered hy
      have hm40 := hny.length
      rw [hm] at hm40
      have H2 := Lib.hid (fun W => specL5BlocksYes t y m W ht hy hm)
      have hok : ∀ b ∈ x ++ y, b.okb := fun b hb => by
        rcases List.mem_append.1 hb with h | h
        · exact Blk.okb_of (hnx.of_mem h)
        · exact Blk.okb_of (hny.of_mem h)
      have hz : szs (x ++ y) ≤ 1048576 := by
        have h1 := szs_le (fun b hb => hnx.of_mem hb)
        have h2 := szs_le (fun b hb => hny.of_mem hb)
        rw [szs_append]; omega
      have HM := Lib.hid (fun A k c W h1 h2 => specL6Result A k c W.heap.size (x ++ y) W h1 (Nat.le_refl _) h2 hz hok)
      obtain ⟨R, hR⟩ : ∃ R, mkC (x ++ y) = R := ⟨_, rfl⟩
      have hJ : joinC (some x) (some y) = R := hR
      rw [hR] at HM
      rw [hJ]
      clear hx hy hn hm hok hz hR hJ
      go_enter Try.func7, Try.ntmps7
      go_wp2_with fail
      refine (H1.out _).mono ?_
      rintro e w1 ⟨A1, c1, rfl, ho1, hb1⟩
      go_wp2_with fail
      refine (H2.out _).mono ?_
      rintro e w2 ⟨A2, c2, rfl, ho2, hb2⟩
      have ho1 := own_below ho1 hb2 (Nat.le_refl _)
      have hr2 := Row.of_own ho2
      have hb02 := hb1.trans (hb2.mono hb1.size)
      have hz02 := hb02.size
      clear ho2 hb1 hb2 H1 H2
      go_wp2_with (first
        | (at_builtin; refine wpList_append_row _ elemBlk rfl (.tmp 26) (.tmp 27) rfl w.heap.size _ _ _ rfl ho1 _ _ m _ (cellsB y) rfl hr2 ?_ ?_ ?_ ?_ ?_))
      · exact cellsB_oneCell y
      · unfold maxLen; omega
      · omega
      · exact hz02
      · intro v3 w3 hv3 hg3 _
        have hb03 : Below w.heap.size w w3 := hb02.grown hg3 hz02 (fun g hg => (ho1.lt g hg).1)
        rw [← cellsB_append] at hv3
        obtain ⟨A3, c3, rfl, _, _⟩ := own_form hv3
        have hz03 := hb03.size
        clear ho1 hr2 hb02 hg3
        go_wp2_with fail
        refine (HM.out A3 (n + m) c3 _ (Row.of_own hv3) (by omega)).mono ?_
        rintro e w4 ⟨rfl, hb4⟩
        go_wp2_with fail
        go_ret2
        exact ⟨rfl, hb03.trans (hb4.mono hz03)⟩

end Go.Proofs.Ythfckbfllodcjaa

namespace Go.Proofs.Ythfckbfllodcjaa
open Go.RowKit
set_option linter.unusedVariables false

/-- A part of a slice that one reads. -/
theorem Row.sub {w : World} {B size n c l r : Nat} {A : Option Addr} {xs : List Value} (h : Row w B size A n xs) (hl : l ≤ r) (hr : r ≤ n) (hc : n ≤ c) :
    Row w B size (if c = l then A else A.map (·.add (l * size))) (r - l) ((xs.drop (l * size)).take ((r - l) * size)) := by
  have h1 : r * size ≤ n * size := Nat.mul_le_mul_right _ hr
  have h2 : (r - l) * size = r * size - l * size := Nat.sub_mul _ _ _
  refine ⟨by rw [List.length_take, List.length_drop, h.1]; omega, fun hn => ?_⟩
  obtain ⟨b, off, e, hb, hcell⟩ := h.2 (by omega)
  subst e
  refine ⟨b, off + l * size, by rw [if_neg (by omega), Option.map_some, addr_add], hb, fun j u hu => ?_⟩
  rw [List.getElem?_take] at hu
  split at hu
  · rw [List.getElem?_drop] at hu
    rw [Nat.add_assoc]
    exact hcell _ _ hu
  · cases hu

/-- 'x[l:r]' of a slice that one reads. -/
theorem run_sub {P : Program} {w : World} {t e : TypeId} {z : Value} {B size bytes n c l r : Nat} {A : Option Addr} {xs : List Value} (el : Elem P t e z size bytes) (h : Row w B size A n xs) (hl : l ≤ r) (hr : r ≤ n) (hc : n ≤ c) :
    ∃ A' c', (∀ W, (Instr.slice t (.slice A n c) (some (.int .i64 (l : Int))) (some (.int .i64 (r : Int))) none).run P W = .ok (.slice A' (r - l) c') W) ∧ Row w B size A' (r - l) ((xs.drop (l * size)).take ((r - l) * size)) := by
  obtain ⟨i, hi, hz, hsize, hby⟩ := info_parts el.hinfo
  refine ⟨_, c - l, fun W => ?_, h.sub hl hr hc⟩
  have he : P.elem t = e := by simp [Program.elem, el.ht]
  have ht' : P.underlying t = some (.slice (P.elem t)) := by rw [he]; exact el.ht
  have hs : (sizeOf (P.elem t)).run P W = .ok size W := by rw [he]; simp [sizeOf, typeInfo, hi, hsize]
  rw [run_slice_lh W t A n c ht' .i64 .i64 _ _ (by omega) (by omega) (by omega), hs]
  simp only [Result.andThen, sliced, Int.toNat_natCast]

/-- When some blocks can be taken. -/
def takeOk (n : Nat) (first k : Int) : Prop := 0 ≤ first ∧ first ≤ n ∧ 0 ≤ k ∧ k ≤ (n : Int) - first

instance (n : Nat) (first k : Int) : Decidable (takeOk n first k) := by unfold takeOk; infer_instance

/-- What TakeBlocks returns. -/
def takeC (o : Option (List Blk)) (first k : Int) : Option ByteArray :=
  match o with
  | some bs => if takeOk bs.length first k then mkC ((bs.drop first.toNat).take k.toNat) else none
  | none => none

theorem takeC_no {bs : List Blk} {first k : Int} (h : ¬ takeOk bs.length first k) : takeC (some bs) first k = none := if_neg h

theorem takeC_yes {bs : List Blk} {f k : Nat} (h : f + k ≤ bs.length) : takeC (some bs) (f : Int) (k : Int) = mkC ((bs.drop f).take k) := by
  unfold takeC
  simp only [Int.toNat_natCast]
  exact if_pos ⟨by omega, by omega, by omega, by omega⟩

theorem sub_okb {bs : List Blk} (h : Numbered bs) (f k : Nat) : ∀ b ∈ (bs.drop f).take k, b.okb := fun b hb => Blk.okb_of (h.of_mem (List.mem_of_mem_drop (List.mem_of_mem_take hb)))

theorem sub_szs {bs : List Blk} (h : Numbered bs) (f k : Nat) : szs ((bs.drop f).take k) ≤ 1048576 := by
  have h1 := szs_le (bs := (bs.drop f).take k) fun b hb => h.of_mem (List.mem_of_mem_drop (List.mem_of_mem_take hb))
  have h2 := h.length
  have h3 : ((bs.drop f).take k).length ≤ bs.length := by rw [List.length_take, List.length_drop]; omega
  omega

set_option maxHeartbeats 1000000 in
theorem implTakeBlocks (s : ByteArray) (first k : Int) (w : World) (hs : s.size ≤ 1048576) (hf : -9223372036854775808 ≤ first ∧ first ≤ 9223372036854775807) (hk : -9223372036854775808 ≤ k ∧ k ≤ 9223372036854775807) :
    Calls Try.prog 9 #[.string s, .int .i64 first, .int .i64 k] w fun e w' => e = .returned (optV (takeC (contB s) first k)) ∧ Below w.heap.size w w' := by
  obtain ⟨hf1, hf2⟩ := hf
  obtain ⟨hk1, hk2⟩ := hk
  rcases hx : contB s with _ | x
  · have H1 := Lib.hid (fun W => implContainerBlocksNo s W hs hx)
    clear hx
    go_enter Try.func9, Try.ntmps9
    go_wp2_with fail
    refine (H1.out _).mono ?_
    rintro e w1 ⟨A1, c1, rfl, ho1, hb1⟩
    go_wp2_with fail
    go_ret2
    exact ⟨rfl, hb1⟩
  · obtain ⟨n, hn⟩ : ∃ n, x.length = n := ⟨_, rfl⟩
    have hnx := contB_numbered hx
    have hn40 := hnx.length
    rw [hn] at hn40
    have H1 := Lib.hid (fun W => implContainerBlocksYes s x n W hs hx hn)
    by_cases c1 : 0 ≤ first
    · by_cases c2 : 0 ≤ k
      · obtain ⟨f, rfl⟩ := Int.eq_ofNat_of_zero_le c1
        obtain ⟨m, rfl⟩ := Int.eq_ofNat_of_zero_le c2
        by_cases c3 : f ≤ n
        · by_cases c4 : m ≤ n - f
          · have HM := Lib.hid (fun A c W h1 h2 => implMakeContainer A m c W.heap.size ((x.drop f).take m) W h1 (Nat.le_refl _) h2 (sub_szs hnx f m) (sub_okb hnx f m))
            rw [takeC_yes (show f + m ≤ x.length by omega)]
            obtain ⟨R, hR⟩ : ∃ R, mkC ((x.drop f).take m) = R := ⟨_, rfl⟩
            rw [hR] at HM ⊢
            obtain ⟨r, hr⟩ : ∃ r, f + m = r := ⟨_, rfl⟩
            have er : (f : Int) + m = r := by omega
            have hrn : r ≤ n := by omega
            have hfr : f ≤ r := by omega
            have hrf : r - f = m := by omega
            have hz4 : ((cellsB x).drop (f * 4)).take (m * 4) = cellsB ((x.drop f).take m) := by rw [cellsB_take, cellsB_drop]
            have HZ := Lib.hid hz4
            have HRF := Lib.hid hrf
            have i1 : (m : Int) ≤ (n : Int) - f := by omega
            have hm20 : m ≤ 1048576 := by omega
            clear hx hR hr hz4 hrf hn hf1 hf2 hk1 hk2
            go_enter Try.func9, Try.ntmps9
            go_wp2_with fail
            refine (H1.out _).mono ?_
            rintro e w1 ⟨A1, c1, rfl, ho1, hb1⟩
            have hnc : n ≤ c1 := by
              obtain ⟨_, _, hh, h, _⟩ := own_form ho1
              injection hh with _ _ hh
              omega
            have hrow := (Row.of_own ho1).sub (l := f) (r := r) hfr hrn hnc
            rw [HRF.out, HZ.out] at hrow
            have hz1 := hb1.size
            clear ho1
            have hrf := HRF.out
            by_cases hcf : c1 = f
            · rw [if_pos hcf] at hrow
              go_wp2_with fail
              refine (HM.out _ _ _ hrow hm20).mono ?_
              rintro e w4 ⟨rfl, hb4⟩
              go_wp2_with fail
              go_ret2
              exact ⟨rfl, hb1.trans (hb4.mono hz1)⟩
            · rw [if_neg hcf] at hrow
              go_wp2_with fail
              refine (HM.out _ _ _ hrow hm20).mono ?_
              rintro e w4 ⟨rfl, hb4⟩
              go_wp2_with fail
              go_ret2
              exact ⟨rfl, hb1.trans (hb4.mono hz1)⟩
          · rw [takeC_no (show ¬ takeOk x.length f m from fun h => by have := h.2.2.2; omega)]
            have i1 : ¬ ((m : Int) ≤ (n : Int) - f) := by omega
            clear hx hn
            go_enter Try.func9, Try.ntmps9
            go_wp2_with fail
            refine (H1.out _).mono ?_
            rintro e w1 ⟨A1, c1, rfl, ho1, hb1⟩
            go_wp2_with fail
            go_ret2
            exact ⟨rfl, hb1⟩
        · rw [takeC_no (show ¬ takeOk x.length f m from fun h => by have := h.2.1; omega)]
          clear hx hn
          go_enter Try.func9, Try.ntmps9
          go_wp2_with fail
          refine (H1.out _).mono ?_
          rintro e w1 ⟨A1, c1, rfl, ho1, hb1⟩
          go_wp2_with fail
          go_ret2
          exact ⟨rfl, hb1⟩
      · rw [takeC_no (show ¬ takeOk x.length first k from fun h => by have := h.2.2.1; omega)]
        clear hx hn
        go_enter Try.func9, Try.ntmps9
        go_wp2_with fail
        refine (H1.out _).mono ?_
        rintro e w1 ⟨A1, c1, rfl, ho1, hb1⟩
        go_wp2_with fail
        go_ret2
        exact ⟨rfl, hb1⟩
    · rw [takeC_no (show ¬ takeOk x.length first k from fun h => by have := h.1; omega)]
      clear hx hn
      go_enter Try.func9, Try.ntmps9
      go_wp2_with fail
      refine (H1.out _).mono ?_
      rintro e w1 ⟨A1, c1, rfl, ho1, hb1⟩
      go_wp2_with fail
      go_ret2
      exact ⟨rfl, hb1⟩

set_option maxHeartbeats 1000000 in
theorem specTakeBlocks (s : ByteArray) (first k : Int) (w : World) (hs : s.size ≤ 1048576) (hf : -9223372036854775808 ≤ first ∧ first ≤ 9223372036854775807) (hk : -9223372036854775808 ≤ k ∧ k ≤ 9223372036854775807) :
    Calls Try.prog 12 #[.string s, .int .i64 first, .int .i64 k] w fun e w' => e = .returned (optV (takeC (contB s) first k)) ∧ Below w.heap.size w w' := by
  obtain ⟨hf1, hf2⟩ := hf
  obtain ⟨hk1, hk2⟩ := hk
  rcases hx : contB s with _ | x
  · have H1 := Lib.hid (fun W => specL5BlocksNo s W hs hx)
    clear hx
    go_enter Try.func12, Try.ntmps12
    go_wp2_with fail
    refine (H1.out _).mono ?_
    rintro e w1 ⟨A1, c1, rfl, ho1, hb1⟩
    go_wp2_with fail
    go_ret2
    exact ⟨rfl, hb1⟩
  · obtain ⟨n, hn⟩ : ∃ n, x.length = n := ⟨_, rfl⟩
    have hnx := contB_numbered hx
    have hn40 := hnx.length
    rw [hn] at hn40
    have H1 := Lib.hid (fun W => specL5BlocksYes s x n W hs hx hn)
    by_cases c1 : 0 ≤ first ∧ first ≤ n
    · have HA := Lib.hid (fun W => specL1In first 0 n true W (btrue c1))
      obtain ⟨c1a, c1b⟩ := c1
      by_cases c2 : 0 ≤ k ∧ k ≤ (n : Int) - first
      · have HB := Lib.hid (fun W => specL1In k 0 ((n : Int) - first) true W (btrue c2))
        obtain ⟨c2a, c2b⟩ := c2
        obtain ⟨f, rfl⟩ := Int.eq_ofNat_of_zero_le c1a
        obtain ⟨m, rfl⟩ := Int.eq_ofNat_of_zero_le c2a
        have HM := Lib.hid (fun A c W h1 h2 => specL6Result A m c W.heap.size ((x.drop f).take m) W h1 (Nat.le_refl _) h2 (sub_szs hnx f m) (sub_okb hnx f m))
        rw [takeC_yes (show f + m ≤ x.length by omega)]
        obtain ⟨R, hR⟩ : ∃ R, mkC ((x.drop f).take m) = R := ⟨_, rfl⟩
        rw [hR] at HM ⊢
        obtain ⟨r, hr⟩ : ∃ r, f + m = r := ⟨_, rfl⟩
        have er : (f : Int) + m = r := by omega
        have hrn : r ≤ n := by omega
        have hfr : f ≤ r := by omega
        have hrf : r - f = m := by omega
        have hz4 : ((cellsB x).drop (f * 4)).take (m * 4) = cellsB ((x.drop f).take m) := by rw [cellsB_take, cellsB_drop]
        have HZ := Lib.hid hz4
        have HRF := Lib.hid hrf
        have hm20 : m ≤ 1048576 := by omega
        clear hx hR hr hz4 hrf hn hf1 hf2 hk1 hk2
        go_enter Try.func12, Try.ntmps12
        go_wp2_with fail
        refine (H1.out _).mono ?_
        rintro e w1 ⟨A1, c1, rfl, ho1, hb1⟩
        have hnc : n ≤ c1 := by
          obtain ⟨_, _, hh, h, _⟩ := own_form ho1
          injection hh with _ _ hh
          omega
        have hrow := (Row.of_own ho1).sub (l := f) (r := r) hfr hrn hnc
        rw [HRF.out, HZ.out] at hrow
        have hz1 := hb1.size
        clear ho1
        have hrf := HRF.out
        by_cases hcf : c1 = f
        · rw [if_pos hcf] at hrow
          go_wp2_with fail
          refine (HA.out _).mono ?_
          rintro e w2 ⟨rfl, rfl⟩
          go_wp2_with fail
          refine (HB.out _).mono ?_
          rintro e w2 ⟨rfl, rfl⟩
          go_wp2_with fail
          refine (HM.out _ _ _ hrow hm20).mono ?_
          rintro e w4 ⟨rfl, hb4⟩
          go_wp2_with fail
          go_ret2
          exact ⟨rfl, hb1.trans (hb4.mono hz1)⟩
        · rw [if_neg hcf] at hrow
          go_wp2_with fail
          refine (HA.out _).mono ?_
          rintro e w2 ⟨rfl, rfl⟩
          go_wp2_with fail
          refine (HB.out _).mono ?_
          rintro e w2 ⟨rfl, rfl⟩
          go_wp2_with fail
          refine (HM.out _ _ _ hrow hm20).mono ?_
          rintro e w4 ⟨rfl, hb4⟩
          go_wp2_with fail
          go_ret2
          exact ⟨rfl, hb1.trans (hb4.mono hz1)⟩
      · have HB := Lib.hid (fun W => specL1In k 0 ((n : Int) - first) false W (bfalse c2))
        rw [takeC_no (show ¬ takeOk x.length first k from fun h => c2 ⟨h.2.2.1, by have := h.2.2.2; omega⟩)]
        clear hx hn c2
        go_enter Try.func12, Try.ntmps12
        go_wp2_with fail
        refine (H1.out _).mono ?_
        rintro e w1 ⟨A1, c1, rfl, ho1, hb1⟩
        go_wp2_with fail
        refine (HA.out _).mono ?_
        rintro e w2 ⟨rfl, rfl⟩
        go_wp2_with fail
        refine (HB.out _).mono ?_
        rintro e w2 ⟨rfl, rfl⟩
        go_wp2_with fail
        go_ret2
        exact ⟨rfl, hb1⟩
    · have HA := Lib.hid (fun W => specL1In first 0 n false W (bfalse c1))
      rw [takeC_no (show ¬ takeOk x.length first k from fun h => c1 ⟨h.1, by have := h.2.1; omega⟩)]
      clear hx hn c1
      go_enter Try.func12, Try.ntmps12
      go_wp2_with fail
      refine (H1.out _).mono ?_
      rintro e w1 ⟨A1, c1, rfl, ho1, hb1⟩
      go_wp2_with fail
      refine (HA.out _).mono ?_
      rintro e w2 ⟨rfl, rfl⟩
      go_wp2_with fail
      go_ret2
      exact ⟨rfl, hb1⟩

end Go.Proofs.Ythfckbfllodcjaa
