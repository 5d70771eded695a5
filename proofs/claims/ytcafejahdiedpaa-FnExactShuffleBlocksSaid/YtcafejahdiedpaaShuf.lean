/-
  The contracts of ShuffleBlocks, of the program and of the reference: both write the same blocks in the same order.
-/
import Derived.Test.YtcafejahdiedpaaMakeC
import Derived.Test.YtcafejahdiedpaaContSpec
import Derived.Test.YtcafejahdiedpaaOrder
namespace Go.Proofs.Ytcafejahdiedpaa
open Go.RowKit
set_option linter.unusedVariables false

/-- The texts of blocks in an order. -/
def shufT (bs : List Blk) (os : List Int) : ByteArray := os.foldl (fun t z => t ++ textB (bs.getD z.toNat ⟨0, false, 0, ByteArray.empty⟩)) ByteArray.empty

theorem shufT_snoc {bs : List Blk} {os : List Int} {k m : Nat} {b : Blk} (h : os[k]? = some (m : Int)) (hb : bs[m]? = some b) : shufT bs (os.take (k + 1)) = shufT bs (os.take k) ++ textB b := by
  rw [take_ints os k _ h]
  unfold shufT
  rw [List.foldl_append]
  simp [hb]

theorem foldl_size {bs : List Blk} (h : ∀ b ∈ bs, b.ok) (os : List Int) : ∀ t : ByteArray, (os.foldl (fun t z => t ++ textB (bs.getD z.toNat ⟨0, false, 0, ByteArray.empty⟩)) t).size ≤ t.size + 74 * os.length := by
  induction os with
  | nil => intro t; simp
  | cons x xs ih =>
    intro t
    have h1 := ih (t ++ textB (bs.getD x.toNat ⟨0, false, 0, ByteArray.empty⟩))
    have h2 : (textB (bs.getD x.toNat ⟨0, false, 0, ByteArray.empty⟩)).size ≤ 74 := by
      rw [textB_size, List.getD_eq_getElem?_getD]
      rcases hx : bs[x.toNat]? with _ | b
      · show 10 + 0 ≤ 74; omega
      · have := Blk.okb_body (Blk.okb_of (h b (List.mem_of_getElem? hx)))
        show 10 + b.body.size ≤ 74; omega
    rw [ByteArray.size_append] at h1
    simp only [List.foldl_cons, List.length_cons]
    omega

theorem shufT_size {bs : List Blk} (h : ∀ b ∈ bs, b.ok) (os : List Int) : (shufT bs os).size ≤ 74 * os.length := by
  have := foldl_size h os ByteArray.empty
  unfold shufT
  have e : ByteArray.empty.size = 0 := rfl
  omega

/-- What ShuffleBlocks returns. -/
def shufC (o : Option (List Blk)) (os : List Int) : Option ByteArray :=
  match o with
  | some bs => if os.length = bs.length ∧ ordOk os bs.length then some (shufT bs os) else none
  | none => none

theorem shufC_no {bs : List Blk} {os : List Int} (h : ¬ (os.length = bs.length ∧ ordOk os bs.length)) : shufC (some bs) os = none := if_neg h

theorem shufC_yes {bs : List Blk} {os : List Int} (h : os.length = bs.length) (h2 : ordOk os bs.length) : shufC (some bs) os = some (shufT bs os) := if_pos ⟨h, h2⟩

set_option maxHeartbeats 2000000 in
theorem specShuffleBlocks (s : ByteArray) (A : Option Addr) (q c Q : Nat) (os : List Int) (w : World) (hs : s.size ≤ 1048576) (hl : os.length = q) (hq : q ≤ 1048576) (hrow : Row w Q 1 A q (os.map intV)) (hQ : Q ≤ w.heap.size) :
    Calls Try.prog 19 #[.string s, .slice A q c] w fun e w' => e = .returned (optV (shufC (contB s) os)) ∧ Below w.heap.size w w' := by
  rcases hx : contB s with _ | x
  · have H1 := Lib.hid (fun W => specL5BlocksNo s W hs hx)
    clear hx
    go_enter Try.func19, Try.ntmps19
    go_wp2_with fail
    refine (H1.out _).mono ?_
    rintro e w1 ⟨A1, c1, rfl, ho1, hb1⟩
    go_wp2_with fail
    go_ret2
    exact ⟨rfl, hb1⟩
  · obtain ⟨n, hn⟩ : ∃ n, x.length = n := ⟨_, rfl⟩
    have hnx := contB_numbered hx
    have hn40 := hnx.length
    rw [hn] at hn40
    have H1 := Lib.hid (fun W => specL5BlocksYes s x n W hs hx hn)
    by_cases hok : ordOk os q
    · have HO := Lib.hid (fun W h1 h2 => specL7Order A q c Q os true W hl hq h1 h2 (btrue hok))
      by_cases hqn : q = n
      · subst hqn
        have hR := shufC_yes (bs := x) (os := os) (by omega) (by rw [hn]; exact hok)
        have HR := Lib.hid (ret_optYes hR)
        have HL := Lib.hid hl
        have HN := Lib.hid hn
        clear hx hn hl hR
        go_enter Try.func19, Try.ntmps19
        go_wp2_with fail
        refine (H1.out _).mono ?_
        rintro e w1 ⟨A1, c1, rfl, ho1, hb1⟩
        have hz1 := hb1.size
        have hrow1 := hrow.below hb1 hQ
        have hr1 := Row.of_own ho1
        clear ho1
        go_wp2_with fail
        refine (HO.out _ hrow1 (by omega)).mono ?_
        rintro e w2 ⟨rfl, hb2⟩
        have hz2 := hb2.size
        have hb02 := hb1.trans (hb2.mono hz1)
        have hr2 := hr1.below hb2 (Nat.le_refl _)
        have hB2 : w1.heap.size ≤ w2.heap.size := hz2
        have hrow2 := hrow1.below hb2 (by omega)
        clear hrow1 hr1 hb1 hb2 hrow
        go_wp2_with fail
        go_loopw [8, 9] (fun v i wr => ∃ k : Nat, k ≤ q ∧ i = .int .i64 k ∧ v = .string (shufT x (os.take k)) ∧ Below w2.heap.size w2 wr) (fun _ i _ => q - (intOf i).toNat)
        case atStart => exact ⟨0, Nat.zero_le _, rfl, rfl, Below.refl _ _⟩
        case round =>
          obtain ⟨k, hk, rfl, rfl, hbel⟩ := hrel
          have hwz := hbel.size
          by_cases hlt : k < q
          · obtain ⟨z, hz⟩ : ∃ z, os[k]? = some z := ⟨_, List.getElem?_eq_getElem (by have := HL.out; omega)⟩
            have hfit := (ordFits_of (n := q) hz).1 (hok k (by have := HL.out; omega))
            obtain ⟨m, rfl⟩ := Int.eq_ofNat_of_zero_le hfit.1
            have hm : m < q := by have := hfit.2.1; omega
            obtain ⟨⟨num, raw, size, body⟩, hb⟩ : ∃ b, x[m]? = some b := ⟨_, List.getElem?_eq_getElem (by have := HN.out; omega)⟩
            obtain ⟨b, off, rfl, hbl, hc⟩ := hrow2.2 (by omega)
            have hcell : wr.cell? ⟨b, off + k, none⟩ = some (.int .i64 (m : Int)) := (hbel.cell (p := ⟨b, off + k, none⟩) (by show b < _; omega)).trans (hc k _ (by simp [hz]))
            obtain ⟨g, off2, rfl, hg, p0, p1, p2, p3⟩ := (hr2.below hbel hB2).blk hm hb
            have hbok := hnx.of_mem (List.mem_of_getElem? hb)
            obtain ⟨k1, k2, k3, _⟩ := hbok
            have hbs := Blk.okb_body (Blk.okb_of (hnx.of_mem (List.mem_of_getElem? hb)))
            simp only at k1 k2 k3 hbs
            have HT5 := Lib.hid (fun W => specL5Text ⟨num, raw, size, body⟩ W (by simp only; omega) (by simp only; omega) (by simp only; omega))
            have htx := shufT_snoc hz hb
            have hts := shufT_size (fun b hb => hnx.of_mem hb) (os.take k)
            have htl : (os.take k).length ≤ 40 := by rw [List.length_take]; omega
            obtain ⟨t, ht⟩ : ∃ t, shufT x (os.take k) = t := ⟨_, rfl⟩
            obtain ⟨y, hy⟩ : ∃ y, textB ⟨num, raw, size, body⟩ = y := ⟨_, rfl⟩
            have hys : y.size ≤ 100 := by rw [← hy, textB_size]; simp only; omega
            rw [ht, hy] at htx
            rw [ht] at hts ⊢
            have hadd : ∀ W, (Op.stringOp .add t y).run Try.prog W = .ok (.string (t ++ y)) W := fun W => run_string_add_sum W _ _ (by omega)
            have HY := Lib.hid hy
            have HTX := Lib.hid htx
            have i1 : (0 : Int) ≤ m := by omega
            have i2 : (m : Int) < q := by omega
            clear htx ht hy hb hz hfit hc hts htl hok
            go_wp2_with fail
            refine (HT5.out _).mono ?_
            rintro e w3 ⟨rfl, hb3⟩
            rw [HY.out]
            go_wp2_with fail
            go_roundw
            case rel => exact ⟨k + 1, by omega, by go_num, by rw [HTX.out], hbel.trans (hb3.mono hwz)⟩
            case measure => simp [intOf]; omega
          · obtain rfl : k = q := by omega
            have ht : os.take k = os := List.take_of_length_le (by rw [HL.out]; omega)
            rw [ht]
            clear ht hok
            go_wp2_with fail
            go_ret2
            exact ⟨HR.out, hb02.trans (hbel.mono hb02.size)⟩
      · have HR := Lib.hid (ret_optNo (shufC_no (bs := x) (os := os) (fun h => hqn (by omega))))
        have i1 : ((q : Int) != n) = true := by rw [bne_iff_ne]; omega
        clear hx hn hl
        go_enter Try.func19, Try.ntmps19
        go_wp2_with fail
        refine (H1.out _).mono ?_
        rintro e w1 ⟨A1, c1, rfl, ho1, hb1⟩
        have hz1 := hb1.size
        have hrow1 := hrow.below hb1 hQ
        clear ho1
        go_wp2_with fail
        refine (HO.out _ hrow1 (by omega)).mono ?_
        rintro e w2 ⟨rfl, hb2⟩
        go_wp2_with fail
        go_ret2
        exact ⟨HR.out, hb1.trans (hb2.mono hz1)⟩
    · have HO := Lib.hid (fun W h1 h2 => specL7Order A q c Q os false W hl hq h1 h2 (bfalse hok))
      have HR := Lib.hid (ret_optNo (shufC_no (bs := x) (os := os) (fun h => hok (by rw [← hl, h.1]; exact h.2))))
      clear hx hn hl hok
      go_enter Try.func19, Try.ntmps19
      go_wp2_with fail
      refine (H1.out _).mono ?_
      rintro e w1 ⟨A1, c1, rfl, ho1, hb1⟩
      have hz1 := hb1.size
      have hrow1 := hrow.below hb1 hQ
      clear ho1
      go_wp2_with fail
      refine (HO.out _ hrow1 (by omega)).mono ?_
      rintro e w2 ⟨rfl, hb2⟩
      go_wp2_with fail
      go_ret2
      exact ⟨HR.out, hb1.trans (hb2.mono hz1)⟩

set_option maxHeartbeats 4000000 in
theorem implShuffleBlocks (s : ByteArray) (A : Option Addr) (q c Q : Nat) (os : List Int) (w : World) (hs : s.size ≤ 1048576) (hl : os.length = q) (hq : q ≤ 1048576) (hrow : Row w Q 1 A q (os.map intV)) (hQ : Q ≤ w.heap.size) :
    Calls Try.prog 21 #[.string s, .slice A q c] w fun e w' => e = .returned (optV (shufC (contB s) os)) ∧ Below w.heap.size w w' := by
  rcases hx : contB s with _ | x
  · have H1 := Lib.hid (fun W => implContainerBlocksNo s W hs hx)
    clear hx
    go_enter Try.func21, Try.ntmps21
    go_wp2_with fail
    refine (H1.out _).mono ?_
    rintro e w1 ⟨A1, c1, rfl, ho1, hb1⟩
    go_wp2_with fail
    go_ret2
    exact ⟨rfl, hb1⟩
  · obtain ⟨n, hn⟩ : ∃ n, x.length = n := ⟨_, rfl⟩
    have hnx := contB_numbered hx
    have hn40 := hnx.length
    rw [hn] at hn40
    have H1 := Lib.hid (fun W => implContainerBlocksYes s x n W hs hx hn)
    by_cases hqn : q = n
    · subst hqn
      have HL := Lib.hid hl
      have HN := Lib.hid hn
      have hbad : ∀ k, k < q → ¬ ordFits os q k → Ending.returned (.tuple #[.string ByteArray.empty, .bool false]) = .returned (optV (shufC (some x) os)) := fun k hk h => ret_optNo (shufC_no (fun h' => h (by rw [← hn]; exact h'.2 k (by omega))))
      have hgood : ordTo os q q → Ending.returned (.tuple #[.string (shufT x os), .bool true]) = .returned (optV (shufC (some x) os)) := fun h => ret_optYes (shufC_yes (by omega) (fun k hk => by rw [hn]; exact h k (by omega)))
      have HBAD := Lib.hid hbad
      have HGOOD := Lib.hid hgood
      have hmk := run_make_row' (P := Try.prog) 75 4 (.bool false) 1 Try.underlying75 infoBool rfl .i64 .i64 q (by omega) (by omega)
      clear hx hn hl hbad hgood
      go_enter Try.func21, Try.ntmps21
      go_wp2_with fail
      refine (H1.out _).mono ?_
      rintro e w1 ⟨A1, c1, rfl, ho1, hb1⟩
      have hz1 := hb1.size
      have hrow1 := hrow.below hb1 hQ
      have hr1 := Row.of_own ho1
      clear ho1 hrow
      go_wp2_with fail
      clear hmk
      go_loopw [33] (fun i wr => ∃ k : Nat, k ≤ q ∧ i = .int .i64 k ∧ ordTo os q k ∧ wr.rowIs w1.heap.size 4 q (seenF os k) ∧ Bld wr (w1.heap.size + 1) (w1.heap.size + 1) (shufT x (os.take k)) ∧ Below w1.heap.size w1 wr) (fun i _ => q - (intOf i).toNat)
      case atStart => exact ⟨0, Nat.zero_le _, rfl, ordTo_zero _ _, (World.rowIs.alloc ((World.rowIs_made _ _ _ _).congr (fun i _ => by simp [seenF])) _), by simpa [shufT] using Bld.new (w1.alloc (.cells (madeCells #[Value.bool false] q) 4)), ((Below.refl _ _).alloc (Nat.le_refl _) _).alloc (by simp) _⟩
      case round =>
        obtain ⟨k, hk, rfl, hto, hseen, hbld, hbel⟩ := hrel
        have hwz := hbel.size
        have hbl := hbld.lt
        by_cases hlt : k < q
        · obtain ⟨z, hz⟩ : ∃ z, os[k]? = some z := ⟨_, List.getElem?_eq_getElem (by have := HL.out; omega)⟩
          obtain ⟨b, off, rfl, hbB, hc⟩ := hrow1.2 (by omega)
          have hcell : wr.cell? ⟨b, off + k, none⟩ = some (.int .i64 z) := (hbel.cell (p := ⟨b, off + k, none⟩) (by show b < _; omega)).trans (hc k _ (by simp [hz]))
          have hfits := ordFits_of (n := q) hz
          clear hc
          by_cases c1 : 0 ≤ z
          · by_cases c2 : z < q
            · obtain ⟨m, rfl⟩ := Int.eq_ofNat_of_zero_le c1
              have hm : m < q := by omega
              have hsc := hseen.cell hm
              have hsf := hseen.frozen m
              by_cases c3 : (m : Int) ∈ os.take k
              · have HR := Lib.hid (HBAD.out k hlt (fun h => (hfits.1 h).2.2 c3))
                have hsc2 : wr.cell? ⟨w1.heap.size, m, none⟩ = some (.bool true) := by rw [hsc]; simp [seenF, c3]
                clear hsc hfits hz c3 hseen hto hbld hbl
                go_wp2_with fail
                go_ret2
                exact ⟨HR.out, hb1.trans (hbel.mono hz1)⟩
              · have hsc2 : wr.cell? ⟨w1.heap.size, m, none⟩ = some (.bool false) := by rw [hsc]; simp [seenF, c3]
                have HT := Lib.hid (ordTo_succ hto (hfits.2 ⟨c1, c2, c3⟩))
                have hs2 := seen_set hseen hz
                have hb2 : Below w1.heap.size w1 (wr.setCell ⟨w1.heap.size, m, none⟩ (.bool true)) := hbel.setCell (Nat.le_refl _) _
                have hbld2 := hbld.setCell (p := ⟨w1.heap.size, m, none⟩) (by show w1.heap.size < _; omega) (.bool true)
                obtain ⟨⟨num, raw, size, body⟩, hb⟩ : ∃ b, x[m]? = some b := ⟨_, List.getElem?_eq_getElem (by have := HN.out; omega)⟩
                obtain ⟨g, off2, rfl, hg, p0, p1, p2, p3⟩ := (hr1.below hb2 (Nat.le_refl _)).blk hm hb
                have hbok := hnx.of_mem (List.mem_of_getElem? hb)
                have hbs := Blk.okb_body (Blk.okb_of hbok)
                simp only at hbs
                have HF := Lib.hid (fun W => implFormatBlockYes num size raw body W hbok)
                have htx := shufT_snoc hz hb
                have hts := shufT_size (fun b hb => hnx.of_mem hb) (os.take k)
                have htl : (os.take k).length ≤ 40 := by rw [List.length_take]; omega
                obtain ⟨t, ht⟩ : ∃ t, shufT x (os.take k) = t := ⟨_, rfl⟩
                obtain ⟨y, hy⟩ : ∃ y, textB ⟨num, raw, size, body⟩ = y := ⟨_, rfl⟩
                have hys : y.size ≤ 100 := by rw [← hy, textB_size]; simp only; omega
                rw [ht, hy] at htx
                rw [ht] at hts hbld2
                rw [hy] at HF
                have hts2 : t.size ≤ 3000 := by omega
                have HTX := Lib.hid htx
                obtain ⟨w2, hw2⟩ : ∃ w2, wr.setCell ⟨w1.heap.size, m, none⟩ (.bool true) = w2 := ⟨_, rfl⟩
                rw [hw2] at hs2 hb2 hbld2 p0 p1 p2 p3
                have hw2z := hb2.size
                have hbl2 := hbld2.lt
                have i1 : (0 : Int) ≤ m := by omega
                have i2 : (m : Int) < q := by omega
                clear hsc hfits hz c3 hseen hto hbld htx hts htl ht hy hb hbok hbel
                go_wp2_with fail
                clear hw2 hsf hsc2 hcell
                refine (HF.out _).mono ?_
                rintro e w3 ⟨rfl, hb3⟩
                have hs3 := hs2.of_block (hb3.block w1.heap.size (by omega))
                have hbld3 := hbld2.below hb3
                have hbel3 := hb2.trans (hb3.mono hw2z)
                clear hs2 hbld2 hb2 hb3
                go_wp2_with fail
                refine (bldWrite _ _ t y _ hbld3 (by omega)).mono ?_
                rintro e w4 ⟨rfl, hbld4, hb4⟩
                have hs4 := hs3.of_block (hb4.block w1.heap.size (by omega))
                have hbel4 := hbel3.trans (hb4.mono (by omega))
                clear hs3 hbld3 hb4 hbel3
                go_wp2_with fail
                go_roundw
                case rel => exact ⟨k + 1, by omega, by go_num, HT.out, hs4, by rw [HTX.out]; exact hbld4, hbel4⟩
                case measure => simp [intOf]; omega
            · have HR := Lib.hid (HBAD.out k hlt (fun h => c2 (hfits.1 h).2.1))
              clear hfits hz hseen hto hbld hbl
              go_wp2_with fail
              go_ret2
              exact ⟨HR.out, hb1.trans (hbel.mono hz1)⟩
          · have HR := Lib.hid (HBAD.out k hlt (fun h => c1 (hfits.1 h).1))
            clear hfits hz hseen hto hbld hbl
            go_wp2_with fail
            go_ret2
            exact ⟨HR.out, hb1.trans (hbel.mono hz1)⟩
        · obtain rfl : k = q := by omega
          have ht : os.take k = os := List.take_of_length_le (by rw [HL.out]; omega)
          rw [ht] at hbld
          have HR := Lib.hid (HGOOD.out hto)
          clear ht hseen hto
          go_wp2_with fail
          refine (bldString _ _ _ _ hbld).mono ?_
          rintro e w2 ⟨rfl, hb2⟩
          go_wp2_with fail
          go_ret2
          exact ⟨HR.out, hb1.trans ((hbel.trans (hb2.mono (by omega))).mono hz1)⟩
    · have HR := Lib.hid (ret_optNo (shufC_no (bs := x) (os := os) (fun h => hqn (by omega))))
      have i1 : ((q : Int) != n) = true := by rw [bne_iff_ne]; omega
      clear hx hn hl
      go_enter Try.func21, Try.ntmps21
      go_wp2_with fail
      refine (H1.out _).mono ?_
      rintro e w1 ⟨A1, c1, rfl, ho1, hb1⟩
      go_wp2_with fail
      go_ret2
      exact ⟨HR.out, hb1⟩

end Go.Proofs.Ytcafejahdiedpaa
