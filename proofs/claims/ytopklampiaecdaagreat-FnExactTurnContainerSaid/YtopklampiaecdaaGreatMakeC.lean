/-
  The contracts of the functions that make a container of blocks: makeContainer, l5Size, l6Fits, l6Texts, l6Result.
-/
import Derived.Test.YtopklampiaecdaaGreatCont
import Derived.Test.YtopklampiaecdaaGreatFormat
import Derived.Test.YtopklampiaecdaaGreatBld
namespace Go.Proofs.YtopklampiaecdaaGreat
open Go.RowKit
set_option linter.unusedVariables false

/-- A block with another number. -/
def renum (i : Nat) (b : Blk) : Blk := ⟨i, b.raw, b.size, b.body⟩

/-- The texts of blocks with numbers from i on. -/
def textsFrom : Nat → List Blk → ByteArray
  | _, [] => ByteArray.empty
  | i, b :: bs => textB (renum i b) ++ textsFrom (i + 1) bs

theorem textsFrom_append (a b : List Blk) : ∀ i, textsFrom i (a ++ b) = textsFrom i a ++ textsFrom (i + a.length) b := by
  induction a with
  | nil => intro i; simp [textsFrom]
  | cons x xs ih =>
    intro i
    show textB (renum i x) ++ textsFrom (i + 1) (xs ++ b) = textB (renum i x) ++ textsFrom (i + 1) xs ++ textsFrom (i + (xs.length + 1)) b
    rw [ih (i + 1), ByteArray.append_assoc, show i + 1 + xs.length = i + (xs.length + 1) from by omega]

theorem textsFrom_take (bs : List Blk) (k : Nat) (b : Blk) (h : bs[k]? = some b) : textsFrom 0 (bs.take (k + 1)) = textsFrom 0 (bs.take k) ++ textB (renum k b) := by
  obtain ⟨hk, rfl⟩ := List.getElem?_eq_some_iff.1 h
  rw [List.take_succ_eq_append_getElem hk, textsFrom_append]
  simp [textsFrom, List.length_take, Nat.min_eq_left (Nat.le_of_lt hk)]

/-- That a block is valid but for its number. -/
def Blk.okb (b : Blk) : Prop := 1 ≤ b.size ∧ b.size ≤ 64 ∧ if b.raw then b.body.size = b.size else 1 ≤ b.body.size ∧ b.body.size < b.size

theorem Blk.ok_of {b : Blk} (h : b.okb) {i : Nat} (hi : i < 40) : (renum i b).ok := ⟨hi, h.1, h.2.1, h.2.2⟩

theorem Blk.okb_of {b : Blk} (h : b.ok) : b.okb := ⟨h.2.1, h.2.2.1, h.2.2.2⟩

theorem Blk.okb_body {b : Blk} (h : b.okb) : b.body.size ≤ 64 := by
  obtain ⟨h1, h2, h3⟩ := h
  split at h3
  · omega
  · omega

theorem textB_size (b : Blk) : (textB b).size = 10 + b.body.size := by
  unfold textB innerB
  simp only [ByteArray.size_append, kindB_size]
  have h1 : (⟨#[181]⟩ : ByteArray).size = 1 := rfl
  have h2 : ∀ n, (two n).size = 2 := fun _ => rfl
  rw [h1]
  simp only [h2]
  omega

theorem textsFrom_size (bs : List Blk) (h : ∀ b ∈ bs, b.okb) : ∀ i, (textsFrom i bs).size ≤ 74 * bs.length := by
  induction bs with
  | nil => intro i; exact Nat.le_refl 0
  | cons x xs ih =>
    intro i
    show (textB (renum i x) ++ textsFrom (i + 1) xs).size ≤ 74 * (xs.length + 1)
    rw [ByteArray.size_append, textB_size]
    have h1 := ih (fun b hb => h b (List.mem_cons_of_mem _ hb)) (i + 1)
    have h2 := Blk.okb_body (h x (List.mem_cons_self ..))
    show 10 + x.body.size + _ ≤ _
    omega

/-- The container of blocks, if they are not too many nor too long. -/
def mkC (bs : List Blk) : Option ByteArray := if bs.length ≤ 40 ∧ szs bs ≤ 2000 then some (textsFrom 0 bs) else none

/-- A string and a bool as results. -/
abbrev optV (o : Option ByteArray) : Value := .tuple #[.string (o.getD ByteArray.empty), .bool o.isSome]

theorem mkC_yes {bs : List Blk} (h1 : bs.length ≤ 40) (h2 : szs bs ≤ 2000) : mkC bs = some (textsFrom 0 bs) := if_pos ⟨h1, h2⟩

theorem mkC_no {bs : List Blk} (h : ¬ (bs.length ≤ 40 ∧ szs bs ≤ 2000)) : mkC bs = none := if_neg h

theorem ret_optYes {o : Option ByteArray} {t : ByteArray} (h : o = some t) : Ending.returned (.tuple #[.string t, .bool true]) = .returned (optV o) := by rw [h]; rfl

theorem ret_optNo {o : Option ByteArray} (h : o = none) : Ending.returned (.tuple #[.string ByteArray.empty, .bool false]) = .returned (optV o) := by rw [h]; rfl

set_option maxHeartbeats 1000000 in
theorem specL5Size (A : Option Addr) (n c B : Nat) (bs : List Blk) (w : World) (h : Row w B 4 A n (cellsB bs)) (hn : n ≤ 1048576) (hz : szs bs ≤ 1048576) :
    Calls Tryz.prog 64 #[.slice A n c] w fun e w' => e = .returned (.int .i64 (szs bs : Int)) ∧ w = w' := by
  have hlen := h.len4
  go_enter Tryz.func64, Tryz.ntmps64
  go_wp2_with fail
  go_loop [3, 4] (fun v i => ∃ k : Nat, k ≤ n ∧ i = .int .i64 k ∧ v = .int .i64 (szs (bs.take k) : Int)) (fun _ i => n - (intOf i).toNat)
  case atStart => exact ⟨0, Nat.zero_le _, rfl, rfl⟩
  case round =>
    obtain ⟨k, hk, rfl, rfl⟩ := hrel
    by_cases hlt : k < n
    · obtain ⟨⟨num, raw, size, body⟩, hb⟩ : ∃ b, bs[k]? = some b := ⟨_, List.getElem?_eq_getElem (by omega)⟩
      obtain ⟨b, off, rfl, hbB, g0, g1, g2, g3⟩ := h.blk hlt hb
      have hs := szs_take_succ bs k _ hb
      have hle := szs_take_le bs (k + 1)
      obtain ⟨q, hq⟩ : ∃ q, szs (bs.take k) = q := ⟨_, rfl⟩
      obtain ⟨q', hq'⟩ : ∃ q, szs (bs.take (k + 1)) = q := ⟨_, rfl⟩
      simp only at hs
      rw [hq, hq'] at hs
      rw [hq'] at hle
      rw [hq]
      have hqs : q + size ≤ 1048576 := by omega
      have HQ := Lib.hid hq'
      have HS := Lib.hid hs
      clear hq hq' hs hb hlen h
      go_wp2_with fail
      go_round
      case rel => exact ⟨k + 1, by omega, by go_num, by rw [HQ.out, HS.out]; go_num⟩
      case measure => simp [intOf]; omega
    · obtain rfl : k = n := by omega
      have ht : bs.take k = bs := List.take_of_length_le (by omega)
      rw [ht]
      clear ht hlen
      go_wp2_with fail
      go_ret
      exact ⟨rfl, rfl⟩

set_option maxHeartbeats 1000000 in
theorem specL6Fits (A : Option Addr) (n c B : Nat) (bs : List Blk) (r : Bool) (w : World) (h : Row w B 4 A n (cellsB bs)) (hn : n ≤ 1048576) (hz : szs bs ≤ 1048576) (hr : r = true ↔ n ≤ 40 ∧ szs bs ≤ 2000) :
    Calls Tryz.prog 86 #[.slice A n c] w fun e w' => e = .returned (.bool r) ∧ w = w' := by
  have HS := Lib.hid (specL5Size A n c B bs w h hn hz)
  have HR := Lib.hid hr
  clear hr
  by_cases h1 : n ≤ 40
  · go_enter Tryz.func86, Tryz.ntmps86
    go_wp2_with fail
    refine HS.out.mono ?_
    rintro e w' ⟨rfl, rfl⟩
    go_wp2_with fail
    go_ret
    refine ⟨ret_bool ?_, rfl⟩
    rw [Bool.eq_iff_iff, HR.out]; simp; omega
  · go_enter Tryz.func86, Tryz.ntmps86
    go_wp2_with fail
    go_ret
    refine ⟨ret_bool ?_, rfl⟩
    rw [Bool.eq_iff_iff, HR.out]; simp; omega

set_option maxHeartbeats 2000000 in
theorem specL6Texts (A : Option Addr) (n c B : Nat) (bs : List Blk) (w : World) (h : Row w B 4 A n (cellsB bs)) (hB : B ≤ w.heap.size) (hn : n ≤ 40) (hok : ∀ b ∈ bs, b.okb) :
    Calls Tryz.prog 55 #[.slice A n c, .int .i64 0] w fun e w' => e = .returned (.string (textsFrom 0 bs)) ∧ Below w.heap.size w w' := by
  have hlen := h.len4
  go_enter Tryz.func55, Tryz.ntmps55
  go_wp2_with fail
  go_loopw [5, 6] (fun v i wr => ∃ k : Nat, k ≤ n ∧ i = .int .i64 k ∧ v = .string (textsFrom 0 (bs.take k)) ∧ Below w.heap.size w wr) (fun _ i _ => n - (intOf i).toNat)
  case atStart => exact ⟨0, Nat.zero_le _, rfl, rfl, Below.refl _ _⟩
  case round =>
    obtain ⟨k, hk, rfl, rfl, hbel⟩ := hrel
    have hwz := hbel.size
    by_cases hlt : k < n
    · obtain ⟨⟨num, raw, size, body⟩, hb⟩ : ∃ b, bs[k]? = some b := ⟨_, List.getElem?_eq_getElem (by omega)⟩
      obtain ⟨g, off, rfl, hg, p0, p1, p2, p3⟩ := (h.below hbel hB).blk hlt hb
      have hob := hok _ (List.mem_of_getElem? hb)
      have hbs := Blk.okb_body hob
      have hsz := hob.2.1
      simp only at hbs hsz
      have htx := textsFrom_take bs k _ hb
      have hts := textsFrom_size (bs.take k) (fun b hb => hok b (List.mem_of_mem_take hb)) 0
      have htl : (bs.take k).length ≤ 40 := by rw [List.length_take]; omega
      have HT5 := Lib.hid (fun W => specL5Text ⟨k, raw, size, body⟩ W (by simp only; omega) (by simp only; omega) (by simp only; omega))
      obtain ⟨t, ht⟩ : ∃ t, textsFrom 0 (bs.take k) = t := ⟨_, rfl⟩
      obtain ⟨x, hx⟩ : ∃ x, textB ⟨k, raw, size, body⟩ = x := ⟨_, rfl⟩
      have hxs : x.size ≤ 100 := by rw [← hx, textB_size]; simp only; omega
      have htx' : textsFrom 0 (bs.take (k + 1)) = t ++ x := by rw [htx, ht, ← hx]; rfl
      rw [ht] at hts ⊢
      have hadd : ∀ W, (Op.stringOp .add t x).run Tryz.prog W = .ok (.string (t ++ x)) W := fun W => run_string_add_sum W _ _ (by omega)
      have HX := Lib.hid hx
      have HTX := Lib.hid htx'
      clear htx htx' ht hx hb hlen hts htl hob
      go_wp2_with fail
      refine (HT5.out _).mono ?_
      rintro e w1 ⟨rfl, hb1⟩
      rw [HX.out]
      go_wp2_with fail
      go_roundw
      case rel => exact ⟨k + 1, by omega, by go_num, by rw [HTX.out], (hbel.alloc hwz _).trans (hb1.mono (by simp; omega))⟩
      case measure => simp [intOf]; omega
    · obtain rfl : k = n := by omega
      have ht : bs.take k = bs := List.take_of_length_le (by omega)
      rw [ht]
      clear ht hlen
      go_wp2_with fail
      go_ret
      exact ⟨rfl, hbel⟩

set_option maxHeartbeats 1000000 in
theorem specL6Result (A : Option Addr) (n c B : Nat) (bs : List Blk) (w : World) (h : Row w B 4 A n (cellsB bs)) (hB : B ≤ w.heap.size) (hn : n ≤ 1048576) (hz : szs bs ≤ 1048576) (hok : ∀ b ∈ bs, b.okb) :
    Calls Tryz.prog 47 #[.slice A n c] w fun e w' => e = .returned (optV (mkC bs)) ∧ Below w.heap.size w w' := by
  have hlen := h.len4
  by_cases hf : n ≤ 40 ∧ szs bs ≤ 2000
  · have HR := Lib.hid (ret_optYes (mkC_yes (bs := bs) (by omega) hf.2))
    have HF := Lib.hid (specL6Fits A n c B bs true w h hn hz (btrue hf))
    have HT := Lib.hid (fun W (hh : Row W B 4 A n (cellsB bs)) (hb : B ≤ W.heap.size) => specL6Texts A n c B bs W hh hb hf.1 hok)
    clear hf hlen
    go_enter Tryz.func47, Tryz.ntmps47
    go_wp2_with fail
    refine HF.out.mono ?_
    rintro e w' ⟨rfl, rfl⟩
    go_wp2_with fail
    refine (HT.out _ h hB).mono ?_
    rintro e w1 ⟨rfl, hb1⟩
    go_wp2_with fail
    go_ret2
    exact ⟨HR.out, hb1⟩
  · have HR := Lib.hid (ret_optNo (mkC_no (bs := bs) (fun h => hf ⟨by omega, h.2⟩)))
    have HF := Lib.hid (specL6Fits A n c B bs false w h hn hz (bfalse hf))
    clear hf hlen
    go_enter Tryz.func47, Tryz.ntmps47
    go_wp2_with fail
    refine HF.out.mono ?_
    rintro e w' ⟨rfl, rfl⟩
    go_wp2_with fail
    go_ret2
    exact ⟨HR.out, Below.refl _ _⟩

set_option maxHeartbeats 2000000 in
theorem implMakeContainer (A : Option Addr) (n c B : Nat) (bs : List Blk) (w : World) (h : Row w B 4 A n (cellsB bs)) (hB : B ≤ w.heap.size) (hn : n ≤ 1048576) (hz : szs bs ≤ 1048576) (hok : ∀ b ∈ bs, b.okb) :
    Calls Tryz.prog 51 #[.slice A n c] w fun e w' => e = .returned (optV (mkC bs)) ∧ Below w.heap.size w w' := by
  have hlen := h.len4
  by_cases h1 : n ≤ 40
  · obtain ⟨z, hz0⟩ : ∃ z, szs bs = z := ⟨_, rfl⟩
    have HS := Lib.hid (implSizeOf A n c B bs w h hB hn hz)
    rw [hz0] at HS
    by_cases h2 : z ≤ 2000
    · have HR := Lib.hid (ret_optYes (mkC_yes (bs := bs) (by omega) (by omega)))
      have HL := Lib.hid hlen
      clear hz0 hz hlen
      go_enter Tryz.func51, Tryz.ntmps51
      go_wp2_with fail
      refine HS.out.mono ?_
      rintro e w1 ⟨rfl, hb1⟩
      have hrow1 := h.below hb1 hB
      have hB1 : B ≤ w1.heap.size := Nat.le_trans hB hb1.size
      have hz1 := hb1.size
      clear h
      go_wp2_with fail
      go_loopw [19] (fun i wr => ∃ k : Nat, k ≤ n ∧ i = .int .i64 k ∧ Bld wr w1.heap.size w1.heap.size (textsFrom 0 (bs.take k)) ∧ Below w1.heap.size w1 wr) (fun i _ => n - (intOf i).toNat)
      case atStart => exact ⟨0, Nat.zero_le _, rfl, Bld.new w1, (Below.refl _ _).alloc (Nat.le_refl _) _⟩
      case round =>
        obtain ⟨k, hk, rfl, hbld, hbel⟩ := hrel
        have hwz := hbel.size
        have hbl := hbld.lt
        by_cases hlt : k < n
        · obtain ⟨⟨num, raw, size, body⟩, hb⟩ : ∃ b, bs[k]? = some b := ⟨_, List.getElem?_eq_getElem (by rw [HL.out]; exact hlt)⟩
          obtain ⟨g, off, rfl, hg, p0, p1, p2, p3⟩ := (hrow1.below hbel hB1).blk hlt hb
          have hob := hok _ (List.mem_of_getElem? hb)
          have hbs := Blk.okb_body hob
          simp only at hbs
          have htx := textsFrom_take bs k _ hb
          have hts := textsFrom_size (bs.take k) (fun b hb => hok b (List.mem_of_mem_take hb)) 0
          have htl : (bs.take k).length ≤ 40 := by rw [List.length_take]; omega
          have HF := Lib.hid (fun W => implFormatBlockYes k size raw body W (Blk.ok_of hob (by omega)))
          obtain ⟨t, ht⟩ : ∃ t, textsFrom 0 (bs.take k) = t := ⟨_, rfl⟩
          obtain ⟨x, hx⟩ : ∃ x, textB ⟨k, raw, size, body⟩ = x := ⟨_, rfl⟩
          have hxs : x.size ≤ 100 := by rw [← hx, textB_size]; simp only; omega
          have htx' : textsFrom 0 (bs.take (k + 1)) = t ++ x := by rw [htx, ht, ← hx]; rfl
          rw [ht] at hts hbld
          have hts2 : t.size ≤ 3000 := by omega
          rw [hx] at HF
          have HTX := Lib.hid htx'
          clear htx htx' ht hx hb htl hob hrow1
          go_wp2_with fail
          refine (HF.out _).mono ?_
          rintro e w2 ⟨rfl, hb2⟩
          have hbld2 := (hbld.alloc (.cells #[.int .i64 k, .bool raw, .int .i64 size, .string body] 71)).below hb2
          have hbel2 : Below w1.heap.size w1 w2 := (hbel.alloc hwz _).trans (hb2.mono (by simp; omega))
          clear hbld hbel hb2
          go_wp2_with fail
          refine (bldWrite _ _ t x _ hbld2 (by omega)).mono ?_
          rintro e w3 ⟨rfl, hbld3, hb3⟩
          have hbel3 := hbel2.trans hb3
          go_wp2_with fail
          go_roundw
          case rel => exact ⟨k + 1, by omega, by go_num, by rw [HTX.out]; exact hbld3, hbel3⟩
          case measure => simp [intOf]; omega
        · obtain rfl : k = n := by omega
          have ht : bs.take k = bs := List.take_of_length_le (by rw [HL.out]; omega)
          rw [ht] at hbld
          clear ht
          go_wp2_with fail
          refine (bldString _ _ _ _ hbld).mono ?_
          rintro e w2 ⟨rfl, hb2⟩
          go_wp2_with fail
          go_ret2
          exact ⟨HR.out, hb1.trans ((hbel.trans hb2).mono hz1)⟩
    · have HR := Lib.hid (ret_optNo (mkC_no (bs := bs) (fun h => h2 (by omega))))
      clear hz0 hz hlen
      go_enter Tryz.func51, Tryz.ntmps51
      go_wp2_with fail
      refine HS.out.mono ?_
      rintro e w1 ⟨rfl, hb1⟩
      go_wp2_with fail
      go_ret2
      exact ⟨HR.out, hb1⟩
  · have HR := Lib.hid (ret_optNo (mkC_no (bs := bs) (fun h => h1 (by omega))))
    clear hlen
    go_enter Tryz.func51, Tryz.ntmps51
    go_wp2_with fail
    go_ret2
    exact ⟨HR.out, Below.refl _ _⟩

end Go.Proofs.YtopklampiaecdaaGreat
