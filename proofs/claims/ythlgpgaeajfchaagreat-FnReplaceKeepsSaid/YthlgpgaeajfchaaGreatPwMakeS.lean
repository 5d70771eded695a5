/-
 The reference's l5Ready, l5Block, l5Make and MakeContainer.
-/
import Derived.Test.YthlgpgaeajfchaaGreatShelf
import Derived.Test.YthlgpgaeajfchaaGreatPwCont
import Derived.Test.YthlgpgaeajfchaaGreatPwComp

namespace Go.Proofs.YthlgpgaeajfchaaGreat
open Go.RowKit
set_option linter.unusedVariables false
attribute [local go_sem ↓] Go.wp_at_zero Go.wp_at_succ

set_option maxHeartbeats 4000000 in
theorem implFormatBlockYes (num size : Nat) (raw : Bool) (body : ByteArray) (w : World) (hok : (⟨num, raw, size, body⟩ : Blk).ok) :
  Calls Tryz.prog 100 #[.agg #[.int .i64 num, .bool raw, .int .i64 size, .string body]] w fun e w' => e = .returned (.tuple #[.string (textB ⟨num, raw, size, body⟩), .bool true]) ∧ Below w.heap.size w w' := by
 have hbd : num < 40 ∧ size ≤ 64 ∧ body.size ≤ 64 := by
  obtain ⟨h1, h2, h3, h4⟩ := hok
  cases raw
  ·simp at h1 h2 h3 h4; omega
  ·simp at h1 h2 h3 h4; omega
 obtain ⟨b1, b2, b3⟩ := hbd
 have HV := Lib.hid (fun W => implBlockValid ⟨num, raw, size, body⟩ true W (by simp only; omega) (by simp only; omega) (by simp only; omega) (btrue hok))
 have ks : (kindB raw).size = 1 := kindB_size _
 have ts : ∀ n, (two n).size = 2 := fun _ => rfl
 obtain ⟨K, hK⟩ : ∃ K, kindB raw = K := ⟨_, rfl⟩
 have hI0 : innerB ⟨num, raw, size, body⟩ = K ++ two num ++ two size ++ two body.size ++ body := by unfold innerB; rw [hK]
 rw [hK] at ks
 have hadd1 : ∀ W, (Op.stringOp .add K (two num)).run Tryz.prog W = .ok (.string (K ++ two num)) W := fun W => run_string_add_sum W _ _ (by rw [ks, ts]; omega)
 have hadd2 : ∀ W, (Op.stringOp .add (K ++ two num) (two size)).run Tryz.prog W = .ok (.string (K ++ two num ++ two size)) W := fun W => run_string_add_sum W _ _ (by simp [ks, ts])
 have hadd3 : ∀ W, (Op.stringOp .add (K ++ two num ++ two size) (two body.size)).run Tryz.prog W = .ok (.string (K ++ two num ++ two size ++ two body.size)) W := fun W => run_string_add_sum W _ _ (by simp [ks, ts])
 obtain ⟨I, hIe⟩ : ∃ I, innerB ⟨num, raw, size, body⟩ = I := ⟨_, rfl⟩
 have hT : textB ⟨num, raw, size, body⟩ = ⟨#[181]⟩ ++ I ++ two (sumOf I.data.toList) := by unfold textB; rw [hIe]
 have hadd4 : ∀ W, (Op.stringOp .add (K ++ two num ++ two size ++ two body.size) body).run Tryz.prog W = .ok (.string I) W := fun W => by
  rw [run_string_add_sum W _ _ (by simp [ks, ts]; omega), ← hI0, hIe]
 have hI : I.size ≤ 1048576 := by rw [← hIe, hI0]; simp [ks, ts]; omega
 have hlt := sumOf_lt I.data.toList
 have hadd5 : ∀ W, (Op.stringOp .add ⟨#[181]⟩ I).run Tryz.prog W = .ok (.string (⟨#[181]⟩ ++ I)) W := fun W => run_string_add_sum W _ _ (by show 1 + I.size ≤ _; omega)
 have hadd6 : ∀ W, (Op.stringOp .add (⟨#[181]⟩ ++ I) (two (sumOf I.data.toList))).run Tryz.prog W = .ok (.string (textB ⟨num, raw, size, body⟩)) W := fun W => by
  rw [hT]; exact run_string_add_sum W _ _ (by rw [ByteArray.size_append, ts]; show 1 + I.size + 2 ≤ _; omega)
 obtain ⟨TX, hTX⟩ : ∃ T, textB ⟨num, raw, size, body⟩ = T := ⟨_, rfl⟩
 rw [hTX] at hadd6 ⊢
 have hcv := run_one_byte (P := Tryz.prog) Tryz.underlying22 Tryz.underlying5 Tryz.underlying9 181 (by omega)
 simp only [Int.cast_ofNat_Int] at hcv
 have HK := Lib.hid hK
 clear hIe hT hTX hI0 ks ts hok hK
 cases raw
 ·have hKK : K = ⟨#[1]⟩ := HK.out.symm
  subst hKK
  go_enter Tryz.func100, Tryz.ntmps100
  go_wp2_with fail
  refine (HV.out _).mono ?_
  rintro e w1 ⟨rfl, hb1⟩
  have hB1 : Below (w.heap.size + 1) (w.alloc (.cells #[.int .i64 num, .bool false, .int .i64 size, .string body] 36)) w1 := by simpa using hb1
  obtain ⟨q0, q1, q2, q3, _⟩ := box4 hB1
  go_wp2_with fail
  go_region_held3 (fun w' => w'.cell? ⟨w.heap.size, 0, none⟩ = some (.int .i64 num) ∧ w'.cell? ⟨w.heap.size, 1, none⟩ = some (.bool false) ∧ w'.cell? ⟨w.heap.size, 2, none⟩ = some (.int .i64 size) ∧ w'.cell? ⟨w.heap.size, 3, none⟩ = some (.string body) ∧
    Below (w.heap.size + 1) (w.alloc (.cells #[.int .i64 num, .bool false, .int .i64 size, .string body] 36)) w')
   (first | exact box4 hB1.drew | (go_split_ands; exact box4_call (by assumption) (by assumption)))
   (first | (go_at_call 124; refine (implTwoBytes _ _ (by omega)).mono ?_; rintro e w' ⟨rfl, hb⟩))
  go_split_ands
  have hB : Below (w.heap.size + 1) (w.alloc (.cells #[.int .i64 num, .bool false, .int .i64 size, .string body] 36)) w' := by assumption
  have hW : Below w.heap.size w w' := ((Below.refl _ _).alloc (Nat.le_refl _) _).trans (hB.mono (by omega))
  have hWs := hW.size
  clear hadd1 hadd2 hadd3 hadd4 hB HV hb1 hB1 q0 q1 q2 q3
  go_wp2_with fail
  go_region_with (first | (go_at_call 110; refine (implSumOf _ _ (by assumption)).mono ?_; rintro e w2 ⟨rfl, rfl⟩) | (go_at_call 124; refine (implTwoBytes _ _ (by omega)).mono ?_; rintro e w2 ⟨rfl, hb⟩; have hW2 : Below w.heap.size w w2 := below_call hb (by go_grown); have hs2 := hW2.size; have hc := (bcell hb).1))
  all_goals go_wp2_with fail
  all_goals go_ret2
  all_goals exact ⟨rfl, by go_grown⟩
 ·have hKK : K = ⟨#[0]⟩ := HK.out.symm
  subst hKK
  go_enter Tryz.func100, Tryz.ntmps100
  go_wp2_with fail
  refine (HV.out _).mono ?_
  rintro e w1 ⟨rfl, hb1⟩
  have hB1 : Below (w.heap.size + 1) (w.alloc (.cells #[.int .i64 num, .bool true, .int .i64 size, .string body] 36)) w1 := by simpa using hb1
  obtain ⟨q0, q1, q2, q3, _⟩ := box4 hB1
  go_wp2_with fail
  go_region_held3 (fun w' => w'.cell? ⟨w.heap.size, 0, none⟩ = some (.int .i64 num) ∧ w'.cell? ⟨w.heap.size, 1, none⟩ = some (.bool true) ∧ w'.cell? ⟨w.heap.size, 2, none⟩ = some (.int .i64 size) ∧ w'.cell? ⟨w.heap.size, 3, none⟩ = some (.string body) ∧
    Below (w.heap.size + 1) (w.alloc (.cells #[.int .i64 num, .bool true, .int .i64 size, .string body] 36)) w')
   (first | exact box4 hB1.drew | (go_split_ands; exact box4_call (by assumption) (by assumption)))
   (first | (go_at_call 124; refine (implTwoBytes _ _ (by omega)).mono ?_; rintro e w' ⟨rfl, hb⟩))
  go_split_ands
  have hB : Below (w.heap.size + 1) (w.alloc (.cells #[.int .i64 num, .bool true, .int .i64 size, .string body] 36)) w' := by assumption
  have hW : Below w.heap.size w w' := ((Below.refl _ _).alloc (Nat.le_refl _) _).trans (hB.mono (by omega))
  have hWs := hW.size
  clear hadd1 hadd2 hadd3 hadd4 hB HV hb1 hB1 q0 q1 q2 q3
  go_wp2_with fail
  go_region_with (first | (go_at_call 110; refine (implSumOf _ _ (by assumption)).mono ?_; rintro e w2 ⟨rfl, rfl⟩) | (go_at_call 124; refine (implTwoBytes _ _ (by omega)).mono ?_; rintro e w2 ⟨rfl, hb⟩; have hW2 : Below w.heap.size w w2 := below_call hb (by go_grown); have hs2 := hW2.size; have hc := (bcell hb).1))
  all_goals go_wp2_with fail
  all_goals go_ret2
  all_goals exact ⟨rfl, by go_grown⟩

def Bld (w : World) (B b : Nat) (t : ByteArray) : Prop := Lib.IsBuilder 116 5 B b (Lib.byteCells t.data.toList) w

theorem bldAt_below {T e : TypeId} {B b : Nat} {p : Value} {bs : List Value} {w w' : World} (h : Lib.BuilderAt T e B b p bs w) (hb : Below w.heap.size w w') : Lib.BuilderAt T e B b p bs w' := by
 have hlt := h.lt
 obtain ⟨hB, v, h1, h2, h3⟩ := h
 exact ⟨hB, v, (hb.block b hlt).trans h1, own_below h2 hb (Nat.le_refl _), h3⟩

theorem Bld.below {B b : Nat} {t : ByteArray} {w w' : World} (h : Bld w B b t) (hb : Below w.heap.size w w') : Bld w' B b t := by
 rcases h with h | h
 ·exact .inl (bldAt_below h hb)
 ·exact .inr (bldAt_below h hb)

theorem Bld.alloc {B b : Nat} {t : ByteArray} {w : World} (h : Bld w B b t) (o : Obj) : Bld (w.alloc o) B b t := h.below ((Below.refl _ _).alloc (Nat.le_refl _) _)

theorem Bld.new (w : World) : Bld (w.alloc (.cells #[.pointer none, .slice none 0 0] 116)) w.heap.size w.heap.size ByteArray.empty := Lib.fresh_isBuilder 116 5 w

theorem Bld.lt {B b : Nat} {t : ByteArray} {w : World} (h : Bld w B b t) : b < w.heap.size ∧ B ≤ b := by
 rcases h with h | h
 ·exact ⟨h.lt, h.1⟩
 ·exact ⟨h.lt, h.1⟩

theorem bldWrite (B b : Nat) (t s : ByteArray) (w : World) (h : Bld w B b t) (hl : t.size + s.size ≤ 16777216) :
  Calls Tryz.prog 98 #[.pointer (some ⟨b, 0, none⟩), .string s] w fun e w' => e = .returned (.tuple #[.int .i64 s.size, .nilIface]) ∧ Bld w' B b (t ++ s) ∧ Below B w w' := by
 have hlt := h.lt
 refine (Tryz.Builder_WriteString B b _ s w h (by rw [Lib.byteCells_length]; simp; omega) (by omega)).mono ?_
 rintro e w' ⟨rfl, h1, h2⟩
 refine ⟨rfl, .inr ?_, h2⟩
 rw [ByteArray.data_append, Array.toList_append, Lib.byteCells_append, ← Lib.strCells_eq]
 exact h1

theorem bldString (B b : Nat) (t : ByteArray) (w : World) (h : Bld w B b t) :
  Calls Tryz.prog 99 #[.pointer (some ⟨b, 0, none⟩)] w fun e w' => e = .returned (.string t) ∧ Below B w w' := by
 have hlt := h.lt
 refine (Tryz.Builder_String_any B b t.data.toList w h (by omega)).mono ?_
 rintro e w' ⟨rfl, h1⟩
 exact ⟨rfl, h1⟩

theorem bldAt_above {T e : TypeId} {B b : Nat} {p : Value} {bs : List Value} {w w' : World} (h : Lib.BuilderAt T e B b p bs w) (hk : ∀ i, B ≤ i → w'.heap[i]? = w.heap[i]?) : Lib.BuilderAt T e B b p bs w' := by
 obtain ⟨hB, v, h1, h2, h3⟩ := h
 refine ⟨hB, v, (hk b hB).trans h1, ⟨h2.1, ?_⟩, h3⟩
 rcases h2.2 with hn | ⟨g, cap, cur, hv, hg, hgg, rest⟩
 ·exact .inl hn
 ·exact .inr ⟨g, cap, cur, hv, hg, (hk g hg).trans hgg, rest⟩

theorem Bld.above {B b : Nat} {t : ByteArray} {w w' : World} (h : Bld w B b t) (hk : ∀ i, B ≤ i → w'.heap[i]? = w.heap[i]?) : Bld w' B b t := by
 rcases h with h | h
 ·exact .inl (bldAt_above h hk)
 ·exact .inr (bldAt_above h hk)

theorem Bld.setCell {B b : Nat} {t : ByteArray} {w : World} (h : Bld w B b t) {p : Addr} (hp : p.block < B) (u : Value) : Bld (w.setCell p u) B b t :=
 h.above fun i hi => Below.heap_setCell w p u i (by omega)

theorem Bld.drewN {B b : Nat} {t : ByteArray} {w : World} (h : Bld w B b t) (n : Nat) : Bld (w.drewN n) B b t := h

def renum (i : Nat) (b : Blk) : Blk := ⟨i, b.raw, b.size, b.body⟩

def textsFrom : Nat → List Blk → ByteArray
 | _, [] => ByteArray.empty
 | i, b :: bs => textB (renum i b) ++ textsFrom (i + 1) bs

theorem textsFrom_append (a b : List Blk) : ∀ i, textsFrom i (a ++ b) = textsFrom i a ++ textsFrom (i + a.length) b := by
 induction a with
 | nil => intro i; simp [textsFrom]
 | cons x xs ih =>
  intro i
  show textB (renum i x) ++ textsFrom (i + 1) (xs ++ b) = textB (renum i x) ++ textsFrom (i + 1) xs ++ textsFrom (i + (xs.length + 1)) b
  rw [ih (i + 1), ByteArray.append_assoc, show i + 1 + xs.length = i + (xs.length + 1) from by omega]

theorem textsFrom_take (bs : List Blk) (k : Nat) (b : Blk) (h : bs[k]? = some b) : textsFrom 0 (bs.take (k + 1)) = textsFrom 0 (bs.take k) ++ textB (renum k b) := by
 obtain ⟨hk, rfl⟩ := List.getElem?_eq_some_iff.1 h
 rw [List.take_succ_eq_append_getElem hk, textsFrom_append]
 simp [textsFrom, List.length_take, Nat.min_eq_left (Nat.le_of_lt hk)]

def Blk.okb (b : Blk) : Prop := 1 ≤ b.size ∧ b.size ≤ 64 ∧ if b.raw then b.body.size = b.size else 1 ≤ b.body.size ∧ b.body.size < b.size

theorem Blk.ok_of {b : Blk} (h : b.okb) {i : Nat} (hi : i < 40) : (renum i b).ok := ⟨hi, h.1, h.2.1, h.2.2⟩

theorem Blk.okb_of {b : Blk} (h : b.ok) : b.okb := ⟨h.2.1, h.2.2.1, h.2.2.2⟩

theorem Blk.okb_body {b : Blk} (h : b.okb) : b.body.size ≤ 64 := by
 obtain ⟨h1, h2, h3⟩ := h
 split at h3
 ·omega
 ·omega

theorem textB_size (b : Blk) : (textB b).size = 10 + b.body.size := by
 unfold textB innerB
 simp only [ByteArray.size_append, kindB_size]
 have h1 : (⟨#[181]⟩ : ByteArray).size = 1 := rfl
 have h2 : ∀ n, (two n).size = 2 := fun _ => rfl
 rw [h1]
 simp only [h2]
 omega

theorem textsFrom_size (bs : List Blk) (h : ∀ b ∈ bs, b.okb) : ∀ i, (textsFrom i bs).size ≤ 74 * bs.length := by
 induction bs with
 | nil => intro i; exact Nat.le_refl 0
 | cons x xs ih =>
  intro i
  show (textB (renum i x) ++ textsFrom (i + 1) xs).size ≤ 74 * (xs.length + 1)
  rw [ByteArray.size_append, textB_size]
  have h1 := ih (fun b hb => h b (List.mem_cons_of_mem _ hb)) (i + 1)
  have h2 := Blk.okb_body (h x (List.mem_cons_self ..))
  show 10 + x.body.size + _ ≤ _
  omega

def mkC (bs : List Blk) : Option ByteArray := if bs.length ≤ 40 ∧ szs bs ≤ 2000 then some (textsFrom 0 bs) else none

abbrev optV (o : Option ByteArray) : Value := .tuple #[.string (o.getD ByteArray.empty), .bool o.isSome]

theorem mkC_yes {bs : List Blk} (h1 : bs.length ≤ 40) (h2 : szs bs ≤ 2000) : mkC bs = some (textsFrom 0 bs) := if_pos ⟨h1, h2⟩

theorem mkC_no {bs : List Blk} (h : ¬ (bs.length ≤ 40 ∧ szs bs ≤ 2000)) : mkC bs = none := if_neg h

theorem ret_optYes {o : Option ByteArray} {t : ByteArray} (h : o = some t) : Ending.returned (.tuple #[.string t, .bool true]) = .returned (optV o) := by rw [h]; rfl

theorem ret_optNo {o : Option ByteArray} (h : o = none) : Ending.returned (.tuple #[.string ByteArray.empty, .bool false]) = .returned (optV o) := by rw [h]; rfl

set_option maxHeartbeats 1000000 in
theorem specL5Size (A : Option Addr) (n c B : Nat) (bs : List Blk) (w : World) (h : Row w B 4 A n (cellsB bs)) (hn : n ≤ 1048576) (hz : szs bs ≤ 1048576) :
  Calls Tryz.prog 74 #[.slice A n c] w fun e w' => e = .returned (.int .i64 (szs bs : Int)) ∧ w = w' := by
 have hlen := h.len4
 go_enter Tryz.func74, Tryz.ntmps74
 go_wp2_with fail
 go_loop [3, 4] (fun v i => ∃ k : Nat, k ≤ n ∧ i = .int .i64 k ∧ v = .int .i64 (szs (bs.take k) : Int)) (fun _ i => n - (intOf i).toNat)
 case atStart => exact ⟨0, Nat.zero_le _, rfl, rfl⟩
 case round =>
  obtain ⟨k, hk, rfl, rfl⟩ := hrel
  by_cases hlt : k < n
  ·obtain ⟨⟨num, raw, size, body⟩, hb⟩ : ∃ b, bs[k]? = some b := ⟨_, List.getElem?_eq_getElem (by omega)⟩
   obtain ⟨b, off, rfl, hbB, g0, g1, g2, g3⟩ := h.blk hlt hb
   have hs := szs_take_succ bs k _ hb
   have hle := szs_take_le bs (k + 1)
   obtain ⟨q, hq⟩ : ∃ q, szs (bs.take k) = q := ⟨_, rfl⟩
   obtain ⟨q', hq'⟩ : ∃ q, szs (bs.take (k + 1)) = q := ⟨_, rfl⟩
   simp only at hs
   rw [hq, hq'] at hs
   rw [hq'] at hle
   rw [hq]
   have hqs : q + size ≤ 1048576 := by omega
   have HQ := Lib.hid hq'
   have HS := Lib.hid hs
   clear hq hq' hs hb hlen h
   go_wp2_with fail
   go_round
   case rel => exact ⟨k + 1, by omega, by go_num, by rw [HQ.out, HS.out]; go_num⟩
   case measure => simp [intOf]; omega
  ·obtain rfl : k = n := by omega
   have ht : bs.take k = bs := List.take_of_length_le (by omega)
   rw [ht]
   clear ht hlen
   go_wp2_with fail
   go_ret
   exact ⟨rfl, rfl⟩

set_option maxHeartbeats 1000000 in
theorem specL6Fits (A : Option Addr) (n c B : Nat) (bs : List Blk) (r : Bool) (w : World) (h : Row w B 4 A n (cellsB bs)) (hn : n ≤ 1048576) (hz : szs bs ≤ 1048576) (hr : r = true ↔ n ≤ 40 ∧ szs bs ≤ 2000) :
  Calls Tryz.prog 106 #[.slice A n c] w fun e w' => e = .returned (.bool r) ∧ w = w' := by
 have HS := Lib.hid (specL5Size A n c B bs w h hn hz)
 have HR := Lib.hid hr
 clear hr
 by_cases h1 : n ≤ 40
 ·go_enter Tryz.func106, Tryz.ntmps106
  go_wp2_with fail
  refine HS.out.mono ?_
  rintro e w' ⟨rfl, rfl⟩
  go_wp2_with fail
  go_ret
  refine ⟨ret_bool ?_, rfl⟩
  rw [Bool.eq_iff_iff, HR.out]; simp; omega
 ·go_enter Tryz.func106, Tryz.ntmps106
  go_wp2_with fail
  go_ret
  refine ⟨ret_bool ?_, rfl⟩
  rw [Bool.eq_iff_iff, HR.out]; simp; omega

set_option maxHeartbeats 2000000 in
theorem specL6Texts (A : Option Addr) (n c B : Nat) (bs : List Blk) (w : World) (h : Row w B 4 A n (cellsB bs)) (hB : B ≤ w.heap.size) (hn : n ≤ 40) (hok : ∀ b ∈ bs, b.okb) :
  Calls Tryz.prog 107 #[.slice A n c, .int .i64 0] w fun e w' => e = .returned (.string (textsFrom 0 bs)) ∧ Below w.heap.size w w' := by
 have hlen := h.len4
 go_enter Tryz.func107, Tryz.ntmps107
 go_wp2_with fail
 go_loopw [5, 6] (fun v i wr => ∃ k : Nat, k ≤ n ∧ i = .int .i64 k ∧ v = .string (textsFrom 0 (bs.take k)) ∧ Below w.heap.size w wr) (fun _ i _ => n - (intOf i).toNat)
 case atStart => exact ⟨0, Nat.zero_le _, rfl, rfl, Below.refl _ _⟩
 case round =>
  obtain ⟨k, hk, rfl, rfl, hbel⟩ := hrel
  have hwz := hbel.size
  by_cases hlt : k < n
  ·obtain ⟨⟨num, raw, size, body⟩, hb⟩ : ∃ b, bs[k]? = some b := ⟨_, List.getElem?_eq_getElem (by omega)⟩
   obtain ⟨g, off, rfl, hg, p0, p1, p2, p3⟩ := (h.below hbel hB).blk hlt hb
   have hob := hok _ (List.mem_of_getElem? hb)
   have hbs := Blk.okb_body hob
   have hsz := hob.2.1
   simp only at hbs hsz
   have htx := textsFrom_take bs k _ hb
   have hts := textsFrom_size (bs.take k) (fun b hb => hok b (List.mem_of_mem_take hb)) 0
   have htl : (bs.take k).length ≤ 40 := by rw [List.length_take]; omega
   have HT5 := Lib.hid (fun W => specL5Text ⟨k, raw, size, body⟩ W (by simp only; omega) (by simp only; omega) (by simp only; omega))
   obtain ⟨t, ht⟩ : ∃ t, textsFrom 0 (bs.take k) = t := ⟨_, rfl⟩
   obtain ⟨x, hx⟩ : ∃ x, textB ⟨k, raw, size, body⟩ = x := ⟨_, rfl⟩
   have hxs : x.size ≤ 100 := by rw [← hx, textB_size]; simp only; omega
   have htx' : textsFrom 0 (bs.take (k + 1)) = t ++ x := by rw [htx, ht, ← hx]; rfl
   rw [ht] at hts ⊢
   have hadd : ∀ W, (Op.stringOp .add t x).run Tryz.prog W = .ok (.string (t ++ x)) W := fun W => run_string_add_sum W _ _ (by omega)
   have HX := Lib.hid hx
   have HTX := Lib.hid htx'
   clear htx htx' ht hx hb hlen hts htl hob
   go_wp2_with fail
   refine (HT5.out _).mono ?_
   rintro e w1 ⟨rfl, hb1⟩
   rw [HX.out]
   go_wp2_with fail
   go_roundw
   case rel => exact ⟨k + 1, by omega, by go_num, by rw [HTX.out], (hbel.alloc hwz _).trans (hb1.mono (by simp; omega))⟩
   case measure => simp [intOf]; omega
  ·obtain rfl : k = n := by omega
   have ht : bs.take k = bs := List.take_of_length_le (by omega)
   rw [ht]
   clear ht hlen
   go_wp2_with fail
   go_ret
   exact ⟨rfl, hbel⟩

set_option maxHeartbeats 1000000 in
theorem specL6Result (A : Option Addr) (n c B : Nat) (bs : List Blk) (w : World) (h : Row w B 4 A n (cellsB bs)) (hB : B ≤ w.heap.size) (hn : n ≤ 1048576) (hz : szs bs ≤ 1048576) (hok : ∀ b ∈ bs, b.okb) :
  Calls Tryz.prog 67 #[.slice A n c] w fun e w' => e = .returned (optV (mkC bs)) ∧ Below w.heap.size w w' := by
 have hlen := h.len4
 by_cases hf : n ≤ 40 ∧ szs bs ≤ 2000
 ·have HR := Lib.hid (ret_optYes (mkC_yes (bs := bs) (by omega) hf.2))
  have HF := Lib.hid (specL6Fits A n c B bs true w h hn hz (btrue hf))
  have HT := Lib.hid (fun W (hh : Row W B 4 A n (cellsB bs)) (hb : B ≤ W.heap.size) => specL6Texts A n c B bs W hh hb hf.1 hok)
  clear hf hlen
  go_enter Tryz.func67, Tryz.ntmps67
  go_wp2_with fail
  refine HF.out.mono ?_
  rintro e w' ⟨rfl, rfl⟩
  go_wp2_with fail
  refine (HT.out _ h hB).mono ?_
  rintro e w1 ⟨rfl, hb1⟩
  go_wp2_with fail
  go_ret2
  exact ⟨HR.out, hb1⟩
 ·have HR := Lib.hid (ret_optNo (mkC_no (bs := bs) (fun h => hf ⟨by omega, h.2⟩)))
  have HF := Lib.hid (specL6Fits A n c B bs false w h hn hz (bfalse hf))
  clear hf hlen
  go_enter Tryz.func67, Tryz.ntmps67
  go_wp2_with fail
  refine HF.out.mono ?_
  rintro e w' ⟨rfl, rfl⟩
  go_wp2_with fail
  go_ret2
  exact ⟨HR.out, Below.refl _ _⟩

set_option maxHeartbeats 2000000 in
theorem implMakeContainer (A : Option Addr) (n c B : Nat) (bs : List Blk) (w : World) (h : Row w B 4 A n (cellsB bs)) (hB : B ≤ w.heap.size) (hn : n ≤ 1048576) (hz : szs bs ≤ 1048576) (hok : ∀ b ∈ bs, b.okb) :
  Calls Tryz.prog 58 #[.slice A n c] w fun e w' => e = .returned (optV (mkC bs)) ∧ Below w.heap.size w w' := by
 have hlen := h.len4
 by_cases h1 : n ≤ 40
 ·obtain ⟨z, hz0⟩ : ∃ z, szs bs = z := ⟨_, rfl⟩
  have HS := Lib.hid (implSizeOf A n c B bs w h hB hn hz)
  rw [hz0] at HS
  by_cases h2 : z ≤ 2000
  ·have HR := Lib.hid (ret_optYes (mkC_yes (bs := bs) (by omega) (by omega)))
   have HL := Lib.hid hlen
   clear hz0 hz hlen
   go_enter Tryz.func58, Tryz.ntmps58
   go_wp2_with fail
   refine HS.out.mono ?_
   rintro e w1 ⟨rfl, hb1⟩
   have hrow1 := h.below hb1 hB
   have hB1 : B ≤ w1.heap.size := Nat.le_trans hB hb1.size
   have hz1 := hb1.size
   clear h
   go_wp2_with fail
   go_loopw [19] (fun i wr => ∃ k : Nat, k ≤ n ∧ i = .int .i64 k ∧ Bld wr w1.heap.size w1.heap.size (textsFrom 0 (bs.take k)) ∧ Below w1.heap.size w1 wr) (fun i _ => n - (intOf i).toNat)
   case atStart => exact ⟨0, Nat.zero_le _, rfl, Bld.new w1, (Below.refl _ _).alloc (Nat.le_refl _) _⟩
   case round =>
    obtain ⟨k, hk, rfl, hbld, hbel⟩ := hrel
    have hwz := hbel.size
    have hbl := hbld.lt
    by_cases hlt : k < n
    ·obtain ⟨⟨num, raw, size, body⟩, hb⟩ : ∃ b, bs[k]? = some b := ⟨_, List.getElem?_eq_getElem (by rw [HL.out]; exact hlt)⟩
     obtain ⟨g, off, rfl, hg, p0, p1, p2, p3⟩ := (hrow1.below hbel hB1).blk hlt hb
     have hob := hok _ (List.mem_of_getElem? hb)
     have hbs := Blk.okb_body hob
     simp only at hbs
     have htx := textsFrom_take bs k _ hb
     have hts := textsFrom_size (bs.take k) (fun b hb => hok b (List.mem_of_mem_take hb)) 0
     have htl : (bs.take k).length ≤ 40 := by rw [List.length_take]; omega
     have HF := Lib.hid (fun W => implFormatBlockYes k size raw body W (Blk.ok_of hob (by omega)))
     obtain ⟨t, ht⟩ : ∃ t, textsFrom 0 (bs.take k) = t := ⟨_, rfl⟩
     obtain ⟨x, hx⟩ : ∃ x, textB ⟨k, raw, size, body⟩ = x := ⟨_, rfl⟩
     have hxs : x.size ≤ 100 := by rw [← hx, textB_size]; simp only; omega
     have htx' : textsFrom 0 (bs.take (k + 1)) = t ++ x := by rw [htx, ht, ← hx]; rfl
     rw [ht] at hts hbld
     have hts2 : t.size ≤ 3000 := by omega
     rw [hx] at HF
     have HTX := Lib.hid htx'
     clear htx htx' ht hx hb htl hob hrow1
     go_wp2_with fail
     refine (HF.out _).mono ?_
     rintro e w2 ⟨rfl, hb2⟩
     have hbld2 := (hbld.alloc (.cells #[.int .i64 k, .bool raw, .int .i64 size, .string body] 36)).below hb2
     have hbel2 : Below w1.heap.size w1 w2 := (hbel.alloc hwz _).trans (hb2.mono (by simp; omega))
     clear hbld hbel hb2
     go_wp2_with fail
     refine (bldWrite _ _ t x _ hbld2 (by omega)).mono ?_
     rintro e w3 ⟨rfl, hbld3, hb3⟩
     have hbel3 := hbel2.trans hb3
     go_wp2_with fail
     go_roundw
     case rel => exact ⟨k + 1, by omega, by go_num, by rw [HTX.out]; exact hbld3, hbel3⟩
     case measure => simp [intOf]; omega
    ·obtain rfl : k = n := by omega
     have ht : bs.take k = bs := List.take_of_length_le (by rw [HL.out]; omega)
     rw [ht] at hbld
     clear ht
     go_wp2_with fail
     refine (bldString _ _ _ _ hbld).mono ?_
     rintro e w2 ⟨rfl, hb2⟩
     go_wp2_with fail
     go_ret2
     exact ⟨HR.out, hb1.trans ((hbel.trans hb2).mono hz1)⟩
  ·have HR := Lib.hid (ret_optNo (mkC_no (bs := bs) (fun h => h2 (by omega))))
   clear hz0 hz hlen
   go_enter Tryz.func58, Tryz.ntmps58
   go_wp2_with fail
   refine HS.out.mono ?_
   rintro e w1 ⟨rfl, hb1⟩
   go_wp2_with fail
   go_ret2
   exact ⟨HR.out, hb1⟩
 ·have HR := Lib.hid (ret_optNo (mkC_no (bs := bs) (fun h => h1 (by omega))))
  clear hlen
  go_enter Tryz.func58, Tryz.ntmps58
  go_wp2_with fail
  go_ret2
  exact ⟨HR.out, Below.refl _ _⟩

theorem ba_list {a b : ByteArray} (h : a.data.toList = b.data.toList) : a = b := ByteArray.ext (Array.toList_inj.1 h)

theorem textsFrom_snoc (i : Nat) (bs : List Blk) (b : Blk) : textsFrom i (bs ++ [b]) = textsFrom i bs ++ textB (renum (i + bs.length) b) := by
 rw [textsFrom_append]
 show _ ++ (textB _ ++ ByteArray.empty) = _
 rw [ByteArray.append_empty]

theorem renum_self {b : Blk} {i : Nat} (h : b.num = i) : renum i b = b := by
 subst h; rfl

theorem conts_text {s : ByteArray} {k : Nat} {acc bs : List Blk} (hk : k ≤ s.size) (hc : conts s k acc = some bs) : textsFrom 0 bs = textsFrom 0 acc ++ s.extract k s.size := by
 by_cases hlt : k < s.size
 ·by_cases h1 : pbOk s k ∧ (pbBlk s k).num = acc.length
  ·rw [conts_next hlt h1.1 h1.2] at hc
   have hend := pbOk_end h1.1
   have := pbEnd_ge s k
   rw [conts_text hend hc, textsFrom_snoc, Nat.zero_add, renum_self h1.2]
   have ht := (text_pbBlk s k h1.1.1 h1.1.2.1 h1.1.2.2.1 hend).2 h1.1.2.2.2.2.2
   rw [ht, ByteArray.append_assoc, extract_append s k (pbEnd s k + 2) s.size (by omega) hend]
  ·rw [conts_bad hlt h1] at hc
   cases hc
 ·rw [conts_end (by omega)] at hc
  split at hc
  ·injection hc with hc
   subst hc
   have : s.extract k s.size = ByteArray.empty := by
    apply ba_list
    simp
    omega
   rw [this, ByteArray.append_empty]
  ·cases hc
termination_by s.size - k
decreasing_by have := pbEnd_ge s k; omega

theorem contB_text {s : ByteArray} {bs : List Blk} (h : contB s = some bs) : textsFrom 0 bs = s := by
 have := conts_text (Nat.zero_le _) h
 rw [this]
 show ByteArray.empty ++ _ = _
 rw [ByteArray.empty_append]
 apply ba_list
 simp

theorem bAt_mid {s X Z : ByteArray} (h : s = X ++ Z) (j : Nat) : bAt s (X.size + j) = bAt Z j := by
 unfold bAt
 rw [h, ByteArray.data_append, Array.toList_append, List.getD_eq_getElem?_getD, List.getD_eq_getElem?_getD, List.getElem?_append_right (by simp)]
 congr 2
 simp

theorem extract_mid {s X Z : ByteArray} (h : s = X ++ Z) (i j : Nat) : s.extract (X.size + i) (X.size + j) = Z.extract i j := by
 subst h
 apply ba_list
 simp only [ByteArray.data_extract, ByteArray.data_append, Array.toList_extract, Array.toList_append, List.extract_eq_take_drop]
 have e : X.size = X.data.toList.length := by simp
 rw [e, List.drop_append, List.drop_eq_nil_of_le (by omega)]
 simp only [List.nil_append]
 congr 1
 ·omega
 ·congr 1; omega

theorem textB_list (b : Blk) : (textB b).data.toList = 181 :: (if b.raw then 0 else 1) :: UInt8.ofNat (b.num / 256) :: UInt8.ofNat b.num :: UInt8.ofNat (b.size / 256) :: UInt8.ofNat b.size :: UInt8.ofNat (b.body.size / 256) :: UInt8.ofNat b.body.size :: (b.body.data.toList ++ [UInt8.ofNat (sumOf (innerB b).data.toList / 256), UInt8.ofNat (sumOf (innerB b).data.toList)]) := by
 obtain ⟨sm, hs⟩ : ∃ sm, sumOf (innerB b).data.toList = sm := ⟨_, rfl⟩
 unfold textB
 rw [hs]
 unfold innerB two kindB
 simp only [ByteArray.data_append, Array.toList_append]
 split <;> simp

theorem innerB_list (b : Blk) : (innerB b).data.toList = (if b.raw then 0 else 1) :: UInt8.ofNat (b.num / 256) :: UInt8.ofNat b.num :: UInt8.ofNat (b.size / 256) :: UInt8.ofNat b.size :: UInt8.ofNat (b.body.size / 256) :: UInt8.ofNat b.body.size :: b.body.data.toList := by
 unfold innerB two kindB
 simp only [ByteArray.data_append, Array.toList_append]
 split <;> simp

theorem pair_num {n : Nat} (h : n < 65536) : 256 * (UInt8.ofNat (n / 256)).toNat + (UInt8.ofNat n).toNat = n := by
 rw [UInt8.toNat_ofNat', UInt8.toNat_ofNat']
 omega

theorem ba_ext_l {s : ByteArray} {i j : Nat} {l : List UInt8} (h : (s.data.toList.take j).drop i = l) : (s.extract i j).data.toList = l := by
 rw [← h]
 simp [List.drop_take]

theorem pb_text {s X Y : ByteArray} {b : Blk} (h : s = X ++ textB b ++ Y) (hb : b.ok) : pbOk s X.size ∧ pbBlk s X.size = b ∧ pbEnd s X.size + 2 = X.size + (textB b).size := by
 have hs : s = X ++ (textB b ++ Y) := by rw [h, ByteArray.append_assoc]
 have hbody : b.body.size ≤ 64 := by
  obtain ⟨_, _, h3, h4⟩ := hb
  split at h4 <;> omega
 have hnum := hb.1
 have hsz := hb.2.2.1
 obtain ⟨sm, hsm⟩ : ∃ sm, sumOf (innerB b).data.toList = sm := ⟨_, rfl⟩
 have hsl : sm < 65536 := by rw [← hsm]; exact sumOf_lt _
 have hL := textB_list b
 have hI := innerB_list b
 rw [hsm] at hL
 have hZ : (textB b ++ Y).data.toList = (textB b).data.toList ++ Y.data.toList := by simp
 rw [hL] at hZ
 have hlen : b.body.data.toList.length = b.body.size := by simp
 have at_ : ∀ j, bAt s (X.size + j) = (textB b ++ Y).data.toList.getD j 0 := fun j => bAt_mid hs j
 rw [hZ] at at_
 have g0 : bAt s X.size = 181 := by have := at_ 0; simpa using this
 have g1 : bAt s (X.size + 1) = if b.raw then 0 else 1 := by have := at_ 1; simpa using this
 have g2 : bAt s (X.size + 2) = UInt8.ofNat (b.num / 256) := by have := at_ 2; simpa using this
 have g3 : bAt s (X.size + 3) = UInt8.ofNat b.num := by have := at_ 3; simpa using this
 have g4 : bAt s (X.size + 4) = UInt8.ofNat (b.size / 256) := by have := at_ 4; simpa using this
 have g5 : bAt s (X.size + 5) = UInt8.ofNat b.size := by have := at_ 5; simpa using this
 have g6 : bAt s (X.size + 6) = UInt8.ofNat (b.body.size / 256) := by have := at_ 6; simpa using this
 have g7 : bAt s (X.size + 7) = UInt8.ofNat b.body.size := by have := at_ 7; simpa using this
 have hn6 : numAt s (X.size + 6) = b.body.size := by unfold numAt; rw [g6, show X.size + 6 + 1 = X.size + 7 by omega, g7]; exact pair_num (by omega)
 have hn4 : numAt s (X.size + 4) = b.size := by unfold numAt; rw [g4, show X.size + 4 + 1 = X.size + 5 by omega, g5]; exact pair_num (by omega)
 have hn2 : numAt s (X.size + 2) = b.num := by unfold numAt; rw [g2, show X.size + 2 + 1 = X.size + 3 by omega, g3]; exact pair_num (by omega)
 have hend : pbEnd s X.size = X.size + (8 + b.body.size) := by unfold pbEnd; rw [hn6]; omega
 have htsz := textB_size b
 have hssz : s.size = X.size + (10 + b.body.size) + Y.size := by rw [h, ByteArray.size_append, ByteArray.size_append, htsz]
 have hbd : s.extract (X.size + 8) (pbEnd s X.size) = b.body := by
  rw [hend, extract_mid hs]
  apply ba_list
  apply ba_ext_l
  rw [hZ, Nat.add_comm 8]
  simp [hlen]
 have hin : s.extract (X.size + 1) (pbEnd s X.size) = innerB b := by
  rw [hend, extract_mid hs]
  apply ba_list
  rw [hI]
  apply ba_ext_l
  rw [hZ, Nat.add_comm 8]
  simp [hlen]
 have hck : numAt s (pbEnd s X.size) = sm := by
  rw [hend]
  unfold numAt
  have e1 := at_ (8 + b.body.size)
  have e2 := at_ (9 + b.body.size)
  have f1 : bAt s (X.size + (8 + b.body.size)) = UInt8.ofNat (sm / 256) := by
   rw [e1, Nat.add_comm 8]
   simp [List.getD_eq_getElem?_getD, hlen]
  have f2 : bAt s (X.size + (8 + b.body.size) + 1) = UInt8.ofNat sm := by
   rw [show X.size + (8 + b.body.size) + 1 = X.size + (9 + b.body.size) by omega, e2, show 9 + b.body.size = (b.body.size + 1) + 8 by omega]
   simp [List.getD_eq_getElem?_getD, hlen]
  rw [f1, f2]
  exact pair_num hsl
 have hraw : (bAt s (X.size + 1) == 0) = b.raw := by
  rw [g1]
  cases b.raw <;> rfl
 have hblk : pbBlk s X.size = b := by
  unfold pbBlk
  rw [hn2, hraw, hn4, hbd]
 refine ⟨⟨by omega, by rw [g0]; rfl, ?_, by omega, by rw [hblk]; exact hb, by rw [hin, hck, hsm]⟩, hblk, by omega⟩
 rw [g1]
 cases b.raw <;> decide

def renumL : Nat → List Blk → List Blk
 | _, [] => []
 | i, b :: bs => renum i b :: renumL (i + 1) bs

theorem renumL_length (bs : List Blk) : ∀ i, (renumL i bs).length = bs.length := by
 induction bs with
 | nil => intro i; rfl
 | cons b bs ih => intro i; show (renumL (i + 1) bs).length + 1 = _; rw [ih]; rfl

theorem renumL_append (a b : List Blk) : ∀ i, renumL i (a ++ b) = renumL i a ++ renumL (i + a.length) b := by
 induction a with
 | nil => intro i; simp [renumL]
 | cons x xs ih =>
  intro i
  show renum i x :: renumL (i + 1) (xs ++ b) = renum i x :: renumL (i + 1) xs ++ renumL (i + (xs.length + 1)) b
  rw [ih (i + 1), show i + 1 + xs.length = i + (xs.length + 1) from by omega]; rfl

theorem renumL_szs (bs : List Blk) : ∀ i, szs (renumL i bs) = szs bs := by
 induction bs with
 | nil => intro i; rfl
 | cons b bs ih => intro i; show b.size + szs (renumL (i + 1) bs) = _; rw [ih]; rfl

theorem renumL_get (bs : List Blk) : ∀ (i j : Nat), (renumL i bs)[j]? = (bs[j]?).map (renum (i + j)) := by
 induction bs with
 | nil => intro i j; simp [renumL]
 | cons b bs ih =>
  intro i j
  cases j with
  | zero => simp [renumL]
  | succ j =>
   show (renumL (i + 1) bs)[j]? = _
   rw [ih, List.getElem?_cons_succ, show i + 1 + j = i + (j + 1) by omega]

theorem contB_texts {bs : List Blk} (hok : ∀ b ∈ bs, b.okb) (h40 : bs.length ≤ 40) (hz : szs bs ≤ 2000) : contB (textsFrom 0 bs) = some (renumL 0 bs) := by
 have main : ∀ (post pre : List Blk), bs = pre ++ post → conts (textsFrom 0 bs) (textsFrom 0 pre).size (renumL 0 pre) = some (renumL 0 bs) := by
  intro post
  induction post with
  | nil =>
   intro pre e
   rw [List.append_nil] at e
   subst e
   rw [conts_end (Nat.le_refl _), if_pos (by rw [renumL_szs]; exact hz)]
  | cons b post ih =>
   intro pre e
   have hpl : pre.length < 40 := by
    have := congrArg List.length e
    rw [List.length_append, List.length_cons] at this
    omega
   have hb : b.okb := hok b (by rw [e]; simp)
   have hbo := Blk.ok_of hb hpl
   have ht : textsFrom 0 bs = textsFrom 0 pre ++ textB (renum pre.length b) ++ textsFrom (pre.length + 1) post := by
    rw [e, textsFrom_append, Nat.zero_add, ByteArray.append_assoc]; rfl
   obtain ⟨p1, p2, p3⟩ := pb_text ht hbo
   have hlt := pbOk_lt p1
   rw [conts_next hlt p1 (by rw [p2, renumL_length]; rfl), p2, p3]
   have e2 : (textsFrom 0 (pre ++ [b])).size = (textsFrom 0 pre).size + (textB (renum pre.length b)).size := by
    rw [textsFrom_snoc, Nat.zero_add, ByteArray.size_append]
   have e3 : renumL 0 (pre ++ [b]) = renumL 0 pre ++ [renum pre.length b] := by
    rw [renumL_append, Nat.zero_add]; rfl
   rw [← e2, ← e3]
   exact ih (pre ++ [b]) (by rw [e]; simp)
 exact main bs [] rfl

end Go.Proofs.YthlgpgaeajfchaaGreat

namespace Go.Proofs.YthlgpgaeajfchaaGreat
open Go.RowKit
set_option linter.unusedVariables false
set_option maxRecDepth 100000

def Kn.block (k : Kn) (d : List UInt8) : Blk := if dfits k.o k.l k.m d ∧ (k.comp d).length < d.length then ⟨0, false, d.length, bsL (k.comp d)⟩ else ⟨0, true, d.length, bsL d⟩

def splitF (k : Kn) (size : Nat) : Nat → List UInt8 → List Blk
 | 0, _ => []
 | f + 1, d => if d = [] then [] else k.block (d.take size) :: splitF k size f (d.drop size)

def Kn.split (k : Kn) (size : Nat) (d : List UInt8) : List Blk := splitF k size d.length d

theorem Kn.comp_pos (k : Kn) (d : List UInt8) (h : k.Valid) : 1 ≤ (k.comp d).length := by
 unfold Kn.comp
 rw [packL_length]
 have h1 : k.clear ≠ k.fin := by have := k.fin_eq; omega
 unfold Kn.greedy
 rw [Kn.bits_cons h1, List.length_append, codeL_length]
 have := (Kn.width_le h).1
 omega

theorem Kn.block_okb {k : Kn} (h : k.Valid) {d : List UInt8} (h1 : 1 ≤ d.length) (h2 : d.length ≤ 64) : (k.block d).okb := by
 unfold Kn.block
 split
 ·rename_i hc
  exact ⟨h1, h2, by show 1 ≤ (k.comp d).length ∧ _; exact ⟨k.comp_pos d h, hc.2⟩⟩
 ·exact ⟨h1, h2, rfl⟩

theorem Kn.block_size (k : Kn) (d : List UInt8) : (k.block d).size = d.length := by unfold Kn.block; split <;> rfl

theorem splitF_okb {k : Kn} (h : k.Valid) {size : Nat} (h1 : 1 ≤ size) (h2 : size ≤ 64) : ∀ (f : Nat) (d : List UInt8), ∀ b ∈ splitF k size f d, b.okb := by
 intro f
 induction f with
 | zero => intro d b hb; simp [splitF] at hb
 | succ f ih =>
  intro d b hb
  rw [splitF] at hb
  split at hb
  ·simp at hb
  ·rename_i hd
   have hl : d.length ≠ 0 := fun e => hd (List.eq_nil_of_length_eq_zero e)
   rcases List.mem_cons.1 hb with rfl | hb
   ·exact Kn.block_okb h (by rw [List.length_take]; omega) (by rw [List.length_take]; omega)
   ·exact ih _ b hb

theorem splitF_szs (k : Kn) {size : Nat} (h1 : 1 ≤ size) : ∀ (f : Nat) (d : List UInt8), d.length ≤ f → szs (splitF k size f d) = d.length ∧ (splitF k size f d).length = (d.length + size - 1) / size := by
 intro f
 induction f with
 | zero =>
  intro d hd
  have : d = [] := List.eq_nil_of_length_eq_zero (by omega)
  subst this
  refine ⟨rfl, ?_⟩
  show 0 = (0 + size - 1) / size
  rw [Nat.div_eq_of_lt (by omega)]
 | succ f ih =>
  intro d hd
  rw [splitF]
  split
  ·rename_i h0
   subst h0
   refine ⟨rfl, ?_⟩
   show 0 = (0 + size - 1) / size
   rw [Nat.div_eq_of_lt (by omega)]
  ·rename_i h0
   have hl : d.length ≠ 0 := fun e => h0 (List.eq_nil_of_length_eq_zero e)
   obtain ⟨i1, i2⟩ := ih (d.drop size) (by rw [List.length_drop]; omega)
   refine ⟨?_, ?_⟩
   ·show (k.block (d.take size)).size + _ = _
    rw [i1, Kn.block_size, List.length_take, List.length_drop]
    omega
   ·rw [List.length_cons, i2, List.length_drop]
    by_cases h3 : d.length ≤ size
    ·rw [show d.length - size + size - 1 = size - 1 by omega, Nat.div_eq_of_lt (by omega)]
     rw [show d.length + size - 1 = (d.length - 1) + size by omega, Nat.add_div_right _ (by omega), Nat.div_eq_of_lt (by omega)]
    ·rw [show d.length + size - 1 = (d.length - size + size - 1) + size by omega, Nat.add_div_right _ (by omega)]

theorem splitF_length_le (k : Kn) {size : Nat} (h1 : 1 ≤ size) (f : Nat) (d : List UInt8) (hd : d.length ≤ f) {n : Nat} (hn : d.length ≤ size * n) : (splitF k size f d).length ≤ n := by
 rw [(splitF_szs k h1 f d hd).2]
 have : d.length + size - 1 < size * (n + 1) := by rw [Nat.mul_succ]; omega
 have := Nat.div_lt_of_lt_mul this
 omega

theorem specL5Ready (o l m : Int) (s : ByteArray) (r : Bool) (w : World) (hs : s.size ≤ 1048576) (hr : r = true ↔ dfits o l m s.data.toList) :
  Calls Tryz.prog 72 #[.agg #[.int .i64 o, .int .i64 l, .int .i64 m], .string s] w fun e w' => e = .returned (.bool r) ∧ Below w.heap.size w w' := by
 have H := Lib.hid (fun W => specDataFits o l m s r W hs hr)
 clear hr
 go_enter Tryz.func72, Tryz.ntmps72
 go_wp2_with fail
 refine (H.out _).mono ?_
 rintro e w1 ⟨rfl, hb1⟩
 go_wp2_with fail
 go_ret
 exact ⟨rfl, ((Below.refl _ _).alloc (Nat.le_refl _) _).trans (hb1.mono (by simp))⟩

structure KB4 (w : World) (H : Nat) (a b c d : Value) : Prop where
 c : w.cell? ⟨H, 0, none⟩ = some a ∧ w.cell? ⟨H, 1, none⟩ = some b ∧ w.cell? ⟨H, 2, none⟩ = some c ∧ w.cell? ⟨H, 3, none⟩ = some d
 f : w.frozen? ⟨H, 0, none⟩ = false ∧ w.frozen? ⟨H, 1, none⟩ = false ∧ w.frozen? ⟨H, 2, none⟩ = false ∧ w.frozen? ⟨H, 3, none⟩ = false

theorem KB4.start (w : World) (T : TypeId) (a b c d : Value) : KB4 (w.alloc (.cells #[a, b, c, d] T)) w.heap.size a b c d := by
 have hf : ∀ j, (w.alloc (.cells #[a, b, c, d] T)).frozen? ⟨w.heap.size, j, none⟩ = false := fun j => by simp
 exact ⟨⟨box_cell (Below.refl _ _) rfl, box_cell (Below.refl _ _) rfl, box_cell (Below.refl _ _) rfl, box_cell (Below.refl _ _) rfl⟩, hf 0, hf 1, hf 2, hf 3⟩

theorem KB4.lt {w : World} {H : Nat} {a b c d : Value} (h : KB4 w H a b c d) : H < w.heap.size := cell_lt h.c.1

theorem KB4.below {w w' : World} {H : Nat} {a b c d : Value} (h : KB4 w H a b c d) (hb : Below w.heap.size w w') : KB4 w' H a b c d := by
 have hlt := h.lt
 obtain ⟨⟨c0, c1, c2, c3⟩, f0, f1, f2, f3⟩ := h
 have hc : ∀ j, w'.cell? ⟨H, j, none⟩ = w.cell? ⟨H, j, none⟩ := fun j => hb.cell (p := ⟨H, j, none⟩) hlt
 have hf : ∀ j, w'.frozen? ⟨H, j, none⟩ = w.frozen? ⟨H, j, none⟩ := fun j => hb.frozen (p := ⟨H, j, none⟩) hlt
 exact ⟨⟨(hc 0).trans c0, (hc 1).trans c1, (hc 2).trans c2, (hc 3).trans c3⟩, (hf 0).trans f0, (hf 1).trans f1, (hf 2).trans f2, (hf 3).trans f3⟩

theorem below_set4 {w w0 : World} {B H : Nat} (h : Below B w0 w) (hH : B ≤ H) (a b c d : Value) : Below B w0 ((((w.setCell ⟨H, 0, none⟩ a).setCell ⟨H, 1, none⟩ b).setCell ⟨H, 2, none⟩ c).setCell ⟨H, 3, none⟩ d) :=
 (((h.setCell hH _).setCell hH _).setCell hH _).setCell hH _

set_option maxHeartbeats 4000000 in
theorem specL5Block (o l m num : Nat) (d L : List UInt8) (w : World) (h : dfits o l m d) (hL : L.length ≤ 100000) :
  Calls Tryz.prog 66 #[.agg #[.int .i64 (o : Int), .int .i64 (l : Int), .int .i64 (m : Int)], .string (bsL d), .int .i64 (num : Int), .string (bsL L)] w fun e w' => e = .returned (renum num ((Kn.dict o l m d).block L)).val ∧ Below w.heap.size w w' := by
 obtain ⟨hfr, e1, e2, e3⟩ := Kn.dict_fresh h
 have kr0 := KB4.start (w.alloc (.cells #[.int .i64 (o : Int), .int .i64 (l : Int), .int .i64 (m : Int)] 24)) 36 (.int .i64 0) (.bool false) (.int .i64 0) (.string ⟨#[]⟩)
 rw [World.size_alloc] at kr0
 have hW0 := Lib.hid (((Below.refl w.heap.size w).alloc (Nat.le_refl _) (.cells #[.int .i64 (o : Int), .int .i64 (l : Int), .int .i64 (m : Int)] 24)).alloc (by simp) (.cells #[.int .i64 0, .bool false, .int .i64 0, .string ⟨#[]⟩] 36))
 replace kr0 := Lib.hid kr0
 by_cases hf : dfits o l m L
 ·have HC := fun W => specCompressWithYes o l m d L W h hf
  have hbk : renum num ((Kn.dict o l m d).block L) = if ((Kn.dict o l m d).comp L).length < L.length then ⟨num, false, L.length, bsL ((Kn.dict o l m d).comp L)⟩ else ⟨num, true, L.length, bsL L⟩ := by
   unfold Kn.block
   rw [e1, e2, e3]
   by_cases hc : ((Kn.dict o l m d).comp L).length < L.length
   ·rw [if_pos ⟨hf, hc⟩, if_pos hc]; rfl
   ·rw [if_neg (fun hh => hc hh.2), if_neg hc]; rfl
  rw [hbk]
  have hcl : ((Kn.dict o l m d).comp L).length ≤ 100000 := by
   unfold Kn.comp
   rw [packL_length]
   have hv := hfr.val
   have hff : (Kn.dict o l m d).fits L := by
    have := hf.2.2
    simp only [Int.toNat_natCast] at this
    have hcl : (Kn.dict o l m d).clear = 2 ^ l := by unfold Kn.clear; rw [e2]
    rw [Kn.fits_lits, hcl]
    exact this
   have h1 := (Kn.greedy_spec hv hff)
   have h2 := packW_length (Kn.dict o l m d).o ((Kn.dict o l m d).greedy L) ((Kn.dict o l m d).widths ((Kn.dict o l m d).greedy L)) (h1.1.bounds hv).2
   have h3 := h1.2.2
   have h4 := hf.2.1
   show (((Kn.dict o l m d).bits _).length + 7) / 8 ≤ _
   unfold Kn.bits
   omega
  obtain ⟨R, hR⟩ : ∃ R, (Kn.dict o l m d).comp L = R := ⟨_, rfl⟩
  rw [hR] at HC hcl ⊢
  have hRs : (bsL R).size = R.length := rfl
  have hLs : (bsL L).size = L.length := rfl
  obtain ⟨n, hn⟩ : ∃ n, L.length = n := ⟨_, rfl⟩
  obtain ⟨c, hc⟩ : ∃ c, R.length = c := ⟨_, rfl⟩
  rw [hn] at hLs hL ⊢
  rw [hc] at hRs hcl ⊢
  obtain ⟨T, hT⟩ : ∃ T, bsL R = T := ⟨_, rfl⟩
  obtain ⟨U, hU⟩ : ∃ U, bsL L = U := ⟨_, rfl⟩
  rw [hT] at HC hRs ⊢
  rw [hU] at HC hLs ⊢
  replace HC := Lib.hid HC
  clear hbk hR hn hc hT hU hfr e1 e2 e3 h hf
  by_cases hlt : c < n
  ·rw [if_pos hlt]
   unfold Blk.val
   have g1 : decide (c < n) = true := decide_eq_true hlt
   go_enter Tryz.func66, Tryz.ntmps66
   go_wp2_with fail
   refine (HC.out _).mono ?_
   rintro e w1 ⟨rfl, hb1⟩
   obtain ⟨⟨r0, r1, r2, r3⟩, y0, y1, y2, y3⟩ := kr0.out.below hb1
   have hW1 := Lib.hid (below_set4 (H := w.heap.size + 1) (hW0.out.trans (hb1.mono hW0.out.size)) (by omega) (.int .i64 (num : Int)) (.bool false) (.int .i64 (n : Int)) (.string T))
   clear hb1 kr0 hW0
   go_wp2_with fail
   refine bodyPost_ret (v := .agg #[.int .i64 (num : Int), .bool false, .int .i64 (n : Int), .string T]) (by simp [results, Tryz.results66, go_sem, r0, r1, r2, r3]) rfl ?_
   exact ⟨rfl, hW1.out⟩
  ·rw [if_neg hlt]
   unfold Blk.val
   have g1 : decide (c < n) = false := decide_eq_false hlt
   go_enter Tryz.func66, Tryz.ntmps66
   go_wp2_with fail
   refine (HC.out _).mono ?_
   rintro e w1 ⟨rfl, hb1⟩
   obtain ⟨⟨r0, r1, r2, r3⟩, y0, y1, y2, y3⟩ := kr0.out.below hb1
   have hW1 := Lib.hid (below_set4 (H := w.heap.size + 1) (hW0.out.trans (hb1.mono hW0.out.size)) (by omega) (.int .i64 (num : Int)) (.bool true) (.int .i64 (n : Int)) (.string U))
   clear hb1 kr0 hW0
   go_wp2_with fail
   refine bodyPost_ret (v := .agg #[.int .i64 (num : Int), .bool true, .int .i64 (n : Int), .string U]) (by simp [results, Tryz.results66, go_sem, r0, r1, r2, r3]) rfl ?_
   exact ⟨rfl, hW1.out⟩
 ·have HC := fun W => specCompressWithNo o l m d (bsL L) W h (by show L.length ≤ _; omega) hf
  have hbk : renum num ((Kn.dict o l m d).block L) = ⟨num, true, L.length, bsL L⟩ := by
   unfold Kn.block
   rw [e1, e2, e3, if_neg (fun hh => hf hh.1)]; rfl
  rw [hbk]
  have hLs : (bsL L).size = L.length := rfl
  obtain ⟨n, hn⟩ : ∃ n, L.length = n := ⟨_, rfl⟩
  rw [hn] at hLs hL ⊢
  obtain ⟨U, hU⟩ : ∃ U, bsL L = U := ⟨_, rfl⟩
  rw [hU] at HC hLs ⊢
  replace HC := Lib.hid HC
  clear hbk hn hU hfr e1 e2 e3 h hf
  unfold Blk.val
  go_enter Tryz.func66, Tryz.ntmps66
  go_wp2_with fail
  refine (HC.out _).mono ?_
  rintro e w1 ⟨rfl, hb1⟩
  obtain ⟨⟨r0, r1, r2, r3⟩, y0, y1, y2, y3⟩ := kr0.out.below hb1
  have hW1 := Lib.hid (below_set4 (H := w.heap.size + 1) (hW0.out.trans (hb1.mono hW0.out.size)) (by omega) (.int .i64 (num : Int)) (.bool true) (.int .i64 (n : Int)) (.string U))
  clear hb1 kr0 hW0
  go_wp2_with fail
  refine bodyPost_ret (v := .agg #[.int .i64 (num : Int), .bool true, .int .i64 (n : Int), .string U]) (by simp [results, Tryz.results66, go_sem, r0, r1, r2, r3]) rfl ?_
  exact ⟨rfl, hW1.out⟩

set_option maxHeartbeats 4000000 in
theorem specL5Make (o l m size : Nat) (d L : List UInt8) (w : World) (h : dfits o l m d) (hL : L.length ≤ 2000) (h1 : 1 ≤ size) (h64 : size ≤ 64) (h40 : L.length ≤ size * 40) :
  Calls Tryz.prog 95 #[.agg #[.int .i64 (o : Int), .int .i64 (l : Int), .int .i64 (m : Int)], .string (bsL d), .int .i64 0, .string (bsL L), .int .i64 (size : Int)] w fun e w' => e = .returned (.string (textsFrom 0 ((Kn.dict o l m d).split size L))) ∧ Below w.heap.size w w' := by
 have hv := (Kn.dict_fresh h).1.val
 have HB := fun (num : Nat) (X : List UInt8) (hX : X.length ≤ 100000) (W : World) => specL5Block o l m num d X W h hX
 obtain ⟨k, hk⟩ : ∃ k, Kn.dict o l m d = k := ⟨_, rfl⟩
 rw [hk] at HB hv ⊢
 have hsl : (k.split size L).length ≤ 40 := splitF_length_le k h1 _ _ (Nat.le_refl _) h40
 have hok := splitF_okb hv h1 h64 L.length L
 replace HB := Lib.hid HB
 replace hok := Lib.hid hok
 replace hsl := Lib.hid hsl
 replace hv := Lib.hid hv
 have hW0 := Lib.hid (Below.refl (w.heap.size + 1) (w.alloc (.cells #[.int .i64 (o : Int), .int .i64 (l : Int), .int .i64 (m : Int)] 24)))
 clear h hk
 go_enter Tryz.func95, Tryz.ntmps95
 go_wp2_with fail
 go_loopw [2, 3, 11] (fun u v t wr => ∃ (i : Nat) (dd : List UInt8) (acc : ByteArray), u = .int .i64 (i : Int) ∧ v = .string (bsL dd) ∧ t = .string acc ∧ Hid (∃ pre f, k.split size L = pre ++ splitF k size f dd ∧ pre.length = i ∧ dd.length ≤ f ∧ acc = textsFrom 0 pre) ∧ dd.length ≤ 2000 ∧ Hid (Below (w.heap.size + 1) (w.alloc (.cells #[.int .i64 (o : Int), .int .i64 (l : Int), .int .i64 (m : Int)] 24)) wr)) (fun _ v _ _ => szOf v)
 case atStart => exact ⟨0, L, ByteArray.empty, rfl, rfl, rfl, Lib.hid ⟨[], L.length, rfl, rfl, Nat.le_refl _, rfl⟩, hL, hW0⟩
 case round =>
  clear hW0
  obtain ⟨i, dd, acc, rfl, rfl, rfl, hS, hdl, hbel⟩ := hrel
  have hcmp : dd.isEmpty = decide (dd = []) := by cases dd <;> rfl
  obtain ⟨q0, q1, q2, _⟩ := box3 hbel.out
  by_cases hd : dd = []
  ·have hfin : acc = textsFrom 0 (k.split size L) := by
    obtain ⟨pre, f, e1, e2, e3, e4⟩ := hS.out
    rw [hd] at e1
    have : splitF k size f [] = [] := by cases f <;> simp [splitF]
    rw [this, List.append_nil] at e1
    rw [e1, e4]
   rw [decide_eq_true hd] at hcmp
   replace hfin := Lib.hid hfin
   clear hd
   go_wp2_with fail
   go_ret
   exact ⟨ret_str hfin.out, ((Below.refl _ _).alloc (Nat.le_refl _) _).trans (hbel.out.mono (by omega))⟩
  ·rw [decide_eq_false hd] at hcmp
   have hl0 : dd.length ≠ 0 := fun e => hd (List.eq_nil_of_length_eq_zero e)
   obtain ⟨n, hn⟩ : ∃ n, min size dd.length = n := ⟨_, rfl⟩
   have hnm : min (size : Int) (dd.length : Int) = (n : Int) := by omega
   have hnd : n ≤ dd.length := by omega
   have hn1 : 1 ≤ n := by omega
   have hdsz : (bsL dd).size = dd.length := rfl
   have htk : (bsL dd).extract 0 n = bsL (dd.take size) := by
    rw [bsL_take]
    congr 1
    by_cases hc : size ≤ dd.length
    ·rw [show n = size by omega]
    ·rw [show n = dd.length by omega, List.take_of_length_le (Nat.le_refl _), List.take_of_length_le (by omega)]
   have hdr : (bsL dd).extract n dd.length = bsL (dd.drop size) := by
    rw [bsL_drop]
    congr 1
    by_cases hc : size ≤ dd.length
    ·rw [show n = size by omega]
    ·rw [show n = dd.length by omega, List.drop_eq_nil_of_le (Nat.le_refl _), List.drop_eq_nil_of_le (by omega)]
   have hbk := HB.out i (dd.take size) (by rw [List.length_take]; omega)
   obtain ⟨b, hb⟩ : ∃ b, k.block (dd.take size) = b := ⟨_, rfl⟩
   have hS2 : ∃ pre f, k.split size L = pre ++ splitF k size f (dd.drop size) ∧ pre.length = i + 1 ∧ (dd.drop size).length ≤ f ∧ acc ++ textB (renum i b) = textsFrom 0 pre := by
    obtain ⟨pre, f, e1, e2, e3, e4⟩ := hS.out
    cases f with
    | zero => exact absurd (List.eq_nil_of_length_eq_zero (by omega)) hd
    | succ f =>
     rw [splitF, if_neg hd, hb] at e1
     refine ⟨pre ++ [b], f, by rw [e1]; simp, by rw [List.length_append, e2]; rfl, by rw [List.length_drop]; omega, ?_⟩
     rw [textsFrom_append, e4, Nat.zero_add, e2]
     show _ = _ ++ (textB (renum i b) ++ ByteArray.empty)
     rw [ByteArray.append_empty]
   have hi40 : i < 40 := by
    obtain ⟨pre, f, e1, e2, _⟩ := hS2
    have := congrArg List.length e1
    rw [List.length_append] at this
    have := hsl.out
    omega
   have hbok : b.okb := by rw [← hb]; exact Kn.block_okb hv.out (by rw [List.length_take]; omega) (by rw [List.length_take]; omega)
   have hbody := Blk.okb_body hbok
   have hacc : acc.size ≤ 74 * i := by
    obtain ⟨pre, f, e1, e2, e3, e4⟩ := hS.out
    rw [e4]
    have := textsFrom_size pre (fun b hb => hok.out b (by show b ∈ k.split size L; rw [e1]; exact List.mem_append_left _ hb)) 0
    omega
   have htl := textB_size (renum i b)
   have hbs2 : (renum i b).body.size = b.body.size := rfl
   have hT := fun W => specL5Text (renum i b) W (by show i ≤ _; omega) (by show b.size ≤ _; have := hbok.2.1; omega) (by omega)
   rw [hb] at hbk
   obtain ⟨V, hV⟩ : ∃ V, (renum i b).val = V := ⟨_, rfl⟩
   obtain ⟨T, hTT⟩ : ∃ T, textB (renum i b) = T := ⟨_, rfl⟩
   rw [hV] at hbk hT
   rw [hTT] at hT hS2 htl
   have hadd : ∀ W, (Op.stringOp .add acc T).run Tryz.prog W = .ok (.string (acc ++ T)) W := fun W => run_string_add_sum W _ _ (by omega)
   have hmes : (dd.drop size).length < dd.length := by rw [List.length_drop]; omega
   have hdl2 : (dd.drop size).length ≤ 2000 := by rw [List.length_drop]; omega
   obtain ⟨D2, hD2⟩ : ∃ D2, dd.drop size = D2 := ⟨_, rfl⟩
   obtain ⟨X2, hX2⟩ : ∃ X2, bsL (dd.take size) = X2 := ⟨_, rfl⟩
   rw [hD2] at hdr hS2 hmes hdl2
   rw [hX2] at htk hbk
   replace hbk := Lib.hid hbk
   replace hT := Lib.hid hT
   replace hS2 := Lib.hid hS2
   replace hmes := Lib.hid (show szOf (.string (bsL D2)) < szOf (.string (bsL dd)) from hmes)
   have i0 : (0 : Int) ≤ n := by omega
   have i1 : (n : Int) ≤ dd.length := by omega
   clear hd hl0 hb hbok hbody hV hTT hD2 hX2 hS hn htl hacc hbs2
   go_wp2_with fail
   refine wp_region_cls (by kernel_rfl) (by kernel_rfl) ?_
   have c0 := clsCell q0
   have c1 := clsCell q1
   have c2 := clsCell q2
   repeat (go_big_quiet_step (first | (go_at_call 66; exact clsCall (hbk.out _)) | (go_at_call 118; exact clsCall (hT.out _))))
   refine wpQuiet_nil ?_
   rintro w1 ⟨⟨w1, hB1⟩, rfl⟩
   have hb1 := Lib.hid (hbel.out.trans (hB1.mono (by have := hbel.out.size; simp at this; omega)))
   clear c0 c1 c2 q0 q1 q2 hB1
   go_wp2_with fail
   go_roundw
   case rel => exact ⟨i + 1, D2, acc ++ T, by go_num, rfl, rfl, hS2, hdl2, hb1⟩
   case measure => exact hmes.out

set_option maxHeartbeats 4000000 in
theorem specMakeContainerYes (o l m size : Nat) (d L : List UInt8) (w : World) (h : dfits o l m d) (h1 : 1 ≤ size) (h64 : size ≤ 64) (h40 : L.length ≤ size * 40) (hL : L.length ≤ 2000) :
  Calls Tryz.prog 54 #[.agg #[.int .i64 (o : Int), .int .i64 (l : Int), .int .i64 (m : Int)], .string (bsL d), .string (bsL L), .int .i64 (size : Int)] w fun e w' => e = .returned (.tuple #[.string (textsFrom 0 ((Kn.dict o l m d).split size L)), .bool true]) ∧ Below w.heap.size w w' := by
 have HR := fun W => specL5Ready o l m (bsL d) true W (by show d.length ≤ _; have := h.2.1; omega) (btrue h)
 have HI := fun W => specL1In (size : Int) 1 64 true W (btrue (by omega))
 have HM := fun W => specL5Make o l m size d L W h hL h1 h64 h40
 obtain ⟨R, hR⟩ : ∃ R, textsFrom 0 ((Kn.dict o l m d).split size L) = R := ⟨_, rfl⟩
 rw [hR] at HM ⊢
 have hLs : (bsL L).size = L.length := rfl
 obtain ⟨n, hn⟩ : ∃ n, L.length = n := ⟨_, rfl⟩
 obtain ⟨U, hU⟩ : ∃ U, bsL L = U := ⟨_, rfl⟩
 rw [hn] at hLs hL h40
 rw [hU] at hLs HM ⊢
 obtain ⟨z, hz⟩ : ∃ z : Nat, (size : Int) * 40 = z := ⟨size * 40, by omega⟩
 have g1 : decide (z < n) = false := decide_eq_false (by omega)
 have g2 : decide ((z : Int) < n) = false := decide_eq_false (by omega)
 replace HR := Lib.hid HR
 replace HI := Lib.hid HI
 replace HM := Lib.hid HM
 clear h hR hn hU h40
 go_enter Tryz.func54, Tryz.ntmps54
 go_wp2_with fail
 refine (HR.out _).mono ?_
 rintro e w1 ⟨rfl, hb1⟩
 have hB1 := hb1.mono (show w.heap.size + 1 ≤ _ by simp)
 obtain ⟨q0, q1, q2, _⟩ := box3 hB1
 have hW1 := Lib.hid (((Below.refl _ _).alloc (Nat.le_refl _) _).trans (hB1.mono (show w.heap.size ≤ _ by omega)))
 clear hb1 hB1
 go_wp2_with fail
 refine (HI.out _).mono ?_
 rintro e w2 ⟨rfl, rfl⟩
 go_wp2_with fail
 refine (HM.out _).mono ?_
 rintro e w3 ⟨rfl, hb3⟩
 have hW3 := Lib.hid (hW1.out.trans (hb3.mono hW1.out.size))
 clear hb3 hW1 q0 q1 q2
 go_wp2_with fail
 go_ret2
 exact ⟨rfl, hW3.out⟩

set_option maxHeartbeats 4000000 in
theorem specMakeContainerNo (o l m size : Int) (s U : ByteArray) (w : World) (hs : s.size ≤ 1048576) (hU : U.size ≤ 1048576) (h : ¬ (dfits o l m s.data.toList ∧ (1 ≤ size ∧ size ≤ 64) ∧ (U.size : Int) ≤ size * 40 ∧ U.size ≤ 2000)) :
  Calls Tryz.prog 54 #[.agg #[.int .i64 o, .int .i64 l, .int .i64 m], .string s, .string U, .int .i64 size] w fun e w' => e = .returned (.tuple #[.string ⟨#[]⟩, .bool false]) ∧ Below w.heap.size w w' := by
 by_cases h1 : dfits o l m s.data.toList
 ·have HR := Lib.hid (fun W => specL5Ready o l m s true W hs (btrue h1))
  by_cases h2 : 1 ≤ size ∧ size ≤ 64
  ·have HI := Lib.hid (fun W => specL1In size 1 64 true W (btrue h2))
   obtain ⟨h2a, h2b⟩ := h2
   obtain ⟨sz, rfl⟩ : ∃ n : Nat, size = n := ⟨size.toNat, by omega⟩
   obtain ⟨n, hn⟩ : ∃ n, U.size = n := ⟨_, rfl⟩
   obtain ⟨z, hz⟩ : ∃ z : Nat, (sz : Int) * 40 = z := ⟨sz * 40, by omega⟩
   have hznn : z < n ∨ (¬ z < n ∧ 2000 < n) := by
    rcases Nat.lt_or_ge z n with h5 | h5
    ·exact Or.inl h5
    ·right
     refine ⟨by omega, ?_⟩
     rcases Nat.lt_or_ge 2000 n with h6 | h6
     ·exact h6
     ·exact absurd ⟨h1, ⟨h2a, h2b⟩, by omega, by omega⟩ h
   clear h h1
   rcases hznn with h5 | ⟨h5, h6⟩
   ·have g1 : decide (z < n) = true := decide_eq_true h5
    have g2 : decide ((z : Int) < n) = true := decide_eq_true (by omega)
    go_enter Tryz.func54, Tryz.ntmps54
    go_wp2_with fail
    refine (HR.out _).mono ?_
    rintro e w1 ⟨rfl, hb1⟩
    have hW1 := Lib.hid (((Below.refl w.heap.size w).alloc (Nat.le_refl _) _).trans (hb1.mono (by simp)))
    clear hb1
    go_wp2_with fail
    refine (HI.out _).mono ?_
    rintro e w2 ⟨rfl, rfl⟩
    go_wp2_with fail
    go_ret2
    exact ⟨rfl, hW1.out⟩
   ·have g1 : decide (z < n) = false := decide_eq_false h5
    have g2 : decide ((z : Int) < n) = false := decide_eq_false (by omega)
    go_enter Tryz.func54, Tryz.ntmps54
    go_wp2_with fail
    refine (HR.out _).mono ?_
    rintro e w1 ⟨rfl, hb1⟩
    have hW1 := Lib.hid (((Below.refl w.heap.size w).alloc (Nat.le_refl _) _).trans (hb1.mono (by simp)))
    clear hb1
    go_wp2_with fail
    refine (HI.out _).mono ?_
    rintro e w2 ⟨rfl, rfl⟩
    go_wp2_with fail
    go_ret2
    exact ⟨rfl, hW1.out⟩
  ·have HI := Lib.hid (fun W => specL1In size 1 64 false W (bfalse h2))
   clear h h1 h2
   go_enter Tryz.func54, Tryz.ntmps54
   go_wp2_with fail
   refine (HR.out _).mono ?_
   rintro e w1 ⟨rfl, hb1⟩
   have hW1 := Lib.hid (((Below.refl w.heap.size w).alloc (Nat.le_refl _) _).trans (hb1.mono (by simp)))
   clear hb1
   go_wp2_with fail
   refine (HI.out _).mono ?_
   rintro e w2 ⟨rfl, rfl⟩
   go_wp2_with fail
   go_ret2
   exact ⟨rfl, hW1.out⟩
 ·have HR := Lib.hid (fun W => specL5Ready o l m s false W hs (bfalse h1))
  clear h h1
  go_enter Tryz.func54, Tryz.ntmps54
  go_wp2_with fail
  refine (HR.out _).mono ?_
  rintro e w1 ⟨rfl, hb1⟩
  have hW1 := Lib.hid (((Below.refl w.heap.size w).alloc (Nat.le_refl _) _).trans (hb1.mono (by simp)))
  clear hb1
  go_wp2_with fail
  go_ret2
  exact ⟨rfl, hW1.out⟩

end Go.Proofs.YthlgpgaeajfchaaGreat

