/-
  The contract of FormatBlock of the program: the bytes of a block, if it is valid.
  A strings.Builder of the call's own that holds a text: what it is to write to it and to read it.
  The contracts of the functions that make a container of blocks: makeContainer, l5Size, l6Fits, l6Texts, l6Result.
  A container is the text of its blocks, and the text of blocks is a container of them: plain facts.
-/
import Derived.Test.YthlgpgaeajfchaaGreatDoorBlockText
import Derived.Deep.RegionHeld3
import Derived.Test.YthlgpgaeajfchaaGreatDoorMem
import Derived.Test.YthlgpgaeajfchaaGreatDoorShelf
import Derived.Test.YthlgpgaeajfchaaGreatDoorCont
import Derived.Test.YthlgpgaeajfchaaGreatDoorContPlain

namespace Go.Proofs.YthlgpgaeajfchaaGreatDoor
open Go.RowKit
set_option linter.unusedVariables false
attribute [local go_sem ↓] Go.wp_at_zero Go.wp_at_succ

set_option maxHeartbeats 4000000 in
theorem implFormatBlockYes (num size : Nat) (raw : Bool) (body : ByteArray) (w : World) (hok : (⟨num, raw, size, body⟩ : Blk).ok) :
    Calls Tryz.prog 45 #[.agg #[.int .i64 num, .bool raw, .int .i64 size, .string body]] w fun e w' => e = .returned (.tuple #[.string (textB ⟨num, raw, size, body⟩), .bool true]) ∧ Below w.heap.size w w' := by
  have hbd : num < 40 ∧ size ≤ 64 ∧ body.size ≤ 64 := by
    obtain ⟨h1, h2, h3, h4⟩ := hok
    cases raw
    · simp at h1 h2 h3 h4; omega
    · simp at h1 h2 h3 h4; omega
  obtain ⟨b1, b2, b3⟩ := hbd
  have HV := Lib.hid (fun W => implBlockValid ⟨num, raw, size, body⟩ true W (by simp only; omega) (by simp only; omega) (by simp only; omega) (btrue hok))
  have ks : (kindB raw).size = 1 := kindB_size _
  have ts : ∀ n, (two n).size = 2 := fun _ => rfl
  obtain ⟨K, hK⟩ : ∃ K, kindB raw = K := ⟨_, rfl⟩
  have hI0 : innerB ⟨num, raw, size, body⟩ = K ++ two num ++ two size ++ two body.size ++ body := by unfold innerB; rw [hK]
  rw [hK] at ks
  have hadd1 : ∀ W, (Op.stringOp .add K (two num)).run Tryz.prog W = .ok (.string (K ++ two num)) W := fun W => run_string_add_sum W _ _ (by rw [ks, ts]; omega)
  have hadd2 : ∀ W, (Op.stringOp .add (K ++ two num) (two size)).run Tryz.prog W = .ok (.string (K ++ two num ++ two size)) W := fun W => run_string_add_sum W _ _ (by simp [ks, ts])
  have hadd3 : ∀ W, (Op.stringOp .add (K ++ two num ++ two size) (two body.size)).run Tryz.prog W = .ok (.string (K ++ two num ++ two size ++ two body.size)) W := fun W => run_string_add_sum W _ _ (by simp [ks, ts])
  obtain ⟨I, hIe⟩ : ∃ I, innerB ⟨num, raw, size, body⟩ = I := ⟨_, rfl⟩
  have hT : textB ⟨num, raw, size, body⟩ = ⟨#[181]⟩ ++ I ++ two (sumOf I.data.toList) := by unfold textB; rw [hIe]
  have hadd4 : ∀ W, (Op.stringOp .add (K ++ two num ++ two size ++ two body.size) body).run Tryz.prog W = .ok (.string I) W := fun W => by
    rw [run_string_add_sum W _ _ (by simp [ks, ts]; omega), ← hI0, hIe]
  have hI : I.size ≤ 1048576 := by rw [← hIe, hI0]; simp [ks, ts]; omega
  have hlt := sumOf_lt I.data.toList
  have hadd5 : ∀ W, (Op.stringOp .add ⟨#[181]⟩ I).run Tryz.prog W = .ok (.string (⟨#[181]⟩ ++ I)) W := fun W => run_string_add_sum W _ _ (by show 1 + I.size ≤ _; omega)
  have hadd6 : ∀ W, (Op.stringOp .add (⟨#[181]⟩ ++ I) (two (sumOf I.data.toList))).run Tryz.prog W = .ok (.string (textB ⟨num, raw, size, body⟩)) W := fun W => by
    rw [hT]; exact run_string_add_sum W _ _ (by rw [ByteArray.size_append, ts]; show 1 + I.size + 2 ≤ _; omega)
  obtain ⟨TX, hTX⟩ : ∃ T, textB ⟨num, raw, size, body⟩ = T := ⟨_, rfl⟩
  rw [hTX] at hadd6 ⊢
  have hcv := run_one_byte (P := Tryz.prog) Tryz.underlying22 Tryz.underlying5 Tryz.underlying9 181 (by omega)
  simp only [Int.cast_ofNat_Int] at hcv
  have HK := Lib.hid hK
  clear hIe hT hTX hI0 ks ts hok hK
  cases raw
  · have hKK : K = ⟨#[1]⟩ := HK.out.symm
    subst hKK
    go_enter Tryz.func45, Tryz.ntmps45
    go_wp2_with fail
    refine (HV.out _).mono ?_
    rintro e w1 ⟨rfl, hb1⟩
    have hB1 : Below (w.heap.size + 1) (w.alloc (.cells #[.int .i64 num, .bool false, .int .i64 size, .string body] 65)) w1 := by simpa using hb1
    obtain ⟨q0, q1, q2, q3, _⟩ := box4 hB1
    go_wp2_with fail
    go_region_held3 (fun w' => w'.cell? ⟨w.heap.size, 0, none⟩ = some (.int .i64 num) ∧ w'.cell? ⟨w.heap.size, 1, none⟩ = some (.bool false) ∧ w'.cell? ⟨w.heap.size, 2, none⟩ = some (.int .i64 size) ∧ w'.cell? ⟨w.heap.size, 3, none⟩ = some (.string body) ∧
        Below (w.heap.size + 1) (w.alloc (.cells #[.int .i64 num, .bool false, .int .i64 size, .string body] 65)) w')
      (first | exact box4 hB1.drew | (go_split_ands; exact box4_call (by assumption) (by assumption)))
      (first | (go_at_call 67; refine (implTwoBytes _ _ (by omega)).mono ?_; rintro e w' ⟨rfl, hb⟩))
    go_split_ands
    have hB : Below (w.heap.size + 1) (w.alloc (.cells #[.int .i64 num, .bool false, .int .i64 size, .string body] 65)) w' := by assumption
    have hW : Below w.heap.size w w' := ((Below.refl _ _).alloc (Nat.le_refl _) _).trans (hB.mono (by omega))
    have hWs := hW.size
    clear hadd1 hadd2 hadd3 hadd4 hB HV hb1 hB1 q0 q1 q2 q3
    go_wp2_with fail
    go_region_with (first | (go_at_call 60; refine (implSumOf _ _ (by assumption)).mono ?_; rintro e w2 ⟨rfl, rfl⟩) | (go_at_call 67; refine (implTwoBytes _ _ (by omega)).mono ?_; rintro e w2 ⟨rfl, hb⟩; have hW2 : Below w.heap.size w w2 := below_call hb (by go_grown); have hs2 := hW2.size; have hc := (bcell hb).1))
    all_goals go_wp2_with fail
    all_goals go_ret2
    all_goals exact ⟨rfl, by go_grown⟩
  · have hKK : K = ⟨#[0]⟩ := HK.out.symm
    subst hKK
    go_enter Tryz.func45, Tryz.ntmps45
    go_wp2_with fail
    refine (HV.out _).mono ?_
    rintro e w1 ⟨rfl, hb1⟩
    have hB1 : Below (w.heap.size + 1) (w.alloc (.cells #[.int .i64 num, .bool true, .int .i64 size, .string body] 65)) w1 := by simpa using hb1
    obtain ⟨q0, q1, q2, q3, _⟩ := box4 hB1
    go_wp2_with fail
    go_region_held3 (fun w' => w'.cell? ⟨w.heap.size, 0, none⟩ = some (.int .i64 num) ∧ w'.cell? ⟨w.heap.size, 1, none⟩ = some (.bool true) ∧ w'.cell? ⟨w.heap.size, 2, none⟩ = some (.int .i64 size) ∧ w'.cell? ⟨w.heap.size, 3, none⟩ = some (.string body) ∧
        Below (w.heap.size + 1) (w.alloc (.cells #[.int .i64 num, .bool true, .int .i64 size, .string body] 65)) w')
      (first | exact box4 hB1.drew | (go_split_ands; exact box4_call (by assumption) (by assumption)))
      (first | (go_at_call 67; refine (implTwoBytes _ _ (by omega)).mono ?_; rintro e w' ⟨rfl, hb⟩))
    go_split_ands
    have hB : Below (w.heap.size + 1) (w.alloc (.cells #[.int .i64 num, .bool true, .int .i64 size, .string body] 65)) w' := by assumption
    have hW : Below w.heap.size w w' := ((Below.refl _ _).alloc (Nat.le_refl _) _).trans (hB.mono (by omega))
    have hWs := hW.size
    clear hadd1 hadd2 hadd3 hadd4 hB HV hb1 hB1 q0 q1 q2 q3
    go_wp2_with fail
    go_region_with (first | (go_at_call 60; refine (implSumOf _ _ (by assumption)).mono ?_; rintro e w2 ⟨rfl, rfl⟩) | (go_at_call 67; refine (implTwoBytes _ _ (by omega)).mono ?_; rintro e w2 ⟨rfl, hb⟩; have hW2 : Below w.heap.size w w2 := below_call hb (by go_grown); have hs2 := hW2.size; have hc := (bcell hb).1))
    all_goals go_wp2_with fail
    all_goals go_ret2
    all_goals exact ⟨rfl, by go_grown⟩

end Go.Proofs.YthlgpgaeajfchaaGreatDoor

namespace Go.Proofs.YthlgpgaeajfchaaGreatDoor
open Go.RowKit
set_option linter.unusedVariables false

/-- A builder in block b holds a text; all of it lies from block B on. -/
def Bld (w : World) (B b : Nat) (t : ByteArray) : Prop := Lib.IsBuilder 89 5 B b (Lib.byteCells t.data.toList) w

theorem bldAt_below {T e : TypeId} {B b : Nat} {p : Value} {bs : List Value} {w w' : World} (h : Lib.BuilderAt T e B b p bs w) (hb : Below w.heap.size w w') : Lib.BuilderAt T e B b p bs w' := by
  have hlt := h.lt
  obtain ⟨hB, v, h1, h2, h3⟩ := h
  exact ⟨hB, v, (hb.block b hlt).trans h1, own_below h2 hb (Nat.le_refl _), h3⟩

theorem Bld.below {B b : Nat} {t : ByteArray} {w w' : World} (h : Bld w B b t) (hb : Below w.heap.size w w') : Bld w' B b t := by
  rcases h with h | h
  · exact .inl (bldAt_below h hb)
  · exact .inr (bldAt_below h hb)

theorem Bld.alloc {B b : Nat} {t : ByteArray} {w : World} (h : Bld w B b t) (o : Obj) : Bld (w.alloc o) B b t := h.below ((Below.refl _ _).alloc (Nat.le_refl _) _)

theorem Bld.new (w : World) : Bld (w.alloc (.cells #[.pointer none, .slice none 0 0] 89)) w.heap.size w.heap.size ByteArray.empty := Lib.fresh_isBuilder 89 5 w

theorem Bld.lt {B b : Nat} {t : ByteArray} {w : World} (h : Bld w B b t) : b < w.heap.size ∧ B ≤ b := by
  rcases h with h | h
  · exact ⟨h.lt, h.1⟩
  · exact ⟨h.lt, h.1⟩

theorem bldWrite (B b : Nat) (t s : ByteArray) (w : World) (h : Bld w B b t) (hl : t.size + s.size ≤ 16777216) :
    Calls Tryz.prog 46 #[.pointer (some ⟨b, 0, none⟩), .string s] w fun e w' => e = .returned (.tuple #[.int .i64 s.size, .nilIface]) ∧ Bld w' B b (t ++ s) ∧ Below B w w' := by
  have hlt := h.lt
  refine (Tryz.Builder_WriteString B b _ s w h (by rw [Lib.byteCells_length]; simp; omega) (by omega)).mono ?_
  rintro e w' ⟨rfl, h1, h2⟩
  refine ⟨rfl, .inr ?_, h2⟩
  rw [ByteArray.data_append, Array.toList_append, Lib.byteCells_append, ← Lib.strCells_eq]
  exact h1

theorem bldString (B b : Nat) (t : ByteArray) (w : World) (h : Bld w B b t) :
    Calls Tryz.prog 47 #[.pointer (some ⟨b, 0, none⟩)] w fun e w' => e = .returned (.string t) ∧ Below B w w' := by
  have hlt := h.lt
  refine (Tryz.Builder_String_any B b t.data.toList w h (by omega)).mono ?_
  rintro e w' ⟨rfl, h1⟩
  exact ⟨rfl, h1⟩

theorem bldAt_above {T e : TypeId} {B b : Nat} {p : Value} {bs : List Value} {w w' : World} (h : Lib.BuilderAt T e B b p bs w) (hk : ∀ i, B ≤ i → w'.heap[i]? = w.heap[i]?) : Lib.BuilderAt T e B b p bs w' := by
  obtain ⟨hB, v, h1, h2, h3⟩ := h
  refine ⟨hB, v, (hk b hB).trans h1, ⟨h2.1, ?_⟩, h3⟩
  rcases h2.2 with hn | ⟨g, cap, cur, hv, hg, hgg, rest⟩
  · exact .inl hn
  · exact .inr ⟨g, cap, cur, hv, hg, (hk g hg).trans hgg, rest⟩

/-- What is turned below a builder leaves it as it is. -/
theorem Bld.above {B b : Nat} {t : ByteArray} {w w' : World} (h : Bld w B b t) (hk : ∀ i, B ≤ i → w'.heap[i]? = w.heap[i]?) : Bld w' B b t := by
  rcases h with h | h
  · exact .inl (bldAt_above h hk)
  · exact .inr (bldAt_above h hk)

theorem Bld.setCell {B b : Nat} {t : ByteArray} {w : World} (h : Bld w B b t) {p : Addr} (hp : p.block < B) (u : Value) : Bld (w.setCell p u) B b t :=
  h.above fun i hi => Below.heap_setCell w p u i (by omega)

theorem Bld.drewN {B b : Nat} {t : ByteArray} {w : World} (h : Bld w B b t) (n : Nat) : Bld (w.drewN n) B b t := h

/-- A row of one's own below a builder stays as it is when the builder is written to. -/
theorem own_under {w w' : World} {base size n C : Nat} {e : TypeId} {v : Value} {xs : List Value} (h : w.ownsRow base e size v n xs) (hb : Below C w w') (hC : ∀ g, v.ownBlock = some g → g < C) : w'.ownsRow base e size v n xs := by
  refine ⟨h.1, ?_⟩
  rcases h.2 with hn | ⟨g, cap, cur, rfl, hg, hgg, rest⟩
  · exact .inl hn
  · exact .inr ⟨g, cap, cur, rfl, hg, (hb.block g (hC g rfl)).trans hgg, rest⟩

end Go.Proofs.YthlgpgaeajfchaaGreatDoor

namespace Go.Proofs.YthlgpgaeajfchaaGreatDoor
open Go.RowKit
set_option linter.unusedVariables false

/-- A block with another number. -/
def renum (i : Nat) (b : Blk) : Blk := ⟨i, b.raw, b.size, b.body⟩

/-- The texts of blocks with numbers from i on. -/
def textsFrom : Nat → List Blk → ByteArray
  | _, [] => ByteArray.empty
  | i, b :: bs => textB (renum i b) ++ textsFrom (i + 1) bs

theorem textsFrom_append (a b : List Blk) : ∀ i, textsFrom i (a ++ b) = textsFrom i a ++ textsFrom (i + a.length) b := by
  induction a with
  | nil => intro i; simp [textsFrom]
  | cons x xs ih =>
    intro i
    show textB (renum i x) ++ textsFrom (i + 1) (xs ++ b) = textB (renum i x) ++ textsFrom (i + 1) xs ++ textsFrom (i + (xs.length + 1)) b
    rw [ih (i + 1), ByteArray.append_assoc, show i + 1 + xs.length = i + (xs.length + 1) from by omega]

theorem textsFrom_take (bs : List Blk) (k : Nat) (b : Blk) (h : bs[k]? = some b) : textsFrom 0 (bs.take (k + 1)) = textsFrom 0 (bs.take k) ++ textB (renum k b) := by
  obtain ⟨hk, rfl⟩ := List.getElem?_eq_some_iff.1 h
  rw [List.take_succ_eq_append_getElem hk, textsFrom_append]
  simp [textsFrom, List.length_take, Nat.min_eq_left (Nat.le_of_lt hk)]

/-- That a block is valid but for its number. -/
def Blk.okb (b : Blk) : Prop := 1 ≤ b.size ∧ b.size ≤ 64 ∧ if b.raw then b.body.size = b.size else 1 ≤ b.body.size ∧ b.body.size < b.size

theorem Blk.ok_of {b : Blk} (h : b.okb) {i : Nat} (hi : i < 40) : (renum i b).ok := ⟨hi, h.1, h.2.1, h.2.2⟩

theorem Blk.okb_of {b : Blk} (h : b.ok) : b.okb := ⟨h.2.1, h.2.2.1, h.2.2.2⟩

theorem Blk.okb_body {b : Blk} (h : b.okb) : b.body.size ≤ 64 := by
  obtain ⟨h1, h2, h3⟩ := h
  split at h3
  · omega
  · omega

theorem textB_size (b : Blk) : (textB b).size = 10 + b.body.size := by
  unfold textB innerB
  simp only [ByteArray.size_append, kindB_size]
  have h1 : (⟨#[181]⟩ : ByteArray).size = 1 := rfl
  have h2 : ∀ n, (two n).size = 2 := fun _ => rfl
  rw [h1]
  simp only [h2]
  omega

theorem textsFrom_size (bs : List Blk) (h : ∀ b ∈ bs, b.okb) : ∀ i, (textsFrom i bs).size ≤ 74 * bs.length := by
  induction bs with
  | nil => intro i; exact Nat.le_refl 0
  | cons x xs ih =>
    intro i
    show (textB (renum i x) ++ textsFrom (i + 1) xs).size ≤ 74 * (xs.length + 1)
    rw [ByteArray.size_append, textB_size]
    have h1 := ih (fun b hb => h b (List.mem_cons_of_mem _ hb)) (i + 1)
    have h2 := Blk.okb_body (h x (List.mem_cons_self ..))
    show 10 + x.body.size + _ ≤ _
    omega

/-- The container of blocks, if they are not too many nor too long. -/
def mkC (bs : List Blk) : Option ByteArray := if bs.length ≤ 40 ∧ szs bs ≤ 2000 then some (textsFrom 0 bs) else none

/-- A string and a bool as results. -/
abbrev optV (o : Option ByteArray) : Value := .tuple #[.string (o.getD ByteArray.empty), .bool o.isSome]

theorem mkC_yes {bs : List Blk} (h1 : bs.length ≤ 40) (h2 : szs bs ≤ 2000) : mkC bs = some (textsFrom 0 bs) := if_pos ⟨h1, h2⟩

theorem mkC_no {bs : List Blk} (h : ¬ (bs.length ≤ 40 ∧ szs bs ≤ 2000)) : mkC bs = none := if_neg h

theorem ret_optYes {o : Option ByteArray} {t : ByteArray} (h : o = some t) : Ending.returned (.tuple #[.string t, .bool true]) = .returned (optV o) := by rw [h]; rfl

theorem ret_optNo {o : Option ByteArray} (h : o = none) : Ending.returned (.tuple #[.string ByteArray.empty, .bool false]) = .returned (optV o) := by rw [h]; rfl

set_option maxHeartbeats 2000000 in
theorem implMakeContainer (A : Option Addr) (n c B : Nat) (bs : List Blk) (w : World) (h : Row w B 4 A n (cellsB bs)) (hB : B ≤ w.heap.size) (hn : n ≤ 1048576) (hz : szs bs ≤ 1048576) (hok : ∀ b ∈ bs, b.okb) :
    Calls Tryz.prog 21 #[.slice A n c] w fun e w' => e = .returned (optV (mkC bs)) ∧ Below w.heap.size w w' := by
  have hlen := h.len4
  by_cases h1 : n ≤ 40
  · obtain ⟨z, hz0⟩ : ∃ z, szs bs = z := ⟨_, rfl⟩
    have HS := Lib.hid (implSizeOf A n c B bs w h hB hn hz)
    rw [hz0] at HS
    by_cases h2 : z ≤ 2000
    · have HR := Lib.hid (ret_optYes (mkC_yes (bs := bs) (by omega) (by omega)))
      have HL := Lib.hid hlen
      clear hz0 hz hlen
      go_enter Tryz.func21, Tryz.ntmps21
      go_wp2_with fail
      refine HS.out.mono ?_
      rintro e w1 ⟨rfl, hb1⟩
      have hrow1 := h.below hb1 hB
      have hB1 : B ≤ w1.heap.size := Nat.le_trans hB hb1.size
      have hz1 := hb1.size
      clear h
      go_wp2_with fail
      go_loopw [19] (fun i wr => ∃ k : Nat, k ≤ n ∧ i = .int .i64 k ∧ Bld wr w1.heap.size w1.heap.size (textsFrom 0 (bs.take k)) ∧ Below w1.heap.size w1 wr) (fun i _ => n - (intOf i).toNat)
      case atStart => exact ⟨0, Nat.zero_le _, rfl, Bld.new w1, (Below.refl _ _).alloc (Nat.le_refl _) _⟩
      case round =>
        obtain ⟨k, hk, rfl, hbld, hbel⟩ := hrel
        have hwz := hbel.size
        have hbl := hbld.lt
        by_cases hlt : k < n
        · obtain ⟨⟨num, raw, size, body⟩, hb⟩ : ∃ b, bs[k]? = some b := ⟨_, List.getElem?_eq_getElem (by rw [HL.out]; exact hlt)⟩
          obtain ⟨g, off, rfl, hg, p0, p1, p2, p3⟩ := (hrow1.below hbel hB1).blk hlt hb
          have hob := hok _ (List.mem_of_getElem? hb)
          have hbs := Blk.okb_body hob
          simp only at hbs
          have htx := textsFrom_take bs k _ hb
          have hts := textsFrom_size (bs.take k) (fun b hb => hok b (List.mem_of_mem_take hb)) 0
          have htl : (bs.take k).length ≤ 40 := by rw [List.length_take]; omega
          have HF := Lib.hid (fun W => implFormatBlockYes k size raw body W (Blk.ok_of hob (by omega)))
          obtain ⟨t, ht⟩ : ∃ t, textsFrom 0 (bs.take k) = t := ⟨_, rfl⟩
          obtain ⟨x, hx⟩ : ∃ x, textB ⟨k, raw, size, body⟩ = x := ⟨_, rfl⟩
          have hxs : x.size ≤ 100 := by rw [← hx, textB_size]; simp only; omega
          have htx' : textsFrom 0 (bs.take (k + 1)) = t ++ x := by rw [htx, ht, ← hx]; rfl
          rw [ht] at hts hbld
          have hts2 : t.size ≤ 3000 := by omega
          rw [hx] at HF
          have HTX := Lib.hid htx'
          clear htx htx' ht hx hb htl hob hrow1
          go_wp2_with fail
          refine (HF.out _).mono ?_
          rintro e w2 ⟨rfl, hb2⟩
          have hbld2 := (hbld.alloc (.cells #[.int .i64 k, .bool raw, .int .i64 size, .string body] 65)).below hb2
          have hbel2 : Below w1.heap.size w1 w2 := (hbel.alloc hwz _).trans (hb2.mono (by simp; omega))
          clear hbld hbel hb2
          go_wp2_with fail
          refine (bldWrite _ _ t x _ hbld2 (by omega)).mono ?_
          rintro e w3 ⟨rfl, hbld3, hb3⟩
          have hbel3 := hbel2.trans hb3
          go_wp2_with fail
          go_roundw
          case rel => exact ⟨k + 1, by omega, by go_num, by rw [HTX.out]; exact hbld3, hbel3⟩
          case measure => simp [intOf]; omega
        · obtain rfl : k = n := by omega
          have ht : bs.take k = bs := List.take_of_length_le (by rw [HL.out]; omega)
          rw [ht] at hbld
          clear ht
          go_wp2_with fail
          refine (bldString _ _ _ _ hbld).mono ?_
          rintro e w2 ⟨rfl, hb2⟩
          go_wp2_with fail
          go_ret2
          exact ⟨HR.out, hb1.trans ((hbel.trans hb2).mono hz1)⟩
    · have HR := Lib.hid (ret_optNo (mkC_no (bs := bs) (fun h => h2 (by omega))))
      clear hz0 hz hlen
      go_enter Tryz.func21, Tryz.ntmps21
      go_wp2_with fail
      refine HS.out.mono ?_
      rintro e w1 ⟨rfl, hb1⟩
      go_wp2_with fail
      go_ret2
      exact ⟨HR.out, hb1⟩
  · have HR := Lib.hid (ret_optNo (mkC_no (bs := bs) (fun h => h1 (by omega))))
    clear hlen
    go_enter Tryz.func21, Tryz.ntmps21
    go_wp2_with fail
    go_ret2
    exact ⟨HR.out, Below.refl _ _⟩

end Go.Proofs.YthlgpgaeajfchaaGreatDoor

namespace Go.Proofs.YthlgpgaeajfchaaGreatDoor
set_option linter.unusedVariables false

theorem ba_list {a b : ByteArray} (h : a.data.toList = b.data.toList) : a = b := ByteArray.ext (Array.toList_inj.1 h)

theorem textsFrom_snoc (i : Nat) (bs : List Blk) (b : Blk) : textsFrom i (bs ++ [b]) = textsFrom i bs ++ textB (renum (i + bs.length) b) := by
  rw [textsFrom_append]
  show _ ++ (textB _ ++ ByteArray.empty) = _
  rw [ByteArray.append_empty]

theorem renum_self {b : Blk} {i : Nat} (h : b.num = i) : renum i b = b := by
  subst h; rfl

/-- A container from an index on is the text of its blocks. -/
theorem conts_text {s : ByteArray} {k : Nat} {acc bs : List Blk} (hk : k ≤ s.size) (hc : conts s k acc = some bs) : textsFrom 0 bs = textsFrom 0 acc ++ s.extract k s.size := by
  by_cases hlt : k < s.size
  · by_cases h1 : pbOk s k ∧ (pbBlk s k).num = acc.length
    · rw [conts_next hlt h1.1 h1.2] at hc
      have hend := pbOk_end h1.1
      have := pbEnd_ge s k
      rw [conts_text hend hc, textsFrom_snoc, Nat.zero_add, renum_self h1.2]
      have ht := (text_pbBlk s k h1.1.1 h1.1.2.1 h1.1.2.2.1 hend).2 h1.1.2.2.2.2.2
      rw [ht, ByteArray.append_assoc, extract_append s k (pbEnd s k + 2) s.size (by omega) hend]
    · rw [conts_bad hlt h1] at hc
      cases hc
  · rw [conts_end (by omega)] at hc
    split at hc
    · injection hc with hc
      subst hc
      have : s.extract k s.size = ByteArray.empty := by
        apply ba_list
        simp
        omega
      rw [this, ByteArray.append_empty]
    · cases hc
termination_by s.size - k
decreasing_by have := pbEnd_ge s k; omega

theorem contB_text {s : ByteArray} {bs : List Blk} (h : contB s = some bs) : textsFrom 0 bs = s := by
  have := conts_text (Nat.zero_le _) h
  rw [this]
  show ByteArray.empty ++ _ = _
  rw [ByteArray.empty_append]
  apply ba_list
  simp

theorem bAt_mid {s X Z : ByteArray} (h : s = X ++ Z) (j : Nat) : bAt s (X.size + j) = bAt Z j := by
  unfold bAt
  rw [h, ByteArray.data_append, Array.toList_append, List.getD_eq_getElem?_getD, List.getD_eq_getElem?_getD, List.getElem?_append_right (by simp)]
  congr 2
  simp

theorem extract_mid {s X Z : ByteArray} (h : s = X ++ Z) (i j : Nat) : s.extract (X.size + i) (X.size + j) = Z.extract i j := by
  subst h
  apply ba_list
  simp only [ByteArray.data_extract, ByteArray.data_append, Array.toList_extract, Array.toList_append, List.extract_eq_take_drop]
  have e : X.size = X.data.toList.length := by simp
  rw [e, List.drop_append, List.drop_eq_nil_of_le (by omega)]
  simp only [List.nil_append]
  congr 1
  · omega
  · congr 1; omega

/-- The bytes of a block's text, one by one. -/
theorem textB_list (b : Blk) : (textB b).data.toList = 181 :: (if b.raw then 0 else 1) :: UInt8.ofNat (b.num / 256) :: UInt8.ofNat b.num :: UInt8.ofNat (b.size / 256) :: UInt8.ofNat b.size :: UInt8.ofNat (b.body.size / 256) :: UInt8.ofNat b.body.size :: (b.body.data.toList ++ [UInt8.ofNat (sumOf (innerB b).data.toList / 256), UInt8.ofNat (sumOf (innerB b).data.toList)]) := by
  obtain ⟨sm, hs⟩ : ∃ sm, sumOf (innerB b).data.toList = sm := ⟨_, rfl⟩
  unfold textB
  rw [hs]
  unfold innerB two kindB
  simp only [ByteArray.data_append, Array.toList_append]
  split <;> simp

theorem innerB_list (b : Blk) : (innerB b).data.toList = (if b.raw then 0 else 1) :: UInt8.ofNat (b.num / 256) :: UInt8.ofNat b.num :: UInt8.ofNat (b.size / 256) :: UInt8.ofNat b.size :: UInt8.ofNat (b.body.size / 256) :: UInt8.ofNat b.body.size :: b.body.data.toList := by
  unfold innerB two kindB
  simp only [ByteArray.data_append, Array.toList_append]
  split <;> simp

theorem pair_num {n : Nat} (h : n < 65536) : 256 * (UInt8.ofNat (n / 256)).toNat + (UInt8.ofNat n).toNat = n := by
  rw [UInt8.toNat_ofNat', UInt8.toNat_ofNat']
  omega

theorem ba_ext_l {s : ByteArray} {i j : Nat} {l : List UInt8} (h : (s.data.toList.take j).drop i = l) : (s.extract i j).data.toList = l := by
  rw [← h]
  simp [List.drop_take]

/-- Where a block's text stands, the block stands. -/
theorem pb_text {s X Y : ByteArray} {b : Blk} (h : s = X ++ textB b ++ Y) (hb : b.ok) : pbOk s X.size ∧ pbBlk s X.size = b ∧ pbEnd s X.size + 2 = X.size + (textB b).size := by
  have hs : s = X ++ (textB b ++ Y) := by rw [h, ByteArray.append_assoc]
  have hbody : b.body.size ≤ 64 := by
    obtain ⟨_, _, h3, h4⟩ := hb
    split at h4 <;> omega
  have hnum := hb.1
  have hsz := hb.2.2.1
  obtain ⟨sm, hsm⟩ : ∃ sm, sumOf (innerB b).data.toList = sm := ⟨_, rfl⟩
  have hsl : sm < 65536 := by rw [← hsm]; exact sumOf_lt _
  have hL := textB_list b
  have hI := innerB_list b
  rw [hsm] at hL
  have hZ : (textB b ++ Y).data.toList = (textB b).data.toList ++ Y.data.toList := by simp
  rw [hL] at hZ
  have hlen : b.body.data.toList.length = b.body.size := by simp
  have at_ : ∀ j, bAt s (X.size + j) = (textB b ++ Y).data.toList.getD j 0 := fun j => bAt_mid hs j
  rw [hZ] at at_
  have g0 : bAt s X.size = 181 := by have := at_ 0; simpa using this
  have g1 : bAt s (X.size + 1) = if b.raw then 0 else 1 := by have := at_ 1; simpa using this
  have g2 : bAt s (X.size + 2) = UInt8.ofNat (b.num / 256) := by have := at_ 2; simpa using this
  have g3 : bAt s (X.size + 3) = UInt8.ofNat b.num := by have := at_ 3; simpa using this
  have g4 : bAt s (X.size + 4) = UInt8.ofNat (b.size / 256) := by have := at_ 4; simpa using this
  have g5 : bAt s (X.size + 5) = UInt8.ofNat b.size := by have := at_ 5; simpa using this
  have g6 : bAt s (X.size + 6) = UInt8.ofNat (b.body.size / 256) := by have := at_ 6; simpa using this
  have g7 : bAt s (X.size + 7) = UInt8.ofNat b.body.size := by have := at_ 7; simpa using this
  have hn6 : numAt s (X.size + 6) = b.body.size := by unfold numAt; rw [g6, show X.size + 6 + 1 = X.size + 7 by omega, g7]; exact pair_num (by omega)
  have hn4 : numAt s (X.size + 4) = b.size := by unfold numAt; rw [g4, show X.size + 4 + 1 = X.size + 5 by omega, g5]; exact pair_num (by omega)
  have hn2 : numAt s (X.size + 2) = b.num := by unfold numAt; rw [g2, show X.size + 2 + 1 = X.size + 3 by omega, g3]; exact pair_num (by omega)
  have hend : pbEnd s X.size = X.size + (8 + b.body.size) := by unfold pbEnd; rw [hn6]; omega
  have htsz := textB_size b
  have hssz : s.size = X.size + (10 + b.body.size) + Y.size := by rw [h, ByteArray.size_append, ByteArray.size_append, htsz]
  have hbd : s.extract (X.size + 8) (pbEnd s X.size) = b.body := by
    rw [hend, extract_mid hs]
    apply ba_list
    apply ba_ext_l
    rw [hZ, Nat.add_comm 8]
    simp [hlen]
  have hin : s.extract (X.size + 1) (pbEnd s X.size) = innerB b := by
    rw [hend, extract_mid hs]
    apply ba_list
    rw [hI]
    apply ba_ext_l
    rw [hZ, Nat.add_comm 8]
    simp [hlen]
  have hck : numAt s (pbEnd s X.size) = sm := by
    rw [hend]
    unfold numAt
    have e1 := at_ (8 + b.body.size)
    have e2 := at_ (9 + b.body.size)
    have f1 : bAt s (X.size + (8 + b.body.size)) = UInt8.ofNat (sm / 256) := by
      rw [e1, Nat.add_comm 8]
      simp [List.getD_eq_getElem?_getD, hlen]
    have f2 : bAt s (X.size + (8 + b.body.size) + 1) = UInt8.ofNat sm := by
      rw [show X.size + (8 + b.body.size) + 1 = X.size + (9 + b.body.size) by omega, e2, show 9 + b.body.size = (b.body.size + 1) + 8 by omega]
      simp [List.getD_eq_getElem?_getD, hlen]
    rw [f1, f2]
    exact pair_num hsl
  have hraw : (bAt s (X.size + 1) == 0) = b.raw := by
    rw [g1]
    cases b.raw <;> rfl
  have hblk : pbBlk s X.size = b := by
    unfold pbBlk
    rw [hn2, hraw, hn4, hbd]
  refine ⟨⟨by omega, by rw [g0]; rfl, ?_, by omega, by rw [hblk]; exact hb, by rw [hin, hck, hsm]⟩, hblk, by omega⟩
  rw [g1]
  cases b.raw <;> decide

/-- Blocks with the numbers of their places. -/
def renumL : Nat → List Blk → List Blk
  | _, [] => []
  | i, b :: bs => renum i b :: renumL (i + 1) bs

theorem renumL_length (bs : List Blk) : ∀ i, (renumL i bs).length = bs.length := by
  induction bs with
  | nil => intro i; rfl
  | cons b bs ih => intro i; show (renumL (i + 1) bs).length + 1 = _; rw [ih]; rfl

theorem renumL_append (a b : List Blk) : ∀ i, renumL i (a ++ b) = renumL i a ++ renumL (i + a.length) b := by
  induction a with
  | nil => intro i; simp [renumL]
  | cons x xs ih =>
    intro i
    show renum i x :: renumL (i + 1) (xs ++ b) = renum i x :: renumL (i + 1) xs ++ renumL (i + (xs.length + 1)) b
    rw [ih (i + 1), show i + 1 + xs.length = i + (xs.length + 1) from by omega]; rfl

theorem renumL_szs (bs : List Blk) : ∀ i, szs (renumL i bs) = szs bs := by
  induction bs with
  | nil => intro i; rfl
  | cons b bs ih => intro i; show b.size + szs (renumL (i + 1) bs) = _; rw [ih]; rfl

theorem textsFrom_renumL (bs : List Blk) : ∀ i, textsFrom i (renumL i bs) = textsFrom i bs := by
  induction bs with
  | nil => intro i; rfl
  | cons b bs ih =>
    intro i
    show textB (renum i (renum i b)) ++ textsFrom (i + 1) (renumL (i + 1) bs) = _
    rw [ih]; rfl

theorem renumL_get (bs : List Blk) : ∀ (i j : Nat), (renumL i bs)[j]? = (bs[j]?).map (renum (i + j)) := by
  induction bs with
  | nil => intro i j; simp [renumL]
  | cons b bs ih =>
    intro i j
    cases j with
    | zero => simp [renumL]
    | succ j =>
      show (renumL (i + 1) bs)[j]? = _
      rw [ih, List.getElem?_cons_succ, show i + 1 + j = i + (j + 1) by omega]

theorem renumL_self {bs : List Blk} (h : Numbered bs) : renumL 0 bs = bs := by
  apply List.ext_getElem?
  intro j
  rw [renumL_get, Nat.zero_add]
  cases hj : bs[j]? with
  | none => rfl
  | some b => simp [renum_self (h j b hj).1]

/-- The text of blocks is a container of them. -/
theorem contB_texts {bs : List Blk} (hok : ∀ b ∈ bs, b.okb) (h40 : bs.length ≤ 40) (hz : szs bs ≤ 2000) : contB (textsFrom 0 bs) = some (renumL 0 bs) := by
  have main : ∀ (post pre : List Blk), bs = pre ++ post → conts (textsFrom 0 bs) (textsFrom 0 pre).size (renumL 0 pre) = some (renumL 0 bs) := by
    intro post
    induction post with
    | nil =>
      intro pre e
      rw [List.append_nil] at e
      subst e
      rw [conts_end (Nat.le_refl _), if_pos (by rw [renumL_szs]; exact hz)]
    | cons b post ih =>
      intro pre e
      have hpl : pre.length < 40 := by
        have := congrArg List.length e
        rw [List.length_append, List.length_cons] at this
        omega
      have hb : b.okb := hok b (by rw [e]; simp)
      have hbo := Blk.ok_of hb hpl
      have ht : textsFrom 0 bs = textsFrom 0 pre ++ textB (renum pre.length b) ++ textsFrom (pre.length + 1) post := by
        rw [e, textsFrom_append, Nat.zero_add, ByteArray.append_assoc]; rfl
      obtain ⟨p1, p2, p3⟩ := pb_text ht hbo
      have hlt := pbOk_lt p1
      rw [conts_next hlt p1 (by rw [p2, renumL_length]; rfl), p2, p3]
      have e2 : (textsFrom 0 (pre ++ [b])).size = (textsFrom 0 pre).size + (textB (renum pre.length b)).size := by
        rw [textsFrom_snoc, Nat.zero_add, ByteArray.size_append]
      have e3 : renumL 0 (pre ++ [b]) = renumL 0 pre ++ [renum pre.length b] := by
        rw [renumL_append, Nat.zero_add]; rfl
      rw [← e2, ← e3]
      exact ih (pre ++ [b]) (by rw [e]; simp)
  exact main bs [] rfl

end Go.Proofs.YthlgpgaeajfchaaGreatDoor
