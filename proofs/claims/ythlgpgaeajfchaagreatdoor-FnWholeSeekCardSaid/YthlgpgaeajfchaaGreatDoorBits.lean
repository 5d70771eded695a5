/-
  The reference's l1Code: a code's bits.
  Bits and bytes: the number that bits make, bits filled up with zeros, bits in bytes; the reference's l1Number, l1Pad and l1Pack.
  Numbers of digits place by place: plain facts for the program's way with bits.
-/
import Derived.Test.YthlgpgaeajfchaaGreatDoorWordsC
import Derived.Test.YthlgpgaeajfchaaGreatDoorBlockText
import Derived.Test.YthlgpgaeajfchaaGreatDoorBase

namespace Go.Proofs.YthlgpgaeajfchaaGreatDoor
open Go.RowKit
set_option linter.unusedVariables false

/-- Bit i of a code as a digit. -/
def bitC (c i : Nat) : UInt8 := UInt8.ofNat (48 + c / 2 ^ i % 2)

/-- The bits of a code with a width, in an order. -/
def codeL (o c w : Nat) : List UInt8 := if o = 0 then (List.range w).map (bitC c) else ((List.range w).map (bitC c)).reverse

theorem codeL_length (o c w : Nat) : (codeL o c w).length = w := by unfold codeL; split <;> simp

theorem codeL_zero (o c : Nat) : codeL o c 0 = [] := by unfold codeL; split <;> simp

theorem codeL_succ (o c w : Nat) : codeL o c (w + 1) = if o = 0 then codeL o c w ++ [bitC c w] else bitC c w :: codeL o c w := by
  unfold codeL
  split
  · rw [range_snoc]
  · rw [range_snoc, List.reverse_append]; rfl

set_option maxHeartbeats 4000000 in
theorem specL1Code (o c wd : Nat) (w : World) (hc : c ≤ 100000) (hw : wd ≤ 20) (ho : o ≤ 1) :
    Calls Tryz.prog 175 #[.int .i64 (o : Int), .int .i64 (c : Int), .int .i64 (wd : Int)] w fun e w' => e = .returned (.string (bsL (codeL o c wd))) ∧ Below w.heap.size w w' := by
  go_enter Tryz.func175, Tryz.ntmps175
  go_wp2_with fail
  go_loopw [7, 8] (fun u v wr => ∃ i : Nat, u = .string (bsL (codeL o c i)) ∧ v = .int .i64 (i : Int) ∧ i ≤ wd ∧ Below w.heap.size w wr) (fun _ v _ => wd - (intOf v).toNat)
  case atStart => exact ⟨0, by rw [codeL_zero], rfl, Nat.zero_le _, Below.refl _ _⟩
  case round =>
    obtain ⟨i, rfl, rfl, hi, hb⟩ := hrel
    by_cases h1 : (i : Int) < wd
    · have i0 : (0 : Int) ≤ i := by omega
      obtain ⟨q, hq⟩ : ∃ q, c / 2 ^ i = q := ⟨_, rfl⟩
      have hqi : (c : Int) / 2 ^ i = (q : Int) := by rw [← hq]; simp
      have hqc : q ≤ c := by rw [← hq]; exact Nat.div_le_self _ _
      obtain ⟨r, hr⟩ : ∃ r, q % 2 = r := ⟨_, rfl⟩
      have hr2 : r < 2 := by omega
      have hand : bits .and .i64 (q : Int) 1 = (r : Int) := by
        have := i64_and_nat q 1 (by omega) (by omega)
        rw [Nat.and_one_is_mod, hr] at this
        exact this
      obtain ⟨x, hx⟩ : ∃ x : Nat, (48 : Int) + r = x := ⟨48 + r, by omega⟩
      have hxc : UInt8.ofNat x = bitC c i := by unfold bitC; rw [hq, hr]; congr 1; omega
      have hx2 : x < 256 := by omega
      have wu : IntKind.u64.wrap (i : Int) = i := by
        have : i < 256 := by omega
        have h : ∀ y : Fin 256, IntKind.u64.wrap ((y.val : Nat) : Int) = ((y.val : Nat) : Int) := by decide +kernel
        exact h ⟨i, this⟩
      have wx : IntKind.u8.wrap (x : Int) = x := u8_in x hx2
      have wx2 : IntKind.i64.wrap (x : Int) = x := IntWalk.i64_in _ (by omega)
      have hcv := run_one_byte (P := Tryz.prog) Tryz.underlying22 Tryz.underlying5 Tryz.underlying9 x hx2
      have hxc2 : (⟨#[UInt8.ofNat x]⟩ : ByteArray) = bsL [bitC c i] := by rw [hxc]
      rw [hxc2] at hcv
      replace hxc := Lib.hid hxc
      have hlen := codeL_length o c i
      have hsucc := codeL_succ o c i
      obtain ⟨L, hL⟩ : ∃ L, codeL o c i = L := ⟨_, rfl⟩
      rw [hL] at hlen hsucc ⊢
      clear hq hr hL hqc hr2 hxc2
      by_cases h0 : o = 0
      · rw [if_pos h0] at hsucc
        have hadd : ∀ W, (Op.stringOp .add (bsL L) (bsL [bitC c i])).run Tryz.prog W = .ok (.string (bsL (L ++ [bitC c i]))) W := fun W => by
          rw [run_string_add_sum W _ _ (by rw [bsL_size, bsL_size, hlen]; simp; omega), bsL_append]
        obtain ⟨T, hT⟩ : ∃ T, bsL [bitC c i] = T := ⟨_, rfl⟩
        rw [hT] at hadd hcv
        replace hsucc := Lib.hid hsucc
        subst h0
        clear hT
        go_wp2_with fail
        go_roundw
        case rel => exact ⟨i + 1, by rw [hsucc.out], by go_num, by omega, hb.alloc hb.size _⟩
        case measure => simp [intOf]; omega
      · have h0' : ((o : Int) == 0) = false := by rw [beq_eq_false_iff_ne]; omega
        rw [if_neg h0] at hsucc
        have hadd : ∀ W, (Op.stringOp .add (bsL [bitC c i]) (bsL L)).run Tryz.prog W = .ok (.string (bsL (bitC c i :: L))) W := fun W => by
          rw [run_string_add_sum W _ _ (by rw [bsL_size, bsL_size, hlen]; simp; omega), bsL_append]; rfl
        obtain ⟨T, hT⟩ : ∃ T, bsL [bitC c i] = T := ⟨_, rfl⟩
        rw [hT] at hadd hcv
        replace hsucc := Lib.hid hsucc
        clear hT h0
        go_wp2_with fail
        go_roundw
        case rel => exact ⟨i + 1, by rw [hsucc.out], by go_num, by omega, hb.alloc hb.size _⟩
        case measure => simp [intOf]; omega
    · obtain rfl : i = wd := by omega
      go_wp2_with fail
      go_ret
      exact ⟨rfl, hb⟩

end Go.Proofs.YthlgpgaeajfchaaGreatDoor

namespace Go.Proofs.YthlgpgaeajfchaaGreatDoor
open Go.RowKit
set_option linter.unusedVariables false

/-- The number that digits make, the highest one first. -/
def numL (l : List UInt8) : Nat := l.foldl (fun n b => 2 * n + (b.toNat - 48)) 0

/-- The number that digits make in an order. -/
def numO (o : Nat) (l : List UInt8) : Nat := numL (if o = 0 then l.reverse else l)

/-- Digits of bits. -/
def Digs (l : List UInt8) : Prop := ∀ b ∈ l, 48 ≤ b.toNat ∧ b.toNat ≤ 49

theorem numL_snoc (l : List UInt8) (b : UInt8) : numL (l ++ [b]) = 2 * numL l + (b.toNat - 48) := by
  unfold numL; rw [List.foldl_append]; rfl

theorem numL_lt : ∀ (n : Nat) (l : List UInt8), l.length = n → Digs l → numL l < 2 ^ n := by
  intro n
  induction n with
  | zero =>
    intro l hl _
    rw [List.eq_nil_of_length_eq_zero hl]
    decide
  | succ n ih =>
    intro l hl hd
    have hne : l ≠ [] := by intro h; subst h; simp at hl
    have e := List.dropLast_concat_getLast hne
    rw [← e, numL_snoc]
    have h1 := ih l.dropLast (by rw [List.length_dropLast]; omega) (fun b hb => hd b (List.dropLast_subset _ hb))
    have h2 := hd (l.getLast hne) (List.getLast_mem hne)
    rw [Nat.pow_succ]
    omega

theorem digs_take {l : List UInt8} (h : Digs l) (n : Nat) : Digs (l.take n) := fun b hb => h b (List.mem_of_mem_take hb)

theorem digs_drop {l : List UInt8} (h : Digs l) (n : Nat) : Digs (l.drop n) := fun b hb => h b (List.mem_of_mem_drop hb)

theorem digs_rev {l : List UInt8} (h : Digs l) : Digs l.reverse := fun b hb => h b (List.mem_reverse.1 hb)

theorem digs_append {a b : List UInt8} (ha : Digs a) (hb : Digs b) : Digs (a ++ b) := fun x hx => by
  rcases List.mem_append.1 hx with h | h
  · exact ha x h
  · exact hb x h

theorem bitC_digs (c i : Nat) : 48 ≤ (bitC c i).toNat ∧ (bitC c i).toNat ≤ 49 := by
  unfold bitC
  rw [UInt8.toNat_ofNat']
  omega

theorem codeL_digs (o c w : Nat) : Digs (codeL o c w) := by
  have h : Digs ((List.range w).map (bitC c)) := by
    intro b hb
    obtain ⟨i, _, rfl⟩ := List.mem_map.1 hb
    exact bitC_digs c i
  unfold codeL
  split
  · exact h
  · exact digs_rev h

set_option maxHeartbeats 1000000 in
theorem specL1Number (o : Nat) (s : ByteArray) (w : World) (ho : o ≤ 1) (hs : s.size ≤ 20) (hd : Digs s.data.toList) :
    Calls Tryz.prog 173 #[.int .i64 (o : Int), .string s] w fun e w' => e = .returned (.int .i64 (numO o s.data.toList : Int)) ∧ w = w' := by
  obtain ⟨l, hl⟩ : ∃ l, (if o = 0 then s.data.toList.reverse else s.data.toList) = l := ⟨_, rfl⟩
  have hle : numO o s.data.toList = numL l := by unfold numO; rw [hl]
  have hll : l.length = s.size := by rw [← hl]; split <;> simp
  have hld : Digs l := by rw [← hl]; split; exact digs_rev hd; exact hd
  rw [hle]
  replace hl := Lib.hid hl
  replace hd := Lib.hid hd
  replace hll := Lib.hid hll
  replace hld := Lib.hid hld
  clear hle
  go_enter Tryz.func173, Tryz.ntmps173
  go_wp2_with fail
  go_loopw [5, 6] (fun u v wr => ∃ i n : Nat, u = .int .i64 (n : Int) ∧ v = .int .i64 (i : Int) ∧ i ≤ s.size ∧ Hid (n = numL (l.take i)) ∧ wr = w) (fun _ v _ => s.size - (intOf v).toNat)
  case atStart => exact ⟨0, 0, rfl, rfl, Nat.zero_le _, Lib.hid rfl, rfl⟩
  case round =>
    obtain ⟨i, n, rfl, rfl, hi, hn, rfl⟩ := hrel
    by_cases h1 : i < s.size
    · have hnb : n ≤ 1048576 := by
        have h2 := numL_lt i (l.take i) (by rw [List.length_take, hll.out]; omega) (digs_take hld.out i)
        have h3 : 2 ^ i ≤ 2 ^ 20 := Nat.pow_le_pow_right (by omega) (by omega)
        rw [← hn.out] at h2
        omega
      have hil : i < l.length := by rw [hll.out]; exact h1
      obtain ⟨k, hk⟩ : ∃ k, k = (if o = 0 then s.size - 1 - i else i) := ⟨_, rfl⟩
      have hks : k < s.size := by rw [hk]; split <;> omega
      obtain ⟨x, hx⟩ : ∃ x, s[k].toNat = x := ⟨_, rfl⟩
      have hxl : l[i].toNat = x := by
        rw [← hx]
        congr 1
        have hlo := hl.out
        subst hk
        by_cases h0 : o = 0
        · rw [if_pos h0] at hlo
          subst hlo
          simp [h0, ByteArray.getElem_eq_getElem_data, List.getElem_reverse]
        · rw [if_neg h0] at hlo
          subst hlo
          simp [h0, ByteArray.getElem_eq_getElem_data]
      have hxd := hld.out l[i] (List.getElem_mem hil)
      rw [hxl] at hxd
      have hn2 : numL (l.take (i + 1)) = 2 * n + (x - 48) := by
        rw [List.take_succ_eq_append_getElem hil, numL_snoc, ← hn.out, hxl]
      obtain ⟨m, hm⟩ : ∃ m : Nat, m = 2 * n + (x - 48) := ⟨_, rfl⟩
      have em : (2 : Int) * n + x - 48 = m := by omega
      have HN : Hid (m = numL (l.take (i + 1))) := Lib.hid (by rw [hn2, hm])
      clear hxl hn2 hm
      by_cases h0 : o = 0
      · rw [if_pos h0] at hk
        have ek : (s.size : Int) - 1 - i = k := by omega
        subst h0
        clear hk
        go_wp2_with fail
        go_roundw
        case rel => exact ⟨i + 1, m, by go_num, by go_num, by omega, HN, trivial⟩
        case measure => simp [intOf]; omega
      · rw [if_neg h0] at hk
        have h0' : ((o : Int) == 0) = false := by rw [beq_eq_false_iff_ne]; omega
        subst hk
        clear h0
        go_wp2_with fail
        go_roundw
        case rel => exact ⟨k + 1, m, by go_num, by go_num, by omega, HN, trivial⟩
        case measure => simp [intOf]; omega
    · have hne : numL l = n := by
        have h2 := hn.out
        rw [List.take_of_length_le (by rw [hll.out]; omega)] at h2
        exact h2.symm
      replace hne := Lib.hid hne
      go_wp2_with fail
      go_ret
      exact ⟨ret_int (by rw [hne.out]), rfl⟩

/-- Bits filled up with zeros to whole bytes. -/
def padL (l : List UInt8) : List UInt8 := l ++ List.replicate ((8 - l.length % 8) % 8) 48

theorem padL_digs {l : List UInt8} (h : Digs l) : Digs (padL l) := digs_append h (fun b hb => by
  have := (List.mem_replicate.1 hb).2
  subst this
  decide)

theorem padL_length (l : List UInt8) : (padL l).length = 8 * ((l.length + 7) / 8) := by
  unfold padL
  rw [List.length_append, List.length_replicate]
  omega

theorem ba_ext2 {a b : ByteArray} (h : a.data.toList = b.data.toList) : a = b := ByteArray.ext (Array.toList_inj.1 h)

theorem repB_list (b : UInt8) (n : Nat) : (repB ⟨#[b]⟩ n).data.toList = List.replicate n b := by
  induction n with
  | zero => rfl
  | succ n ih => rw [List.replicate_succ, ← ih]; rfl

set_option maxHeartbeats 1000000 in
theorem specL1Pad (l : List UInt8) (w : World) (hl : l.length ≤ 100000) :
    Calls Tryz.prog 172 #[.string (bsL l)] w fun e w' => e = .returned (.string (bsL (padL l))) ∧ w = w' := by
  obtain ⟨s, hs⟩ : ∃ s, bsL l = s := ⟨_, rfl⟩
  have hsz : s.size = l.length := by rw [← hs]; rfl
  obtain ⟨q, hq⟩ : ∃ q, s.size % 8 = q := ⟨_, rfl⟩
  have hq8 : q < 8 := by omega
  have eq : (s.size : Int) % 8 = q := by omega
  obtain ⟨p, hp⟩ : ∃ p, (8 - q) % 8 = p := ⟨_, rfl⟩
  have ep : ((8 : Int) - q) % 8 = p := by omega
  have hp8 : p < 8 := by omega
  have H := fun W => specL9Many ⟨#[48]⟩ (p : Int) W (by decide) (by omega) (by show 1 * _ ≤ _; omega)
  have e2 : (p : Int).toNat = p := by omega
  rw [e2] at H
  obtain ⟨r, hr⟩ : ∃ r, repB ⟨#[48]⟩ p = r := ⟨_, rfl⟩
  have hrl : r.data.toList = List.replicate p 48 := by rw [← hr, repB_list]
  have hrs : r.size ≤ 8 := by
    have := congrArg List.length hrl
    simp at this
    omega
  rw [hr] at H
  have hadd : ∀ W, (Op.stringOp .add s r).run Tryz.prog W = .ok (.string (s ++ r)) W := fun W => run_string_add_sum W _ _ (by omega)
  have hres : bsL (padL l) = s ++ r := by
    apply ba_ext2
    rw [ByteArray.data_append, Array.toList_append, hrl, ← hs]
    show (padL l) = _
    unfold padL
    rw [← hsz, hq, hp]
  rw [hs]
  have ep2 : (-(q : Int)) % 8 = p := by omega
  replace H := Lib.hid H
  replace hres := Lib.hid hres
  have hsl : s.size ≤ 100000 := by omega
  clear e2 hr hrl hsz hp hq hl hs
  go_enter Tryz.func172, Tryz.ntmps172
  go_wp2_with fail
  refine (H.out _).mono ?_
  rintro e w1 ⟨rfl, rfl⟩
  go_wp2_with fail
  go_ret
  exact ⟨ret_str hres.out.symm, rfl⟩

/-- Bits in bytes. -/
def packL (o : Nat) (l : List UInt8) : List UInt8 := (List.range ((padL l).length / 8)).map fun i => UInt8.ofNat (numO o (((padL l).drop (8 * i)).take 8))

theorem packL_length (o : Nat) (l : List UInt8) : (packL o l).length = (l.length + 7) / 8 := by
  unfold packL
  rw [List.length_map, List.length_range, padL_length]
  omega

theorem numO_lt {l : List UInt8} (o n : Nat) (h : l.length = n) (hd : Digs l) : numO o l < 2 ^ n := by
  unfold numO
  split
  · exact numL_lt n _ (by simpa using h) (digs_rev hd)
  · exact numL_lt n _ h hd

/-- Byte i of packed bits. -/
def packAt (o : Nat) (p : List UInt8) (i : Nat) : UInt8 := UInt8.ofNat (numO o ((p.drop (8 * i)).take 8))

theorem bsL_part (l : List UInt8) (i j : Nat) : (bsL l).extract i j = bsL ((l.drop i).take (j - i)) := by
  apply ba_ext2
  simp [ByteArray.data_extract]

set_option maxHeartbeats 2000000 in
theorem specL1Pack (o : Nat) (l : List UInt8) (w : World) (ho : o ≤ 1) (hl : l.length ≤ 50000) (hd : Digs l) :
    Calls Tryz.prog 158 #[.int .i64 (o : Int), .string (bsL l)] w fun e w' => e = .returned (.string (bsL (packL o l))) ∧ Below w.heap.size w w' := by
  have HP := fun W => specL1Pad l W (by omega)
  have hpl := padL_length l
  have hpd := padL_digs hd
  have hres : packL o l = (List.range ((padL l).length / 8)).map (packAt o (padL l)) := rfl
  obtain ⟨p, hp⟩ : ∃ p, padL l = p := ⟨_, rfl⟩
  rw [hp] at HP hpl hpd hres
  obtain ⟨m, hm⟩ : ∃ m, (l.length + 7) / 8 = m := ⟨_, rfl⟩
  have hmb : m ≤ 10000 := by omega
  rw [hm] at hpl
  have hpm : p.length / 8 = m := by omega
  rw [hpm] at hres
  obtain ⟨s, hs⟩ : ∃ s, bsL p = s := ⟨_, rfl⟩
  have hss : s.size = 8 * m := by rw [← hs, bsL_size]; exact hpl
  have ez : (s.size : Int) / 8 = m := by omega
  have hsz : s.size ≤ 100000 := by omega
  obtain ⟨sl, hsl⟩ : ∃ x, bsL l = x := ⟨_, rfl⟩
  rw [hs] at HP
  rw [hsl] at HP ⊢
  replace HP := Lib.hid HP
  replace hres := Lib.hid hres
  replace hpd := Lib.hid hpd
  replace hs := Lib.hid hs
  replace hpl := Lib.hid hpl
  replace hss := Lib.hid hss
  clear hp hpm hm hsl hl hd
  have hmk := fun W => run_make_row' (P := Tryz.prog) 22 5 (.int .u8 0) 1 Tryz.underlying22 infoByte rfl .i64 .i64 m (by omega) (by omega) W
  go_enter Tryz.func158, Tryz.ntmps158
  go_wp2_with fail
  refine (HP.out _).mono ?_
  rintro e w1 ⟨rfl, rfl⟩
  go_wp2_with fail
  clear hmk
  go_loopw [7] (fun v wr => ∃ i : Nat, v = .int .i64 (i : Int) ∧ i ≤ m ∧ Hid (wr.rowIs w.heap.size 5 m (fun j => byteV (if j < i then packAt o p j else 0))) ∧ Hid (Below w.heap.size w wr)) (fun v _ => m - (intOf v).toNat)
  case atStart => exact ⟨0, rfl, Nat.zero_le _, Lib.hid ((World.rowIs_made _ _ _ _).congr (fun i _ => by simp [byteV])), Lib.hid ((Below.refl _ _).alloc (Nat.le_refl _) _)⟩
  case round =>
    obtain ⟨i, rfl, hi, hrow, hbel⟩ := hrel
    by_cases h1 : i < m
    · obtain ⟨j, hj⟩ : ∃ j, 8 * i = j := ⟨_, rfl⟩
      obtain ⟨j2, hj2⟩ : ∃ j2, j + 8 = j2 := ⟨_, rfl⟩
      have ej : (8 : Int) * i = j := by omega
      have ej2 : (j : Int) + 8 = j2 := by omega
      have hjs : j2 ≤ s.size := by rw [hss.out]; omega
      have hjj : j ≤ j2 := by omega
      obtain ⟨t, ht⟩ : ∃ t, s.extract j j2 = t := ⟨_, rfl⟩
      have htl : t.data.toList = (p.drop (8 * i)).take 8 := by
        rw [← ht, ← hs.out, bsL_part, hj, show j2 - j = 8 by omega]
      have htz : t.size = 8 := by
        have h2 := congrArg List.length htl
        have h3 := hpl.out
        rw [List.length_take, List.length_drop] at h2
        have h4 : t.data.toList.length = t.size := by simp
        omega
      have htd : Digs t.data.toList := by rw [htl]; exact digs_take (digs_drop hpd.out _) _
      have HN := fun W => specL1Number o t W ho (by omega) htd
      have hlt := numO_lt o 8 (l := t.data.toList) (by simpa using htz) htd
      obtain ⟨v, hv⟩ : ∃ v, numO o t.data.toList = v := ⟨_, rfl⟩
      rw [hv] at HN hlt
      have hva : packAt o p i = UInt8.ofNat v := by unfold packAt; rw [← htl, hv]
      have hvb : v < 256 := hlt
      have wv : IntKind.u8.wrap (v : Int) = v := u8_in v hvb
      have hcj := hrow.out.cell (i := i) h1
      have hfj := hrow.out.frozen i
      have hbv : byteV (packAt o p i) = .int .u8 (v : Int) := by rw [hva]; unfold byteV; rw [UInt8.toNat_ofNat']; simp; omega
      have hset := hrow.out.set i (.int .u8 (v : Int))
      have hnew : (wr.setCell ⟨w.heap.size, i, none⟩ (.int .u8 (v : Int))).rowIs w.heap.size 5 m (fun j => byteV (if j < i + 1 then packAt o p j else 0)) := by
        refine hset.congr fun q hq => ?_
        by_cases hqi : q = i
        · subst hqi
          rw [if_pos rfl, if_pos (by omega), hbv]
        · rw [if_neg hqi]
          by_cases h2 : q < i
          · rw [if_pos h2, if_pos (by omega)]
          · rw [if_neg h2, if_neg (by omega)]
      have hcz : wr.cell? ⟨w.heap.size, i, none⟩ = some (.int .u8 0) := by rw [hcj]; simp [byteV]
      have HB : Hid (Below w.heap.size w (wr.setCell ⟨w.heap.size, i, none⟩ (.int .u8 (v : Int)))) := Lib.hid (hbel.out.setCell (Nat.le_refl _) _)
      replace HN := Lib.hid HN
      replace hnew := Lib.hid hnew
      clear htl htz htd hlt hv hva hbv hset hcj hj hj2
      go_wp2_with fail
      refine (HN.out _).mono ?_
      rintro e w1 ⟨rfl, rfl⟩
      go_wp2_with fail
      go_roundw
      case rel => exact ⟨i + 1, by go_num, by omega, hnew, HB⟩
      case measure => simp [intOf]; omega
    · obtain rfl : i = m := by omega
      have hr : wr.rowIs w.heap.size 5 i (fun j => byteV (packAt o p j)) := hrow.out.congr (fun q hq => by rw [if_pos hq])
      obtain ⟨bs, hbs⟩ : ∃ bs : List UInt8, bs = (List.range i).map (packAt o p) := ⟨_, rfl⟩
      have hbl : bs.length = i := by rw [hbs]; simp
      have hcv := run_convert_bytes_back (P := Tryz.prog) wr 22 9 5 ⟨w.heap.size, 0, none⟩ i bs Tryz.underlying22 Tryz.underlying5 Tryz.underlying9 (fun j hj => by
        rw [addr_add, Nat.zero_add, hr.cell (by omega)]
        simp [byteV, hbs])
      rw [hbl] at hcv
      have HB := Lib.hid (show bs = packL o l by rw [hres.out, hbs])
      clear hr hbs hbl h1
      go_wp2_with fail
      go_ret
      exact ⟨ret_str (by rw [← HB.out]), hbel.out⟩

end Go.Proofs.YthlgpgaeajfchaaGreatDoor

namespace Go.Proofs.YthlgpgaeajfchaaGreatDoor
set_option linter.unusedVariables false

/-- The place of a digit. -/
def plc (o i w : Nat) : Nat := if o = 0 then i else w - 1 - i

theorem codeL_get {o c w i : Nat} (h : i < w) : (codeL o c w)[i]? = some (bitC c (plc o i w)) := by
  unfold codeL plc
  split
  · simp [h]
  · rw [List.getElem?_reverse (by simpa using h), List.length_map, List.length_range, List.getElem?_map, List.getElem?_range (by omega)]
    rfl

theorem codeL_take_succ {o c w i : Nat} (h : i < w) : (codeL o c w).take (i + 1) = (codeL o c w).take i ++ [bitC c (plc o i w)] := by
  have hl : i < (codeL o c w).length := by rw [codeL_length]; exact h
  rw [List.take_succ_eq_append_getElem hl]
  congr 2
  have := codeL_get (o := o) (c := c) h
  rw [List.getElem?_eq_getElem hl] at this
  injection this

theorem foldl_num : ∀ (l : List UInt8) (n : Nat), l.foldl (fun n b => 2 * n + (b.toNat - 48)) n = n * 2 ^ l.length + numL l := by
  intro l
  induction l with
  | nil => intro n; simp [numL]
  | cons b l ih2 =>
    intro n
    unfold numL
    rw [List.foldl_cons, List.foldl_cons, ih2, ih2, List.length_cons, Nat.pow_succ]
    have e1 : (2 * n + (b.toNat - 48)) * 2 ^ l.length = n * (2 ^ l.length * 2) + (b.toNat - 48) * 2 ^ l.length := by
      rw [Nat.add_mul, Nat.mul_comm 2 n, Nat.mul_assoc, Nat.mul_comm 2]
    rw [e1]
    simp only [Nat.mul_zero, Nat.zero_add]
    omega

theorem numL_cons (b : UInt8) (l : List UInt8) : numL (b :: l) = (b.toNat - 48) * 2 ^ l.length + numL l := by
  show List.foldl _ (2 * 0 + (b.toNat - 48)) l = _
  rw [foldl_num]
  simp

/-- The number of the first i digits among w, place by place. -/
def part (o w : Nat) (l : List UInt8) (i : Nat) : Nat := if o = 0 then numL (l.take i).reverse else numL (l.take i) * 2 ^ (w - i)

theorem part_zero (o w : Nat) (l : List UInt8) : part o w l 0 = 0 := by unfold part; split <;> simp [numL]

theorem part_all {o w : Nat} {l : List UInt8} (h : l.length = w) : part o w l w = numO o l := by
  unfold part numO
  split
  · rw [List.take_of_length_le (by omega)]
  · rw [List.take_of_length_le (by omega)]; simp

theorem part_succ {o w i : Nat} {l : List UInt8} (hl : l.length = w) (h : i < w) : part o w l (i + 1) = part o w l i + ((l[i]'(by omega)).toNat - 48) * 2 ^ plc o i w := by
  unfold part plc
  rw [List.take_succ_eq_append_getElem (by omega)]
  split
  · rw [List.reverse_append]
    show numL (l[i] :: (l.take i).reverse) = _
    rw [numL_cons, List.length_reverse, List.length_take, Nat.min_eq_left (by omega)]
    omega
  · rw [numL_snoc, Nat.add_mul, show w - 1 - i = w - (i + 1) by omega]
    congr 1
    rw [show w - i = (w - (i + 1)) + 1 by omega, Nat.pow_succ]
    rw [Nat.mul_comm 2, Nat.mul_assoc, Nat.mul_comm 2]

/-- Digits of 0 add nothing. -/
theorem part_pad {o w : Nat} {l : List UInt8} (hl : l.length = w) {m : Nat} (hz : ∀ (i : Nat) (b : UInt8), m ≤ i → l[i]? = some b → b = 48) : ∀ n, m ≤ n → n ≤ w → part o w l n = part o w l m := by
  intro n
  induction n with
  | zero =>
    intro h1 h2
    obtain rfl : m = 0 := by omega
    rfl
  | succ n ih =>
    intro h1 h2
    by_cases h : m = n + 1
    · rw [h]
    · have h3 : n < w := by omega
      have h4 := hz n _ (by omega) (List.getElem?_eq_getElem (by omega))
      have h5 : (48 : UInt8).toNat - 48 = 0 := rfl
      rw [part_succ hl h3, ih (by omega) (by omega), h4, h5, Nat.zero_mul]
      rfl

theorem part_lt {o w i : Nat} {l : List UInt8} (hl : l.length = w) (hd : Digs l) (h : i ≤ w) : part o w l i < 2 ^ w := by
  unfold part
  split
  · have h1 := numL_lt i (l.take i).reverse (by rw [List.length_reverse, List.length_take]; omega) (digs_rev (digs_take hd i))
    have h2 : 2 ^ i ≤ 2 ^ w := Nat.pow_le_pow_right (by omega) h
    omega
  · have h1 := numL_lt i (l.take i) (by rw [List.length_take]; omega) (digs_take hd i)
    have h2 : 2 ^ w = 2 ^ i * 2 ^ (w - i) := by rw [← Nat.pow_add]; congr 1; omega
    rw [h2]
    exact Nat.mul_lt_mul_of_pos_right h1 (Nat.two_pow_pos _)

/-- A byte that is made of what there is of its digits. -/
theorem packAt_part {o : Nat} {l : List UInt8} (h : Digs l) {i : Nat} (hi : i < (l.length + 7) / 8) :
    numO o (((padL l).drop (8 * i)).take 8) = part o 8 (((padL l).drop (8 * i)).take 8) (min 8 (l.length - 8 * i)) := by
  have hp := padL_length l
  have hlen : (((padL l).drop (8 * i)).take 8).length = 8 := by rw [List.length_take, List.length_drop]; omega
  rw [← part_all hlen]
  refine part_pad hlen ?_ 8 (by omega) (Nat.le_refl _)
  intro j b hj hb
  rw [List.getElem?_take] at hb
  split at hb
  · rw [List.getElem?_drop] at hb
    unfold padL at hb
    rw [List.getElem?_append_right (by omega)] at hb
    exact List.eq_of_mem_replicate (List.mem_of_getElem? hb)
  · cases hb

theorem pad_digit {l : List UInt8} {i j : Nat} (h : j < min 8 (l.length - 8 * i)) : (((padL l).drop (8 * i)).take 8)[j]? = l[8 * i + j]? := by
  rw [List.getElem?_take, if_pos (by omega), List.getElem?_drop]
  unfold padL
  rw [List.getElem?_append_left (by omega)]

end Go.Proofs.YthlgpgaeajfchaaGreatDoor
