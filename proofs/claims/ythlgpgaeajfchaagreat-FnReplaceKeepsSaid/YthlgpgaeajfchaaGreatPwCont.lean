/-
 Slices of blocks in memory; the contracts of sizeOf and ContainerBlocks of the program.
-/
import Derived.Test.YthlgpgaeajfchaaGreatPwBlockText

namespace Go.Proofs.YthlgpgaeajfchaaGreat
open Go.RowKit
set_option linter.unusedVariables false
attribute [local go_sem ↓] Go.wp_at_zero Go.wp_at_succ

def numAt (s : ByteArray) (i : Nat) : Nat := 256 * (bAt s i).toNat + (bAt s (i + 1)).toNat

theorem numAt_lt (s : ByteArray) (i : Nat) : numAt s i < 65536 := by
 have h1 := UInt8.toNat_lt (bAt s i)
 have h2 := UInt8.toNat_lt (bAt s (i + 1))
 unfold numAt; omega

theorem implNumAt (s : ByteArray) (i : Nat) (a : Int) (w : World) (ha : a = i) (hs : s.size ≤ 1048576) (hi : i + 1 < s.size) :
  Calls Tryz.prog 108 #[.string s, .int .i64 a] w fun e w' => e = .returned (.int .i64 ((numAt s i : Nat) : Int)) ∧ w.drew = w' := by
 refine (implNumberAtD s i a w ha hs hi).mono ?_
 rintro e w' ⟨rfl, hd⟩
 exact ⟨ret_int (by unfold numAt; omega), hd⟩

theorem specPairAt (s : ByteArray) (w : World) (hs : s.size ≤ 1048576) (hi : 1 < s.size) :
  Calls Tryz.prog 127 #[.string s] w fun e w' => e = .returned (.int .i64 ((numAt s 0 : Nat) : Int)) ∧ w.drew = w' := by
 refine (specL5PairD s w hs hi).mono ?_
 rintro e w' ⟨rfl, hd⟩
 exact ⟨ret_int (by unfold numAt; simp), hd⟩

structure Parsed where
 b : Blk
 next : Nat
 ok : Bool

abbrev Parsed.val (p : Parsed) : Value := .tuple #[.agg #[.int .i64 p.b.num, .bool p.b.raw, .int .i64 p.b.size, .string p.b.body], .int .i64 p.next, .bool p.ok]

def noParse : Parsed := ⟨⟨0, false, 0, ByteArray.empty⟩, 0, false⟩

def pbEnd (s : ByteArray) (k : Nat) : Nat := k + 8 + numAt s (k + 6)

def pbBlk (s : ByteArray) (k : Nat) : Blk := ⟨numAt s (k + 2), bAt s (k + 1) == 0, numAt s (k + 4), s.extract (k + 8) (pbEnd s k)⟩

def pbOk (s : ByteArray) (k : Nat) : Prop :=
 k + 10 ≤ s.size ∧ (bAt s k).toNat = 181 ∧ (bAt s (k + 1)).toNat ≤ 1 ∧ pbEnd s k + 2 ≤ s.size ∧ (pbBlk s k).ok ∧ sumOf (s.extract (k + 1) (pbEnd s k)).data.toList = numAt s (pbEnd s k)

instance (s : ByteArray) (k : Nat) : Decidable (pbOk s k) := by unfold pbOk; infer_instance

def parse (s : ByteArray) (a : Int) : Parsed := if 0 ≤ a ∧ pbOk s a.toNat then ⟨pbBlk s a.toNat, pbEnd s a.toNat + 2, true⟩ else noParse

theorem parse_yes {s : ByteArray} {k : Nat} (h : pbOk s k) : parse s k = ⟨pbBlk s k, pbEnd s k + 2, true⟩ := by
 unfold parse; rw [if_pos ⟨by omega, by simpa using h⟩]; simp

theorem parse_no {s : ByteArray} {a : Int} (h : ¬ (0 ≤ a ∧ pbOk s a.toNat)) : parse s a = noParse := by
 unfold parse; rw [if_neg h]

theorem parse_no' {s : ByteArray} {k : Nat} (h : ¬ pbOk s k) : parse s k = noParse := parse_no (fun h' => h (by simpa using h'.2))

theorem ret_parsed {p : Parsed} {num next size : Nat} {raw ok : Bool} {body : ByteArray} (h : p = ⟨⟨num, raw, size, body⟩, next, ok⟩) :
  Ending.returned (.tuple #[.agg #[.int .i64 num, .bool raw, .int .i64 size, .string body], .int .i64 next, .bool ok]) = .returned p.val := by rw [h]

theorem ret_noParse {p : Parsed} (h : p = noParse) :
  Ending.returned (.tuple #[.agg #[.int .i64 0, .bool false, .int .i64 0, .string ByteArray.empty], .int .i64 0, .bool false]) = .returned p.val := by rw [h]; rfl

set_option maxHeartbeats 2000000 in
set_option maxRecDepth 20000 in
theorem implParseBlock (s : ByteArray) (a : Int) (w : World) (hs : s.size ≤ 1048576) :
  Calls Tryz.prog 68 #[.string s, .int .i64 a] w fun e w' => e = .returned (parse s a).val ∧ Below w.heap.size w w' := by
 by_cases h0 : 0 ≤ a ∧ a + 10 ≤ s.size
 ·obtain ⟨k, rfl⟩ := Int.eq_ofNat_of_zero_le h0.1
  have hk : k + 10 ≤ s.size := by omega
  obtain ⟨x0, hx0⟩ : ∃ x, (bAt s k).toNat = x := ⟨_, rfl⟩
  obtain ⟨x1, hx1⟩ : ∃ x, (bAt s (k + 1)).toNat = x := ⟨_, rfl⟩
  have hl0 : x0 < 256 := by rw [← hx0]; exact UInt8.toNat_lt _
  have hl1 : x1 < 256 := by rw [← hx1]; exact UInt8.toNat_lt _
  obtain ⟨k1, hk1⟩ : ∃ k1, k + 1 = k1 := ⟨_, rfl⟩
  have hks : k < s.size := by omega
  have hk1s : k1 < s.size := by omega
  have e1 : (k : Int) + 1 = k1 := by omega
  have ex0 : s[k].toNat = x0 := by rw [← bAt_lt hks]; exact hx0
  have ex1 : s[k1].toNat = x1 := by rw [← bAt_lt hk1s, ← hk1]; exact hx1
  by_cases c0 : x0 = 181
  ·by_cases c1 : x1 ≤ 1
   ·subst c0
    obtain ⟨k6, hk6⟩ : ∃ k6, k + 6 = k6 := ⟨_, rfl⟩
    obtain ⟨k8, hk8⟩ : ∃ k8, k + 8 = k8 := ⟨_, rfl⟩
    obtain ⟨k2, hk2⟩ : ∃ k2, k + 2 = k2 := ⟨_, rfl⟩
    obtain ⟨k4, hk4⟩ : ∃ k4, k + 4 = k4 := ⟨_, rfl⟩
    have e6 : (k : Int) + 6 = k6 := by omega
    have e8 : (k : Int) + 8 = k8 := by omega
    have e2 : (k : Int) + 2 = k2 := by omega
    have e4 : (k : Int) + 4 = k4 := by omega
    obtain ⟨n, hn⟩ : ∃ n, numAt s k6 = n := ⟨_, rfl⟩
    obtain ⟨e, he⟩ : ∃ e, k8 + n = e := ⟨_, rfl⟩
    have hE : pbEnd s k = e := by unfold pbEnd; rw [hk6, hn, hk8, he]
    have ee : (k8 : Int) + n = e := by omega
    have hn2 : n < 65536 := by rw [← hn]; exact numAt_lt _ _
    have HE := Lib.hid hE
    have HN := Lib.hid hn
    have HX1 := Lib.hid hx1
    have h6s : k6 + 1 < s.size := by omega
    have h2s : k2 + 1 < s.size := by omega
    have h4s : k4 + 1 < s.size := by omega
    have h8s : k8 ≤ s.size := by omega
    have h8e : k8 ≤ e := by omega
    have h1e : k1 ≤ e := by omega
    have hes : e ≤ 1200000 := by omega
    clear hE hn hx0 hx1
    have HK := Lib.hid (And.intro hk1 (And.intro hk2 (And.intro hk4 (And.intro hk6 (And.intro hk8 he)))))
    clear hk1 hk2 hk4 hk6 hk8 he
    go_enter Tryz.func68, Tryz.ntmps68
    go_wp2_with fail
    refine (implNumAt s k6 _ _ rfl hs h6s).mono ?_
    rintro _ w1 ⟨rfl, rfl⟩
    rw [HN.out]
    by_cases c2 : e + 2 ≤ s.size
    ·have w1k : IntKind.i64.wrap (k1 : Int) = k1 := IntWalk.i64_in _ (by omega)
     have w2k : IntKind.i64.wrap (k2 : Int) = k2 := IntWalk.i64_in _ (by omega)
     have w4k : IntKind.i64.wrap (k4 : Int) = k4 := IntWalk.i64_in _ (by omega)
     have i0 : (0 : Int) ≤ k1 := by omega
     have i1 : (k1 : Int) < s.size := by omega
     have i2 : (k8 : Int) ≤ e := by omega
     have i3 : (e : Int) ≤ s.size := by omega
     obtain ⟨n2, hn2'⟩ : ∃ x, numAt s k2 = x := ⟨_, rfl⟩
     obtain ⟨n4, hn4'⟩ : ∃ x, numAt s k4 = x := ⟨_, rfl⟩
     have hb2 : n2 ≤ 65535 := by rw [← hn2']; have := numAt_lt s k2; omega
     have hb4 : n4 ≤ 65535 := by rw [← hn4']; have := numAt_lt s k4; omega
     have hE1 : ((x1 : Int) == 0) = (x1 == 0) := by rw [Bool.eq_iff_iff]; simp
     obtain ⟨r, hr⟩ : ∃ r, (x1 == 0) = r := ⟨_, rfl⟩
     rw [hr] at hE1
     go_upto_region 7 with (fail)
     go_cut [9] (fun v wx => ∃ N : Nat, v = .pointer (some ⟨w.heap.size + 1, 0, none⟩) ∧
      wx = ((w.alloc (.cells #[.int .i64 0, .bool false, .int .i64 0, .string ⟨#[]⟩] 36)).alloc (.cells #[.int .i64 n2, .bool r, .int .i64 n4, .string (s.extract k8 e)] 36)).drewN N)
     case first =>
      go_region_with (first | (go_at_call 108; refine (implNumAt s _ _ _ rfl hs (by assumption)).mono ?_; rintro _ w' ⟨rfl, rfl⟩))
      all_goals (go_wp2_with fail; go_meet; exact ⟨4, rfl, rfl⟩)
     case rest =>
      obtain ⟨N, rfl, rfl⟩ := hcut
      have hB : pbBlk s k = ⟨n2, r, n4, s.extract k8 e⟩ := by
       obtain ⟨a1, a2, a4, a6, a8, ae⟩ := HK.out
       unfold pbBlk
       rw [HE.out, a1, a2, a4, a8, hn2', hn4', ← hr]
       congr 1
       have hx := HX1.out
       rw [a1] at hx
       rw [Bool.eq_iff_iff, beq_iff_eq, beq_iff_eq, ← UInt8.toNat_inj, hx]
       rfl
      have hbs : (s.extract k8 e).size ≤ 100000 := by simp; omega
      have HB := Lib.hid hB
      clear w1k w2k w4k hE1 hB hr
      by_cases c3 : (⟨n2, r, n4, s.extract k8 e⟩ : Blk).ok
      ·by_cases c4 : sumOf (s.extract k1 e).data.toList = numAt s e
       ·have HC := Lib.hid (parse_yes (s := s) (k := k) ⟨hk, by rw [bAt_lt hks]; exact ex0, by rw [HX1.out]; exact c1, by rw [HE.out]; exact c2, by rw [HB.out]; exact c3, by rw [HE.out, HK.out.1]; exact c4⟩)
        rw [HB.out, HE.out] at HC
        have hes1 : e + 1 < s.size := by omega
        have HQ := Lib.hid c4
        clear c4
        go_wp2_with fail
        refine (implBlockValid ⟨n2, r, n4, s.extract k8 e⟩ true _ (by simp only; omega) (by simp only; omega) (by simp only; omega) (btrue c3)).mono ?_
        rintro _ w3 ⟨rfl, hb3⟩
        obtain ⟨hc3, hf3⟩ := bcell hb3
        have hBz : Below (w.heap.size + 1) (w.alloc (.cells #[.int .i64 0, .bool false, .int .i64 0, .string ⟨#[]⟩] 36)) w3 := ((Below.refl _ _).alloc (by simp) _).trans ((below_drewN (Below.refl _ _) N).trans (hb3.mono (by simp)))
        obtain ⟨q0, q1, q2, q3, _⟩ := box4 hBz
        have hz3 : w.heap.size + 1 < w3.heap.size := by have := hb3.size; simp at this; omega
        go_wp2_with fail
        refine (implSumOf _ _ (by simp; omega)).mono ?_
        rintro _ w4 ⟨rfl, rfl⟩
        rw [HQ.out]
        go_wp2_with fail
        refine (implNumAt s e _ _ rfl hs hes1).mono ?_
        rintro _ w5 ⟨rfl, rfl⟩
        go_wp2_with fail
        refine bodyPost_ret (v := .tuple #[.agg #[.int .i64 n2, .bool r, .int .i64 n4, .string (s.extract k8 e)], .int .i64 ((e + 2 : Nat) : Int), .bool true]) (by simp [results, Tryz.results68, go_sem, q0, q1, q2, q3]) rfl ?_
        refine ⟨ret_parsed HC.out, ?_⟩
        have hW : Below w.heap.size w w3 := (((Below.refl _ _).alloc (Nat.le_refl _) _).alloc (by simp) _).trans ((below_drewN (Below.refl _ _) N).trans (hb3.mono (by simp; omega)))
        clear hc3 hf3 hb3 HC HB q0 q1 q2 q3 hBz
        go_grown
       ·have HC := Lib.hid (parse_no' (s := s) (k := k) (fun h => c4 (by have := h.2.2.2.2.2; rw [HE.out, HK.out.1] at this; exact this)))
        have hes1 : e + 1 < s.size := by omega
        obtain ⟨S, hS⟩ : ∃ S, sumOf (s.extract k1 e).data.toList = S := ⟨_, rfl⟩
        obtain ⟨M, hM⟩ : ∃ M, numAt s e = M := ⟨_, rfl⟩
        rw [hS, hM] at c4
        have hne : ((S : Int) == M) = false := by rw [beq_eq_false_iff_ne]; omega
        have HS := Lib.hid hS
        have HM := Lib.hid hM
        clear hS hM c4
        go_wp2_with fail
        refine (implBlockValid ⟨n2, r, n4, s.extract k8 e⟩ true _ (by simp only; omega) (by simp only; omega) (by simp only; omega) (btrue c3)).mono ?_
        rintro _ w3 ⟨rfl, hb3⟩
        obtain ⟨hc3, hf3⟩ := bcell hb3
        have hBz : Below (w.heap.size + 1) (w.alloc (.cells #[.int .i64 0, .bool false, .int .i64 0, .string ⟨#[]⟩] 36)) w3 := ((Below.refl _ _).alloc (by simp) _).trans ((below_drewN (Below.refl _ _) N).trans (hb3.mono (by simp)))
        obtain ⟨q0, q1, q2, q3, _⟩ := box4 hBz
        have hz3 : w.heap.size + 1 < w3.heap.size := by have := hb3.size; simp at this; omega
        go_wp2_with fail
        refine (implSumOf _ _ (by simp; omega)).mono ?_
        rintro _ w4 ⟨rfl, rfl⟩
        rw [HS.out]
        go_wp2_with fail
        refine (implNumAt s e _ _ rfl hs hes1).mono ?_
        rintro _ w5 ⟨rfl, rfl⟩
        rw [HM.out]
        go_wp2_with fail
        refine bodyPost_ret (v := .tuple #[.agg #[.int .i64 0, .bool false, .int .i64 0, .string ByteArray.empty], .int .i64 0, .bool false]) (by simp [results, Tryz.results68, go_sem, q0, q1, q2, q3]; rfl) rfl ?_
        refine ⟨ret_noParse HC.out, ?_⟩
        have hW : Below w.heap.size w w3 := (((Below.refl _ _).alloc (Nat.le_refl _) _).alloc (by simp) _).trans ((below_drewN (Below.refl _ _) N).trans (hb3.mono (by simp; omega)))
        clear hc3 hf3 hb3 HC HB q0 q1 q2 q3 hBz
        go_grown
      ·have HC := Lib.hid (parse_no' (s := s) (k := k) (fun h => c3 (by have := h.2.2.2.2.1; rw [HB.out] at this; exact this)))
       go_wp2_with fail
       refine (implBlockValid ⟨n2, r, n4, s.extract k8 e⟩ false _ (by simp only; omega) (by simp only; omega) (by simp only; omega) (bfalse c3)).mono ?_
       rintro _ w3 ⟨rfl, hb3⟩
       obtain ⟨hc3, hf3⟩ := bcell hb3
       have hBz : Below (w.heap.size + 1) (w.alloc (.cells #[.int .i64 0, .bool false, .int .i64 0, .string ⟨#[]⟩] 36)) w3 := ((Below.refl _ _).alloc (by simp) _).trans ((below_drewN (Below.refl _ _) N).trans (hb3.mono (by simp)))
       obtain ⟨q0, q1, q2, q3, _⟩ := box4 hBz
       have hz3 : w.heap.size + 1 < w3.heap.size := by have := hb3.size; simp at this; omega
       go_wp2_with fail
       refine bodyPost_ret (v := .tuple #[.agg #[.int .i64 0, .bool false, .int .i64 0, .string ByteArray.empty], .int .i64 0, .bool false]) (by simp [results, Tryz.results68, go_sem, q0, q1, q2, q3]; rfl) rfl ?_
       refine ⟨ret_noParse HC.out, ?_⟩
       have hW : Below w.heap.size w w3 := (((Below.refl _ _).alloc (Nat.le_refl _) _).alloc (by simp) _).trans ((below_drewN (Below.refl _ _) N).trans (hb3.mono (by simp; omega)))
       clear hc3 hf3 hb3 HC HB q0 q1 q2 q3 hBz
       go_grown
    ·have HC := Lib.hid (parse_no' (s := s) (k := k) (fun h => c2 (by have := h.2.2.2.1; rw [HE.out] at this; exact this)))
     go_wp2_with fail
     refine bodyPost_ret (v := .tuple #[.agg #[.int .i64 0, .bool false, .int .i64 0, .string ByteArray.empty], .int .i64 0, .bool false]) (by simp [results, Tryz.results68, go_sem]; rfl) rfl ?_
     exact ⟨ret_noParse HC.out, by go_grown⟩
   ·have HC := Lib.hid (parse_no' (s := s) (k := k) (fun h => c1 (by have := h.2.2.1; omega)))
    clear hx0 hx1 hk1
    go_enter Tryz.func68, Tryz.ntmps68
    go_wp2_with fail
    refine bodyPost_ret (v := .tuple #[.agg #[.int .i64 0, .bool false, .int .i64 0, .string ByteArray.empty], .int .i64 0, .bool false]) (by simp [results, Tryz.results68, go_sem]; rfl) rfl ?_
    exact ⟨ret_noParse HC.out, by go_grown⟩
  ·have HC := Lib.hid (parse_no' (s := s) (k := k) (fun h => c0 (by have := h.2.1; omega)))
   clear hx0 hx1 hk1
   go_enter Tryz.func68, Tryz.ntmps68
   go_wp2_with fail
   refine bodyPost_ret (v := .tuple #[.agg #[.int .i64 0, .bool false, .int .i64 0, .string ByteArray.empty], .int .i64 0, .bool false]) (by simp [results, Tryz.results68, go_sem]; rfl) rfl ?_
   exact ⟨ret_noParse HC.out, by go_grown⟩
 ·have HC := Lib.hid (parse_no (s := s) (a := a) (fun h => h0 ⟨h.1, by have := h.2.1; omega⟩))
  go_enter Tryz.func68, Tryz.ntmps68
  go_wp2_with fail
  all_goals refine bodyPost_ret (v := .tuple #[.agg #[.int .i64 0, .bool false, .int .i64 0, .string ByteArray.empty], .int .i64 0, .bool false]) (by simp [results, Tryz.results68, go_sem]; rfl) rfl ?_
  all_goals exact ⟨ret_noParse HC.out, by go_grown⟩

theorem extract_append (s : ByteArray) (i j k : Nat) (h1 : i ≤ j) (h2 : j ≤ k) : s.extract i j ++ s.extract j k = s.extract i k := by
 apply ByteArray.ext
 rw [ByteArray.data_append, ByteArray.data_extract, ByteArray.data_extract, ByteArray.data_extract, Array.extract_append_extract, Nat.min_eq_left h1, Nat.max_eq_right h2]

theorem ba_ext {a b : ByteArray} (h : a.size = b.size) (h2 : ∀ i, i < a.size → bAt a i = bAt b i) : a = b := by
 apply ByteArray.ext
 apply Array.ext
 ·exact h
 ·intro i h3 h4
  have := h2 i h3
  rw [bAt_lt (s := a) h3, bAt_lt (s := b) (h ▸ h3)] at this
  exact this

theorem bAt_extract (s : ByteArray) (i j n : Nat) (h : i + n < j) (hj : j ≤ s.size) : bAt (s.extract i j) n = bAt s (i + n) := by
 rw [bAt_lt (by simp; omega), bAt_lt (by omega)]
 simp [ByteArray.getElem_extract]

theorem numAt_extract (s : ByteArray) (i j n : Nat) (h : i + n + 1 < j) (hj : j ≤ s.size) : numAt (s.extract i j) n = numAt s (i + n) := by
 unfold numAt
 rw [bAt_extract s i j n (by omega) hj, bAt_extract s i j (n + 1) (by omega) hj]; rfl

theorem two_size (n : Nat) : (two n).size = 2 := rfl

theorem two_numAt (s : ByteArray) (i : Nat) (h : i + 2 ≤ s.size) : two (numAt s i) = s.extract i (i + 2) := by
 apply ba_ext
 ·rw [two_size]; simp; omega
 ·intro j hj
  rw [two_size] at hj
  rw [bAt_extract s i (i + 2) j (by omega) h]
  have h1 := UInt8.toNat_lt (bAt s i)
  have h2 := UInt8.toNat_lt (bAt s (i + 1))
  match j, hj with
  | 0, _ =>
   show UInt8.ofNat (numAt s i / 256) = bAt s i
   unfold numAt
   rw [show (256 * (bAt s i).toNat + (bAt s (i + 1)).toNat) / 256 = (bAt s i).toNat from by omega]
   exact UInt8.ofNat_toNat
  | 1, _ =>
   show UInt8.ofNat (numAt s i) = bAt s (i + 1)
   apply UInt8.toNat_inj.1
   rw [UInt8.toNat_ofNat']
   unfold numAt; omega

theorem two_inj {a b : Nat} (ha : a < 65536) (hb : b < 65536) (h : two a = two b) : a = b := by
 have h0 : UInt8.ofNat (a / 256) = UInt8.ofNat (b / 256) := congrArg (fun s => bAt s 0) h
 have h1 : UInt8.ofNat a = UInt8.ofNat b := congrArg (fun s => bAt s 1) h
 have e0 := congrArg UInt8.toNat h0
 have e1 := congrArg UInt8.toNat h1
 rw [UInt8.toNat_ofNat', UInt8.toNat_ofNat'] at e0 e1
 omega

theorem one_extract (s : ByteArray) (i : Nat) (x : UInt8) (h : i + 1 ≤ s.size) (hx : bAt s i = x) : (⟨#[x]⟩ : ByteArray) = s.extract i (i + 1) := by
 apply ba_ext
 ·show 1 = _; simp; omega
 ·intro j hj
  have hj : j < 1 := hj
  rw [bAt_extract s i (i + 1) j (by omega) h]
  obtain rfl : j = 0 := by omega
  exact hx.symm

theorem inner_pbBlk (s : ByteArray) (k : Nat) (h1 : k + 10 ≤ s.size) (h2 : (bAt s (k + 1)).toNat ≤ 1) (h3 : pbEnd s k + 2 ≤ s.size) : innerB (pbBlk s k) = s.extract (k + 1) (pbEnd s k) := by
 have hk : kindB (bAt s (k + 1) == 0) = s.extract (k + 1) (k + 1 + 1) := by
  by_cases h : bAt s (k + 1) = 0
  ·rw [← one_extract s (k + 1) 0 (by omega) h, h]; rfl
  ·have h' : bAt s (k + 1) = 1 := by
    apply UInt8.toNat_inj.1
    have : (bAt s (k + 1)).toNat ≠ 0 := fun e => h (UInt8.toNat_inj.1 e)
    show _ = 1
    omega
   rw [← one_extract s (k + 1) 1 (by omega) h', h']; rfl
 have hn : (s.extract (k + 8) (pbEnd s k)).size = numAt s (k + 6) := by
  unfold pbEnd at h3 ⊢
  simp; omega
 have he : k + 8 ≤ pbEnd s k := by unfold pbEnd; omega
 unfold innerB pbBlk
 simp only []
 rw [hk, hn, two_numAt s (k + 2) (by omega), two_numAt s (k + 4) (by omega), two_numAt s (k + 6) (by omega)]
 rw [show k + 1 + 1 = k + 2 from rfl, show k + 2 + 2 = k + 4 from rfl, show k + 4 + 2 = k + 6 from rfl, show k + 6 + 2 = k + 8 from rfl]
 rw [extract_append s (k + 1) (k + 2) (k + 4) (by omega) (by omega), extract_append s (k + 1) (k + 4) (k + 6) (by omega) (by omega), extract_append s (k + 1) (k + 6) (k + 8) (by omega) (by omega), extract_append s (k + 1) (k + 8) (pbEnd s k) (by omega) (by omega)]

theorem text_pbBlk (s : ByteArray) (k : Nat) (h1 : k + 10 ≤ s.size) (h0 : (bAt s k).toNat = 181) (h2 : (bAt s (k + 1)).toNat ≤ 1) (h3 : pbEnd s k + 2 ≤ s.size) :
  textB (pbBlk s k) = s.extract k (pbEnd s k + 2) ↔ sumOf (s.extract (k + 1) (pbEnd s k)).data.toList = numAt s (pbEnd s k) := by
 have he : k + 8 ≤ pbEnd s k := by unfold pbEnd; omega
 have h181 : bAt s k = 181 := by apply UInt8.toNat_inj.1; rw [h0]; rfl
 have hx : s.extract k (pbEnd s k + 2) = ⟨#[181]⟩ ++ s.extract (k + 1) (pbEnd s k) ++ two (numAt s (pbEnd s k)) := by
  rw [one_extract s k 181 (by omega) h181, two_numAt s (pbEnd s k) h3, extract_append s k (k + 1) (pbEnd s k) (by omega) (by omega), extract_append s k (pbEnd s k) (pbEnd s k + 2) (by omega) (by omega)]
 unfold textB
 rw [inner_pbBlk s k h1 h2 h3, hx]
 constructor
 ·intro h
  exact two_inj (sumOf_lt _) (numAt_lt _ _) ((ByteArray.append_right_inj _).1 h)
 ·intro h; rw [h]

theorem ba_toList {a b : ByteArray} (h : a.toList = b.toList) : a = b := by
 rw [ByteArray.toList_eq, ByteArray.toList_eq] at h
 exact ByteArray.ext (Array.toList_inj.1 h)

def szs : List Blk → Nat
 | [] => 0
 | b :: bs => b.size + szs bs

theorem szs_append (a b : List Blk) : szs (a ++ b) = szs a + szs b := by
 induction a with
 | nil => simp [szs]
 | cons x xs ih => simp [szs, ih]; omega

theorem pbEnd_ge (s : ByteArray) (k : Nat) : k + 8 ≤ pbEnd s k := by unfold pbEnd; omega

theorem pbOk_lt {s : ByteArray} {k : Nat} (h : pbOk s k) : k < s.size := by have := h.1; omega

theorem pbOk_end {s : ByteArray} {k : Nat} (h : pbOk s k) : pbEnd s k + 2 ≤ s.size := h.2.2.2.1

theorem pbBlk_ok {s : ByteArray} {k : Nat} (h : pbOk s k) : (pbBlk s k).ok := h.2.2.2.2.1

def conts (s : ByteArray) (k : Nat) (acc : List Blk) : Option (List Blk) :=
 if h : k < s.size then
  if pbOk s k ∧ (pbBlk s k).num = acc.length then conts s (pbEnd s k + 2) (acc ++ [pbBlk s k]) else none
 else if szs acc ≤ 2000 then some acc else none
termination_by s.size - k
decreasing_by have := pbEnd_ge s k; omega

theorem conts_next {s : ByteArray} {k : Nat} {acc : List Blk} (h : k < s.size) (h1 : pbOk s k) (h2 : (pbBlk s k).num = acc.length) : conts s k acc = conts s (pbEnd s k + 2) (acc ++ [pbBlk s k]) := by
 rw [conts, dif_pos h, if_pos ⟨h1, h2⟩]

theorem conts_bad {s : ByteArray} {k : Nat} {acc : List Blk} (h : k < s.size) (h1 : ¬ (pbOk s k ∧ (pbBlk s k).num = acc.length)) : conts s k acc = none := by
 rw [conts, dif_pos h, if_neg h1]

theorem conts_end {s : ByteArray} {k : Nat} {acc : List Blk} (h : s.size ≤ k) : conts s k acc = if szs acc ≤ 2000 then some acc else none := by
 rw [conts, dif_neg (by omega)]

def Numbered (bs : List Blk) : Prop := ∀ (i : Nat) (b : Blk), bs[i]? = some b → b.num = i ∧ b.ok

theorem Numbered.nil : Numbered [] := by intro i b h; simp at h

theorem Numbered.snoc {bs : List Blk} {b : Blk} (h : Numbered bs) (h1 : b.num = bs.length) (h2 : b.ok) : Numbered (bs ++ [b]) := by
 intro i c hc
 rw [List.getElem?_append] at hc
 split at hc
 ·exact h i c hc
 ·rename_i hi
  have h0 : i - bs.length = 0 := by
   rcases Nat.eq_zero_or_pos (i - bs.length) with h0 | h0
   ·exact h0
   ·rw [List.getElem?_eq_none (by simp; omega)] at hc
    cases hc
  rw [h0] at hc
  simp only [List.getElem?_cons_zero, Option.some.injEq] at hc
  subst hc
  exact ⟨by omega, h2⟩

theorem Numbered.length {bs : List Blk} (h : Numbered bs) : bs.length ≤ 40 := by
 rcases Nat.lt_or_ge 40 bs.length with hl | hl
 ·obtain ⟨h1, h2⟩ := h 40 _ (List.getElem?_eq_getElem hl)
  have := h2.1
  omega
 ·exact hl

theorem Numbered.of_mem {bs : List Blk} (h : Numbered bs) {b : Blk} (hb : b ∈ bs) : b.ok := by
 obtain ⟨i, hi, rfl⟩ := List.mem_iff_getElem.1 hb
 exact (h i _ (List.getElem?_eq_getElem hi)).2

theorem conts_numbered {s : ByteArray} {k : Nat} {acc bs : List Blk} (h : Numbered acc) (hc : conts s k acc = some bs) : Numbered bs := by
 by_cases hk : k < s.size
 ·by_cases h1 : pbOk s k ∧ (pbBlk s k).num = acc.length
  ·rw [conts_next hk h1.1 h1.2] at hc
   exact conts_numbered (h.snoc h1.2 (pbBlk_ok h1.1)) hc
  ·rw [conts_bad hk h1] at hc
   cases hc
 ·rw [conts_end (by omega)] at hc
  split at hc
  ·injection hc with hc
   subst hc
   exact h
  ·cases hc
termination_by s.size - k
decreasing_by have := pbEnd_ge s k; omega

def contB (s : ByteArray) : Option (List Blk) := conts s 0 []

theorem contB_numbered {s : ByteArray} {bs : List Blk} (h : contB s = some bs) : Numbered bs := conts_numbered Numbered.nil h

theorem szs_le {bs : List Blk} (h : ∀ b ∈ bs, b.ok) : szs bs ≤ 64 * bs.length := by
 induction bs with
 | nil => simp [szs]
 | cons x xs ih =>
  have h1 := ih fun b hb => h b (List.mem_cons_of_mem _ hb)
  have h2 := (h x (List.mem_cons_self ..)).2.2.1
  simp [szs]
  omega

theorem implParseYes (s : ByteArray) (k : Nat) (a : Int) (w : World) (hs : s.size ≤ 1048576) (ha : a = k) (h : pbOk s k) (num size n : Nat) (raw : Bool) (body : ByteArray) (hb : pbBlk s k = ⟨num, raw, size, body⟩) (hn : pbEnd s k + 2 = n) :
  Calls Tryz.prog 68 #[.string s, .int .i64 a] w fun e w' => e = .returned (.tuple #[.agg #[.int .i64 num, .bool raw, .int .i64 size, .string body], .int .i64 n, .bool true]) ∧ Below w.heap.size w w' := by
 refine (implParseBlock s a w hs).mono ?_
 rintro e w' ⟨rfl, h'⟩
 subst ha
 exact ⟨by rw [parse_yes h, hb, hn], h'⟩

theorem implParseNo (s : ByteArray) (k : Nat) (a : Int) (w : World) (hs : s.size ≤ 1048576) (ha : a = k) (h : ¬ pbOk s k) :
  Calls Tryz.prog 68 #[.string s, .int .i64 a] w fun e w' => e = .returned (.tuple #[.agg #[.int .i64 0, .bool false, .int .i64 0, .string ByteArray.empty], .int .i64 0, .bool false]) ∧ Below w.heap.size w w' := by
 refine (implParseBlock s a w hs).mono ?_
 rintro e w' ⟨rfl, h'⟩
 subst ha
 exact ⟨by rw [parse_no' h]; rfl, h'⟩

def blkCells (b : Blk) : List Value := [.int .i64 b.num, .bool b.raw, .int .i64 b.size, .string b.body]

def cellsB (bs : List Blk) : List Value := bs.flatMap blkCells

theorem cellsB_append (a b : List Blk) : cellsB (a ++ b) = cellsB a ++ cellsB b := by unfold cellsB; exact List.flatMap_append

theorem cellsB_one (b : Blk) : cellsB [b] = blkCells b := by simp [cellsB]

theorem cellsB_length (bs : List Blk) : (cellsB bs).length = bs.length * 4 := by
 induction bs with
 | nil => rfl
 | cons x xs ih =>
  have h : cellsB (x :: xs) = blkCells x ++ cellsB xs := by simp [cellsB]
  rw [h, List.length_append, ih]
  simp [blkCells]; omega

theorem cellsB_oneCell (bs : List Blk) : ∀ u ∈ cellsB bs, u.oneCell' = true := by
 intro u hu
 unfold cellsB at hu
 obtain ⟨b, _, hb⟩ := List.mem_flatMap.1 hu
 simp only [blkCells, List.mem_cons, List.not_mem_nil, or_false] at hb
 rcases hb with rfl | rfl | rfl | rfl <;> rfl

theorem cellsB_get (bs : List Blk) (k j : Nat) (b : Blk) (hb : bs[k]? = some b) (hj : j < 4) : (cellsB bs)[k * 4 + j]? = (blkCells b)[j]? := by
 induction bs generalizing k with
 | nil => simp at hb
 | cons x xs ih =>
  have h : cellsB (x :: xs) = blkCells x ++ cellsB xs := by simp [cellsB]
  have hl : (blkCells x).length = 4 := rfl
  rw [h]
  cases k with
  | zero =>
   simp only [List.getElem?_cons_zero, Option.some.injEq] at hb
   subst hb
   rw [List.getElem?_append_left (by omega), Nat.zero_mul, Nat.zero_add]
  | succ k =>
   rw [List.getElem?_append_right (by omega), hl, show (k + 1) * 4 + j - 4 = k * 4 + j from by omega]
   exact ih k (by simpa using hb)

theorem Row.blk {w : World} {B n : Nat} {A : Option Addr} {bs : List Blk} (h : Row w B 4 A n (cellsB bs)) {k num size : Nat} {raw : Bool} {body : ByteArray} (hk : k < n) (hb : bs[k]? = some ⟨num, raw, size, body⟩) :
  ∃ b off, A = some ⟨b, off, none⟩ ∧ b < B ∧ w.cell? ⟨b, off + k * 4, none⟩ = some (.int .i64 num) ∧ w.cell? ⟨b, off + k * 4 + 1, none⟩ = some (.bool raw) ∧ w.cell? ⟨b, off + k * 4 + 2, none⟩ = some (.int .i64 size) ∧ w.cell? ⟨b, off + k * 4 + 3, none⟩ = some (.string body) := by
 obtain ⟨b, off, e, hB, hc⟩ := h.2 (by omega)
 refine ⟨b, off, e, hB, ?_, ?_, ?_, ?_⟩
 ·exact hc (k * 4 + 0) _ ((cellsB_get bs k 0 _ hb (by omega)).trans rfl)
 ·exact hc (k * 4 + 1) _ ((cellsB_get bs k 1 _ hb (by omega)).trans rfl)
 ·exact hc (k * 4 + 2) _ ((cellsB_get bs k 2 _ hb (by omega)).trans rfl)
 ·exact hc (k * 4 + 3) _ ((cellsB_get bs k 3 _ hb (by omega)).trans rfl)

theorem Row.len4 {w : World} {B n : Nat} {A : Option Addr} {bs : List Blk} (h : Row w B 4 A n (cellsB bs)) : bs.length = n := by
 have := h.1; rw [cellsB_length] at this; omega

theorem infoBlk : (Tryz.prog.info? 36).map (fun i => (i.zero, i.size, i.bytes)) = some (some (.agg #[.int .i64 0, .bool false, .int .i64 0, .string ByteArray.empty]), 4, 40) := by kernel_rfl

theorem elemBlk : Elem Tryz.prog 32 36 (.agg #[.int .i64 0, .bool false, .int .i64 0, .string ByteArray.empty]) 4 40 := ⟨Tryz.underlying32, infoBlk, rfl, by decide⟩

theorem szs_take_succ (bs : List Blk) (k : Nat) (b : Blk) (h : bs[k]? = some b) : szs (bs.take (k + 1)) = szs (bs.take k) + b.size := by
 obtain ⟨hk, hb⟩ := List.getElem?_eq_some_iff.1 h
 rw [List.take_succ_eq_append_getElem hk, szs_append, hb]; simp [szs]

theorem szs_take_le (bs : List Blk) (k : Nat) : szs (bs.take k) ≤ szs bs := by
 conv => rhs; rw [← List.take_append_drop k bs]
 rw [szs_append]; omega

set_option maxHeartbeats 1000000 in
theorem implSizeOf (A : Option Addr) (n c B : Nat) (bs : List Blk) (w : World) (h : Row w B 4 A n (cellsB bs)) (hB : B ≤ w.heap.size) (hn : n ≤ 1048576) (hz : szs bs ≤ 1048576) :
  Calls Tryz.prog 69 #[.slice A n c] w fun e w' => e = .returned (.int .i64 (szs bs : Int)) ∧ Below w.heap.size w w' := by
 have hlen := h.len4
 go_enter Tryz.func69, Tryz.ntmps69
 go_wp2_with fail
 go_loopw [3, 8] (fun v i wr => ∃ k : Nat, k ≤ n ∧ i = .int .i64 k ∧ v = .int .i64 (szs (bs.take k) : Int) ∧ Below w.heap.size w wr) (fun _ i _ => n - (intOf i).toNat)
 case atStart => exact ⟨0, Nat.zero_le _, rfl, rfl, Below.refl _ _⟩
 case round =>
  obtain ⟨k, hk, rfl, rfl, hbel⟩ := hrel
  have hwz := hbel.size
  by_cases hlt : k < n
  ·obtain ⟨⟨num, raw, size, body⟩, hb⟩ : ∃ b, bs[k]? = some b := ⟨_, List.getElem?_eq_getElem (by omega)⟩
   obtain ⟨b, off, rfl, hbB, g0, g1, g2, g3⟩ := (h.below hbel hB).blk hlt hb
   have hs := szs_take_succ bs k _ hb
   have hle := szs_take_le bs (k + 1)
   obtain ⟨q, hq⟩ : ∃ q, szs (bs.take k) = q := ⟨_, rfl⟩
   obtain ⟨q', hq'⟩ : ∃ q, szs (bs.take (k + 1)) = q := ⟨_, rfl⟩
   simp only at hs
   rw [hq, hq'] at hs
   rw [hq'] at hle
   rw [hq]
   have hqs : q + size ≤ 1048576 := by omega
   have HQ := Lib.hid hq'
   have HS := Lib.hid hs
   clear hq hq' hs hb
   have HL := Lib.hid hlen
   clear hlen
   go_wp2_with fail
   go_roundw
   case rel => exact ⟨k + 1, by omega, by go_num, by rw [HQ.out, HS.out]; go_num, hbel.alloc hwz _⟩
   case measure => simp [intOf]; omega
  ·obtain rfl : k = n := by omega
   have ht : bs.take k = bs := List.take_of_length_le (by omega)
   rw [ht]
   clear ht hlen
   go_wp2_with fail
   go_ret
   exact ⟨rfl, hbel⟩

def BlksPost (W : World) (o : Option (List Blk)) (e : Ending) (w' : World) : Prop :=
 ∃ A c, e = .returned (.tuple #[.slice A (o.getD []).length c, .bool o.isSome]) ∧ w'.ownsRow W.heap.size 36 4 (.slice A (o.getD []).length c) (o.getD []).length (cellsB (o.getD [])) ∧ Below W.heap.size W w'

set_option maxHeartbeats 2000000 in
theorem implContainerBlocks (s : ByteArray) (w : World) (hs : s.size ≤ 1048576) :
  Calls Tryz.prog 22 #[.string s] w (BlksPost w (contB s)) := by
 obtain ⟨R, hR⟩ : ∃ R, contB s = R := ⟨_, rfl⟩
 rw [hR]
 unfold contB at hR
 have HR := Lib.hid hR
 clear hR
 go_enter Tryz.func22, Tryz.ntmps22
 go_wp2_with fail
 go_loopw [4, 5] (fun v i wr => ∃ (k : Nat) (acc : List Blk) (n : Nat), i = .int .i64 k ∧ k ≤ s.size ∧ Numbered acc ∧ Hid (acc.length = n) ∧ n ≤ 40 ∧ Hid (conts s k acc = R) ∧ wr.ownsRow w.heap.size 36 4 v n (cellsB acc) ∧ Below w.heap.size w wr) (fun _ i _ => s.size - (intOf i).toNat)
 case atStart => exact ⟨0, [], 0, rfl, Nat.zero_le _, Numbered.nil, Lib.hid rfl, by omega, HR, ⟨rfl, .inl ⟨rfl, rfl⟩⟩, Below.refl _ _⟩
 case round =>
  obtain ⟨k, acc, n, rfl, hks, hnum, HN, hn40, HK, hown, hbel⟩ := hrel
  have hwz := hbel.size
  obtain ⟨Av, cv, rfl, _, _⟩ := own_form hown
  by_cases hk : k < s.size
  ·by_cases hp : pbOk s k
   ·have hok := pbBlk_ok hp
    have hne := pbOk_end hp
    have hge := pbEnd_ge s k
    have hnx := @conts_next s k acc hk hp
    have hbd := @conts_bad s k acc hk
    rw [HK.out, HN.out] at hnx hbd
    obtain ⟨⟨num, raw, size, body⟩, hb⟩ : ∃ b, pbBlk s k = b := ⟨_, rfl⟩
    obtain ⟨m, hm⟩ : ∃ m, pbEnd s k + 2 = m := ⟨_, rfl⟩
    have HP := fun W => implParseYes s k k W hs rfl hp num size m raw body hb hm
    have HP := Lib.hid HP
    rw [hb, hm] at hnx
    rw [hb] at hbd hok
    rw [hm] at hne
    have hkm : k < m := by omega
    have hok' := hok
    obtain ⟨hb1, hb2, hb3, _⟩ := hok
    have HOK := Lib.hid hok'
    simp only at hb1 hb2 hb3 hnx hbd
    clear hb hm hp hge hok'
    by_cases c1 : num = n
    ·subst c1
     have HX := Lib.hid (hnx rfl)
     clear hnx hbd
     go_wp2_with fail
     refine (HP.out _).mono ?_
     rintro e w1 ⟨rfl, hb1⟩
     have hown1 := own_below hown hb1 (Nat.le_refl _)
     have hbel1 := hbel.trans (hb1.mono hwz)
     have hsz1 := hbel1.size
     clear hown hb1 hbel hwz
     go_wp2_with (first
      | (at_builtin; refine wpList_append_row _ elemBlk rfl (.tmp 29) (.tmp 31) rfl w.heap.size _ _ _ rfl ((hown1.alloc _).alloc _) _ _ 1 1 (blkCells ⟨num, raw, size, body⟩) rfl (Row.newAt _ (w1.heap.size + 1) (by simp) _ (blkCells ⟨num, raw, size, body⟩) 1 4 rfl) ?_ ?_ ?_ ?_ ?_))
     ·intro u hu; exact cellsB_oneCell [⟨num, raw, size, body⟩] u (by rw [cellsB_one]; exact hu)
     ·unfold maxLen; omega
     ·omega
     ·simp; omega
     ·intro v2 w2 hv2 hg2 _
      have hbel2 : Below w.heap.size w w2 := ((hbel1.alloc hsz1 _).alloc (by simp; omega) _).grown hg2 (by simp; omega) (fun g hg => (hown1.lt g hg).1)
      rw [← cellsB_one, ← cellsB_append] at hv2
      clear hown1 hbel1 hsz1 hg2
      go_wp2_with fail
      go_roundw
      case rel => exact ⟨m, acc ++ [⟨num, raw, size, body⟩], num + 1, rfl, by omega, hnum.snoc (b := ⟨num, raw, size, body⟩) HN.out.symm HOK.out, Lib.hid (by rw [List.length_append, HN.out]; rfl), by omega, Lib.hid HX.out.symm, hv2, hbel2⟩
      case measure => simp [intOf]; omega
    ·have HX := Lib.hid (hbd (fun h => c1 h.2))
     have hcb : ((num : Int) != n) = true := by rw [bne_iff_ne]; omega
     clear hnx hbd
     go_wp2_with fail
     refine (HP.out _).mono ?_
     rintro e w1 ⟨rfl, hb1⟩
     go_wp2_with fail
     go_ret2
     rw [HX.out]
     exact ⟨none, 0, rfl, ⟨rfl, .inl ⟨rfl, rfl⟩⟩, (hbel.trans (hb1.mono hwz)).alloc (by have := hb1.size; omega) _⟩
   ·have hv := @conts_bad s k acc hk (fun h => hp h.1)
    rw [HK.out] at hv
    have HX := Lib.hid hv
    have HP := Lib.hid (fun W => implParseNo s k k W hs rfl hp)
    clear hv hp
    go_wp2_with fail
    refine (HP.out _).mono ?_
    rintro e w1 ⟨rfl, hb1⟩
    go_wp2_with fail
    go_ret2
    rw [HX.out]
    exact ⟨none, 0, rfl, ⟨rfl, .inl ⟨rfl, rfl⟩⟩, (hbel.trans (hb1.mono hwz)).alloc (by have := hb1.size; omega) _⟩
  ·have hv := @conts_end s k acc (by omega)
   rw [HK.out] at hv
   have hzs := szs_le (fun b hb => hnum.of_mem hb)
   rw [HN.out] at hzs
   have HS := fun W (h : Row W W.heap.size 4 Av n (cellsB acc)) => implSizeOf Av n cv W.heap.size acc W h (Nat.le_refl _) (by omega) (by omega)
   have HS := Lib.hid HS
   obtain ⟨z, hz⟩ : ∃ z, szs acc = z := ⟨_, rfl⟩
   rw [hz] at hv hzs
   have HZ := Lib.hid hz
   clear hz
   by_cases c2 : z ≤ 2000
   ·rw [if_pos c2] at hv
    have HX := Lib.hid hv
    clear hv
    go_wp2_with fail
    refine (HS.out _ (Row.of_own hown)).mono ?_
    rintro e w1 ⟨rfl, hb1⟩
    rw [HZ.out]
    go_wp2_with fail
    go_ret2
    rw [HX.out]
    refine ⟨Av, cv, ?_, ?_, hbel.trans (hb1.mono hwz)⟩
    ·simp only [Option.getD_some, HN.out]; rfl
    ·simp only [Option.getD_some, HN.out]; exact own_below hown hb1 (Nat.le_refl _)
   ·rw [if_neg c2] at hv
    have HX := Lib.hid hv
    clear hv
    go_wp2_with fail
    refine (HS.out _ (Row.of_own hown)).mono ?_
    rintro e w1 ⟨rfl, hb1⟩
    rw [HZ.out]
    go_wp2_with fail
    go_ret2
    rw [HX.out]
    exact ⟨none, 0, rfl, ⟨rfl, .inl ⟨rfl, rfl⟩⟩, hbel.trans (hb1.mono hwz)⟩

theorem implContainerBlocksYes (s : ByteArray) (bs : List Blk) (n : Nat) (w : World) (hs : s.size ≤ 1048576) (h : contB s = some bs) (hn : bs.length = n) :
  Calls Tryz.prog 22 #[.string s] w fun e w' => ∃ A c, e = .returned (.tuple #[.slice A n c, .bool true]) ∧ w'.ownsRow w.heap.size 36 4 (.slice A n c) n (cellsB bs) ∧ Below w.heap.size w w' := by
 refine (implContainerBlocks s w hs).mono ?_
 rintro e w' ⟨A, c, he, ho, hb⟩
 rw [h] at he ho
 subst hn
 exact ⟨A, c, he, ho, hb⟩

theorem implContainerBlocksNo (s : ByteArray) (w : World) (hs : s.size ≤ 1048576) (h : contB s = none) :
  Calls Tryz.prog 22 #[.string s] w fun e w' => ∃ A c, e = .returned (.tuple #[.slice A 0 c, .bool false]) ∧ w'.ownsRow w.heap.size 36 4 (.slice A 0 c) 0 [] ∧ Below w.heap.size w w' := by
 refine (implContainerBlocks s w hs).mono ?_
 rintro e w' ⟨A, c, he, ho, hb⟩
 rw [h] at he ho
 exact ⟨A, c, he, ho, hb⟩

end Go.Proofs.YthlgpgaeajfchaaGreat

