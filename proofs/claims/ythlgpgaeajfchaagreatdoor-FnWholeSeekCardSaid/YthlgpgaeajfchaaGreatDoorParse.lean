/-
  The contracts of ParseBlock: the program's and the reference's return the same.
-/
import Derived.Test.YthlgpgaeajfchaaGreatDoorBlockText
import Derived.Deep.DeepCutAuto
namespace Go.Proofs.YthlgpgaeajfchaaGreatDoor
open Go.RowKit
set_option linter.unusedVariables false
attribute [local go_sem ↓] Go.wp_at_zero Go.wp_at_succ

/-- The number that two bytes of a string make. -/
def numAt (s : ByteArray) (i : Nat) : Nat := 256 * (bAt s i).toNat + (bAt s (i + 1)).toNat

theorem numAt_lt (s : ByteArray) (i : Nat) : numAt s i < 65536 := by
  have h1 := UInt8.toNat_lt (bAt s i)
  have h2 := UInt8.toNat_lt (bAt s (i + 1))
  unfold numAt; omega

theorem implNumAt (s : ByteArray) (i : Nat) (a : Int) (w : World) (ha : a = i) (hs : s.size ≤ 1048576) (hi : i + 1 < s.size) :
    Calls Tryz.prog 58 #[.string s, .int .i64 a] w fun e w' => e = .returned (.int .i64 ((numAt s i : Nat) : Int)) ∧ w.drew = w' := by
  refine (implNumberAtD s i a w ha hs hi).mono ?_
  rintro e w' ⟨rfl, hd⟩
  exact ⟨ret_int (by unfold numAt; omega), hd⟩

/-- A block that was parsed, where it ends, and whether there is one. -/
structure Parsed where
  b : Blk
  next : Nat
  ok : Bool

/-- The three results as values. -/
abbrev Parsed.val (p : Parsed) : Value := .tuple #[.agg #[.int .i64 p.b.num, .bool p.b.raw, .int .i64 p.b.size, .string p.b.body], .int .i64 p.next, .bool p.ok]

/-- Nothing was parsed. -/
def noParse : Parsed := ⟨⟨0, false, 0, ByteArray.empty⟩, 0, false⟩

/-- Where the body of a block ends that begins at an index. -/
def pbEnd (s : ByteArray) (k : Nat) : Nat := k + 8 + numAt s (k + 6)

/-- The block that stands at an index. -/
def pbBlk (s : ByteArray) (k : Nat) : Blk := ⟨numAt s (k + 2), bAt s (k + 1) == 0, numAt s (k + 4), s.extract (k + 8) (pbEnd s k)⟩

/-- That a block stands at an index. -/
def pbOk (s : ByteArray) (k : Nat) : Prop :=
  k + 10 ≤ s.size ∧ (bAt s k).toNat = 181 ∧ (bAt s (k + 1)).toNat ≤ 1 ∧ pbEnd s k + 2 ≤ s.size ∧ (pbBlk s k).ok ∧ sumOf (s.extract (k + 1) (pbEnd s k)).data.toList = numAt s (pbEnd s k)

instance (s : ByteArray) (k : Nat) : Decidable (pbOk s k) := by unfold pbOk; infer_instance

/-- What ParseBlock returns. -/
def parse (s : ByteArray) (a : Int) : Parsed := if 0 ≤ a ∧ pbOk s a.toNat then ⟨pbBlk s a.toNat, pbEnd s a.toNat + 2, true⟩ else noParse

theorem parse_yes {s : ByteArray} {k : Nat} (h : pbOk s k) : parse s k = ⟨pbBlk s k, pbEnd s k + 2, true⟩ := by
  unfold parse; rw [if_pos ⟨by omega, by simpa using h⟩]; simp

theorem parse_no {s : ByteArray} {a : Int} (h : ¬ (0 ≤ a ∧ pbOk s a.toNat)) : parse s a = noParse := by
  unfold parse; rw [if_neg h]

theorem parse_no' {s : ByteArray} {k : Nat} (h : ¬ pbOk s k) : parse s k = noParse := parse_no (fun h' => h (by simpa using h'.2))

theorem ret_parsed {p : Parsed} {num next size : Nat} {raw ok : Bool} {body : ByteArray} (h : p = ⟨⟨num, raw, size, body⟩, next, ok⟩) :
    Ending.returned (.tuple #[.agg #[.int .i64 num, .bool raw, .int .i64 size, .string body], .int .i64 next, .bool ok]) = .returned p.val := by rw [h]

theorem ret_noParse {p : Parsed} (h : p = noParse) :
    Ending.returned (.tuple #[.agg #[.int .i64 0, .bool false, .int .i64 0, .string ByteArray.empty], .int .i64 0, .bool false]) = .returned p.val := by rw [h]; rfl

set_option maxHeartbeats 2000000 in
set_option maxRecDepth 20000 in
theorem implParseBlock (s : ByteArray) (a : Int) (w : World) (hs : s.size ≤ 1048576) :
    Calls Tryz.prog 36 #[.string s, .int .i64 a] w fun e w' => e = .returned (parse s a).val ∧ Below w.heap.size w w' := by
  by_cases h0 : 0 ≤ a ∧ a + 10 ≤ s.size
  · obtain ⟨k, rfl⟩ := Int.eq_ofNat_of_zero_le h0.1
    have hk : k + 10 ≤ s.size := by omega
    obtain ⟨x0, hx0⟩ : ∃ x, (bAt s k).toNat = x := ⟨_, rfl⟩
    obtain ⟨x1, hx1⟩ : ∃ x, (bAt s (k + 1)).toNat = x := ⟨_, rfl⟩
    have hl0 : x0 < 256 := by rw [← hx0]; exact UInt8.toNat_lt _
    have hl1 : x1 < 256 := by rw [← hx1]; exact UInt8.toNat_lt _
    obtain ⟨k1, hk1⟩ : ∃ k1, k + 1 = k1 := ⟨_, rfl⟩
    have hks : k < s.size := by omega
    have hk1s : k1 < s.size := by omega
    have e1 : (k : Int) + 1 = k1 := by omega
    have ex0 : s[k].toNat = x0 := by rw [← bAt_lt hks]; exact hx0
    have ex1 : s[k1].toNat = x1 := by rw [← bAt_lt hk1s, ← hk1]; exact hx1
    by_cases c0 : x0 = 181
    · by_cases c1 : x1 ≤ 1
      · subst c0
        obtain ⟨k6, hk6⟩ : ∃ k6, k + 6 = k6 := ⟨_, rfl⟩
        obtain ⟨k8, hk8⟩ : ∃ k8, k + 8 = k8 := ⟨_, rfl⟩
        obtain ⟨k2, hk2⟩ : ∃ k2, k + 2 = k2 := ⟨_, rfl⟩
        obtain ⟨k4, hk4⟩ : ∃ k4, k + 4 = k4 := ⟨_, rfl⟩
        have e6 : (k : Int) + 6 = k6 := by omega
        have e8 : (k : Int) + 8 = k8 := by omega
        have e2 : (k : Int) + 2 = k2 := by omega
        have e4 : (k : Int) + 4 = k4 := by omega
        obtain ⟨n, hn⟩ : ∃ n, numAt s k6 = n := ⟨_, rfl⟩
        obtain ⟨e, he⟩ : ∃ e, k8 + n = e := ⟨_, rfl⟩
        have hE : pbEnd s k = e := by unfold pbEnd; rw [hk6, hn, hk8, he]
        have ee : (k8 : Int) + n = e := by omega
        have hn2 : n < 65536 := by rw [← hn]; exact numAt_lt _ _
        have HE := Lib.hid hE
        have HN := Lib.hid hn
        have HX1 := Lib.hid hx1
        have h6s : k6 + 1 < s.size := by omega
        have h2s : k2 + 1 < s.size := by omega
        have h4s : k4 + 1 < s.size := by omega
        have h8s : k8 ≤ s.size := by omega
        have h8e : k8 ≤ e := by omega
        have h1e : k1 ≤ e := by omega
        have hes : e ≤ 1200000 := by omega
        clear hE hn hx0 hx1
        have HK := Lib.hid (And.intro hk1 (And.intro hk2 (And.intro hk4 (And.intro hk6 (And.intro hk8 he)))))
        clear hk1 hk2 hk4 hk6 hk8 he
        go_enter Tryz.func36, Tryz.ntmps36
        go_wp2_with fail
        refine (implNumAt s k6 _ _ rfl hs h6s).mono ?_
        rintro _ w1 ⟨rfl, rfl⟩
        rw [HN.out]
        by_cases c2 : e + 2 ≤ s.size
        · have w1k : IntKind.i64.wrap (k1 : Int) = k1 := IntWalk.i64_in _ (by omega)
          have w2k : IntKind.i64.wrap (k2 : Int) = k2 := IntWalk.i64_in _ (by omega)
          have w4k : IntKind.i64.wrap (k4 : Int) = k4 := IntWalk.i64_in _ (by omega)
          have i0 : (0 : Int) ≤ k1 := by omega
          have i1 : (k1 : Int) < s.size := by omega
          have i2 : (k8 : Int) ≤ e := by omega
          have i3 : (e : Int) ≤ s.size := by omega
          obtain ⟨n2, hn2'⟩ : ∃ x, numAt s k2 = x := ⟨_, rfl⟩
          obtain ⟨n4, hn4'⟩ : ∃ x, numAt s k4 = x := ⟨_, rfl⟩
          have hb2 : n2 ≤ 65535 := by rw [← hn2']; have := numAt_lt s k2; omega
          have hb4 : n4 ≤ 65535 := by rw [← hn4']; have := numAt_lt s k4; omega
          have hE1 : ((x1 : Int) == 0) = (x1 == 0) := by rw [Bool.eq_iff_iff]; simp
          obtain ⟨r, hr⟩ : ∃ r, (x1 == 0) = r := ⟨_, rfl⟩
          rw [hr] at hE1
          go_upto_region 7 with (fail)
          go_cut [9] (fun v wx => ∃ N : Nat, v = .pointer (some ⟨w.heap.size + 1, 0, none⟩) ∧
            wx = ((w.alloc (.cells #[.int .i64 0, .bool false, .int .i64 0, .string ⟨#[]⟩] 65)).alloc (.cells #[.int .i64 n2, .bool r, .int .i64 n4, .string (s.extract k8 e)] 65)).drewN N)
          case first =>
            go_region_with (first | (go_at_call 58; refine (implNumAt s _ _ _ rfl hs (by assumption)).mono ?_; rintro _ w' ⟨rfl, rfl⟩))
            all_goals (go_wp2_with fail; go_meet; exact ⟨4, rfl, rfl⟩)
          case rest =>
            obtain ⟨N, rfl, rfl⟩ := hcut
            have hB : pbBlk s k = ⟨n2, r, n4, s.extract k8 e⟩ := by
              obtain ⟨a1, a2, a4, a6, a8, ae⟩ := HK.out
              unfold pbBlk
              rw [HE.out, a1, a2, a4, a8, hn2', hn4', ← hr]
              congr 1
              have hx := HX1.out
              rw [a1] at hx
              rw [Bool.eq_iff_iff, beq_iff_eq, beq_iff_eq, ← UInt8.toNat_inj, hx]
              rfl
            have hbs : (s.extract k8 e).size ≤ 100000 := by simp; omega
            have HB := Lib.hid hB
            clear w1k w2k w4k hE1 hB hr
            by_cases c3 : (⟨n2, r, n4, s.extract k8 e⟩ : Blk).ok
            · by_cases c4 : sumOf (s.extract k1 e).data.toList = numAt s e
              · have HC := Lib.hid (parse_yes (s := s) (k := k) ⟨hk, by rw [bAt_lt hks]; exact ex0, by rw [HX1.out]; exact c1, by rw [HE.out]; exact c2, by rw [HB.out]; exact c3, by rw [HE.out, HK.out.1]; exact c4⟩)
                rw [HB.out, HE.out] at HC
                have hes1 : e + 1 < s.size := by omega
                have HQ := Lib.hid c4
                clear c4
                go_wp2_with fail
                refine (implBlockValid ⟨n2, r, n4, s.extract k8 e⟩ true _ (by simp only; omega) (by simp only; omega) (by simp only; omega) (btrue c3)).mono ?_
                rintro _ w3 ⟨rfl, hb3⟩
                obtain ⟨hc3, hf3⟩ := bcell hb3
                have hBz : Below (w.heap.size + 1) (w.alloc (.cells #[.int .i64 0, .bool false, .int .i64 0, .string ⟨#[]⟩] 65)) w3 := ((Below.refl _ _).alloc (by simp) _).trans ((below_drewN (Below.refl _ _) N).trans (hb3.mono (by simp)))
                obtain ⟨q0, q1, q2, q3, _⟩ := box4 hBz
                have hz3 : w.heap.size + 1 < w3.heap.size := by have := hb3.size; simp at this; omega
                go_wp2_with fail
                refine (implSumOf _ _ (by simp; omega)).mono ?_
                rintro _ w4 ⟨rfl, rfl⟩
                rw [HQ.out]
                go_wp2_with fail
                refine (implNumAt s e _ _ rfl hs hes1).mono ?_
                rintro _ w5 ⟨rfl, rfl⟩
                go_wp2_with fail
                refine bodyPost_ret (v := .tuple #[.agg #[.int .i64 n2, .bool r, .int .i64 n4, .string (s.extract k8 e)], .int .i64 ((e + 2 : Nat) : Int), .bool true]) (by simp [results, Tryz.results36, go_sem, q0, q1, q2, q3]) rfl ?_
                refine ⟨ret_parsed HC.out, ?_⟩
                have hW : Below w.heap.size w w3 := (((Below.refl _ _).alloc (Nat.le_refl _) _).alloc (by simp) _).trans ((below_drewN (Below.refl _ _) N).trans (hb3.mono (by simp; omega)))
                clear hc3 hf3 hb3 HC HB q0 q1 q2 q3 hBz
                go_grown
              · have HC := Lib.hid (parse_no' (s := s) (k := k) (fun h => c4 (by have := h.2.2.2.2.2; rw [HE.out, HK.out.1] at this; exact this)))
                have hes1 : e + 1 < s.size := by omega
                obtain ⟨S, hS⟩ : ∃ S, sumOf (s.extract k1 e).data.toList = S := ⟨_, rfl⟩
                obtain ⟨M, hM⟩ : ∃ M, numAt s e = M := ⟨_, rfl⟩
                rw [hS, hM] at c4
                have hne : ((S : Int) == M) = false := by rw [beq_eq_false_iff_ne]; omega
                have HS := Lib.hid hS
                have HM := Lib.hid hM
                clear hS hM c4
                go_wp2_with fail
                refine (implBlockValid ⟨n2, r, n4, s.extract k8 e⟩ true _ (by simp only; omega) (by simp only; omega) (by simp only; omega) (btrue c3)).mono ?_
                rintro _ w3 ⟨rfl, hb3⟩
                obtain ⟨hc3, hf3⟩ := bcell hb3
                have hBz : Below (w.heap.size + 1) (w.alloc (.cells #[.int .i64 0, .bool false, .int .i64 0, .string ⟨#[]⟩] 65)) w3 := ((Below.refl _ _).alloc (by simp) _).trans ((below_drewN (Below.refl _ _) N).trans (hb3.mono (by simp)))
                obtain ⟨q0, q1, q2, q3, _⟩ := box4 hBz
                have hz3 : w.heap.size + 1 < w3.heap.size := by have := hb3.size; simp at this; omega
                go_wp2_with fail
                refine (implSumOf _ _ (by simp; omega)).mono ?_
                rintro _ w4 ⟨rfl, rfl⟩
                rw [HS.out]
                go_wp2_with fail
                refine (implNumAt s e _ _ rfl hs hes1).mono ?_
                rintro _ w5 ⟨rfl, rfl⟩
                rw [HM.out]
                go_wp2_with fail
                refine bodyPost_ret (v := .tuple #[.agg #[.int .i64 0, .bool false, .int .i64 0, .string ByteArray.empty], .int .i64 0, .bool false]) (by simp [results, Tryz.results36, go_sem, q0, q1, q2, q3]; rfl) rfl ?_
                refine ⟨ret_noParse HC.out, ?_⟩
                have hW : Below w.heap.size w w3 := (((Below.refl _ _).alloc (Nat.le_refl _) _).alloc (by simp) _).trans ((below_drewN (Below.refl _ _) N).trans (hb3.mono (by simp; omega)))
                clear hc3 hf3 hb3 HC HB q0 q1 q2 q3 hBz
                go_grown
            · have HC := Lib.hid (parse_no' (s := s) (k := k) (fun h => c3 (by have := h.2.2.2.2.1; rw [HB.out] at this; exact this)))
              go_wp2_with fail
              refine (implBlockValid ⟨n2, r, n4, s.extract k8 e⟩ false _ (by simp only; omega) (by simp only; omega) (by simp only; omega) (bfalse c3)).mono ?_
              rintro _ w3 ⟨rfl, hb3⟩
              obtain ⟨hc3, hf3⟩ := bcell hb3
              have hBz : Below (w.heap.size + 1) (w.alloc (.cells #[.int .i64 0, .bool false, .int .i64 0, .string ⟨#[]⟩] 65)) w3 := ((Below.refl _ _).alloc (by simp) _).trans ((below_drewN (Below.refl _ _) N).trans (hb3.mono (by simp)))
              obtain ⟨q0, q1, q2, q3, _⟩ := box4 hBz
              have hz3 : w.heap.size + 1 < w3.heap.size := by have := hb3.size; simp at this; omega
              go_wp2_with fail
              refine bodyPost_ret (v := .tuple #[.agg #[.int .i64 0, .bool false, .int .i64 0, .string ByteArray.empty], .int .i64 0, .bool false]) (by simp [results, Tryz.results36, go_sem, q0, q1, q2, q3]; rfl) rfl ?_
              refine ⟨ret_noParse HC.out, ?_⟩
              have hW : Below w.heap.size w w3 := (((Below.refl _ _).alloc (Nat.le_refl _) _).alloc (by simp) _).trans ((below_drewN (Below.refl _ _) N).trans (hb3.mono (by simp; omega)))
              clear hc3 hf3 hb3 HC HB q0 q1 q2 q3 hBz
              go_grown
        · have HC := Lib.hid (parse_no' (s := s) (k := k) (fun h => c2 (by have := h.2.2.2.1; rw [HE.out] at this; exact this)))
          go_wp2_with fail
          refine bodyPost_ret (v := .tuple #[.agg #[.int .i64 0, .bool false, .int .i64 0, .string ByteArray.empty], .int .i64 0, .bool false]) (by simp [results, Tryz.results36, go_sem]; rfl) rfl ?_
          exact ⟨ret_noParse HC.out, by go_grown⟩
      · have HC := Lib.hid (parse_no' (s := s) (k := k) (fun h => c1 (by have := h.2.2.1; omega)))
        clear hx0 hx1 hk1
        go_enter Tryz.func36, Tryz.ntmps36
        go_wp2_with fail
        refine bodyPost_ret (v := .tuple #[.agg #[.int .i64 0, .bool false, .int .i64 0, .string ByteArray.empty], .int .i64 0, .bool false]) (by simp [results, Tryz.results36, go_sem]; rfl) rfl ?_
        exact ⟨ret_noParse HC.out, by go_grown⟩
    · have HC := Lib.hid (parse_no' (s := s) (k := k) (fun h => c0 (by have := h.2.1; omega)))
      clear hx0 hx1 hk1
      go_enter Tryz.func36, Tryz.ntmps36
      go_wp2_with fail
      refine bodyPost_ret (v := .tuple #[.agg #[.int .i64 0, .bool false, .int .i64 0, .string ByteArray.empty], .int .i64 0, .bool false]) (by simp [results, Tryz.results36, go_sem]; rfl) rfl ?_
      exact ⟨ret_noParse HC.out, by go_grown⟩
  · have HC := Lib.hid (parse_no (s := s) (a := a) (fun h => h0 ⟨h.1, by have := h.2.1; omega⟩))
    go_enter Tryz.func36, Tryz.ntmps36
    go_wp2_with fail
    all_goals refine bodyPost_ret (v := .tuple #[.agg #[.int .i64 0, .bool false, .int .i64 0, .string ByteArray.empty], .int .i64 0, .bool false]) (by simp [results, Tryz.results36, go_sem]; rfl) rfl ?_
    all_goals exact ⟨ret_noParse HC.out, by go_grown⟩

end Go.Proofs.YthlgpgaeajfchaaGreatDoor
