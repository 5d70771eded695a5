/-
  The program's KnownValid, of what is known before any code.
  The program's DataFits: data of literals that is not too long.
  The program's Start, copyKnown.
-/
import Derived.Test.YthlgpgaeajfchaaGreatDoorImplWords
import Derived.Test.YthlgpgaeajfchaaGreatDoorWordsF

namespace Go.Proofs.YthlgpgaeajfchaaGreatDoor
open Go.RowKit
set_option linter.unusedVariables false
set_option maxRecDepth 100000

set_option maxHeartbeats 2000000 in
theorem implHasWord (o l m n x : Nat) (w : World) (h : sv o l m) (hn : n ≤ 100000) (hx : x < 2 ^ l ∨ (2 ^ l + 1 < x ∧ x ≤ 2 ^ l + 1 + n)) :
    Calls Tryz.prog 90 #[.agg #[.int .i64 (o : Int), .int .i64 (l : Int), .int .i64 (m : Int)], .int .i64 (n : Int), .int .i64 (x : Int)] w fun e w' => e = .returned (.bool true) ∧ Below w.heap.size w w' := by
  have HC := Lib.hid (fun W => implClearCode o l m W h)
  have HE := Lib.hid (fun W => implEndCode o l m W h)
  have hl8 := h.2.1.2
  have hzb : 2 ^ l ≤ 2 ^ 8 := Nat.pow_le_pow_right (by omega) (by omega)
  obtain ⟨z, hz⟩ : ∃ z, 2 ^ l = z := ⟨_, rfl⟩
  rw [hz] at HC HE hzb hx
  obtain ⟨f, hf⟩ : ∃ f, z + 1 = f := ⟨_, rfl⟩
  rw [hf] at HE hx
  have hx0 : (0 : Int) ≤ x := by omega
  by_cases h1 : x < z
  · have g1 : (x : Int) < z := by omega
    clear h hz hf hx
    go_enter Tryz.func90, Tryz.ntmps90
    go_wp2_with fail
    refine (HE.out _).mono ?_
    rintro e w1 ⟨rfl, hb1⟩
    obtain ⟨q0, q1, q2, B1⟩ := box3 (hb1.mono (by simp))
    clear hb1
    go_wp2_with fail
    refine (HC.out _).mono ?_
    rintro e w2 ⟨rfl, hb2⟩
    clear q0 q1 q2
    obtain ⟨q0, q1, q2, B2⟩ := box3_call hb2 B1
    clear hb2
    go_wp2_with fail
    go_ret
    exact ⟨rfl, ((Below.refl _ _).alloc (Nat.le_refl _) _).trans (B2.mono (by omega))⟩
  · obtain ⟨s, hs⟩ : ∃ s : Nat, (f : Int) + n = s := ⟨f + n, by omega⟩
    have g1 : ¬ (x : Int) < z := by omega
    have g2 : (f : Int) < x := by omega
    have g3 : (x : Int) ≤ s := by omega
    have g4 : x ≤ s := by omega
    have hsb : s ≤ 200000 := by omega
    clear h hz hf hx
    go_enter Tryz.func90, Tryz.ntmps90
    go_wp2_with fail
    refine (HE.out _).mono ?_
    rintro e w1 ⟨rfl, hb1⟩
    obtain ⟨q0, q1, q2, B1⟩ := box3 (hb1.mono (by simp))
    clear hb1
    go_wp2_with fail
    refine (HC.out _).mono ?_
    rintro e w2 ⟨rfl, hb2⟩
    clear q0 q1 q2
    obtain ⟨q0, q1, q2, B2⟩ := box3_call hb2 B1
    clear hb2
    go_wp2_with fail
    go_ret
    exact ⟨rfl, ((Below.refl _ _).alloc (Nat.le_refl _) _).trans (B2.mono (by omega))⟩

/-- The box of what is known and that of its setting. -/
structure KvB (w wr : World) (a b c d e f x y z : Value) : Prop where
  k0 : wr.cell? ⟨w.heap.size, 0, none⟩ = some a
  k1 : wr.cell? ⟨w.heap.size, 1, none⟩ = some b
  k2 : wr.cell? ⟨w.heap.size, 2, none⟩ = some c
  k3 : wr.cell? ⟨w.heap.size, 3, none⟩ = some d
  k4 : wr.cell? ⟨w.heap.size, 4, none⟩ = some e
  k5 : wr.cell? ⟨w.heap.size, 5, none⟩ = some f
  s0 : wr.cell? ⟨w.heap.size + 1, 0, none⟩ = some x
  s1 : wr.cell? ⟨w.heap.size + 1, 1, none⟩ = some y
  s2 : wr.cell? ⟨w.heap.size + 1, 2, none⟩ = some z
  bel : Below w.heap.size w wr
  lt : w.heap.size + 2 ≤ wr.heap.size

theorem KvB.below {w wr wx : World} {a b c d e f x y z : Value} (h : KvB w wr a b c d e f x y z) (hb : Below wr.heap.size wr wx) : KvB w wx a b c d e f x y z := by
  have hl := h.lt
  have hs := hb.size
  have hc : ∀ (g i : Nat), g < wr.heap.size → wx.cell? ⟨g, i, none⟩ = wr.cell? ⟨g, i, none⟩ := fun g i hg => hb.cell (p := ⟨g, i, none⟩) hg
  exact ⟨(hc _ _ (by omega)).trans h.k0, (hc _ _ (by omega)).trans h.k1, (hc _ _ (by omega)).trans h.k2, (hc _ _ (by omega)).trans h.k3, (hc _ _ (by omega)).trans h.k4, (hc _ _ (by omega)).trans h.k5, (hc _ _ (by omega)).trans h.s0, (hc _ _ (by omega)).trans h.s1, (hc _ _ (by omega)).trans h.s2, h.bel.trans (hb.mono (by omega)), by omega⟩

theorem KvB.new (w : World) (T U : TypeId) (a b c d e f x y z : Value) : KvB w ((w.alloc (.cells #[a, b, c, d, e, f] T)).alloc (.cells #[x, y, z] U)) a b c d e f x y z := by
  obtain ⟨⟨q0, q1, q2, q3, q4, q5⟩, r0, r1, r2⟩ := kvBox (Below.refl (w.heap.size + 2) ((w.alloc (.cells #[a, b, c, d, e, f] T)).alloc (.cells #[x, y, z] U)))
  exact ⟨q0, q1, q2, q3, q4, q5, r0, r1, r2, ((Below.refl _ _).alloc (Nat.le_refl _) _).alloc (by simp) _, by simp⟩

set_option maxHeartbeats 8000000 in
theorem implKnownValid (k : Kn) (A : Option Addr) (c B : Nat) (w : World) (h : k.Fresh) (hA : k.At w B A) (hB : B ≤ w.heap.size) :
    Calls Tryz.prog 64 #[k.val A c] w fun e w' => e = .returned (.bool true) ∧ Below w.heap.size w w' := by
  have hv := h.val
  have hpw := hv.pow
  have hroom := hv.room
  have hli : k.lastI = -1 := Kn.lastI_none h.last
  have hbase := h.base
  have hsv := hv.sv
  have HS := fun W => implSettingValid k.o k.l k.m true W (btrue hsv)
  have HC := fun W => implClearCode k.o k.l k.m W hsv
  have HE := fun W => implEndCode k.o k.l k.m W hsv
  have HT := fun W => implLastCode k.o k.l k.m W hsv
  have hz : 2 ^ k.l = k.clear := rfl
  have hfe : 2 ^ k.l + 1 = k.fin := rfl
  have hte : 2 ^ k.m - 1 = k.top := rfl
  rw [hfe] at HE
  rw [hz] at HC
  rw [hte] at HT
  have HP := fun (i p b : Nat) (hi : k.ps[i]? = some (p, b)) => hv.pair i p b hi
  have hfc := k.fin_eq
  have HQ := fun (i p : Nat) (hp : k.has i p) (hi : i ≤ k.ps.length) W => implHasWord k.o k.l k.m i p W hsv (by omega) (by
    unfold Kn.has at hp
    rw [hz]
    omega)
  have hrow := hA
  obtain ⟨ps, hps⟩ : ∃ ps, k.ps = ps := ⟨_, rfl⟩
  obtain ⟨n, hn⟩ : ∃ n, ps.length = n := ⟨_, rfl⟩
  unfold Kn.At at hrow
  unfold Kn.val
  rw [hps, hn] at hrow hroom HQ hbase
  rw [hps] at HP
  rw [hps, hn, hli]
  obtain ⟨z, hz'⟩ : ∃ z, k.clear = z := ⟨_, rfl⟩
  obtain ⟨f, hf'⟩ : ∃ z, k.fin = z := ⟨_, rfl⟩
  obtain ⟨t, ht'⟩ : ∃ z, k.top = z := ⟨_, rfl⟩
  rw [hz'] at HC HP hpw hfc
  rw [hf'] at HE hroom hfc
  rw [ht'] at HT hpw hroom
  obtain ⟨d, hd⟩ : ∃ d : Nat, (t : Int) - f = d := ⟨t - f, by omega⟩
  have hHB : ∀ (b : Nat), b < z → decide ((z : Int) ≤ b) = false ∧ decide ((b : Int) < 0) = false := fun b hb => ⟨decide_eq_false (by omega), decide_eq_false (by omega)⟩
  have wd : IntKind.i64.wrap (d : Int) = d := IntWalk.i64_in _ (by omega)
  have g1 : decide ((d : Int) < n) = false := decide_eq_false (by omega)
  have g2 : decide (d < n) = false := decide_eq_false (by omega)
  have hbn : k.base = n := by omega
  have hnb : n ≤ 1023 := by omega
  obtain ⟨o, ho⟩ : ∃ x, k.o = x := ⟨_, rfl⟩
  obtain ⟨l, hl'⟩ : ∃ x, k.l = x := ⟨_, rfl⟩
  obtain ⟨m, hm⟩ : ∃ x, k.m = x := ⟨_, rfl⟩
  rw [ho, hl', hm] at HS HC HE HT HQ
  rw [ho, hl', hm, hbn]
  replace HS := Lib.hid HS
  replace HC := Lib.hid HC
  replace HE := Lib.hid HE
  replace HT := Lib.hid HT
  replace HP := Lib.hid HP
  replace HQ := Lib.hid HQ
  replace hHB := Lib.hid hHB
  replace hn := Lib.hid hn
  replace hd := Lib.hid hd
  have hd2 : (t : Int) - f = d := hd.out
  have hnn0 : (0 : Int) ≤ n := by omega
  have hnn1 : decide ((n : Int) < n) = false := decide_eq_false (by omega)
  have hnn2 : decide (n < n) = false := decide_eq_false (by omega)
  clear hli hbase hz hfe hte hroom hz' hf' ht' hbn ho hl' hm hpw hfc hv h hA hd hsv
  have K0 := Lib.hid (KvB.new w 48 24 (.int .i64 (o : Int)) (.int .i64 (l : Int)) (.int .i64 (m : Int)) (.slice A n c) (.int .i64 (n : Int)) (.int .i64 (-1)) (.int .i64 (o : Int)) (.int .i64 (l : Int)) (.int .i64 (m : Int)))
  go_enter Tryz.func64, Tryz.ntmps64
  go_upto_region 2 with (fail)
  obtain ⟨w1, hw1⟩ : ∃ W, (w.alloc (.cells #[.int .i64 (o : Int), .int .i64 (l : Int), .int .i64 (m : Int), .slice A n c, .int .i64 (n : Int), .int .i64 (-1)] 48)).alloc (.cells #[.int .i64 (o : Int), .int .i64 (l : Int), .int .i64 (m : Int)] 24) = W := ⟨_, rfl⟩
  rw [hw1] at K0 ⊢
  refine wp_region_cls (by kernel_rfl) (by kernel_rfl) ?_
  have cq3 := clsCell K0.out.k3
  have cr0 := clsCell K0.out.s0
  have cr1 := clsCell K0.out.s1
  have cr2 := clsCell K0.out.s2
  repeat (go_big_quiet_step (first | (go_at_call 63; exact clsCall (HS.out _)) | (go_at_call 88; exact clsCall (HT.out _)) | (go_at_call 89; exact clsCall (HE.out _))))
  refine wpQuiet_nil ?_
  rintro w2 ⟨⟨w2, hB2⟩, rfl⟩
  have K1 := Lib.hid (K0.out.below hB2)
  obtain ⟨q0, q1, q2, q3, q4, q5, r0, r1, r2, _, hlt⟩ := K1.out
  clear cq3 cr0 cr1 cr2 hB2 K0 hw1
  go_wp2_with fail
  clear q0 q1 q2 q3 q4 q5 r0 r1 r2 hlt
  go_loopw [25] (fun v wr => ∃ i : Nat, v = .int .i64 (i : Int) ∧ i ≤ n ∧ Hid (KvB w wr (.int .i64 (o : Int)) (.int .i64 (l : Int)) (.int .i64 (m : Int)) (.slice A n c) (.int .i64 (n : Int)) (.int .i64 (-1)) (.int .i64 (o : Int)) (.int .i64 (l : Int)) (.int .i64 (m : Int)))) (fun v _ => n - (intOf v).toNat)
  case atStart => exact ⟨0, rfl, Nat.zero_le _, K1⟩
  case round =>
    clear K1
    obtain ⟨i, rfl, hi, K2⟩ := hrel
    have hlt := K2.out.lt
    by_cases h1 : (i : Int) < n
    · have hil : i < ps.length := by rw [hn.out]; omega
      obtain ⟨⟨p, b⟩, hpb⟩ : ∃ x, ps[i]? = some x := ⟨_, List.getElem?_eq_getElem hil⟩
      have hpv := HP.out i p b hpb
      have HQ1 := HQ.out i p hpv.1 (by omega)
      obtain ⟨gb1, gb2⟩ := hHB.out b hpv.2
      have gb3 : decide (z ≤ b) = false := decide_eq_false (by have := hpv.2; omega)
      obtain ⟨ba, off, rfl, hbB, g0, g2'⟩ := (hrow.below K2.out.bel hB).pair (by omega) hpb
      replace HQ1 := Lib.hid HQ1
      have i0 : (0 : Int) ≤ i := by omega
      have hn' : (i : Nat) < n := by omega
      obtain ⟨q0, q1, q2, q3, q4, q5, r0, r1, r2, hbel, _⟩ := K2.out
      clear hpv hpb hil
      have K3 := Lib.hid (K2.out.below ((Below.refl wr.heap.size wr).alloc (Nat.le_refl _) (.cells #[.int .i64 (p : Int), .int .i64 (b : Int)] 123)))
      have P0 : (wr.alloc (.cells #[.int .i64 (p : Int), .int .i64 (b : Int)] 123)).cell? ⟨wr.heap.size, 0, none⟩ = some (.int .i64 (p : Int)) := by simp
      have P1 : (wr.alloc (.cells #[.int .i64 (p : Int), .int .i64 (b : Int)] 123)).cell? ⟨wr.heap.size, 1, none⟩ = some (.int .i64 (b : Int)) := by simp
      go_upto_region 7 with (fail)
      clear q0 q1 q2 q3 q4 q5 r0 r1 r2 g0 g2' K2
      obtain ⟨w3, hw3⟩ : ∃ W, wr.alloc (.cells #[.int .i64 (p : Int), .int .i64 (b : Int)] 123) = W := ⟨_, rfl⟩
      rw [hw3] at K3 P0 P1 ⊢
      clear hw3
      refine wp_region_cls (by kernel_rfl) (by kernel_rfl) ?_
      have cr0 := clsCell K3.out.s0
      have cr1 := clsCell K3.out.s1
      have cr2 := clsCell K3.out.s2
      have cp0 := clsCell P0
      have cp1 := clsCell P1
      repeat (go_big_quiet_step (first | (go_at_call 90; exact clsCall (HQ1.out _)) | (go_at_call 91; exact clsCall (HC.out _))))
      refine wpQuiet_nil ?_
      rintro w4 ⟨⟨w4, hB4⟩, rfl⟩
      have K4 := Lib.hid (K3.out.below hB4)
      clear cr0 cr1 cr2 cp0 cp1 P0 P1 hB4 K3
      go_wp2_with fail
      go_roundw
      case rel => exact ⟨i + 1, by go_num, by omega, K4⟩
      case measure => simp [intOf]; omega
    · have hin : i = n := by omega
      obtain ⟨q0, q1, q2, q3, q4, q5, r0, r1, r2, hbel, _⟩ := K2.out
      go_wp2_with fail
      go_ret
      exact ⟨rfl, hbel⟩

end Go.Proofs.YthlgpgaeajfchaaGreatDoor

namespace Go.Proofs.YthlgpgaeajfchaaGreatDoor
open Go.RowKit
set_option linter.unusedVariables false
set_option maxRecDepth 100000

set_option maxHeartbeats 4000000 in
theorem implDataFits (o l m : Int) (s : ByteArray) (r : Bool) (w : World) (hs : s.size ≤ 1048576) (hr : r = true ↔ dfits o l m s.data.toList) :
    Calls Tryz.prog 65 #[.agg #[.int .i64 o, .int .i64 l, .int .i64 m], .string s] w fun e w' => e = .returned (.bool r) ∧ Below w.heap.size w w' := by
  have hsz : s.data.toList.length = s.size := by simp
  by_cases h1 : sv o l m
  · have H1 := Lib.hid (fun W => implSettingValid o l m true W (btrue h1))
    by_cases h2 : s.size ≤ 2000
    · obtain ⟨on, hon⟩ : ∃ n : Nat, o = n := ⟨o.toNat, by have := h1.1; omega⟩
      obtain ⟨ln, hln⟩ : ∃ n : Nat, l = n := ⟨l.toNat, by have := h1.2.1; omega⟩
      obtain ⟨mn, hmn⟩ : ∃ n : Nat, m = n := ⟨m.toNat, by have := h1.2; omega⟩
      have hl8 := h1.2.1.2
      subst hon hln hmn
      have hr2 : r = true ↔ litsL (2 ^ ln) s.data.toList := by
        rw [hr]
        unfold dfits
        rw [hsz]
        simp only [Int.toNat_natCast]
        exact ⟨fun h => h.2.2, fun h => ⟨h1, h2, h⟩⟩
      have h2' : decide ((s.size : Int) ≤ 2000) = true := decide_eq_true (by omega)
      have h2n : decide (s.size ≤ 2000) = true := decide_eq_true h2
      have h3' : decide ((2000 : Int) < s.size) = false := decide_eq_false (by omega)
      have h3n : decide (2000 < s.size) = false := decide_eq_false (by omega)
      have e := two_pow_wrap ln (by omega)
      have hc8 : 2 ^ ln ≤ 2 ^ 8 := Nat.pow_le_pow_right (by omega) (by omega)
      obtain ⟨z, hz⟩ : ∃ z, 2 ^ ln = z := ⟨_, rfl⟩
      rw [hz] at e hr2 hc8
      replace hr2 := Lib.hid hr2
      clear hr h1 hsz hs hz
      go_enter Tryz.func65, Tryz.ntmps65
      go_wp2_with fail
      refine (H1.out _).mono ?_
      rintro e1 w1 ⟨rfl, hb1⟩
      have hB1 := hb1.mono (show w.heap.size + 1 ≤ _ by simp)
      have hX := Lib.hid (fun (W : World) (hW : Below w1.heap.size w1 W) => And.intro (box3 (hB1.trans (hW.mono (by have := hB1.size; simp at this; omega)))) (((Below.refl _ _).alloc (Nat.le_refl _) _).trans ((hB1.trans (hW.mono (by have := hB1.size; simp at this; omega))).mono (show w.heap.size ≤ _ by omega))))
      clear hb1 hB1
      go_wp2_with fail
      go_loopw [16] (fun v wr => ∃ i : Nat, v = .int .i64 (i : Int) ∧ i ≤ s.size ∧ Hid (litsL z (s.data.toList.take i)) ∧ Hid (Below w1.heap.size w1 wr)) (fun v _ => s.size - (intOf v).toNat)
      case atStart => exact ⟨0, rfl, Nat.zero_le _, Lib.hid (fun b hb => by simp at hb), Lib.hid (Below.refl _ _)⟩
      case round =>
        obtain ⟨i, rfl, hi, hf, hbel⟩ := hrel
        obtain ⟨⟨q0, q1, q2, _⟩, hBw⟩ := hX.out _ hbel.out
        by_cases h1 : i < s.size
        · obtain ⟨x, hx⟩ : ∃ x, s[i].toNat = x := ⟨_, rfl⟩
          have hxb : x < 256 := by rw [← hx]; exact s[i].toNat_lt
          have hil : i < s.data.toList.length := by simpa using h1
          have hxl : s.data.toList[i].toNat = x := by rw [← hx]; simp [ByteArray.getElem_eq_getElem_data]
          have i0 : (0 : Int) ≤ i := by omega
          have i1 : (i : Int) < s.size := by omega
          by_cases h2 : x < z
          · have hg : decide (z ≤ x) = false := decide_eq_false (by omega)
            have hg2 : decide ((z : Int) ≤ x) = false := decide_eq_false (by omega)
            have hf2 : Hid (litsL z (s.data.toList.take (i + 1))) := Lib.hid (by
              rw [List.take_succ_eq_append_getElem hil]
              intro b hb
              rcases List.mem_append.1 hb with h | h
              · exact hf.out b h
              · rw [List.mem_singleton] at h; subst h; rw [hxl]; exact h2)
            replace hBw := Lib.hid hBw
            clear hxl
            go_upto_region 6 with (fail)
            go_quiet (fail)
            go_wp2_with fail
            go_roundw
            case rel => exact ⟨i + 1, by go_num, by omega, hf2, Lib.hid (below_drewN hbel.out _)⟩
            case measure => simp [intOf]; omega
          · have hg : decide (z ≤ x) = true := decide_eq_true (by omega)
            have hg2 : decide ((z : Int) ≤ x) = true := decide_eq_true (by omega)
            have hrf : r = false := by
              cases r with
              | false => rfl
              | true =>
                have := hr2.out.1 rfl s.data.toList[i] (List.getElem_mem hil)
                omega
            subst hrf
            replace hBw := Lib.hid hBw
            clear hxl
            go_upto_region 6 with (fail)
            go_quiet (fail)
            go_wp2_with fail
            go_ret
            exact ⟨rfl, below_drewN hBw.out _⟩
        · have hrt : r = true := hr2.out.2 (by
            have := hf.out
            rw [List.take_of_length_le (by simp; omega)] at this
            exact this)
          subst hrt
          replace hBw := Lib.hid hBw
          go_wp2_with fail
          go_ret
          exact ⟨rfl, hBw.out⟩
    · have hrf : r = false := by
        cases r with
        | false => rfl
        | true => have := (hr.1 rfl).2.1; omega
      subst hrf
      have h2' : decide ((2000 : Int) < s.size) = true := decide_eq_true (by omega)
      have h2n : decide (2000 < s.size) = true := decide_eq_true (by omega)
      clear hr h1 hsz
      go_enter Tryz.func65, Tryz.ntmps65
      go_wp2_with fail
      refine (H1.out _).mono ?_
      rintro e w1 ⟨rfl, hb1⟩
      have hB1 := hb1.mono (show w.heap.size + 1 ≤ _ by simp)
      have hW1 := Lib.hid (((Below.refl _ _).alloc (Nat.le_refl _) _).trans (hB1.mono (show w.heap.size ≤ _ by omega)))
      clear hb1 hB1
      go_wp2_with fail
      go_ret
      exact ⟨rfl, hW1.out⟩
  · have hrf : r = false := by
      cases r with
      | false => rfl
      | true => exact absurd (hr.1 rfl).1 h1
    subst hrf
    have H1 := Lib.hid (fun W => implSettingValid o l m false W (bfalse h1))
    clear hr h1 hsz
    go_enter Tryz.func65, Tryz.ntmps65
    go_wp2_with fail
    refine (H1.out _).mono ?_
    rintro e w1 ⟨rfl, hb1⟩
    have hB1 := hb1.mono (show w.heap.size + 1 ≤ _ by simp)
    have hW1 := Lib.hid (((Below.refl _ _).alloc (Nat.le_refl _) _).trans (hB1.mono (show w.heap.size ≤ _ by omega)))
    clear hb1 hB1
    go_wp2_with fail
    go_ret
    exact ⟨rfl, hW1.out⟩

end Go.Proofs.YthlgpgaeajfchaaGreatDoor

namespace Go.Proofs.YthlgpgaeajfchaaGreatDoor
open Go.RowKit
set_option linter.unusedVariables false
set_option maxRecDepth 100000

set_option maxHeartbeats 1000000 in
theorem implStartYes (o l m : Nat) (w : World) (h : sv o l m) :
    Calls Tryz.prog 42 #[.agg #[.int .i64 (o : Int), .int .i64 (l : Int), .int .i64 (m : Int)]] w fun e w' => e = .returned (.tuple #[.agg #[.int .i64 (o : Int), .int .i64 (l : Int), .int .i64 (m : Int), .slice none 0 0, .int .i64 0, .int .i64 (-1)], .bool true]) ∧ Below w.heap.size w w' := by
  have H := Lib.hid (fun W => implSettingValid o l m true W (btrue h))
  clear h
  go_enter Tryz.func42, Tryz.ntmps42
  go_wp2_with fail
  refine (H.out _).mono ?_
  rintro e w1 ⟨rfl, hb1⟩
  obtain ⟨hc, hf⟩ := bcell hb1
  have hb2 := (((((((((Below.refl w.heap.size w).alloc (Nat.le_refl _) _).alloc (by simp) _).trans (hb1.mono (by simp; omega))).setCell (p := ⟨w.heap.size + 1, 0, none⟩) (by simp) (.int .i64 (o : Int))).setCell (p := ⟨w.heap.size + 1, 1, none⟩) (by simp) (.int .i64 (l : Int))).setCell (p := ⟨w.heap.size + 1, 2, none⟩) (by simp) (.int .i64 (m : Int))).setCell (p := ⟨w.heap.size + 1, 3, none⟩) (by simp) (.slice none 0 0)).setCell (p := ⟨w.heap.size + 1, 4, none⟩) (by simp) (.int .i64 0)).setCell (p := ⟨w.heap.size + 1, 5, none⟩) (by simp) (.int .i64 (-1))
  replace hb2 := Lib.hid hb2
  clear hb1
  go_wp2_with fail
  refine bodyPost_ret (v := .tuple #[.agg #[.int .i64 (o : Int), .int .i64 (l : Int), .int .i64 (m : Int), .slice none 0 0, .int .i64 0, .int .i64 (-1)], .bool true]) (by simp [results, Tryz.results42, go_sem, hc]) rfl ?_
  exact ⟨rfl, hb2.out⟩

set_option maxHeartbeats 1000000 in
theorem implStartNo (o l m : Int) (w : World) (h : ¬ sv o l m) :
    Calls Tryz.prog 42 #[.agg #[.int .i64 o, .int .i64 l, .int .i64 m]] w fun e w' => e = .returned (.tuple #[.agg #[.int .i64 0, .int .i64 0, .int .i64 0, .slice none 0 0, .int .i64 0, .int .i64 0], .bool false]) ∧ Below w.heap.size w w' := by
  have H := Lib.hid (fun W => implSettingValid o l m false W (bfalse h))
  clear h
  go_enter Tryz.func42, Tryz.ntmps42
  go_wp2_with fail
  refine (H.out _).mono ?_
  rintro e w1 ⟨rfl, hb1⟩
  obtain ⟨hc, hf⟩ := bcell hb1
  have hb2 := (((((((((Below.refl w.heap.size w).alloc (Nat.le_refl _) _).alloc (by simp) _).trans (hb1.mono (by simp; omega))).setCell (p := ⟨w.heap.size + 1, 0, none⟩) (by simp) (.int .i64 0)).setCell (p := ⟨w.heap.size + 1, 1, none⟩) (by simp) (.int .i64 0)).setCell (p := ⟨w.heap.size + 1, 2, none⟩) (by simp) (.int .i64 0)).setCell (p := ⟨w.heap.size + 1, 3, none⟩) (by simp) (.slice none 0 0)).setCell (p := ⟨w.heap.size + 1, 4, none⟩) (by simp) (.int .i64 0)).setCell (p := ⟨w.heap.size + 1, 5, none⟩) (by simp) (.int .i64 0)
  replace hb2 := Lib.hid hb2
  clear hb1
  go_wp2_with fail
  refine bodyPost_ret (v := .tuple #[.agg #[.int .i64 0, .int .i64 0, .int .i64 0, .slice none 0 0, .int .i64 0, .int .i64 0], .bool false]) (by simp [results, Tryz.results42, go_sem, hc]) rfl ?_
  exact ⟨rfl, hb2.out⟩

/-- Two boxes of what is known, one behind the other, and nothing else of the call's own between them. -/
structure Two6 (w wr : World) (a b c d e f : Value) : Prop where
  k : wr.cell? ⟨w.heap.size, 0, none⟩ = some a ∧ wr.cell? ⟨w.heap.size, 1, none⟩ = some b ∧ wr.cell? ⟨w.heap.size, 2, none⟩ = some c ∧ wr.cell? ⟨w.heap.size, 3, none⟩ = some d ∧ wr.cell? ⟨w.heap.size, 4, none⟩ = some e ∧ wr.cell? ⟨w.heap.size, 5, none⟩ = some f
  kf : wr.frozen? ⟨w.heap.size, 0, none⟩ = false ∧ wr.frozen? ⟨w.heap.size, 1, none⟩ = false ∧ wr.frozen? ⟨w.heap.size, 2, none⟩ = false ∧ wr.frozen? ⟨w.heap.size, 3, none⟩ = false ∧ wr.frozen? ⟨w.heap.size, 4, none⟩ = false ∧ wr.frozen? ⟨w.heap.size, 5, none⟩ = false
  s : wr.cell? ⟨w.heap.size + 1, 0, none⟩ = some (.int .i64 0) ∧ wr.cell? ⟨w.heap.size + 1, 1, none⟩ = some (.int .i64 0) ∧ wr.cell? ⟨w.heap.size + 1, 2, none⟩ = some (.int .i64 0) ∧ wr.cell? ⟨w.heap.size + 1, 3, none⟩ = some (.slice none 0 0) ∧ wr.cell? ⟨w.heap.size + 1, 4, none⟩ = some (.int .i64 0) ∧ wr.cell? ⟨w.heap.size + 1, 5, none⟩ = some (.int .i64 0)
  sf : wr.frozen? ⟨w.heap.size + 1, 0, none⟩ = false ∧ wr.frozen? ⟨w.heap.size + 1, 1, none⟩ = false ∧ wr.frozen? ⟨w.heap.size + 1, 2, none⟩ = false ∧ wr.frozen? ⟨w.heap.size + 1, 3, none⟩ = false ∧ wr.frozen? ⟨w.heap.size + 1, 4, none⟩ = false ∧ wr.frozen? ⟨w.heap.size + 1, 5, none⟩ = false
  bel : Below w.heap.size w wr
  lt : w.heap.size + 2 ≤ wr.heap.size

theorem Two6.new (w : World) (T U : TypeId) (a b c d e f : Value) : Two6 w ((w.alloc (.cells #[a, b, c, d, e, f] T)).alloc (.cells #[.int .i64 0, .int .i64 0, .int .i64 0, .slice none 0 0, .int .i64 0, .int .i64 0] U)) a b c d e f := by
  have g1 := two6 (w := w) (w0 := w) (H := w.heap.size) (a := a) (b := b) (c := c) (d := d) (e := e) (f := f) (T := T) rfl (((Below.refl _ _).alloc (by simp) (.cells #[.int .i64 0, .int .i64 0, .int .i64 0, .slice none 0 0, .int .i64 0, .int .i64 0] U)))
  have g2 := two6 (w := w) (w0 := w.alloc (.cells #[a, b, c, d, e, f] T)) (H := w.heap.size + 1) (a := .int .i64 0) (b := .int .i64 0) (c := .int .i64 0) (d := .slice none 0 0) (e := .int .i64 0) (f := .int .i64 0) (T := U) (by simp) (Below.refl _ _)
  exact ⟨g1.1, g1.2, g2.1, g2.2, ((Below.refl _ _).alloc (Nat.le_refl _) _).alloc (by simp) _, by simp⟩

theorem Two6.below {w wr wx : World} {a b c d e f : Value} (h : Two6 w wr a b c d e f) (hb : Below wr.heap.size wr wx) : Two6 w wx a b c d e f := by
  have hl := h.lt
  have hs := hb.size
  have hc : ∀ (g i : Nat), g < wr.heap.size → wx.cell? ⟨g, i, none⟩ = wr.cell? ⟨g, i, none⟩ := fun g i hg => hb.cell (p := ⟨g, i, none⟩) hg
  have hf : ∀ (g i : Nat), g < wr.heap.size → wx.frozen? ⟨g, i, none⟩ = wr.frozen? ⟨g, i, none⟩ := fun g i hg => hb.frozen (p := ⟨g, i, none⟩) hg
  obtain ⟨⟨k0, k1, k2, k3, k4, k5⟩, ⟨f0, f1, f2, f3, f4, f5⟩, ⟨s0, s1, s2, s3, s4, s5⟩, ⟨g0, g1, g2, g3, g4, g5⟩, hbel, _⟩ := h
  exact ⟨⟨(hc _ _ (by omega)).trans k0, (hc _ _ (by omega)).trans k1, (hc _ _ (by omega)).trans k2, (hc _ _ (by omega)).trans k3, (hc _ _ (by omega)).trans k4, (hc _ _ (by omega)).trans k5⟩,
    ⟨(hf _ _ (by omega)).trans f0, (hf _ _ (by omega)).trans f1, (hf _ _ (by omega)).trans f2, (hf _ _ (by omega)).trans f3, (hf _ _ (by omega)).trans f4, (hf _ _ (by omega)).trans f5⟩,
    ⟨(hc _ _ (by omega)).trans s0, (hc _ _ (by omega)).trans s1, (hc _ _ (by omega)).trans s2, (hc _ _ (by omega)).trans s3, (hc _ _ (by omega)).trans s4, (hc _ _ (by omega)).trans s5⟩,
    ⟨(hf _ _ (by omega)).trans g0, (hf _ _ (by omega)).trans g1, (hf _ _ (by omega)).trans g2, (hf _ _ (by omega)).trans g3, (hf _ _ (by omega)).trans g4, (hf _ _ (by omega)).trans g5⟩,
    hbel.trans (hb.mono (by omega)), by omega⟩

set_option maxHeartbeats 4000000 in
theorem implCopyKnown (k : Kn) (A : Option Addr) (c B : Nat) (w : World) (h : k.Valid) (hA : k.At w B A) (hB : B ≤ w.heap.size) :
    Calls Tryz.prog 96 #[k.val A c] w fun e w' => ∃ A' c', e = .returned (k.val A' c') ∧ k.Own w' w.heap.size A' c' ∧ Below w.heap.size w w' := by
  have hps := h.room
  have hpw := h.pow
  have hlen : (cellsP k.ps).length = k.ps.length * 2 := cellsP_length _
  have hx1 : ∀ u ∈ cellsP k.ps, u.oneCell' = true := cellsP_oneCell _
  have hrow := hA
  unfold Kn.At at hrow
  have hat : ∀ (W : World) (base : Nat) (A' : Option Addr) (c' : Nat), W.ownsRow base 123 2 (.slice A' k.ps.length c') k.ps.length (cellsP k.ps) → k.Own W base A' c' := fun W base A' c' hr => hr
  have hv : ∀ A' c', k.val A' c' = .agg #[.int .i64 (k.o : Int), .int .i64 (k.l : Int), .int .i64 (k.m : Int), .slice A' k.ps.length c', .int .i64 (k.base : Int), .int .i64 k.lastI] := fun A' c' => rfl
  obtain ⟨xs, hxs⟩ : ∃ xs, cellsP k.ps = xs := ⟨_, rfl⟩
  rw [hxs] at hlen hx1 hrow hat
  have hnb : k.ps.length ≤ 1023 := by omega
  rw [hv A c]
  obtain ⟨n, hn⟩ : ∃ n, k.ps.length = n := ⟨_, rfl⟩
  obtain ⟨o, ho⟩ : ∃ x, k.o = x := ⟨_, rfl⟩
  obtain ⟨l, hl'⟩ : ∃ x, k.l = x := ⟨_, rfl⟩
  obtain ⟨m, hm⟩ : ∃ x, k.m = x := ⟨_, rfl⟩
  obtain ⟨b, hb⟩ : ∃ x, k.base = x := ⟨_, rfl⟩
  obtain ⟨q, hq⟩ : ∃ x, k.lastI = x := ⟨_, rfl⟩
  simp only [ho, hl', hm, hb, hq, hn] at hv
  rw [hn] at hat hrow hlen hnb
  rw [ho, hl', hm, hb, hq, hn]
  replace hat := Lib.hid hat
  replace hv := Lib.hid hv
  replace hx1 := Lib.hid hx1
  clear hps hpw hxs hlen h hA hn ho hl' hm hb hq
  have K0 := Lib.hid (Two6.new w 48 48 (.int .i64 (o : Int)) (.int .i64 (l : Int)) (.int .i64 (m : Int)) (.slice A n c) (.int .i64 (b : Int)) (.int .i64 q))
  go_enter Tryz.func96, Tryz.ntmps96
  go_upto_region 1 with (fail)
  obtain ⟨w1, hw1⟩ : ∃ W, (w.alloc (.cells #[.int .i64 (o : Int), .int .i64 (l : Int), .int .i64 (m : Int), .slice A n c, .int .i64 (b : Int), .int .i64 q] 48)).alloc (.cells #[.int .i64 0, .int .i64 0, .int .i64 0, .slice none 0 0, .int .i64 0, .int .i64 0] 48) = W := ⟨_, rfl⟩
  rw [hw1] at K0 ⊢
  obtain ⟨⟨q0, q1, q2, q3, q4, q5⟩, _, _, _, hb1, hlt⟩ := K0.out
  go_wp2_with (first
    | (at_builtin; refine wpList_append_row _ elemPair rfl (.const (.slice none 0 0)) (.tmp 4) rfl (w.heap.size + 2) _ _ _ rfl (World.ownsRow_nil _ _ _ _) B A n c xs rfl (hrow.below hb1 hB) hx1.out (by unfold maxLen; omega) (by omega) (by omega) ?_))
  intro v2 w2 hv2 hg2 hat2
  obtain ⟨A2, c2, rfl, hc2, _⟩ := own_form hv2
  have hB2 : Below w1.heap.size w1 w2 := (Below.refl _ _).grown hg2 (Nat.le_refl _) (fun g hg => by cases hg)
  have K2 := Lib.hid (K0.out.below hB2)
  have HV2 := Lib.hid hv2
  clear q0 q1 q2 q3 q4 q5 hv2 hg2 hat2 hB2 hb1 hlt K0 hw1
  obtain ⟨⟨q0, q1, q2, q3, q4, q5⟩, ⟨f0, f1, f2, f3, f4, f5⟩, ⟨r0, r1, r2, r3, r4, r5⟩, ⟨g0, g1, g2, g3, g4, g5⟩, hb2, hlt⟩ := K2.out
  have hb6 := Lib.hid (((((((hb2.setCell (p := ⟨w.heap.size, 3, none⟩) (by simp) (.slice A2 n c2)).setCell (p := ⟨w.heap.size + 1, 0, none⟩) (by simp) (.int .i64 (o : Int))).setCell (p := ⟨w.heap.size + 1, 1, none⟩) (by simp) (.int .i64 (l : Int))).setCell (p := ⟨w.heap.size + 1, 2, none⟩) (by simp) (.int .i64 (m : Int))).setCell (p := ⟨w.heap.size + 1, 3, none⟩) (by simp) (.slice A2 n c2)).setCell (p := ⟨w.heap.size + 1, 4, none⟩) (by simp) (.int .i64 (b : Int))).setCell (p := ⟨w.heap.size + 1, 5, none⟩) (by simp) (.int .i64 q))
  have hv6 := Lib.hid (ownsRow_setCell_below (ownsRow_setCell_below (ownsRow_setCell_below (ownsRow_setCell_below (ownsRow_setCell_below (ownsRow_setCell_below (ownsRow_setCell_below HV2.out (a := ⟨w.heap.size, 3, none⟩) (by simp) (.slice A2 n c2)) (a := ⟨w.heap.size + 1, 0, none⟩) (by simp) (.int .i64 (o : Int))) (a := ⟨w.heap.size + 1, 1, none⟩) (by simp) (.int .i64 (l : Int))) (a := ⟨w.heap.size + 1, 2, none⟩) (by simp) (.int .i64 (m : Int))) (a := ⟨w.heap.size + 1, 3, none⟩) (by simp) (.slice A2 n c2)) (a := ⟨w.heap.size + 1, 4, none⟩) (by simp) (.int .i64 (b : Int))) (a := ⟨w.heap.size + 1, 5, none⟩) (by simp) (.int .i64 q))
  clear hb2
  go_wp2_with fail
  refine bodyPost_ret (v := .agg #[.int .i64 (o : Int), .int .i64 (l : Int), .int .i64 (m : Int), .slice A2 n c2, .int .i64 (b : Int), .int .i64 q]) (by simp [results, Tryz.results96, go_sem, r0, r1, r2, r3, r4, r5]) rfl ?_
  exact ⟨A2, c2, congrArg Ending.returned (hv.out A2 c2).symm, hat.out _ _ _ _ (own_base hv6.out (by omega)), hb6.out⟩

end Go.Proofs.YthlgpgaeajfchaaGreatDoor
