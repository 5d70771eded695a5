/-
  The walks of the laws FnJoin and FnTake: they return true for all drawn containers.
-/
import Derived.Test.YthfckbfllodcjaaDrawJoin
import Derived.Test.YthfckbfllodcjaaContText
import Derived.Test.YthfckbfllodcjaaJoinTake
namespace Go.Proofs.Ythfckbfllodcjaa
open Go.RowKit
set_option linter.unusedVariables false

theorem textsFrom_renum (bs : List Blk) : ∀ i j, textsFrom i (renumL j bs) = textsFrom i bs := by
  induction bs with
  | nil => intro i j; rfl
  | cons b bs ih =>
    intro i j
    show textB (renum i (renum j b)) ++ textsFrom (i + 1) (renumL (j + 1) bs) = _
    rw [ih]; rfl

theorem renumL_okb {bs : List Blk} (h : ∀ b ∈ bs, b.okb) (i : Nat) : ∀ b ∈ renumL i bs, b.okb := by
  intro b hb
  obtain ⟨j, hj, rfl⟩ := List.mem_iff_getElem.1 hb
  have h1 := renumL_get bs i j
  rw [List.getElem?_eq_getElem hj] at h1
  cases h2 : bs[j]? with
  | none => rw [h2] at h1; cases h1
  | some c =>
    rw [h2] at h1
    simp at h1
    rw [h1]
    exact h c (List.mem_of_getElem? h2)

theorem numbered_okb {bs : List Blk} (h : Numbered bs) : ∀ b ∈ bs, b.okb := fun b hb => Blk.okb_of (h.of_mem hb)

theorem contB_szs {s : ByteArray} {bs : List Blk} (h : contB s = some bs) : szs bs ≤ 2000 := by
  have main : ∀ (n : Nat) (k : Nat) (acc bs : List Blk), s.size - k ≤ n → conts s k acc = some bs → szs bs ≤ 2000 := by
    intro n
    induction n with
    | zero =>
      intro k acc bs hn hc
      rw [conts_end (by omega)] at hc
      split at hc
      · injection hc with hc; subst hc; assumption
      · cases hc
    | succ n ih =>
      intro k acc bs hn hc
      by_cases hlt : k < s.size
      · by_cases h1 : pbOk s k ∧ (pbBlk s k).num = acc.length
        · rw [conts_next hlt h1.1 h1.2] at hc
          have := pbEnd_ge s k
          exact ih _ _ _ (by omega) hc
        · rw [conts_bad hlt h1] at hc; cases hc
      · rw [conts_end (by omega)] at hc
        split at hc
        · injection hc with hc; subst hc; assumption
        · cases hc
  exact main s.size 0 [] bs (by omega) h

/-- Joined containers are cut into both again. -/
theorem join_facts {a b : ByteArray} {p q : List Blk} (ha : contB a = some p) (hb : contB b = some q) (h40 : p.length + q.length ≤ 40) (hz : szs p + szs q ≤ 2000) :
    ∃ x, joinC (some p) (some q) = some x ∧ contB x = some (renumL 0 (p ++ q)) ∧ takeC (contB x) 0 (p.length : Int) = some a ∧ takeC (contB x) (p.length : Int) (q.length : Int) = some b ∧ x.size = a.size + b.size := by
  have np := contB_numbered ha
  have nq := contB_numbered hb
  have hl : (p ++ q).length ≤ 40 := by rw [List.length_append]; exact h40
  have hs : szs (p ++ q) ≤ 2000 := by rw [szs_append]; exact hz
  have hok : ∀ c ∈ p ++ q, c.okb := fun c hc => by
    rcases List.mem_append.1 hc with h | h
    · exact numbered_okb np c h
    · exact numbered_okb nq c h
  have hx := contB_texts hok hl hs
  have sp : szs p ≤ 2000 := by omega
  have sq : szs q ≤ 2000 := by omega
  refine ⟨textsFrom 0 (p ++ q), mkC_yes hl hs, hx, ?_, ?_, ?_⟩
  · rw [hx]
    have := takeC_yes (bs := renumL 0 (p ++ q)) (f := 0) (k := p.length) (by rw [renumL_length, List.length_append]; omega)
    rw [Int.natCast_zero] at this
    rw [this, List.drop_zero, renumL_append, List.take_left' (renumL_length p 0), mkC_yes (by rw [renumL_length]; omega) (by rw [renumL_szs]; exact sp), textsFrom_renum, contB_text ha]
  · rw [hx]
    rw [takeC_yes (bs := renumL 0 (p ++ q)) (f := p.length) (k := q.length) (by rw [renumL_length, List.length_append]; omega), renumL_append, List.drop_left' (renumL_length p 0), List.take_of_length_le (by rw [renumL_length]; omega),
      mkC_yes (by rw [renumL_length]; omega) (by rw [renumL_szs]; exact sq), textsFrom_renum, contB_text hb]
  · have hsz : ∀ (bs : List Blk) (i j : Nat), (textsFrom i bs).size = (textsFrom j bs).size := by
      intro bs
      induction bs with
      | nil => intro i j; rfl
      | cons c bs ih =>
        intro i j
        show (textB (renum i c) ++ textsFrom (i + 1) bs).size = (textB (renum j c) ++ textsFrom (j + 1) bs).size
        rw [ByteArray.size_append, ByteArray.size_append, textB_size, textB_size, ih (i + 1) (j + 1)]
        rfl
    rw [textsFrom_append, ByteArray.size_append, contB_text ha, hsz q _ 0, contB_text hb]

theorem implContainerSizeYes (s : ByteArray) (bs : List Blk) (w : World) (hs : s.size ≤ 1048576) (h : contB s = some bs) :
    Calls Try.prog 10 #[.string s] w fun e w' => e = .returned (.int .i64 (szs bs : Int)) ∧ Below w.heap.size w w' := by
  have hnum := contB_numbered h
  have h40 := hnum.length
  have hz := contB_szs h
  obtain ⟨n, hn⟩ : ∃ n, bs.length = n := ⟨_, rfl⟩
  have H1 := Lib.hid (fun W => implContainerBlocksYes s bs n W hs h hn)
  have HS := Lib.hid (fun (A : Option Addr) (c : Nat) (W : World) (hh : Row W W.heap.size 4 A n (cellsB bs)) => implSizeOf A n c W.heap.size bs W hh (Nat.le_refl _) (by omega) (by omega))
  obtain ⟨z, hzz⟩ : ∃ z, szs bs = z := ⟨_, rfl⟩
  rw [hzz] at HS ⊢
  clear h hnum hz hzz hn
  go_enter Try.func10, Try.ntmps10
  go_wp2_with fail
  refine (H1.out _).mono ?_
  rintro e w1 ⟨A1, c1, rfl, ho1, hb1⟩
  have hr := Lib.hid (Row.of_own ho1)
  clear ho1
  go_wp2_with fail
  refine (HS.out _ _ _ hr.out).mono ?_
  rintro e w2 ⟨rfl, hb2⟩
  go_wp2_with fail
  go_ret
  exact ⟨rfl, hb1.trans (hb2.mono hb1.size)⟩

set_option maxHeartbeats 8000000 in
set_option maxRecDepth 100000 in
theorem lawFnJoin (A : Option Addr) (n c : Nat) (bs : List UInt8) (w : World) (h : ByteRow w A n bs) (hnc : n ≤ c) :
    Calls Try.prog 3 #[.slice A n c] w fun e w' => e = .returned (.bool true) ∧ Below w.heap.size w w' := by
  have hle := h.le
  unfold maxLen at hle
  by_cases hn : n ≤ 1048576
  · go_enter Try.func3, Try.ntmps3
    go_wp2_with fail
    refine (specDrawJoinContainers A n c bs _ h hnc).mono ?_
    rintro e w1 ⟨a, b, rfl, ha, hb, hb1⟩
    have HI := fun W => implJoinContainers a b W (by omega) (by omega)
    have HS := fun W => specJoinContainers a b W (by omega) (by omega)
    replace hb1 := Lib.hid hb1
    obtain ⟨ca, hca⟩ : ∃ ca, contB a = ca := ⟨_, rfl⟩
    obtain ⟨cb, hcb⟩ : ∃ cb, contB b = cb := ⟨_, rfl⟩
    rw [hca, hcb] at HI HS
    by_cases hj : joinC ca cb = none
    · rw [hj] at HI HS
      unfold optV at HI HS
      replace HI := Lib.hid HI
      replace HS := Lib.hid HS
      clear hca hcb hj
      go_wp2_with fail
      refine (HI.out _).mono ?_
      rintro e w2 ⟨rfl, hb2⟩
      have hB2 := Lib.hid (hb1.out.trans (hb2.mono hb1.out.size))
      clear hb2
      go_wp2_with fail
      refine (HS.out _).mono ?_
      rintro e w3 ⟨rfl, hb3⟩
      have hB3 := Lib.hid (hB2.out.trans (hb3.mono hB2.out.size))
      clear hb3
      go_wp2_with fail
      go_ret
      exact ⟨rfl, hB3.out⟩
    · obtain ⟨p, rfl⟩ : ∃ p, ca = some p := by
        cases ca with
        | none => exact absurd rfl hj
        | some p => exact ⟨p, rfl⟩
      obtain ⟨q, rfl⟩ : ∃ q, cb = some q := by
        cases cb with
        | none => exact absurd rfl hj
        | some q => exact ⟨q, rfl⟩
      have hbd : (p ++ q).length ≤ 40 ∧ szs (p ++ q) ≤ 2000 := by
        by_cases hh : (p ++ q).length ≤ 40 ∧ szs (p ++ q) ≤ 2000
        · exact hh
        · exact absurd (mkC_no hh) hj
      rw [List.length_append, szs_append] at hbd
      obtain ⟨x, hx, hxc, ht1, ht2, hxs⟩ := join_facts hca hcb hbd.1 hbd.2
      rw [hx] at HI HS
      unfold optV at HI HS
      have hxz : x.size ≤ 1048576 := by omega
      obtain ⟨pn, hpn⟩ : ∃ n, p.length = n := ⟨_, rfl⟩
      obtain ⟨qn, hqn⟩ : ∃ n, q.length = n := ⟨_, rfl⟩
      have HA := Lib.hid (fun W => implContainerBlocksYes a p pn W (by omega) hca hpn)
      have HB := Lib.hid (fun W => implContainerBlocksYes b q qn W (by omega) hcb hqn)
      rw [hpn] at ht1
      rw [hpn, hqn] at ht2
      have H1 := fun W => implTakeBlocks x 0 (pn : Int) W hxz (by omega) (by omega)
      have H2 := fun W => implTakeBlocks x (pn : Int) (qn : Int) W hxz (by omega) (by omega)
      rw [ht1] at H1
      rw [ht2] at H2
      unfold optV at H1 H2
      have HX := fun W => implContainerSizeYes x (renumL 0 (p ++ q)) W hxz hxc
      rw [renumL_szs, szs_append] at HX
      have HP := Lib.hid (fun W => implContainerSizeYes a p W (by omega) hca)
      have HQ := Lib.hid (fun W => implContainerSizeYes b q W (by omega) hcb)
      obtain ⟨zp, hzp⟩ : ∃ z, szs p = z := ⟨_, rfl⟩
      obtain ⟨zq, hzq⟩ : ∃ z, szs q = z := ⟨_, rfl⟩
      rw [hzp, hzq] at HX
      rw [hzp] at HP
      rw [hzq] at HQ
      obtain ⟨zx, hzx⟩ : ∃ z, zp + zq = z := ⟨_, rfl⟩
      rw [hzx] at HX
      rw [hzp, hzq] at hbd
      have hzi : (zp : Int) + zq = zx := by omega
      replace HI := Lib.hid HI
      replace HS := Lib.hid HS
      replace H1 := Lib.hid H1
      replace H2 := Lib.hid H2
      replace HX := Lib.hid HX
      obtain ⟨az, haz⟩ : ∃ z, a.size = z := ⟨_, rfl⟩
      obtain ⟨bz, hbz⟩ : ∃ z, b.size = z := ⟨_, rfl⟩
      obtain ⟨xs, hxss⟩ : ∃ z, x.size = z := ⟨_, rfl⟩
      have hsi : (az : Int) + bz = xs := by omega
      have hazb : az ≤ 10000 := by omega
      have hbzb : bz ≤ 10000 := by omega
      clear hca hcb hj hx hxc ht1 ht2 hpn hqn hzp hzq hzx hxs
      go_wp2_with fail
      refine (HI.out _).mono ?_
      rintro e w2 ⟨rfl, hb2⟩
      have hB2 := Lib.hid (hb1.out.trans (hb2.mono hb1.out.size))
      clear hb2
      go_wp2_with fail
      refine (HS.out _).mono ?_
      rintro e w3 ⟨rfl, hb3⟩
      have hB3 := Lib.hid (hB2.out.trans (hb3.mono hB2.out.size))
      clear hb3
      go_wp2_with fail
      refine (HA.out _).mono ?_
      rintro e w4 ⟨A4, c4, rfl, _, hb4⟩
      have hB4 := Lib.hid (hB3.out.trans (hb4.mono hB3.out.size))
      clear hb4
      go_wp2_with fail
      refine (HB.out _).mono ?_
      rintro e w5 ⟨A5, c5, rfl, _, hb5⟩
      have hB5 := Lib.hid (hB4.out.trans (hb5.mono hB4.out.size))
      clear hb5
      go_wp2_with fail
      refine (H1.out _).mono ?_
      rintro e w6 ⟨rfl, hb6⟩
      have hB6 := Lib.hid (hB5.out.trans (hb6.mono hB5.out.size))
      clear hb6
      go_wp2_with fail
      refine (H2.out _).mono ?_
      rintro e w7 ⟨rfl, hb7⟩
      have hB7 := Lib.hid (hB6.out.trans (hb7.mono hB6.out.size))
      clear hb7
      go_wp2_with fail
      refine (HX.out _).mono ?_
      rintro e w8 ⟨rfl, hb8⟩
      have hB8 := Lib.hid (hB7.out.trans (hb8.mono hB7.out.size))
      clear hb8
      go_wp2_with fail
      refine (HP.out _).mono ?_
      rintro e w9 ⟨rfl, hb9⟩
      have hB9 := Lib.hid (hB8.out.trans (hb9.mono hB8.out.size))
      clear hb9
      go_wp2_with fail
      refine (HQ.out _).mono ?_
      rintro e w10 ⟨rfl, hb10⟩
      have hB10 := Lib.hid (hB9.out.trans (hb10.mono hB9.out.size))
      clear hb10
      go_wp2_with fail
      go_ret
      exact ⟨rfl, hB10.out⟩
  · go_enter Try.func3, Try.ntmps3
    go_wp2_with fail
    go_ret
    exact ⟨rfl, Below.refl _ _⟩

theorem texts_mk {bs : List Blk} (h : ∀ b ∈ bs, b.okb) (h1 : bs.length ≤ 40) (h2 : szs bs ≤ 2000) : mkC bs = some (textsFrom 0 bs) ∧ contB (textsFrom 0 bs) = some (renumL 0 bs) := ⟨mkC_yes h1 h2, contB_texts h h1 h2⟩

theorem szs_take_drop (bs : List Blk) (f k : Nat) : szs (bs.take f) + szs ((bs.drop f).take k) + szs (bs.drop (f + k)) = szs bs := by
  have h1 : bs = bs.take f ++ ((bs.drop f).take k ++ bs.drop (f + k)) := by
    rw [← List.drop_drop, List.take_append_drop, List.take_append_drop]
  conv => rhs; rw [h1]
  rw [szs_append, szs_append]
  omega

/-- Blocks that are taken, with those before and behind them, make the container. -/
theorem take_facts {s : ByteArray} {bs : List Blk} (hs : contB s = some bs) {f k : Nat} (h : f + k ≤ bs.length) :
    ∃ x rest before y, takeC (contB s) (f : Int) (k : Int) = some x ∧ takeC (contB s) ((f + k : Nat) : Int) ((bs.length - f - k : Nat) : Int) = some rest ∧ takeC (contB s) 0 (f : Int) = some before ∧
      joinC (contB before) (contB x) = some y ∧ joinC (contB y) (contB rest) = some s ∧ x.size ≤ 3000 ∧ rest.size ≤ 3000 ∧ before.size ≤ 3000 ∧ y.size ≤ 3000 := by
  have nb := contB_numbered hs
  have h40 := nb.length
  have hz := contB_szs hs
  have hok := numbered_okb nb
  have hsum := szs_take_drop bs f k
  have l1 : (bs.take f).length = f := by rw [List.length_take]; omega
  have l2 : ((bs.drop f).take k).length = k := by rw [List.length_take, List.length_drop]; omega
  have l3 : (bs.drop (f + k)).length = bs.length - f - k := by rw [List.length_drop]; omega
  have o1 : ∀ b ∈ bs.take f, b.okb := fun b hb => hok b (List.mem_of_mem_take hb)
  have o2 : ∀ b ∈ (bs.drop f).take k, b.okb := fun b hb => hok b (List.mem_of_mem_drop (List.mem_of_mem_take hb))
  have o3 : ∀ b ∈ bs.drop (f + k), b.okb := fun b hb => hok b (List.mem_of_mem_drop hb)
  obtain ⟨m1, c1⟩ := texts_mk o1 (by omega) (by omega)
  obtain ⟨m2, c2⟩ := texts_mk o2 (by omega) (by omega)
  obtain ⟨m3, c3⟩ := texts_mk o3 (by omega) (by omega)
  have o12 : ∀ b ∈ bs.take f ++ (bs.drop f).take k, b.okb := fun b hb => by
    rcases List.mem_append.1 hb with h | h
    · exact o1 b h
    · exact o2 b h
  obtain ⟨m4, c4⟩ := texts_mk o12 (by rw [List.length_append]; omega) (by rw [szs_append]; omega)
  refine ⟨textsFrom 0 ((bs.drop f).take k), textsFrom 0 (bs.drop (f + k)), textsFrom 0 (bs.take f), textsFrom 0 (bs.take f ++ (bs.drop f).take k), ?_, ?_, ?_, ?_, ?_, ?_, ?_, ?_, ?_⟩
  · rw [hs, takeC_yes h, m2]
  · rw [hs, takeC_yes (by omega), List.take_of_length_le (by omega), m3]
  · rw [hs]
    have := takeC_yes (bs := bs) (f := 0) (k := f) (by omega)
    rw [Int.natCast_zero] at this
    rw [this, List.drop_zero, m1]
  · rw [c1, c2]
    show mkC _ = _
    rw [mkC_yes (by rw [List.length_append, renumL_length, renumL_length]; omega) (by rw [szs_append, renumL_szs, renumL_szs]; omega), textsFrom_append, textsFrom_append, textsFrom_renum, textsFrom_renum, renumL_length]
  · rw [c4, c3]
    show mkC _ = _
    rw [mkC_yes (by rw [List.length_append, renumL_length, renumL_length, List.length_append]; omega) (by rw [szs_append, renumL_szs, renumL_szs, szs_append]; omega), textsFrom_append, textsFrom_renum, textsFrom_renum, renumL_length, ← textsFrom_append]
    congr 1
    rw [List.append_assoc, ← List.drop_drop, List.take_append_drop, List.take_append_drop]
    exact contB_text hs
  · have := textsFrom_size _ o2 0; omega
  · have := textsFrom_size _ o3 0; omega
  · have := textsFrom_size _ o1 0; omega
  · have := textsFrom_size _ o12 0; rw [List.length_append] at this; omega

set_option maxHeartbeats 8000000 in
set_option maxRecDepth 100000 in
theorem lawFnTake (A : Option Addr) (n c : Nat) (bs : List UInt8) (w : World) (h : ByteRow w A n bs) (hnc : n ≤ c) :
    Calls Try.prog 4 #[.slice A n c] w fun e w' => e = .returned (.bool true) ∧ Below w.heap.size w w' := by
  have hle := h.le
  unfold maxLen at hle
  by_cases hn : n ≤ 1048576
  · go_enter Try.func4, Try.ntmps4
    go_wp2_with fail
    refine (specDrawTakeBlocks A n c bs _ h hnc).mono ?_
    rintro e w1 ⟨s, f, k, rfl, hs, hf, hk, hb1⟩
    have HI := fun W => implTakeBlocks s f k W (by omega) hf hk
    have HS := fun W => specTakeBlocks s f k W (by omega) hf hk
    replace hb1 := Lib.hid hb1
    rcases hc : contB s with _ | cs
    · have HB := Lib.hid (fun W => implContainerBlocksNo s W (by omega) hc)
      rw [hc] at HI HS
      have e0 : takeC none f k = none := rfl
      rw [e0] at HI HS
      unfold optV at HI HS
      replace HI := Lib.hid HI
      replace HS := Lib.hid HS
      clear hc e0 hf hk
      go_wp2_with fail
      refine (HI.out _).mono ?_
      rintro e w2 ⟨rfl, hb2⟩
      have hB2 := Lib.hid (hb1.out.trans (hb2.mono hb1.out.size))
      clear hb2
      go_wp2_with fail
      refine (HS.out _).mono ?_
      rintro e w3 ⟨rfl, hb3⟩
      have hB3 := Lib.hid (hB2.out.trans (hb3.mono hB2.out.size))
      clear hb3
      go_wp2_with fail
      refine (HB.out _).mono ?_
      rintro e w4 ⟨A4, c4, rfl, _, hb4⟩
      have hB4 := Lib.hid (hB3.out.trans (hb4.mono hB3.out.size))
      clear hb4
      go_wp2_with fail
      go_ret
      exact ⟨rfl, hB4.out⟩
    · have h40 := (contB_numbered hc).length
      obtain ⟨m, hm⟩ : ∃ m, cs.length = m := ⟨_, rfl⟩
      rw [hm] at h40
      have HB := Lib.hid (fun W => implContainerBlocksYes s cs m W (by omega) hc hm)
      by_cases hok : takeOk cs.length f k
      · obtain ⟨k1, k2, k3, k4⟩ := hok
        obtain ⟨fn, rfl⟩ : ∃ x : Nat, f = x := ⟨f.toNat, by omega⟩
        obtain ⟨kn, rfl⟩ : ∃ x : Nat, k = x := ⟨k.toNat, by omega⟩
        obtain ⟨x, rest, before, y, t1, t2, t3, j1, j2, x1, x2, x3, x4⟩ := take_facts hc (f := fn) (k := kn) (by omega)
        rw [t1] at HI HS
        rw [hm] at t2 k2 k4
        obtain ⟨fk, hfk⟩ : ∃ x, fn + kn = x := ⟨_, rfl⟩
        obtain ⟨mf, hmf⟩ : ∃ x, m - fn = x := ⟨_, rfl⟩
        obtain ⟨mk, hmk⟩ : ∃ x, mf - kn = x := ⟨_, rfl⟩
        rw [hfk, hmf, hmk] at t2
        have e1 : (fn : Int) + kn = fk := by omega
        have e2 : (m : Int) - fn = mf := by omega
        have e3 : (mf : Int) - kn = mk := by omega
        have H1 := fun W => implTakeBlocks s (fk : Int) (mk : Int) W (by omega) (by omega) (by omega)
        have H2 := fun W => implTakeBlocks s 0 (fn : Int) W (by omega) (by omega) (by omega)
        have H3 := fun W => implJoinContainers before x W (by omega) (by omega)
        have H4 := fun W => implJoinContainers y rest W (by omega) (by omega)
        rw [t2] at H1
        rw [t3] at H2
        rw [j1] at H3
        rw [j2] at H4
        unfold optV at HI HS H1 H2 H3 H4
        replace HI := Lib.hid HI
        replace HS := Lib.hid HS
        replace H1 := Lib.hid H1
        replace H2 := Lib.hid H2
        replace H3 := Lib.hid H3
        replace H4 := Lib.hid H4
        have hnk : ((kn : Int) ≤ mf) := by omega
        have hnk2 : kn ≤ mf := by omega
        have hfm : fn ≤ m := by omega
        clear hc hm t1 t2 t3 j1 j2 hfk hmf hmk hf hk k1 k3
        go_wp2_with fail
        refine (HI.out _).mono ?_
        rintro e w2 ⟨rfl, hb2⟩
        have hB2 := Lib.hid (hb1.out.trans (hb2.mono hb1.out.size))
        clear hb2
        go_wp2_with fail
        refine (HS.out _).mono ?_
        rintro e w3 ⟨rfl, hb3⟩
        have hB3 := Lib.hid (hB2.out.trans (hb3.mono hB2.out.size))
        clear hb3
        go_wp2_with fail
        refine (HB.out _).mono ?_
        rintro e w4 ⟨A4, c4, rfl, _, hb4⟩
        have hB4 := Lib.hid (hB3.out.trans (hb4.mono hB3.out.size))
        clear hb4
        go_wp2_with fail
        refine (H1.out _).mono ?_
        rintro e w5 ⟨rfl, hb5⟩
        have hB5 := Lib.hid (hB4.out.trans (hb5.mono hB4.out.size))
        clear hb5
        go_wp2_with fail
        refine (H2.out _).mono ?_
        rintro e w6 ⟨rfl, hb6⟩
        have hB6 := Lib.hid (hB5.out.trans (hb6.mono hB5.out.size))
        clear hb6
        go_wp2_with fail
        refine (H3.out _).mono ?_
        rintro e w7 ⟨rfl, hb7⟩
        have hB7 := Lib.hid (hB6.out.trans (hb7.mono hB6.out.size))
        clear hb7
        go_wp2_with fail
        refine (H4.out _).mono ?_
        rintro e w8 ⟨rfl, hb8⟩
        have hB8 := Lib.hid (hB7.out.trans (hb8.mono hB7.out.size))
        clear hb8
        go_wp2_with fail
        go_ret
        exact ⟨rfl, hB8.out⟩
      · rw [hc, takeC_no hok] at HI HS
        rw [hm] at hok
        unfold optV at HI HS
        replace HI := Lib.hid HI
        replace HS := Lib.hid HS
        clear hc hm
        have fin : ∀ (P : Prop), P → P := fun _ h => h
        by_cases g1 : 0 ≤ f
        · by_cases g2 : f ≤ m
          · by_cases g3 : 0 ≤ k
            · have g4 : ¬ k ≤ (m : Int) - f := fun h => hok ⟨g1, g2, g3, h⟩
              obtain ⟨mf, hmf⟩ : ∃ x : Int, (m : Int) - f = x := ⟨_, rfl⟩
              have hmfb : 0 ≤ mf ∧ mf ≤ 1000 := by omega
              rw [hmf] at g4
              have g4' : mf < k := by omega
              have g4d : decide (k ≤ mf) = false := decide_eq_false g4
              clear hok g4
              go_wp2_with fail
              refine (HI.out _).mono ?_
              rintro e w2 ⟨rfl, hb2⟩
              have hB2 := Lib.hid (hb1.out.trans (hb2.mono hb1.out.size))
              clear hb2
              go_wp2_with fail
              refine (HS.out _).mono ?_
              rintro e w3 ⟨rfl, hb3⟩
              have hB3 := Lib.hid (hB2.out.trans (hb3.mono hB2.out.size))
              clear hb3
              go_wp2_with fail
              refine (HB.out _).mono ?_
              rintro e w4 ⟨A4, c4, rfl, _, hb4⟩
              have hB4 := Lib.hid (hB3.out.trans (hb4.mono hB3.out.size))
              clear hb4
              go_wp2_with fail
              go_ret
              exact ⟨rfl, hB4.out⟩
            · have g3' : k < 0 := by omega
              clear hok g3
              go_wp2_with fail
              refine (HI.out _).mono ?_
              rintro e w2 ⟨rfl, hb2⟩
              have hB2 := Lib.hid (hb1.out.trans (hb2.mono hb1.out.size))
              clear hb2
              go_wp2_with fail
              refine (HS.out _).mono ?_
              rintro e w3 ⟨rfl, hb3⟩
              have hB3 := Lib.hid (hB2.out.trans (hb3.mono hB2.out.size))
              clear hb3
              go_wp2_with fail
              refine (HB.out _).mono ?_
              rintro e w4 ⟨A4, c4, rfl, _, hb4⟩
              have hB4 := Lib.hid (hB3.out.trans (hb4.mono hB3.out.size))
              clear hb4
              go_wp2_with fail
              go_ret
              exact ⟨rfl, hB4.out⟩
          · have g2' : (m : Int) < f := by omega
            clear hok g2
            go_wp2_with fail
            refine (HI.out _).mono ?_
            rintro e w2 ⟨rfl, hb2⟩
            have hB2 := Lib.hid (hb1.out.trans (hb2.mono hb1.out.size))
            clear hb2
            go_wp2_with fail
            refine (HS.out _).mono ?_
            rintro e w3 ⟨rfl, hb3⟩
            have hB3 := Lib.hid (hB2.out.trans (hb3.mono hB2.out.size))
            clear hb3
            go_wp2_with fail
            refine (HB.out _).mono ?_
            rintro e w4 ⟨A4, c4, rfl, _, hb4⟩
            have hB4 := Lib.hid (hB3.out.trans (hb4.mono hB3.out.size))
            clear hb4
            go_wp2_with fail
            go_ret
            exact ⟨rfl, hB4.out⟩
        · have g1' : f < 0 := by omega
          clear hok g1
          go_wp2_with fail
          refine (HI.out _).mono ?_
          rintro e w2 ⟨rfl, hb2⟩
          have hB2 := Lib.hid (hb1.out.trans (hb2.mono hb1.out.size))
          clear hb2
          go_wp2_with fail
          refine (HS.out _).mono ?_
          rintro e w3 ⟨rfl, hb3⟩
          have hB3 := Lib.hid (hB2.out.trans (hb3.mono hB2.out.size))
          clear hb3
          go_wp2_with fail
          refine (HB.out _).mono ?_
          rintro e w4 ⟨A4, c4, rfl, _, hb4⟩
          have hB4 := Lib.hid (hB3.out.trans (hb4.mono hB3.out.size))
          clear hb4
          go_wp2_with fail
          go_ret
          exact ⟨rfl, hB4.out⟩
  · go_enter Try.func4, Try.ntmps4
    go_wp2_with fail
    go_ret
    exact ⟨rfl, Below.refl _ _⟩

end Go.Proofs.Ythfckbfllodcjaa
