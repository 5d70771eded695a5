/-
  The contracts of FormatParity, of the program and of the reference: both write the same text.
-/
import Derived.Test.YtgjoolnlckddiaaHex
import Derived.Test.YtgjoolnlckddiaaDash
import Derived.Test.YtgjoolnlckddiaaTexts
import Derived.Test.YtgjoolnlckddiaaShelf
import Derived.Lib.Join
namespace Go.Proofs.Ytgjoolnlckddiaa
open Go.RowKit
set_option linter.unusedVariables false

/-- Texts with spaces between them. -/
def jSp (ss : List ByteArray) : ByteArray := ⟨(Lib.join (ss.map (·.data.toList)) [32]).toArray⟩

theorem jSp_one (x : ByteArray) : jSp [x] = x := by
  unfold jSp; rw [List.map_cons, List.map_nil, Lib.join_one]

theorem jSp_snoc {ss : List ByteArray} (h : ss ≠ []) (y : ByteArray) : jSp (ss ++ [y]) = jSp ss ++ ⟨#[32]⟩ ++ y := by
  cases ss with
  | nil => exact absurd rfl h
  | cons x r =>
    unfold jSp
    apply ByteArray.ext
    rw [ByteArray.data_append, ByteArray.data_append]
    apply Array.toList_inj.1
    simp [Lib.join_cons, Lib.joinTail]

theorem jSp_size {ss : List ByteArray} {M : Nat} (h : ∀ s ∈ ss, s.size ≤ M) : (jSp ss).size ≤ (M + 1) * ss.length := by
  have h1 : ∀ r : List ByteArray, (∀ s ∈ r, s.size ≤ M) → (Lib.joinTail [32] (r.map (·.data.toList))).length ≤ (M + 1) * r.length := by
    intro r
    induction r with
    | nil => intro _; simp [Lib.joinTail]
    | cons y ys ih =>
      intro hr
      have h2 := ih (fun s hs => hr s (List.mem_cons_of_mem _ hs))
      have h3 := hr y (List.mem_cons_self ..)
      have e : Lib.joinTail [32] ((y :: ys).map (·.data.toList)) = [32] ++ y.data.toList ++ Lib.joinTail [32] (ys.map (·.data.toList)) := by simp [Lib.joinTail]
      rw [e]
      have e2 : y.data.toList.length = y.size := rfl
      rw [List.length_append, List.length_append, e2, List.length_cons, List.length_nil, List.length_cons, Nat.mul_succ]
      omega
  cases ss with
  | nil => exact Nat.zero_le _
  | cons x r =>
    have h2 := h1 r (fun s hs => h s (List.mem_cons_of_mem _ hs))
    have h3 := h x (List.mem_cons_self ..)
    have e : (jSp (x :: r)).size = x.size + (Lib.joinTail [32] (r.map (·.data.toList))).length := by
      unfold jSp
      rw [List.map_cons, Lib.join_cons]
      show (x.data.toList ++ _).toArray.size = _
      rw [List.size_toArray, List.length_append]
      rfl
    rw [e, List.length_cons, Nat.mul_succ]; omega

/-- When parities have a text. -/
def parOk (ss : List ByteArray) : Prop := ss.length ≤ 40 ∧ ∀ k, k < ss.length → 2 ≤ (ss.getD k ByteArray.empty).size ∧ (ss.getD k ByteArray.empty).size ≤ 76

instance (ss : List ByteArray) : Decidable (parOk ss) := by unfold parOk; infer_instance

theorem parOk_get {ss : List ByteArray} {k : Nat} {t : ByteArray} (h : ss[k]? = some t) : ss.getD k ByteArray.empty = t := by rw [List.getD_eq_getElem?_getD, h]; rfl

/-- What FormatParity returns. -/
def fmtPar (ss : List ByteArray) : ByteArray := if parOk ss then dashB (jSp (ss.map hexOf)) else ByteArray.empty

theorem hexOf_size {t : ByteArray} (h : t.size ≤ 76) : (hexOf t).size ≤ 152 := by
  unfold hexOf
  rw [if_pos (by omega)]
  show (hexB t.data.toList).toArray.size ≤ _
  have := hexB_length t.data.toList
  simp at this ⊢
  omega

theorem ret_fmt {o a : ByteArray} (h : o = a) : Ending.returned (.string a) = .returned (.string o) := by rw [h]

/-- Whether the first of some strings can be parities. -/
def parTo (ss : List ByteArray) (k : Nat) : Prop := ∀ j, j < k → 2 ≤ (ss.getD j ByteArray.empty).size ∧ (ss.getD j ByteArray.empty).size ≤ 76

theorem parTo_zero (ss : List ByteArray) : parTo ss 0 := fun j h => absurd h (by omega)

theorem parTo_succ {ss : List ByteArray} {k : Nat} {t : ByteArray} (h : parTo ss k) (ht : ss[k]? = some t) (h2 : 2 ≤ t.size ∧ t.size ≤ 76) : parTo ss (k + 1) := fun j hj => by
  by_cases e : j = k
  · subst e; rw [parOk_get ht]; exact h2
  · exact h j (by omega)

theorem parTo_mem {ss : List ByteArray} {k : Nat} (h : parTo ss k) (hk : k ≤ ss.length) : ∀ u ∈ (ss.take k).map hexOf, u.size ≤ 152 := fun u hu => by
  obtain ⟨t, ht, rfl⟩ := List.mem_map.1 hu
  obtain ⟨j, hj⟩ := List.getElem?_of_mem ht
  rw [List.getElem?_take] at hj
  split at hj
  · have := h j (by assumption)
    rw [parOk_get hj] at this
    exact hexOf_size this.2
  · cases hj

set_option maxHeartbeats 1000000 in
theorem implParityValid (A : Option Addr) (n c Q : Nat) (ss : List ByteArray) (r : Bool) (w : World) (hl : ss.length = n) (hn : n ≤ 1048576) (hrow : Row w Q 1 A n (ss.map .string)) (hss : ∀ s ∈ ss, s.size ≤ 1048576) (hr : r = true ↔ parOk ss) :
    Calls Try.prog 27 #[.slice A n c] w fun e w' => e = .returned (.bool r) ∧ w = w' := by
  by_cases h40 : n ≤ 40
  · have hno : ∀ (k : Nat) (t : ByteArray), ss[k]? = some t → ¬ (2 ≤ t.size ∧ t.size ≤ 76) → r = false := fun k t ht h => by
      rcases hb : r with _ | _
      · rfl
      · have h1 := (hr.1 hb).2 k (List.getElem?_eq_some_iff.1 ht).1
        rw [parOk_get ht] at h1
        exact absurd h1 h
    have hyes : parTo ss n → r = true := fun h => hr.2 ⟨by omega, fun k hk => h k (by omega)⟩
    have HNO := Lib.hid hno
    have HYES := Lib.hid hyes
    have HL := Lib.hid hl
    clear hno hyes hr hl
    go_enter Try.func27, Try.ntmps27
    go_wp2_with fail
    go_loop [10] (fun i => ∃ k : Nat, k ≤ n ∧ i = .int .i64 k ∧ parTo ss k) (fun i => n - (intOf i).toNat)
    case atStart => exact ⟨0, Nat.zero_le _, rfl, parTo_zero _⟩
    case round =>
      obtain ⟨k, hk, rfl, hto⟩ := hrel
      by_cases hlt : k < n
      · obtain ⟨t, ht⟩ : ∃ t, ss[k]? = some t := ⟨_, List.getElem?_eq_getElem (by have := HL.out; omega)⟩
        obtain ⟨b, off, rfl, _, hc⟩ := hrow.2 (by omega)
        have hcell : w.cell? ⟨b, off + k, none⟩ = some (.string t) := hc k _ (by simp [ht])
        have hts := hss t (List.mem_of_getElem? ht)
        clear hc
        by_cases c1 : 2 ≤ t.size
        · by_cases c2 : t.size ≤ 76
          · have HT := Lib.hid (parTo_succ hto ht ⟨c1, c2⟩)
            clear ht hto
            go_wp2_with fail
            go_round
            case rel => exact ⟨k + 1, by omega, by go_num, HT.out⟩
            case measure => simp [intOf]; omega
          · have hrf := HNO.out k t ht (fun h => c2 h.2)
            subst hrf
            clear ht hto
            go_wp2_with fail
            go_ret
            exact ⟨rfl, rfl⟩
        · have hrf := HNO.out k t ht (fun h => c1 h.1)
          subst hrf
          clear ht hto
          go_wp2_with fail
          go_ret
          exact ⟨rfl, rfl⟩
      · obtain rfl : k = n := by omega
        have hrt := HYES.out hto
        subst hrt
        clear hto
        go_wp2_with fail
        go_ret
        exact ⟨rfl, rfl⟩
  · have hrf : r = false := by
      rcases hb : r with _ | _
      · rfl
      · have := (hr.1 hb).1; omega
    subst hrf
    clear hr
    go_enter Try.func27, Try.ntmps27
    go_wp2_with fail
    go_ret
    exact ⟨rfl, rfl⟩

theorem specL7Long (s : ByteArray) (b : Bool) (w : World) (hs : s.size ≤ 1048576) (hb : b = true ↔ 2 ≤ s.size ∧ s.size ≤ 76) :
    Calls Try.prog 24 #[.string s] w fun e w' => e = .returned (.bool b) ∧ w = w' := by
  have HH := Lib.hid (specL1In s.size 2 76 b w (by rw [hb]; omega))
  clear hb
  go_enter Try.func24, Try.ntmps24
  go_wp2_with fail
  refine HH.out.mono ?_
  rintro e w' ⟨rfl, rfl⟩
  go_wp2_with fail
  go_ret
  exact ⟨rfl, rfl⟩

set_option maxHeartbeats 2000000 in
theorem specFormatParity (A : Option Addr) (n c Q : Nat) (ss : List ByteArray) (w : World) (hl : ss.length = n) (hn : n ≤ 1048576) (hrow : Row w Q 1 A n (ss.map .string)) (hQ : Q ≤ w.heap.size) (hss : ∀ s ∈ ss, s.size ≤ 1048576) :
    Calls Try.prog 8 #[.slice A n c] w fun e w' => e = .returned (.string (fmtPar ss)) ∧ Below w.heap.size w w' := by
  by_cases h40 : n ≤ 40
  · have hno : ∀ (k : Nat) (t : ByteArray), ss[k]? = some t → ¬ (2 ≤ t.size ∧ t.size ≤ 76) → Ending.returned (.string ByteArray.empty) = .returned (.string (fmtPar ss)) := fun k t ht h => by
      refine ret_fmt (if_neg fun h2 => h ?_)
      have h1 := h2.2 k (List.getElem?_eq_some_iff.1 ht).1
      rwa [parOk_get ht] at h1
    have hyes : parTo ss n → Ending.returned (.string (dashB (jSp (ss.map hexOf)))) = .returned (.string (fmtPar ss)) := fun h => ret_fmt (if_pos ⟨by omega, fun k hk => h k (by omega)⟩)
    have HNO := Lib.hid hno
    have HYES := Lib.hid hyes
    have HL := Lib.hid hl
    clear hno hyes hl
    go_enter Try.func8, Try.ntmps8
    go_wp2_with fail
    go_loopw [3, 4] (fun v i wr => ∃ k : Nat, k ≤ n ∧ i = .int .i64 k ∧ v = .string (jSp ((ss.take k).map hexOf)) ∧ parTo ss k ∧ Below w.heap.size w wr) (fun _ i _ => n - (intOf i).toNat)
    case atStart => exact ⟨0, Nat.zero_le _, rfl, rfl, parTo_zero _, Below.refl _ _⟩
    case round =>
      obtain ⟨k, hk, rfl, rfl, hto, hbel⟩ := hrel
      have hwz := hbel.size
      by_cases hlt : k < n
      · obtain ⟨t, ht⟩ : ∃ t, ss[k]? = some t := ⟨_, List.getElem?_eq_getElem (by have := HL.out; omega)⟩
        obtain ⟨b, off, rfl, hbl, hc⟩ := hrow.2 (by omega)
        have hcell : wr.cell? ⟨b, off + k, none⟩ = some (.string t) := (hbel.cell (p := ⟨b, off + k, none⟩) (by show b < _; omega)).trans (hc k _ (by simp [ht]))
        have hts := hss t (List.mem_of_getElem? ht)
        clear hc
        by_cases c1 : 2 ≤ t.size ∧ t.size ≤ 76
        · have HLG := Lib.hid (fun W => specL7Long t true W hts (btrue c1))
          have HHX := fun W => specFormatHex t W hts
          have hhz := hexOf_size c1.2
          have hjz := jSp_size (parTo_mem hto (by have := HL.out; omega))
          have hjl : ((ss.take k).map hexOf).length ≤ 40 := by rw [List.length_map, List.length_take]; omega
          have hsn : (ss.take (k + 1)).map hexOf = (ss.take k).map hexOf ++ [hexOf t] := by
            obtain ⟨h1, h2⟩ := List.getElem?_eq_some_iff.1 ht
            rw [List.take_succ_eq_append_getElem h1, h2, List.map_append]; rfl
          have HT := Lib.hid (parTo_succ hto ht c1)
          obtain ⟨x, hx⟩ : ∃ x, hexOf t = x := ⟨_, rfl⟩
          rw [hx] at hsn HHX hhz
          have HHX := Lib.hid HHX
          obtain ⟨j, hj⟩ : ∃ j, jSp ((ss.take k).map hexOf) = j := ⟨_, rfl⟩
          rw [hj] at hjz ⊢
          have hjz2 : j.size ≤ 10000 := by
            have := Nat.mul_le_mul_left (152 + 1) hjl
            omega
          rcases Nat.eq_zero_or_pos k with h0 | h0
          · subst h0
            have hj0 : j = ByteArray.empty := by rw [← hj]; rfl
            subst hj0
            have hfin : jSp ((ss.take (0 + 1)).map hexOf) = x := by rw [hsn]; simp [jSp_one]
            have hadd : ∀ W, (Op.stringOp .add ByteArray.empty x).run Try.prog W = .ok (.string x) W := fun W => by
              have := run_string_add_sum (P := Try.prog) W ByteArray.empty x (by show 0 + x.size ≤ _; omega)
              rwa [ByteArray.empty_append] at this
            have HF := Lib.hid hfin
            have hcell0 : wr.cell? ⟨b, off, none⟩ = some (.string t) := hcell
            clear hsn hx hj ht hto c1 hjz hjl hfin
            go_wp2_with fail
            refine (HLG.out _).mono ?_
            rintro e w2 ⟨rfl, rfl⟩
            go_wp2_with fail
            refine (HHX.out _).mono ?_
            rintro e w3 ⟨rfl, hb3⟩
            go_wp2_with fail
            go_roundw
            case rel => exact ⟨1, by omega, by go_num, by rw [HF.out], HT.out, hbel.trans (hb3.mono hwz)⟩
            case measure => simp [intOf]; omega
          · have hne : (ss.take k).map hexOf ≠ [] := fun h => by
              have := congrArg List.length h
              rw [List.length_map, List.length_take, HL.out] at this
              simp at this; omega
            have hfin : jSp ((ss.take (k + 1)).map hexOf) = j ++ ⟨#[32]⟩ ++ x := by rw [hsn, jSp_snoc hne, hj]
            have hadd1 : ∀ W, (Op.stringOp .add j ⟨#[32]⟩).run Try.prog W = .ok (.string (j ++ ⟨#[32]⟩)) W := fun W => run_string_add_sum W _ _ (by show j.size + 1 ≤ _; omega)
            have hadd2 : ∀ W, (Op.stringOp .add (j ++ ⟨#[32]⟩) x).run Try.prog W = .ok (.string (j ++ ⟨#[32]⟩ ++ x)) W := fun W => run_string_add_sum W _ _ (by rw [ByteArray.size_append]; show j.size + 1 + x.size ≤ _; omega)
            have HF := Lib.hid hfin
            clear hsn hx hj ht hto c1 hjz hjl hfin hne
            go_wp2_with fail
            refine (HLG.out _).mono ?_
            rintro e w2 ⟨rfl, rfl⟩
            go_wp2_with fail
            refine (HHX.out _).mono ?_
            rintro e w3 ⟨rfl, hb3⟩
            go_wp2_with fail
            go_roundw
            case rel => exact ⟨k + 1, by omega, by go_num, by rw [HF.out], HT.out, hbel.trans (hb3.mono hwz)⟩
            case measure => simp [intOf]; omega
        · have HLG := Lib.hid (fun W => specL7Long t false W hts (bfalse c1))
          have HR := Lib.hid (HNO.out k t ht c1)
          clear ht hto c1
          go_wp2_with fail
          refine (HLG.out _).mono ?_
          rintro e w2 ⟨rfl, rfl⟩
          go_wp2_with fail
          go_ret
          exact ⟨HR.out, hbel⟩
      · obtain rfl : k = n := by omega
        have hR := HYES.out hto
        have ht : ss.take k = ss := List.take_of_length_le (by have := HL.out; omega)
        rw [ht]
        have HR := Lib.hid hR
        clear hto ht hR
        go_wp2_with fail
        refine (specL3Some _ _).mono ?_
        rintro e w2 ⟨rfl, rfl⟩
        go_wp2_with fail
        go_ret
        exact ⟨HR.out, hbel⟩
  · have HR := Lib.hid (ret_fmt (o := fmtPar ss) (if_neg fun h => h40 (by have := h.1; omega)))
    clear hl
    go_enter Try.func8, Try.ntmps8
    go_wp2_with fail
    go_ret
    exact ⟨HR.out, Below.refl _ _⟩

set_option maxHeartbeats 2000000 in
theorem implFormatParity (A : Option Addr) (n c Q : Nat) (ss : List ByteArray) (w : World) (hl : ss.length = n) (hn : n ≤ 1048576) (hrow : Row w Q 1 A n (ss.map .string)) (hQ : Q ≤ w.heap.size) (hss : ∀ s ∈ ss, s.size ≤ 1048576) :
    Calls Try.prog 10 #[.slice A n c] w fun e w' => e = .returned (.string (fmtPar ss)) ∧ Below w.heap.size w w' := by
  by_cases hok : parOk ss
  · have HV := Lib.hid (implParityValid A n c Q ss true w hl hn hrow hss (btrue hok))
    have hn40 : n ≤ 40 := by have := hok.1; omega
    have hR : fmtPar ss = dashB (jSp (ss.map hexOf)) := if_pos hok
    have hmk := run_make_row' (P := Try.prog) 22 9 (.string ByteArray.empty) 16 Try.underlying22 infoStr rfl .i64 .i64 n (by omega) (by omega)
    have hto : parTo ss n := fun j hj => hok.2 j (by omega)
    obtain ⟨us, hus⟩ : ∃ us, ss.map hexOf = us := ⟨_, rfl⟩
    have hul : us.length = n := by rw [← hus]; simpa using hl
    have hmem : ∀ u ∈ us, u.size ≤ 152 := by
      have := parTo_mem hto (by omega)
      rw [List.take_of_length_le (by omega), hus] at this
      exact this
    have hget : ∀ k, k < n → ∃ t, ss[k]? = some t ∧ us[k]? = some (hexOf t) ∧ t.size ≤ 1048576 := fun k hk => by
      have hk' : k < ss.length := by omega
      exact ⟨ss[k], List.getElem?_eq_getElem hk', by rw [← hus]; simp [hk'], hss _ (List.getElem_mem hk')⟩
    have hjz : (Lib.join (us.map (·.data.toList)) [32]).length ≤ 140737488355328 := by
      have h1 := jSp_size hmem
      have h2 : (jSp us).size = (Lib.join (us.map (·.data.toList)) [32]).length := by unfold jSp; simp [ByteArray.size]
      rw [h2, hul] at h1
      have := Nat.mul_le_mul_left (152 + 1) hn40
      omega
    have HJ : ∀ (A : Option Addr) (c : Nat) W, n ≤ c → Row W W.heap.size 1 A n (us.map .string) → Calls Try.prog 30 #[.slice A n c, .string ⟨#[32]⟩] W fun e w' => e = .returned (.string (jSp us)) ∧ Below W.heap.size W w' := by
      intro A c W hc hr
      rcases Nat.eq_zero_or_pos n with h0 | h0
      · have hu0 : us = [] := List.eq_nil_of_length_eq_zero (by omega)
        subst h0 hu0
        refine (Try.strings_Join_none A c ⟨#[32]⟩ W).mono ?_
        rintro e w' ⟨rfl, rfl⟩
        exact ⟨rfl, Below.refl _ _⟩
      · obtain ⟨b, off, rfl, hb, hcell⟩ := hr.2 h0
        have := Try.strings_Join b off c us ⟨#[32]⟩ W (fun j x hx => hcell j _ (by simp [hx])) hb (by omega) (by omega) hjz
        rw [hul] at this
        exact this
    have HJ := Lib.hid HJ
    have HG := Lib.hid hget
    have HU := Lib.hid hul
    rw [hR, hus]
    clear hok hR hus hget hul hmem hjz hto hl
    go_enter Try.func10, Try.ntmps10
    go_wp2_with fail
    refine HV.out.mono ?_
    rintro e w' ⟨rfl, rfl⟩
    go_wp2_with fail
    go_loopw [14] (fun i wr => ∃ k : Nat, k ≤ n ∧ i = .int .i64 k ∧ wr.rowIs w.heap.size 9 n (fun j => if j < k then .string (us.getD j ByteArray.empty) else .string ByteArray.empty) ∧ Below w.heap.size w wr) (fun i _ => n - (intOf i).toNat)
    case atStart => exact ⟨0, Nat.zero_le _, rfl, (World.rowIs_made _ _ _ _).congr (fun i _ => by simp), (Below.refl _ _).alloc (Nat.le_refl _) _⟩
    case round =>
      obtain ⟨k, hk, rfl, hrowi, hbel⟩ := hrel
      have hwz := hbel.size
      by_cases hlt : k < n
      · obtain ⟨t, ht, hu, htz⟩ := HG.out k hlt
        obtain ⟨b, off, rfl, hbl, hc⟩ := hrow.2 (by omega)
        have hcell : wr.cell? ⟨b, off + k, none⟩ = some (.string t) := (hbel.cell (p := ⟨b, off + k, none⟩) (by show b < _; omega)).trans (hc k _ (by simp [ht]))
        have HT := fun W => implFormatHex t W htz
        obtain ⟨u, hue⟩ : ∃ u, hexOf t = u := ⟨_, rfl⟩
        rw [hue] at hu HT
        have HT := Lib.hid HT
        have hlt2 := hrowi.lt
        clear hc ht hue hmk
        go_wp2_with fail
        refine (HT.out _).mono ?_
        rintro e w2 ⟨rfl, hb2⟩
        have hrow2 := hrowi.of_block (hb2.block _ hlt2)
        have hbel2 := hbel.trans (hb2.mono hwz)
        have hout := hrow2.cell hlt
        have hfr := hrow2.frozen k
        have hset := hrow2.set k (.string u)
        have hnew : (w2.setCell ⟨w.heap.size, k, none⟩ (.string u)).rowIs w.heap.size 9 n (fun j => if j < k + 1 then .string (us.getD j ByteArray.empty) else .string ByteArray.empty) := by
          refine hset.congr fun i hi => ?_
          by_cases hik : i = k
          · subst hik
            simp [List.getD, hu]
          · simp only [if_neg hik]
            by_cases h1 : i < k
            · rw [if_pos h1, if_pos (by omega)]
            · rw [if_neg h1, if_neg (by omega)]
        have hb3 : Below w.heap.size w (w2.setCell ⟨w.heap.size, k, none⟩ (.string u)) := hbel2.setCell (Nat.le_refl _) _
        have HN := Lib.hid hnew
        clear hnew hset hrow2 hrowi hbel hb2 hbel2 hu
        go_wp2_with fail
        go_roundw
        case rel => exact ⟨k + 1, by omega, by go_num, HN.out, hb3⟩
        case measure => simp [intOf]; omega
      · obtain rfl : k = n := by omega
        have hown := own_of_rowIs (base := w.heap.size) hrowi (Nat.le_refl _) (by unfold maxLen; omega)
        have hxs : (List.range k).map (fun j => if j < k then Value.string (us.getD j ByteArray.empty) else .string ByteArray.empty) = us.map .string := by
          rw [← range_getD us Value.string ByteArray.empty, HU.out]
          refine List.map_congr_left fun j hj => ?_
          rw [if_pos (by simpa using hj)]
        rw [hxs] at hown
        have hr1 := Row.of_own hown
        clear hmk hrowi hown hxs
        go_wp2_with fail
        refine (HJ.out _ _ _ (Nat.le_refl _) hr1).mono ?_
        rintro e w2 ⟨rfl, hb2⟩
        go_wp2_with fail
        refine (implOrDash _ _).mono ?_
        rintro e w3 ⟨rfl, rfl⟩
        go_wp2_with fail
        go_ret
        exact ⟨rfl, hbel.trans (hb2.mono hwz)⟩
  · have HV := Lib.hid (implParityValid A n c Q ss false w hl hn hrow hss (bfalse hok))
    have HR := Lib.hid (ret_fmt (o := fmtPar ss) (if_neg hok))
    clear hok hl
    go_enter Try.func10, Try.ntmps10
    go_wp2_with fail
    refine HV.out.mono ?_
    rintro e w' ⟨rfl, rfl⟩
    go_wp2_with fail
    go_ret
    exact ⟨HR.out, Below.refl _ _⟩

end Go.Proofs.Ytgjoolnlckddiaa
