/-
  The contracts of l7Parity, l7Group and ParityOf of the reference.
-/
import Derived.Test.YtcafejahdiedpaaParImpl
import Derived.Test.YtcafejahdiedpaaRowOther
namespace Go.Proofs.Ytcafejahdiedpaa
open Go.RowKit
set_option linter.unusedVariables false

set_option maxHeartbeats 1000000 in
theorem specL7Parity (A : Option Addr) (n c B : Nat) (ts : List ByteArray) (w : World) (hrow : Row w B 1 A n (ts.map .string)) (hB : B ≤ w.heap.size) (hn : n ≤ 1048576) (hs : ∀ t ∈ ts, t.size ≤ 1000) :
    Calls Try.prog 60 #[.slice A n c] w fun e w' => e = .returned (.string (parT ts)) ∧ Below w.heap.size w w' := by
  have hl : ts.length = n := by have := hrow.1; simpa using this
  obtain ⟨us, hus⟩ : ∃ us, (ts.map fun t => two t.size) = us := ⟨_, rfl⟩
  have hul : us.length = n := by rw [← hus]; simpa using hl
  have hu2 : ∀ u ∈ us, u.size ≤ 1048576 := fun u hu => by
    rw [← hus] at hu
    obtain ⟨t, _, rfl⟩ := List.mem_map.1 hu
    exact Nat.le_trans (show (two t.size).size ≤ 2 from Nat.le_refl 2) (by omega)
  have hP : parT ts = xorAll us ++ xorAll ts := by unfold parT; rw [hus]
  have hx1 : (xorAll us).size ≤ 2 := by rw [← hus]; exact xorLens_size ts
  have hx2 : (xorAll ts).size ≤ 1000 := xorAll_le hs
  have H1 := Lib.hid (fun A c B W h1 h2 => specXorTexts A n c B us W hul h1 h2 hn hu2)
  have H2 := Lib.hid (fun W h1 h2 => specXorTexts A n c B ts W hl h1 h2 hn (fun t ht => Nat.le_trans (hs t ht) (by omega)))
  have hadd : ∀ W, (Op.stringOp .add (xorAll us) (xorAll ts)).run Try.prog W = .ok (.string (parT ts)) W := fun W => by rw [hP]; exact run_string_add_sum W _ _ (by omega)
  have hget : ∀ k, k < n → ∃ t, ts[k]? = some t ∧ (us.take (k + 1)).map Value.string = (us.take k).map Value.string ++ [.string (two t.size)] ∧ t.size ≤ 1000 := fun k hk => by
    have hk' : k < ts.length := by omega
    refine ⟨ts[k], List.getElem?_eq_getElem hk', ?_, hs _ (List.getElem_mem hk')⟩
    rw [List.take_succ_eq_append_getElem (by omega), List.map_append]
    simp [← hus]
  have HG := Lib.hid hget
  have HU := Lib.hid hul
  have HADD := Lib.hid hadd
  clear hP hus hadd hget hul hl hs hu2
  go_enter Try.func60, Try.ntmps60
  go_wp2_with fail
  go_loopw [3, 4] (fun v i wr => ∃ k : Nat, k ≤ n ∧ i = .int .i64 k ∧ wr.ownsRow w.heap.size 9 1 v k ((us.take k).map .string) ∧ Below w.heap.size w wr) (fun _ i _ => n - (intOf i).toNat)
  case atStart => exact ⟨0, Nat.zero_le _, rfl, own_empty w w.heap.size rfl w.heap.size (Nat.le_refl _) 9 1, (Below.refl _ _).alloc (Nat.le_refl _) _⟩
  case round =>
    obtain ⟨k, hk, rfl, hown, hbel⟩ := hrel
    have hwz := hbel.size
    obtain ⟨Av, cv, rfl, _, _⟩ := own_form hown
    by_cases hlt : k < n
    · obtain ⟨t, ht, hu, htz⟩ := HG.out k hlt
      obtain ⟨b, off, rfl, hbl, hc⟩ := hrow.2 (by omega)
      have hcell : wr.cell? ⟨b, off + k, none⟩ = some (.string t) := (hbel.cell (p := ⟨b, off + k, none⟩) (by show b < _; omega)).trans (hc k _ (by simp [ht]))
      have HT := Lib.hid (fun W => specL4Two t.size W (by omega))
      obtain ⟨u, hue⟩ : ∃ u, two t.size = u := ⟨_, rfl⟩
      rw [hue] at hu HT
      have HU2 := Lib.hid hu
      clear hc ht hue hu
      go_wp2_with fail
      refine (HT.out _).mono ?_
      rintro e w2 ⟨rfl, hb2⟩
      have hown2 := own_below hown hb2 (Nat.le_refl _)
      have hbel2 := hbel.trans (hb2.mono hwz)
      have hz2 := hbel2.size
      clear hown hbel hb2
      go_wp2_with (first
        | (at_builtin; refine wpList_append_row _ elemStr rfl (.tmp 12) (.tmp 19) rfl w.heap.size _ _ _ rfl (hown2.alloc _) _ _ 1 1 [.string u] rfl (Row.newAt _ w2.heap.size rfl _ [.string u] 1 1 rfl) ?_ ?_ ?_ ?_ ?_))
      · intro u hu; simp at hu; subst hu; rfl
      · unfold maxLen; omega
      · omega
      · simp; omega
      · intro v4 w4 hv4 hg4 _
        have hbel4 : Below w.heap.size w w4 := (hbel2.alloc hz2 _).grown hg4 (by simp; omega) (fun g hg => (hown2.lt g hg).1)
        have hv4' : w4.ownsRow w.heap.size 9 1 v4 (k + 1) ((us.take (k + 1)).map .string) := by rw [HU2.out]; simpa using hv4
        clear hown2 hbel2 hg4
        go_wp2_with fail
        go_roundw
        case rel => exact ⟨k + 1, by omega, by go_num, hv4', hbel4⟩
        case measure => simp [intOf]; omega
    · obtain rfl : k = n := by omega
      have ht : us.take k = us := List.take_of_length_le (by rw [HU.out]; omega)
      rw [ht] at hown
      have hr1 := Row.of_own hown
      have hr2 := hrow.below hbel hB
      clear hown ht
      go_wp2_with fail
      refine (H1.out _ _ _ _ hr1 (Nat.le_refl _)).mono ?_
      rintro e w2 ⟨rfl, hb2⟩
      have hr22 := hr2.below hb2 (by omega)
      have hz2 := hb2.size
      go_wp2_with fail
      refine (H2.out _ hr22 (by omega)).mono ?_
      rintro e w3 ⟨rfl, hb3⟩
      have hadd := HADD.out
      go_wp2_with fail
      go_ret
      exact ⟨rfl, hbel.trans ((hb2.trans (hb3.mono hz2)).mono hwz)⟩

set_option maxHeartbeats 2000000 in
theorem specL7Group (A : Option Addr) (n c B : Nat) (x : List Blk) (k g m : Nat) (y : List Blk) (w : World) (hrow : Row w B 4 A n (cellsB x)) (hB : B ≤ w.heap.size) (hn : n ≤ 40) (hk : k < n) (hg : g ≤ 40) (hg0 : 0 < g) (hm : m = min g (n - k))
    (hy : (x.drop k).take m = y) (hok : ∀ b ∈ x, b.ok) :
    Calls Try.prog 61 #[.slice A n c, .int .i64 k, .int .i64 g] w fun e w' => ∃ A c, e = .returned (.slice A m c) ∧ w'.ownsRow w.heap.size 9 1 (.slice A m c) m ((y.map textB).map .string) ∧ Below w.heap.size w w' := by
  have hlen := hrow.len4
  have hyl : y.length = m := by rw [← hy, List.length_take, List.length_drop]; omega
  obtain ⟨kg, hkg⟩ : ∃ x, k + g = x := ⟨_, rfl⟩
  have ekg : (k : Int) + g = kg := by omega
  have hget : ∀ j, j < m → ∃ b, x[k + j]? = some b ∧ ((y.take (j + 1)).map textB).map Value.string = ((y.take j).map textB).map Value.string ++ [.string (textB b)] := fun j hj => by
    have h1 : k + j < x.length := by omega
    refine ⟨x[k + j], List.getElem?_eq_getElem h1, ?_⟩
    have h2 : y[j]'(by omega) = x[k + j] := by subst hy; simp
    rw [List.take_succ_eq_append_getElem (by omega), h2]; simp
  have HG := Lib.hid hget
  have HYL := Lib.hid hyl
  have hm1 : m ≤ n - k := by omega
  have hm2 : m ≤ g := by omega
  have hm3 : m = g ∨ m = n - k := by omega
  clear hget hyl hlen hy hm
  go_enter Try.func61, Try.ntmps61
  go_wp2_with fail
  go_loopw [7, 8] (fun v i wr => ∃ j q : Nat, j ≤ m ∧ Hid (k + j = q) ∧ i = .int .i64 q ∧ wr.ownsRow w.heap.size 9 1 v j (((y.take j).map textB).map .string) ∧ Below w.heap.size w wr) (fun _ i _ => n - (intOf i).toNat)
  case atStart => exact ⟨0, k, Nat.zero_le _, Lib.hid rfl, rfl, by simpa using own_empty w w.heap.size rfl w.heap.size (Nat.le_refl _) 9 1, (Below.refl _ _).alloc (Nat.le_refl _) _⟩
  case round =>
    obtain ⟨j, q, hj, HQ, rfl, hown, hbel⟩ := hrel
    have hwz := hbel.size
    have hq := HQ.out
    obtain ⟨Av, cv, rfl, _, _⟩ := own_form hown
    by_cases hlt : j < m
    · obtain ⟨⟨num, raw, size, body⟩, hb, htk⟩ := HG.out j hlt
      rw [hq] at hb
      have h1 : q < kg := by omega
      have h2 : q < n := by omega
      obtain ⟨b, off, rfl, hbB, p0, p1, p2, p3⟩ := (hrow.below hbel hB).blk h2 hb
      have hbok := hok _ (List.mem_of_getElem? hb)
      obtain ⟨k1, k2, k3, _⟩ := hbok
      have hbs := Blk.okb_body (Blk.okb_of (hok _ (List.mem_of_getElem? hb)))
      simp only at k1 k2 k3 hbs
      have HF := Lib.hid (fun W => specL5Text ⟨num, raw, size, body⟩ W (by simp only; omega) (by simp only; omega) (by simp only; omega))
      obtain ⟨tx, htx⟩ : ∃ tx, textB ⟨num, raw, size, body⟩ = tx := ⟨_, rfl⟩
      rw [htx] at HF htk
      have HTK := Lib.hid htk
      have i1 : (0 : Int) ≤ q := by omega
      have hkm : k + m ≤ n := by omega
      clear htk htx hb hq hkg hm3
      go_wp2_with fail
      refine (HF.out _).mono ?_
      rintro e w2 ⟨rfl, hb2⟩
      have hown2 := own_below hown hb2 (Nat.le_refl _)
      have hbel2 := hbel.trans (hb2.mono hwz)
      have hz2 := hbel2.size
      clear hown hbel hb2 p0 p1 p2 p3
      go_wp2_with (first
        | (at_builtin; refine wpList_append_row _ elemStr rfl (.tmp 24) (.tmp 30) rfl w.heap.size _ _ _ rfl (hown2.alloc _) _ _ 1 1 [.string tx] rfl (Row.newAt _ w2.heap.size rfl _ [.string tx] 1 1 rfl) ?_ ?_ ?_ ?_ ?_))
      · intro u hu; simp at hu; subst hu; rfl
      · unfold maxLen; omega
      · omega
      · simp; omega
      · intro v4 w4 hv4 hg4 _
        have hbel4 : Below w.heap.size w w4 := (hbel2.alloc hz2 _).grown hg4 (by simp; omega) (fun g hg => (hown2.lt g hg).1)
        have hv4' : w4.ownsRow w.heap.size 9 1 v4 (j + 1) (((y.take (j + 1)).map textB).map .string) := by rw [HTK.out]; simpa using hv4
        clear hown2 hbel2 hg4
        go_wp2_with fail
        go_roundw
        case rel => exact ⟨j + 1, q + 1, by omega, Lib.hid (by have := HQ.out; omega), by go_num, hv4', hbel4⟩
        case measure => simp [intOf]; omega
    · obtain rfl : j = m := by omega
      have ht : y.take j = y := List.take_of_length_le (by rw [HYL.out]; omega)
      rw [ht] at hown
      by_cases h1 : q < kg
      · have h2 : ¬ q < n := by omega
        clear hq hkg hm3 ht
        go_wp2_with fail
        go_ret
        exact ⟨Av, cv, rfl, hown, hbel⟩
      · clear hq hkg hm3 ht
        go_wp2_with fail
        go_ret
        exact ⟨Av, cv, rfl, hown, hbel⟩

set_option maxHeartbeats 4000000 in
theorem specParityOf (s : ByteArray) (gi : Int) (w : World) (hs : s.size ≤ 1048576) (hg1 : -9223372036854775808 ≤ gi) (hg2 : gi ≤ 9223372036854775807) :
    Calls Try.prog 29 #[.string s, .int .i64 gi] w (StrsPost w (parO (contB s) gi)) := by
  rcases hx : contB s with _ | x
  · have H1 := Lib.hid (fun W => specL5BlocksNo s W hs hx)
    clear hx
    go_enter Try.func29, Try.ntmps29
    go_wp2_with fail
    refine (H1.out _).mono ?_
    rintro e w1 ⟨A1, c1, rfl, ho1, hb1⟩
    go_wp2_with fail
    go_ret2
    exact ⟨some ⟨w.heap.size, 0, none⟩, 0, rfl, own_below (own_empty w w.heap.size rfl w.heap.size (Nat.le_refl _) 9 1) hb1 (Nat.le_refl _), ((Below.refl _ _).alloc (Nat.le_refl _) _).trans (hb1.mono (by simp))⟩
  · obtain ⟨n, hn⟩ : ∃ n, x.length = n := ⟨_, rfl⟩
    have hnx := contB_numbered hx
    have hn40 := hnx.length
    rw [hn] at hn40
    have H1 := Lib.hid (fun W => specL5BlocksYes s x n W hs hx hn)
    by_cases hgi : 1 ≤ gi ∧ gi ≤ 40
    · have HI := Lib.hid (fun W => specL1In gi 1 40 true W (btrue hgi))
      obtain ⟨c1, c2⟩ := hgi
      obtain ⟨g, rfl⟩ := Int.eq_ofNat_of_zero_le (show 0 ≤ gi by omega)
      have hgp : 0 < g := by omega
      have hg40 : g ≤ 40 := by omega
      obtain ⟨R, hR⟩ : ∃ R, parFrom x g 0 = R := ⟨_, rfl⟩
      have hO : parO (some x) (g : Int) = some R := by rw [parO_yes (by omega) (by omega), hR]
      rw [hO]
      have HR := Lib.hid hR
      have HN := Lib.hid hn
      have hxok : ∀ b ∈ x, b.ok := fun b hb => hnx.of_mem hb
      clear hx hn hR hO hg1 hg2
      go_enter Try.func29, Try.ntmps29
      go_wp2_with fail
      refine (H1.out _).mono ?_
      rintro e w1 ⟨A1, c1', rfl, ho1, hb1x⟩
      have hb1 : Below w.heap.size w w1 := ((Below.refl _ _).alloc (Nat.le_refl _) _).trans (hb1x.mono (by simp))
      have hz1 := hb1.size
      have hr1 := Row.of_own ho1
      have hA1 : ∀ b off, A1 = some ⟨b, off, none⟩ → w.heap.size < b ∧ b < w1.heap.size := fun b off e => by
        have h := ho1.lt b (by subst e; rfl)
        simp at h; omega
      have hout := own_below (own_empty w w.heap.size rfl w.heap.size (Nat.le_refl _) 9 1) hb1x (Nat.le_refl _)
      clear ho1 hb1x
      go_wp2_with fail
      refine (HI.out _).mono ?_
      rintro e w2 ⟨rfl, rfl⟩
      go_wp2_with fail
      go_loopw [6, 9] (fun v i wr => ∃ (k L : Nat) (acc : List ByteArray), i = .int .i64 k ∧ Hid (acc ++ parFrom x g k = R) ∧ L ≤ k ∧ k ≤ 80 ∧ wr.ownsRow w.heap.size 9 1 v L (acc.map .string) ∧ OutAt w.heap.size w1.heap.size v ∧
          Row wr w1.heap.size 4 A1 n (cellsB x) ∧ w1.heap.size ≤ wr.heap.size ∧ Below w.heap.size w wr) (fun _ i _ => n - (intOf i).toNat)
      case atStart => exact ⟨0, 0, [], rfl, HR, Nat.le_refl _, by omega, hout, fun g hg => Or.inl (by injection hg with hg; exact hg.symm), hr1, Nat.le_refl _, hb1⟩
      case round =>
        obtain ⟨k, L, acc, rfl, HK, hLk, hk80, hown, hog, hrb, hwz, hbel⟩ := hrel
        have hwz0 := hbel.size
        obtain ⟨Av, cv, rfl, _, _⟩ := own_form hown
        by_cases hlt : k < n
        · obtain ⟨kg, hkg⟩ : ∃ x, k + g = x := ⟨_, rfl⟩
          have ekg : (k : Int) + g = kg := by omega
          obtain ⟨m, hm⟩ : ∃ m, m = min g (n - k) := ⟨_, rfl⟩
          have hm40 : m ≤ 40 := by omega
          obtain ⟨y, hy⟩ : ∃ y, (x.drop k).take m = y := ⟨_, rfl⟩
          have hyg : (x.drop k).take g = y := by rw [take_drop_min x k g m (by rw [HN.out]; omega), hy]
          have hyok : ∀ b ∈ y, b.ok := fun b hb => hnx.of_mem (List.mem_of_mem_drop (List.mem_of_mem_take (hy ▸ hb)))
          have hnext : (acc ++ [parT (y.map textB)]) ++ parFrom x g kg = R := by rw [← HK.out, parFrom_next (bs := x) (g := g) (k := k) (by rw [HN.out]; exact hlt) hgp, hyg, hkg]; simp
          have HX := Lib.hid hnext
          have ts1000 : ∀ t ∈ y.map textB, t.size ≤ 1000 := fun t ht => by
            obtain ⟨b, hb, rfl⟩ := List.mem_map.1 ht
            have := Blk.okb_body (Blk.okb_of (hyok b hb))
            rw [textB_size]; omega
          have HP := Lib.hid (fun A c W h1 h2 => specL7Parity A m c W.heap.size (y.map textB) W h1 h2 (by omega) ts1000)
          have HGP := Lib.hid (fun W h1 h2 => specL7Group A1 n c1' w1.heap.size x k g m y W h1 h2 hn40 hlt hg40 hgp hm hy hxok)
          have hgk : kg - k = g := by omega
          obtain ⟨tp, htp⟩ : ∃ tp, parT (y.map textB) = tp := ⟨_, rfl⟩
          rw [htp] at HX HP
          clear hyg hnext hy ts1000 hyok htp hm
          go_wp2_with fail
          refine (HGP.out _ hrb hwz).mono ?_
          rintro e w3 ⟨A3, c3, rfl, ho3, hb3⟩
          have hown3 := own_below hown hb3 (Nat.le_refl _)
          have hrb3 := hrb.below hb3 hwz
          have hbel3 := hbel.trans (hb3.mono hwz0)
          have hz3 : w1.heap.size ≤ w3.heap.size := Nat.le_trans hwz hb3.size
          have hr3 := Row.of_own ho3
          clear hown hrb hbel hb3 ho3
          go_wp2_with fail
          refine (HP.out _ _ _ hr3 (Nat.le_refl _)).mono ?_
          rintro e w4 ⟨rfl, hb4⟩
          have hown4 := own_below hown3 hb4 (Nat.le_refl _)
          have hrb4 := hrb3.below hb4 hz3
          have hbel4 := hbel3.trans (hb4.mono hbel3.size)
          have hz4 : w1.heap.size ≤ w4.heap.size := Nat.le_trans hz3 hb4.size
          have hz04 := hbel4.size
          clear hown3 hrb3 hbel3 hb4 hr3
          go_wp2_with (first
            | (at_builtin; refine wpList_append_row _ elemStr rfl (.tmp 31) (.tmp 37) rfl w.heap.size _ _ _ rfl (hown4.alloc _) _ _ 1 1 [.string tp] rfl (Row.newAt _ w4.heap.size rfl _ [.string tp] 1 1 rfl) ?_ ?_ ?_ ?_ ?_))
          · intro u hu; simp at hu; subst hu; rfl
          · unfold maxLen; omega
          · omega
          · simp; omega
          · intro v5 w5 hv5 hg5 hv5o
            have hb5 : Below w.heap.size w w5 := (hbel4.alloc hz04 _).grown hg5 (by simp; omega) (fun g hg => (hown4.lt g hg).1)
            have hrb5 := (hrb4.alloc hz4 _).other hg5 (by simp; omega) (fun b' off' e h => by
              have k1 := hA1 b' off' e
              rcases hog b' h with k2 | k2 <;> omega)
            have hog5 : OutAt w.heap.size w1.heap.size v5 := fun g' hg' => by
              rcases hv5o with k1 | k1
              · exact hog g' (k1 ▸ hg')
              · rw [hg'] at k1
                injection k1 with k1
                have hk : w4.heap.size ≤ g' := by
                  subst k1
                  simp
                exact Or.inr (by omega)
            have hz5 : w1.heap.size ≤ w5.heap.size := Nat.le_trans (by simp; omega) hg5.size
            clear hown4 hbel4 hg5 hrb4 hv5o hog
            go_wp2_with fail
            go_roundw
            case rel => exact ⟨kg, L + 1, acc ++ [tp], rfl, HX, by omega, by omega, by rw [List.map_append]; exact hv5, hog5, hrb5, hz5, hb5⟩
            case measure => simp [intOf]; omega
        · have hX : acc = R := by rw [← HK.out, parFrom_end (by rw [HN.out]; exact hlt), List.append_nil]
          subst hX
          have hLL := strs_of_own hown
          have HLL := Lib.hid hLL
          clear hLL
          go_wp2_with fail
          go_ret2
          exact ⟨Av, cv, by rw [Option.getD_some, HLL.out]; rfl, by rw [Option.getD_some, HLL.out]; exact hown, hbel⟩
    · rw [parO_no hgi]
      have HI := Lib.hid (fun W => specL1In gi 1 40 false W (bfalse hgi))
      clear hx hn hgi
      go_enter Try.func29, Try.ntmps29
      go_wp2_with fail
      refine (H1.out _).mono ?_
      rintro e w1 ⟨A1, c1, rfl, ho1, hb1⟩
      go_wp2_with fail
      refine (HI.out _).mono ?_
      rintro e w2 ⟨rfl, rfl⟩
      go_wp2_with fail
      go_ret2
      exact ⟨some ⟨w.heap.size, 0, none⟩, 0, rfl, own_below (own_empty w w.heap.size rfl w.heap.size (Nat.le_refl _) 9 1) hb1 (Nat.le_refl _), ((Below.refl _ _).alloc (Nat.le_refl _) _).trans (hb1.mono (by simp))⟩

end Go.Proofs.Ytcafejahdiedpaa
