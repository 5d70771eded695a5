/-
  The contract of ParityOf of the program.
-/
import Derived.Test.YtcafejahdiedpaaPar
import Derived.Test.YtcafejahdiedpaaTake
namespace Go.Proofs.Ytcafejahdiedpaa
open Go.RowKit
set_option linter.unusedVariables false

theorem parFrom_length {bs : List Blk} {g : Nat} (hg : 0 < g) : ∀ d k : Nat, bs.length - k = d → (parFrom bs g k).length ≤ d := by
  intro d
  induction d using Nat.strongRecOn with
  | ind d ih =>
    intro k hk
    by_cases h : k < bs.length
    · rw [parFrom_next h hg, List.length_cons]
      have := ih (bs.length - (k + g)) (by omega) (k + g) rfl
      omega
    · rw [parFrom_end h]; simp

theorem take_drop_min {α : Type} (l : List α) (k g m : Nat) (hm : m = min g (l.length - k)) : (l.drop k).take g = (l.drop k).take m := by
  subst hm
  rw [List.take_eq_take_iff, List.length_drop]
  omega

set_option maxHeartbeats 4000000 in
theorem implParityOf (s : ByteArray) (gi : Int) (w : World) (hs : s.size ≤ 1048576) (hg1 : -9223372036854775808 ≤ gi) (hg2 : gi ≤ 9223372036854775807) :
    Calls Try.prog 30 #[.string s, .int .i64 gi] w (StrsPost w (parO (contB s) gi)) := by
  rcases hx : contB s with _ | x
  · have H1 := Lib.hid (fun W => implContainerBlocksNo s W hs hx)
    clear hx
    go_enter Try.func30, Try.ntmps30
    go_wp2_with fail
    refine (H1.out _).mono ?_
    rintro e w1 ⟨A1, c1, rfl, ho1, hb1⟩
    go_wp2_with fail
    go_ret2
    exact ⟨none, 0, rfl, ⟨rfl, .inl ⟨rfl, rfl⟩⟩, hb1⟩
  · obtain ⟨n, hn⟩ : ∃ n, x.length = n := ⟨_, rfl⟩
    have hnx := contB_numbered hx
    have hn40 := hnx.length
    rw [hn] at hn40
    have H1 := Lib.hid (fun W => implContainerBlocksYes s x n W hs hx hn)
    by_cases hgi : 1 ≤ gi ∧ gi ≤ 40
    · obtain ⟨c1, c2⟩ := hgi
      obtain ⟨g, rfl⟩ := Int.eq_ofNat_of_zero_le (show 0 ≤ gi by omega)
      have hgp : 0 < g := by omega
      have hg40 : g ≤ 40 := by omega
      obtain ⟨R, hR⟩ : ∃ R, parFrom x g 0 = R := ⟨_, rfl⟩
      have hO : parO (some x) (g : Int) = some R := by rw [parO_yes (by omega) (by omega), hR]
      rw [hO]
      have HR := Lib.hid hR
      have HN := Lib.hid hn
      clear hx hn hR hO hg1 hg2
      go_enter Try.func30, Try.ntmps30
      go_wp2_with fail
      refine (H1.out _).mono ?_
      rintro e w1 ⟨A1, c1', rfl, ho1, hb1⟩
      have hnc : n ≤ c1' := by
        obtain ⟨_, _, hh, h, _⟩ := own_form ho1
        injection hh with _ _ hh
        omega
      have hz1 := hb1.size
      have hr1 := Row.of_own ho1
      clear ho1
      go_wp2_with fail
      go_loopw [8, 9] (fun v i wr => ∃ (k L : Nat) (acc : List ByteArray), i = .int .i64 k ∧ Hid (acc ++ parFrom x g k = R) ∧ L ≤ k ∧ k ≤ 80 ∧ wr.ownsRow w1.heap.size 9 1 v L (acc.map .string) ∧ Below w1.heap.size w1 wr) (fun _ i _ => n - (intOf i).toNat)
      case atStart => exact ⟨0, 0, [], rfl, HR, Nat.le_refl _, by omega, ⟨rfl, .inl ⟨rfl, rfl⟩⟩, Below.refl _ _⟩
      case round =>
        obtain ⟨k, L, acc, rfl, HK, hLk, hk80, hown, hbel⟩ := hrel
        have hwz := hbel.size
        obtain ⟨Av, cv, rfl, _, _⟩ := own_form hown
        by_cases hlt : k < n
        · obtain ⟨b, off, rfl, hbB, _⟩ := hr1.2 (by omega)
          obtain ⟨kg, hkg⟩ : ∃ x, k + g = x := ⟨_, rfl⟩
          have ekg : (k : Int) + g = kg := by omega
          obtain ⟨r, hr⟩ : ∃ r, min kg n = r := ⟨_, rfl⟩
          have hkr : k ≤ r := by omega
          have hrn : r ≤ n := by omega
          obtain ⟨m, hm⟩ : ∃ m, r - k = m := ⟨_, rfl⟩
          have hm0 : m ≤ 40 := by omega
          have hsub := hr1.sub (l := k) (r := r) hkr hrn hnc
          have hck : ¬ c1' = k := by omega
          obtain ⟨y, hy⟩ : ∃ y, (x.drop k).take m = y := ⟨_, rfl⟩
          have hyl : y.length = m := by rw [← hy, List.length_take, List.length_drop, HN.out]; omega
          have hyg : (x.drop k).take g = y := by rw [take_drop_min x k g m (by rw [HN.out]; omega), hy]
          have hcells : ((cellsB x).drop (k * 4)).take (m * 4) = cellsB y := by rw [← hy, cellsB_take, cellsB_drop]
          rw [if_neg hck, hm, hcells, Option.map_some, addr_add] at hsub
          have hyok : ∀ b ∈ y, b.ok := fun b hb => hnx.of_mem (List.mem_of_mem_drop (List.mem_of_mem_take (hy ▸ hb)))
          have hnext : (acc ++ [parT (y.map textB)]) ++ parFrom x g kg = R := by rw [← HK.out, parFrom_next (bs := x) (g := g) (k := k) (by rw [HN.out]; exact hlt) hgp, hyg, hkg]; simp
          have HX := Lib.hid hnext
          have HYL := Lib.hid hyl
          have ts1000 : ∀ t ∈ y.map textB, t.size ≤ 1000 := fun t ht => by
            obtain ⟨b, hb, rfl⟩ := List.mem_map.1 ht
            have := Blk.okb_body (Blk.okb_of (hyok b hb))
            rw [textB_size]; omega
          have HP := Lib.hid (fun A c W h1 h2 => implParity A m c W.heap.size (y.map textB) W h1 h2 (by omega) ts1000)
          have erk : r - k = m := hm
          have hkr' : (k : Int) ≤ r := by omega
          have hrn' : (r : Int) ≤ n := by omega
          have hgk : kg - k = g := by omega
          clear hyg hnext hy hcells hyl ts1000 hbB
          have emin : min (kg : Int) (n : Int) = r := by omega
          have hr1k := hr1
          clear hr hkr' hrn'
          have i1 : (k : Int) ≤ r := by omega
          have i2 : (r : Int) ≤ n := by omega
          go_wp2_with fail
          obtain ⟨wo, rfl⟩ : ∃ wo : World, wo = wr := ⟨_, rfl⟩
          go_loopw [10, 47] (fun v i wr => ∃ j : Nat, j ≤ m ∧ i = .int .i64 j ∧ wr.ownsRow wo.heap.size 9 1 v j (((y.take j).map textB).map .string) ∧ Below wo.heap.size wo wr) (fun _ i _ => m - (intOf i).toNat)
          case atStart => exact ⟨0, Nat.zero_le _, rfl, ⟨by simp, .inl ⟨rfl, by simp⟩⟩, Below.refl _ _⟩
          case round =>
            obtain ⟨j, hj, rfl, hown2, hbel2⟩ := hrel
            have hwz2 := hbel2.size
            obtain ⟨Aw, cw, rfl, _, _⟩ := own_form hown2
            by_cases hlt2 : j < m
            · obtain ⟨⟨num, raw, size, body⟩, hb⟩ : ∃ b, y[j]? = some b := ⟨_, List.getElem?_eq_getElem (by rw [HYL.out]; exact hlt2)⟩
              obtain ⟨g', off', e0, hg', p0, p1, p2, p3⟩ := ((hsub.below hbel (Nat.le_refl _)).below hbel2 hwz).blk hlt2 hb
              injection e0 with e0
              injection e0 with e0 e1
              subst e0 e1
              have hbok := hyok _ (List.mem_of_getElem? hb)
              have hbs := Blk.okb_body (Blk.okb_of hbok)
              simp only at hbs
              have HF := Lib.hid (fun W => implFormatBlockYes num size raw body W hbok)
              have htk : ((y.take (j + 1)).map textB).map Value.string = ((y.take j).map textB).map Value.string ++ [.string (textB ⟨num, raw, size, body⟩)] := by
                obtain ⟨h1, h2⟩ := List.getElem?_eq_some_iff.1 hb
                rw [List.take_succ_eq_append_getElem h1, h2]; simp
              obtain ⟨tx, htx⟩ : ∃ tx, textB ⟨num, raw, size, body⟩ = tx := ⟨_, rfl⟩
              rw [htx] at HF htk
              have HTK := Lib.hid htk
              clear htk htx hb hbok
              go_wp2_with fail
              refine (HF.out _).mono ?_
              rintro e w3 ⟨rfl, hb3⟩
              have hown3 := own_below (hown2.alloc (.cells #[.int .i64 num, .bool raw, .int .i64 size, .string body] 66)) hb3 (Nat.le_refl _)
              have hbel3 : Below wo.heap.size wo w3 := (hbel2.alloc hwz2 (.cells #[.int .i64 num, .bool raw, .int .i64 size, .string body] 66)).trans (hb3.mono (by simp; omega))
              have hz3 := hbel3.size
              clear hown2 hbel2 hb3 p0 p1 p2 p3
              go_wp2_with (first
                | (at_builtin; refine wpList_append_row _ elemStr rfl (.tmp 56) (.tmp 58) rfl wo.heap.size _ _ _ rfl (hown3.alloc _) _ _ 1 1 [.string tx] rfl (Row.newAt _ w3.heap.size rfl _ [.string tx] 1 1 rfl) ?_ ?_ ?_ ?_ ?_))
              · intro u hu; simp at hu; subst hu; rfl
              · unfold maxLen; omega
              · omega
              · simp; omega
              · intro v4 w4 hv4 hg4 _
                have hbel4 : Below wo.heap.size wo w4 := (hbel3.alloc hz3 _).grown hg4 (by simp; omega) (fun g hg => (hown3.lt g hg).1)
                have hv4' : w4.ownsRow wo.heap.size 9 1 v4 (j + 1) (((y.take (j + 1)).map textB).map .string) := by rw [HTK.out]; simpa using hv4
                clear hown3 hbel3 hg4
                go_wp2_with fail
                go_roundw
                case rel => exact ⟨j + 1, by omega, by go_num, hv4', hbel4⟩
                case measure => simp [intOf]; omega
            · obtain rfl : j = m := by omega
              have ht : y.take j = y := List.take_of_length_le (by rw [HYL.out]; omega)
              rw [ht] at hown2
              have hrow2 := Row.of_own hown2
              have hown5 := own_below hown hbel2 (Nat.le_refl _)
              have hbel5 := hbel.trans (hbel2.mono hwz)
              clear ht hown2 hown hbel hbel2
              go_wp2_with fail
              refine (HP.out _ _ _ hrow2 (Nat.le_refl _)).mono ?_
              rintro e w6 ⟨rfl, hb6⟩
              have hown6 := own_below hown5 hb6 (Nat.le_refl _)
              have hbel6 := hbel5.trans (hb6.mono hbel5.size)
              have hz6 := hbel6.size
              clear hown5 hbel5 hb6 hrow2
              obtain ⟨tp, htp⟩ : ∃ tp, parT (y.map textB) = tp := ⟨_, rfl⟩
              rw [htp] at HX ⊢
              go_wp2_with (first
                | (at_builtin; refine wpList_append_row _ elemStr rfl (.tmp 61) (.tmp 64) rfl w1.heap.size _ _ _ rfl (hown6.alloc _) _ _ 1 1 [.string tp] rfl (Row.newAt _ w6.heap.size rfl _ [.string tp] 1 1 rfl) ?_ ?_ ?_ ?_ ?_))
              · intro u hu; simp at hu; subst hu; rfl
              · unfold maxLen; omega
              · omega
              · simp; omega
              · intro v7 w7 hv7 hg7 _
                have hbel7 : Below w1.heap.size w1 w7 := (hbel6.alloc hz6 _).grown hg7 (by simp; omega) (fun g hg => (hown6.lt g hg).1)
                clear hown6 hbel6 hg7 htp
                go_wp2_with fail
                go_roundw
                case rel => exact ⟨kg, L + 1, acc ++ [tp], rfl, HX, by omega, by omega, by rw [List.map_append]; exact hv7, hbel7⟩
                case measure => simp [intOf]; omega
        · have hX : acc = R := by rw [← HK.out, parFrom_end (by rw [HN.out]; exact hlt), List.append_nil]
          subst hX
          have hLL := strs_of_own hown
          have HLL := Lib.hid hLL
          clear hLL
          go_wp2_with fail
          go_ret2
          exact ⟨Av, cv, by rw [Option.getD_some, HLL.out]; rfl, by rw [Option.getD_some, HLL.out]; exact own_base hown hz1, hb1.trans (hbel.mono hz1)⟩
    · rw [parO_no hgi]
      have hc : (gi : Int) < 1 ∨ 40 < gi := by omega
      clear hx hn
      rcases hc with hc | hc
      all_goals
        go_enter Try.func30, Try.ntmps30
        go_wp2_with fail
        refine (H1.out _).mono ?_
        rintro e w1 ⟨A1, c1, rfl, ho1, hb1⟩
        go_wp2_with fail
        go_ret2
        exact ⟨none, 0, rfl, ⟨rfl, .inl ⟨rfl, rfl⟩⟩, hb1⟩

end Go.Proofs.Ytcafejahdiedpaa
