/-
  The contract of DrawRebuildText: some strings and a parity that are not too many nor too long, in new memory.
-/
import Derived.Test.YtjapfilkjngkjaaDrawXor
import Derived.Test.YtjapfilkjngkjaaParTwo
namespace Go.Proofs.Ytjapfilkjngkjaa
open Go.RowKit
set_option linter.unusedVariables false

/-- Some strings and a parity. -/
def SomeAnd (L M K : Nat) (w : World) (e : Ending) (w' : World) : Prop :=
  ∃ (A : Option Addr) (n c : Nat) (ss : List ByteArray) (p : ByteArray), e = .returned (.tuple #[.slice A n c, .string p]) ∧ Row w' w'.heap.size 1 A n (ss.map .string) ∧ n ≤ L ∧ (∀ s ∈ ss, s.size ≤ M) ∧ p.size ≤ K ∧ Below w.heap.size w w'

/-- All but the last of a row. -/
theorem Row.less {w : World} {B n k : Nat} {A : Option Addr} {xs : List Value} (h : Row w B 1 A n xs) (hk : k ≤ n) : Row w B 1 A k (xs.take k) := by
  refine ⟨by have := h.1; rw [List.length_take]; omega, fun hn => ?_⟩
  obtain ⟨b, off, e, hb, hc⟩ := h.2 (by omega)
  refine ⟨b, off, e, hb, fun j u hu => hc j u ?_⟩
  rw [List.getElem?_take] at hu
  split at hu
  · exact hu
  · cases hu

set_option maxHeartbeats 4000000 in
theorem specDrawRebuildText (A : Option Addr) (n c : Nat) (bs : List UInt8) (w : World) (h : ByteRow w A n bs) (hnc : n ≤ c) :
    Calls Try.prog 10 #[.slice A n c] w (SomeAnd 6 9 11 w) := by
  go_enter Try.func10, Try.ntmps10
  go_wp2_with fail
  refine (specL9Open A n c bs _ h hnc).mono ?_
  rintro e w1 ⟨rfl, hrd, hb1⟩
  have hz1 := hb1.size
  have hglt := hrd.lt
  obtain ⟨g, hg⟩ : ∃ g, w.heap.size = g := ⟨_, rfl⟩
  rw [hg] at hrd hb1 hz1 hglt
  rw [hg]
  have HGG := Lib.hid hg
  clear hg
  go_wp2_with fail
  refine (specL7Texts g 0 _ hrd (by omega)).mono ?_
  rintro e w2 ⟨A2, n2, c2, ss, rfl, hown2, hn2, hss, hd2⟩
  have HSS := Lib.hid hss
  have hz2 := hd2.size
  clear hss
  go_wp2_with fail
  refine (specL1Bytes g 61 9 _ hd2.rd (by omega) (by omega)).mono ?_
  rintro e w3 ⟨s, rfl, hs, hd3⟩
  have hown3 := own_drawn_kept hown2 hd3 hglt
  have hd3' := hd2.trans hd3
  have hz3 := hd3'.size
  clear hown2 hd2 hd3
  go_wp2_with (first
    | (at_builtin; refine wpList_append_row _ elemStr rfl (.tmp 10) (.tmp 13) rfl w1.heap.size _ _ _ rfl (hown3.alloc _) _ _ 1 1 [.string s] rfl (Row.newAt _ w3.heap.size rfl _ [.string s] 1 1 rfl) ?_ ?_ ?_ ?_ ?_))
  · intro u hu; simp at hu; subst hu; rfl
  · unfold maxLen; omega
  · omega
  · simp; omega
  · intro v4 w4 hv4 hg4 _
    have hd4 := (hd3'.alloc _).grown hg4 (fun g' hg' => (hown3.lt g' hg').1) hglt
    have hz4 := hd4.size
    have hv4' : w4.ownsRow w1.heap.size 9 1 v4 (n2 + 1) ((ss ++ [s]).map .string) := by rw [List.map_append, List.map_cons, List.map_nil]; exact hv4
    have hss' : ∀ u ∈ ss ++ [s], u.size ≤ 9 := fun u hu => by
      rcases List.mem_append.1 hu with h | h
      · exact HSS.out u h
      · simp at h; subst h; exact hs
    obtain ⟨ts, hts⟩ : ∃ ts, ss ++ [s] = ts := ⟨_, rfl⟩
    rw [hts] at hv4' hss'
    obtain ⟨m, hm⟩ : ∃ m, n2 + 1 = m := ⟨_, rfl⟩
    rw [hm] at hv4'
    have hm6 : m ≤ 6 := by omega
    have hm1 : 1 ≤ m := by omega
    obtain ⟨A4, c4, rfl, _, _⟩ := own_form hv4'
    have hrow4 := Row.of_own hv4'
    have hpz : (parT ts).size ≤ 11 := by
      unfold parT
      rw [ByteArray.size_append]
      have h1 := xorLens_size ts
      have h2 := xorAll_le hss'
      omega
    obtain ⟨p0, hp0⟩ : ∃ p, parT ts = p := ⟨_, rfl⟩
    have HPP := fun W h1 h2 => specL7Parity A4 m c4 w4.heap.size ts W h1 h2 (by omega) (fun t ht => by have := hss' t ht; omega)
    rw [hp0] at HPP hpz
    have HPP := Lib.hid HPP
    have HSZ := Lib.hid hss'
    clear hown3 hd3' hg4 hv4 hss' hts hm HSS hp0 hs
    go_wp2_with fail
    refine (HPP.out _ hrow4 (Nat.le_refl _)).mono ?_
    rintro e w5 ⟨rfl, hb5⟩
    have hd5 := hd4.then_below hb5
    have hown5 := own_below hv4' hb5 (Nat.le_refl _)
    have hz5 := hd5.size
    clear hd4 hv4' hrow4 hb5
    go_wp2_with fail
    refine (specPick g 71 12 _ hd5.rd (by omega) (by omega) (by omega)).mono ?_
    rintro e w6 ⟨r, rfl, hr, _, hd6⟩
    have hr12 : r < 12 := by omega
    have hown6 := own_drawn_kept hown5 hd6 hglt
    have hd6' := hd5.trans hd6
    have hz6 := hd6'.size
    clear hown5 hd5 hd6 hr
    obtain ⟨m', rfl⟩ : ∃ m', m = m' + 1 := ⟨m - 1, by omega⟩
    have em : ((m' + 1 : Nat) : Int) - 1 = m' := by omega
    by_cases h0 : r = 0
    · subst h0
      go_wp2_with fail
      refine (specL1Bytes g 72 6 _ hd6'.rd (by omega) (by omega)).mono ?_
      rintro e w7 ⟨p, rfl, hp, hd7⟩
      have hown7 := own_drawn_kept hown6 hd7 hglt
      have hd7' := hd6'.trans hd7
      have hc7 := (own_form hown7)
      have hle7 : m' + 1 ≤ c4 := by
        obtain ⟨_, _, hh, h, _⟩ := hc7
        simp only [Value.slice.injEq] at hh
        omega
      obtain ⟨g7, rfl, hg7, hg7l⟩ := own_addr hown7 (by omega)
      have hrow7 := (Row.of_own hown7).less (k := m') (by omega)
      have hbb := hb1.trans (hd7'.below (Nat.le_refl _) hglt)
      clear hown6 hd6' hd7 hd7' hown7 hc7
      go_wp2_with fail
      go_returns
      refine ⟨_, _, _, ts.take m', p, rfl, ?_, by omega, ?_, by omega, by rw [HGG.out]; exact hbb⟩
      · rw [List.map_take]; exact hrow7
      · exact fun u hu => HSZ.out u (List.mem_of_mem_take hu)
    · by_cases h1 : r = 1
      · subst h1
        go_wp2_with fail
        refine (specL1Bytes g 72 20 _ hd6'.rd (by omega) (by omega)).mono ?_
        rintro e w7 ⟨q, rfl, hq, hd7⟩
        have hown7 := own_drawn_kept hown6 hd7 hglt
        have hd7' := hd6'.trans hd7
        have hz7 := hd7'.size
        clear hown6 hd7 hd6'
        go_wp2_with (first
          | (at_builtin; refine wpList_append_row _ elemStr rfl (.tmp 25) (.tmp 28) rfl w1.heap.size _ _ _ rfl (hown7.alloc _) _ _ 1 1 [.string q] rfl (Row.newAt _ w7.heap.size rfl _ [.string q] 1 1 rfl) ?_ ?_ ?_ ?_ ?_))
        · intro u hu; simp at hu; subst hu; rfl
        · unfold maxLen; omega
        · omega
        · simp; omega
        · intro v8 w8 hv8 hg8 _
          have hd8 := (hd7'.alloc _).grown hg8 (fun g' hg' => (hown7.lt g' hg').1) hglt
          obtain ⟨A8, c8, rfl, hle8, _⟩ := own_form hv8
          obtain ⟨g8, rfl, hg8a, hg8l⟩ := own_addr hv8 (by omega)
          have hlt : (ts.map Value.string).length = m' + 1 := by have := hv8.1; simp at this; simpa using this
          have hrow8 := (Row.of_own hv8).less (k := m' + 1) (by omega)
          rw [List.take_append_of_le_length (by omega), List.take_of_length_le (by omega)] at hrow8
          have hbb := hb1.trans (hd8.below (Nat.le_refl _) hglt)
          have em2 : ((m' + 1 + 1 : Nat) : Int) - 1 = ((m' + 1 : Nat) : Int) := by omega
          clear hown7 hd7' hd8 hv8 hg8
          go_wp2_with fail
          go_returns
          exact ⟨_, _, _, ts, p0, rfl, hrow8, by omega, HSZ.out, by omega, by rw [HGG.out]; exact hbb⟩
      · have hle7 : m' + 1 ≤ c4 := by
          obtain ⟨_, _, hh, h, _⟩ := own_form hown6
          simp only [Value.slice.injEq] at hh
          omega
        obtain ⟨g7, rfl, hg7, hg7l⟩ := own_addr hown6 (by omega)
        have hrow7 := (Row.of_own hown6).less (k := m') (by omega)
        have hbb := hb1.trans (hd6'.below (Nat.le_refl _) hglt)
        clear hown6 hd6'
        go_wp2_with fail
        go_returns
        refine ⟨_, _, _, ts.take m', p0, rfl, ?_, by omega, ?_, by omega, by rw [HGG.out]; exact hbb⟩
        · rw [List.map_take]; exact hrow7
        · exact fun u hu => HSZ.out u (List.mem_of_mem_take hu)

end Go.Proofs.Ytjapfilkjngkjaa
