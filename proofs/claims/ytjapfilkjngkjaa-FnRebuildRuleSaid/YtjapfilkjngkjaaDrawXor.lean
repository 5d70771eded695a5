/-
  The contracts of l7Texts and DrawXorTexts: some strings that are not too many nor too long, in new memory.
-/
import Derived.Test.YtjapfilkjngkjaaDraw
import Derived.Test.YtjapfilkjngkjaaTexts
namespace Go.Proofs.Ytjapfilkjngkjaa
open Go.RowKit
set_option linter.unusedVariables false

/-- What a draw of strings returns. -/
def DrawStrs (g P L M : Nat) (w : World) (e : Ending) (w' : World) : Prop :=
  ∃ (A : Option Addr) (n c : Nat) (ss : List ByteArray), e = .returned (.slice A n c) ∧ w'.ownsRow w.heap.size 9 1 (.slice A n c) n (ss.map .string) ∧ n ≤ L ∧ (∀ s ∈ ss, s.size ≤ M) ∧ Dr g P w w'

set_option maxHeartbeats 2000000 in
theorem specL7Texts (g P : Nat) (w : World) (h : RdAt w g P) (hP : P ≤ 800000) :
    Calls Try.prog 18 #[.pointer (some ⟨g, 0, none⟩)] w (DrawStrs g (P + 61) 5 9 w) := by
  have hg := h.lt
  go_enter Try.func18, Try.ntmps18
  go_wp2_with fail
  refine (specPick g P 6 _ (h.alloc _) (by omega) (by omega) (by omega)).mono ?_
  rintro e w1 ⟨r, rfl, hr1, _, hd1⟩
  have hr6 : r < 6 := by omega
  have hown1 := own_drawn_kept (own_empty w w.heap.size rfl w.heap.size (Nat.le_refl _) 9 1) hd1 hg
  have hdr1 : Dr g (P + 1) w w1 := ⟨hd1.rd, only_then (World.grownBy_alloc w _ (some g)) hd1.only (fun j e => Or.inr e)⟩
  clear hr1 hd1
  go_wp2_with fail
  go_loopw [3, 4] (fun v i wr => ∃ (k j : Nat) (ss : List ByteArray), i = .int .i64 k ∧ j + k = r ∧ (∀ s ∈ ss, s.size ≤ 9) ∧ wr.ownsRow w.heap.size 9 1 v j (ss.map .string) ∧ Dr g (P + 1 + 10 * j) w wr) (fun _ i _ => (intOf i).toNat)
  case atStart => exact ⟨r, 0, [], rfl, by omega, by simp, hown1, hdr1⟩
  case round =>
    obtain ⟨k, j, ss, rfl, hjk, hss, hown, hdr⟩ := hrel
    have hdz := hdr.size
    obtain ⟨Av, cv, rfl, _, _⟩ := own_form hown
    have HSS := Lib.hid hss
    clear hss
    by_cases hk : 0 < k
    · go_wp2_with fail
      refine (specL1Bytes g (P + 1 + 10 * j) 9 _ hdr.rd (by omega) (by omega)).mono ?_
      rintro e w2 ⟨s, rfl, hs, hd2⟩
      have hown2 := own_drawn_kept hown hd2 hg
      have hdr2 := (hdr.trans hd2).more (show P + 1 + 10 * j + 9 + 1 ≤ P + 1 + 10 * (j + 1) by omega)
      have hdz2 := hdr2.size
      clear hd2 hown hdr
      go_wp2_with (first
        | (at_builtin; refine wpList_append_row _ elemStr rfl (.tmp 12) (.tmp 15) rfl w.heap.size _ _ _ rfl (hown2.alloc _) _ _ 1 1 [.string s] rfl (Row.newAt _ w2.heap.size rfl _ [.string s] 1 1 rfl) ?_ ?_ ?_ ?_ ?_))
      · intro u hu; simp at hu; subst hu; rfl
      · unfold maxLen; omega
      · omega
      · simp; omega
      · intro v4 w4 hv4 hg4 _
        have hdr4 := (hdr2.alloc _).grown hg4 (fun g' hg' => (hown2.lt g' hg').1) hg
        have hv4' : w4.ownsRow w.heap.size 9 1 v4 (j + 1) ((ss ++ [s]).map .string) := by rw [List.map_append, List.map_cons, List.map_nil]; exact hv4
        have hss' : ∀ u ∈ ss ++ [s], u.size ≤ 9 := fun u hu => by
          rcases List.mem_append.1 hu with h | h
          · exact HSS.out u h
          · simp at h; subst h; exact hs
        have HS2 := Lib.hid hss'
        obtain ⟨k', rfl⟩ : ∃ k', k = k' + 1 := ⟨k - 1, by omega⟩
        clear hown2 hdr2 hg4 hv4 hss'
        go_wp2_with fail
        go_roundw
        case rel => exact ⟨k', j + 1, ss ++ [s], by go_num, by omega, HS2.out, hv4', hdr4⟩
        case measure => simp [intOf]
    · obtain rfl : k = 0 := by omega
      go_wp2_with fail
      go_ret
      exact ⟨Av, j, cv, ss, rfl, hown, by omega, HSS.out, hdr.more (by omega)⟩

/-- Some strings in new memory. -/
def NewSome (L M : Nat) (w : World) (e : Ending) (w' : World) : Prop :=
  ∃ (A : Option Addr) (n c : Nat) (ss : List ByteArray), e = .returned (.slice A n c) ∧ w'.ownsRow w.heap.size 9 1 (.slice A n c) n (ss.map .string) ∧ n ≤ L ∧ (∀ s ∈ ss, s.size ≤ M) ∧ Below w.heap.size w w'

theorem specDrawXorTexts (A : Option Addr) (n c : Nat) (bs : List UInt8) (w : World) (h : ByteRow w A n bs) (hnc : n ≤ c) :
    Calls Try.prog 6 #[.slice A n c] w (NewSome 5 9 w) := by
  go_enter Try.func6, Try.ntmps6
  go_wp2_with fail
  refine (specL9Open A n c bs _ h hnc).mono ?_
  rintro e w1 ⟨rfl, hrd, hb1⟩
  have hz1 := hb1.size
  have hglt := hrd.lt
  go_wp2_with fail
  refine (specL7Texts _ 0 _ hrd (by omega)).mono ?_
  rintro e w2 ⟨A2, n2, c2, ss, rfl, hown, hn2, hss, hd⟩
  have HSS := Lib.hid hss
  clear hss
  go_wp2_with fail
  go_ret
  exact ⟨A2, n2, c2, ss, rfl, own_base hown hz1, hn2, HSS.out, hb1.trans (hd.below (Nat.le_refl _) hglt)⟩

end Go.Proofs.Ytjapfilkjngkjaa
