/-
  l9Cut of the reference cuts a text at its spaces.
-/
import Derived.Test.YtlcflddjbhlloaaDoorCutPlain
import Derived.Test.YtlcflddjbhlloaaDoorInts
import Derived.Test.YtlcflddjbhlloaaDoorTexts
import Derived.Test.YtlcflddjbhlloaaDoorSmall
namespace Go.Proofs.YtlcflddjbhlloaaDoor
open Go.RowKit
set_option linter.unusedVariables false

/-- Where the cutting stands: before byte i, the open piece begins at f. -/
def CutAt (s : ByteArray) (i f : Nat) (done : List ByteArray) : Prop :=
  (i ≤ s.size → f ≤ i ∧ cutB s = done ++ (cutL (s.data.toList.drop f)).map (fun l => ⟨l.toArray⟩) ∧ (32 : UInt8) ∉ (s.data.toList.take i).drop f) ∧ (s.size < i → cutB s = done)

theorem cut_start (s : ByteArray) : CutAt s 0 0 [] := ⟨fun _ => ⟨Nat.le_refl _, rfl, by simp⟩, fun h => by omega⟩

theorem ext_mk (s : ByteArray) (f i : Nat) : (⟨((s.data.toList.take i).drop f).toArray⟩ : ByteArray) = s.extract f i := by
  apply ByteArray.ext
  apply Array.toList_inj.1
  rw [List.drop_take]; simp

theorem take_byte2 (s : ByteArray) (k : Nat) (h : k < s.size) : s.data.toList.take (k + 1) = s.data.toList.take k ++ [s[k]] := by
  rw [List.take_succ_eq_append_getElem (by simpa using h)]; rfl

theorem drop_split (s : ByteArray) (f i : Nat) (hfi : f ≤ i) (h : i < s.size) : s.data.toList.drop f = (s.data.toList.take i).drop f ++ s[i] :: s.data.toList.drop (i + 1) := by
  have h1 : s.data.toList = s.data.toList.take i ++ s[i] :: s.data.toList.drop (i + 1) := by
    conv => lhs; rw [← List.take_append_drop (i + 1) s.data.toList]
    rw [take_byte2 s i h]; simp
  conv => lhs; rw [h1]
  rw [List.drop_append_of_le_length (by simp; omega)]

theorem cut_skip {s : ByteArray} {i f : Nat} {done : List ByteArray} (h : CutAt s i f done) (hi : i < s.size) (hne : s[i] ≠ 32) : CutAt s (i + 1) f done := by
  obtain ⟨h1, h2, h3⟩ := h.1 (by omega)
  refine ⟨fun _ => ⟨by omega, h2, ?_⟩, fun h => by omega⟩
  rw [take_byte2 s i hi, List.drop_append_of_le_length (by simp; omega)]
  intro hm
  rcases List.mem_append.1 hm with hm | hm
  · exact h3 hm
  · exact hne (by simpa using (List.mem_singleton.1 hm).symm)

theorem cut_hit {s : ByteArray} {i f : Nat} {done : List ByteArray} (h : CutAt s i f done) (hi : i < s.size) (he : s[i] = 32) : CutAt s (i + 1) (i + 1) (done ++ [s.extract f i]) := by
  obtain ⟨h1, h2, h3⟩ := h.1 (by omega)
  refine ⟨fun _ => ⟨Nat.le_refl _, ?_, by rw [List.drop_of_length_le (by simp; omega)]; simp⟩, fun h => by omega⟩
  rw [h2, drop_split s f i h1 hi, he, cutL_at _ _ h3, List.map_cons, ext_mk]
  simp

theorem cut_last {s : ByteArray} {f : Nat} {done : List ByteArray} (h : CutAt s s.size f done) : CutAt s (s.size + 1) (s.size + 1) (done ++ [s.extract f s.size]) := by
  obtain ⟨h1, h2, h3⟩ := h.1 (Nat.le_refl _)
  have e : s.data.toList.take s.size = s.data.toList := List.take_of_length_le (by simp)
  rw [e] at h3
  refine ⟨fun h => by omega, fun _ => ?_⟩
  rw [h2, cutL_none _ h3, ← ext_mk, e]
  rfl

set_option maxHeartbeats 2000000 in
theorem specL9Cut (s : ByteArray) (w : World) (hs : s.size ≤ 1048576) :
    Calls Tryd.prog 18 #[.string s, .int .u8 32] w fun e w' => ∃ A n c, e = .returned (.slice A n c) ∧ w'.ownsRow w.heap.size 9 1 (.slice A n c) n ((cutB s).map .string) ∧ Below w.heap.size w w' := by
  go_enter Tryd.func18, Tryd.ntmps18
  go_wp2_with fail
  go_loopw [5, 6, 7] (fun v u x wr => ∃ (i f n : Nat) (done : List ByteArray), x = .int .i64 (i : Int) ∧ u = .int .i64 (f : Int) ∧ i ≤ s.size + 1 ∧ n ≤ i ∧ Hid (CutAt s i f done) ∧ wr.ownsRow w.heap.size 9 1 v n (done.map .string) ∧ Below w.heap.size w wr) (fun _ _ x _ => s.size + 1 - (intOf x).toNat)
  case atStart => exact ⟨0, 0, 0, [], rfl, rfl, by omega, Nat.le_refl _, Lib.hid (cut_start s), own_empty w w.heap.size rfl w.heap.size (Nat.le_refl _) 9 1, (Below.refl _ _).alloc (Nat.le_refl _) _⟩
  case round =>
    obtain ⟨i, f, n, done, rfl, rfl, hi, hni, HC, hown, hbel⟩ := hrel
    have hwz := hbel.size
    obtain ⟨Av, cv, rfl, _, _⟩ := own_form hown
    have main : ∀ (p : ByteArray) (hp : p = s.extract f i) (_ : CutAt s (i + 1) (i + 1) (done ++ [p])), Hid (CutAt s (i + 1) (i + 1) (done ++ [p])) := fun p _ h => Lib.hid h
    by_cases hle : i ≤ s.size
    · have hfi : f ≤ i := (HC.out.1 hle).1
      have i1 : (0 : Int) ≤ f := by omega
      have i2 : (f : Int) ≤ i := by omega
      have i3 : (i : Int) ≤ s.size := by omega
      by_cases hlt : i < s.size
      · obtain ⟨x, hx⟩ : ∃ x, (s[i]).toNat = x := ⟨_, rfl⟩
        by_cases h32 : x = 32
        · have he : s[i] = 32 := UInt8.toNat.inj (by rw [hx, h32]; rfl)
          have HN := Lib.hid (cut_hit HC.out hlt he)
          subst h32
          clear he main
          go_wp2_with (first
            | (at_builtin; refine wpList_append_row _ elemStr rfl (.tmp 26) (.tmp 31) rfl w.heap.size _ _ _ rfl (hown.alloc _) _ _ 1 1 [.string (s.extract f i)] rfl (Row.newAt _ wr.heap.size rfl _ [.string (s.extract f i)] 1 1 rfl) ?_ ?_ ?_ ?_ ?_))
          · intro u hu; simp at hu; subst hu; rfl
          · unfold maxLen; omega
          · omega
          · simp; omega
          · intro v4 w4 hv4 hg4 _
            have hbel4 : Below w.heap.size w w4 := (hbel.alloc hwz _).grown hg4 (by simp; omega) (fun g hg => (hown.lt g hg).1)
            have hv4' : w4.ownsRow w.heap.size 9 1 v4 (n + 1) ((done ++ [s.extract f i]).map .string) := by rw [List.map_append]; exact hv4
            clear hown hbel hg4 hv4
            go_wp2_with fail
            go_roundw
            case rel => exact ⟨i + 1, i + 1, n + 1, _, by go_num, by go_num, by omega, by omega, HN, hv4', hbel4⟩
            case measure => simp [intOf]; omega
        · have he : s[i] ≠ 32 := fun e => h32 (by rw [← hx, e]; rfl)
          have HN := Lib.hid (cut_skip HC.out hlt he)
          have hb : ((x : Int) == 32) = false := by rw [beq_eq_false_iff_ne]; omega
          clear he main
          go_wp2_with fail
          go_roundw
          case rel => exact ⟨i + 1, f, n, _, by go_num, rfl, by omega, by omega, HN, hown, hbel⟩
          case measure => simp [intOf]; omega
      · obtain rfl : i = s.size := by omega
        have HN := Lib.hid (cut_last HC.out)
        clear main
        go_wp2_with (first
          | (at_builtin; refine wpList_append_row _ elemStr rfl (.tmp 26) (.tmp 31) rfl w.heap.size _ _ _ rfl (hown.alloc _) _ _ 1 1 [.string (s.extract f s.size)] rfl (Row.newAt _ wr.heap.size rfl _ [.string (s.extract f s.size)] 1 1 rfl) ?_ ?_ ?_ ?_ ?_))
        · intro u hu; simp at hu; subst hu; rfl
        · unfold maxLen; omega
        · omega
        · simp; omega
        · intro v4 w4 hv4 hg4 _
          have hbel4 : Below w.heap.size w w4 := (hbel.alloc hwz _).grown hg4 (by simp; omega) (fun g hg => (hown.lt g hg).1)
          have hv4' : w4.ownsRow w.heap.size 9 1 v4 (n + 1) ((done ++ [s.extract f s.size]).map .string) := by rw [List.map_append]; exact hv4
          clear hown hbel hg4 hv4
          go_wp2_with fail
          go_roundw
          case rel => exact ⟨s.size + 1, s.size + 1, n + 1, _, by go_num, by go_num, by omega, by omega, HN, hv4', hbel4⟩
          case measure => simp [intOf]
    · obtain rfl : i = s.size + 1 := by omega
      have hd := HC.out.2 (by omega)
      have HDD := Lib.hid hd
      clear hd main
      go_wp2_with fail
      go_ret
      refine ⟨_, _, _, rfl, ?_, hbel⟩
      rw [HDD.out]; exact hown

end Go.Proofs.YtlcflddjbhlloaaDoor
