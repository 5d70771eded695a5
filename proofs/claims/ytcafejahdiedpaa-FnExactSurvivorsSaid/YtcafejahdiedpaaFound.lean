/-
  Slices of found blocks in memory; the contract of FindBlocks of the program.
-/
import Derived.Test.YtcafejahdiedpaaFoundPlain
import Derived.Test.YtcafejahdiedpaaCont
namespace Go.Proofs.Ytcafejahdiedpaa
open Go.RowKit
set_option linter.unusedVariables false

/-- The five cells of a found block. -/
def fndCells (f : Fnd) : List Value := .int .i64 f.pos :: blkCells f.b

/-- The cells of found blocks, one behind the other. -/
def cellsF (fs : List Fnd) : List Value := fs.flatMap fndCells

theorem cellsF_cons (x : Fnd) (xs : List Fnd) : cellsF (x :: xs) = fndCells x ++ cellsF xs := by simp [cellsF]

theorem cellsF_append (a b : List Fnd) : cellsF (a ++ b) = cellsF a ++ cellsF b := by unfold cellsF; exact List.flatMap_append

theorem cellsF_one (f : Fnd) : cellsF [f] = fndCells f := by simp [cellsF]

theorem cellsF_length (fs : List Fnd) : (cellsF fs).length = fs.length * 5 := by
  induction fs with
  | nil => rfl
  | cons x xs ih => rw [cellsF_cons, List.length_append, ih]; simp [fndCells, blkCells]; omega

theorem cellsF_oneCell (fs : List Fnd) : ∀ u ∈ cellsF fs, u.oneCell' = true := by
  intro u hu
  unfold cellsF at hu
  obtain ⟨b, _, hb⟩ := List.mem_flatMap.1 hu
  simp only [fndCells, blkCells, List.mem_cons, List.not_mem_nil, or_false] at hb
  rcases hb with rfl | rfl | rfl | rfl | rfl <;> rfl

theorem cellsF_get (fs : List Fnd) (k j : Nat) (f : Fnd) (hf : fs[k]? = some f) (hj : j < 5) : (cellsF fs)[k * 5 + j]? = (fndCells f)[j]? := by
  induction fs generalizing k with
  | nil => simp at hf
  | cons x xs ih =>
    have hl : (fndCells x).length = 5 := rfl
    rw [cellsF_cons]
    cases k with
    | zero =>
      simp only [List.getElem?_cons_zero, Option.some.injEq] at hf
      subst hf
      rw [List.getElem?_append_left (by omega), Nat.zero_mul, Nat.zero_add]
    | succ k =>
      rw [List.getElem?_append_right (by omega), hl, show (k + 1) * 5 + j - 5 = k * 5 + j from by omega]
      exact ih k (by simpa using hf)

theorem Row.fnd {w : World} {B n : Nat} {A : Option Addr} {fs : List Fnd} (h : Row w B 5 A n (cellsF fs)) {k pos num size : Nat} {raw : Bool} {body : ByteArray} (hk : k < n) (hb : fs[k]? = some ⟨pos, ⟨num, raw, size, body⟩⟩) :
    ∃ b off, A = some ⟨b, off, none⟩ ∧ b < B ∧ w.cell? ⟨b, off + k * 5, none⟩ = some (.int .i64 pos) ∧ w.cell? ⟨b, off + k * 5 + 1, none⟩ = some (.int .i64 num) ∧ w.cell? ⟨b, off + k * 5 + 2, none⟩ = some (.bool raw) ∧
      w.cell? ⟨b, off + k * 5 + 3, none⟩ = some (.int .i64 size) ∧ w.cell? ⟨b, off + k * 5 + 4, none⟩ = some (.string body) := by
  obtain ⟨b, off, e, hB, hc⟩ := h.2 (by omega)
  refine ⟨b, off, e, hB, ?_, ?_, ?_, ?_, ?_⟩
  · exact hc (k * 5 + 0) _ ((cellsF_get fs k 0 _ hb (by omega)).trans rfl)
  · exact hc (k * 5 + 1) _ ((cellsF_get fs k 1 _ hb (by omega)).trans rfl)
  · exact hc (k * 5 + 2) _ ((cellsF_get fs k 2 _ hb (by omega)).trans rfl)
  · exact hc (k * 5 + 3) _ ((cellsF_get fs k 3 _ hb (by omega)).trans rfl)
  · exact hc (k * 5 + 4) _ ((cellsF_get fs k 4 _ hb (by omega)).trans rfl)

theorem Row.len5 {w : World} {B n : Nat} {A : Option Addr} {fs : List Fnd} (h : Row w B 5 A n (cellsF fs)) : fs.length = n := by
  have := h.1; rw [cellsF_length] at this; omega

theorem infoFnd : (Try.prog.info? 70).map (fun i => (i.zero, i.size, i.bytes)) = some (some (.agg #[.int .i64 0, .int .i64 0, .bool false, .int .i64 0, .string ByteArray.empty]), 5, 48) := by kernel_rfl

theorem elemFnd : Elem Try.prog 25 70 (.agg #[.int .i64 0, .int .i64 0, .bool false, .int .i64 0, .string ByteArray.empty]) 5 48 := ⟨Try.underlying25, infoFnd, rfl, by decide⟩

/-- Where the search goes on: nowhere, or at a block, with no more found blocks before than bytes. -/
def FndAt (s : ByteArray) (a : Int) (n : Nat) : Prop := (a = -1 ∨ ∃ k : Nat, a = k ∧ pbOk s k ∧ n ≤ k) ∧ n ≤ s.size

theorem FndAt.first (s : ByteArray) : FndAt s (nextBlk s 0) 0 := by
  refine ⟨?_, by omega⟩
  rcases nextBlk_spec s 0 with h | ⟨j, h1, _, h3⟩
  · exact Or.inl h
  · exact Or.inr ⟨j, h1, h3, by omega⟩

theorem FndAt.next {s : ByteArray} {k n : Nat} (hp : pbOk s k) (hn : n ≤ k) : FndAt s (nextBlk s ((pbEnd s k + 2 : Nat) : Int)) (n + 1) := by
  have h1 := pbEnd_ge s k
  have h2 := pbOk_end hp
  refine ⟨?_, by omega⟩
  rcases nextBlk_spec s (pbEnd s k + 2) with h | ⟨j, h1, h2, h3⟩
  · exact Or.inl h
  · exact Or.inr ⟨j, h1, h3, by omega⟩

/-- How far a search has still to go. -/
def fndLeft (s : ByteArray) (a : Int) : Nat := if a < 0 then 0 else s.size + 1 - a.toNat

theorem fndLeft_next {s : ByteArray} {k : Nat} (hp : pbOk s k) : fndLeft s (nextBlk s ((pbEnd s k + 2 : Nat) : Int)) < fndLeft s k := by
  have h1 := pbEnd_ge s k
  have h2 := pbOk_end hp
  have h0 : fndLeft s (k : Int) = s.size + 1 - k := by
    unfold fndLeft; rw [if_neg (by omega), Int.toNat_natCast]
  rw [h0]
  rcases nextBlk_spec s (pbEnd s k + 2) with h | ⟨j, h1, h2, h3⟩
  · rw [h]; unfold fndLeft; rw [if_pos (by omega)]; omega
  · rw [h1]; unfold fndLeft; rw [if_neg (by omega), Int.toNat_natCast]
    have := pbOk_lt h3
    omega

/-- What FindBlocks returns: new memory that holds the found blocks. -/
def FndsPost (W : World) (fs : List Fnd) (e : Ending) (w' : World) : Prop :=
  ∃ A c, e = .returned (.slice A fs.length c) ∧ w'.ownsRow W.heap.size 70 5 (.slice A fs.length c) fs.length (cellsF fs) ∧ Below W.heap.size W w' ∧ fs.length ≤ 1048576

set_option maxHeartbeats 2000000 in
theorem implFindBlocks (s : ByteArray) (w : World) (hs : s.size ≤ 1048576) :
    Calls Try.prog 15 #[.string s] w (FndsPost w (foundB s)) := by
  obtain ⟨R, hR⟩ : ∃ R, foundB s = R := ⟨_, rfl⟩
  rw [hR]
  unfold foundB at hR
  have h0 := FndAt.first s
  have HN := Lib.hid (fun a W (h : a ≤ 9223372036854775807) => implNextBlock s a W hs h)
  obtain ⟨a0, ha0⟩ : ∃ a, nextBlk s 0 = a := ⟨_, rfl⟩
  rw [ha0] at hR h0
  have HA0 := Lib.hid ha0
  have H0 := Lib.hid h0
  have HR := Lib.hid hR
  clear hR ha0 h0
  go_enter Try.func15, Try.ntmps15
  go_wp2_with fail
  refine (HN.out 0 _ (by omega)).mono ?_
  rintro e w1 ⟨rfl, hb1⟩
  rw [HA0.out]
  go_wp2_with fail
  go_loopw [3, 4] (fun v i wr => ∃ (a : Int) (acc : List Fnd) (n : Nat), i = .int .i64 a ∧ FndAt s a n ∧ Hid (acc.length = n) ∧ Hid (acc ++ findR s a = R) ∧ wr.ownsRow w.heap.size 70 5 v n (cellsF acc) ∧ Below w.heap.size w wr) (fun _ i _ => fndLeft s (intOf i))
  case atStart => exact ⟨a0, [], 0, rfl, H0.out, Lib.hid rfl, HR, ⟨rfl, .inl ⟨rfl, rfl⟩⟩, hb1⟩
  case round =>
    obtain ⟨a, acc, n, rfl, hat, HL, HK, hown, hbel⟩ := hrel
    have hwz := hbel.size
    obtain ⟨Av, cv, rfl, _, _⟩ := own_form hown
    obtain ⟨hat, hns⟩ := hat
    rcases hat with rfl | ⟨k, rfl, hp, hnk⟩
    · have hX : acc = R := by rw [← HK.out, findR_end, List.append_nil]
      subst hX
      go_wp2_with fail
      go_ret
      exact ⟨Av, cv, by rw [HL.out]; rfl, by rw [HL.out]; exact hown, hbel, by rw [HL.out]; omega⟩
    · have hne := pbOk_end hp
      have hge := pbEnd_ge s k
      have hnx := findR_next (pbOk_lt hp)
      have hks := pbOk_lt hp
      have hmeas := fndLeft_next hp
      have hnat := FndAt.next hp hnk
      obtain ⟨⟨num, raw, size, body⟩, hb⟩ : ∃ b, pbBlk s k = b := ⟨_, rfl⟩
      obtain ⟨m, hm⟩ : ∃ m, pbEnd s k + 2 = m := ⟨_, rfl⟩
      have HP := Lib.hid (fun W => implParseYes s k k W hs rfl hp num size m raw body hb hm)
      rw [hm] at hnx hmeas hnat hne
      rw [hb] at hnx
      have hkm : m ≤ 1048576 := by omega
      obtain ⟨a', ha'⟩ : ∃ a', nextBlk s (m : Int) = a' := ⟨_, rfl⟩
      rw [ha'] at hnx hmeas hnat
      have hfin : (acc ++ [⟨k, ⟨num, raw, size, body⟩⟩]) ++ findR s a' = R := by rw [← HK.out, hnx]; simp
      have HF := Lib.hid hfin
      have HA := Lib.hid ha'
      have HME := Lib.hid hmeas
      have HNA := Lib.hid hnat
      have hn2 : n ≤ 1048576 := by omega
      clear hb hm hp hge hnx ha' hfin hmeas hnat
      go_wp2_with fail
      refine (HP.out _).mono ?_
      rintro e w1 ⟨rfl, hb1⟩
      have hown1 := own_below hown hb1 (Nat.le_refl _)
      have hbel1 := hbel.trans (hb1.mono hwz)
      have hsz1 := hbel1.size
      clear hown hb1 hbel hwz
      go_wp2_with (first
        | (at_builtin; refine wpList_append_row _ elemFnd rfl (.tmp 19) (.tmp 23) rfl w.heap.size _ _ _ rfl ((hown1.alloc _).alloc _) _ _ 1 1 (fndCells ⟨k, ⟨num, raw, size, body⟩⟩) rfl (Row.newAt _ (w1.heap.size + 1) (by simp) _ (fndCells ⟨k, ⟨num, raw, size, body⟩⟩) 1 5 rfl) ?_ ?_ ?_ ?_ ?_))
      · intro u hu; exact cellsF_oneCell [⟨k, ⟨num, raw, size, body⟩⟩] u (by rw [cellsF_one]; exact hu)
      · unfold maxLen; omega
      · omega
      · simp; omega
      · intro v2 w2 hv2 hg2 _
        have hbel2 : Below w.heap.size w w2 := ((hbel1.alloc hsz1 _).alloc (by simp; omega) _).grown hg2 (by simp; omega) (fun g hg => (hown1.lt g hg).1)
        rw [← cellsF_one, ← cellsF_append] at hv2
        have hz2 := hbel2.size
        clear hown1 hbel1 hsz1 hg2
        go_wp2_with fail
        refine (HN.out m _ (by omega)).mono ?_
        rintro e w3 ⟨rfl, hb3⟩
        rw [HA.out]
        have hv3 := own_below hv2 hb3 (Nat.le_refl _)
        have hbel3 := hbel2.trans (hb3.mono hz2)
        clear hv2 hb3 hbel2 hz2
        go_wp2_with fail
        go_roundw
        case rel => exact ⟨a', acc ++ [⟨k, ⟨num, raw, size, body⟩⟩], n + 1, rfl, HNA.out, Lib.hid (by rw [List.length_append, HL.out]; rfl), HF, hv3, hbel3⟩
        case measure => simp only [intOf]; exact HME.out

end Go.Proofs.Ytcafejahdiedpaa
