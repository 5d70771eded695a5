/-
  Slices of blocks in memory; the contracts of sizeOf and ContainerBlocks of the program.
-/
import Derived.Test.YthlgpgaeajfchaaGreatDoorContPlain
import Derived.Test.YthlgpgaeajfchaaGreatDoorInts
namespace Go.Proofs.YthlgpgaeajfchaaGreatDoor
open Go.RowKit
set_option linter.unusedVariables false

/-- The four cells of a block. -/
def blkCells (b : Blk) : List Value := [.int .i64 b.num, .bool b.raw, .int .i64 b.size, .string b.body]

/-- The cells of blocks, one behind the other. -/
def cellsB (bs : List Blk) : List Value := bs.flatMap blkCells

theorem cellsB_append (a b : List Blk) : cellsB (a ++ b) = cellsB a ++ cellsB b := by unfold cellsB; exact List.flatMap_append

theorem cellsB_one (b : Blk) : cellsB [b] = blkCells b := by simp [cellsB]

theorem cellsB_length (bs : List Blk) : (cellsB bs).length = bs.length * 4 := by
  induction bs with
  | nil => rfl
  | cons x xs ih =>
    have h : cellsB (x :: xs) = blkCells x ++ cellsB xs := by simp [cellsB]
    rw [h, List.length_append, ih]
    simp [blkCells]; omega

theorem cellsB_oneCell (bs : List Blk) : ∀ u ∈ cellsB bs, u.oneCell' = true := by
  intro u hu
  unfold cellsB at hu
  obtain ⟨b, _, hb⟩ := List.mem_flatMap.1 hu
  simp only [blkCells, List.mem_cons, List.not_mem_nil, or_false] at hb
  rcases hb with rfl | rfl | rfl | rfl <;> rfl

theorem cellsB_get (bs : List Blk) (k j : Nat) (b : Blk) (hb : bs[k]? = some b) (hj : j < 4) : (cellsB bs)[k * 4 + j]? = (blkCells b)[j]? := by
  induction bs generalizing k with
  | nil => simp at hb
  | cons x xs ih =>
    have h : cellsB (x :: xs) = blkCells x ++ cellsB xs := by simp [cellsB]
    have hl : (blkCells x).length = 4 := rfl
    rw [h]
    cases k with
    | zero =>
      simp only [List.getElem?_cons_zero, Option.some.injEq] at hb
      subst hb
      rw [List.getElem?_append_left (by omega), Nat.zero_mul, Nat.zero_add]
    | succ k =>
      rw [List.getElem?_append_right (by omega), hl, show (k + 1) * 4 + j - 4 = k * 4 + j from by omega]
      exact ih k (by simpa using hb)

theorem cellsB_take (bs : List Blk) (k : Nat) : cellsB (bs.take k) = (cellsB bs).take (k * 4) := by
  induction bs generalizing k with
  | nil => simp [cellsB]
  | cons x xs ih =>
    cases k with
    | zero => simp [cellsB]
    | succ k =>
      have h : ∀ (y : Blk) (ys : List Blk), cellsB (y :: ys) = blkCells y ++ cellsB ys := fun y ys => by simp [cellsB]
      have hl : (blkCells x).length = 4 := rfl
      rw [List.take_succ_cons, h, h, ih, show (k + 1) * 4 = 4 + k * 4 from by omega, List.take_append, hl, show 4 + k * 4 - 4 = k * 4 from by omega, List.take_of_length_le (show (blkCells x).length ≤ 4 + k * 4 by omega)]

theorem cellsB_drop (bs : List Blk) (k : Nat) : cellsB (bs.drop k) = (cellsB bs).drop (k * 4) := by
  induction bs generalizing k with
  | nil => simp [cellsB]
  | cons x xs ih =>
    cases k with
    | zero => simp [cellsB]
    | succ k =>
      have h : ∀ (y : Blk) (ys : List Blk), cellsB (y :: ys) = blkCells y ++ cellsB ys := fun y ys => by simp [cellsB]
      have hl : (blkCells x).length = 4 := rfl
      rw [List.drop_succ_cons, h, ih, show (k + 1) * 4 = 4 + k * 4 from by omega, List.drop_append, hl, show 4 + k * 4 - 4 = k * 4 from by omega, List.drop_eq_nil_of_le (show (blkCells x).length ≤ 4 + k * 4 by omega)]
      rfl

theorem Row.blk {w : World} {B n : Nat} {A : Option Addr} {bs : List Blk} (h : Row w B 4 A n (cellsB bs)) {k num size : Nat} {raw : Bool} {body : ByteArray} (hk : k < n) (hb : bs[k]? = some ⟨num, raw, size, body⟩) :
    ∃ b off, A = some ⟨b, off, none⟩ ∧ b < B ∧ w.cell? ⟨b, off + k * 4, none⟩ = some (.int .i64 num) ∧ w.cell? ⟨b, off + k * 4 + 1, none⟩ = some (.bool raw) ∧ w.cell? ⟨b, off + k * 4 + 2, none⟩ = some (.int .i64 size) ∧ w.cell? ⟨b, off + k * 4 + 3, none⟩ = some (.string body) := by
  obtain ⟨b, off, e, hB, hc⟩ := h.2 (by omega)
  refine ⟨b, off, e, hB, ?_, ?_, ?_, ?_⟩
  · exact hc (k * 4 + 0) _ ((cellsB_get bs k 0 _ hb (by omega)).trans rfl)
  · exact hc (k * 4 + 1) _ ((cellsB_get bs k 1 _ hb (by omega)).trans rfl)
  · exact hc (k * 4 + 2) _ ((cellsB_get bs k 2 _ hb (by omega)).trans rfl)
  · exact hc (k * 4 + 3) _ ((cellsB_get bs k 3 _ hb (by omega)).trans rfl)

theorem Row.len4 {w : World} {B n : Nat} {A : Option Addr} {bs : List Blk} (h : Row w B 4 A n (cellsB bs)) : bs.length = n := by
  have := h.1; rw [cellsB_length] at this; omega

theorem infoBlk : (Tryz.prog.info? 65).map (fun i => (i.zero, i.size, i.bytes)) = some (some (.agg #[.int .i64 0, .bool false, .int .i64 0, .string ByteArray.empty]), 4, 40) := by kernel_rfl

theorem elemBlk : Elem Tryz.prog 53 65 (.agg #[.int .i64 0, .bool false, .int .i64 0, .string ByteArray.empty]) 4 40 := ⟨Tryz.underlying53, infoBlk, rfl, by decide⟩

theorem szs_take_succ (bs : List Blk) (k : Nat) (b : Blk) (h : bs[k]? = some b) : szs (bs.take (k + 1)) = szs (bs.take k) + b.size := by
  obtain ⟨hk, hb⟩ := List.getElem?_eq_some_iff.1 h
  rw [List.take_succ_eq_append_getElem hk, szs_append, hb]; simp [szs]

theorem szs_take_le (bs : List Blk) (k : Nat) : szs (bs.take k) ≤ szs bs := by
  conv => rhs; rw [← List.take_append_drop k bs]
  rw [szs_append]; omega

set_option maxHeartbeats 1000000 in
theorem implSizeOf (A : Option Addr) (n c B : Nat) (bs : List Blk) (w : World) (h : Row w B 4 A n (cellsB bs)) (hB : B ≤ w.heap.size) (hn : n ≤ 1048576) (hz : szs bs ≤ 1048576) :
    Calls Tryz.prog 44 #[.slice A n c] w fun e w' => e = .returned (.int .i64 (szs bs : Int)) ∧ Below w.heap.size w w' := by
  have hlen := h.len4
  go_enter Tryz.func44, Tryz.ntmps44
  go_wp2_with fail
  go_loopw [3, 8] (fun v i wr => ∃ k : Nat, k ≤ n ∧ i = .int .i64 k ∧ v = .int .i64 (szs (bs.take k) : Int) ∧ Below w.heap.size w wr) (fun _ i _ => n - (intOf i).toNat)
  case atStart => exact ⟨0, Nat.zero_le _, rfl, rfl, Below.refl _ _⟩
  case round =>
    obtain ⟨k, hk, rfl, rfl, hbel⟩ := hrel
    have hwz := hbel.size
    by_cases hlt : k < n
    · obtain ⟨⟨num, raw, size, body⟩, hb⟩ : ∃ b, bs[k]? = some b := ⟨_, List.getElem?_eq_getElem (by omega)⟩
      obtain ⟨b, off, rfl, hbB, g0, g1, g2, g3⟩ := (h.below hbel hB).blk hlt hb
      have hs := szs_take_succ bs k _ hb
      have hle := szs_take_le bs (k + 1)
      obtain ⟨q, hq⟩ : ∃ q, szs (bs.take k) = q := ⟨_, rfl⟩
      obtain ⟨q', hq'⟩ : ∃ q, szs (bs.take (k + 1)) = q := ⟨_, rfl⟩
      simp only at hs
      rw [hq, hq'] at hs
      rw [hq'] at hle
      rw [hq]
      have hqs : q + size ≤ 1048576 := by omega
      have HQ := Lib.hid hq'
      have HS := Lib.hid hs
      clear hq hq' hs hb
      have HL := Lib.hid hlen
      clear hlen
      go_wp2_with fail
      go_roundw
      case rel => exact ⟨k + 1, by omega, by go_num, by rw [HQ.out, HS.out]; go_num, hbel.alloc hwz _⟩
      case measure => simp [intOf]; omega
    · obtain rfl : k = n := by omega
      have ht : bs.take k = bs := List.take_of_length_le (by omega)
      rw [ht]
      clear ht hlen
      go_wp2_with fail
      go_ret
      exact ⟨rfl, hbel⟩

/-- What ContainerBlocks returns: new memory that holds the blocks, or nothing. -/
def BlksPost (W : World) (o : Option (List Blk)) (e : Ending) (w' : World) : Prop :=
  ∃ A c, e = .returned (.tuple #[.slice A (o.getD []).length c, .bool o.isSome]) ∧ w'.ownsRow W.heap.size 65 4 (.slice A (o.getD []).length c) (o.getD []).length (cellsB (o.getD [])) ∧ Below W.heap.size W w'

set_option maxHeartbeats 2000000 in
theorem implContainerBlocks (s : ByteArray) (w : World) (hs : s.size ≤ 1048576) :
    Calls Tryz.prog 27 #[.string s] w (BlksPost w (contB s)) := by
  obtain ⟨R, hR⟩ : ∃ R, contB s = R := ⟨_, rfl⟩
  rw [hR]
  unfold contB at hR
  have HR := Lib.hid hR
  clear hR
  go_enter Tryz.func27, Tryz.ntmps27
  go_wp2_with fail
  go_loopw [4, 5] (fun v i wr => ∃ (k : Nat) (acc : List Blk) (n : Nat), i = .int .i64 k ∧ k ≤ s.size ∧ Numbered acc ∧ Hid (acc.length = n) ∧ n ≤ 40 ∧ Hid (conts s k acc = R) ∧ wr.ownsRow w.heap.size 65 4 v n (cellsB acc) ∧ Below w.heap.size w wr) (fun _ i _ => s.size - (intOf i).toNat)
  case atStart => exact ⟨0, [], 0, rfl, Nat.zero_le _, Numbered.nil, Lib.hid rfl, by omega, HR, ⟨rfl, .inl ⟨rfl, rfl⟩⟩, Below.refl _ _⟩
  case round =>
    obtain ⟨k, acc, n, rfl, hks, hnum, HN, hn40, HK, hown, hbel⟩ := hrel
    have hwz := hbel.size
    obtain ⟨Av, cv, rfl, _, _⟩ := own_form hown
    by_cases hk : k < s.size
    · by_cases hp : pbOk s k
      · have hok := pbBlk_ok hp
        have hne := pbOk_end hp
        have hge := pbEnd_ge s k
        have hnx := @conts_next s k acc hk hp
        have hbd := @conts_bad s k acc hk
        rw [HK.out, HN.out] at hnx hbd
        obtain ⟨⟨num, raw, size, body⟩, hb⟩ : ∃ b, pbBlk s k = b := ⟨_, rfl⟩
        obtain ⟨m, hm⟩ : ∃ m, pbEnd s k + 2 = m := ⟨_, rfl⟩
        have HP := fun W => implParseYes s k k W hs rfl hp num size m raw body hb hm
        have HP := Lib.hid HP
        rw [hb, hm] at hnx
        rw [hb] at hbd hok
        rw [hm] at hne
        have hkm : k < m := by omega
        have hok' := hok
        obtain ⟨hb1, hb2, hb3, _⟩ := hok
        have HOK := Lib.hid hok'
        simp only at hb1 hb2 hb3 hnx hbd
        clear hb hm hp hge hok'
        by_cases c1 : num = n
        · subst c1
          have HX := Lib.hid (hnx rfl)
          clear hnx hbd
          go_wp2_with fail
          refine (HP.out _).mono ?_
          rintro e w1 ⟨rfl, hb1⟩
          have hown1 := own_below hown hb1 (Nat.le_refl _)
          have hbel1 := hbel.trans (hb1.mono hwz)
          have hsz1 := hbel1.size
          clear hown hb1 hbel hwz
          go_wp2_with (first
            | (at_builtin; refine wpList_append_row _ elemBlk rfl (.tmp 29) (.tmp 31) rfl w.heap.size _ _ _ rfl ((hown1.alloc _).alloc _) _ _ 1 1 (blkCells ⟨num, raw, size, body⟩) rfl (Row.newAt _ (w1.heap.size + 1) (by simp) _ (blkCells ⟨num, raw, size, body⟩) 1 4 rfl) ?_ ?_ ?_ ?_ ?_))
          · intro u hu; exact cellsB_oneCell [⟨num, raw, size, body⟩] u (by rw [cellsB_one]; exact hu)
          · unfold maxLen; omega
          · omega
          · simp; omega
          · intro v2 w2 hv2 hg2 _
            have hbel2 : Below w.heap.size w w2 := ((hbel1.alloc hsz1 _).alloc (by simp; omega) _).grown hg2 (by simp; omega) (fun g hg => (hown1.lt g hg).1)
            rw [← cellsB_one, ← cellsB_append] at hv2
            clear hown1 hbel1 hsz1 hg2
            go_wp2_with fail
            go_roundw
            case rel => exact ⟨m, acc ++ [⟨num, raw, size, body⟩], num + 1, rfl, by omega, hnum.snoc (b := ⟨num, raw, size, body⟩) HN.out.symm HOK.out, Lib.hid (by rw [List.length_append, HN.out]; rfl), by omega, Lib.hid HX.out.symm, hv2, hbel2⟩
            case measure => simp [intOf]; omega
        · have HX := Lib.hid (hbd (fun h => c1 h.2))
          have hcb : ((num : Int) != n) = true := by rw [bne_iff_ne]; omega
          clear hnx hbd
          go_wp2_with fail
          refine (HP.out _).mono ?_
          rintro e w1 ⟨rfl, hb1⟩
          go_wp2_with fail
          go_ret2
          rw [HX.out]
          exact ⟨none, 0, rfl, ⟨rfl, .inl ⟨rfl, rfl⟩⟩, (hbel.trans (hb1.mono hwz)).alloc (by have := hb1.size; omega) _⟩
      · have hv := @conts_bad s k acc hk (fun h => hp h.1)
        rw [HK.out] at hv
        have HX := Lib.hid hv
        have HP := Lib.hid (fun W => implParseNo s k k W hs rfl hp)
        clear hv hp
        go_wp2_with fail
        refine (HP.out _).mono ?_
        rintro e w1 ⟨rfl, hb1⟩
        go_wp2_with fail
        go_ret2
        rw [HX.out]
        exact ⟨none, 0, rfl, ⟨rfl, .inl ⟨rfl, rfl⟩⟩, (hbel.trans (hb1.mono hwz)).alloc (by have := hb1.size; omega) _⟩
    · have hv := @conts_end s k acc (by omega)
      rw [HK.out] at hv
      have hzs := szs_le (fun b hb => hnum.of_mem hb)
      rw [HN.out] at hzs
      have HS := fun W (h : Row W W.heap.size 4 Av n (cellsB acc)) => implSizeOf Av n cv W.heap.size acc W h (Nat.le_refl _) (by omega) (by omega)
      have HS := Lib.hid HS
      obtain ⟨z, hz⟩ : ∃ z, szs acc = z := ⟨_, rfl⟩
      rw [hz] at hv hzs
      have HZ := Lib.hid hz
      clear hz
      by_cases c2 : z ≤ 2000
      · rw [if_pos c2] at hv
        have HX := Lib.hid hv
        clear hv
        go_wp2_with fail
        refine (HS.out _ (Row.of_own hown)).mono ?_
        rintro e w1 ⟨rfl, hb1⟩
        rw [HZ.out]
        go_wp2_with fail
        go_ret2
        rw [HX.out]
        refine ⟨Av, cv, ?_, ?_, hbel.trans (hb1.mono hwz)⟩
        · simp only [Option.getD_some, HN.out]; rfl
        · simp only [Option.getD_some, HN.out]; exact own_below hown hb1 (Nat.le_refl _)
      · rw [if_neg c2] at hv
        have HX := Lib.hid hv
        clear hv
        go_wp2_with fail
        refine (HS.out _ (Row.of_own hown)).mono ?_
        rintro e w1 ⟨rfl, hb1⟩
        rw [HZ.out]
        go_wp2_with fail
        go_ret2
        rw [HX.out]
        exact ⟨none, 0, rfl, ⟨rfl, .inl ⟨rfl, rfl⟩⟩, hbel.trans (hb1.mono hwz)⟩

theorem implContainerBlocksYes (s : ByteArray) (bs : List Blk) (n : Nat) (w : World) (hs : s.size ≤ 1048576) (h : contB s = some bs) (hn : bs.length = n) :
    Calls Tryz.prog 27 #[.string s] w fun e w' => ∃ A c, e = .returned (.tuple #[.slice A n c, .bool true]) ∧ w'.ownsRow w.heap.size 65 4 (.slice A n c) n (cellsB bs) ∧ Below w.heap.size w w' := by
  refine (implContainerBlocks s w hs).mono ?_
  rintro e w' ⟨A, c, he, ho, hb⟩
  rw [h] at he ho
  subst hn
  exact ⟨A, c, he, ho, hb⟩

theorem implContainerBlocksNo (s : ByteArray) (w : World) (hs : s.size ≤ 1048576) (h : contB s = none) :
    Calls Tryz.prog 27 #[.string s] w fun e w' => ∃ A c, e = .returned (.tuple #[.slice A 0 c, .bool false]) ∧ w'.ownsRow w.heap.size 65 4 (.slice A 0 c) 0 [] ∧ Below w.heap.size w w' := by
  refine (implContainerBlocks s w hs).mono ?_
  rintro e w' ⟨A, c, he, ho, hb⟩
  rw [h] at he ho
  exact ⟨A, c, he, ho, hb⟩

end Go.Proofs.YthlgpgaeajfchaaGreatDoor
