/-
  The program's newBlocks, startEdit and AppendData.
-/
import Derived.Test.YtopklampiaecdaaGreatEditP
import Derived.Test.YtopklampiaecdaaGreatImplMake
import Derived.Test.YtopklampiaecdaaGreatContSpec
namespace Go.Proofs.YtopklampiaecdaaGreat
open Go.RowKit
set_option linter.unusedVariables false
set_option maxRecDepth 100000

set_option maxHeartbeats 2000000 in
theorem implNewBlocksYes (k : Kn) (A : Option Addr) (c B size : Nat) (L : List UInt8) (w : World) (h : k.Fresh) (hA : k.At w B A) (hB : B ≤ w.heap.size) (hr : roomy L.length size) :
    Calls Tryz.prog 50 #[k.val A c, .string (bsL L), .int .i64 (size : Int)] w fun e w' => ∃ A' c', e = .returned (.tuple #[.slice A' (k.split size L).length c', .bool true]) ∧ w'.ownsRow w.heap.size 71 4 (.slice A' (k.split size L).length c') (k.split size L).length (cellsB (k.split size L)) ∧ Below w.heap.size w w' := by
  obtain ⟨hsz, hL, h40⟩ := hr
  have HS := Lib.hid (fun W => implSizeValid (size : Int) true W (btrue hsz))
  have HM := fun (W : World) (hb : Below w.heap.size w W) => implMakeBlocks k A c B size L W h (hA.below hb hB) (Nat.le_trans hB hb.size) hL (by omega) (by omega)
  have hval := Kn.val_eq k
  simp only [hval] at HM ⊢
  have kb0 := (KB.start w 64 (.int .i64 (k.o : Int)) (.int .i64 (k.l : Int)) (.int .i64 (k.m : Int)) (.slice A k.ps.length c) (.int .i64 (k.base : Int)) (.int .i64 k.lastI)).c
  have hW0 := (Below.refl w.heap.size w).alloc (Nat.le_refl _) (.cells #[.int .i64 (k.o : Int), .int .i64 (k.l : Int), .int .i64 (k.m : Int), .slice A k.ps.length c, .int .i64 (k.base : Int), .int .i64 k.lastI] 64)
  have hM0 := Lib.hid (HM _ hW0)
  replace hW0 := Lib.hid hW0
  obtain ⟨S, hS⟩ : ∃ S, k.split size L = S := ⟨_, rfl⟩
  rw [hS] at hM0 ⊢
  have hLs : (bsL L).size = L.length := rfl
  obtain ⟨n, hn⟩ : ∃ n, L.length = n := ⟨_, rfl⟩
  rw [hn] at hLs hL h40
  obtain ⟨z, hz⟩ : ∃ z : Nat, 40 * (size : Int) = z := ⟨40 * size, by omega⟩
  have wz : IntKind.i64.wrap (z : Int) = z := IntWalk.i64_in _ (by omega)
  have g1 : decide ((2000 : Int) < n) = false := decide_eq_false (by omega)
  have g2 : decide (2000 < n) = false := decide_eq_false (by omega)
  have g3 : decide ((z : Int) < n) = false := decide_eq_false (by omega)
  have g4 : decide (z < n) = false := decide_eq_false (by omega)
  clear HM hval h hA hS hn
  go_enter Tryz.func50, Tryz.ntmps50
  go_wp2_with fail
  refine (HS.out _).mono ?_
  rintro e w1 ⟨rfl, rfl⟩
  obtain ⟨q0, q1, q2, q3, q4, q5⟩ := kb0
  go_wp2_with fail
  refine hM0.out.mono ?_
  rintro e w2 ⟨A2, c2, rfl, hown, hb⟩
  have hown2 := Lib.hid (own_base hown hW0.out.size)
  have hfin := Lib.hid (hW0.out.trans (hb.mono hW0.out.size))
  clear hown hb hM0 q0 q1 q2 q3 q4 q5
  go_wp2_with fail
  go_ret2
  exact ⟨A2, c2, rfl, hown2.out, hfin.out⟩

set_option maxHeartbeats 2000000 in
theorem implNewBlocksNo (k : Kn) (A : Option Addr) (c : Nat) (size : Int) (s : ByteArray) (w : World) (hs : s.size ≤ 1048576) (hr : ¬ roomy s.size size) :
    Calls Tryz.prog 50 #[k.val A c, .string s, .int .i64 size] w fun e w' => e = .returned (.tuple #[.slice none 0 0, .bool false]) ∧ Below w.heap.size w w' := by
  rw [Kn.val_eq]
  have hW0 := Lib.hid ((Below.refl w.heap.size w).alloc (Nat.le_refl _) (.cells #[.int .i64 (k.o : Int), .int .i64 (k.l : Int), .int .i64 (k.m : Int), .slice A k.ps.length c, .int .i64 (k.base : Int), .int .i64 k.lastI] 64))
  by_cases hsz : 1 ≤ size ∧ size ≤ 64
  · have HS := Lib.hid (fun W => implSizeValid size true W (btrue hsz))
    obtain ⟨sz, rfl⟩ : ∃ n : Nat, size = n := ⟨size.toNat, by omega⟩
    obtain ⟨n, hn⟩ : ∃ n, s.size = n := ⟨_, rfl⟩
    obtain ⟨z, hz⟩ : ∃ z : Nat, 40 * (sz : Int) = z := ⟨40 * sz, by omega⟩
    have wz : IntKind.i64.wrap (z : Int) = z := IntWalk.i64_in _ (by omega)
    by_cases h2 : 2000 < n
    · have g1 : decide ((2000 : Int) < n) = true := decide_eq_true (by omega)
      have g2 : decide (2000 < n) = true := decide_eq_true h2
      clear hr
      go_enter Tryz.func50, Tryz.ntmps50
      go_wp2_with fail
      refine (HS.out _).mono ?_
      rintro e w1 ⟨rfl, rfl⟩
      go_wp2_with fail
      go_ret2
      exact ⟨rfl, hW0.out⟩
    · have h3 : z < n := by
        rcases Nat.lt_or_ge z n with h5 | h5
        · exact h5
        · exact absurd ⟨hsz, by omega, by omega⟩ hr
      have g1 : decide ((2000 : Int) < n) = false := decide_eq_false (by omega)
      have g2 : decide (2000 < n) = false := decide_eq_false h2
      have g3 : decide ((z : Int) < n) = true := decide_eq_true (by omega)
      have g4 : decide (z < n) = true := decide_eq_true h3
      clear hr
      go_enter Tryz.func50, Tryz.ntmps50
      go_wp2_with fail
      refine (HS.out _).mono ?_
      rintro e w1 ⟨rfl, rfl⟩
      go_wp2_with fail
      go_ret2
      exact ⟨rfl, hW0.out⟩
  · have HS := Lib.hid (fun W => implSizeValid size false W (bfalse hsz))
    clear hr hsz
    go_enter Tryz.func50, Tryz.ntmps50
    go_wp2_with fail
    refine (HS.out _).mono ?_
    rintro e w1 ⟨rfl, rfl⟩
    go_wp2_with fail
    go_ret2
    exact ⟨rfl, hW0.out⟩

theorem implStartEditYes (o l m n : Nat) (d : List UInt8) (s : ByteArray) (bs : List Blk) (w : World) (h : dfits o l m d) (hs : s.size ≤ 1048576) (hb : contB s = some bs) (hn : bs.length = n) :
    Calls Tryz.prog 49 #[.agg #[.int .i64 (o : Int), .int .i64 (l : Int), .int .i64 (m : Int)], .string (bsL d), .string s] w fun e w' => ∃ A c Ab cb, e = .returned (.tuple #[(Kn.dict o l m d).val A c, .slice Ab n cb, .bool true]) ∧ (Kn.dict o l m d).At w' w'.heap.size A ∧ w'.ownsRow w.heap.size 71 4 (.slice Ab n cb) n (cellsB bs) ∧ Below w.heap.size w w' :=
  (implStartEditFar o l m n d s bs w h hs hb hn).mono fun e w' ⟨A, c, Ab, cb, B, he, hat, _, _, ho, hB, hbe⟩ => ⟨A, c, Ab, cb, he, hat, own_base ho hB, hbe⟩

theorem implStartEditNo (o l m : Int) (d s : ByteArray) (w : World) (hd : d.size ≤ 1048576) (hs : s.size ≤ 1048576) (h : ¬ dfits o l m d.data.toList ∨ contB s = none) :
    Calls Tryz.prog 49 #[.agg #[.int .i64 o, .int .i64 l, .int .i64 m], .string d, .string s] w fun e w' => e = .returned (.tuple #[.agg #[.int .i64 0, .int .i64 0, .int .i64 0, .slice none 0 0, .int .i64 0, .int .i64 0], .slice none 0 0, .bool false]) ∧ Below w.heap.size w w' := implStartEditOff o l m d s w hd hs h

end Go.Proofs.YtopklampiaecdaaGreat
