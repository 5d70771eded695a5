/-
  The program's newBlocks, startEdit and AppendData.
-/
import Derived.Test.YtopklampiaecdaaGreatImplMake
import Derived.Test.YtopklampiaecdaaGreatJoinTake
namespace Go.Proofs.YtopklampiaecdaaGreat
open Go.RowKit
set_option linter.unusedVariables false
set_option maxRecDepth 100000

/-- Data that makes blocks of a size, not too many. -/
def roomy (n : Nat) (size : Int) : Prop := (1 ≤ size ∧ size ≤ 64) ∧ n ≤ 2000 ∧ (n : Int) ≤ 40 * size

instance (n : Nat) (size : Int) : Decidable (roomy n size) := by unfold roomy; infer_instance

set_option maxHeartbeats 2000000 in
theorem implNewBlocksYes (k : Kn) (A : Option Addr) (c B size : Nat) (L : List UInt8) (w : World) (h : k.Fresh) (hA : k.At w B A) (hB : B ≤ w.heap.size) (hr : roomy L.length size) :
    Calls Tryz.prog 50 #[k.val A c, .string (bsL L), .int .i64 (size : Int)] w fun e w' => ∃ A' c', e = .returned (.tuple #[.slice A' (k.split size L).length c', .bool true]) ∧ w'.ownsRow w.heap.size 71 4 (.slice A' (k.split size L).length c') (k.split size L).length (cellsB (k.split size L)) ∧ Below w.heap.size w w' := by
  obtain ⟨hsz, hL, h40⟩ := hr
  have HS := Lib.hid (fun W => implSizeValid (size : Int) true W (btrue hsz))
  have HM := fun (W : World) (hb : Below w.heap.size w W) => implMakeBlocks k A c B size L W h (hA.below hb hB) (Nat.le_trans hB hb.size) hL (by omega) (by omega)
  have hval := Kn.val_eq k
  simp only [hval] at HM ⊢
  have kb0 := (KB.start w 64 (.int .i64 (k.o : Int)) (.int .i64 (k.l : Int)) (.int .i64 (k.m : Int)) (.slice A k.ps.length c) (.int .i64 (k.base : Int)) (.int .i64 k.lastI)).c
  have hW0 := (Below.refl w.heap.size w).alloc (Nat.le_refl _) (.cells #[.int .i64 (k.o : Int), .int .i64 (k.l : Int), .int .i64 (k.m : Int), .slice A k.ps.length c, .int .i64 (k.base : Int), .int .i64 k.lastI] 64)
  have hM0 := Lib.hid (HM _ hW0)
  replace hW0 := Lib.hid hW0
  obtain ⟨S, hS⟩ : ∃ S, k.split size L = S := ⟨_, rfl⟩
  rw [hS] at hM0 ⊢
  have hLs : (bsL L).size = L.length := rfl
  obtain ⟨n, hn⟩ : ∃ n, L.length = n := ⟨_, rfl⟩
  rw [hn] at hLs hL h40
  obtain ⟨z, hz⟩ : ∃ z : Nat, 40 * (size : Int) = z := ⟨40 * size, by omega⟩
  have wz : IntKind.i64.wrap (z : Int) = z := IntWalk.i64_in _ (by omega)
  have g1 : decide ((2000 : Int) < n) = false := decide_eq_false (by omega)
  have g2 : decide (2000 < n) = false := decide_eq_false (by omega)
  have g3 : decide ((z : Int) < n) = false := decide_eq_false (by omega)
  have g4 : decide (z < n) = false := decide_eq_false (by omega)
  clear HM hval h hA hS hn
  go_enter Tryz.func50, Tryz.ntmps50
  go_wp2_with fail
  refine (HS.out _).mono ?_
  rintro e w1 ⟨rfl, rfl⟩
  obtain ⟨q0, q1, q2, q3, q4, q5⟩ := kb0
  go_wp2_with fail
  refine hM0.out.mono ?_
  rintro e w2 ⟨A2, c2, rfl, hown, hb⟩
  have hown2 := Lib.hid (own_base hown hW0.out.size)
  have hfin := Lib.hid (hW0.out.trans (hb.mono hW0.out.size))
  clear hown hb hM0 q0 q1 q2 q3 q4 q5
  go_wp2_with fail
  go_ret2
  exact ⟨A2, c2, rfl, hown2.out, hfin.out⟩

set_option maxHeartbeats 2000000 in
theorem implNewBlocksNo (k : Kn) (A : Option Addr) (c : Nat) (size : Int) (s : ByteArray) (w : World) (hs : s.size ≤ 1048576) (hr : ¬ roomy s.size size) :
    Calls Tryz.prog 50 #[k.val A c, .string s, .int .i64 size] w fun e w' => e = .returned (.tuple #[.slice none 0 0, .bool false]) ∧ Below w.heap.size w w' := by
  rw [Kn.val_eq]
  have hW0 := Lib.hid ((Below.refl w.heap.size w).alloc (Nat.le_refl _) (.cells #[.int .i64 (k.o : Int), .int .i64 (k.l : Int), .int .i64 (k.m : Int), .slice A k.ps.length c, .int .i64 (k.base : Int), .int .i64 k.lastI] 64))
  by_cases hsz : 1 ≤ size ∧ size ≤ 64
  · have HS := Lib.hid (fun W => implSizeValid size true W (btrue hsz))
    obtain ⟨sz, rfl⟩ : ∃ n : Nat, size = n := ⟨size.toNat, by omega⟩
    obtain ⟨n, hn⟩ : ∃ n, s.size = n := ⟨_, rfl⟩
    obtain ⟨z, hz⟩ : ∃ z : Nat, 40 * (sz : Int) = z := ⟨40 * sz, by omega⟩
    have wz : IntKind.i64.wrap (z : Int) = z := IntWalk.i64_in _ (by omega)
    by_cases h2 : 2000 < n
    · have g1 : decide ((2000 : Int) < n) = true := decide_eq_true (by omega)
      have g2 : decide (2000 < n) = true := decide_eq_true h2
      clear hr
      go_enter Tryz.func50, Tryz.ntmps50
      go_wp2_with fail
      refine (HS.out _).mono ?_
      rintro e w1 ⟨rfl, rfl⟩
      go_wp2_with fail
      go_ret2
      exact ⟨rfl, hW0.out⟩
    · have h3 : z < n := by
        rcases Nat.lt_or_ge z n with h5 | h5
        · exact h5
        · exact absurd ⟨hsz, by omega, by omega⟩ hr
      have g1 : decide ((2000 : Int) < n) = false := decide_eq_false (by omega)
      have g2 : decide (2000 < n) = false := decide_eq_false h2
      have g3 : decide ((z : Int) < n) = true := decide_eq_true (by omega)
      have g4 : decide (z < n) = true := decide_eq_true h3
      clear hr
      go_enter Tryz.func50, Tryz.ntmps50
      go_wp2_with fail
      refine (HS.out _).mono ?_
      rintro e w1 ⟨rfl, rfl⟩
      go_wp2_with fail
      go_ret2
      exact ⟨rfl, hW0.out⟩
  · have HS := Lib.hid (fun W => implSizeValid size false W (bfalse hsz))
    clear hr hsz
    go_enter Tryz.func50, Tryz.ntmps50
    go_wp2_with fail
    refine (HS.out _).mono ?_
    rintro e w1 ⟨rfl, rfl⟩
    go_wp2_with fail
    go_ret2
    exact ⟨rfl, hW0.out⟩

set_option maxHeartbeats 4000000 in
theorem implStartEditYes (o l m n : Nat) (d : List UInt8) (s : ByteArray) (bs : List Blk) (w : World) (h : dfits o l m d) (hs : s.size ≤ 1048576) (hb : contB s = some bs) (hn : bs.length = n) :
    Calls Tryz.prog 49 #[.agg #[.int .i64 (o : Int), .int .i64 (l : Int), .int .i64 (m : Int)], .string (bsL d), .string s] w fun e w' => ∃ A c Ab cb, e = .returned (.tuple #[(Kn.dict o l m d).val A c, .slice Ab n cb, .bool true]) ∧ (Kn.dict o l m d).At w' w'.heap.size A ∧ w'.ownsRow w.heap.size 71 4 (.slice Ab n cb) n (cellsB bs) ∧ Below w.heap.size w w' := by
  have HS := fun W => implStartWithYes o l m d W h
  have HB := Lib.hid (fun W => implContainerBlocksYes s bs n W hs hb hn)
  obtain ⟨k, hk⟩ : ∃ k, Kn.dict o l m d = k := ⟨_, rfl⟩
  rw [hk] at HS ⊢
  have hval := Kn.val_eq k
  simp only [hval] at HS ⊢
  have kr0 := KB.start (w.alloc (.cells #[.int .i64 (o : Int), .int .i64 (l : Int), .int .i64 (m : Int)] 26)) 64 (.int .i64 0) (.int .i64 0) (.int .i64 0) (.slice none 0 0) (.int .i64 0) (.int .i64 0)
  rw [World.size_alloc] at kr0
  have hW0 := Lib.hid (((Below.refl w.heap.size w).alloc (Nat.le_refl _) (.cells #[.int .i64 (o : Int), .int .i64 (l : Int), .int .i64 (m : Int)] 26)).alloc (by simp) (.cells #[.int .i64 0, .int .i64 0, .int .i64 0, .slice none 0 0, .int .i64 0, .int .i64 0] 64))
  replace kr0 := Lib.hid kr0
  replace HS := Lib.hid HS
  clear hval hk h hb hn
  go_enter Tryz.func49, Tryz.ntmps49
  go_wp2_with fail
  refine (HS.out _).mono ?_
  rintro e w1 ⟨A1, c1, rfl, hnew, hcp, hb1⟩
  have hb1a := hb1.alloc hb1.size (.cells #[.int .i64 (k.o : Int), .int .i64 (k.l : Int), .int .i64 (k.m : Int), .slice A1 k.ps.length c1, .int .i64 (k.base : Int), .int .i64 k.lastI] 64)
  have kg := KB.start w1 64 (.int .i64 (k.o : Int)) (.int .i64 (k.l : Int)) (.int .i64 (k.m : Int)) (.slice A1 k.ps.length c1) (.int .i64 (k.base : Int)) (.int .i64 k.lastI)
  have hnew2 := hnew.below ((Below.refl _ _).alloc (Nat.le_refl _) (.cells #[.int .i64 (k.o : Int), .int .i64 (k.l : Int), .int .i64 (k.m : Int), .slice A1 k.ps.length c1, .int .i64 (k.base : Int), .int .i64 k.lastI] 64))
  have kr1 := kr0.out.below hb1a
  have hW1 := hW0.out.trans (hb1a.mono hW0.out.size)
  have hsz0 := kr0.out.lt
  replace kg := Lib.hid kg
  replace hnew2 := Lib.hid hnew2
  replace kr1 := Lib.hid kr1
  replace hW1 := Lib.hid hW1
  clear hb1a hnew hb1 kr0
  go_upto_region 2 with (fail)
  obtain ⟨G, hG⟩ : ∃ G, w1.heap.size = G := ⟨_, rfl⟩
  obtain ⟨w2, hw2⟩ : ∃ W, w1.alloc (.cells #[.int .i64 (k.o : Int), .int .i64 (k.l : Int), .int .i64 (k.m : Int), .slice A1 k.ps.length c1, .int .i64 (k.base : Int), .int .i64 k.lastI] 64) = W := ⟨_, rfl⟩
  rw [hw2] at kg hnew2 kr1 hW1 ⊢
  rw [hG] at kg ⊢
  clear hw2 hG
  go_wp2_with fail
  refine (HB.out _).mono ?_
  rintro e w3 ⟨A3, c3, rfl, hown, hb3⟩
  have kg3 := kg.out.below hb3
  have kr3 := kr1.out.below hb3
  have hnew3 := hnew2.out.below hb3
  have hW3 := hW1.out.trans (hb3.mono hW1.out.size)
  have hlt3 := kr3.lt
  have hS6 := (Keep.refl (fun g => g = w.heap.size + 1) w3).set6 (H := w.heap.size + 1) rfl (.int .i64 (k.o : Int)) (.int .i64 (k.l : Int)) (.int .i64 (k.m : Int)) (.slice A1 k.ps.length c1) (.int .i64 (k.base : Int)) (.int .i64 k.lastI)
  have hfin := Lib.hid (below_set6 (H := w.heap.size + 1) hW3 (by omega) (.int .i64 (k.o : Int)) (.int .i64 (k.l : Int)) (.int .i64 (k.m : Int)) (.slice A1 k.ps.length c1) (.int .i64 (k.base : Int)) (.int .i64 k.lastI))
  have hkr1 := kr1.out.lt
  have hown2 := Lib.hid (own_base (base' := w.heap.size) (own_keep hown hS6 (fun g e1 e2 => by have := (hown.lt g e1).1; omega)) hW1.out.size)
  have hat := Lib.hid (hnew3.set6 (H := w.heap.size + 1) (by have := hW0.out.size; omega) (.int .i64 (k.o : Int)) (.int .i64 (k.l : Int)) (.int .i64 (k.m : Int)) (.slice A1 k.ps.length c1) (.int .i64 (k.base : Int)) (.int .i64 k.lastI)).row
  obtain ⟨⟨q0, q1, q2, q3, q4, q5⟩, _⟩ := kg3
  obtain ⟨⟨r0, r1, r2, r3, r4, r5⟩, y0, y1, y2, y3, y4, y5⟩ := kr3
  clear hb3 hW3 hnew3 hS6 hown kg kr1 hnew2 hW1
  go_wp2_with fail
  refine bodyPost_ret (v := .tuple #[.agg #[.int .i64 (k.o : Int), .int .i64 (k.l : Int), .int .i64 (k.m : Int), .slice A1 k.ps.length c1, .int .i64 (k.base : Int), .int .i64 k.lastI], .slice A3 n c3, .bool true]) (by simp [results, Tryz.results49, go_sem, r0, r1, r2, r3, r4, r5]) rfl ?_
  exact ⟨A1, c1, A3, c3, rfl, hat.out, hown2.out, hfin.out⟩

set_option maxHeartbeats 4000000 in
theorem implStartEditNo (o l m : Int) (d s : ByteArray) (w : World) (hd : d.size ≤ 1048576) (hs : s.size ≤ 1048576) (h : ¬ dfits o l m d.data.toList ∨ contB s = none) :
    Calls Tryz.prog 49 #[.agg #[.int .i64 o, .int .i64 l, .int .i64 m], .string d, .string s] w fun e w' => e = .returned (.tuple #[.agg #[.int .i64 0, .int .i64 0, .int .i64 0, .slice none 0 0, .int .i64 0, .int .i64 0], .slice none 0 0, .bool false]) ∧ Below w.heap.size w w' := by
  have kr0 := KB.start (w.alloc (.cells #[.int .i64 o, .int .i64 l, .int .i64 m] 26)) 64 (.int .i64 0) (.int .i64 0) (.int .i64 0) (.slice none 0 0) (.int .i64 0) (.int .i64 0)
  rw [World.size_alloc] at kr0
  have hW0 := Lib.hid (((Below.refl w.heap.size w).alloc (Nat.le_refl _) (.cells #[.int .i64 o, .int .i64 l, .int .i64 m] 26)).alloc (by simp) (.cells #[.int .i64 0, .int .i64 0, .int .i64 0, .slice none 0 0, .int .i64 0, .int .i64 0] 64))
  replace kr0 := Lib.hid kr0
  by_cases h1 : dfits o l m d.data.toList
  · have hc : contB s = none := h.resolve_left (fun hh => hh h1)
    obtain ⟨on, rfl⟩ : ∃ n : Nat, o = n := ⟨o.toNat, by have := h1.1.1; omega⟩
    obtain ⟨ln, rfl⟩ : ∃ n : Nat, l = n := ⟨l.toNat, by have := h1.1.2.1; omega⟩
    obtain ⟨mn, rfl⟩ : ∃ n : Nat, m = n := ⟨m.toNat, by have := h1.1.2; omega⟩
    have HS := fun W => implStartWithYes on ln mn d.data.toList W h1
    have hbd : bsL d.data.toList = d := rfl
    rw [hbd] at HS
    have HB := Lib.hid (fun W => implContainerBlocksNo s W hs hc)
    obtain ⟨k, hk⟩ : ∃ k, Kn.dict on ln mn d.data.toList = k := ⟨_, rfl⟩
    rw [hk] at HS
    have hval := Kn.val_eq k
    simp only [hval] at HS
    replace HS := Lib.hid HS
    clear hval hk h h1 hc hbd
    go_enter Tryz.func49, Tryz.ntmps49
    go_wp2_with fail
    refine (HS.out _).mono ?_
    rintro e w1 ⟨A1, c1, rfl, _, _, hb1⟩
    have hb1a := hb1.alloc hb1.size (.cells #[.int .i64 (k.o : Int), .int .i64 (k.l : Int), .int .i64 (k.m : Int), .slice A1 k.ps.length c1, .int .i64 (k.base : Int), .int .i64 k.lastI] 64)
    have kr1 := Lib.hid (kr0.out.below hb1a)
    have hW1 := Lib.hid (hW0.out.trans (hb1a.mono hW0.out.size))
    clear hb1a hb1 kr0
    go_upto_region 2 with (fail)
    obtain ⟨G, hG⟩ : ∃ G, w1.heap.size = G := ⟨_, rfl⟩
    obtain ⟨w2, hw2⟩ : ∃ W, w1.alloc (.cells #[.int .i64 (k.o : Int), .int .i64 (k.l : Int), .int .i64 (k.m : Int), .slice A1 k.ps.length c1, .int .i64 (k.base : Int), .int .i64 k.lastI] 64) = W := ⟨_, rfl⟩
    rw [hw2] at kr1 hW1 ⊢
    rw [hG]
    clear hw2 hG
    go_wp2_with fail
    refine (HB.out _).mono ?_
    rintro e w3 ⟨A3, c3, rfl, _, hb3⟩
    have kr3 := kr1.out.below hb3
    have hW3 := hW1.out.trans (hb3.mono hW1.out.size)
    have hfin := Lib.hid (below_set6 (H := w.heap.size + 1) hW3 (by omega) (.int .i64 0) (.int .i64 0) (.int .i64 0) (.slice none 0 0) (.int .i64 0) (.int .i64 0))
    obtain ⟨⟨r0, r1, r2, r3, r4, r5⟩, y0, y1, y2, y3, y4, y5⟩ := kr3
    clear hb3 hW3 kr1 hW1
    go_wp2_with fail
    refine bodyPost_ret (v := .tuple #[.agg #[.int .i64 0, .int .i64 0, .int .i64 0, .slice none 0 0, .int .i64 0, .int .i64 0], .slice none 0 0, .bool false]) (by simp [results, Tryz.results49, go_sem, r0, r1, r2, r3, r4, r5]) rfl ?_
    exact ⟨rfl, hfin.out⟩
  · have HS := Lib.hid (fun W => implStartWithNo o l m d W hd h1)
    clear h h1
    go_enter Tryz.func49, Tryz.ntmps49
    go_wp2_with fail
    refine (HS.out _).mono ?_
    rintro e w1 ⟨rfl, hb1⟩
    have hb1a := hb1.alloc hb1.size (.cells #[.int .i64 0, .int .i64 0, .int .i64 0, .slice none 0 0, .int .i64 0, .int .i64 0] 64)
    have kr1 := Lib.hid (kr0.out.below hb1a)
    have hW1 := Lib.hid (hW0.out.trans (hb1a.mono hW0.out.size))
    clear hb1a hb1 kr0
    go_upto_region 2 with (fail)
    obtain ⟨G, hG⟩ : ∃ G, w1.heap.size = G := ⟨_, rfl⟩
    obtain ⟨w2, hw2⟩ : ∃ W, w1.alloc (.cells #[.int .i64 0, .int .i64 0, .int .i64 0, .slice none 0 0, .int .i64 0, .int .i64 0] 64) = W := ⟨_, rfl⟩
    rw [hw2] at kr1 hW1 ⊢
    rw [hG]
    clear hw2 hG
    have hfin := Lib.hid (below_set6 (H := w.heap.size + 1) hW1.out (by omega) (.int .i64 0) (.int .i64 0) (.int .i64 0) (.slice none 0 0) (.int .i64 0) (.int .i64 0))
    obtain ⟨⟨r0, r1, r2, r3, r4, r5⟩, y0, y1, y2, y3, y4, y5⟩ := kr1.out
    clear kr1
    go_wp2_with fail
    refine bodyPost_ret (v := .tuple #[.agg #[.int .i64 0, .int .i64 0, .int .i64 0, .slice none 0 0, .int .i64 0, .int .i64 0], .slice none 0 0, .bool false]) (by simp [results, Tryz.results49, go_sem, r0, r1, r2, r3, r4, r5]) rfl ?_
    exact ⟨rfl, hfin.out⟩

end Go.Proofs.YtopklampiaecdaaGreat
