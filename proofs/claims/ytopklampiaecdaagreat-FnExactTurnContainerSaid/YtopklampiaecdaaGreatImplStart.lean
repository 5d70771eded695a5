/-
  The program's LearnKnown and StartWith: what is known behind a dictionary.
-/
import Derived.Test.YtopklampiaecdaaGreatImplLearn
import Derived.Test.YtopklampiaecdaaGreatImplKnown
import Derived.Test.YtopklampiaecdaaGreatComp
namespace Go.Proofs.YtopklampiaecdaaGreat
open Go.RowKit
set_option linter.unusedVariables false
set_option maxRecDepth 100000

set_option maxHeartbeats 4000000 in
theorem implLearnYes (k : Kn) (A : Option Addr) (c B : Nat) (L : List UInt8) (w : World) (h : k.Fresh) (hA : k.At w B A) (hB : B ≤ w.heap.size) (hc : k.ps.length ≤ c) (hf : dfits k.o k.l k.m L) :
    Calls Tryz.prog 110 #[k.val A c, .string (bsL L)] w fun e w' => ∃ A' c', e = .returned (.tuple #[(k.learn L).val A' c', .bool true]) ∧ (k.learn L).New w' w.heap.size A' ∧ (k.learn L).ps.length ≤ c' ∧ Below w.heap.size w w' := by
  have hff := h.val.dfits.1 hf
  have HK := fun W (hb : Below w.heap.size w W) => implKnownValid k A c B W h (hA.below hb hB) (Nat.le_trans hB hb.size)
  have HD := fun W => implDataFits k.o k.l k.m (bsL L) true W (by show L.length ≤ _; omega) (btrue hf)
  have HC := fun W (hb : Below w.heap.size w W) => implLearn k A c B L W h.val (hA.below hb hB) (Nat.le_trans hB hb.size) hff.2 hff.1
  obtain ⟨k2, hk2⟩ : ∃ R, k.learn L = R := ⟨_, rfl⟩
  rw [hk2] at HC ⊢
  obtain ⟨n, hn⟩ : ∃ x, k.ps.length = x := ⟨_, rfl⟩
  obtain ⟨o, ho⟩ : ∃ x, k.o = x := ⟨_, rfl⟩
  obtain ⟨l, hl'⟩ : ∃ x, k.l = x := ⟨_, rfl⟩
  obtain ⟨m, hm⟩ : ∃ x, k.m = x := ⟨_, rfl⟩
  obtain ⟨b, hb⟩ : ∃ x, k.base = x := ⟨_, rfl⟩
  obtain ⟨q, hq⟩ : ∃ x, k.lastI = x := ⟨_, rfl⟩
  have hval : k.val A c = .agg #[.int .i64 (o : Int), .int .i64 (l : Int), .int .i64 (m : Int), .slice A n c, .int .i64 (b : Int), .int .i64 q] := by unfold Kn.val; rw [hn, ho, hl', hm, hb, hq]
  rw [hval] at HK HC ⊢
  rw [ho, hl', hm] at HD
  replace HK := Lib.hid HK
  replace HC := Lib.hid HC
  replace HD := Lib.hid HD
  have kb0 := (KB.start w 64 (.int .i64 (o : Int)) (.int .i64 (l : Int)) (.int .i64 (m : Int)) (.slice A n c) (.int .i64 (b : Int)) (.int .i64 q)).alloc (.cells #[.int .i64 0, .int .i64 0, .int .i64 0, .slice none 0 0, .int .i64 0, .int .i64 0] 64)
  have kr0 := KB.start (w.alloc (.cells #[.int .i64 (o : Int), .int .i64 (l : Int), .int .i64 (m : Int), .slice A n c, .int .i64 (b : Int), .int .i64 q] 64)) 64 (.int .i64 0) (.int .i64 0) (.int .i64 0) (.slice none 0 0) (.int .i64 0) (.int .i64 0)
  rw [World.size_alloc] at kr0
  have hW0 := Lib.hid (((Below.refl w.heap.size w).alloc (Nat.le_refl _) (.cells #[.int .i64 (o : Int), .int .i64 (l : Int), .int .i64 (m : Int), .slice A n c, .int .i64 (b : Int), .int .i64 q] 64)).alloc (by simp) (.cells #[.int .i64 0, .int .i64 0, .int .i64 0, .slice none 0 0, .int .i64 0, .int .i64 0] 64))
  replace kb0 := Lib.hid kb0
  replace kr0 := Lib.hid kr0
  clear h hA hf hff hk2 hn ho hl' hm hb hq hval hc
  go_enter Tryz.func110, Tryz.ntmps110
  go_wp2_with fail
  refine (HK.out _ hW0.out).mono ?_
  rintro e w1 ⟨rfl, hb1⟩
  have hW1 := Lib.hid (hW0.out.trans (hb1.mono hW0.out.size))
  have kb1 := Lib.hid (kb0.out.below hb1)
  have kr1 := Lib.hid (kr0.out.below hb1)
  clear hb1 kb0 kr0 hW0
  obtain ⟨⟨q0, q1, q2, q3, q4, q5⟩, z0, z1, z2, z3, z4, z5⟩ := kb1.out
  go_wp2_with fail
  refine (HD.out _).mono ?_
  rintro e w2 ⟨rfl, hb2⟩
  have hW2 := Lib.hid (hW1.out.trans (hb2.mono hW1.out.size))
  have kb2 := Lib.hid (kb1.out.below hb2)
  have kr2 := Lib.hid (kr1.out.below hb2)
  clear q0 q1 q2 q3 q4 q5 z0 z1 z2 z3 z4 z5 hb2 kb1 kr1 hW1
  obtain ⟨⟨q0, q1, q2, q3, q4, q5⟩, z0, z1, z2, z3, z4, z5⟩ := kb2.out
  go_wp2_with fail
  refine (HC.out _ hW2.out).mono ?_
  rintro e w3 ⟨A3, c3, zz, rfl, hat, hcp, hb3⟩
  have hsz2 := kr2.out.lt
  have hb4 := hb3.alloc hb3.size (.cells #[.int .i64 (k2.o : Int), .int .i64 (k2.l : Int), .int .i64 (k2.m : Int), .slice A3 k2.ps.length c3, .int .i64 (k2.base : Int), .int .i64 k2.lastI] 64)
  have hat0 := hat.below ((Below.refl _ _).alloc (Nat.le_refl _) (.cells #[.int .i64 (k2.o : Int), .int .i64 (k2.l : Int), .int .i64 (k2.m : Int), .slice A3 k2.ps.length c3, .int .i64 (k2.base : Int), .int .i64 k2.lastI] 64))
  have kg := KB.start w3 64 (.int .i64 (k2.o : Int)) (.int .i64 (k2.l : Int)) (.int .i64 (k2.m : Int)) (.slice A3 k2.ps.length c3) (.int .i64 (k2.base : Int)) (.int .i64 k2.lastI)
  replace hb4 := Lib.hid hb4
  replace hat0 := Lib.hid hat0
  replace kg := Lib.hid kg
  unfold Kn.val
  clear q0 q1 q2 q3 q4 q5 z0 z1 z2 z3 z4 z5 hb3 hat
  go_upto_region 4 with (fail)
  obtain ⟨w4, hw4⟩ : ∃ W, w3.alloc (.cells #[.int .i64 (k2.o : Int), .int .i64 (k2.l : Int), .int .i64 (k2.m : Int), .slice A3 k2.ps.length c3, .int .i64 (k2.base : Int), .int .i64 k2.lastI] 64) = W := ⟨_, rfl⟩
  rw [hw4] at hb4 hat0 kg ⊢
  clear hw4
  have hat3 := hat0.out.set6 (H := w.heap.size + 1) hsz2 (.int .i64 (k2.o : Int)) (.int .i64 (k2.l : Int)) (.int .i64 (k2.m : Int)) (.slice A3 k2.ps.length c3) (.int .i64 (k2.base : Int)) (.int .i64 k2.lastI)
  have hW3 := below_set6 (H := w.heap.size + 1) (hW2.out.trans (hb4.out.mono hW2.out.size)) (by omega) (.int .i64 (k2.o : Int)) (.int .i64 (k2.l : Int)) (.int .i64 (k2.m : Int)) (.slice A3 k2.ps.length c3) (.int .i64 (k2.base : Int)) (.int .i64 k2.lastI)
  have hat4 := Lib.hid (hat3.mono hW2.out.size)
  replace hW3 := Lib.hid hW3
  obtain ⟨⟨r0, r1, r2, r3, r4, r5⟩, y0, y1, y2, y3, y4, y5⟩ := kr2.out.below hb4.out
  obtain ⟨⟨q0, q1, q2, q3, q4, q5⟩, z0, z1, z2, z3, z4, z5⟩ := kg.out
  clear hb4 kr2 kb2 hW2 hat3 kg hat0
  go_wp2_with fail
  refine bodyPost_ret (v := .tuple #[.agg #[.int .i64 (k2.o : Int), .int .i64 (k2.l : Int), .int .i64 (k2.m : Int), .slice A3 k2.ps.length c3, .int .i64 (k2.base : Int), .int .i64 k2.lastI], .bool true]) (by simp [results, Tryz.results110, go_sem, r0, r1, r2, r3, r4, r5]) rfl ?_
  exact ⟨A3, c3, rfl, hat4.out, hcp, hW3.out⟩

set_option maxHeartbeats 4000000 in
theorem implLearnNo (k : Kn) (A : Option Addr) (c B : Nat) (s : ByteArray) (w : World) (h : k.Fresh) (hA : k.At w B A) (hB : B ≤ w.heap.size) (hs : s.size ≤ 1048576) (hf : ¬ dfits k.o k.l k.m s.data.toList) :
    Calls Tryz.prog 110 #[k.val A c, .string s] w fun e w' => e = .returned (.tuple #[.agg #[.int .i64 0, .int .i64 0, .int .i64 0, .slice none 0 0, .int .i64 0, .int .i64 0], .bool false]) ∧ Below w.heap.size w w' := by
  have HK := fun W (hb : Below w.heap.size w W) => implKnownValid k A c B W h (hA.below hb hB) (Nat.le_trans hB hb.size)
  have HD := fun W => implDataFits k.o k.l k.m s false W hs (bfalse hf)
  obtain ⟨n, hn⟩ : ∃ x, k.ps.length = x := ⟨_, rfl⟩
  obtain ⟨o, ho⟩ : ∃ x, k.o = x := ⟨_, rfl⟩
  obtain ⟨l, hl'⟩ : ∃ x, k.l = x := ⟨_, rfl⟩
  obtain ⟨m, hm⟩ : ∃ x, k.m = x := ⟨_, rfl⟩
  obtain ⟨b, hb⟩ : ∃ x, k.base = x := ⟨_, rfl⟩
  obtain ⟨q, hq⟩ : ∃ x, k.lastI = x := ⟨_, rfl⟩
  have hval : k.val A c = .agg #[.int .i64 (o : Int), .int .i64 (l : Int), .int .i64 (m : Int), .slice A n c, .int .i64 (b : Int), .int .i64 q] := by unfold Kn.val; rw [hn, ho, hl', hm, hb, hq]
  rw [hval] at HK ⊢
  rw [ho, hl', hm] at HD
  replace HK := Lib.hid HK
  replace HD := Lib.hid HD
  have kb0 := (KB.start w 64 (.int .i64 (o : Int)) (.int .i64 (l : Int)) (.int .i64 (m : Int)) (.slice A n c) (.int .i64 (b : Int)) (.int .i64 q)).alloc (.cells #[.int .i64 0, .int .i64 0, .int .i64 0, .slice none 0 0, .int .i64 0, .int .i64 0] 64)
  have kr0 := KB.start (w.alloc (.cells #[.int .i64 (o : Int), .int .i64 (l : Int), .int .i64 (m : Int), .slice A n c, .int .i64 (b : Int), .int .i64 q] 64)) 64 (.int .i64 0) (.int .i64 0) (.int .i64 0) (.slice none 0 0) (.int .i64 0) (.int .i64 0)
  rw [World.size_alloc] at kr0
  have hW0 := Lib.hid (((Below.refl w.heap.size w).alloc (Nat.le_refl _) (.cells #[.int .i64 (o : Int), .int .i64 (l : Int), .int .i64 (m : Int), .slice A n c, .int .i64 (b : Int), .int .i64 q] 64)).alloc (by simp) (.cells #[.int .i64 0, .int .i64 0, .int .i64 0, .slice none 0 0, .int .i64 0, .int .i64 0] 64))
  replace kb0 := Lib.hid kb0
  replace kr0 := Lib.hid kr0
  clear h hA hf hn ho hl' hm hb hq hval
  go_enter Tryz.func110, Tryz.ntmps110
  go_wp2_with fail
  refine (HK.out _ hW0.out).mono ?_
  rintro e w1 ⟨rfl, hb1⟩
  have hW1 := Lib.hid (hW0.out.trans (hb1.mono hW0.out.size))
  have kb1 := Lib.hid (kb0.out.below hb1)
  have kr1 := Lib.hid (kr0.out.below hb1)
  clear hb1 kb0 kr0 hW0
  obtain ⟨⟨q0, q1, q2, q3, q4, q5⟩, z0, z1, z2, z3, z4, z5⟩ := kb1.out
  go_wp2_with fail
  refine (HD.out _).mono ?_
  rintro e w2 ⟨rfl, hb2⟩
  have hW2 := Lib.hid (below_set6 (H := w.heap.size + 1) (hW1.out.trans (hb2.mono hW1.out.size)) (by omega) (.int .i64 0) (.int .i64 0) (.int .i64 0) (.slice none 0 0) (.int .i64 0) (.int .i64 0))
  obtain ⟨⟨r0, r1, r2, r3, r4, r5⟩, y0, y1, y2, y3, y4, y5⟩ := kr1.out.below hb2
  clear q0 q1 q2 q3 q4 q5 z0 z1 z2 z3 z4 z5 hb2 kb1 kr1 hW1
  go_wp2_with fail
  refine bodyPost_ret (v := .tuple #[.agg #[.int .i64 0, .int .i64 0, .int .i64 0, .slice none 0 0, .int .i64 0, .int .i64 0], .bool false]) (by simp [results, Tryz.results110, go_sem, r0, r1, r2, r3, r4, r5]) rfl ?_
  exact ⟨rfl, hW2.out⟩

set_option maxHeartbeats 4000000 in
theorem implStartWithYes (o l m : Nat) (d : List UInt8) (w : World) (h : dfits o l m d) :
    Calls Tryz.prog 74 #[.agg #[.int .i64 (o : Int), .int .i64 (l : Int), .int .i64 (m : Int)], .string (bsL d)] w fun e w' => ∃ A' c', e = .returned (.tuple #[(Kn.dict o l m d).val A' c', .bool true]) ∧ (Kn.dict o l m d).New w' w.heap.size A' ∧ (Kn.dict o l m d).ps.length ≤ c' ∧ Below w.heap.size w w' := by
  have HS := fun W => implStartYes o l m W h.1
  have HL := fun (W : World) => implLearnYes (Kn.zero o l m) none 0 0 d W (Kn.zero_fresh h.1) Row.none_ (Nat.zero_le _) (Nat.le_refl _) h
  have hv0 : (Kn.zero o l m).val none 0 = .agg #[.int .i64 (o : Int), .int .i64 (l : Int), .int .i64 (m : Int), .slice none 0 0, .int .i64 0, .int .i64 (-1)] := rfl
  rw [hv0] at HL
  have hk : (Kn.zero o l m).learn d = Kn.dict o l m d := rfl
  rw [hk] at HL
  obtain ⟨k2, hk2⟩ : ∃ k2, Kn.dict o l m d = k2 := ⟨_, rfl⟩
  rw [hk2] at HL ⊢
  replace HS := Lib.hid HS
  replace HL := Lib.hid HL
  have kr0 := KB.start (w.alloc (.cells #[.int .i64 (o : Int), .int .i64 (l : Int), .int .i64 (m : Int)] 26)) 64 (.int .i64 0) (.int .i64 0) (.int .i64 0) (.slice none 0 0) (.int .i64 0) (.int .i64 0)
  rw [World.size_alloc] at kr0
  have hW0 := Lib.hid (((Below.refl w.heap.size w).alloc (Nat.le_refl _) (.cells #[.int .i64 (o : Int), .int .i64 (l : Int), .int .i64 (m : Int)] 26)).alloc (by simp) (.cells #[.int .i64 0, .int .i64 0, .int .i64 0, .slice none 0 0, .int .i64 0, .int .i64 0] 64))
  replace kr0 := Lib.hid kr0
  clear h hv0 hk hk2
  go_enter Tryz.func74, Tryz.ntmps74
  go_wp2_with fail
  refine (HS.out _).mono ?_
  rintro e w1 ⟨rfl, hb1⟩
  have hW1 := Lib.hid ((hW0.out.trans (hb1.mono hW0.out.size)).alloc (hW0.out.trans (hb1.mono hW0.out.size)).size (.cells #[.int .i64 (o : Int), .int .i64 (l : Int), .int .i64 (m : Int), .slice none 0 0, .int .i64 0, .int .i64 (-1)] 64))
  have kr1 := Lib.hid ((kr0.out.below hb1).alloc (.cells #[.int .i64 (o : Int), .int .i64 (l : Int), .int .i64 (m : Int), .slice none 0 0, .int .i64 0, .int .i64 (-1)] 64))
  have hsz1 := (kr0.out.below hb1).lt
  clear hb1 kr0 hW0
  go_wp2_with fail
  refine (HL.out _).mono ?_
  rintro e w3 ⟨A3, c3, rfl, hat, hcp, hb3⟩
  have hsz3 := kr1.out.lt
  have hat3 := hat.set6 (H := w.heap.size + 1) hsz3 (.int .i64 (k2.o : Int)) (.int .i64 (k2.l : Int)) (.int .i64 (k2.m : Int)) (.slice A3 k2.ps.length c3) (.int .i64 (k2.base : Int)) (.int .i64 k2.lastI)
  have hW3 := Lib.hid (below_set6 (H := w.heap.size + 1) (hW1.out.trans (hb3.mono hW1.out.size)) (by omega) (.int .i64 (k2.o : Int)) (.int .i64 (k2.l : Int)) (.int .i64 (k2.m : Int)) (.slice A3 k2.ps.length c3) (.int .i64 (k2.base : Int)) (.int .i64 k2.lastI))
  have hat4 := Lib.hid (hat3.mono hW1.out.size)
  obtain ⟨⟨r0, r1, r2, r3, r4, r5⟩, y0, y1, y2, y3, y4, y5⟩ := kr1.out.below hb3
  unfold Kn.val
  clear hb3 kr1 hW1 hat hat3
  go_wp2_with fail
  refine bodyPost_ret (v := .tuple #[.agg #[.int .i64 (k2.o : Int), .int .i64 (k2.l : Int), .int .i64 (k2.m : Int), .slice A3 k2.ps.length c3, .int .i64 (k2.base : Int), .int .i64 k2.lastI], .bool true]) (by simp [results, Tryz.results74, go_sem, r0, r1, r2, r3, r4, r5]) rfl ?_
  exact ⟨A3, c3, rfl, hat4.out, hcp, hW3.out⟩

set_option maxHeartbeats 1000000 in
theorem implStartWithBad (o l m : Int) (s : ByteArray) (w : World) (hsv : ¬ sv o l m) :
    Calls Tryz.prog 74 #[.agg #[.int .i64 o, .int .i64 l, .int .i64 m], .string s] w fun e w' => e = .returned (.tuple #[.agg #[.int .i64 0, .int .i64 0, .int .i64 0, .slice none 0 0, .int .i64 0, .int .i64 0], .bool false]) ∧ Below w.heap.size w w' := by
  have HS := Lib.hid (fun W => implStartNo o l m W hsv)
  have kr0 := KB.start (w.alloc (.cells #[.int .i64 o, .int .i64 l, .int .i64 m] 26)) 64 (.int .i64 0) (.int .i64 0) (.int .i64 0) (.slice none 0 0) (.int .i64 0) (.int .i64 0)
  rw [World.size_alloc] at kr0
  have hW0 := Lib.hid (((Below.refl w.heap.size w).alloc (Nat.le_refl _) (.cells #[.int .i64 o, .int .i64 l, .int .i64 m] 26)).alloc (by simp) (.cells #[.int .i64 0, .int .i64 0, .int .i64 0, .slice none 0 0, .int .i64 0, .int .i64 0] 64))
  replace kr0 := Lib.hid kr0
  clear hsv
  go_enter Tryz.func74, Tryz.ntmps74
  go_wp2_with fail
  refine (HS.out _).mono ?_
  rintro e w1 ⟨rfl, hb1⟩
  have hsz1 := (kr0.out.below hb1).lt
  have hW3 := Lib.hid (below_set6 (H := w.heap.size + 1) ((hW0.out.trans (hb1.mono hW0.out.size)).alloc (hW0.out.trans (hb1.mono hW0.out.size)).size (.cells #[.int .i64 0, .int .i64 0, .int .i64 0, .slice none 0 0, .int .i64 0, .int .i64 0] 64)) (by omega) (.int .i64 0) (.int .i64 0) (.int .i64 0) (.slice none 0 0) (.int .i64 0) (.int .i64 0))
  have hb1' := Lib.hid hb1
  clear hb1 hW0
  go_upto_region 3 with (fail)
  have kr1 := (kr0.out.below hb1'.out).alloc (.cells #[.int .i64 0, .int .i64 0, .int .i64 0, .slice none 0 0, .int .i64 0, .int .i64 0] 64)
  obtain ⟨w2, hw2⟩ : ∃ W, w1.alloc (.cells #[.int .i64 0, .int .i64 0, .int .i64 0, .slice none 0 0, .int .i64 0, .int .i64 0] 64) = W := ⟨_, rfl⟩
  rw [hw2] at kr1 hW3 ⊢
  obtain ⟨⟨r0, r1, r2, r3, r4, r5⟩, y0, y1, y2, y3, y4, y5⟩ := kr1
  clear kr0 hb1' hw2
  go_wp2_with fail
  refine bodyPost_ret (v := .tuple #[.agg #[.int .i64 0, .int .i64 0, .int .i64 0, .slice none 0 0, .int .i64 0, .int .i64 0], .bool false]) (by simp [results, Tryz.results74, go_sem, r0, r1, r2, r3, r4, r5]) rfl ?_
  exact ⟨rfl, hW3.out⟩

set_option maxHeartbeats 4000000 in
theorem implStartWithNo (o l m : Int) (s : ByteArray) (w : World) (hs : s.size ≤ 1048576) (h : ¬ dfits o l m s.data.toList) :
    Calls Tryz.prog 74 #[.agg #[.int .i64 o, .int .i64 l, .int .i64 m], .string s] w fun e w' => e = .returned (.tuple #[.agg #[.int .i64 0, .int .i64 0, .int .i64 0, .slice none 0 0, .int .i64 0, .int .i64 0], .bool false]) ∧ Below w.heap.size w w' := by
  by_cases hsv : sv o l m
  · obtain ⟨on, rfl⟩ : ∃ n : Nat, o = n := ⟨o.toNat, by have := hsv.1; omega⟩
    obtain ⟨ln, rfl⟩ : ∃ n : Nat, l = n := ⟨l.toNat, by have := hsv.2.1; omega⟩
    obtain ⟨mn, rfl⟩ : ∃ n : Nat, m = n := ⟨m.toNat, by have := hsv.2; omega⟩
    have HS := fun W => implStartYes on ln mn W hsv
    have HL := fun (W : World) => implLearnNo (Kn.zero on ln mn) none 0 0 s W (Kn.zero_fresh hsv) Row.none_ (Nat.zero_le _) hs h
    have hv0 : (Kn.zero on ln mn).val none 0 = .agg #[.int .i64 (on : Int), .int .i64 (ln : Int), .int .i64 (mn : Int), .slice none 0 0, .int .i64 0, .int .i64 (-1)] := rfl
    rw [hv0] at HL
    replace HS := Lib.hid HS
    replace HL := Lib.hid HL
    have kr0 := KB.start (w.alloc (.cells #[.int .i64 (on : Int), .int .i64 (ln : Int), .int .i64 (mn : Int)] 26)) 64 (.int .i64 0) (.int .i64 0) (.int .i64 0) (.slice none 0 0) (.int .i64 0) (.int .i64 0)
    rw [World.size_alloc] at kr0
    have hW0 := Lib.hid (((Below.refl w.heap.size w).alloc (Nat.le_refl _) (.cells #[.int .i64 (on : Int), .int .i64 (ln : Int), .int .i64 (mn : Int)] 26)).alloc (by simp) (.cells #[.int .i64 0, .int .i64 0, .int .i64 0, .slice none 0 0, .int .i64 0, .int .i64 0] 64))
    replace kr0 := Lib.hid kr0
    clear h hv0 hsv
    go_enter Tryz.func74, Tryz.ntmps74
    go_wp2_with fail
    refine (HS.out _).mono ?_
    rintro e w1 ⟨rfl, hb1⟩
    have hW1 := Lib.hid ((hW0.out.trans (hb1.mono hW0.out.size)).alloc (hW0.out.trans (hb1.mono hW0.out.size)).size (.cells #[.int .i64 (on : Int), .int .i64 (ln : Int), .int .i64 (mn : Int), .slice none 0 0, .int .i64 0, .int .i64 (-1)] 64))
    have kr1 := Lib.hid ((kr0.out.below hb1).alloc (.cells #[.int .i64 (on : Int), .int .i64 (ln : Int), .int .i64 (mn : Int), .slice none 0 0, .int .i64 0, .int .i64 (-1)] 64))
    have hsz1 := (kr0.out.below hb1).lt
    clear hb1 kr0 hW0
    go_wp2_with fail
    refine (HL.out _).mono ?_
    rintro e w3 ⟨rfl, hb3⟩
    have hW3 := Lib.hid (below_set6 (H := w.heap.size + 1) (hW1.out.trans (hb3.mono hW1.out.size)) (by omega) (.int .i64 0) (.int .i64 0) (.int .i64 0) (.slice none 0 0) (.int .i64 0) (.int .i64 0))
    obtain ⟨⟨r0, r1, r2, r3, r4, r5⟩, y0, y1, y2, y3, y4, y5⟩ := kr1.out.below hb3
    clear hb3 kr1 hW1
    go_wp2_with fail
    refine bodyPost_ret (v := .tuple #[.agg #[.int .i64 0, .int .i64 0, .int .i64 0, .slice none 0 0, .int .i64 0, .int .i64 0], .bool false]) (by simp [results, Tryz.results74, go_sem, r0, r1, r2, r3, r4, r5]) rfl ?_
    exact ⟨rfl, hW3.out⟩
  · exact implStartWithBad o l m s w hsv

end Go.Proofs.YtopklampiaecdaaGreat
