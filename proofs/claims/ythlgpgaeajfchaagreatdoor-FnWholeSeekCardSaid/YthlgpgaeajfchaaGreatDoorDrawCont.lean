/-
  Draws of containers: l4Dict, l5Setup, l5Wild, MakeContainer with whatever arguments, l5Some, l5Bad, l5Range.
  Draws of containers, turned into bytes that are sometimes none: l5Bad; l5Range with bounds.
  Draws for JoinContainers and TakeBlocks.
  The reference's draws of the edits' arguments: bent settings, sizes of blocks.
-/
import Derived.Test.YthlgpgaeajfchaaGreatDoorMakeS
import Derived.Test.YthlgpgaeajfchaaGreatDoorDraw
import Derived.Test.YthlgpgaeajfchaaGreatDoorContSpec
import Derived.Test.YthlgpgaeajfchaaGreatDoorTreeMem

namespace Go.Proofs.YthlgpgaeajfchaaGreatDoor
open Go.RowKit
set_option linter.unusedVariables false
set_option maxRecDepth 100000

theorem Dr.setSelf {w w1 : World} {g P : Nat} (h : Dr g P w w1) : Dr g P w w1.drew := h.drewN 1

set_option maxHeartbeats 4000000 in
theorem specL4Dict (g P o l m : Nat) (s : ByteArray) (w : World) (h : RdAt w g P) (hP : P ≤ 700000) (hl1 : 1 ≤ l) (hl : l ≤ 8) (hs : s.size ≤ 1000) :
    Calls Tryz.prog 39 #[.pointer (some ⟨g, 0, none⟩), .agg #[.int .i64 (o : Int), .int .i64 (l : Int), .int .i64 (m : Int)], .string s] w (DrawStr g (P + 50) 1000 w) := by
  have hg := h.lt
  have HD := fun (n P : Nat) (W : World) (h1 : RdAt W g P) (h2 : P ≤ 800000) (h3 : n ≤ 5000) => specL1Data g P o l m n W h1 h2 hl1 hl h3
  unfold setV at HD
  have HD := Lib.hid HD
  obtain ⟨b, hb⟩ : ∃ b, w.heap.size = b := ⟨_, rfl⟩
  have hset : SetAt (w.alloc (.cells #[.int .i64 (o : Int), .int .i64 (l : Int), .int .i64 (m : Int)] 24)) b o l m := by subst hb; exact heap_alloc_new w _
  have hbg : b ≠ g := by omega
  have hd0 : Dr g P w (w.alloc (.cells #[.int .i64 (o : Int), .int .i64 (l : Int), .int .i64 (m : Int)] 24)) := (Dr.refl h).alloc _
  go_enter Tryz.func39, Tryz.ntmps39
  go_wp2_with fail
  refine (specPick g P 4 _ hd0.rd (by omega) (by omega) (by omega)).mono ?_
  rintro e w1 ⟨r, rfl, hr, _, hd1⟩
  have hset1 := hset.dr hd1 hbg
  have hd1' := hd0.trans hd1
  have hz1 := hd1'.size
  obtain ⟨q0, q1, q2⟩ := hset1.cells
  clear hr hd1 hd0 hset
  by_cases h0 : r = 0
  · subst h0
    go_wp2_with fail
    go_ret
    exact ⟨_, rfl, Nat.zero_le _, hd1'.more (by omega)⟩
  by_cases h1 : r = 1
  · subst h1
    by_cases hs0 : 0 < s.size
    · have hs0i : (0 : Int) < s.size := by omega
      go_wp2_with fail
      refine (specPick g (P + 1) s.size _ hd1'.rd (by omega) (by omega) (by omega)).mono ?_
      rintro e w2 ⟨c, rfl, hc, _, hd2⟩
      have hcs : c ≤ s.size := by omega
      clear hc
      go_wp2_with fail
      go_ret
      exact ⟨_, rfl, by rw [ByteArray.size_extract]; omega, (hd1'.trans hd2).more (by omega)⟩
    · have hs0i : ¬ (0 : Int) < s.size := by omega
      go_wp2_with fail
      refine (HD.out 20 (P + 1) _ hd1'.rd (by omega) (by omega)).mono ?_
      rintro e w2 ⟨t, rfl, ht, hd2⟩
      go_wp2_with fail
      go_ret
      exact ⟨_, rfl, by omega, (hd1'.trans hd2).more (by omega)⟩
  · go_wp2_with fail
    refine (HD.out 20 (P + 1) _ hd1'.rd (by omega) (by omega)).mono ?_
    rintro e w2 ⟨t, rfl, ht, hd2⟩
    go_wp2_with fail
    go_ret
    exact ⟨_, rfl, by omega, (hd1'.trans hd2).more (by omega)⟩

theorem SetAt.frozen {w : World} {b o l m : Nat} (h : SetAt w b o l m) (j : Nat) : w.frozen? ⟨b, j, none⟩ = false := by
  have h' : w.heap[b]? = some (.cells #[.int .i64 (o : Int), .int .i64 (l : Int), .int .i64 (m : Int)] 24 (0, 0)) := h
  simp [World.frozen?, h']

/-- A drawn setting and a dictionary. -/
def SetStr (g P : Nat) (w : World) (e : Ending) (w' : World) : Prop := ∃ (o l m : Nat) (s : ByteArray), e = .returned (.tuple #[.agg #[.int .i64 (o : Int), .int .i64 (l : Int), .int .i64 (m : Int)], .string s]) ∧ o < 2 ∧ 1 ≤ l ∧ l ≤ 8 ∧ l + 2 ≤ m ∧ m ≤ 10 ∧ s.size ≤ 1000 ∧ Dr g P w w'

theorem SetAt.three {w : World} {b o l m b0 : Nat} (h : SetAt w b o l m) (hne : b0 ≠ b) (x y z : Value) :
    (((w.setCell ⟨b0, 0, none⟩ x).setCell ⟨b0, 1, none⟩ y).setCell ⟨b0, 2, none⟩ z).cell? ⟨b, 0, none⟩ = some (.int .i64 (o : Int)) ∧
    (((w.setCell ⟨b0, 0, none⟩ x).setCell ⟨b0, 1, none⟩ y).setCell ⟨b0, 2, none⟩ z).cell? ⟨b, 1, none⟩ = some (.int .i64 (l : Int)) ∧
    (((w.setCell ⟨b0, 0, none⟩ x).setCell ⟨b0, 1, none⟩ y).setCell ⟨b0, 2, none⟩ z).cell? ⟨b, 2, none⟩ = some (.int .i64 (m : Int)) := by
  obtain ⟨q0, q1, q2⟩ := h.cells
  have hc : ∀ (W : World) (j i : Nat) (u : Value), (W.setCell ⟨b0, i, none⟩ u).cell? ⟨b, j, none⟩ = W.cell? ⟨b, j, none⟩ := fun W j i u => World.cell?_setCell_other _ _ _ _ (by intro e; injection e; omega)
  simp only [hc]
  exact ⟨q0, q1, q2⟩

set_option maxHeartbeats 4000000 in
theorem specL5Setup (g P : Nat) (w : World) (h : RdAt w g P) (hP : P ≤ 600000) :
    Calls Tryz.prog 14 #[.pointer (some ⟨g, 0, none⟩)] w (SetStr g (P + 100) w) := by
  have hg := h.lt
  go_enter Tryz.func14, Tryz.ntmps14
  go_wp2_with fail
  have hd0 : Dr g P w (w.alloc (.cells #[.int .i64 0, .int .i64 0, .int .i64 0] 24)) := (Dr.refl h).alloc _
  have hset0 : SetAt (w.alloc (.cells #[.int .i64 ((0 : Nat) : Int), .int .i64 ((0 : Nat) : Int), .int .i64 ((0 : Nat) : Int)] 24)) w.heap.size 0 0 0 := heap_alloc_new w _
  refine (specL1Some g P _ hd0.rd (by omega)).mono ?_
  rintro e w1 ⟨o, l, m, rfl, ho, hl1, hl8, hlm, hm, hd1⟩
  have hz1 := hd1.size
  rw [World.size_alloc] at hz1
  have hset0' : SetAt w1 w.heap.size 0 0 0 := hset0.dr hd1 (by omega)
  have hd1' := hd0.trans hd1
  have HD := fun (n P : Nat) (W : World) (h1 : RdAt W g P) (h2 : P ≤ 800000) (h3 : n ≤ 5000) => specL1Data g P o l m n W h1 h2 hl1 hl8 h3
  have HT := fun (P : Nat) (s : ByteArray) (W : World) (h1 : RdAt W g P) (h2 : P ≤ 700000) (h3 : s.size ≤ 1000) => specL4Dict g P o l m s W h1 h2 hl1 hl8 h3
  unfold setV at HD ⊢
  have HD := Lib.hid HD
  have HT := Lib.hid HT
  obtain ⟨b0, hb0⟩ : ∃ b, w.heap.size = b := ⟨_, rfl⟩
  obtain ⟨b, hb⟩ : ∃ b, w1.heap.size = b := ⟨_, rfl⟩
  have hset : SetAt (w1.alloc (.cells #[.int .i64 (o : Int), .int .i64 (l : Int), .int .i64 (m : Int)] 24)) b o l m := by subst hb; exact heap_alloc_new w1 _
  have hdA := hd1'.alloc (.cells #[.int .i64 (o : Int), .int .i64 (l : Int), .int .i64 (m : Int)] 24)
  have hsetA := hset0'.alloc (.cells #[.int .i64 (o : Int), .int .i64 (l : Int), .int .i64 (m : Int)] 24)
  rw [hb0] at hsetA hz1
  have hbg : b ≠ g := by omega
  have hb0g : b0 ≠ g := by omega
  have hb0b : b0 ≠ b := by omega
  have D1 : Hid (Dr g (P + 5) w (w1.alloc (.cells #[.int .i64 (o : Int), .int .i64 (l : Int), .int .i64 (m : Int)] 24)).drew) := Lib.hid hdA.drew
  have T1 := Lib.hid (show SetAt (w1.alloc (.cells #[.int .i64 (o : Int), .int .i64 (l : Int), .int .i64 (m : Int)] 24)).drew b o l m from hset)
  have U1 := Lib.hid (show SetAt (w1.alloc (.cells #[.int .i64 (o : Int), .int .i64 (l : Int), .int .i64 (m : Int)] 24)).drew b0 0 0 0 from hsetA)
  have S1 := Lib.hid T1.out.cells
  clear hd0 hset0 hset0' hd1' hd1 hset hdA hsetA h
  go_wp2_with fail
  go_region_held3 (fun w' => w'.cell? ⟨b, 0, none⟩ = some (.int .i64 (o : Int)) ∧ w'.cell? ⟨b, 1, none⟩ = some (.int .i64 (l : Int)) ∧ w'.cell? ⟨b, 2, none⟩ = some (.int .i64 (m : Int))) (first | with_reducible exact S1.out | with_reducible exact S2.out | with_reducible exact S3.out | with_reducible exact S4.out _ _ _) (first
    | (go_at_call 40; refine (HD.out 12 (P + 5) _ D1.out.rd (by omega) (by omega)).mono ?_; rintro e w2 ⟨t, rfl, ht, hd2⟩; have S2 := Lib.hid (T1.out.dr hd2 hbg).cells; have T2 := Lib.hid (T1.out.dr hd2 hbg); have U2 := Lib.hid (U1.out.dr hd2 hb0g); have D2 := Lib.hid (D1.out.trans hd2); clear hd2)
    | (go_at_call 39; refine (HT.out (P + 33) t _ (D2.out.rd.more (by omega)) (by omega) (by omega)).mono ?_; rintro e w3 ⟨d, rfl, hds, hd3⟩; have S3 := Lib.hid (T2.out.dr hd3 hbg).cells; have U3 := Lib.hid (U2.out.dr hd3 hb0g); have S4 := Lib.hid (fun x y z => (T2.out.dr hd3 hbg).three hb0b x y z); have D3 := Lib.hid (D2.out.trans hd3); obtain ⟨r0, r1, r2⟩ := U3.out.cells; have y0 := U3.out.frozen 0; have y1 := U3.out.frozen 1; have y2 := U3.out.frozen 2; clear hd3))
  have hD := Lib.hid (((D3.out.set (b := b0) (j := 0) (by omega) hg (.int .i64 (o : Int))).set (b := b0) (j := 1) (by omega) hg (.int .i64 (l : Int))).set (b := b0) (j := 2) (by omega) hg (.int .i64 (m : Int)))
  go_wp2_with fail
  refine bodyPost_ret (v := .tuple #[.agg #[.int .i64 (o : Int), .int .i64 (l : Int), .int .i64 (m : Int)], .string d]) (by simp [results, Tryz.results14, go_sem, r0, r1, r2]) rfl ?_
  exact ⟨o, l, m, d, rfl, ho, hl1, hl8, hlm, hm, hds, hD.out.more (by omega)⟩

set_option maxHeartbeats 4000000 in
theorem specL5Wild (g P o l m n : Nat) (w : World) (h : RdAt w g P) (hP : P ≤ 700000) (hl1 : 1 ≤ l) (hl : l ≤ 8) (hn : n ≤ 500) :
    Calls Tryz.prog 15 #[.pointer (some ⟨g, 0, none⟩), .agg #[.int .i64 (o : Int), .int .i64 (l : Int), .int .i64 (m : Int)], .int .i64 (n : Int)] w (DrawStr g (P + 1100) 600 w) := by
  have hg := h.lt
  have HD := fun (n P : Nat) (W : World) (h1 : RdAt W g P) (h2 : P ≤ 800000) (h3 : n ≤ 5000) => specL1Data g P o l m n W h1 h2 hl1 hl h3
  unfold setV at HD
  have HD := Lib.hid HD
  obtain ⟨b, hb⟩ : ∃ b, w.heap.size = b := ⟨_, rfl⟩
  have hset : SetAt (w.alloc (.cells #[.int .i64 (o : Int), .int .i64 (l : Int), .int .i64 (m : Int)] 24)) b o l m := by subst hb; exact heap_alloc_new w _
  have hbg : b ≠ g := by omega
  have hd0 : Dr g P w (w.alloc (.cells #[.int .i64 (o : Int), .int .i64 (l : Int), .int .i64 (m : Int)] 24)) := (Dr.refl h).alloc _
  obtain ⟨q0, q1, q2⟩ := hset.cells
  have hd0' := Lib.hid hd0
  clear hset hd0 h
  go_enter Tryz.func15, Tryz.ntmps15
  clear q0 q1 q2
  go_wp2_with fail
  refine (HD.out n P _ hd0'.out.rd (by omega) (by omega)).mono ?_
  rintro e w1 ⟨t, rfl, ht, hd1⟩
  have hd1' := Lib.hid (hd0'.out.trans hd1)
  clear hd1 hd0'
  go_wp2_with fail
  refine (specPick g (P + 4 + 2 * n) 5 _ hd1'.out.rd (by omega) (by omega) (by omega)).mono ?_
  rintro e w2 ⟨r, rfl, hr, _, hd2⟩
  have hd2' := Lib.hid (hd1'.out.trans hd2)
  clear hr hd2 hd1'
  by_cases h0 : r = 0
  · subst h0
    go_wp2_with fail
    refine (specL1Bytes g (P + 4 + 2 * n + 1) 6 _ hd2'.out.rd (by omega) (by omega)).mono ?_
    rintro e w3 ⟨u, rfl, hu, hd3⟩
    have hd3' := Lib.hid (hd2'.out.trans hd3)
    have hadd : ∀ W, (Op.stringOp .add t u).run Tryz.prog W = .ok (.string (t ++ u)) W := fun W => run_string_add_sum W _ _ (by omega)
    clear hd3 hd2'
    go_wp2_with fail
    go_ret
    exact ⟨_, rfl, by rw [ByteArray.size_append]; omega, hd3'.out.more (by omega)⟩
  · go_wp2_with fail
    go_ret
    exact ⟨_, rfl, by omega, hd2'.out.more (by omega)⟩

/-- A string and a bool, whatever they are. -/
def AnyStr (M : Nat) (w : World) (e : Ending) (w' : World) : Prop := ∃ (s : ByteArray) (b : Bool), e = .returned (.tuple #[.string s, .bool b]) ∧ s.size ≤ M ∧ Below w.heap.size w w'

theorem bsL_of (s : ByteArray) : bsL s.data.toList = s := by apply ba_ext2; simp

theorem specMakeAnyD (o l m size : Nat) (d s : ByteArray) (w : World) (hd : d.size ≤ 1048576) (hs : s.size ≤ 1048576) :
    Calls Tryz.prog 6 #[.agg #[.int .i64 (o : Int), .int .i64 (l : Int), .int .i64 (m : Int)], .string d, .string s, .int .i64 (size : Int)] w (AnyStr 3000 w) := by
  by_cases h : dfits o l m d.data.toList ∧ (1 ≤ (size : Int) ∧ (size : Int) ≤ 64) ∧ (s.size : Int) ≤ size * 40 ∧ s.size ≤ 2000
  · have hsz : s.data.toList.length = s.size := by simp
    have := specMakeContainerYes o l m size d.data.toList s.data.toList w h.1 (by omega) (by omega) (by rw [hsz]; omega) (by rw [hsz]; omega)
    rw [bsL_of, bsL_of] at this
    refine this.mono ?_
    rintro e w' ⟨rfl, hb⟩
    refine ⟨_, _, rfl, ?_, hb⟩
    have h1 := textsFrom_size ((Kn.dict o l m d.data.toList).split size s.data.toList) (splitF_okb (Kn.dict_fresh h.1).1.val (by omega) (by omega) _ _) 0
    have h2 : ((Kn.dict o l m d.data.toList).split size s.data.toList).length ≤ 40 := splitF_length_le _ (by omega) _ _ (Nat.le_refl _) (by rw [hsz]; omega)
    omega
  · refine (specMakeContainerNo o l m size d s w hd hs h).mono ?_
    rintro e w' ⟨rfl, hb⟩
    exact ⟨_, _, rfl, Nat.zero_le _, hb⟩

/-- A drawn setting, a dictionary and a container. -/
def SetStr2 (g P : Nat) (w : World) (e : Ending) (w' : World) : Prop := ∃ (o l m : Nat) (d s : ByteArray), e = .returned (.tuple #[.agg #[.int .i64 (o : Int), .int .i64 (l : Int), .int .i64 (m : Int)], .string d, .string s]) ∧ o < 2 ∧ 1 ≤ l ∧ l ≤ 8 ∧ l + 2 ≤ m ∧ m ≤ 10 ∧ d.size ≤ 1000 ∧ s.size ≤ 3000 ∧ Dr g P w w'

end Go.Proofs.YthlgpgaeajfchaaGreatDoor

namespace Go.Proofs.YthlgpgaeajfchaaGreatDoor
open Go.RowKit
set_option linter.unusedVariables false

theorem u8_xor_lt (a b : Nat) (ha : a < 256) (hb : b < 256) : ∃ c : Nat, c < 256 ∧ bits .xor .u8 (a : Int) (b : Int) = (c : Int) := by
  have h1 : a ^^^ b < 2 ^ 8 := Nat.xor_lt_two_pow (by omega) (by omega)
  refine ⟨a ^^^ b, by omega, ?_⟩
  show IntKind.u8.wrap ((BitVec.ofInt 8 (a : Int) ^^^ BitVec.ofInt 8 (b : Int)).toNat : Int) = _
  have e : ∀ x : Nat, x < 256 → (BitVec.ofInt 8 (x : Int)).toNat = x := fun x hx => by simp; omega
  rw [BitVec.toNat_xor, e a ha, e b hb]
  exact u8_in _ h1

theorem u64_in (r : Nat) (h : r < 256) : IntKind.u64.wrap (r : Int) = r := by
  have h : ∀ y : Fin 256, IntKind.u64.wrap ((y.val : Nat) : Int) = ((y.val : Nat) : Int) := by decide +kernel
  exact h ⟨r, by assumption⟩

theorem pow8 (r : Nat) (h : r < 8) : 2 ^ r < 256 := by
  have := Nat.pow_lt_pow_right (a := 2) (by omega) h
  omega

theorem shl8 (r : Nat) (h : r < 8) : IntKind.u8.wrap ((2 : Int) ^ r) = ((2 ^ r : Nat) : Int) := by
  have h2 : ∀ k : Fin 8, IntKind.u8.wrap ((2 : Int) ^ k.val) = ((2 ^ k.val : Nat) : Int) := by decide +kernel
  exact h2 ⟨r, h⟩

/-- A drawn range. -/
def RangeB (g P : Nat) (w : World) (e : Ending) (w' : World) : Prop := ∃ f t : Int, e = .returned (.tuple #[.int .i64 f, .int .i64 t]) ∧ (-9223372036854775808 ≤ f ∧ f ≤ 9223372036854775807) ∧ (-9223372036854775808 ≤ t ∧ t ≤ 9223372036854775807) ∧ Dr g P w w'

theorem in3 {z a b : Int} (h : z ∈ [a, b]) : z = a ∨ z = b := by simpa using h

theorem in4 {z a b c : Int} (h : z ∈ [a, b, c]) : z = a ∨ z = b ∨ z = c := by simpa using h

end Go.Proofs.YthlgpgaeajfchaaGreatDoor

namespace Go.Proofs.YthlgpgaeajfchaaGreatDoor
open Go.RowKit
set_option linter.unusedVariables false

end Go.Proofs.YthlgpgaeajfchaaGreatDoor

namespace Go.Proofs.YthlgpgaeajfchaaGreatDoor
open Go.RowKit
set_option linter.unusedVariables false
set_option linter.unusedSimpArgs false
set_option maxRecDepth 100000

theorem KBn.dr {w w' : World} {g P H : Nat} {vs : List Value} (h : KBn w H vs) (hd : Dr g P w w') (hne : H ≠ g) : KBn w' H vs :=
  h.keep (S := fun x => x = g) (Keep.of_grown hd.only (fun x e => Or.inl (Option.some.inj e).symm)) hne

theorem KBn.alloc {w : World} {H : Nat} {vs : List Value} (h : KBn w H vs) (o : Obj) : KBn (w.alloc o) H vs := h.below ((Below.refl _ _).alloc (Nat.le_refl _) _)

/-- The cells of three set one after the other. -/
theorem Dr.set3 {w w1 : World} {g P b : Nat} (h : Dr g P w w1) (hb : w.heap.size ≤ b) (hg : g < w.heap.size) (x y z : Value) : Dr g P w (((w1.setCell ⟨b, 0, none⟩ x).setCell ⟨b, 1, none⟩ y).setCell ⟨b, 2, none⟩ z) :=
  ((h.set (b := b) (j := 0) hb hg x).set (b := b) (j := 1) hb hg y).set (b := b) (j := 2) hb hg z

/-- A drawn setting, whatever it is. -/
def BadSet (g P : Nat) (w : World) (e : Ending) (w' : World) : Prop := ∃ o l m : Int, e = .returned (.agg #[.int .i64 o, .int .i64 l, .int .i64 m]) ∧ Dr g P w w'

set_option maxHeartbeats 4000000 in
theorem specL1Bad (g P o l m : Nat) (w : World) (h : RdAt w g P) (hP : P ≤ 700000) (hl8 : l ≤ 8) :
    Calls Tryz.prog 18 #[.pointer (some ⟨g, 0, none⟩), .agg #[.int .i64 (o : Int), .int .i64 (l : Int), .int .i64 (m : Int)]] w (BadSet g (P + 2) w) := by
  have hg := h.lt
  have hd0 : Dr g P w ((w.alloc (.cells #[.int .i64 (o : Int), .int .i64 (l : Int), .int .i64 (m : Int)] 24)).alloc (.cells #[.int .i64 0, .int .i64 0, .int .i64 0] 24)) := ((Dr.refl h).alloc _).alloc _
  have kb0 : KBn ((w.alloc (.cells #[.int .i64 (o : Int), .int .i64 (l : Int), .int .i64 (m : Int)] 24)).alloc (.cells #[.int .i64 0, .int .i64 0, .int .i64 0] 24)) w.heap.size [.int .i64 (o : Int), .int .i64 (l : Int), .int .i64 (m : Int)] := (KBn.start w 24 [.int .i64 (o : Int), .int .i64 (l : Int), .int .i64 (m : Int)]).alloc _
  have zb0 : KBn ((w.alloc (.cells #[.int .i64 (o : Int), .int .i64 (l : Int), .int .i64 (m : Int)] 24)).alloc (.cells #[.int .i64 0, .int .i64 0, .int .i64 0] 24)) (w.heap.size + 1) [.int .i64 0, .int .i64 0, .int .i64 0] := by
    have := KBn.start (w.alloc (.cells #[.int .i64 (o : Int), .int .i64 (l : Int), .int .i64 (m : Int)] 24)) 24 [.int .i64 0, .int .i64 0, .int .i64 0]
    rw [World.size_alloc] at this
    exact this
  go_enter Tryz.func18, Tryz.ntmps18
  go_upto_region 1 with (fail)
  obtain ⟨H, hH⟩ : ∃ H, w.heap.size = H := ⟨_, rfl⟩
  obtain ⟨w0, hw0⟩ : ∃ W, (w.alloc (.cells #[.int .i64 (o : Int), .int .i64 (l : Int), .int .i64 (m : Int)] 24)).alloc (.cells #[.int .i64 0, .int .i64 0, .int .i64 0] 24) = W := ⟨_, rfl⟩
  rw [hw0] at hd0 kb0 zb0 ⊢
  rw [hH] at kb0 zb0 hg ⊢
  clear hw0 h
  have hHg : H ≠ g := by omega
  have hHg1 : H + 1 ≠ g := by omega
  replace hd0 := Lib.hid hd0
  replace kb0 := Lib.hid kb0
  replace zb0 := Lib.hid zb0
  have hgw : g < w.heap.size := by omega
  have hHw : w.heap.size ≤ H := by omega
  have hHw1 : w.heap.size ≤ H + 1 := by omega
  replace hH := Lib.hid hH
  go_wp2_with fail
  refine (specPick g P 40 _ hd0.out.rd (by omega) (by omega) (by omega)).mono ?_
  rintro e w1 ⟨r, rfl, _, _, hd1⟩
  have kb1 := Lib.hid (kb0.out.dr hd1 hHg)
  have zb1 := Lib.hid (zb0.out.dr hd1 hHg1)
  have D1 := Lib.hid (hd0.out.trans hd1)
  clear hd1 kb0 zb0 hd0
  have hf := Lib.hid (fun (W : World) (x y z : Value) (zb : KBn W (H + 1) [.int .i64 0, .int .i64 0, .int .i64 0]) (D : Dr g (P + 2) w W) => D.set3 hHw1 hgw x y z)
  have hlt1 := kb1.out.lt
  have hglt1 := D1.out.rd.lt
  by_cases h0 : r = 0
  · subst h0
    go_wp2_with fail
    refine (specNum g (P + 1) w1.heap.size [-1, 2] 2 2 _ (D1.out.rd.alloc _) (by omega) rfl (by omega) (by omega) ?_ (by omega) (by simp)).mono ?_
    · intro j z hz
      exact new_cell _ _ rfl _ ([-1, 2].map (Value.int .i64)) j _ (by rw [List.getElem?_map, hz]; rfl)
    · rintro e w2 ⟨z, _, rfl, hd2⟩
      obtain ⟨q0, q1, q2⟩ := (show _ ∧ _ ∧ _ from ⟨((kb1.out.alloc _).dr hd2 hHg).c 0 _ rfl, ((kb1.out.alloc _).dr hd2 hHg).c 1 _ rfl, ((kb1.out.alloc _).dr hd2 hHg).c 2 _ rfl⟩)
      have f0 := ((kb1.out.alloc _).dr hd2 hHg).f 0 _ rfl
      have zz := (zb1.out.alloc _).dr hd2 hHg1
      have r0 := zz.c 0 _ rfl
      have r1 := zz.c 1 _ rfl
      have r2 := zz.c 2 _ rfl
      have y0 := zz.f 0 _ rfl
      have y1 := zz.f 1 _ rfl
      have y2 := zz.f 2 _ rfl
      have D2 := Lib.hid (((D1.out.alloc _).trans hd2).set (b := H) (j := 0) hHw hgw (.int .i64 z) |>.set3 hHw1 hgw (.int .i64 z) (.int .i64 (l : Int)) (.int .i64 (m : Int)))
      clear zz hd2 kb1 zb1 D1
      go_wp2_with fail
      refine bodyPost_ret (v := .agg #[.int .i64 z, .int .i64 (l : Int), .int .i64 (m : Int)]) (by simp [results, Tryz.results18, go_sem, r0, r1, r2]) rfl ?_
      exact ⟨_, _, _, rfl, D2.out⟩
  · by_cases h1 : r = 1
    · subst h1
      go_wp2_with fail
      refine (specNum g (P + 1) w1.heap.size [0, 9, -1, 9223372036854775807] 4 4 _ (D1.out.rd.alloc _) (by omega) rfl (by omega) (by omega) ?_ (by omega) (by simp)).mono ?_
      · intro j z hz
        exact new_cell _ _ rfl _ ([0, 9, -1, 9223372036854775807].map (Value.int .i64)) j _ (by rw [List.getElem?_map, hz]; rfl)
      · rintro e w2 ⟨z, _, rfl, hd2⟩
        obtain ⟨q0, q1, q2⟩ := (show _ ∧ _ ∧ _ from ⟨((kb1.out.alloc _).dr hd2 hHg).c 0 _ rfl, ((kb1.out.alloc _).dr hd2 hHg).c 1 _ rfl, ((kb1.out.alloc _).dr hd2 hHg).c 2 _ rfl⟩)
        have f1 := ((kb1.out.alloc _).dr hd2 hHg).f 1 _ rfl
        have zz := (zb1.out.alloc _).dr hd2 hHg1
        have r0 := zz.c 0 _ rfl
        have r1 := zz.c 1 _ rfl
        have r2 := zz.c 2 _ rfl
        have y0 := zz.f 0 _ rfl
        have y1 := zz.f 1 _ rfl
        have y2 := zz.f 2 _ rfl
        have D2 := Lib.hid (((D1.out.alloc _).trans hd2).set (b := H) (j := 1) hHw hgw (.int .i64 z) |>.set3 hHw1 hgw (.int .i64 (o : Int)) (.int .i64 z) (.int .i64 (m : Int)))
        clear zz hd2 kb1 zb1 D1
        go_wp2_with fail
        refine bodyPost_ret (v := .agg #[.int .i64 (o : Int), .int .i64 z, .int .i64 (m : Int)]) (by simp [results, Tryz.results18, go_sem, r0, r1, r2]) rfl ?_
        exact ⟨_, _, _, rfl, D2.out⟩
    · by_cases h2 : r = 2
      · subst h2
        have q1 := kb1.out.c 1 _ rfl
        obtain ⟨l1, hl1⟩ : ∃ z : Int, (l : Int) + 1 = z := ⟨_, rfl⟩
        have wl1 : IntKind.i64.wrap l1 = l1 := IntWalk.i64_in _ (by omega)
        go_wp2_with fail
        refine (specNum g (P + 1) w1.heap.size [l1, 11, -1, -9223372036854775808] 4 4 _ (D1.out.rd.alloc _) (by omega) rfl (by omega) (by omega) ?_ (by omega) (by simp)).mono ?_
        · intro j z hz
          exact new_cell _ _ rfl _ ([l1, 11, -1, -9223372036854775808].map (Value.int .i64)) j _ (by rw [List.getElem?_map, hz]; rfl)
        · rintro e w2 ⟨z, _, rfl, hd2⟩
          clear q1
          obtain ⟨q0, q1, q2⟩ := (show _ ∧ _ ∧ _ from ⟨((kb1.out.alloc _).dr hd2 hHg).c 0 _ rfl, ((kb1.out.alloc _).dr hd2 hHg).c 1 _ rfl, ((kb1.out.alloc _).dr hd2 hHg).c 2 _ rfl⟩)
          have f2 := ((kb1.out.alloc _).dr hd2 hHg).f 2 _ rfl
          have zz := (zb1.out.alloc _).dr hd2 hHg1
          have r0 := zz.c 0 _ rfl
          have r1 := zz.c 1 _ rfl
          have r2 := zz.c 2 _ rfl
          have y0 := zz.f 0 _ rfl
          have y1 := zz.f 1 _ rfl
          have y2 := zz.f 2 _ rfl
          have D2 := Lib.hid (((D1.out.alloc _).trans hd2).set (b := H) (j := 2) hHw hgw (.int .i64 z) |>.set3 hHw1 hgw (.int .i64 (o : Int)) (.int .i64 (l : Int)) (.int .i64 z))
          clear zz hd2 kb1 zb1 D1
          go_wp2_with fail
          refine bodyPost_ret (v := .agg #[.int .i64 (o : Int), .int .i64 (l : Int), .int .i64 z]) (by simp [results, Tryz.results18, go_sem, r0, r1, r2]) rfl ?_
          exact ⟨_, _, _, rfl, D2.out⟩
      · have q0 := kb1.out.c 0 _ rfl
        have q1 := kb1.out.c 1 _ rfl
        have q2 := kb1.out.c 2 _ rfl
        have zz := zb1.out
        have r0 := zz.c 0 _ rfl
        have r1 := zz.c 1 _ rfl
        have r2 := zz.c 2 _ rfl
        have y0 := zz.f 0 _ rfl
        have y1 := zz.f 1 _ rfl
        have y2 := zz.f 2 _ rfl
        have D2 := Lib.hid ((D1.out.more (P' := P + 2) (by omega)).set3 hHw1 hgw (.int .i64 (o : Int)) (.int .i64 (l : Int)) (.int .i64 (m : Int)))
        clear zz kb1 zb1 D1
        go_wp2_with fail
        refine bodyPost_ret (v := .agg #[.int .i64 (o : Int), .int .i64 (l : Int), .int .i64 (m : Int)]) (by simp [results, Tryz.results18, go_sem, r0, r1, r2]) rfl ?_
        exact ⟨_, _, _, rfl, D2.out⟩

/-- A drawn number. -/
def DrawInt (g P : Nat) (w : World) (e : Ending) (w' : World) : Prop := ∃ z : Int, e = .returned (.int .i64 z) ∧ (-9223372036854775808 ≤ z ∧ z ≤ 9223372036854775807) ∧ Dr g P w w'

end Go.Proofs.YthlgpgaeajfchaaGreatDoor
