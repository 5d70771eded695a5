/-
 MakeContainer of both, for all arguments of a moderate size.
-/
import Derived.Test.YthlgpgaeajfchaaGreatDoorImplUnp
import Derived.Test.YthlgpgaeajfchaaGreatDoorSpecRead
import Derived.Test.YthlgpgaeajfchaaGreatDoorTreeMem
import Derived.Test.YthlgpgaeajfchaaGreatDoorPropP

namespace Go.Proofs.YthlgpgaeajfchaaGreatDoor
open Go.RowKit
set_option linter.unusedVariables false
set_option linter.unusedSimpArgs false
set_option maxRecDepth 100000

def makeOk (n : Nat) (size : Int) : Prop := (1 ≤ size ∧ size ≤ 64) ∧ n ≤ 2000 ∧ (n : Int) ≤ 40 * size

instance (n : Nat) (size : Int) : Decidable (makeOk n size) := by unfold makeOk; infer_instance

theorem makeOk_iff {D : List UInt8} {size : Int} : ((1 ≤ size ∧ size ≤ 64) ∧ (D.length : Int) ≤ size * 40 ∧ D.length ≤ 2000) ↔ makeOk D.length size := by
 unfold makeOk
 constructor
 ·rintro ⟨h1, h2, h3⟩; exact ⟨h1, h3, by omega⟩
 ·rintro ⟨h1, h2, h3⟩; exact ⟨h1, by omega, h2⟩

set_option maxHeartbeats 2000000 in
theorem implMakeAny (o l m size : Int) (d : ByteArray) (D : List UInt8) (w : World) (hd : d.size ≤ 1048576) (hf : dfits o l m d.data.toList) (hD : D.length ≤ 4000) :
  Calls Tryz.prog 5 #[.agg #[.int .i64 o, .int .i64 l, .int .i64 m], .string d, .string (bsL D), .int .i64 size] w fun e w' => e = .returned (optV (if (1 ≤ size ∧ size ≤ 64) ∧ (D.length : Int) ≤ size * 40 ∧ D.length ≤ 2000 then some (textsFrom 0 ((kdict o l m d.data.toList).split size.toNat D)) else none)) ∧ Below w.heap.size w w' := by
 have hW0 := Lib.hid ((Below.refl w.heap.size w).alloc (Nat.le_refl _) (.cells #[.int .i64 o, .int .i64 l, .int .i64 m] 24))
 obtain ⟨on, rfl⟩ : ∃ n : Nat, o = n := ⟨o.toNat, by have := hf.1.1; omega⟩
 obtain ⟨ln, rfl⟩ : ∃ n : Nat, l = n := ⟨l.toNat, by have := hf.1.2.1; omega⟩
 obtain ⟨mn, rfl⟩ : ∃ n : Nat, m = n := ⟨m.toNat, by have := hf.1.2; omega⟩
 have HS := fun W => implStartWithYes on ln mn d.data.toList W hf
 have hbd : bsL d.data.toList = d := rfl
 rw [hbd] at HS
 have hfr := (Kn.dict_fresh hf).1
 have hdi : kdict on ln mn d.data.toList = Kn.dict on ln mn d.data.toList := rfl
 rw [hdi]
 obtain ⟨k, hk⟩ : ∃ k, Kn.dict on ln mn d.data.toList = k := ⟨_, rfl⟩
 rw [hk] at HS hfr ⊢
 have hval := Kn.val_eq k
 have hDs : (bsL D).size = D.length := rfl
 by_cases hr : makeOk D.length size
 ·rw [if_pos (makeOk_iff.2 hr)]
  obtain ⟨hsz, hL, h40⟩ := hr
  obtain ⟨sz, rfl⟩ : ∃ n : Nat, size = n := ⟨size.toNat, by omega⟩
  have HI := Lib.hid (fun W => implSizeValid (sz : Int) true W (btrue hsz))
  have hsp := splitF_szs k (size := sz) (by omega) D.length D (Nat.le_refl _)
  have hsl : (k.split sz D).length ≤ 40 := by
   have h1 : (k.split sz D).length = (D.length + sz - 1) / sz := hsp.2
   rw [h1]
   have h3 : (D.length + sz - 1) / sz < 41 := Nat.div_lt_of_lt_mul (show D.length + sz - 1 < sz * 41 by omega)
   omega
  have hsz2 : szs (k.split sz D) = D.length := hsp.1
  have hok := splitF_okb hfr.val (size := sz) (by omega) (by omega) D.length D
  have HB := fun (A : Option Addr) (c : Nat) (W : World) (hA : k.At W W.heap.size A) => implMakeBlocks k A c W.heap.size sz D W hfr hA (Nat.le_refl _) hL (by omega) (by omega)
  have HF := fun (A : Option Addr) (c : Nat) (W : World) (hrw : Row W W.heap.size 4 A (k.split sz D).length (cellsB (k.split sz D))) => implMakeContainer A (k.split sz D).length c W.heap.size (k.split sz D) W hrw (Nat.le_refl _) (by omega) (by omega) hok
  have hmk : mkC (k.split sz D) = some (textsFrom 0 (k.split sz D)) := mkC_yes hsl (by omega)
  have hst : ((sz : Int)).toNat = sz := rfl
  rw [hst]
  rw [hmk] at HF
  obtain ⟨S, hS⟩ : ∃ S, k.split sz D = S := ⟨_, rfl⟩
  rw [hS] at HB HF ⊢
  obtain ⟨T, hT⟩ : ∃ T, textsFrom 0 S = T := ⟨_, rfl⟩
  rw [hT] at HF ⊢
  obtain ⟨q, hq⟩ : ∃ q, S.length = q := ⟨_, rfl⟩
  rw [hq] at HB HF
  unfold optV at HF ⊢
  obtain ⟨n, hn⟩ : ∃ n, D.length = n := ⟨_, rfl⟩
  rw [hn] at hDs hL h40
  obtain ⟨z, hzz⟩ : ∃ z : Nat, 40 * (sz : Int) = z := ⟨40 * sz, by omega⟩
  have wz : IntKind.i64.wrap (z : Int) = z := IntWalk.i64_in _ (by omega)
  have g1 : decide ((2000 : Int) < n) = false := decide_eq_false (by omega)
  have g2 : decide (2000 < n) = false := decide_eq_false (by omega)
  have g3 : decide ((z : Int) < n) = false := decide_eq_false (by omega)
  have g4 : decide (z < n) = false := decide_eq_false (by omega)
  simp only [hval] at HS HB
  replace HS := Lib.hid HS
  replace HB := Lib.hid HB
  replace HF := Lib.hid HF
  clear hk hbd hdi hval hfr hf hsp hsl hsz2 hok hmk hst hS hT hq hn hD
  go_enter Tryz.func5, Tryz.ntmps5
  go_wp2_with fail
  refine (HS.out _).mono ?_
  rintro e w1 ⟨A1, c1, rfl, hnew, hcp, hb1⟩
  have hal : Below w1.heap.size w1 (w1.alloc (.cells #[.int .i64 (k.o : Int), .int .i64 (k.l : Int), .int .i64 (k.m : Int), .slice A1 k.ps.length c1, .int .i64 (k.base : Int), .int .i64 k.lastI] 48)) := (Below.refl _ _).alloc (Nat.le_refl _) _
  have hrow := Lib.hid (show k.At _ (w1.alloc (.cells #[.int .i64 (k.o : Int), .int .i64 (k.l : Int), .int .i64 (k.m : Int), .slice A1 k.ps.length c1, .int .i64 (k.base : Int), .int .i64 k.lastI] 48)).heap.size A1 from (hnew.below hal).row)
  have hkb := Lib.hid (KBn.start w1 48 [.int .i64 (k.o : Int), .int .i64 (k.l : Int), .int .i64 (k.m : Int), .slice A1 k.ps.length c1, .int .i64 (k.base : Int), .int .i64 k.lastI])
  have hW1 := Lib.hid ((hW0.out.trans (hb1.mono hW0.out.size)).alloc (hW0.out.trans (hb1.mono hW0.out.size)).size (.cells #[.int .i64 (k.o : Int), .int .i64 (k.l : Int), .int .i64 (k.m : Int), .slice A1 k.ps.length c1, .int .i64 (k.base : Int), .int .i64 k.lastI] 48))
  clear hb1 hW0 hnew hal hcp
  go_wp2_with fail
  refine (HI.out _).mono ?_
  rintro e w2 ⟨rfl, rfl⟩
  obtain ⟨w3, hw3⟩ : ∃ W, w1.alloc (.cells #[.int .i64 (k.o : Int), .int .i64 (k.l : Int), .int .i64 (k.m : Int), .slice A1 k.ps.length c1, .int .i64 (k.base : Int), .int .i64 k.lastI] 48) = W := ⟨_, rfl⟩
  rw [hw3] at hrow hkb hW1 ⊢
  have hB3 := Lib.hid (HB.out A1 c1 w3 hrow.out)
  have q0 := hkb.out.c 0 _ rfl
  have q1 := hkb.out.c 1 _ rfl
  have q2 := hkb.out.c 2 _ rfl
  have q3 := hkb.out.c 3 _ rfl
  have q4 := hkb.out.c 4 _ rfl
  have q5 := hkb.out.c 5 _ rfl
  clear hw3 hkb hrow HB
  go_wp2_with fail
  refine hB3.out.mono ?_
  rintro e w4 ⟨A4, c4, rfl, ho4, hb4⟩
  have hr4 := Lib.hid (Row.of_own ho4)
  have hW4 := Lib.hid (hW1.out.trans (hb4.mono hW1.out.size))
  clear hb4 ho4 hB3 hW1 q0 q1 q2 q3 q4 q5
  go_wp2_with fail
  refine (HF.out _ _ _ hr4.out).mono ?_
  rintro e w5 ⟨rfl, hb5⟩
  have hW5 := Lib.hid (hW4.out.trans (hb5.mono hW4.out.size))
  clear hb5 hr4 hW4
  go_wp2_with fail
  refine bodyPost_ret (v := .tuple #[.string T, .bool true]) (by simp [results, Tryz.results5, go_sem]) rfl ?_
  exact ⟨rfl, hW5.out⟩
 ·rw [if_neg (fun hh => hr (makeOk_iff.1 hh))]
  obtain ⟨n, hn⟩ : ∃ n, D.length = n := ⟨_, rfl⟩
  rw [hn] at hDs hr hD
  simp only [hval] at HS
  replace HS := Lib.hid HS
  clear hk hbd hdi hval hfr hf hn
  by_cases hsz : 1 ≤ size ∧ size ≤ 64
  ·have HI := Lib.hid (fun W => implSizeValid size true W (btrue hsz))
   obtain ⟨sz, rfl⟩ : ∃ n : Nat, size = n := ⟨size.toNat, by omega⟩
   obtain ⟨z, hz⟩ : ∃ z : Nat, 40 * (sz : Int) = z := ⟨40 * sz, by omega⟩
   have wz : IntKind.i64.wrap (z : Int) = z := IntWalk.i64_in _ (by omega)
   by_cases h2 : 2000 < n
   ·have g1 : decide ((2000 : Int) < n) = true := decide_eq_true (by omega)
    have g2 : decide (2000 < n) = true := decide_eq_true h2
    clear hr
    go_enter Tryz.func5, Tryz.ntmps5
    go_wp2_with fail
    refine (HS.out _).mono ?_
    rintro e w1 ⟨A1, c1, rfl, _, _, hb1⟩
    have hW1 := Lib.hid ((hW0.out.trans (hb1.mono hW0.out.size)).alloc (hW0.out.trans (hb1.mono hW0.out.size)).size (.cells #[.int .i64 (k.o : Int), .int .i64 (k.l : Int), .int .i64 (k.m : Int), .slice A1 k.ps.length c1, .int .i64 (k.base : Int), .int .i64 k.lastI] 48))
    clear hb1 hW0
    go_wp2_with fail
    refine (HI.out _).mono ?_
    rintro e w2 ⟨rfl, rfl⟩
    go_wp2_with fail
    go_ret2
    exact ⟨rfl, hW1.out⟩
   ·have h3 : z < n := by
     rcases Nat.lt_or_ge z n with h5 | h5
     ·exact h5
     ·exact absurd ⟨hsz, by omega, by omega⟩ hr
    have g1 : decide ((2000 : Int) < n) = false := decide_eq_false (by omega)
    have g2 : decide (2000 < n) = false := decide_eq_false h2
    have g3 : decide ((z : Int) < n) = true := decide_eq_true (by omega)
    have g4 : decide (z < n) = true := decide_eq_true h3
    clear hr
    go_enter Tryz.func5, Tryz.ntmps5
    go_wp2_with fail
    refine (HS.out _).mono ?_
    rintro e w1 ⟨A1, c1, rfl, _, _, hb1⟩
    have hW1 := Lib.hid ((hW0.out.trans (hb1.mono hW0.out.size)).alloc (hW0.out.trans (hb1.mono hW0.out.size)).size (.cells #[.int .i64 (k.o : Int), .int .i64 (k.l : Int), .int .i64 (k.m : Int), .slice A1 k.ps.length c1, .int .i64 (k.base : Int), .int .i64 k.lastI] 48))
    clear hb1 hW0
    go_wp2_with fail
    refine (HI.out _).mono ?_
    rintro e w2 ⟨rfl, rfl⟩
    go_wp2_with fail
    go_ret2
    exact ⟨rfl, hW1.out⟩
  ·have HI := Lib.hid (fun W => implSizeValid size false W (bfalse hsz))
   clear hr hsz
   go_enter Tryz.func5, Tryz.ntmps5
   go_wp2_with fail
   refine (HS.out _).mono ?_
   rintro e w1 ⟨A1, c1, rfl, _, _, hb1⟩
   have hW1 := Lib.hid ((hW0.out.trans (hb1.mono hW0.out.size)).alloc (hW0.out.trans (hb1.mono hW0.out.size)).size (.cells #[.int .i64 (k.o : Int), .int .i64 (k.l : Int), .int .i64 (k.m : Int), .slice A1 k.ps.length c1, .int .i64 (k.base : Int), .int .i64 k.lastI] 48))
   clear hb1 hW0
   go_wp2_with fail
   refine (HI.out _).mono ?_
   rintro e w2 ⟨rfl, rfl⟩
   go_wp2_with fail
   go_ret2
   exact ⟨rfl, hW1.out⟩

set_option maxHeartbeats 2000000 in
theorem specMakeAny (o l m size : Int) (d : ByteArray) (D : List UInt8) (w : World) (hd : d.size ≤ 1048576) (hf : dfits o l m d.data.toList) (hD : D.length ≤ 4000) :
  Calls Tryz.prog 6 #[.agg #[.int .i64 o, .int .i64 l, .int .i64 m], .string d, .string (bsL D), .int .i64 size] w fun e w' => e = .returned (optV (if (1 ≤ size ∧ size ≤ 64) ∧ (D.length : Int) ≤ size * 40 ∧ D.length ≤ 2000 then some (textsFrom 0 ((kdict o l m d.data.toList).split size.toNat D)) else none)) ∧ Below w.heap.size w w' := by
 by_cases hm : (1 ≤ size ∧ size ≤ 64) ∧ (D.length : Int) ≤ size * 40 ∧ D.length ≤ 2000
 ·rw [if_pos hm]
  obtain ⟨on, rfl⟩ : ∃ n : Nat, o = n := ⟨o.toNat, by have := hf.1.1; omega⟩
  obtain ⟨ln, rfl⟩ : ∃ n : Nat, l = n := ⟨l.toNat, by have := hf.1.2.1; omega⟩
  obtain ⟨mn, rfl⟩ : ∃ n : Nat, m = n := ⟨m.toNat, by have := hf.1.2; omega⟩
  obtain ⟨sz, rfl⟩ : ∃ n : Nat, size = n := ⟨size.toNat, by omega⟩
  exact specMakeContainerYes on ln mn sz d.data.toList D w hf (by omega) (by omega) (by omega) hm.2.2
 ·rw [if_neg hm]
  have hDs : (bsL D).size = D.length := rfl
  exact specMakeContainerNo o l m size d (bsL D) w hd (by omega) (fun hh => hm ⟨hh.2.1, by rw [← hDs]; exact hh.2.2.1, by rw [← hDs]; exact hh.2.2.2⟩)

set_option maxHeartbeats 2000000 in
theorem implMakeC (o l m size : Int) (d U : ByteArray) (w : World) (hd : d.size ≤ 1048576) (hU : U.size ≤ 4000) :
  Calls Tryz.prog 5 #[.agg #[.int .i64 o, .int .i64 l, .int .i64 m], .string d, .string U, .int .i64 size] w fun e w' => e = .returned (optV (makeC o l m d.data.toList U.data.toList size)) ∧ Below w.heap.size w w' := by
 by_cases hf : dfits o l m d.data.toList
 ·have H := implMakeAny o l m size d U.data.toList w hd hf (by simpa using hU)
  unfold makeC
  rw [if_pos hf]
  exact H
 ·have hA : makeC o l m d.data.toList U.data.toList size = none := by unfold makeC; rw [if_neg hf]
  rw [hA]
  have HS := Lib.hid (fun W => implStartWithNo o l m d W hd hf)
  have hW0 := Lib.hid ((Below.refl w.heap.size w).alloc (Nat.le_refl _) (.cells #[.int .i64 o, .int .i64 l, .int .i64 m] 24))
  clear hA hf
  go_enter Tryz.func5, Tryz.ntmps5
  go_wp2_with fail
  refine (HS.out _).mono ?_
  rintro e w1 ⟨rfl, hb1⟩
  have hW1 := Lib.hid ((hW0.out.trans (hb1.mono hW0.out.size)).alloc (hW0.out.trans (hb1.mono hW0.out.size)).size (.cells #[.int .i64 0, .int .i64 0, .int .i64 0, .slice none 0 0, .int .i64 0, .int .i64 0] 48))
  clear hb1 hW0
  go_wp2_with fail
  go_ret2
  exact ⟨rfl, hW1.out⟩

theorem specMakeC (o l m size : Int) (d U : ByteArray) (w : World) (hd : d.size ≤ 1048576) (hU : U.size ≤ 4000) :
  Calls Tryz.prog 6 #[.agg #[.int .i64 o, .int .i64 l, .int .i64 m], .string d, .string U, .int .i64 size] w fun e w' => e = .returned (optV (makeC o l m d.data.toList U.data.toList size)) ∧ Below w.heap.size w w' := by
 by_cases hf : dfits o l m d.data.toList
 ·have H := specMakeAny o l m size d U.data.toList w hd hf (by simpa using hU)
  unfold makeC
  rw [if_pos hf]
  exact H
 ·have hA : makeC o l m d.data.toList U.data.toList size = none := by unfold makeC; rw [if_neg hf]
  rw [hA]
  exact specMakeContainerNo o l m size d U w hd (by omega) (fun hh => hf hh.1)

end Go.Proofs.YthlgpgaeajfchaaGreatDoor

