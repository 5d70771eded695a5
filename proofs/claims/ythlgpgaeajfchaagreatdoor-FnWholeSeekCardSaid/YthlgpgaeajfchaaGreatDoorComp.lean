/-
  The reference's l2Compress, Compress, LearnKnown, StartWith and CompressWith.
-/
import Derived.Test.YthlgpgaeajfchaaGreatDoorLearn
import Derived.Test.YthlgpgaeajfchaaGreatDoorUn
namespace Go.Proofs.YthlgpgaeajfchaaGreatDoor
open Go.RowKit
set_option linter.unusedVariables false
set_option maxRecDepth 100000

/-- The stream of the greedy codes of data. -/
def Kn.comp (k : Kn) (L : List UInt8) : List UInt8 := packL k.o (k.bits (k.greedy L))

set_option maxHeartbeats 4000000 in
theorem specL2Compress (k : Kn) (A : Option Addr) (c B : Nat) (L : List UInt8) (w : World) (h : k.Valid) (hA : k.At w B A) (hB : B ≤ w.heap.size) (hc : k.ps.length ≤ c) (hf : k.fits L) (hL : L.length ≤ 2000) :
    Calls Tryz.prog 134 #[k.val A c, .string (bsL L)] w fun e w' => e = .returned (.string (bsL (k.comp L))) ∧ Below w.heap.size w w' := by
  obtain ⟨hgF, hgd, hgl⟩ := Kn.greedy_spec h hf
  have ho2 := h.ord
  have HG := fun (W : World) (hb : Below w.heap.size w W) => specL2Greedy k A c B L W h (hA.below hb hB) (Nat.le_trans hB hb.size) hc hf hL
  have HP := fun (W : World) (Ac : Option Addr) (cc : Nat) (hb : Below w.heap.size w W) (hrow : Row W W.heap.size 1 Ac (k.greedy L).length ((k.greedy L).map natV)) =>
    specL2Pack k A c W.heap.size (k.greedy L) Ac cc W h ((hA.below hb hB).more (Nat.le_trans hB hb.size)) (Nat.le_refl _) hc hgF hrow (by omega) (by rw [hgd]; exact hL)
  have hbl : (k.bits (k.greedy L)).length ≤ 10 * (k.greedy L).length := packW_length _ _ _ (hgF.bounds h).2
  have HQ := fun W => specL1Pack k.o (k.bits (k.greedy L)) W (by omega) (by omega) (k.bits_digs _)
  have hres : k.comp L = packL k.o (k.bits (k.greedy L)) := rfl
  rw [hres]
  obtain ⟨cs, hcs⟩ : ∃ cs, k.greedy L = cs := ⟨_, rfl⟩
  rw [hcs] at HG HP HQ ⊢
  obtain ⟨bs, hbs⟩ : ∃ bs, k.bits cs = bs := ⟨_, rfl⟩
  rw [hbs] at HP HQ ⊢
  obtain ⟨n, hn⟩ : ∃ x, k.ps.length = x := ⟨_, rfl⟩
  obtain ⟨o, ho⟩ : ∃ x, k.o = x := ⟨_, rfl⟩
  obtain ⟨l, hl'⟩ : ∃ x, k.l = x := ⟨_, rfl⟩
  obtain ⟨m, hm⟩ : ∃ x, k.m = x := ⟨_, rfl⟩
  obtain ⟨b, hb⟩ : ∃ x, k.base = x := ⟨_, rfl⟩
  obtain ⟨q, hq⟩ : ∃ x, k.lastI = x := ⟨_, rfl⟩
  have hval : k.val A c = .agg #[.int .i64 (o : Int), .int .i64 (l : Int), .int .i64 (m : Int), .slice A n c, .int .i64 (b : Int), .int .i64 q] := by unfold Kn.val; rw [hn, ho, hl', hm, hb, hq]
  rw [hval] at HG HP ⊢
  rw [ho] at HQ ⊢
  replace HG := Lib.hid HG
  replace HP := Lib.hid HP
  replace HQ := Lib.hid HQ
  clear h hA hf hgF hgd hgl hbl hcs hbs hn ho hl' hm hb hq hval hres ho2
  go_enter Tryz.func134, Tryz.ntmps134
  go_wp2_with fail
  go_region_held3 (fun w' => w'.cell? ⟨w.heap.size, 0, none⟩ = some (.int .i64 (o : Int)) ∧ w'.cell? ⟨w.heap.size, 1, none⟩ = some (.int .i64 (l : Int)) ∧ w'.cell? ⟨w.heap.size, 2, none⟩ = some (.int .i64 (m : Int)) ∧ w'.cell? ⟨w.heap.size, 3, none⟩ = some (.slice A n c) ∧ w'.cell? ⟨w.heap.size, 4, none⟩ = some (.int .i64 (b : Int)) ∧ w'.cell? ⟨w.heap.size, 5, none⟩ = some (.int .i64 q) ∧ Below (w.heap.size + 1) (w.alloc (.cells #[.int .i64 (o : Int), .int .i64 (l : Int), .int .i64 (m : Int), .slice A n c, .int .i64 (b : Int), .int .i64 q] 48)) w') (first | exact box6 (Below.refl _ _).drew | assumption | (go_split_ands; exact box6_call (by assumption) (by assumption)) | (go_split_ands; exact ⟨by assumption, by assumption, by assumption, by assumption, by assumption, by assumption, by assumption⟩)) (first
    | (go_at_call 160; refine (HG.out _ (((Below.refl _ _).alloc (Nat.le_refl _) _).drew)).mono ?_; rintro e w5 ⟨A5, c5, rfl, hown, hb5⟩; have hrow5 := Lib.hid (Row.of_own hown); have hW5 := Lib.hid ((((Below.refl w.heap.size w).alloc (Nat.le_refl _) (.cells #[.int .i64 (o : Int), .int .i64 (l : Int), .int .i64 (m : Int), .slice A n c, .int .i64 (b : Int), .int .i64 q] 48)).drew).trans (hb5.mono (by simp))); have hb6 := box6_call hb5 (Below.refl _ _).drew; clear hown hb5)
    | (go_at_call 159; refine (HP.out _ _ _ hW5.out hrow5.out).mono ?_; rintro e w6 ⟨rfl, hb6⟩)
    | (go_at_call 158; refine (HQ.out _).mono ?_; rintro e w7 ⟨rfl, hb7⟩))
  have hW7 := hW5.out.trans ((hb6.trans (hb7.mono hb6.size)).mono hW5.out.size)
  replace hW7 := Lib.hid hW7
  go_wp2_with fail
  go_ret
  exact ⟨rfl, hW7.out⟩

theorem Kn.fits_lits {k : Kn} {L : List UInt8} : k.fits L ↔ litsL k.clear L := Iff.rfl

theorem Kn.Valid.dfits {k : Kn} (h : k.Valid) {L : List UInt8} : dfits k.o k.l k.m L ↔ L.length ≤ 2000 ∧ k.fits L := by
  unfold Go.Proofs.YthlgpgaeajfchaaGreatDoor.dfits
  simp only [Int.toNat_natCast]
  exact ⟨fun hh => hh.2, fun hh => ⟨h.sv, hh⟩⟩

set_option maxHeartbeats 4000000 in
theorem specCompressYes (k : Kn) (A : Option Addr) (c B : Nat) (L : List UInt8) (w : World) (h : k.Fresh) (hA : k.At w B A) (hB : B ≤ w.heap.size) (hc : k.ps.length ≤ c) (hf : dfits k.o k.l k.m L) :
    Calls Tryz.prog 102 #[k.val A c, .string (bsL L)] w fun e w' => e = .returned (.tuple #[.string (bsL (k.comp L)), .bool true]) ∧ Below w.heap.size w w' := by
  have hff := h.val.dfits.1 hf
  have HK := fun W (hb : Below w.heap.size w W) => specKnownValid k A c B W h (hA.below hb hB) (Nat.le_trans hB hb.size)
  have HD := fun W => specDataFits k.o k.l k.m (bsL L) true W (by show L.length ≤ _; omega) (btrue hf)
  have HC := fun W (hb : Below w.heap.size w W) => specL2Compress k A c B L W h.val (hA.below hb hB) (Nat.le_trans hB hb.size) hc hff.2 hff.1
  obtain ⟨R, hR⟩ : ∃ R, bsL (k.comp L) = R := ⟨_, rfl⟩
  rw [hR] at HC ⊢
  obtain ⟨n, hn⟩ : ∃ x, k.ps.length = x := ⟨_, rfl⟩
  obtain ⟨o, ho⟩ : ∃ x, k.o = x := ⟨_, rfl⟩
  obtain ⟨l, hl'⟩ : ∃ x, k.l = x := ⟨_, rfl⟩
  obtain ⟨m, hm⟩ : ∃ x, k.m = x := ⟨_, rfl⟩
  obtain ⟨b, hb⟩ : ∃ x, k.base = x := ⟨_, rfl⟩
  obtain ⟨q, hq⟩ : ∃ x, k.lastI = x := ⟨_, rfl⟩
  have hval : k.val A c = .agg #[.int .i64 (o : Int), .int .i64 (l : Int), .int .i64 (m : Int), .slice A n c, .int .i64 (b : Int), .int .i64 q] := by unfold Kn.val; rw [hn, ho, hl', hm, hb, hq]
  rw [hval] at HK HC ⊢
  rw [ho, hl', hm] at HD
  replace HK := Lib.hid HK
  replace HC := Lib.hid HC
  replace HD := Lib.hid HD
  clear h hA hf hff hR hn ho hl' hm hb hq hval hc
  go_enter Tryz.func102, Tryz.ntmps102
  go_wp2_with fail
  refine (HK.out _ ((Below.refl _ _).alloc (Nat.le_refl _) _)).mono ?_
  rintro e w1 ⟨rfl, hb1⟩
  have hW1 := Lib.hid (((Below.refl w.heap.size w).alloc (Nat.le_refl _) (.cells #[.int .i64 (o : Int), .int .i64 (l : Int), .int .i64 (m : Int), .slice A n c, .int .i64 (b : Int), .int .i64 q] 48)).trans (hb1.mono (by simp)))
  obtain ⟨q0, q1, q2, q3, q4, q5, hB1⟩ := box6_call hb1 (Below.refl _ _)
  clear hb1
  go_wp2_with fail
  refine (HD.out _).mono ?_
  rintro e w2 ⟨rfl, hb2⟩
  have hW2 := Lib.hid (hW1.out.trans (hb2.mono hW1.out.size))
  clear q0 q1 q2 q3 q4 q5
  obtain ⟨q0, q1, q2, q3, q4, q5, hB2⟩ := box6_call hb2 hB1
  clear hb2 hB1 hW1
  go_wp2_with fail
  refine (HC.out _ hW2.out).mono ?_
  rintro e w3 ⟨rfl, hb3⟩
  have hW3 := Lib.hid (hW2.out.trans (hb3.mono hW2.out.size))
  clear hb3 hW2 q0 q1 q2 q3 q4 q5 hB2
  go_wp2_with fail
  go_ret2
  exact ⟨rfl, hW3.out⟩

set_option maxHeartbeats 4000000 in
theorem specCompressNo (k : Kn) (A : Option Addr) (c B : Nat) (s : ByteArray) (w : World) (h : k.Fresh) (hA : k.At w B A) (hB : B ≤ w.heap.size) (hs : s.size ≤ 1048576) (hf : ¬ dfits k.o k.l k.m s.data.toList) :
    Calls Tryz.prog 102 #[k.val A c, .string s] w fun e w' => e = .returned (.tuple #[.string ⟨#[]⟩, .bool false]) ∧ Below w.heap.size w w' := by
  have HK := fun W (hb : Below w.heap.size w W) => specKnownValid k A c B W h (hA.below hb hB) (Nat.le_trans hB hb.size)
  have HD := fun W => specDataFits k.o k.l k.m s false W hs (bfalse hf)
  obtain ⟨n, hn⟩ : ∃ x, k.ps.length = x := ⟨_, rfl⟩
  obtain ⟨o, ho⟩ : ∃ x, k.o = x := ⟨_, rfl⟩
  obtain ⟨l, hl'⟩ : ∃ x, k.l = x := ⟨_, rfl⟩
  obtain ⟨m, hm⟩ : ∃ x, k.m = x := ⟨_, rfl⟩
  obtain ⟨b, hb⟩ : ∃ x, k.base = x := ⟨_, rfl⟩
  obtain ⟨q, hq⟩ : ∃ x, k.lastI = x := ⟨_, rfl⟩
  have hval : k.val A c = .agg #[.int .i64 (o : Int), .int .i64 (l : Int), .int .i64 (m : Int), .slice A n c, .int .i64 (b : Int), .int .i64 q] := by unfold Kn.val; rw [hn, ho, hl', hm, hb, hq]
  rw [hval] at HK ⊢
  rw [ho, hl', hm] at HD
  replace HK := Lib.hid HK
  replace HD := Lib.hid HD
  clear h hA hf hn ho hl' hm hb hq hval
  go_enter Tryz.func102, Tryz.ntmps102
  go_wp2_with fail
  refine (HK.out _ ((Below.refl _ _).alloc (Nat.le_refl _) _)).mono ?_
  rintro e w1 ⟨rfl, hb1⟩
  have hW1 := Lib.hid (((Below.refl w.heap.size w).alloc (Nat.le_refl _) (.cells #[.int .i64 (o : Int), .int .i64 (l : Int), .int .i64 (m : Int), .slice A n c, .int .i64 (b : Int), .int .i64 q] 48)).trans (hb1.mono (by simp)))
  obtain ⟨q0, q1, q2, q3, q4, q5, hB1⟩ := box6_call hb1 (Below.refl _ _)
  clear hb1
  go_wp2_with fail
  refine (HD.out _).mono ?_
  rintro e w2 ⟨rfl, hb2⟩
  have hW2 := Lib.hid (hW1.out.trans (hb2.mono hW1.out.size))
  clear q0 q1 q2 q3 q4 q5 hb2 hB1 hW1
  go_wp2_with fail
  go_ret2
  exact ⟨rfl, hW2.out⟩

set_option maxHeartbeats 4000000 in
theorem specLearnYes (k : Kn) (A : Option Addr) (c B : Nat) (L : List UInt8) (w : World) (h : k.Fresh) (hA : k.At w B A) (hB : B ≤ w.heap.size) (hc : k.ps.length ≤ c) (hf : dfits k.o k.l k.m L) :
    Calls Tryz.prog 132 #[k.val A c, .string (bsL L)] w fun e w' => ∃ A' c', e = .returned (.tuple #[(k.learn L).val A' c', .bool true]) ∧ (k.learn L).New w' w.heap.size A' ∧ (k.learn L).ps.length ≤ c' ∧ Below w.heap.size w w' := by
  have hff := h.val.dfits.1 hf
  have HK := fun W (hb : Below w.heap.size w W) => specKnownValid k A c B W h (hA.below hb hB) (Nat.le_trans hB hb.size)
  have HD := fun W => specDataFits k.o k.l k.m (bsL L) true W (by show L.length ≤ _; omega) (btrue hf)
  have HC := fun W (hb : Below w.heap.size w W) => specL4Learn k A c B L W h.val (hA.below hb hB) (Nat.le_trans hB hb.size) hc hff.2 hff.1
  obtain ⟨k2, hk2⟩ : ∃ R, k.learn L = R := ⟨_, rfl⟩
  rw [hk2] at HC ⊢
  obtain ⟨n, hn⟩ : ∃ x, k.ps.length = x := ⟨_, rfl⟩
  obtain ⟨o, ho⟩ : ∃ x, k.o = x := ⟨_, rfl⟩
  obtain ⟨l, hl'⟩ : ∃ x, k.l = x := ⟨_, rfl⟩
  obtain ⟨m, hm⟩ : ∃ x, k.m = x := ⟨_, rfl⟩
  obtain ⟨b, hb⟩ : ∃ x, k.base = x := ⟨_, rfl⟩
  obtain ⟨q, hq⟩ : ∃ x, k.lastI = x := ⟨_, rfl⟩
  have hval : k.val A c = .agg #[.int .i64 (o : Int), .int .i64 (l : Int), .int .i64 (m : Int), .slice A n c, .int .i64 (b : Int), .int .i64 q] := by unfold Kn.val; rw [hn, ho, hl', hm, hb, hq]
  rw [hval] at HK HC ⊢
  rw [ho, hl', hm] at HD
  replace HK := Lib.hid HK
  replace HC := Lib.hid HC
  replace HD := Lib.hid HD
  have kb0 := (KB.start w 48 (.int .i64 (o : Int)) (.int .i64 (l : Int)) (.int .i64 (m : Int)) (.slice A n c) (.int .i64 (b : Int)) (.int .i64 q)).alloc (.cells #[.int .i64 0, .int .i64 0, .int .i64 0, .slice none 0 0, .int .i64 0, .int .i64 0] 48)
  have kr0 := KB.start (w.alloc (.cells #[.int .i64 (o : Int), .int .i64 (l : Int), .int .i64 (m : Int), .slice A n c, .int .i64 (b : Int), .int .i64 q] 48)) 48 (.int .i64 0) (.int .i64 0) (.int .i64 0) (.slice none 0 0) (.int .i64 0) (.int .i64 0)
  rw [World.size_alloc] at kr0
  have hW0 := Lib.hid (((Below.refl w.heap.size w).alloc (Nat.le_refl _) (.cells #[.int .i64 (o : Int), .int .i64 (l : Int), .int .i64 (m : Int), .slice A n c, .int .i64 (b : Int), .int .i64 q] 48)).alloc (by simp) (.cells #[.int .i64 0, .int .i64 0, .int .i64 0, .slice none 0 0, .int .i64 0, .int .i64 0] 48))
  replace kb0 := Lib.hid kb0
  replace kr0 := Lib.hid kr0
  clear h hA hf hff hk2 hn ho hl' hm hb hq hval hc
  go_enter Tryz.func132, Tryz.ntmps132
  go_wp2_with fail
  refine (HK.out _ hW0.out).mono ?_
  rintro e w1 ⟨rfl, hb1⟩
  have hW1 := Lib.hid (hW0.out.trans (hb1.mono hW0.out.size))
  have kb1 := Lib.hid (kb0.out.below hb1)
  have kr1 := Lib.hid (kr0.out.below hb1)
  clear hb1 kb0 kr0 hW0
  obtain ⟨⟨q0, q1, q2, q3, q4, q5⟩, z0, z1, z2, z3, z4, z5⟩ := kb1.out
  go_wp2_with fail
  refine (HD.out _).mono ?_
  rintro e w2 ⟨rfl, hb2⟩
  have hW2 := Lib.hid (hW1.out.trans (hb2.mono hW1.out.size))
  have kb2 := Lib.hid (kb1.out.below hb2)
  have kr2 := Lib.hid (kr1.out.below hb2)
  clear q0 q1 q2 q3 q4 q5 z0 z1 z2 z3 z4 z5 hb2 kb1 kr1 hW1
  obtain ⟨⟨q0, q1, q2, q3, q4, q5⟩, z0, z1, z2, z3, z4, z5⟩ := kb2.out
  go_wp2_with fail
  refine (HC.out _ hW2.out).mono ?_
  rintro e w3 ⟨A3, c3, rfl, hat, hcp, hb3⟩
  have hsz2 := kr2.out.lt
  have hat3 := hat.set6 (H := w.heap.size + 1) hsz2 (.int .i64 (k2.o : Int)) (.int .i64 (k2.l : Int)) (.int .i64 (k2.m : Int)) (.slice A3 k2.ps.length c3) (.int .i64 (k2.base : Int)) (.int .i64 k2.lastI)
  have hW3 := below_set6 (H := w.heap.size + 1) (hW2.out.trans (hb3.mono hW2.out.size)) (by omega) (.int .i64 (k2.o : Int)) (.int .i64 (k2.l : Int)) (.int .i64 (k2.m : Int)) (.slice A3 k2.ps.length c3) (.int .i64 (k2.base : Int)) (.int .i64 k2.lastI)
  have hat4 := Lib.hid (hat3.mono hW2.out.size)
  replace hW3 := Lib.hid hW3
  obtain ⟨⟨r0, r1, r2, r3, r4, r5⟩, y0, y1, y2, y3, y4, y5⟩ := kr2.out.below hb3
  unfold Kn.val
  clear q0 q1 q2 q3 q4 q5 z0 z1 z2 z3 z4 z5 hb3 kr2 kb2 hW2 hat hat3
  go_wp2_with fail
  refine bodyPost_ret (v := .tuple #[.agg #[.int .i64 (k2.o : Int), .int .i64 (k2.l : Int), .int .i64 (k2.m : Int), .slice A3 k2.ps.length c3, .int .i64 (k2.base : Int), .int .i64 k2.lastI], .bool true]) (by simp [results, Tryz.results132, go_sem, r0, r1, r2, r3, r4, r5]) rfl ?_
  exact ⟨A3, c3, rfl, hat4.out, hcp, hW3.out⟩

set_option maxHeartbeats 4000000 in
theorem specLearnNo (k : Kn) (A : Option Addr) (c B : Nat) (s : ByteArray) (w : World) (h : k.Fresh) (hA : k.At w B A) (hB : B ≤ w.heap.size) (hs : s.size ≤ 1048576) (hf : ¬ dfits k.o k.l k.m s.data.toList) :
    Calls Tryz.prog 132 #[k.val A c, .string s] w fun e w' => e = .returned (.tuple #[.agg #[.int .i64 0, .int .i64 0, .int .i64 0, .slice none 0 0, .int .i64 0, .int .i64 0], .bool false]) ∧ Below w.heap.size w w' := by
  have HK := fun W (hb : Below w.heap.size w W) => specKnownValid k A c B W h (hA.below hb hB) (Nat.le_trans hB hb.size)
  have HD := fun W => specDataFits k.o k.l k.m s false W hs (bfalse hf)
  obtain ⟨n, hn⟩ : ∃ x, k.ps.length = x := ⟨_, rfl⟩
  obtain ⟨o, ho⟩ : ∃ x, k.o = x := ⟨_, rfl⟩
  obtain ⟨l, hl'⟩ : ∃ x, k.l = x := ⟨_, rfl⟩
  obtain ⟨m, hm⟩ : ∃ x, k.m = x := ⟨_, rfl⟩
  obtain ⟨b, hb⟩ : ∃ x, k.base = x := ⟨_, rfl⟩
  obtain ⟨q, hq⟩ : ∃ x, k.lastI = x := ⟨_, rfl⟩
  have hval : k.val A c = .agg #[.int .i64 (o : Int), .int .i64 (l : Int), .int .i64 (m : Int), .slice A n c, .int .i64 (b : Int), .int .i64 q] := by unfold Kn.val; rw [hn, ho, hl', hm, hb, hq]
  rw [hval] at HK ⊢
  rw [ho, hl', hm] at HD
  replace HK := Lib.hid HK
  replace HD := Lib.hid HD
  have kb0 := (KB.start w 48 (.int .i64 (o : Int)) (.int .i64 (l : Int)) (.int .i64 (m : Int)) (.slice A n c) (.int .i64 (b : Int)) (.int .i64 q)).alloc (.cells #[.int .i64 0, .int .i64 0, .int .i64 0, .slice none 0 0, .int .i64 0, .int .i64 0] 48)
  have kr0 := KB.start (w.alloc (.cells #[.int .i64 (o : Int), .int .i64 (l : Int), .int .i64 (m : Int), .slice A n c, .int .i64 (b : Int), .int .i64 q] 48)) 48 (.int .i64 0) (.int .i64 0) (.int .i64 0) (.slice none 0 0) (.int .i64 0) (.int .i64 0)
  rw [World.size_alloc] at kr0
  have hW0 := Lib.hid (((Below.refl w.heap.size w).alloc (Nat.le_refl _) (.cells #[.int .i64 (o : Int), .int .i64 (l : Int), .int .i64 (m : Int), .slice A n c, .int .i64 (b : Int), .int .i64 q] 48)).alloc (by simp) (.cells #[.int .i64 0, .int .i64 0, .int .i64 0, .slice none 0 0, .int .i64 0, .int .i64 0] 48))
  replace kb0 := Lib.hid kb0
  replace kr0 := Lib.hid kr0
  clear h hA hf hn ho hl' hm hb hq hval
  go_enter Tryz.func132, Tryz.ntmps132
  go_wp2_with fail
  refine (HK.out _ hW0.out).mono ?_
  rintro e w1 ⟨rfl, hb1⟩
  have hW1 := Lib.hid (hW0.out.trans (hb1.mono hW0.out.size))
  have kb1 := Lib.hid (kb0.out.below hb1)
  have kr1 := Lib.hid (kr0.out.below hb1)
  clear hb1 kb0 kr0 hW0
  obtain ⟨⟨q0, q1, q2, q3, q4, q5⟩, z0, z1, z2, z3, z4, z5⟩ := kb1.out
  go_wp2_with fail
  refine (HD.out _).mono ?_
  rintro e w2 ⟨rfl, hb2⟩
  have hW2 := Lib.hid (below_set6 (H := w.heap.size + 1) (hW1.out.trans (hb2.mono hW1.out.size)) (by omega) (.int .i64 0) (.int .i64 0) (.int .i64 0) (.slice none 0 0) (.int .i64 0) (.int .i64 0))
  obtain ⟨⟨r0, r1, r2, r3, r4, r5⟩, y0, y1, y2, y3, y4, y5⟩ := kr1.out.below hb2
  clear q0 q1 q2 q3 q4 q5 z0 z1 z2 z3 z4 z5 hb2 kb1 kr1 hW1
  go_wp2_with fail
  refine bodyPost_ret (v := .tuple #[.agg #[.int .i64 0, .int .i64 0, .int .i64 0, .slice none 0 0, .int .i64 0, .int .i64 0], .bool false]) (by simp [results, Tryz.results132, go_sem, r0, r1, r2, r3, r4, r5]) rfl ?_
  exact ⟨rfl, hW2.out⟩

/-- What is known at first with a dictionary. -/
def Kn.dict (o l m : Nat) (d : List UInt8) : Kn := (Kn.zero o l m).learn d

theorem Kn.dict_fresh {o l m : Nat} {d : List UInt8} (h : dfits o l m d) : (Kn.dict o l m d).Fresh ∧ (Kn.dict o l m d).o = o ∧ (Kn.dict o l m d).l = l ∧ (Kn.dict o l m d).m = m := by
  have hv := Kn.zero_valid h.1
  have hf : (Kn.zero o l m).fits d := by
    have := h.2.2
    simp only [Int.toNat_natCast] at this
    exact this
  exact ⟨Kn.learn_fresh hv hf, Kn.learn_like hv hf⟩

set_option maxHeartbeats 4000000 in
theorem specStartWithYes (o l m : Nat) (d : List UInt8) (w : World) (h : dfits o l m d) :
    Calls Tryz.prog 101 #[.agg #[.int .i64 (o : Int), .int .i64 (l : Int), .int .i64 (m : Int)], .string (bsL d)] w fun e w' => ∃ A' c', e = .returned (.tuple #[(Kn.dict o l m d).val A' c', .bool true]) ∧ (Kn.dict o l m d).New w' w.heap.size A' ∧ (Kn.dict o l m d).ps.length ≤ c' ∧ Below w.heap.size w w' := by
  have HS := fun W => specStartYes o l m W h.1
  have HL := fun (W : World) => specLearnYes (Kn.zero o l m) none 0 0 d W (Kn.zero_fresh h.1) Row.none_ (Nat.zero_le _) (Nat.le_refl _) h
  have hv0 : (Kn.zero o l m).val none 0 = .agg #[.int .i64 (o : Int), .int .i64 (l : Int), .int .i64 (m : Int), .slice none 0 0, .int .i64 0, .int .i64 (-1)] := rfl
  rw [hv0] at HL
  have hk : (Kn.zero o l m).learn d = Kn.dict o l m d := rfl
  rw [hk] at HL
  obtain ⟨k2, hk2⟩ : ∃ k2, Kn.dict o l m d = k2 := ⟨_, rfl⟩
  rw [hk2] at HL ⊢
  replace HS := Lib.hid HS
  replace HL := Lib.hid HL
  have kr0 := KB.start (w.alloc (.cells #[.int .i64 (o : Int), .int .i64 (l : Int), .int .i64 (m : Int)] 24)) 48 (.int .i64 0) (.int .i64 0) (.int .i64 0) (.slice none 0 0) (.int .i64 0) (.int .i64 0)
  rw [World.size_alloc] at kr0
  have hW0 := Lib.hid (((Below.refl w.heap.size w).alloc (Nat.le_refl _) (.cells #[.int .i64 (o : Int), .int .i64 (l : Int), .int .i64 (m : Int)] 24)).alloc (by simp) (.cells #[.int .i64 0, .int .i64 0, .int .i64 0, .slice none 0 0, .int .i64 0, .int .i64 0] 48))
  replace kr0 := Lib.hid kr0
  clear h hv0 hk hk2
  go_enter Tryz.func101, Tryz.ntmps101
  go_wp2_with fail
  refine (HS.out _).mono ?_
  rintro e w1 ⟨rfl, hb1⟩
  have hW1 := Lib.hid ((hW0.out.trans (hb1.mono hW0.out.size)).alloc (hW0.out.trans (hb1.mono hW0.out.size)).size (.cells #[.int .i64 (o : Int), .int .i64 (l : Int), .int .i64 (m : Int), .slice none 0 0, .int .i64 0, .int .i64 (-1)] 48))
  have kr1 := Lib.hid ((kr0.out.below hb1).alloc (.cells #[.int .i64 (o : Int), .int .i64 (l : Int), .int .i64 (m : Int), .slice none 0 0, .int .i64 0, .int .i64 (-1)] 48))
  have hsz1 := (kr0.out.below hb1).lt
  clear hb1 kr0 hW0
  go_wp2_with fail
  refine (HL.out _).mono ?_
  rintro e w3 ⟨A3, c3, rfl, hat, hcp, hb3⟩
  have hsz3 := kr1.out.lt
  have hat3 := hat.set6 (H := w.heap.size + 1) hsz3 (.int .i64 (k2.o : Int)) (.int .i64 (k2.l : Int)) (.int .i64 (k2.m : Int)) (.slice A3 k2.ps.length c3) (.int .i64 (k2.base : Int)) (.int .i64 k2.lastI)
  have hW3 := Lib.hid (below_set6 (H := w.heap.size + 1) (hW1.out.trans (hb3.mono hW1.out.size)) (by omega) (.int .i64 (k2.o : Int)) (.int .i64 (k2.l : Int)) (.int .i64 (k2.m : Int)) (.slice A3 k2.ps.length c3) (.int .i64 (k2.base : Int)) (.int .i64 k2.lastI))
  have hat4 := Lib.hid (hat3.mono hW1.out.size)
  obtain ⟨⟨r0, r1, r2, r3, r4, r5⟩, y0, y1, y2, y3, y4, y5⟩ := kr1.out.below hb3
  unfold Kn.val
  clear hb3 kr1 hW1 hat hat3
  go_wp2_with fail
  refine bodyPost_ret (v := .tuple #[.agg #[.int .i64 (k2.o : Int), .int .i64 (k2.l : Int), .int .i64 (k2.m : Int), .slice A3 k2.ps.length c3, .int .i64 (k2.base : Int), .int .i64 k2.lastI], .bool true]) (by simp [results, Tryz.results101, go_sem, r0, r1, r2, r3, r4, r5]) rfl ?_
  exact ⟨A3, c3, rfl, hat4.out, hcp, hW3.out⟩

set_option maxHeartbeats 1000000 in
theorem specStartWithBad (o l m : Int) (s : ByteArray) (w : World) (hsv : ¬ sv o l m) :
    Calls Tryz.prog 101 #[.agg #[.int .i64 o, .int .i64 l, .int .i64 m], .string s] w fun e w' => e = .returned (.tuple #[.agg #[.int .i64 0, .int .i64 0, .int .i64 0, .slice none 0 0, .int .i64 0, .int .i64 0], .bool false]) ∧ Below w.heap.size w w' := by
  have HS := Lib.hid (fun W => specStartNo o l m W hsv)
  have kr0 := KB.start (w.alloc (.cells #[.int .i64 o, .int .i64 l, .int .i64 m] 24)) 48 (.int .i64 0) (.int .i64 0) (.int .i64 0) (.slice none 0 0) (.int .i64 0) (.int .i64 0)
  rw [World.size_alloc] at kr0
  have hW0 := Lib.hid (((Below.refl w.heap.size w).alloc (Nat.le_refl _) (.cells #[.int .i64 o, .int .i64 l, .int .i64 m] 24)).alloc (by simp) (.cells #[.int .i64 0, .int .i64 0, .int .i64 0, .slice none 0 0, .int .i64 0, .int .i64 0] 48))
  replace kr0 := Lib.hid kr0
  clear hsv
  go_enter Tryz.func101, Tryz.ntmps101
  go_wp2_with fail
  refine (HS.out _).mono ?_
  rintro e w1 ⟨rfl, hb1⟩
  have hsz1 := (kr0.out.below hb1).lt
  have hW3 := Lib.hid (below_set6 (H := w.heap.size + 1) ((hW0.out.trans (hb1.mono hW0.out.size)).alloc (hW0.out.trans (hb1.mono hW0.out.size)).size (.cells #[.int .i64 0, .int .i64 0, .int .i64 0, .slice none 0 0, .int .i64 0, .int .i64 0] 48)) (by omega) (.int .i64 0) (.int .i64 0) (.int .i64 0) (.slice none 0 0) (.int .i64 0) (.int .i64 0))
  have hb1' := Lib.hid hb1
  clear hb1 hW0
  go_upto_region 3 with (fail)
  have kr1 := (kr0.out.below hb1'.out).alloc (.cells #[.int .i64 0, .int .i64 0, .int .i64 0, .slice none 0 0, .int .i64 0, .int .i64 0] 48)
  obtain ⟨w2, hw2⟩ : ∃ W, w1.alloc (.cells #[.int .i64 0, .int .i64 0, .int .i64 0, .slice none 0 0, .int .i64 0, .int .i64 0] 48) = W := ⟨_, rfl⟩
  rw [hw2] at kr1 hW3 ⊢
  obtain ⟨⟨r0, r1, r2, r3, r4, r5⟩, y0, y1, y2, y3, y4, y5⟩ := kr1
  clear kr0 hb1' hw2
  go_wp2_with fail
  refine bodyPost_ret (v := .tuple #[.agg #[.int .i64 0, .int .i64 0, .int .i64 0, .slice none 0 0, .int .i64 0, .int .i64 0], .bool false]) (by simp [results, Tryz.results101, go_sem, r0, r1, r2, r3, r4, r5]) rfl ?_
  exact ⟨rfl, hW3.out⟩

set_option maxHeartbeats 4000000 in
theorem specStartWithNo (o l m : Int) (s : ByteArray) (w : World) (hs : s.size ≤ 1048576) (h : ¬ dfits o l m s.data.toList) :
    Calls Tryz.prog 101 #[.agg #[.int .i64 o, .int .i64 l, .int .i64 m], .string s] w fun e w' => e = .returned (.tuple #[.agg #[.int .i64 0, .int .i64 0, .int .i64 0, .slice none 0 0, .int .i64 0, .int .i64 0], .bool false]) ∧ Below w.heap.size w w' := by
  by_cases hsv : sv o l m
  · obtain ⟨on, rfl⟩ : ∃ n : Nat, o = n := ⟨o.toNat, by have := hsv.1; omega⟩
    obtain ⟨ln, rfl⟩ : ∃ n : Nat, l = n := ⟨l.toNat, by have := hsv.2.1; omega⟩
    obtain ⟨mn, rfl⟩ : ∃ n : Nat, m = n := ⟨m.toNat, by have := hsv.2; omega⟩
    have HS := fun W => specStartYes on ln mn W hsv
    have HL := fun (W : World) => specLearnNo (Kn.zero on ln mn) none 0 0 s W (Kn.zero_fresh hsv) Row.none_ (Nat.zero_le _) hs h
    have hv0 : (Kn.zero on ln mn).val none 0 = .agg #[.int .i64 (on : Int), .int .i64 (ln : Int), .int .i64 (mn : Int), .slice none 0 0, .int .i64 0, .int .i64 (-1)] := rfl
    rw [hv0] at HL
    replace HS := Lib.hid HS
    replace HL := Lib.hid HL
    have kr0 := KB.start (w.alloc (.cells #[.int .i64 (on : Int), .int .i64 (ln : Int), .int .i64 (mn : Int)] 24)) 48 (.int .i64 0) (.int .i64 0) (.int .i64 0) (.slice none 0 0) (.int .i64 0) (.int .i64 0)
    rw [World.size_alloc] at kr0
    have hW0 := Lib.hid (((Below.refl w.heap.size w).alloc (Nat.le_refl _) (.cells #[.int .i64 (on : Int), .int .i64 (ln : Int), .int .i64 (mn : Int)] 24)).alloc (by simp) (.cells #[.int .i64 0, .int .i64 0, .int .i64 0, .slice none 0 0, .int .i64 0, .int .i64 0] 48))
    replace kr0 := Lib.hid kr0
    clear h hv0 hsv
    go_enter Tryz.func101, Tryz.ntmps101
    go_wp2_with fail
    refine (HS.out _).mono ?_
    rintro e w1 ⟨rfl, hb1⟩
    have hW1 := Lib.hid ((hW0.out.trans (hb1.mono hW0.out.size)).alloc (hW0.out.trans (hb1.mono hW0.out.size)).size (.cells #[.int .i64 (on : Int), .int .i64 (ln : Int), .int .i64 (mn : Int), .slice none 0 0, .int .i64 0, .int .i64 (-1)] 48))
    have kr1 := Lib.hid ((kr0.out.below hb1).alloc (.cells #[.int .i64 (on : Int), .int .i64 (ln : Int), .int .i64 (mn : Int), .slice none 0 0, .int .i64 0, .int .i64 (-1)] 48))
    have hsz1 := (kr0.out.below hb1).lt
    clear hb1 kr0 hW0
    go_wp2_with fail
    refine (HL.out _).mono ?_
    rintro e w3 ⟨rfl, hb3⟩
    have hW3 := Lib.hid (below_set6 (H := w.heap.size + 1) (hW1.out.trans (hb3.mono hW1.out.size)) (by omega) (.int .i64 0) (.int .i64 0) (.int .i64 0) (.slice none 0 0) (.int .i64 0) (.int .i64 0))
    obtain ⟨⟨r0, r1, r2, r3, r4, r5⟩, y0, y1, y2, y3, y4, y5⟩ := kr1.out.below hb3
    clear hb3 kr1 hW1
    go_wp2_with fail
    refine bodyPost_ret (v := .tuple #[.agg #[.int .i64 0, .int .i64 0, .int .i64 0, .slice none 0 0, .int .i64 0, .int .i64 0], .bool false]) (by simp [results, Tryz.results101, go_sem, r0, r1, r2, r3, r4, r5]) rfl ?_
    exact ⟨rfl, hW3.out⟩
  · exact specStartWithBad o l m s w hsv

set_option maxHeartbeats 4000000 in
theorem specCompressWithYes (o l m : Nat) (d L : List UInt8) (w : World) (h : dfits o l m d) (hL : dfits o l m L) :
    Calls Tryz.prog 75 #[.agg #[.int .i64 (o : Int), .int .i64 (l : Int), .int .i64 (m : Int)], .string (bsL d), .string (bsL L)] w fun e w' => e = .returned (.tuple #[.string (bsL ((Kn.dict o l m d).comp L)), .bool true]) ∧ Below w.heap.size w w' := by
  have HS := fun W => specStartWithYes o l m d W h
  obtain ⟨hfr, e1, e2, e3⟩ := Kn.dict_fresh h
  obtain ⟨k2, hk2⟩ : ∃ k2, Kn.dict o l m d = k2 := ⟨_, rfl⟩
  rw [hk2] at HS hfr e1 e2 e3 ⊢
  have HC := fun (W : World) (A : Option Addr) (c : Nat) (hA : k2.At W W.heap.size A) (hc : k2.ps.length ≤ c) => specCompressYes k2 A c W.heap.size L W hfr hA (Nat.le_refl _) hc (by rw [e1, e2, e3]; exact hL)
  unfold Kn.val at HS HC
  obtain ⟨R, hR⟩ : ∃ R, bsL (k2.comp L) = R := ⟨_, rfl⟩
  rw [hR] at HC ⊢
  replace HS := Lib.hid HS
  replace HC := Lib.hid HC
  have hW0 := Lib.hid ((Below.refl w.heap.size w).alloc (Nat.le_refl _) (.cells #[.int .i64 (o : Int), .int .i64 (l : Int), .int .i64 (m : Int)] 24))
  clear h hk2 e1 e2 e3 hL hR hfr
  go_enter Tryz.func75, Tryz.ntmps75
  go_wp2_with fail
  refine (HS.out _).mono ?_
  rintro e w1 ⟨A1, c1, rfl, hnew, hcp, hb1⟩
  have hal : Below w1.heap.size w1 (w1.alloc (.cells #[.int .i64 (k2.o : Int), .int .i64 (k2.l : Int), .int .i64 (k2.m : Int), .slice A1 k2.ps.length c1, .int .i64 (k2.base : Int), .int .i64 k2.lastI] 48)) := (Below.refl _ _).alloc (Nat.le_refl _) _
  have hrow := Lib.hid (hnew.below hal).row
  have hW1 := Lib.hid ((hW0.out.trans (hb1.mono hW0.out.size)).alloc (hW0.out.trans (hb1.mono hW0.out.size)).size (.cells #[.int .i64 (k2.o : Int), .int .i64 (k2.l : Int), .int .i64 (k2.m : Int), .slice A1 k2.ps.length c1, .int .i64 (k2.base : Int), .int .i64 k2.lastI] 48))
  clear hb1 hW0 hnew hal
  go_wp2_with fail
  refine (HC.out _ _ _ hrow.out hcp).mono ?_
  rintro e w3 ⟨rfl, hb3⟩
  have hW3 := Lib.hid (hW1.out.trans (hb3.mono hW1.out.size))
  clear hb3 hW1
  go_wp2_with fail
  go_ret2
  exact ⟨rfl, hW3.out⟩

set_option maxHeartbeats 4000000 in
theorem specCompressWithNo (o l m : Nat) (d : List UInt8) (s : ByteArray) (w : World) (h : dfits o l m d) (hs : s.size ≤ 1048576) (hL : ¬ dfits o l m s.data.toList) :
    Calls Tryz.prog 75 #[.agg #[.int .i64 (o : Int), .int .i64 (l : Int), .int .i64 (m : Int)], .string (bsL d), .string s] w fun e w' => e = .returned (.tuple #[.string ⟨#[]⟩, .bool false]) ∧ Below w.heap.size w w' := by
  have HS := fun W => specStartWithYes o l m d W h
  obtain ⟨hfr, e1, e2, e3⟩ := Kn.dict_fresh h
  obtain ⟨k2, hk2⟩ : ∃ k2, Kn.dict o l m d = k2 := ⟨_, rfl⟩
  rw [hk2] at HS hfr e1 e2 e3
  have HC := fun (W : World) (A : Option Addr) (c : Nat) (hA : k2.At W W.heap.size A) => specCompressNo k2 A c W.heap.size s W hfr hA (Nat.le_refl _) hs (by rw [e1, e2, e3]; exact hL)
  unfold Kn.val at HS HC
  replace HS := Lib.hid HS
  replace HC := Lib.hid HC
  have hW0 := Lib.hid ((Below.refl w.heap.size w).alloc (Nat.le_refl _) (.cells #[.int .i64 (o : Int), .int .i64 (l : Int), .int .i64 (m : Int)] 24))
  clear h hk2 e1 e2 e3 hL hfr
  go_enter Tryz.func75, Tryz.ntmps75
  go_wp2_with fail
  refine (HS.out _).mono ?_
  rintro e w1 ⟨A1, c1, rfl, hnew, hcp, hb1⟩
  have hal : Below w1.heap.size w1 (w1.alloc (.cells #[.int .i64 (k2.o : Int), .int .i64 (k2.l : Int), .int .i64 (k2.m : Int), .slice A1 k2.ps.length c1, .int .i64 (k2.base : Int), .int .i64 k2.lastI] 48)) := (Below.refl _ _).alloc (Nat.le_refl _) _
  have hrow := Lib.hid (hnew.below hal).row
  have hW1 := Lib.hid ((hW0.out.trans (hb1.mono hW0.out.size)).alloc (hW0.out.trans (hb1.mono hW0.out.size)).size (.cells #[.int .i64 (k2.o : Int), .int .i64 (k2.l : Int), .int .i64 (k2.m : Int), .slice A1 k2.ps.length c1, .int .i64 (k2.base : Int), .int .i64 k2.lastI] 48))
  clear hb1 hW0 hnew hal hcp
  go_wp2_with fail
  refine (HC.out _ _ _ hrow.out).mono ?_
  rintro e w3 ⟨rfl, hb3⟩
  have hW3 := Lib.hid (hW1.out.trans (hb3.mono hW1.out.size))
  clear hb3 hW1
  go_wp2_with fail
  go_ret2
  exact ⟨rfl, hW3.out⟩

end Go.Proofs.YthlgpgaeajfchaaGreatDoor
