/-
  The walk of the law FnTurnMake.
-/
import Derived.Test.YtopklampiaecdaaGreatMakeLaw
import Derived.Test.YtopklampiaecdaaGreatTurn
import Derived.Test.YtopklampiaecdaaGreatPropP
import Derived.Test.YtopklampiaecdaaGreatDrawsM
import Derived.Test.YtopklampiaecdaaGreatTreeMem
namespace Go.Proofs.YtopklampiaecdaaGreat
open Go.RowKit
set_option linter.unusedVariables false
set_option linter.unusedSimpArgs false
set_option maxRecDepth 100000

theorem split_ok {k : Kn} (h : k.Valid) {size : Nat} (h1 : 1 ≤ size) (h64 : size ≤ 64) {D : List UInt8} (h2 : D.length ≤ 2000) (h40 : D.length ≤ size * 40) :
    (∀ b ∈ k.split size D, b.okb) ∧ (k.split size D).length ≤ 40 ∧ szs (k.split size D) = D.length :=
  ⟨splitF_okb h h1 h64 _ _, splitF_length_le k h1 _ _ (Nat.le_refl _) h40, (splitF_szs k h1 _ _ (Nat.le_refl _)).1⟩

/-- A container that was made, turned. -/
theorem make_law {o l m size : Int} {d D : List UInt8} {x : ByteArray} (h : makeC o l m d D size = some x) :
    ∃ (o2 : Int) (y : ByteArray), (1 : Int) - o = o2 ∧ (o2 = 0 ∨ o2 = 1) ∧ turnC o l m d (contB x) = some y ∧ makeC o2 l m d D size = some y ∧ y.size = x.size ∧ x.size ≤ 2960 := by
  unfold makeC at h
  by_cases hf : dfits o l m d
  · rw [if_pos hf] at h
    by_cases hc : (1 ≤ size ∧ size ≤ 64) ∧ (D.length : Int) ≤ size * 40 ∧ D.length ≤ 2000
    · rw [if_pos hc] at h
      obtain ⟨on, rfl⟩ : ∃ n : Nat, o = n := ⟨o.toNat, by have := hf.1.1; omega⟩
      obtain ⟨ln, rfl⟩ : ∃ n : Nat, l = n := ⟨l.toNat, by have := hf.1.2.1; omega⟩
      obtain ⟨mn, rfl⟩ : ∃ n : Nat, m = n := ⟨m.toNat, by have := hf.1.2; omega⟩
      obtain ⟨sz, rfl⟩ : ∃ n : Nat, size = n := ⟨size.toNat, by omega⟩
      have hkd : kdict on ln mn d = Kn.dict on ln mn d := rfl
      have ez : ((sz : Int)).toNat = sz := rfl
      rw [hkd, ez] at h
      have hx : textsFrom 0 ((Kn.dict on ln mn d).split sz D) = x := by injection h
      have hkv := (Kn.dict_fresh hf).1.val
      obtain ⟨s1, s2, s3⟩ := split_ok hkv (size := sz) (by omega) (by omega) (D := D) (by omega) (by omega)
      have hxb : contB x = some (renumL 0 ((Kn.dict on ln mn d).split sz D)) := by rw [← hx]; exact contB_texts s1 s2 (by omega)
      obtain ⟨f1, f2, f3, f4⟩ := dfits_flip hf
      have hk2 : kdict ((1 - on : Nat) : Int) ln mn d = (Kn.dict on ln mn d).flip := flip_dict on ln mn d
      have ht : (Kn.dict on ln mn d).turnL ((Kn.dict on ln mn d).split sz D) = some ((Kn.dict on ln mn d).flip.split sz D) := turnL_split hkv sz D.length D
      obtain ⟨c1, c2, c3, c4, c5, _, c8, _⟩ := turnL_back hkv _ _ s1 ht
      refine ⟨((1 - on : Nat) : Int), textsFrom 0 ((Kn.dict on ln mn d).flip.split sz D), f3, by omega, ?_, ?_, ?_, ?_⟩
      · rw [hxb]
        show (if _ then _ else _) = _
        rw [if_pos hf, hkd, turnL_renumL, ht]
        show some (textsFrom 0 (renumL 0 _)) = _
        rw [textsFrom_renumL']
      · unfold makeC
        rw [if_pos f1, if_pos hc, hk2, ez]
      · rw [← hx, textsFrom_txl, textsFrom_txl, c8]
      · have h5 := textsFrom_size _ s1 0
        rw [hx] at h5
        omega
    · rw [if_neg hc] at h; cases h
  · rw [if_neg hf] at h; cases h

set_option maxHeartbeats 4000000 in
theorem lawFnTurnMake (A : Option Addr) (n c : Nat) (bs : List UInt8) (w : World) (h : ByteRow w A n bs) (hnc : n ≤ c) :
    Calls Tryz.prog 12 #[.slice A n c] w fun e w' => e = .returned (.bool true) ∧ Below w.heap.size w w' := by
  have hle := h.le
  unfold maxLen at hle
  by_cases hn : n ≤ 1048576
  · have gn := decide_eq_false (p := (1048576 : Int) < n) (by omega)
    have gn2 := decide_eq_false (p := 1048576 < n) (by omega)
    go_enter Tryz.func12, Tryz.ntmps12
    go_wp2_with fail
    refine (specDrawMakeContainer A n c bs _ h hnc).mono ?_
    rintro e w1 ⟨o, l, m, d, U, size, rfl, hd, hU, hsr, hb1⟩
    have kb2 := KBn.start w1 26 [.int .i64 o, .int .i64 l, .int .i64 m]
    have hW2 := hb1.alloc hb1.size (.cells #[.int .i64 o, .int .i64 l, .int .i64 m] 26)
    change KBn (w1.alloc (.cells #[.int .i64 o, .int .i64 l, .int .i64 m] 26)) _ _ at kb2
    clear hb1 h
    go_upto_region 4 with (fail)
    obtain ⟨G, hG⟩ : ∃ G, w1.heap.size = G := ⟨_, rfl⟩
    obtain ⟨w2, hw2⟩ : ∃ W, w1.alloc (.cells #[.int .i64 o, .int .i64 l, .int .i64 m] 26) = W := ⟨_, rfl⟩
    rw [hw2] at kb2 hW2 ⊢
    rw [hG] at kb2 ⊢
    clear hw2 hG
    replace kb2 := Lib.hid kb2
    replace hW2 := Lib.hid hW2
    have HI := fun W => implMakeC o l m size d U W (by omega) (by omega)
    have HS := fun W => specMakeC o l m size d U W (by omega) (by omega)
    have hW2s := Lib.hid hW2.out.size
    replace hsr := Lib.hid hsr
    rcases hT : makeC o l m d.data.toList U.data.toList size with _ | x
    · rw [hT] at HI HS
      unfold optV at HI HS
      replace HI := Lib.hid HI
      replace HS := Lib.hid HS
      clear hT
      have qkb0 := kb2.out.c 0 _ rfl
      have qkb1 := kb2.out.c 1 _ rfl
      have qkb2 := kb2.out.c 2 _ rfl
      go_wp2_with fail
      refine (HI.out _).mono ?_
      rintro e w3 ⟨rfl, hb3⟩
      have hW3 := Lib.hid (hW2.out.trans (hb3.mono hW2.out.size))
      have kb3 := Lib.hid (kb2.out.below hb3)
      clear hb3 hW2 kb2 qkb0 qkb1 qkb2
      have qkb0 := kb3.out.c 0 _ rfl
      have qkb1 := kb3.out.c 1 _ rfl
      have qkb2 := kb3.out.c 2 _ rfl
      go_wp2_with fail
      refine (HS.out _).mono ?_
      rintro e w4 ⟨rfl, hb4⟩
      have hW4 := Lib.hid (hW3.out.trans (hb4.mono hW3.out.size))
      have kb4 := Lib.hid (kb3.out.below hb4)
      clear hb4 hW3 kb3 qkb0 qkb1 qkb2
      go_wp2_with fail
      go_ret
      exact ⟨rfl, hW4.out⟩
    · rw [hT] at HI HS
      obtain ⟨o2, y, ho2, ho01, e1, e2, s1, s2⟩ := make_law hT
      have H1 := fun W => implTurnContainer o l m d x W (by omega) (by omega)
      have H2 := fun W => implMakeC o2 l m size d U W (by omega) (by omega)
      rw [e1] at H1
      rw [e2] at H2
      unfold optV at HI HS H1 H2
      simp only [Option.getD_some, Option.isSome_some] at HI HS H1 H2
      have wo2 : IntKind.i64.wrap o2 = o2 := IntWalk.i64_in _ (by omega)
      replace HI := Lib.hid HI
      replace HS := Lib.hid HS
      replace H1 := Lib.hid H1
      replace H2 := Lib.hid H2
      clear hT e1 e2 ho01
      have qkb0 := kb2.out.c 0 _ rfl
      have qkb1 := kb2.out.c 1 _ rfl
      have qkb2 := kb2.out.c 2 _ rfl
      go_wp2_with fail
      refine (HI.out _).mono ?_
      rintro e w3 ⟨rfl, hb3⟩
      have hW3 := Lib.hid (hW2.out.trans (hb3.mono hW2.out.size))
      have kb3 := Lib.hid (kb2.out.below hb3)
      clear hb3 hW2 kb2 qkb0 qkb1 qkb2
      have qkb0 := kb3.out.c 0 _ rfl
      have qkb1 := kb3.out.c 1 _ rfl
      have qkb2 := kb3.out.c 2 _ rfl
      go_wp2_with fail
      refine (HS.out _).mono ?_
      rintro e w4 ⟨rfl, hb4⟩
      have hW4 := Lib.hid (hW3.out.trans (hb4.mono hW3.out.size))
      have kb4 := Lib.hid (kb3.out.below hb4)
      clear hb4 hW3 kb3 qkb0 qkb1 qkb2
      have q0 := kb4.out.c 0 _ rfl
      have q1 := kb4.out.c 1 _ rfl
      have q2 := kb4.out.c 2 _ rfl
      have pb5 := KBn.start w4 26 [.int .i64 o, .int .i64 l, .int .i64 m]
      change KBn (w4.alloc (.cells #[.int .i64 o, .int .i64 l, .int .i64 m] 26)) _ _ at pb5
      have kb5 := kb4.out.alloc (.cells #[.int .i64 o, .int .i64 l, .int .i64 m] 26)
      have hW5 := hW4.out.alloc hW4.out.size (.cells #[.int .i64 o, .int .i64 l, .int .i64 m] 26)
      have hne5 := kb4.out.lt
      have hge5 := hW4.out.size
      clear kb4 hW4
      go_upto_region 9 with (fail)
      clear q0 q1 q2
      obtain ⟨G2, hG2⟩ : ∃ G, w4.heap.size = G := ⟨_, rfl⟩
      obtain ⟨w5, hw5⟩ : ∃ W, w4.alloc (.cells #[.int .i64 o, .int .i64 l, .int .i64 m] 26) = W := ⟨_, rfl⟩
      rw [hw5] at kb5 hW5 pb5 ⊢
      rw [hG2] at pb5 hne5 hge5 ⊢
      clear hw5 hG2
      have q0 := kb5.c 0 _ rfl
      have f0 := pb5.f 0 _ rfl
      have p0 := pb5.c 0 _ rfl
      have kb6 := kb5.keep (S := fun x => x = G2) (Keep.of_set (S := fun x => x = G2) (w := w5) (p := ⟨G2, 0, none⟩) rfl (.int .i64 o2)) (by omega)
      have pb6 := pb5.set (j := 0) rfl (.int .i64 o2)
      have hW6 := hW5.setCell (p := ⟨G2, 0, none⟩) hge5 (.int .i64 o2)
      change KBn _ _ [.int .i64 o2, .int .i64 l, .int .i64 m] at pb6
      clear kb5 pb5 hW5
      go_upto_region 10 with (fail)
      clear q0 f0 p0
      obtain ⟨w6, hw6⟩ : ∃ W, w5.setCell ⟨G2, 0, none⟩ (.int .i64 o2) = W := ⟨_, rfl⟩
      rw [hw6] at kb6 pb6 hW6 ⊢
      clear hw6
      replace kb6 := Lib.hid kb6
      replace pb6 := Lib.hid pb6
      replace hW6 := Lib.hid hW6
      clear ho2 wo2
      have qkb0 := kb6.out.c 0 _ rfl
      have qkb1 := kb6.out.c 1 _ rfl
      have qkb2 := kb6.out.c 2 _ rfl
      have qpb0 := pb6.out.c 0 _ rfl
      have qpb1 := pb6.out.c 1 _ rfl
      have qpb2 := pb6.out.c 2 _ rfl
      go_wp2_with fail
      refine (H1.out _).mono ?_
      rintro e w7 ⟨rfl, hb7⟩
      have hW7 := Lib.hid (hW6.out.trans (hb7.mono hW6.out.size))
      have kb7 := Lib.hid (kb6.out.below hb7)
      have pb7 := Lib.hid (pb6.out.below hb7)
      clear hb7 hW6 kb6 pb6 qkb0 qkb1 qkb2 qpb0 qpb1 qpb2
      have qkb0 := kb7.out.c 0 _ rfl
      have qkb1 := kb7.out.c 1 _ rfl
      have qkb2 := kb7.out.c 2 _ rfl
      have qpb0 := pb7.out.c 0 _ rfl
      have qpb1 := pb7.out.c 1 _ rfl
      have qpb2 := pb7.out.c 2 _ rfl
      go_wp2_with fail
      refine (H2.out _).mono ?_
      rintro e w8 ⟨rfl, hb8⟩
      have hW8 := Lib.hid (hW7.out.trans (hb8.mono hW7.out.size))
      have kb8 := Lib.hid (kb7.out.below hb8)
      have pb8 := Lib.hid (pb7.out.below hb8)
      clear hb8 hW7 kb7 pb7 qkb0 qkb1 qkb2 qpb0 qpb1 qpb2
      go_wp2_with fail
      go_ret
      exact ⟨rfl, hW8.out⟩
  · have gn := decide_eq_true (p := (1048576 : Int) < n) (by omega)
    have gn2 := decide_eq_true (p := 1048576 < n) (by omega)
    clear h
    go_enter Tryz.func12, Tryz.ntmps12
    go_wp2_with fail
    go_ret
    exact ⟨rfl, Below.refl _ _⟩

end Go.Proofs.YtopklampiaecdaaGreat
