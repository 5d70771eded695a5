/-
  Taken out of Turn.
-/
import Derived.Test.YtopklampiaecdaaGreatTurn
namespace Go.Proofs.YtopklampiaecdaaGreat
open Go.RowKit
set_option linter.unusedVariables false
set_option linter.unusedSimpArgs false
set_option maxRecDepth 100000

set_option maxHeartbeats 2000000 in
theorem specRepack (k : Kn) (A : Option Addr) (c B : Nat) (L : List UInt8) (w : World) (h : k.Fresh) (hA : k.At w B A) (hB : B ≤ w.heap.size) (hc : k.ps.length ≤ c) (hL : L.length ≤ 4000) (hfi : (k.unpack L).fin = 0) :
    Calls Tryz.prog 54 #[k.val A c, .string (bsL L)] w fun e w' => e = .returned (.tuple #[.string (bsL (packL k.flip.o (k.flip.bits (k.unpack L).codes))), .bool true]) ∧ Below w.heap.size w w' := by
  obtain ⟨hF, _, hlen, hdl, _⟩ := Kn.whole h.val hfi
  have hdl2 : (k.flip.data (k.unpack L).codes).length ≤ 2000 := by rw [flip_data]; exact hdl
  have HU := fun (W : World) (hb : Below w.heap.size w W) => specUnpackCodes k A c B L W h (hA.below hb hB) (Nat.le_trans hB hb.size) hc hL
  have HP := fun (W : World) (Ac : Option Addr) (cc : Nat) (hb : Below w.heap.size w W) (hr : Row W W.heap.size 1 Ac (k.unpack L).codes.length ((k.unpack L).codes.map natV)) => specL2Pack k.flip A c W.heap.size (k.unpack L).codes Ac cc W (flip_valid h.val) ((show k.flip.At W B A from hA.below hb hB).more (Nat.le_trans hB hb.size)) (Nat.le_refl _) hc (flip_follow hF) hr (by omega) hdl2
  have hbl : (k.flip.bits (k.unpack L).codes).length ≤ 10 * (k.unpack L).codes.length := packW_length _ _ _ ((flip_follow hF).bounds (flip_valid h.val)).2
  have HQ := fun W => specL1Pack k.flip.o (k.flip.bits (k.unpack L).codes) W (by show 1 - k.o ≤ 1; omega) (by omega) (k.flip.bits_digs _)
  have hord := h.val.ord
  obtain ⟨o2, ho2⟩ : ∃ o2 : Nat, (1 : Int) - (k.o : Int) = o2 := ⟨1 - k.o, by omega⟩
  have ho3 : ((k.flip.o : Nat) : Int) = o2 := by show ((1 - k.o : Nat) : Int) = o2; omega
  have hfv : k.flip.val A c = .agg #[.int .i64 (o2 : Int), .int .i64 (k.l : Int), .int .i64 (k.m : Int), .slice A k.ps.length c, .int .i64 (k.base : Int), .int .i64 k.lastI] := by
    rw [Kn.val_eq, ho3]; rfl
  obtain ⟨R, hR⟩ : ∃ R, bsL (packL k.flip.o (k.flip.bits (k.unpack L).codes)) = R := ⟨_, rfl⟩
  rw [hR, ho3] at HQ
  rw [hR]
  obtain ⟨T, hT⟩ : ∃ T, bsL (k.flip.bits (k.unpack L).codes) = T := ⟨_, rfl⟩
  rw [hT] at HP HQ
  rw [hfi] at HU
  obtain ⟨us, hus⟩ : ∃ us, k.used L = us := ⟨_, rfl⟩
  rw [hus] at HU
  obtain ⟨cs, hcs⟩ : ∃ cs, (k.unpack L).codes = cs := ⟨_, rfl⟩
  rw [hcs] at HU HP
  obtain ⟨nc, hnc⟩ : ∃ n, cs.length = n := ⟨_, rfl⟩
  rw [hnc] at HU HP
  have hval := Kn.val_eq k
  simp only [hval] at HU ⊢
  rw [hfv] at HP
  have kb0 := Lib.hid (KB.start w 64 (.int .i64 (k.o : Int)) (.int .i64 (k.l : Int)) (.int .i64 (k.m : Int)) (.slice A k.ps.length c) (.int .i64 (k.base : Int)) (.int .i64 k.lastI))
  have hW0 := Lib.hid ((Below.refl w.heap.size w).alloc (Nat.le_refl _) (.cells #[.int .i64 (k.o : Int), .int .i64 (k.l : Int), .int .i64 (k.m : Int), .slice A k.ps.length c, .int .i64 (k.base : Int), .int .i64 k.lastI] 64))
  replace HU := Lib.hid HU
  replace HP := Lib.hid HP
  replace HQ := Lib.hid HQ
  have wo2 : IntKind.i64.wrap (o2 : Int) = o2 := IntWalk.i64_in _ (by omega)
  clear hval h hA hus hcs hnc hR hT hfv hF hdl hdl2 hlen hfi ho3 hbl hc hord
  go_enter Tryz.func54, Tryz.ntmps54
  go_wp2_with fail
  refine (HU.out _ hW0.out).mono ?_
  rintro e w2 ⟨A2, c2, rfl, hown2, hb2⟩
  have hal : Below w2.heap.size w2 ((w2.alloc (.cells #[.int .i64 (k.o : Int), .int .i64 (k.l : Int), .int .i64 (k.m : Int), .slice A k.ps.length c, .int .i64 (k.base : Int), .int .i64 k.lastI] 64)).setCell ⟨w2.heap.size, 0, none⟩ (.int .i64 (o2 : Int))) := ((Below.refl _ _).alloc (Nat.le_refl _) _).setCell (p := ⟨w2.heap.size, 0, none⟩) (Nat.le_refl _) _
  have kbt : KBn ((w2.alloc (.cells #[.int .i64 (k.o : Int), .int .i64 (k.l : Int), .int .i64 (k.m : Int), .slice A k.ps.length c, .int .i64 (k.base : Int), .int .i64 k.lastI] 64)).setCell ⟨w2.heap.size, 0, none⟩ (.int .i64 (o2 : Int))) w2.heap.size [.int .i64 (o2 : Int), .int .i64 (k.l : Int), .int .i64 (k.m : Int), .slice A k.ps.length c, .int .i64 (k.base : Int), .int .i64 k.lastI] := (KBn.start w2 64 [.int .i64 (k.o : Int), .int .i64 (k.l : Int), .int .i64 (k.m : Int), .slice A k.ps.length c, .int .i64 (k.base : Int), .int .i64 k.lastI]).set (j := 0) rfl (.int .i64 (o2 : Int))
  have hr4 := Lib.hid (Row.more (Row.below (Row.of_own hown2) hal (Nat.le_refl _)) hal.size)
  have hW2 := hW0.out.trans (hb2.mono hW0.out.size)
  have hW4 := Lib.hid (hW2.trans (hal.mono hW2.size))
  have kb3 := (kb0.out.below hb2).alloc (.cells #[.int .i64 (k.o : Int), .int .i64 (k.l : Int), .int .i64 (k.m : Int), .slice A k.ps.length c, .int .i64 (k.base : Int), .int .i64 k.lastI] 64)
  have kt3 := KBn.start w2 64 [.int .i64 (k.o : Int), .int .i64 (k.l : Int), .int .i64 (k.m : Int), .slice A k.ps.length c, .int .i64 (k.base : Int), .int .i64 k.lastI]
  obtain ⟨⟨q0, q1, q2, q3, q4, q5⟩, _⟩ := kb0.out.below hb2
  replace kbt := Lib.hid kbt
  replace kb3 := Lib.hid kb3
  replace kt3 := Lib.hid kt3
  clear hown2 hb2 hW0 kb0 HU hW2 hal
  go_upto_region 5 with (fail)
  obtain ⟨w3, hw3⟩ : ∃ W, w2.alloc (.cells #[.int .i64 (k.o : Int), .int .i64 (k.l : Int), .int .i64 (k.m : Int), .slice A k.ps.length c, .int .i64 (k.base : Int), .int .i64 k.lastI] 64) = W := ⟨_, rfl⟩
  have kb4 : Hid (KB w3 w.heap.size (.int .i64 (k.o : Int)) (.int .i64 (k.l : Int)) (.int .i64 (k.m : Int)) (.slice A k.ps.length c) (.int .i64 (k.base : Int)) (.int .i64 k.lastI)) := by rw [← hw3]; exact kb3
  have kt4 : Hid (KBn w3 w2.heap.size [.int .i64 (k.o : Int), .int .i64 (k.l : Int), .int .i64 (k.m : Int), .slice A k.ps.length c, .int .i64 (k.base : Int), .int .i64 k.lastI]) := by rw [← hw3]; exact kt3
  rw [hw3] at hr4 hW4 kbt ⊢
  obtain ⟨g, hg⟩ : ∃ g, w2.heap.size = g := ⟨_, rfl⟩
  rw [hg] at hr4 hW4 kbt kt4 ⊢
  clear hw3 hg q0 q1 q2 q3 q4 q5 kb3 kt3
  have s0 := kb4.out.c.1
  have x0 := kt4.out.c 0 _ rfl
  have x1 := kt4.out.f 0 _ rfl
  go_upto_region 6 with (fail)
  obtain ⟨w4, hw4⟩ : ∃ W, w3.setCell ⟨g, 0, none⟩ (.int .i64 (o2 : Int)) = W := ⟨_, rfl⟩
  rw [hw4] at hr4 hW4 kbt ⊢
  clear hw4 s0 x0 x1 kb4 kt4
  have hSX : Hid (∀ W, Below w4.heap.size w4 W → W.cell? ⟨g, 0, none⟩ = some (.int .i64 (o2 : Int)) ∧ W.cell? ⟨g, 1, none⟩ = some (.int .i64 (k.l : Int)) ∧ W.cell? ⟨g, 2, none⟩ = some (.int .i64 (k.m : Int)) ∧ W.cell? ⟨g, 3, none⟩ = some (.slice A k.ps.length c) ∧ W.cell? ⟨g, 4, none⟩ = some (.int .i64 (k.base : Int)) ∧ W.cell? ⟨g, 5, none⟩ = some (.int .i64 k.lastI)) := Lib.hid (fun W hW => by
    have kx := kbt.out.below hW
    exact ⟨kx.c 0 _ rfl, kx.c 1 _ rfl, kx.c 2 _ rfl, kx.c 3 _ rfl, kx.c 4 _ rfl, kx.c 5 _ rfl⟩)
  refine wp_region_held_tail (S := fun W => W.cell? ⟨g, 0, none⟩ = some (.int .i64 (o2 : Int)) ∧ W.cell? ⟨g, 1, none⟩ = some (.int .i64 (k.l : Int)) ∧ W.cell? ⟨g, 2, none⟩ = some (.int .i64 (k.m : Int)) ∧ W.cell? ⟨g, 3, none⟩ = some (.slice A k.ps.length c) ∧ W.cell? ⟨g, 4, none⟩ = some (.int .i64 (k.base : Int)) ∧ W.cell? ⟨g, 5, none⟩ = some (.int .i64 k.lastI)) 7 (by kernel_rfl) (by kernel_rfl) (hSX.out _ (Below.refl _ _).drew) (fun hS => ?_)
  have hb5 := Lib.hid ((Below.refl w4.heap.size w4).drew)
  have hr5 := Lib.hid (Row.more (Row.below hr4.out hb5.out (Nat.le_refl _)) hb5.out.size)
  have hW5 := Lib.hid (hW4.out.trans (hb5.out.mono hW4.out.size))
  refine heldAny_take (i := 0) (v := ?_) rfl (by kernel_rfl) (by kernel_rfl) (by kernel_rfl) (by kernel_rfl) (fun _ _ _ h => h) (Or.inl ⟨by rfl, ?_⟩) (by assumption) ?_
  rotate_left
  · (intro wS hSw; (try dsimp only at hSw); go_split_ands; go_simp; all_goals with_reducible rfl)
  try simp only [Act.put]
  refine heldAny_take (i := 1) (v := ?_) rfl (by kernel_rfl) (by kernel_rfl) (by kernel_rfl) (by kernel_rfl) (fun _ _ _ h => h) (Or.inl ⟨by rfl, ?_⟩) (by assumption) ?_
  rotate_left
  · (intro wS hSw; (try dsimp only at hSw); go_split_ands; go_simp; all_goals with_reducible rfl)
  try simp only [Act.put]
  refine heldAny_take (i := 2) (v := ?_) rfl (by kernel_rfl) (by kernel_rfl) (by kernel_rfl) (by kernel_rfl) (fun _ _ _ h => h) (Or.inl ⟨by rfl, ?_⟩) (by assumption) ?_
  rotate_left
  · (intro wS hSw; (try dsimp only at hSw); go_split_ands; go_simp; all_goals with_reducible rfl)
  try simp only [Act.put]
  refine heldAny_take (i := 3) (v := ?_) rfl (by kernel_rfl) (by kernel_rfl) (by kernel_rfl) (by kernel_rfl) (fun _ _ _ h => h) (Or.inl ⟨by rfl, ?_⟩) (by assumption) ?_
  rotate_left
  · (intro wS hSw; (try dsimp only at hSw); go_split_ands; go_simp; all_goals with_reducible rfl)
  try simp only [Act.put]
  refine heldAny_take (i := 4) (v := ?_) rfl (by kernel_rfl) (by kernel_rfl) (by kernel_rfl) (by kernel_rfl) (fun _ _ _ h => h) (Or.inl ⟨by rfl, ?_⟩) (by assumption) ?_
  rotate_left
  · (intro wS hSw; (try dsimp only at hSw); go_split_ands; go_simp; all_goals with_reducible rfl)
  try simp only [Act.put]
  refine heldAny_one (i := 5) rfl (by kernel_rfl) (by kernel_rfl) (fun K hK => ?_)
  go_simp
  go_at_call 95
  refine (HP.out _ _ _ hW5.out hr5.out).mono ?_
  rintro e w6 ⟨rfl, hb6⟩
  have hb6x := Lib.hid (hb5.out.trans (hb6.mono hb5.out.size))
  refine hK.out _ _ (hSX.out _ hb6x.out) (fun hS => ?_)
  try simp only [Act.put]
  clear hK K hb6
  refine heldAny_one (i := 6) rfl (by kernel_rfl) (by kernel_rfl) (fun K hK => ?_)
  go_simp
  go_at_call 94
  refine (HQ.out _).mono ?_
  rintro e w7 ⟨rfl, hb7⟩
  have hb7x := Lib.hid (hb6x.out.trans (hb7.mono hb6x.out.size))
  refine hK.out _ _ (hSX.out _ hb7x.out) (fun hS => ?_)
  try simp only [Act.put]
  refine heldAny_done (by kernel_rfl) ⟨by kernel_rfl, ?_⟩
  simp only [List.drop_succ_cons, List.drop_zero]
  have hfin := Lib.hid (hW4.out.trans (hb7x.out.mono hW4.out.size))
  clear hK K hb7 hS hSX hb5 hb6x hb7x kbt hr4 hr5 hW4 hW5
  go_wp2_with fail
  refine bodyPost_ret (v := .tuple #[.string R, .bool true]) (by simp [results, Tryz.results54, go_sem]) rfl ?_
  exact ⟨rfl, hfin.out⟩

theorem specStartSome (o l m : Int) (s : ByteArray) (w : World) (hs : s.size ≤ 1048576) :
    Calls Tryz.prog 52 #[.agg #[.int .i64 o, .int .i64 l, .int .i64 m], .string s] w fun e w' => ∃ (x0 x1 x2 : Int) (x3 : Option Addr × Nat × Nat) (x4 x5 : Int) (r : Bool), e = .returned (.tuple #[.agg #[.int .i64 x0, .int .i64 x1, .int .i64 x2, .slice x3.1 x3.2.1 x3.2.2, .int .i64 x4, .int .i64 x5], .bool r]) ∧ Below w.heap.size w w' := by
  by_cases h : dfits o l m s.data.toList
  · obtain ⟨on, rfl⟩ : ∃ n : Nat, o = n := ⟨o.toNat, by have := h.1.1; omega⟩
    obtain ⟨ln, rfl⟩ : ∃ n : Nat, l = n := ⟨l.toNat, by have := h.1.2.1; omega⟩
    obtain ⟨mn, rfl⟩ : ∃ n : Nat, m = n := ⟨m.toNat, by have := h.1.2; omega⟩
    refine (specStartWithYes on ln mn s.data.toList w h).mono ?_
    rintro e w' ⟨A, c, rfl, _, _, hb⟩
    exact ⟨_, _, _, (A, _, c), _, _, true, rfl, hb⟩
  · refine (specStartWithNo o l m s w hs h).mono ?_
    rintro e w' ⟨rfl, hb⟩
    exact ⟨0, 0, 0, (none, 0, 0), 0, 0, false, rfl, hb⟩

set_option maxHeartbeats 2000000 in
theorem specTurnContainer (o l m : Int) (d s : ByteArray) (w : World) (hd : d.size ≤ 1048576) (hs : s.size ≤ 1048576) :
    Calls Tryz.prog 18 #[.agg #[.int .i64 o, .int .i64 l, .int .i64 m], .string d, .string s] w fun e w' => e = .returned (optV (turnC o l m d.data.toList (contB s))) ∧ Below w.heap.size w w' := by
  have hW0 := Lib.hid ((Below.refl w.heap.size w).alloc (Nat.le_refl _) (.cells #[.int .i64 o, .int .i64 l, .int .i64 m] 26))
  have kb0 := Lib.hid (KBn.start w 26 [.int .i64 o, .int .i64 l, .int .i64 m])
  rcases hbs : contB s with _ | bs
  · have HS := Lib.hid (fun W => specL5BlocksNo s W hs hbs)
    have HW := Lib.hid (fun W => specStartSome o l m d W hd)
    rw [turnC_no (Or.inr rfl)]
    clear hbs
    go_enter Tryz.func18, Tryz.ntmps18
    go_wp2_with fail
    refine (HS.out _).mono ?_
    rintro e w1 ⟨A1, c1, rfl, _, hb1⟩
    have hW1 := Lib.hid (hW0.out.trans (hb1.mono hW0.out.size))
    have kb1 := kb0.out.below hb1
    clear hb1 hW0 kb0
    have q0 := kb1.c 0 _ rfl
    have q1 := kb1.c 1 _ rfl
    have q2 := kb1.c 2 _ rfl
    clear kb1
    go_wp2_with fail
    refine (HW.out _).mono ?_
    rintro e w2 ⟨x0, x1, x2, ⟨x3, y3, z3⟩, x4, x5, r, rfl, hb2⟩
    have hW2 := Lib.hid ((hW1.out.trans (hb2.mono hW1.out.size)).alloc (hW1.out.trans (hb2.mono hW1.out.size)).size (.cells #[.int .i64 x0, .int .i64 x1, .int .i64 x2, .slice x3 y3 z3, .int .i64 x4, .int .i64 x5] 64))
    clear hb2 hW1 q0 q1 q2
    go_wp2_with fail
    go_ret2
    exact ⟨rfl, hW2.out⟩
  · obtain ⟨n, hn⟩ : ∃ n, bs.length = n := ⟨_, rfl⟩
    have HS := Lib.hid (fun W => specL5BlocksYes s bs n W hs hbs hn)
    have hnum := contB_numbered hbs
    have hn40 := hnum.length
    rw [hn] at hn40
    have hok : ∀ b ∈ bs, b.okb := fun b hb => Blk.okb_of (hnum.of_mem hb)
    by_cases hf : dfits o l m d.data.toList
    · obtain ⟨on, rfl⟩ : ∃ n : Nat, o = n := ⟨o.toNat, by have := hf.1.1; omega⟩
      obtain ⟨ln, rfl⟩ : ∃ n : Nat, l = n := ⟨l.toNat, by have := hf.1.2.1; omega⟩
      obtain ⟨mn, rfl⟩ : ∃ n : Nat, m = n := ⟨m.toNat, by have := hf.1.2; omega⟩
      have HW := fun W => specStartWithYes on ln mn d.data.toList W hf
      have HD := fun (b : Blk) (hb : b.okb) W => specL5Data on ln mn d.data.toList b W hf hb
      have hbd : bsL d.data.toList = d := rfl
      simp only [hbd] at HW HD
      have hfr := (Kn.dict_fresh hf).1
      rw [turnC_yes hf]
      have hkd : kdict on ln mn d.data.toList = Kn.dict on ln mn d.data.toList := rfl
      rw [hkd]
      obtain ⟨k, hk⟩ : ∃ k, Kn.dict on ln mn d.data.toList = k := ⟨_, rfl⟩
      rw [hk] at HW hfr ⊢
      simp only [hk] at HD
      have HR := fun (A : Option Addr) (c B : Nat) (b : Blk) (W : World) (hb : b.okb) (hA : k.At W B A) (hB : B ≤ W.heap.size) (hc : k.ps.length ≤ c) (hfi : (k.unpack b.body.data.toList).fin = 0) => specRepack k A c B b.body.data.toList W hfr hA hB hc (by have := Blk.okb_body hb; simp; omega) hfi
      have hval := Kn.val_eq k
      simp only [hval] at HW HR
      have hL := Lib.hid (fun bs' cs h1 h2 => turnL_some hfr.val bs' cs h1 h2)
      replace HW := Lib.hid HW
      replace HD := Lib.hid HD
      replace HR := Lib.hid HR
      replace hok := Lib.hid hok
      have hn' := Lib.hid hn
      clear hk hkd hbd hval hf hfr hbs hnum hn
      go_enter Tryz.func18, Tryz.ntmps18
      go_wp2_with fail
      refine (HS.out _).mono ?_
      rintro e w1 ⟨Ab, cb, rfl, ho1, hb1⟩
      have hW1 := Lib.hid (hW0.out.trans (hb1.mono hW0.out.size))
      have kb1 := Lib.hid (kb0.out.below hb1)
      replace ho1 := Lib.hid ho1
      clear hb1 kb0
      have q0 := kb1.out.c 0 _ rfl
      have q1 := kb1.out.c 1 _ rfl
      have q2 := kb1.out.c 2 _ rfl
      go_wp2_with fail
      refine (HW.out _).mono ?_
      rintro e w2 ⟨Ak, ck, rfl, hnew, hcp, hb2⟩
      have hM0 : TuM k [.int .i64 (on : Int), .int .i64 (ln : Int), .int .i64 (mn : Int)] w w.heap.size w2.heap.size Ak ck Ab n cb bs (w2.alloc (.cells #[.int .i64 (k.o : Int), .int .i64 (k.l : Int), .int .i64 (k.m : Int), .slice Ak k.ps.length ck, .int .i64 (k.base : Int), .int .i64 k.lastI] 64)) := by
        have hal := (Below.refl w2.heap.size w2).alloc (Nat.le_refl _) (.cells #[.int .i64 (k.o : Int), .int .i64 (k.l : Int), .int .i64 (k.m : Int), .slice Ak k.ps.length ck, .int .i64 (k.base : Int), .int .i64 k.lastI] 64)
        have h1 := ho1.out.lt
        have h2 := hb2.size
        refine ⟨(kb1.out.below hb2).below hal, KBn.start w2 64 [.int .i64 (k.o : Int), .int .i64 (k.l : Int), .int .i64 (k.m : Int), .slice Ak k.ps.length ck, .int .i64 (k.base : Int), .int .i64 k.lastI], (hnew.below hal).row, fun hn b off e e2 => ?_, own_base (own_below (own_below ho1.out hb2 (Nat.le_refl _)) hal (Nat.le_refl _)) ?_, fun e => ?_, (hW1.out.trans (hb2.mono hW1.out.size)).trans (hal.mono (by have := hW1.out.size; omega))⟩
        · have h3 := hnew.new hn b off e
          have h4 := (h1 b e2).2
          omega
        · rw [World.size_alloc]; exact Nat.le_refl _
        · have h4 := (h1 _ e).2
          omega
      replace hM0 := Lib.hid hM0
      clear hb2 hnew ho1 kb1 hW1 hW0 q0 q1 q2 HW HS
      go_upto_region 5 with (fail)
      obtain ⟨G, hG⟩ : ∃ G, w2.heap.size = G := ⟨_, rfl⟩
      obtain ⟨w3, hw3⟩ : ∃ W, w2.alloc (.cells #[.int .i64 (k.o : Int), .int .i64 (k.l : Int), .int .i64 (k.m : Int), .slice Ak k.ps.length ck, .int .i64 (k.base : Int), .int .i64 k.lastI] 64) = W := ⟨_, rfl⟩
      rw [hw3] at hM0 ⊢
      rw [hG] at hM0 ⊢
      clear hw3 hG
      go_wp2_with fail
      go_loopw [12] (fun i wr => ∃ (j : Nat) (cs : List Blk), j ≤ n ∧ i = .int .i64 (j : Int) ∧ Hid (k.turnL (bs.take j) = some cs) ∧ Hid (TuM k [.int .i64 (on : Int), .int .i64 (ln : Int), .int .i64 (mn : Int)] w w.heap.size G Ak ck Ab n cb (cs ++ bs.drop j) wr)) (fun i _ => n - (intOf i).toNat)
      case atStart => exact ⟨0, [], Nat.zero_le _, rfl, Lib.hid rfl, hM0⟩
      case round =>
        obtain ⟨j, cs, hj, rfl, hT, hM⟩ := hrel
        clear hM0
        by_cases hlt : j < n
        · obtain ⟨b, hb⟩ : ∃ b, bs[j]? = some b := ⟨_, List.getElem?_eq_getElem (by rw [hn'.out]; exact hlt)⟩
          have hob := hok.out b (List.mem_of_getElem? hb)
          have hcl : cs.length = j := by
            have h1 := (hL.out (bs.take j) cs (fun b hb => hok.out b (List.mem_of_mem_take hb)) hT.out).1
            rw [h1, List.length_take, hn'.out]; omega
          obtain ⟨r1, r2, r3⟩ := rows_next (c := b) hcl hb
          have hj0 : (0 : Int) ≤ j := by omega
          have hji : (j : Int) < n := by omega
          rcases hraw : b.raw with _ | _
          · obtain ⟨g, rfl, hgG, hgH, hgl, p0, p1, p2, p3, _⟩ := hM.out.blk r1 hlt
            rw [hraw] at p1
            have hbv : b.val = .agg #[.int .i64 b.num, .bool b.raw, .int .i64 b.size, .string b.body] := rfl
            rw [hraw] at hbv
            have hkb := fun W => HD.out b hob W
            rw [hbv] at hkb
            have hRp := fun (W : World) (M : TuM k [.int .i64 (on : Int), .int .i64 (ln : Int), .int .i64 (mn : Int)] w w.heap.size G Ak ck (some ⟨g, 0, none⟩) n cb (cs ++ bs.drop j) W) (e : List UInt8) (h : k.blockData b = some e) => HR.out Ak ck W.heap.size b W hob M.at_ (Nat.le_refl _) hcp (blockData_fin hraw h)
            have hbb : bsL b.body.data.toList = b.body := rfl
            simp only [hbb] at hRp
            have hno : Hid (k.blockData b = none → k.turnL bs = none) := Lib.hid (fun h2 => turnL_none hb (by unfold Kn.turnB; rw [hraw, h2]; rfl))
            have hyes : Hid (∀ e, k.blockData b = some e → k.turnL (bs.take (j + 1)) = some (cs ++ [{ b with body := bsL (packL k.flip.o (k.flip.bits (k.unpack b.body.data.toList).codes)) }])) := Lib.hid (fun e h2 => turnL_take hb hT.out (by unfold Kn.turnB; rw [hraw, h2]; rfl))
            have hput : Hid (∀ (W : World) (x : ByteArray), TuM k [.int .i64 (on : Int), .int .i64 (ln : Int), .int .i64 (mn : Int)] w w.heap.size G Ak ck (some ⟨g, 0, none⟩) n cb (cs ++ bs.drop j) W → TuM k [.int .i64 (on : Int), .int .i64 (ln : Int), .int .i64 (mn : Int)] w w.heap.size G Ak ck (some ⟨g, 0, none⟩) n cb ((cs ++ [{ b with body := x }]) ++ bs.drop (j + 1)) (W.setCell ⟨g, j * 4 + 3, none⟩ (.string x))) := Lib.hid (fun W x M => by
              have := M.put rfl r1 x
              rw [(rows_next (c := { b with body := x }) hcl hb).2.1] at this
              exact this)
            have hblk : Hid (∀ W, TuM k [.int .i64 (on : Int), .int .i64 (ln : Int), .int .i64 (mn : Int)] w w.heap.size G Ak ck (some ⟨g, 0, none⟩) n cb (cs ++ bs.drop j) W → W.cell? ⟨g, j * 4 + 3, none⟩ = some (.string b.body) ∧ W.frozen? ⟨g, j * 4 + 3, none⟩ = false) := Lib.hid (fun W M => by
              obtain ⟨g2, e2, _, _, _, _, _, _, c3, f3⟩ := M.blk r1 hlt
              injection e2 with e2
              injection e2 with e2
              subst e2
              exact ⟨c3, f3⟩)
            obtain ⟨T2, hT2⟩ : ∃ x, bsL (packL k.flip.o (k.flip.bits (k.unpack b.body.data.toList).codes)) = x := ⟨_, rfl⟩
            rw [hT2] at hyes
            simp only [hT2] at hRp
            have hSX : Hid (∀ W, Below wr.heap.size wr W → W.cell? ⟨w.heap.size, 0, none⟩ = some (.int .i64 (on : Int)) ∧ W.cell? ⟨w.heap.size, 1, none⟩ = some (.int .i64 (ln : Int)) ∧ W.cell? ⟨w.heap.size, 2, none⟩ = some (.int .i64 (mn : Int)) ∧ W.cell? ⟨g, j * 4, none⟩ = some (.int .i64 (b.num : Int)) ∧ W.cell? ⟨g, j * 4 + 1, none⟩ = some (.bool false) ∧ W.cell? ⟨g, j * 4 + 2, none⟩ = some (.int .i64 (b.size : Int)) ∧ W.cell? ⟨g, j * 4 + 3, none⟩ = some (.string b.body)) := Lib.hid (fun W hW => by
              have k1 := hM.out.set.below hW
              exact ⟨k1.c 0 _ rfl, k1.c 1 _ rfl, k1.c 2 _ rfl, (hW.cell (by show g < _; omega)).trans p0, (hW.cell (by show g < _; omega)).trans p1, (hW.cell (by show g < _; omega)).trans p2, (hW.cell (by show g < _; omega)).trans p3⟩)
            obtain ⟨x0, hx0⟩ : ∃ x : Nat, b.num = x := ⟨_, rfl⟩
            obtain ⟨x2, hx2⟩ : ∃ x : Nat, b.size = x := ⟨_, rfl⟩
            obtain ⟨x3, hx3⟩ : ∃ x, b.body = x := ⟨_, rfl⟩
            simp only [hx0, hx2, hx3] at hkb hSX p0 p2 p3 hblk hRp
            obtain ⟨R, hR⟩ : ∃ R, bsL ((k.blockData b).getD []) = R := ⟨_, rfl⟩
            obtain ⟨sb, hsb⟩ : ∃ sb, (k.blockData b).isSome = sb := ⟨_, rfl⟩
            simp only [hR, hsb] at hkb
            obtain ⟨bo, hbo⟩ : ∃ x, k.blockData b = x := ⟨_, rfl⟩
            rw [hbo] at hsb hno hyes
            simp only [hbo] at hRp
            replace hkb := Lib.hid hkb
            replace hRp := Lib.hid hRp
            clear hbv hbb hraw hb hob hbo hcl r1 r2 r3 hx0 hx2 hx3 hT2 hR
            go_upto_region 9 with (fail)
            clear p0 p1 p2 p3
            refine wp_region_held_tail (S := fun W => W.cell? ⟨w.heap.size, 0, none⟩ = some (.int .i64 (on : Int)) ∧ W.cell? ⟨w.heap.size, 1, none⟩ = some (.int .i64 (ln : Int)) ∧ W.cell? ⟨w.heap.size, 2, none⟩ = some (.int .i64 (mn : Int)) ∧ W.cell? ⟨g, j * 4, none⟩ = some (.int .i64 (x0 : Int)) ∧ W.cell? ⟨g, j * 4 + 1, none⟩ = some (.bool false) ∧ W.cell? ⟨g, j * 4 + 2, none⟩ = some (.int .i64 (x2 : Int)) ∧ W.cell? ⟨g, j * 4 + 3, none⟩ = some (.string x3)) 11 (by kernel_rfl) (by kernel_rfl) (hSX.out _ (Below.refl _ _).drew) (fun hS => ?_)
            have hb5 := Lib.hid ((Below.refl wr.heap.size wr).drew)
            refine heldAny_take (i := 0) (v := ?_) rfl (by kernel_rfl) (by kernel_rfl) (by kernel_rfl) (by kernel_rfl) (fun _ _ _ h => h) (Or.inl ⟨by rfl, ?_⟩) (by assumption) ?_
            rotate_left
            · (intro wS hSw; (try dsimp only at hSw); go_split_ands; go_simp; all_goals with_reducible rfl)
            try simp only [Act.put]
            refine heldAny_take (i := 1) (v := ?_) rfl (by kernel_rfl) (by kernel_rfl) (by kernel_rfl) (by kernel_rfl) (fun _ _ _ h => h) (Or.inl ⟨by rfl, ?_⟩) (by assumption) ?_
            rotate_left
            · (intro wS hSw; (try dsimp only at hSw); go_split_ands; go_simp; all_goals with_reducible rfl)
            try simp only [Act.put]
            refine heldAny_take (i := 2) (v := ?_) rfl (by kernel_rfl) (by kernel_rfl) (by kernel_rfl) (by kernel_rfl) (fun _ _ _ h => h) (Or.inl ⟨by rfl, ?_⟩) (by assumption) ?_
            rotate_left
            · (intro wS hSw; (try dsimp only at hSw); go_split_ands; go_simp; all_goals with_reducible rfl)
            try simp only [Act.put]
            refine heldAny_take (i := 3) (v := ?_) rfl (by kernel_rfl) (by kernel_rfl) (by kernel_rfl) (by kernel_rfl) (fun _ _ _ h => h) (Or.inl ⟨by rfl, ?_⟩) (by assumption) ?_
            rotate_left
            · (intro wS hSw; (try dsimp only at hSw); go_split_ands; go_simp; all_goals with_reducible rfl)
            try simp only [Act.put]
            refine heldAny_take (i := 4) (v := ?_) rfl (by kernel_rfl) (by kernel_rfl) (by kernel_rfl) (by kernel_rfl) (fun _ _ _ h => h) (Or.inl ⟨by rfl, ?_⟩) (by assumption) ?_
            rotate_left
            · (intro wS hSw; (try dsimp only at hSw); go_split_ands; go_simp; all_goals with_reducible rfl)
            try simp only [Act.put]
            refine heldAny_take (i := 5) (v := ?_) rfl (by kernel_rfl) (by kernel_rfl) (by kernel_rfl) (by kernel_rfl) (fun _ _ _ h => h) (Or.inl ⟨by rfl, ?_⟩) (by assumption) ?_
            rotate_left
            · (intro wS hSw; (try dsimp only at hSw); go_split_ands; go_simp; all_goals with_reducible rfl)
            try simp only [Act.put]
            refine heldAny_one (i := 6) rfl (by kernel_rfl) (by kernel_rfl) (fun K hK => ?_)
            go_simp
            go_at_call 53
            refine (hkb.out _).mono ?_
            rintro e w6 ⟨rfl, hb6⟩
            have hb6x := Lib.hid (hb5.out.trans (hb6.mono hb5.out.size))
            refine hK.out _ _ (hSX.out _ hb6x.out) (fun hS => ?_)
            try simp only [Act.put]
            refine heldAny_take (i := 7) (v := ?_) rfl (by kernel_rfl) (by kernel_rfl) (by kernel_rfl) (by kernel_rfl) (fun _ _ _ h => h) (Or.inl ⟨by rfl, ?_⟩) (by assumption) ?_
            rotate_left
            · (intro wS hSw; (try dsimp only at hSw); go_split_ands; go_simp; all_goals with_reducible rfl)
            try simp only [Act.put]
            refine heldAny_take (i := 8) (v := ?_) rfl (by kernel_rfl) (by kernel_rfl) (by kernel_rfl) (by kernel_rfl) (fun _ _ _ h => h) (Or.inl ⟨by rfl, ?_⟩) (by assumption) ?_
            rotate_left
            · (intro wS hSw; (try dsimp only at hSw); go_split_ands; go_simp; all_goals with_reducible rfl)
            try simp only [Act.put]
            refine heldAny_take (i := 9) (v := ?_) rfl (by kernel_rfl) (by kernel_rfl) (by kernel_rfl) (by kernel_rfl) (fun _ _ _ h => h) (Or.inl ⟨by rfl, ?_⟩) (by assumption) ?_
            rotate_left
            · (intro wS hSw; (try dsimp only at hSw); go_split_ands; go_simp; all_goals with_reducible rfl)
            try simp only [Act.put]
            refine heldAny_take (i := 10) (v := ?_) rfl (by kernel_rfl) (by kernel_rfl) (by kernel_rfl) (by kernel_rfl) (fun _ _ _ h => h) (Or.inl ⟨by rfl, ?_⟩) (by assumption) ?_
            rotate_left
            · (intro wS hSw; (try dsimp only at hSw); go_split_ands; go_simp; all_goals with_reducible rfl)
            try simp only [Act.put]
            refine heldAny_done (by kernel_rfl) ⟨by kernel_rfl, ?_⟩
            simp only [List.drop_succ_cons, List.drop_zero]
            have M6 := Lib.hid (hM.out.below hb6x.out)
            clear hK K hb6 hb6x hb5 hSX hS hkb hM
            rcases bo with _ | e
            · obtain rfl : sb = false := hsb.symm
              have hn2 := Lib.hid (hno.out rfl)
              clear hno hyes hput hblk hRp
              go_wp2_with fail
              refine bodyPost_ret (v := .tuple #[.string ⟨#[]⟩, .bool false]) (by simp [results, Tryz.results18, go_sem]) rfl ?_
              exact ⟨by rw [hn2.out]; rfl, M6.out.bel⟩
            · obtain rfl : sb = true := hsb.symm
              have hT' := Lib.hid (hyes.out e rfl)
              have hR6 := Lib.hid (fun W M => hRp.out W M e rfl)
              clear hno hyes hRp
              go_upto_region 12 with (fail)
              have hSK : Hid (∀ W, TuM k [.int .i64 (on : Int), .int .i64 (ln : Int), .int .i64 (mn : Int)] w w.heap.size G Ak ck (some ⟨g, 0, none⟩) n cb (cs ++ bs.drop j) W → W.cell? ⟨G, 0, none⟩ = some (.int .i64 (k.o : Int)) ∧ W.cell? ⟨G, 1, none⟩ = some (.int .i64 (k.l : Int)) ∧ W.cell? ⟨G, 2, none⟩ = some (.int .i64 (k.m : Int)) ∧ W.cell? ⟨G, 3, none⟩ = some (.slice Ak k.ps.length ck) ∧ W.cell? ⟨G, 4, none⟩ = some (.int .i64 (k.base : Int)) ∧ W.cell? ⟨G, 5, none⟩ = some (.int .i64 k.lastI)) := Lib.hid (fun W M => ⟨M.kb.c 0 _ rfl, M.kb.c 1 _ rfl, M.kb.c 2 _ rfl, M.kb.c 3 _ rfl, M.kb.c 4 _ rfl, M.kb.c 5 _ rfl⟩)
              have M7 := Lib.hid (M6.out.below (Below.refl _ _).drew)
              have hSP : Hid (∀ W x, TuM k [.int .i64 (on : Int), .int .i64 (ln : Int), .int .i64 (mn : Int)] w w.heap.size G Ak ck (some ⟨g, 0, none⟩) n cb (cs ++ bs.drop j) W → (fun W => W.cell? ⟨G, 0, none⟩ = some (.int .i64 (k.o : Int)) ∧ W.cell? ⟨G, 1, none⟩ = some (.int .i64 (k.l : Int)) ∧ W.cell? ⟨G, 2, none⟩ = some (.int .i64 (k.m : Int)) ∧ W.cell? ⟨G, 3, none⟩ = some (.slice Ak k.ps.length ck) ∧ W.cell? ⟨G, 4, none⟩ = some (.int .i64 (k.base : Int)) ∧ W.cell? ⟨G, 5, none⟩ = some (.int .i64 k.lastI)) (W.setCell ⟨g, j * 4 + 3, none⟩ (.string x))) := Lib.hid (fun W x M => by
                have kx := (hput.out W x M).kb
                exact ⟨kx.c 0 _ rfl, kx.c 1 _ rfl, kx.c 2 _ rfl, kx.c 3 _ rfl, kx.c 4 _ rfl, kx.c 5 _ rfl⟩)
              refine wp_region_held_tail (S := fun W => W.cell? ⟨G, 0, none⟩ = some (.int .i64 (k.o : Int)) ∧ W.cell? ⟨G, 1, none⟩ = some (.int .i64 (k.l : Int)) ∧ W.cell? ⟨G, 2, none⟩ = some (.int .i64 (k.m : Int)) ∧ W.cell? ⟨G, 3, none⟩ = some (.slice Ak k.ps.length ck) ∧ W.cell? ⟨G, 4, none⟩ = some (.int .i64 (k.base : Int)) ∧ W.cell? ⟨G, 5, none⟩ = some (.int .i64 k.lastI)) 15 (by kernel_rfl) (by kernel_rfl) (hSK.out _ M7.out) (fun hS => ?_)
              refine heldAny_take2 (i := 0) (v := ?_) rfl (by kernel_rfl) (by kernel_rfl) (by kernel_rfl) (by kernel_rfl) (fun _ _ _ h => h) (Or.inl ⟨by rfl, ?_⟩) (by assumption) ?_
              rotate_left
              · (intro wS hSw; (try dsimp only at hSw); go_split_ands; go_simp; all_goals with_reducible rfl)
              try simp only [Act.put]
              refine heldAny_take2 (i := 1) (v := ?_) rfl (by kernel_rfl) (by kernel_rfl) (by kernel_rfl) (by kernel_rfl) (fun _ _ _ h => h) (Or.inl ⟨by rfl, ?_⟩) (by assumption) ?_
              rotate_left
              · (intro wS hSw; (try dsimp only at hSw); go_split_ands; go_simp; all_goals with_reducible rfl)
              try simp only [Act.put]
              refine heldAny_take2 (i := 2) (v := ?_) rfl (by kernel_rfl) (by kernel_rfl) (by kernel_rfl) (by kernel_rfl) (fun _ _ _ h => h) (Or.inl ⟨by rfl, ?_⟩) (by assumption) ?_
              rotate_left
              · (intro wS hSw; (try dsimp only at hSw); go_split_ands; go_simp; all_goals with_reducible rfl)
              try simp only [Act.put]
              refine heldAny_take2 (i := 3) (v := ?_) rfl (by kernel_rfl) (by kernel_rfl) (by kernel_rfl) (by kernel_rfl) (fun _ _ _ h => h) (Or.inl ⟨by rfl, ?_⟩) (by assumption) ?_
              rotate_left
              · (intro wS hSw; (try dsimp only at hSw); go_split_ands; go_simp; all_goals with_reducible rfl)
              try simp only [Act.put]
              refine heldAny_take2 (i := 4) (v := ?_) rfl (by kernel_rfl) (by kernel_rfl) (by kernel_rfl) (by kernel_rfl) (fun _ _ _ h => h) (Or.inl ⟨by rfl, ?_⟩) (by assumption) ?_
              rotate_left
              · (intro wS hSw; (try dsimp only at hSw); go_split_ands; go_simp; all_goals with_reducible rfl)
              try simp only [Act.put]
              refine heldAny_take2 (i := 5) (v := ?_) rfl (by kernel_rfl) (by kernel_rfl) (by kernel_rfl) (by kernel_rfl) (fun _ _ _ h => h) (Or.inl ⟨by rfl, ?_⟩) (by assumption) ?_
              rotate_left
              · (intro wS hSw; (try dsimp only at hSw); go_split_ands; go_simp; all_goals with_reducible rfl)
              try simp only [Act.put]
              refine heldAny_take2 (i := 6) (v := ?_) rfl (by kernel_rfl) (by kernel_rfl) (by kernel_rfl) (by kernel_rfl) (fun _ _ _ h => h) (Or.inl ⟨by rfl, ?_⟩) (by assumption) ?_
              rotate_left
              · (intro wS hSw; (try dsimp only at hSw); go_split_ands; go_simp; all_goals with_reducible rfl)
              try simp only [Act.put]
              obtain ⟨u3, _⟩ := hblk.out _ M6.out
              refine heldAny_one (i := 7) rfl (by kernel_rfl) (by kernel_rfl) (fun K hK => ?_)
              go_simp
              refine hK.out _ _ hS (fun hS => ?_)
              try simp only [Act.put]
              clear hK K u3
              refine heldAny_one (i := 8) rfl (by kernel_rfl) (by kernel_rfl) (fun K hK => ?_)
              go_simp
              go_at_call 54
              refine (hR6.out _ M7.out).mono ?_
              rintro e8 w8 ⟨rfl, hb8⟩
              have M8 := Lib.hid (M7.out.below hb8)
              refine hK.out _ _ (hSK.out _ M8.out) (fun hS => ?_)
              try simp only [Act.put]
              clear hK K hb8
              refine heldAny_take2 (i := 9) (v := ?_) rfl (by kernel_rfl) (by kernel_rfl) (by kernel_rfl) (by kernel_rfl) (fun _ _ _ h => h) (Or.inl ⟨by rfl, ?_⟩) (by assumption) ?_
              rotate_left
              · (intro wS hSw; (try dsimp only at hSw); go_split_ands; go_simp; all_goals with_reducible rfl)
              try simp only [Act.put]
              refine heldAny_take2 (i := 10) (v := ?_) rfl (by kernel_rfl) (by kernel_rfl) (by kernel_rfl) (by kernel_rfl) (fun _ _ _ h => h) (Or.inl ⟨by rfl, ?_⟩) (by assumption) ?_
              rotate_left
              · (intro wS hSw; (try dsimp only at hSw); go_split_ands; go_simp; all_goals with_reducible rfl)
              try simp only [Act.put]
              refine heldAny_take2 (i := 11) (v := ?_) rfl (by kernel_rfl) (by kernel_rfl) (by kernel_rfl) (by kernel_rfl) (fun _ _ _ h => h) (Or.inl ⟨by rfl, ?_⟩) (by assumption) ?_
              rotate_left
              · (intro wS hSw; (try dsimp only at hSw); go_split_ands; go_simp; all_goals with_reducible rfl)
              try simp only [Act.put]
              refine heldAny_take2 (i := 12) (v := ?_) rfl (by kernel_rfl) (by kernel_rfl) (by kernel_rfl) (by kernel_rfl) (fun _ _ _ h => h) (Or.inl ⟨by rfl, ?_⟩) (by assumption) ?_
              rotate_left
              · (intro wS hSw; (try dsimp only at hSw); go_split_ands; go_simp; all_goals with_reducible rfl)
              try simp only [Act.put]
              refine heldAny_take2 (i := 13) (v := ?_) rfl (by kernel_rfl) (by kernel_rfl) (by kernel_rfl) (by kernel_rfl) (fun _ _ _ h => h) (Or.inl ⟨by rfl, ?_⟩) (by assumption) ?_
              rotate_left
              · (intro wS hSw; (try dsimp only at hSw); go_split_ands; go_simp; all_goals with_reducible rfl)
              try simp only [Act.put]
              obtain ⟨u3, f3⟩ := hblk.out _ M8.out
              refine heldAny_one (i := 14) rfl (by kernel_rfl) (by kernel_rfl) (fun K hK => ?_)
              go_simp
              refine hK.out _ _ (hSP.out _ _ M8.out) (fun hS => ?_)
              try simp only [Act.put]
              refine heldAny_done (by kernel_rfl) ⟨by kernel_rfl, ?_⟩
              simp only [List.drop_succ_cons, List.drop_zero]
              have M9 := Lib.hid (hput.out _ T2 M8.out)
              clear hK K u3 f3 hS M8 M7 M6 hSK hSP hput hblk hR6
              go_wp2_with fail
              go_roundw
              case rel => exact ⟨j + 1, _, by omega, by go_num, hT', M9⟩
              case measure => simp [intOf]; omega
          · obtain ⟨g, rfl, hgG, hgH, hgl, p0, p1, p2, p3, _⟩ := hM.out.blk r1 hlt
            rw [hraw] at p1
            have hT' := Lib.hid (turnL_take hb hT.out (show k.turnB b = some b by unfold Kn.turnB; rw [hraw]; rfl))
            have hM' : Hid (TuM k [.int .i64 (on : Int), .int .i64 (ln : Int), .int .i64 (mn : Int)] w w.heap.size G Ak ck (some ⟨g, 0, none⟩) n cb ((cs ++ [b]) ++ bs.drop (j + 1)) wr) := Lib.hid (by rw [← r3]; exact hM.out)
            clear hb hob hcl r1 r2 r3 hraw p0 p2 p3
            go_wp2_with fail
            go_roundw
            case rel => exact ⟨j + 1, _, by omega, by go_num, hT', hM'⟩
            case measure => simp [intOf]; omega
        · obtain rfl : j = n := by omega
          have hTn : k.turnL bs = some cs := by rw [← hT.out, List.take_of_length_le (by rw [hn'.out]; exact Nat.le_refl _)]
          have hcf := hL.out bs cs hok.out hTn
          have hMn : TuM k [.int .i64 (on : Int), .int .i64 (ln : Int), .int .i64 (mn : Int)] w w.heap.size G Ak ck Ab j cb cs wr := by
            have := hM.out
            rw [List.drop_of_length_le (by rw [hn'.out]; exact Nat.le_refl _), List.append_nil] at this
            exact this
          have hX := Lib.hid (specL6Texts Ab j cb wr.heap.size cs wr (Row.of_own hMn.own) (Nat.le_refl _) (by omega) hcf.2.2)
          have hTn' := Lib.hid hTn
          have hbl := Lib.hid hMn.bel
          clear hcf hMn hTn
          go_wp2_with fail
          refine hX.out.mono ?_
          rintro e w9 ⟨rfl, hb9⟩
          have hW9 := Lib.hid (hbl.out.trans (hb9.mono hbl.out.size))
          clear hb9 hX hbl
          go_wp2_with fail
          refine bodyPost_ret (v := .tuple #[.string (textsFrom 0 cs), .bool true]) (by simp [results, Tryz.results18, go_sem]) rfl ?_
          exact ⟨by rw [hTn'.out]; rfl, hW9.out⟩
    · have HW := Lib.hid (fun W => specStartWithNo o l m d W hd hf)
      rw [turnC_no (Or.inl hf)]
      clear hbs hf hok hnum hn hn40
      go_enter Tryz.func18, Tryz.ntmps18
      go_wp2_with fail
      refine (HS.out _).mono ?_
      rintro e w1 ⟨A1, c1, rfl, _, hb1⟩
      have hW1 := Lib.hid (hW0.out.trans (hb1.mono hW0.out.size))
      have kb1 := kb0.out.below hb1
      clear hb1 hW0 kb0
      have q0 := kb1.c 0 _ rfl
      have q1 := kb1.c 1 _ rfl
      have q2 := kb1.c 2 _ rfl
      clear kb1
      go_wp2_with fail
      refine (HW.out _).mono ?_
      rintro e w2 ⟨rfl, hb2⟩
      have hW2 := Lib.hid ((hW1.out.trans (hb2.mono hW1.out.size)).alloc (hW1.out.trans (hb2.mono hW1.out.size)).size (.cells #[.int .i64 0, .int .i64 0, .int .i64 0, .slice none 0 0, .int .i64 0, .int .i64 0] 64))
      clear hb2 hW1 q0 q1 q2
      go_wp2_with fail
      go_ret2
      exact ⟨rfl, hW2.out⟩

theorem implTurnContainerX (o l m : Int) (d s : ByteArray) (w : World) (hd : d.size ≤ 1048576) (hs : s.size ≤ 1048576) :
    Calls Tryz.prog 19 #[.agg #[.int .i64 o, .int .i64 l, .int .i64 m], .string d, .string s] w fun e w' => e = .returned (optV (turnC o l m d.data.toList (contB s))) ∧ Below w.heap.size w w' := implTurnContainer o l m d s w hd hs

theorem specTurnContainerX (o l m : Int) (d s : ByteArray) (w : World) (hd : d.size ≤ 1048576) (hs : s.size ≤ 1048576) :
    Calls Tryz.prog 18 #[.agg #[.int .i64 o, .int .i64 l, .int .i64 m], .string d, .string s] w fun e w' => e = .returned (optV (turnC o l m d.data.toList (contB s))) ∧ Below w.heap.size w w' := specTurnContainer o l m d s w hd hs

set_option maxHeartbeats 2000000 in
theorem lawFnExactTurnContainer (o : Int) (ho0 : (Lit.int .i64 o).wf = true) (l : Int) (hl0 : (Lit.int .i64 l).wf = true) (m : Int) (hm0 : (Lit.int .i64 m).wf = true) (x1 : ByteArray) (hx10 : x1.size ≤ maxLen) (x2 : ByteArray) (hx20 : x2.size ≤ maxLen) (w : World) :
    Calls Tryz.prog 4 #[.agg #[.int .i64 o, .int .i64 l, .int .i64 m], .string x1, .string x2] w fun e w' => e = .returned (.bool true) ∧ Below w.heap.size w w' := by
  unfold maxLen at hx10 hx20
  clear ho0 hl0 hm0 
  have hW0 := Lib.hid ((Below.refl w.heap.size w).alloc (Nat.le_refl _) (.cells #[.int .i64 o, .int .i64 l, .int .i64 m] 23))
  have kb0 := Lib.hid (KBn.start w 23 [.int .i64 o, .int .i64 l, .int .i64 m])
  by_cases hx1 : x1.size ≤ 1048576
  · have gx1 := decide_eq_false (p := (1048576 : Int) < x1.size) (by omega)
    have gx12 := decide_eq_false (p := 1048576 < x1.size) (by omega)
    by_cases hx2 : x2.size ≤ 1048576
    · have gx2 := decide_eq_false (p := (1048576 : Int) < x2.size) (by omega)
      have gx22 := decide_eq_false (p := 1048576 < x2.size) (by omega)
      have HT := Lib.hid (fun W => lawsToSetting o l m W)
      have HS := fun W => specTurnContainerX o l m x1 x2 W hx1 hx2
      have HI := fun W => implTurnContainerX o l m x1 x2 W hx1 hx2
      obtain ⟨R, hR⟩ : ∃ R, (turnC o l m x1.data.toList (contB x2)) = R := ⟨_, rfl⟩
      rw [hR] at HS HI
      obtain ⟨T, hT⟩ : ∃ T, R.getD ByteArray.empty = T := ⟨_, rfl⟩
      obtain ⟨b, hb⟩ : ∃ b, R.isSome = b := ⟨_, rfl⟩
      unfold optV at HS HI
      rw [hT, hb] at HS HI
      replace HS := Lib.hid HS
      replace HI := Lib.hid HI
      clear hR hT hb
      go_enter Tryz.func4, Tryz.ntmps4
      go_wp2_with fail
      refine (HT.out _).mono ?_
      rintro e w1 ⟨rfl, hb1⟩
      have hW1 := Lib.hid (hW0.out.trans (hb1.mono hW0.out.size))
      have kb1 := Lib.hid (kb0.out.below hb1)
      clear hb1
      have q0 := kb1.out.c 0 _ rfl
      have q1 := kb1.out.c 1 _ rfl
      have q2 := kb1.out.c 2 _ rfl
      go_wp2_with fail
      refine (HS.out _).mono ?_
      rintro e w2 ⟨rfl, hb2⟩
      have hW2 := Lib.hid (hW1.out.trans (hb2.mono hW1.out.size))
      have kb2 := Lib.hid (kb1.out.below hb2)
      clear q0 q1 q2
      clear hb2
      have q0 := kb2.out.c 0 _ rfl
      have q1 := kb2.out.c 1 _ rfl
      have q2 := kb2.out.c 2 _ rfl
      go_wp2_with fail
      refine (HT.out _).mono ?_
      rintro e w3 ⟨rfl, hb3⟩
      have hW3 := Lib.hid (hW2.out.trans (hb3.mono hW2.out.size))
      have kb3 := Lib.hid (kb2.out.below hb3)
      clear q0 q1 q2
      clear hb3
      have q0 := kb3.out.c 0 _ rfl
      have q1 := kb3.out.c 1 _ rfl
      have q2 := kb3.out.c 2 _ rfl
      go_wp2_with fail
      refine (HI.out _).mono ?_
      rintro e w4 ⟨rfl, hb4⟩
      have hW4 := Lib.hid (hW3.out.trans (hb4.mono hW3.out.size))
      have kb4 := Lib.hid (kb3.out.below hb4)
      clear q0 q1 q2
      clear hb4
      have q0 := kb4.out.c 0 _ rfl
      have q1 := kb4.out.c 1 _ rfl
      have q2 := kb4.out.c 2 _ rfl
      go_wp2_with fail
      go_ret
      exact ⟨rfl, hW4.out⟩
    · have gx2 := decide_eq_true (p := (1048576 : Int) < x2.size) (by omega)
      have gx22 := decide_eq_true (p := 1048576 < x2.size) (by omega)
      go_enter Tryz.func4, Tryz.ntmps4
      go_wp2_with fail
      go_ret
      exact ⟨rfl, hW0.out⟩
  · have gx1 := decide_eq_true (p := (1048576 : Int) < x1.size) (by omega)
    have gx12 := decide_eq_true (p := 1048576 < x1.size) (by omega)
    go_enter Tryz.func4, Tryz.ntmps4
    go_wp2_with fail
    go_ret
    exact ⟨rfl, hW0.out⟩

end Go.Proofs.YtopklampiaecdaaGreat
