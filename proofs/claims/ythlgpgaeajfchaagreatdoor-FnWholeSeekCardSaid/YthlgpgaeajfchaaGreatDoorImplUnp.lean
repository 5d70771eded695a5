/-
  The program's unpack, Decompress, UnpackCodes, RepackStream and blockData.
-/
import Derived.Test.YthlgpgaeajfchaaGreatDoorImplReadC
import Derived.Test.YthlgpgaeajfchaaGreatDoorImplMake
import Derived.Test.YthlgpgaeajfchaaGreatDoorMergeFacts
namespace Go.Proofs.YthlgpgaeajfchaaGreatDoor
open Go.RowKit
set_option linter.unusedVariables false
set_option linter.unusedSimpArgs false
set_option maxRecDepth 100000

/-- The result of unpack: a reading and how many bytes are used. -/
def UnpPost (k : Kn) (u : Un) (used : Nat) (w : World) (e : Ending) (w' : World) : Prop :=
  ∃ (A3 : Option Addr) (n3 c3 : Nat) (q3 : Int) (A1 : Option Addr) (c1 : Nat) (A2 : Option Addr) (c2 : Nat), e = .returned (.tuple #[.agg #[.int .i64 (k.o : Int), .int .i64 (k.l : Int), .int .i64 (k.m : Int), .slice A3 n3 c3, .int .i64 (k.base : Int), .int .i64 q3, .slice A1 u.codes.length c1, .slice A2 (k.data u.codes).length c2, .int .i64 (u.fin : Int), .int .i64 (u.bits : Int)], .int .i64 (used : Int)]) ∧
    w'.ownsRow w.heap.size 3 1 (.slice A1 u.codes.length c1) u.codes.length (u.codes.map natV) ∧ w'.ownsRow w.heap.size 5 1 (.slice A2 (k.data u.codes).length c2) (k.data u.codes).length ((k.data u.codes).map byteV) ∧ Below w.heap.size w w'

/-- Ten cells of a box are written. -/
theorem below_set10 {w w0 : World} {B H : Nat} (h : Below B w0 w) (hH : B ≤ H) (u0 u1 u2 u3 u4 u5 u6 u7 u8 u9 : Value) : Below B w0 ((((((((((w.setCell ⟨H, 0, none⟩ u0).setCell ⟨H, 1, none⟩ u1).setCell ⟨H, 2, none⟩ u2).setCell ⟨H, 3, none⟩ u3).setCell ⟨H, 4, none⟩ u4).setCell ⟨H, 5, none⟩ u5).setCell ⟨H, 6, none⟩ u6).setCell ⟨H, 7, none⟩ u7).setCell ⟨H, 8, none⟩ u8).setCell ⟨H, 9, none⟩ u9) :=
  (((((((((h.setCell (p := ⟨H, 0, none⟩) hH u0).setCell (p := ⟨H, 1, none⟩) hH u1).setCell (p := ⟨H, 2, none⟩) hH u2).setCell (p := ⟨H, 3, none⟩) hH u3).setCell (p := ⟨H, 4, none⟩) hH u4).setCell (p := ⟨H, 5, none⟩) hH u5).setCell (p := ⟨H, 6, none⟩) hH u6).setCell (p := ⟨H, 7, none⟩) hH u7).setCell (p := ⟨H, 8, none⟩) hH u8).setCell (p := ⟨H, 9, none⟩) hH u9

theorem KBn.set10 {w : World} {H : Nat} {a0 a1 a2 a3 a4 a5 a6 a7 a8 a9 : Value} (h : KBn w H [a0, a1, a2, a3, a4, a5, a6, a7, a8, a9]) (b0 b1 b2 b3 b4 b5 b6 b7 b8 b9 : Value) : KBn ((((((((((w.setCell ⟨H, 0, none⟩ b0).setCell ⟨H, 1, none⟩ b1).setCell ⟨H, 2, none⟩ b2).setCell ⟨H, 3, none⟩ b3).setCell ⟨H, 4, none⟩ b4).setCell ⟨H, 5, none⟩ b5).setCell ⟨H, 6, none⟩ b6).setCell ⟨H, 7, none⟩ b7).setCell ⟨H, 8, none⟩ b8).setCell ⟨H, 9, none⟩ b9) H [b0, b1, b2, b3, b4, b5, b6, b7, b8, b9] :=
  (((((((((h.set (j := 0) rfl b0).set (j := 1) rfl b1).set (j := 2) rfl b2).set (j := 3) rfl b3).set (j := 4) rfl b4).set (j := 5) rfl b5).set (j := 6) rfl b6).set (j := 7) rfl b7).set (j := 8) rfl b8).set (j := 9) rfl b9

/-- Two operations that may come up: either is carried out. -/
theorem heldAny_two {P : Program} {md : Region.Mode} {ops : Array Oper} {Q : Exit → Act → World → Prop} {S : World → Prop} {n i j : Nat} {oi oj : Oper} {f : Nat} {L : Array Bool → Act → World → Prop} {listed : Array Bool} {a : Act} {w : World} (hoi : ops[i]? = some oi) (hoj : ops[j]? = some oj) (hr : Region.ready md ops listed = [i, j]) (hin : decide (i < n) = true) (hjn : decide (j < n) = true)
    (h1 : ∀ K : Act → World → Prop, Hid (∀ a' w', S w' → (S w' → heldAny P md ops Q S n L f (listed.setIfInBounds i true) a' w') → K a' w') → if Region.wanted oi (yielded ops a.tmps) = true then Oper.wp P oi a w K Q else K (a.put oi.dst undef) w)
    (h2 : ∀ K : Act → World → Prop, Hid (∀ a' w', S w' → (S w' → heldAny P md ops Q S n L f (listed.setIfInBounds j true) a' w') → K a' w') → if Region.wanted oj (yielded ops a.tmps) = true then Oper.wp P oj a w K Q else K (a.put oj.dst undef) w) :
    heldAny P md ops Q S n L (f + 1) listed a w := by
  refine ⟨by rw [hr]; simp, fun x hx => ?_⟩
  rw [hr] at hx
  rcases List.mem_cons.1 hx with rfl | hx2
  · exact ⟨of_decide_eq_true hin, wpOp_step hoi (fun K' hK => h1 K' (Lib.hid (fun a' w' hS hW => hK a' w' ⟨hS, hW hS⟩)))⟩
  · obtain rfl : x = j := by simpa using hx2
    exact ⟨of_decide_eq_true hjn, wpOp_step hoj (fun K' hK => h2 K' (Lib.hid (fun a' w' hS hW => hK a' w' ⟨hS, hW hS⟩)))⟩

set_option maxHeartbeats 2000000 in
theorem implUnpack (k : Kn) (A : Option Addr) (c B : Nat) (L : List UInt8) (w : World) (h : k.Fresh) (hA : k.At w B A) (hB : B ≤ w.heap.size) (hL : L.length ≤ 4000) :
    Calls Tryz.prog 85 #[k.val A c, .string (bsL L)] w (UnpPost k (k.unpack L) (k.used L) w) := by
  have hord := h.val.ord
  have HK := fun (W : World) (hb : Below w.heap.size w W) => implKnownValid k A c B W h (hA.below hb hB) (Nat.le_trans hB hb.size)
  have HU := fun W => implUnpackBytes k.o L W (by omega) hL
  have HR := fun (W : World) (hb : Below w.heap.size w W) => implReadCodes k A c B (unpL k.o L) W h.val (hA.below hb hB) (Nat.le_trans hB hb.size) (unpL_digs _ _) (by rw [unpL_length]; omega)
  have hu : unF (unpL k.o L) 3100 k 0 0 [] = k.unpack L := rfl
  rw [hu] at HR
  have hub : (k.unpack L).bits ≤ 32000 ∧ (k.unpack L).fin ≤ 3 := by
    have h1 := unF_ok (unpL k.o L) 3100 k 0 0 [] h.val (by omega) (Nat.zero_le _)
    have h2 := h1.hi
    have h3 := h1.fin
    rw [unpL_length] at h2
    rw [hu] at h2 h3
    omega
  have hused : k.used L = if (k.unpack L).fin = 1 then L.length else ((k.unpack L).bits + 7) / 8 := rfl
  obtain ⟨u, hue⟩ : ∃ u, k.unpack L = u := ⟨_, rfl⟩
  rw [hue] at HR hub hused ⊢
  unfold RdPost at HR
  unfold UnpPost
  obtain ⟨cs, fi, bi⟩ := u
  simp only at HR hub hused ⊢
  obtain ⟨nc, hnc⟩ : ∃ n, cs.length = n := ⟨_, rfl⟩
  obtain ⟨ds, hds⟩ : ∃ d, k.data cs = d := ⟨_, rfl⟩
  rw [hds] at HR ⊢
  obtain ⟨nd, hnd⟩ : ∃ n, ds.length = n := ⟨_, rfl⟩
  rw [hnc, hnd] at HR ⊢
  obtain ⟨N, hN⟩ : ∃ N, L.length = N := ⟨_, rfl⟩
  have hLs : (bsL L).size = N := hN
  rw [hN] at hused hL
  obtain ⟨X, hX0⟩ : ∃ X, bsL (unpL k.o L) = X := ⟨_, rfl⟩
  rw [hX0] at HU HR
  obtain ⟨Y, hY⟩ : ∃ Y, bsL L = Y := ⟨_, rfl⟩
  rw [hY] at HU hLs ⊢
  have hval := Kn.val_eq k
  simp only [hval] at HK HR ⊢
  have kb0 := (KBn.start w 48 [.int .i64 (k.o : Int), .int .i64 (k.l : Int), .int .i64 (k.m : Int), .slice A k.ps.length c, .int .i64 (k.base : Int), .int .i64 k.lastI]).below ((Below.refl _ _).alloc (Nat.le_refl _) (.cells #[.int .i64 0, .int .i64 0, .int .i64 0, .slice none 0 0, .int .i64 0, .int .i64 0, .slice none 0 0, .slice none 0 0, .int .i64 0, .int .i64 0] 119))
  have kr0 := KBn.start (w.alloc (.cells #[.int .i64 (k.o : Int), .int .i64 (k.l : Int), .int .i64 (k.m : Int), .slice A k.ps.length c, .int .i64 (k.base : Int), .int .i64 k.lastI] 48)) 119 rd0
  rw [World.size_alloc] at kr0
  have hW0 := ((Below.refl w.heap.size w).alloc (Nat.le_refl _) (.cells #[.int .i64 (k.o : Int), .int .i64 (k.l : Int), .int .i64 (k.m : Int), .slice A k.ps.length c, .int .i64 (k.base : Int), .int .i64 k.lastI] 48)).alloc (by simp) (.cells #[.int .i64 0, .int .i64 0, .int .i64 0, .slice none 0 0, .int .i64 0, .int .i64 0, .slice none 0 0, .slice none 0 0, .int .i64 0, .int .i64 0] 119)
  have g1 : decide ((4000 : Int) < N) = false := decide_eq_false (by omega)
  have g2 : decide (4000 < N) = false := decide_eq_false (by omega)
  replace HK := Lib.hid HK
  replace HU := Lib.hid HU
  replace HR := Lib.hid HR
  replace hused := Lib.hid hused
  obtain ⟨us, hus⟩ : ∃ us, k.used L = us := ⟨_, rfl⟩
  rw [hus] at hused
  rw [hus]
  clear hval h hA hu hue hord hX0 hY hnc hnd hds hN hus
  go_enter Tryz.func85, Tryz.ntmps85
  go_upto_region 1 with (fail)
  obtain ⟨w2, hw2⟩ : ∃ W, (w.alloc (.cells #[.int .i64 (k.o : Int), .int .i64 (k.l : Int), .int .i64 (k.m : Int), .slice A k.ps.length c, .int .i64 (k.base : Int), .int .i64 k.lastI] 48)).alloc (.cells #[.int .i64 0, .int .i64 0, .int .i64 0, .slice none 0 0, .int .i64 0, .int .i64 0, .slice none 0 0, .slice none 0 0, .int .i64 0, .int .i64 0] 119) = W := ⟨_, rfl⟩
  have hs2 : w2.heap.size = w.heap.size + 2 := by rw [← hw2]; simp
  have kb2 : KBn w2 w.heap.size [.int .i64 (k.o : Int), .int .i64 (k.l : Int), .int .i64 (k.m : Int), .slice A k.ps.length c, .int .i64 (k.base : Int), .int .i64 k.lastI] := by rw [← hw2]; exact kb0
  have kr2 : KBn w2 (w.heap.size + 1) rd0 := by rw [← hw2]; exact kr0
  rw [hw2] at hW0 ⊢
  clear hw2 kb0 kr0
  replace hs2 := Lib.hid hs2
  have hSX : Hid (∀ W, Below w2.heap.size w2 W → W.cell? ⟨w.heap.size, 0, none⟩ = some (.int .i64 (k.o : Int)) ∧ W.cell? ⟨w.heap.size, 1, none⟩ = some (.int .i64 (k.l : Int)) ∧ W.cell? ⟨w.heap.size, 2, none⟩ = some (.int .i64 (k.m : Int)) ∧ W.cell? ⟨w.heap.size, 3, none⟩ = some (.slice A k.ps.length c) ∧ W.cell? ⟨w.heap.size, 4, none⟩ = some (.int .i64 (k.base : Int)) ∧ W.cell? ⟨w.heap.size, 5, none⟩ = some (.int .i64 k.lastI)) := Lib.hid (fun W hW => ⟨(kb2.below hW).c 0 _ rfl, (kb2.below hW).c 1 _ rfl, (kb2.below hW).c 2 _ rfl, (kb2.below hW).c 3 _ rfl, (kb2.below hW).c 4 _ rfl, (kb2.below hW).c 5 _ rfl⟩)
  have hRX : Hid (∀ W, Below w2.heap.size w2 W → KBn W (w.heap.size + 1) rd0) := Lib.hid (fun W hW => kr2.below hW)
  have hWX : Hid (∀ W, Below w2.heap.size w2 W → Below w.heap.size w W) := Lib.hid (fun W hW => hW0.trans (hW.mono hW0.size))
  have hK2 := Lib.hid (HK.out w2 hW0)
  obtain ⟨q0, q1, q2, q3, q4, q5⟩ := hSX.out _ (Below.refl _ _)
  clear hW0 kb2 kr2 HK
  go_wp2_with fail
  refine hK2.out.mono ?_
  rintro e w3 ⟨rfl, hb3⟩
  replace hb3 := Lib.hid hb3
  clear q0 q1 q2 q3 q4 q5 hK2
  go_upto_region 3 with (fail)
  go_cut [6] (fun v wx => ∃ (g : Nat) (A3 : Option Addr) (n3 c3 : Nat) (q3 : Int) (A1 : Option Addr) (c1 : Nat) (A2 : Option Addr) (c2 : Nat), v = .pointer (some ⟨g, 0, none⟩) ∧ Hid (KBn wx g [.int .i64 (k.o : Int), .int .i64 (k.l : Int), .int .i64 (k.m : Int), .slice A3 n3 c3, .int .i64 (k.base : Int), .int .i64 q3, .slice A1 nc c1, .slice A2 nd c2, .int .i64 (fi : Int), .int .i64 (bi : Int)] ∧ wx.ownsRow w2.heap.size 3 1 (.slice A1 nc c1) nc (cs.map natV) ∧ wx.ownsRow w2.heap.size 5 1 (.slice A2 nd c2) nd (ds.map byteV) ∧ Below w2.heap.size w2 wx ∧ w2.heap.size ≤ g))
  case first =>
    refine wp_region_held_tail (S := fun W => W.cell? ⟨w.heap.size, 0, none⟩ = some (.int .i64 (k.o : Int)) ∧ W.cell? ⟨w.heap.size, 1, none⟩ = some (.int .i64 (k.l : Int)) ∧ W.cell? ⟨w.heap.size, 2, none⟩ = some (.int .i64 (k.m : Int)) ∧ W.cell? ⟨w.heap.size, 3, none⟩ = some (.slice A k.ps.length c) ∧ W.cell? ⟨w.heap.size, 4, none⟩ = some (.int .i64 (k.base : Int)) ∧ W.cell? ⟨w.heap.size, 5, none⟩ = some (.int .i64 k.lastI)) 8 (by kernel_rfl) (by kernel_rfl) (hSX.out _ hb3.out.drew) (fun hS => ?_)
    have hb4 := Lib.hid hb3.out.drew
    clear hb3
    refine heldAny_take (i := 0) (v := ?_) rfl (by kernel_rfl) (by kernel_rfl) (by kernel_rfl) (by kernel_rfl) (fun _ _ _ h => h) (Or.inl ⟨by rfl, ?_⟩) (by assumption) ?_
    rotate_left
    · (intro wS hSw; (try dsimp only at hSw); go_split_ands; go_simp; all_goals with_reducible rfl)
    try simp only [Act.put]
    refine heldAny_take (i := 1) (v := ?_) rfl (by kernel_rfl) (by kernel_rfl) (by kernel_rfl) (by kernel_rfl) (fun _ _ _ h => h) (Or.inl ⟨by rfl, ?_⟩) (by assumption) ?_
    rotate_left
    · (intro wS hSw; (try dsimp only at hSw); go_split_ands; go_simp; all_goals with_reducible rfl)
    try simp only [Act.put]
    refine heldAny_take (i := 2) (v := ?_) rfl (by kernel_rfl) (by kernel_rfl) (by kernel_rfl) (by kernel_rfl) (fun _ _ _ h => h) (Or.inl ⟨by rfl, ?_⟩) (by assumption) ?_
    rotate_left
    · (intro wS hSw; (try dsimp only at hSw); go_split_ands; go_simp; all_goals with_reducible rfl)
    try simp only [Act.put]
    refine heldAny_take (i := 3) (v := ?_) rfl (by kernel_rfl) (by kernel_rfl) (by kernel_rfl) (by kernel_rfl) (fun _ _ _ h => h) (Or.inl ⟨by rfl, ?_⟩) (by assumption) ?_
    rotate_left
    · (intro wS hSw; (try dsimp only at hSw); go_split_ands; go_simp; all_goals with_reducible rfl)
    try simp only [Act.put]
    refine heldAny_take (i := 4) (v := ?_) rfl (by kernel_rfl) (by kernel_rfl) (by kernel_rfl) (by kernel_rfl) (fun _ _ _ h => h) (Or.inl ⟨by rfl, ?_⟩) (by assumption) ?_
    rotate_left
    · (intro wS hSw; (try dsimp only at hSw); go_split_ands; go_simp; all_goals with_reducible rfl)
    try simp only [Act.put]
    refine heldAny_two (i := 5) (j := 7) rfl rfl (by kernel_rfl) (by kernel_rfl) (by kernel_rfl) (fun K hK => ?_) (fun K hK => ?_)
    · go_simp
      go_at_call 120
      refine (HU.out _).mono ?_
      rintro e w5 ⟨rfl, hb5⟩
      have hb5x := Lib.hid (hb4.out.trans (hb5.mono hb4.out.size))
      refine hK.out _ _ (hSX.out _ hb5x.out) (fun hS => ?_)
      try simp only [Act.put]
      clear hK K hb5
      refine heldAny_two (i := 6) (j := 7) rfl rfl (by kernel_rfl) (by kernel_rfl) (by kernel_rfl) (fun K hK => ?_) (fun K hK => ?_)
      · go_simp
        go_at_call 119
        refine (HR.out _ (hWX.out _ hb5x.out)).mono ?_
        rintro e w6 ⟨A3, n3, c3, q3, A1, c1, A2, c2, rfl, hoc0, hod0, hb6⟩
        have hb6x := Lib.hid (hb5x.out.trans (hb6.mono hb5x.out.size))
        refine hK.out _ _ (hSX.out _ hb6x.out) (fun hS => ?_)
        try simp only [Act.put]
        clear hK K
        refine heldAny_one (i := 7) rfl (by kernel_rfl) (by kernel_rfl) (fun K hK => ?_)
        go_simp
        have hb7x := Lib.hid (hb6x.out.alloc hb6x.out.size (.cells #[.int .i64 0, .int .i64 0, .int .i64 0, .slice none 0 0, .int .i64 0, .int .i64 0, .slice none 0 0, .slice none 0 0, .int .i64 0, .int .i64 0] 119))
        have kz := KBn.start w6 119 rd0
        have hal := (Below.refl w6.heap.size w6).alloc (Nat.le_refl _) (.cells #[.int .i64 0, .int .i64 0, .int .i64 0, .slice none 0 0, .int .i64 0, .int .i64 0, .slice none 0 0, .slice none 0 0, .int .i64 0, .int .i64 0] 119)
        have hoc := own_base (base' := w2.heap.size) (own_below hoc0 hal (Nat.le_refl _)) hb5x.out.size
        have hod := own_base (base' := w2.heap.size) (own_below hod0 hal (Nat.le_refl _)) hb5x.out.size
        have hgc : ∀ x, (Value.slice A1 nc c1).ownBlock = some x → ¬ x = w6.heap.size := fun x e1 e2 => by have := (hoc0.lt x e1).2; omega
        have hgd : ∀ x, (Value.slice A2 nd c2).ownBlock = some x → ¬ x = w6.heap.size := fun x e1 e2 => by have := (hod0.lt x e1).2; omega
        have hgH := hb6x.out.size
        have hbb := hb7x.out
        refine hK.out _ _ (hSX.out _ hb7x.out) (fun hS => ?_)
        try simp only [Act.put]
        clear hal hoc0 hod0
        obtain ⟨w7, hw7⟩ : ∃ W, w6.alloc (.cells #[.int .i64 0, .int .i64 0, .int .i64 0, .slice none 0 0, .int .i64 0, .int .i64 0, .slice none 0 0, .slice none 0 0, .int .i64 0, .int .i64 0] 119) = W := ⟨_, rfl⟩
        have kz : KBn w7 w6.heap.size rd0 := by rw [← hw7]; exact kz
        rw [hw7] at hoc hod hbb ⊢
        obtain ⟨g, hg⟩ : ∃ g, w6.heap.size = g := ⟨_, rfl⟩
        rw [hg] at kz hgc hgd hgH ⊢
        clear hw7 hg
        refine heldAny_done (by kernel_rfl) ⟨by kernel_rfl, ?_⟩
        simp only [List.drop_succ_cons, List.drop_zero]
        clear hK K hS
        have r0 := kz.c 0 _ rfl
        have r1 := kz.c 1 _ rfl
        have r2 := kz.c 2 _ rfl
        have r3 := kz.c 3 _ rfl
        have r4 := kz.c 4 _ rfl
        have r5 := kz.c 5 _ rfl
        have r6 := kz.c 6 _ rfl
        have r7 := kz.c 7 _ rfl
        have r8 := kz.c 8 _ rfl
        have r9 := kz.c 9 _ rfl
        have y0 := kz.f 0 _ rfl
        have y1 := kz.f 1 _ rfl
        have y2 := kz.f 2 _ rfl
        have y3 := kz.f 3 _ rfl
        have y4 := kz.f 4 _ rfl
        have y5 := kz.f 5 _ rfl
        have y6 := kz.f 6 _ rfl
        have y7 := kz.f 7 _ rfl
        have y8 := kz.f 8 _ rfl
        have y9 := kz.f 9 _ rfl
        have hk10 : KBn ((((((((((w7.setCell ⟨g, 0, none⟩ (.int .i64 (k.o : Int))).setCell ⟨g, 1, none⟩ (.int .i64 (k.l : Int))).setCell ⟨g, 2, none⟩ (.int .i64 (k.m : Int))).setCell ⟨g, 3, none⟩ (.slice A3 n3 c3)).setCell ⟨g, 4, none⟩ (.int .i64 (k.base : Int))).setCell ⟨g, 5, none⟩ (.int .i64 q3)).setCell ⟨g, 6, none⟩ (.slice A1 nc c1)).setCell ⟨g, 7, none⟩ (.slice A2 nd c2)).setCell ⟨g, 8, none⟩ (.int .i64 (fi : Int))).setCell ⟨g, 9, none⟩ (.int .i64 (bi : Int))) g [.int .i64 (k.o : Int), .int .i64 (k.l : Int), .int .i64 (k.m : Int), .slice A3 n3 c3, .int .i64 (k.base : Int), .int .i64 q3, .slice A1 nc c1, .slice A2 nd c2, .int .i64 (fi : Int), .int .i64 (bi : Int)] := KBn.set10 kz _ _ _ _ _ _ _ _ _ _
        have hkk : Keep (fun x => x = g) w7 _ := keep10 (w := w7) (J := g) (.int .i64 (k.o : Int)) (.int .i64 (k.l : Int)) (.int .i64 (k.m : Int)) (.slice A3 n3 c3) (.int .i64 (k.base : Int)) (.int .i64 q3) (.slice A1 nc c1) (.slice A2 nd c2) (.int .i64 (fi : Int)) (.int .i64 (bi : Int))
        have hres := Lib.hid (And.intro hk10 (And.intro (own_keep hoc hkk (fun x e1 e2 => hgc x e1 e2)) (And.intro (own_keep hod hkk (fun x e1 e2 => hgd x e1 e2)) (And.intro (below_set10 (H := g) hbb (by omega) (.int .i64 (k.o : Int)) (.int .i64 (k.l : Int)) (.int .i64 (k.m : Int)) (.slice A3 n3 c3) (.int .i64 (k.base : Int)) (.int .i64 q3) (.slice A1 nc c1) (.slice A2 nd c2) (.int .i64 (fi : Int)) (.int .i64 (bi : Int))) hgH))))
        clear hk10 hkk kz hoc hod hgc hgd hbb
        go_wp2_with fail
        go_meet
        exact ⟨g, A3, n3, c3, q3, A1, c1, A2, c2, rfl, hres⟩
      · go_simp
        have hb6y := Lib.hid (hb5x.out.alloc hb5x.out.size (.cells #[.int .i64 0, .int .i64 0, .int .i64 0, .slice none 0 0, .int .i64 0, .int .i64 0, .slice none 0 0, .slice none 0 0, .int .i64 0, .int .i64 0] 119))
        have kz := KBn.start w5 119 rd0
        have hgH := hb5x.out.size
        refine hK.out _ _ (hSX.out _ hb6y.out) (fun hS => ?_)
        try simp only [Act.put]
        clear hK K
        obtain ⟨w7, hw7⟩ : ∃ W, w5.alloc (.cells #[.int .i64 0, .int .i64 0, .int .i64 0, .slice none 0 0, .int .i64 0, .int .i64 0, .slice none 0 0, .slice none 0 0, .int .i64 0, .int .i64 0] 119) = W := ⟨_, rfl⟩
        have kz : KBn w7 w5.heap.size rd0 := by rw [← hw7]; exact kz
        have hg7 : w5.heap.size < w7.heap.size := by rw [← hw7]; simp
        rw [hw7] at hb6y ⊢
        obtain ⟨g, hg⟩ : ∃ g, w5.heap.size = g := ⟨_, rfl⟩
        rw [hg] at kz hgH hg7 ⊢
        clear hw7 hg
        replace kz := Lib.hid kz
        refine heldAny_one (i := 6) rfl (by kernel_rfl) (by kernel_rfl) (fun K hK => ?_)
        go_simp
        go_at_call 119
        refine (HR.out _ (hWX.out _ hb6y.out)).mono ?_
        rintro e w6 ⟨A3, n3, c3, q3, A1, c1, A2, c2, rfl, hoc0, hod0, hb6⟩
        have hb6x := Lib.hid (hb6y.out.trans (hb6.mono hb6y.out.size))
        have kz := kz.out.below hb6
        have hoc := own_base (base' := w2.heap.size) hoc0 hb6y.out.size
        have hod := own_base (base' := w2.heap.size) hod0 hb6y.out.size
        have hgc : ∀ x, (Value.slice A1 nc c1).ownBlock = some x → ¬ x = g := fun x e1 e2 => by have := (hoc0.lt x e1).1; omega
        have hgd : ∀ x, (Value.slice A2 nd c2).ownBlock = some x → ¬ x = g := fun x e1 e2 => by have := (hod0.lt x e1).1; omega
        have hbb := hb6x.out
        refine hK.out _ _ (hSX.out _ hb6x.out) (fun hS => ?_)
        try simp only [Act.put]
        refine heldAny_done (by kernel_rfl) ⟨by kernel_rfl, ?_⟩
        simp only [List.drop_succ_cons, List.drop_zero]
        clear hK K hS
        have r0 := kz.c 0 _ rfl
        have r1 := kz.c 1 _ rfl
        have r2 := kz.c 2 _ rfl
        have r3 := kz.c 3 _ rfl
        have r4 := kz.c 4 _ rfl
        have r5 := kz.c 5 _ rfl
        have r6 := kz.c 6 _ rfl
        have r7 := kz.c 7 _ rfl
        have r8 := kz.c 8 _ rfl
        have r9 := kz.c 9 _ rfl
        have y0 := kz.f 0 _ rfl
        have y1 := kz.f 1 _ rfl
        have y2 := kz.f 2 _ rfl
        have y3 := kz.f 3 _ rfl
        have y4 := kz.f 4 _ rfl
        have y5 := kz.f 5 _ rfl
        have y6 := kz.f 6 _ rfl
        have y7 := kz.f 7 _ rfl
        have y8 := kz.f 8 _ rfl
        have y9 := kz.f 9 _ rfl
        have hk10 : KBn ((((((((((w6.setCell ⟨g, 0, none⟩ (.int .i64 (k.o : Int))).setCell ⟨g, 1, none⟩ (.int .i64 (k.l : Int))).setCell ⟨g, 2, none⟩ (.int .i64 (k.m : Int))).setCell ⟨g, 3, none⟩ (.slice A3 n3 c3)).setCell ⟨g, 4, none⟩ (.int .i64 (k.base : Int))).setCell ⟨g, 5, none⟩ (.int .i64 q3)).setCell ⟨g, 6, none⟩ (.slice A1 nc c1)).setCell ⟨g, 7, none⟩ (.slice A2 nd c2)).setCell ⟨g, 8, none⟩ (.int .i64 (fi : Int))).setCell ⟨g, 9, none⟩ (.int .i64 (bi : Int))) g [.int .i64 (k.o : Int), .int .i64 (k.l : Int), .int .i64 (k.m : Int), .slice A3 n3 c3, .int .i64 (k.base : Int), .int .i64 q3, .slice A1 nc c1, .slice A2 nd c2, .int .i64 (fi : Int), .int .i64 (bi : Int)] := KBn.set10 kz _ _ _ _ _ _ _ _ _ _
        have hkk : Keep (fun x => x = g) w6 _ := keep10 (w := w6) (J := g) (.int .i64 (k.o : Int)) (.int .i64 (k.l : Int)) (.int .i64 (k.m : Int)) (.slice A3 n3 c3) (.int .i64 (k.base : Int)) (.int .i64 q3) (.slice A1 nc c1) (.slice A2 nd c2) (.int .i64 (fi : Int)) (.int .i64 (bi : Int))
        have hres := Lib.hid (And.intro hk10 (And.intro (own_keep hoc hkk (fun x e1 e2 => hgc x e1 e2)) (And.intro (own_keep hod hkk (fun x e1 e2 => hgd x e1 e2)) (And.intro (below_set10 (H := g) hbb (by omega) (.int .i64 (k.o : Int)) (.int .i64 (k.l : Int)) (.int .i64 (k.m : Int)) (.slice A3 n3 c3) (.int .i64 (k.base : Int)) (.int .i64 q3) (.slice A1 nc c1) (.slice A2 nd c2) (.int .i64 (fi : Int)) (.int .i64 (bi : Int))) hgH))))
        clear hk10 hkk kz hoc hod hgc hgd hbb
        go_wp2_with fail
        go_meet
        exact ⟨g, A3, n3, c3, q3, A1, c1, A2, c2, rfl, hres⟩
    · go_simp
      have hb6y := Lib.hid (hb4.out.alloc hb4.out.size (.cells #[.int .i64 0, .int .i64 0, .int .i64 0, .slice none 0 0, .int .i64 0, .int .i64 0, .slice none 0 0, .slice none 0 0, .int .i64 0, .int .i64 0] 119))
      have kz := KBn.start w3.drew 119 rd0
      have hgH := hb4.out.size
      refine hK.out _ _ (hSX.out _ hb6y.out) (fun hS => ?_)
      try simp only [Act.put]
      clear hK K
      obtain ⟨w7, hw7⟩ : ∃ W, w3.drew.alloc (.cells #[.int .i64 0, .int .i64 0, .int .i64 0, .slice none 0 0, .int .i64 0, .int .i64 0, .slice none 0 0, .slice none 0 0, .int .i64 0, .int .i64 0] 119) = W := ⟨_, rfl⟩
      have kz : KBn w7 w3.drew.heap.size rd0 := by rw [← hw7]; exact kz
      have hg7 : w3.drew.heap.size < w7.heap.size := by rw [← hw7]; simp
      rw [show (w3.alloc (.cells #[.int .i64 0, .int .i64 0, .int .i64 0, .slice none 0 0, .int .i64 0, .int .i64 0, .slice none 0 0, .slice none 0 0, .int .i64 0, .int .i64 0] 119)).drew = w3.drew.alloc (.cells #[.int .i64 0, .int .i64 0, .int .i64 0, .slice none 0 0, .int .i64 0, .int .i64 0, .slice none 0 0, .slice none 0 0, .int .i64 0, .int .i64 0] 119) from rfl]
      rw [hw7] at hb6y ⊢
      obtain ⟨g, hg⟩ : ∃ g, w3.drew.heap.size = g := ⟨_, rfl⟩
      rw [hg] at kz hgH hg7
      have hg3 : w3.heap.size = g := hg
      rw [hg3]
      clear hw7 hg hg3
      replace kz := Lib.hid kz
      refine heldAny_one (i := 5) rfl (by kernel_rfl) (by kernel_rfl) (fun K hK => ?_)
      go_simp
      go_at_call 120
      refine (HU.out _).mono ?_
      rintro e w5 ⟨rfl, hb5⟩
      have hb5x := Lib.hid (hb6y.out.trans (hb5.mono hb6y.out.size))
      have kz5 := Lib.hid (kz.out.below hb5)
      have hg5 : g < w5.heap.size := Nat.lt_of_lt_of_le hg7 hb5.size
      refine hK.out _ _ (hSX.out _ hb5x.out) (fun hS => ?_)
      try simp only [Act.put]
      clear hK K hb5
      refine heldAny_one (i := 6) rfl (by kernel_rfl) (by kernel_rfl) (fun K hK => ?_)
      go_simp
      go_at_call 119
      refine (HR.out _ (hWX.out _ hb5x.out)).mono ?_
      rintro e w6 ⟨A3, n3, c3, q3, A1, c1, A2, c2, rfl, hoc0, hod0, hb6⟩
      have hb6x := Lib.hid (hb5x.out.trans (hb6.mono hb5x.out.size))
      have kz := kz5.out.below hb6
      have hoc := own_base (base' := w2.heap.size) hoc0 hb5x.out.size
      have hod := own_base (base' := w2.heap.size) hod0 hb5x.out.size
      have hgc : ∀ x, (Value.slice A1 nc c1).ownBlock = some x → ¬ x = g := fun x e1 e2 => by have := (hoc0.lt x e1).1; omega
      have hgd : ∀ x, (Value.slice A2 nd c2).ownBlock = some x → ¬ x = g := fun x e1 e2 => by have := (hod0.lt x e1).1; omega
      have hbb := hb6x.out
      refine hK.out _ _ (hSX.out _ hb6x.out) (fun hS => ?_)
      try simp only [Act.put]
      refine heldAny_done (by kernel_rfl) ⟨by kernel_rfl, ?_⟩
      simp only [List.drop_succ_cons, List.drop_zero]
      clear hK K hS
      have r0 := kz.c 0 _ rfl
      have r1 := kz.c 1 _ rfl
      have r2 := kz.c 2 _ rfl
      have r3 := kz.c 3 _ rfl
      have r4 := kz.c 4 _ rfl
      have r5 := kz.c 5 _ rfl
      have r6 := kz.c 6 _ rfl
      have r7 := kz.c 7 _ rfl
      have r8 := kz.c 8 _ rfl
      have r9 := kz.c 9 _ rfl
      have y0 := kz.f 0 _ rfl
      have y1 := kz.f 1 _ rfl
      have y2 := kz.f 2 _ rfl
      have y3 := kz.f 3 _ rfl
      have y4 := kz.f 4 _ rfl
      have y5 := kz.f 5 _ rfl
      have y6 := kz.f 6 _ rfl
      have y7 := kz.f 7 _ rfl
      have y8 := kz.f 8 _ rfl
      have y9 := kz.f 9 _ rfl
      have hk10 : KBn ((((((((((w6.setCell ⟨g, 0, none⟩ (.int .i64 (k.o : Int))).setCell ⟨g, 1, none⟩ (.int .i64 (k.l : Int))).setCell ⟨g, 2, none⟩ (.int .i64 (k.m : Int))).setCell ⟨g, 3, none⟩ (.slice A3 n3 c3)).setCell ⟨g, 4, none⟩ (.int .i64 (k.base : Int))).setCell ⟨g, 5, none⟩ (.int .i64 q3)).setCell ⟨g, 6, none⟩ (.slice A1 nc c1)).setCell ⟨g, 7, none⟩ (.slice A2 nd c2)).setCell ⟨g, 8, none⟩ (.int .i64 (fi : Int))).setCell ⟨g, 9, none⟩ (.int .i64 (bi : Int))) g [.int .i64 (k.o : Int), .int .i64 (k.l : Int), .int .i64 (k.m : Int), .slice A3 n3 c3, .int .i64 (k.base : Int), .int .i64 q3, .slice A1 nc c1, .slice A2 nd c2, .int .i64 (fi : Int), .int .i64 (bi : Int)] := KBn.set10 kz _ _ _ _ _ _ _ _ _ _
      have hkk : Keep (fun x => x = g) w6 _ := keep10 (w := w6) (J := g) (.int .i64 (k.o : Int)) (.int .i64 (k.l : Int)) (.int .i64 (k.m : Int)) (.slice A3 n3 c3) (.int .i64 (k.base : Int)) (.int .i64 q3) (.slice A1 nc c1) (.slice A2 nd c2) (.int .i64 (fi : Int)) (.int .i64 (bi : Int))
      have hres := Lib.hid (And.intro hk10 (And.intro (own_keep hoc hkk (fun x e1 e2 => hgc x e1 e2)) (And.intro (own_keep hod hkk (fun x e1 e2 => hgd x e1 e2)) (And.intro (below_set10 (H := g) hbb (by omega) (.int .i64 (k.o : Int)) (.int .i64 (k.l : Int)) (.int .i64 (k.m : Int)) (.slice A3 n3 c3) (.int .i64 (k.base : Int)) (.int .i64 q3) (.slice A1 nc c1) (.slice A2 nd c2) (.int .i64 (fi : Int)) (.int .i64 (bi : Int))) hgH))))
      clear hk10 hkk kz hoc hod hgc hgd hbb
      go_wp2_with fail
      go_meet
      exact ⟨g, A3, n3, c3, q3, A1, c1, A2, c2, rfl, hres⟩
  case rest =>
    obtain ⟨g, A3, n3, c3, qk, A1, c1, A2, c2, rfl, hres⟩ := hcut
    obtain ⟨kg, hoc, hod, hbb, hgH⟩ := hres.out
    have hs2' := hs2.out
    have hkg := Lib.hid kg
    have hfx := fun (W : World) (hk : Keep (fun x => x = w.heap.size + 1) wc W) => And.intro (own_base (base' := w.heap.size) (own_keep hoc hk (fun x e1 e2 => by have := (hoc.lt x e1).1; omega)) (show w.heap.size ≤ w2.heap.size by omega)) (And.intro (own_base (base' := w.heap.size) (own_keep hod hk (fun x e1 e2 => by have := (hod.lt x e1).1; omega)) (show w.heap.size ≤ w2.heap.size by omega)) ((hWX.out _ hbb).trans (hk.below (B := w.heap.size) (by have := hbb.size; omega) (fun x e => by omega))))
    replace hfx := Lib.hid hfx
    have kz := hRX.out _ hbb
    have hkz := Lib.hid kz
    have r0 := kz.c 0 _ rfl
    have r1 := kz.c 1 _ rfl
    have r2 := kz.c 2 _ rfl
    have r3 := kz.c 3 _ rfl
    have r4 := kz.c 4 _ rfl
    have r5 := kz.c 5 _ rfl
    have r6 := kz.c 6 _ rfl
    have r7 := kz.c 7 _ rfl
    have r8 := kz.c 8 _ rfl
    have r9 := kz.c 9 _ rfl
    have y0 := kz.f 0 _ rfl
    have y1 := kz.f 1 _ rfl
    have y2 := kz.f 2 _ rfl
    have y3 := kz.f 3 _ rfl
    have y4 := kz.f 4 _ rfl
    have y5 := kz.f 5 _ rfl
    have y6 := kz.f 6 _ rfl
    have y7 := kz.f 7 _ rfl
    have y8 := kz.f 8 _ rfl
    have y9 := kz.f 9 _ rfl
    have q0 := kg.c 0 _ rfl
    have q1 := kg.c 1 _ rfl
    have q2 := kg.c 2 _ rfl
    have q3 := kg.c 3 _ rfl
    have q4 := kg.c 4 _ rfl
    have q5 := kg.c 5 _ rfl
    have q6 := kg.c 6 _ rfl
    have q7 := kg.c 7 _ rfl
    have q8 := kg.c 8 _ rfl
    have q9 := kg.c 9 _ rfl
    obtain ⟨hub1, hub2⟩ := hub
    have hne1 : ¬ g = w.heap.size + 1 := by omega
    clear hres kg hoc hod hbb hb3 hSX hRX hWX kz hgH hs2' hs2
    by_cases hf1 : fi = 1
    · subst hf1
      have hus : us = N := by rw [hused.out, if_pos rfl]
      subst hus
      go_wp2_with fail
      refine bodyPost_ret (v := .tuple #[.agg #[.int .i64 (k.o : Int), .int .i64 (k.l : Int), .int .i64 (k.m : Int), .slice A3 n3 c3, .int .i64 (k.base : Int), .int .i64 qk, .slice A1 nc c1, .slice A2 nd c2, .int .i64 1, .int .i64 (bi : Int)], .int .i64 (us : Int)]) (by simp [results, Tryz.results85, go_sem, r0, r1, r2, r3, r4, r5, r6, r7, r8, r9]) rfl ?_
      have hfin := hfx.out _ (keep10 (J := w.heap.size + 1) (.int .i64 (k.o : Int)) (.int .i64 (k.l : Int)) (.int .i64 (k.m : Int)) (.slice A3 n3 c3) (.int .i64 (k.base : Int)) (.int .i64 qk) (.slice A1 nc c1) (.slice A2 nd c2) (.int .i64 1) (.int .i64 (bi : Int)))
      exact ⟨A3, n3, c3, qk, A1, c1, A2, c2, rfl, hfin⟩
    · have e1 : ((fi : Int) == 1) = false := by rw [beq_eq_false_iff_ne]; omega
      have e2 : decide ((fi : Int) = 1) = false := decide_eq_false (by omega)
      have e3 : (fi == 1) = false := by rw [beq_eq_false_iff_ne]; omega
      have e4 : decide (fi = 1) = false := decide_eq_false hf1
      have e5 : ¬ (fi : Int) = 1 := by omega
      obtain ⟨b7, hb7⟩ : ∃ x, bi + 7 = x := ⟨_, rfl⟩
      have hb7i : (bi : Int) + 7 = b7 := by omega
      have wb7 : IntKind.i64.wrap (b7 : Int) = b7 := IntWalk.i64_in _ (by omega)
      have hus : us = b7 / 8 := by rw [hused.out, if_neg hf1, hb7]
      obtain ⟨q8x, hq8⟩ : ∃ x, b7 / 8 = x := ⟨_, rfl⟩
      have hq8i : Int.tdiv (b7 : Int) 8 = (q8x : Int) := by rw [← hq8]; rfl
      have hq8j : (b7 : Int) / 8 = (q8x : Int) := by omega
      have wq8 : IntKind.i64.wrap (q8x : Int) = q8x := IntWalk.i64_in _ (by omega)
      rw [hq8] at hus
      subst hus
      replace hb7 := Lib.hid hb7
      replace hq8 := Lib.hid hq8
      clear hf1
      go_upto_region 6 with (fail)
      refine wp_region_held_tail (S := fun W => W.cell? ⟨g, 0, none⟩ = some (.int .i64 (k.o : Int)) ∧ W.cell? ⟨g, 1, none⟩ = some (.int .i64 (k.l : Int)) ∧ W.cell? ⟨g, 2, none⟩ = some (.int .i64 (k.m : Int)) ∧ W.cell? ⟨g, 3, none⟩ = some (.slice A3 n3 c3) ∧ W.cell? ⟨g, 4, none⟩ = some (.int .i64 (k.base : Int)) ∧ W.cell? ⟨g, 5, none⟩ = some (.int .i64 qk) ∧ W.cell? ⟨g, 6, none⟩ = some (.slice A1 nc c1) ∧ W.cell? ⟨g, 7, none⟩ = some (.slice A2 nd c2) ∧ W.cell? ⟨g, 8, none⟩ = some (.int .i64 (fi : Int)) ∧ W.cell? ⟨g, 9, none⟩ = some (.int .i64 (bi : Int))) 6 (by kernel_rfl) (by kernel_rfl) ⟨q0, q1, q2, q3, q4, q5, q6, q7, q8, q9⟩ (fun hS => ?_)
      refine heldAny_take (i := 0) (v := ?_) rfl (by kernel_rfl) (by kernel_rfl) (by kernel_rfl) (by kernel_rfl) (fun _ _ _ h => h) (Or.inl ⟨by rfl, ?_⟩) (by assumption) ?_
      rotate_left
      · (intro wS hSw; (try dsimp only at hSw); go_split_ands; go_simp; all_goals with_reducible rfl)
      try simp only [Act.put]
      refine heldAny_take (i := 1) (v := ?_) rfl (by kernel_rfl) (by kernel_rfl) (by kernel_rfl) (by kernel_rfl) (fun _ _ _ h => h) (Or.inl ⟨by rfl, ?_⟩) (by assumption) ?_
      rotate_left
      · (intro wS hSw; (try dsimp only at hSw); go_split_ands; go_simp; all_goals with_reducible rfl)
      try simp only [Act.put]
      refine heldAny_take (i := 2) (v := ?_) rfl (by kernel_rfl) (by kernel_rfl) (by kernel_rfl) (by kernel_rfl) (fun _ _ _ h => h) (Or.inl ⟨by rfl, ?_⟩) (by assumption) ?_
      rotate_left
      · (intro wS hSw; (try dsimp only at hSw); go_split_ands; go_simp; all_goals with_reducible rfl)
      try simp only [Act.put]
      refine heldAny_take (i := 3) (v := ?_) rfl (by kernel_rfl) (by kernel_rfl) (by kernel_rfl) (by kernel_rfl) (fun _ _ _ h => h) (Or.inl ⟨by rfl, ?_⟩) (by assumption) ?_
      rotate_left
      · (intro wS hSw; (try dsimp only at hSw); go_split_ands; go_simp; all_goals with_reducible rfl)
      try simp only [Act.put]
      refine heldAny_take (i := 4) (v := ?_) rfl (by kernel_rfl) (by kernel_rfl) (by kernel_rfl) (by kernel_rfl) (fun _ _ _ h => h) (Or.inl ⟨by rfl, ?_⟩) (by assumption) ?_
      rotate_left
      · (intro wS hSw; (try dsimp only at hSw); go_split_ands; go_simp; all_goals with_reducible rfl)
      try simp only [Act.put]
      refine heldAny_one (i := 5) rfl (by kernel_rfl) (by kernel_rfl) (fun K hK => ?_)
      go_simp
      have hkk := keep10 (w := wc) (J := w.heap.size + 1) (.int .i64 (k.o : Int)) (.int .i64 (k.l : Int)) (.int .i64 (k.m : Int)) (.slice A3 n3 c3) (.int .i64 (k.base : Int)) (.int .i64 qk) (.slice A1 nc c1) (.slice A2 nd c2) (.int .i64 (fi : Int)) (.int .i64 (bi : Int))
      have kzz := KBn.set10 (w := wc) (H := w.heap.size + 1) hkz.out (.int .i64 (k.o : Int)) (.int .i64 (k.l : Int)) (.int .i64 (k.m : Int)) (.slice A3 n3 c3) (.int .i64 (k.base : Int)) (.int .i64 qk) (.slice A1 nc c1) (.slice A2 nd c2) (.int .i64 (fi : Int)) (.int .i64 (bi : Int))
      obtain ⟨wz, hwz⟩ : ∃ W, ((((((((((wc.setCell ⟨w.heap.size + 1, 0, none⟩ (.int .i64 (k.o : Int))).setCell ⟨w.heap.size + 1, 1, none⟩ (.int .i64 (k.l : Int))).setCell ⟨w.heap.size + 1, 2, none⟩ (.int .i64 (k.m : Int))).setCell ⟨w.heap.size + 1, 3, none⟩ (.slice A3 n3 c3)).setCell ⟨w.heap.size + 1, 4, none⟩ (.int .i64 (k.base : Int))).setCell ⟨w.heap.size + 1, 5, none⟩ (.int .i64 qk)).setCell ⟨w.heap.size + 1, 6, none⟩ (.slice A1 nc c1)).setCell ⟨w.heap.size + 1, 7, none⟩ (.slice A2 nd c2)).setCell ⟨w.heap.size + 1, 8, none⟩ (.int .i64 (fi : Int))).setCell ⟨w.heap.size + 1, 9, none⟩ (.int .i64 (bi : Int))) = W := ⟨_, rfl⟩
      rw [hwz] at hkk kzz ⊢
      clear hwz r0 r1 r2 r3 r4 r5 r6 r7 r8 r9 y0 y1 y2 y3 y4 y5 y6 y7 y8 y9 q0 q1 q2 q3 q4 q5 q6 q7 q8 q9
      have kx := (hkg.out.keep hkk hne1).below (Below.refl wz.heap.size wz).drew
      have ky := kzz.below (Below.refl wz.heap.size wz).drew
      have hfin := hfx.out wz.drew ⟨hkk.os, hkk.tape, hkk.output, hkk.size, hkk.block⟩
      replace hfin := Lib.hid hfin
      refine hK.out _ _ ⟨kx.c 0 _ rfl, kx.c 1 _ rfl, kx.c 2 _ rfl, kx.c 3 _ rfl, kx.c 4 _ rfl, kx.c 5 _ rfl, kx.c 6 _ rfl, kx.c 7 _ rfl, kx.c 8 _ rfl, kx.c 9 _ rfl⟩ (fun hS => ?_)
      try simp only [Act.put]
      refine heldAny_done (by kernel_rfl) ⟨by kernel_rfl, ?_⟩
      simp only [List.drop_succ_cons, List.drop_zero]
      clear hK K hS hkk kzz kx hkg hkz hfx
      have r0 := ky.c 0 _ rfl
      have r1 := ky.c 1 _ rfl
      have r2 := ky.c 2 _ rfl
      have r3 := ky.c 3 _ rfl
      have r4 := ky.c 4 _ rfl
      have r5 := ky.c 5 _ rfl
      have r6 := ky.c 6 _ rfl
      have r7 := ky.c 7 _ rfl
      have r8 := ky.c 8 _ rfl
      have r9 := ky.c 9 _ rfl
      clear ky
      obtain ⟨wy, hwy⟩ : ∃ W, wz.drew = W := ⟨_, rfl⟩
      rw [hwy] at r0 r1 r2 r3 r4 r5 r6 r7 r8 r9 hfin ⊢
      clear hwy
      go_wp2_with fail
      refine bodyPost_ret (v := .tuple #[.agg #[.int .i64 (k.o : Int), .int .i64 (k.l : Int), .int .i64 (k.m : Int), .slice A3 n3 c3, .int .i64 (k.base : Int), .int .i64 qk, .slice A1 nc c1, .slice A2 nd c2, .int .i64 (fi : Int), .int .i64 (bi : Int)], .int .i64 (us : Int)]) (by simp [results, Tryz.results85, go_sem, r0, r1, r2, r3, r4, r5, r6, r7, r8, r9]) rfl ?_
      exact ⟨A3, n3, c3, qk, A1, c1, A2, c2, rfl, hfin.out⟩

/-- A cell of another block is written. -/
theorem Row.setOther {w : World} {B size n : Nat} {A : Option Addr} {xs : List Value} (h : Row w B size A n xs) {p : Addr} (hne : 0 < n → ∀ b off, A = some ⟨b, off, none⟩ → b ≠ p.block) (u : Value) : Row (w.setCell p u) B size A n xs := by
  refine ⟨h.1, fun hn => ?_⟩
  obtain ⟨b, off, rfl, hb, hc⟩ := h.2 hn
  refine ⟨b, off, rfl, hb, fun j v hj => ?_⟩
  rw [World.cell?_setCell_other _ _ _ _ (by intro e; exact hne hn b off rfl (by rw [e]))]
  exact hc j v hj

set_option maxHeartbeats 2000000 in
theorem implDecompress (k : Kn) (A : Option Addr) (c B : Nat) (L : List UInt8) (w : World) (h : k.Fresh) (hA : k.At w B A) (hB : B ≤ w.heap.size) (hL : L.length ≤ 4000) :
    Calls Tryz.prog 61 #[k.val A c, .string (bsL L)] w fun e w' => e = .returned (.tuple #[.string (bsL (k.data (k.unpack L).codes)), .int .i64 ((k.unpack L).fin : Int), .int .i64 (k.used L : Int)]) ∧ Below w.heap.size w w' := by
  have HU := fun (W : World) (hb : Below w.heap.size w W) => implUnpack k A c B L W h (hA.below hb hB) (Nat.le_trans hB hb.size) hL
  unfold UnpPost at HU
  have hval := Kn.val_eq k
  obtain ⟨us, hus⟩ : ∃ us, k.used L = us := ⟨_, rfl⟩
  obtain ⟨u, hue⟩ : ∃ u, k.unpack L = u := ⟨_, rfl⟩
  rw [hue, hus] at HU ⊢
  obtain ⟨cs, fi, bi⟩ := u
  simp only at HU ⊢
  obtain ⟨nc, hnc⟩ : ∃ n, cs.length = n := ⟨_, rfl⟩
  obtain ⟨ds, hds⟩ : ∃ d, k.data cs = d := ⟨_, rfl⟩
  rw [hds] at HU ⊢
  obtain ⟨nd, hnd⟩ : ∃ n, ds.length = n := ⟨_, rfl⟩
  rw [hnc, hnd] at HU
  simp only [hval] at HU ⊢
  have kb0 := KBn.start w 48 [.int .i64 (k.o : Int), .int .i64 (k.l : Int), .int .i64 (k.m : Int), .slice A k.ps.length c, .int .i64 (k.base : Int), .int .i64 k.lastI]
  have hW0 := (Below.refl w.heap.size w).alloc (Nat.le_refl _) (.cells #[.int .i64 (k.o : Int), .int .i64 (k.l : Int), .int .i64 (k.m : Int), .slice A k.ps.length c, .int .i64 (k.base : Int), .int .i64 k.lastI] 48)
  have hU0 := Lib.hid (HU _ hW0)
  replace hW0 := Lib.hid hW0
  have HD := Lib.hid hnd
  clear hval h hA HU hue hus hnc hnd hds kb0
  go_enter Tryz.func61, Tryz.ntmps61
  go_wp2_with fail
  refine hU0.out.mono ?_
  rintro e w2 ⟨A3, n3, c3, q3, A1, c1, A2, c2, rfl, hoc, hod, hb2⟩
  have hal := (Below.refl w2.heap.size w2).alloc (Nat.le_refl _) (.cells #[.int .i64 (k.o : Int), .int .i64 (k.l : Int), .int .i64 (k.m : Int), .slice A3 n3 c3, .int .i64 (k.base : Int), .int .i64 q3, .slice A1 nc c1, .slice A2 nd c2, .int .i64 (fi : Int), .int .i64 (bi : Int)] 119)
  have kg := KBn.start w2 119 [.int .i64 (k.o : Int), .int .i64 (k.l : Int), .int .i64 (k.m : Int), .slice A3 n3 c3, .int .i64 (k.base : Int), .int .i64 q3, .slice A1 nc c1, .slice A2 nd c2, .int .i64 (fi : Int), .int .i64 (bi : Int)]
  have hod2 := own_below hod hal (Nat.le_refl _)
  have hfin := Lib.hid (hW0.out.trans ((hb2.trans (hal.mono hb2.size)).mono hW0.out.size))
  clear hoc hod hb2 hU0 hal
  replace kg := Lib.hid kg
  replace hod2 := Lib.hid hod2
  go_upto_region 2 with (fail)
  obtain ⟨g, hg⟩ : ∃ g, w2.heap.size = g := ⟨_, rfl⟩
  obtain ⟨w3, hw3⟩ : ∃ W, w2.alloc (.cells #[.int .i64 (k.o : Int), .int .i64 (k.l : Int), .int .i64 (k.m : Int), .slice A3 n3 c3, .int .i64 (k.base : Int), .int .i64 q3, .slice A1 nc c1, .slice A2 nd c2, .int .i64 (fi : Int), .int .i64 (bi : Int)] 119) = W := ⟨_, rfl⟩
  have kg3 : KBn w3 g [.int .i64 (k.o : Int), .int .i64 (k.l : Int), .int .i64 (k.m : Int), .slice A3 n3 c3, .int .i64 (k.base : Int), .int .i64 q3, .slice A1 nc c1, .slice A2 nd c2, .int .i64 (fi : Int), .int .i64 (bi : Int)] := by rw [← hw3, ← hg]; exact kg.out
  have hod3 := hod2.out
  rw [hw3] at hod3 hfin ⊢
  rw [hg]
  clear hw3 hg kg hod2
  have q7 := kg3.c 7 _ rfl
  have q8 := kg3.c 8 _ rfl
  have hcv2 := fun j => run_convert_own (n := nd) (w := w3.drewN j) elemByte Tryz.underlying5 Tryz.underlying9 ds (by rw [HD.out]; exact own_drewN hod3 j) HD.out
  clear kg3 hod3
  go_quiet (fail)
  go_wp2_with fail
  refine bodyPost_ret (v := .tuple #[.string (bsL ds), .int .i64 (fi : Int), .int .i64 (us : Int)]) (by simp [results, Tryz.results61, go_sem]) rfl ?_
  exact ⟨rfl, below_drewN hfin.out _⟩

set_option maxHeartbeats 2000000 in
theorem implBlockData (k : Kn) (A : Option Addr) (c B : Nat) (b : Blk) (w : World) (h : k.Fresh) (hA : k.At w B A) (hB : B ≤ w.heap.size) (hb : b.okb) :
    Calls Tryz.prog 37 #[k.val A c, b.val] w fun e w' => e = .returned (.tuple #[.string (bsL ((k.blockData b).getD [])), .bool (k.blockData b).isSome]) ∧ Below w.heap.size w w' := by
  have hbody := Blk.okb_body hb
  have hval := Kn.val_eq k
  have kb0 := (KBn.start w 48 [.int .i64 (k.o : Int), .int .i64 (k.l : Int), .int .i64 (k.m : Int), .slice A k.ps.length c, .int .i64 (k.base : Int), .int .i64 k.lastI]).below ((Below.refl _ _).alloc (Nat.le_refl _) (.cells #[.int .i64 (b.num : Int), .bool b.raw, .int .i64 (b.size : Int), .string b.body] 65))
  have kc0 := KBn.start (w.alloc (.cells #[.int .i64 (k.o : Int), .int .i64 (k.l : Int), .int .i64 (k.m : Int), .slice A k.ps.length c, .int .i64 (k.base : Int), .int .i64 k.lastI] 48)) 65 [.int .i64 (b.num : Int), .bool b.raw, .int .i64 (b.size : Int), .string b.body]
  rw [World.size_alloc] at kc0
  have hW0 := ((Below.refl w.heap.size w).alloc (Nat.le_refl _) (.cells #[.int .i64 (k.o : Int), .int .i64 (k.l : Int), .int .i64 (k.m : Int), .slice A k.ps.length c, .int .i64 (k.base : Int), .int .i64 k.lastI] 48)).alloc (by simp) (.cells #[.int .i64 (b.num : Int), .bool b.raw, .int .i64 (b.size : Int), .string b.body] 65)
  have hD0 := implDecompress k A c B b.body.data.toList _ h (hA.below hW0 hB) (Nat.le_trans hB hW0.size) (by simp; omega)
  have hbd : bsL b.body.data.toList = b.body := rfl
  rw [hbd] at hD0
  unfold Blk.val
  rcases hraw : b.raw with _ | _
  · have hdef : k.blockData b = if (k.unpack b.body.data.toList).fin = 0 ∧ k.used b.body.data.toList = b.body.size ∧ (k.data (k.unpack b.body.data.toList).codes).length = b.size then some (k.data (k.unpack b.body.data.toList).codes) else none := by
      unfold Kn.blockData
      rw [hraw]
      rfl
    rw [hdef]
    have hfb : (k.unpack b.body.data.toList).fin ≤ 3 := (unF_ok (unpL k.o b.body.data.toList) 3100 k 0 0 [] h.val (by omega) (Nat.zero_le _)).fin
    obtain ⟨fi, hfi⟩ : ∃ x, (k.unpack b.body.data.toList).fin = x := ⟨_, rfl⟩
    obtain ⟨us, hus⟩ : ∃ x, k.used b.body.data.toList = x := ⟨_, rfl⟩
    obtain ⟨ds, hds⟩ : ∃ x, k.data (k.unpack b.body.data.toList).codes = x := ⟨_, rfl⟩
    rw [hfi, hus, hds] at hD0
    rw [hfi, hus, hds]
    rw [hfi] at hfb
    obtain ⟨T, hT⟩ : ∃ T, b.body = T := ⟨_, rfl⟩
    obtain ⟨n, hn⟩ : ∃ n, T.size = n := ⟨_, rfl⟩
    obtain ⟨sz, hsz⟩ : ∃ n, b.size = n := ⟨_, rfl⟩
    have hsz64 : sz ≤ 64 := by rw [← hsz]; exact hb.2.1
    rw [hT, hraw, hsz] at hD0 kb0 kc0 hW0
    rw [hT] at hbody ⊢
    rw [hn] at hbody ⊢
    rw [hsz]
    obtain ⟨nd, hnd⟩ : ∃ n, ds.length = n := ⟨_, rfl⟩
    have hds2 : (bsL ds).size = nd := hnd
    rw [hnd]
    obtain ⟨D, hD⟩ : ∃ D, bsL ds = D := ⟨_, rfl⟩
    rw [hD] at hD0 hds2
    have hD' := Lib.hid hD
    simp only [hval] at hD0 ⊢
    replace hD0 := Lib.hid hD0
    replace hW0 := Lib.hid hW0
    replace kb0 := Lib.hid kb0
    replace kc0 := Lib.hid kc0
    clear hdef hfi hus hds hT hsz hval hb h hA hbd hraw hD hnd
    have f1 : ((fi : Int) != 0) = decide (fi ≠ 0) := by rw [Bool.eq_iff_iff]; simp
    have f2 : (fi != 0) = decide (fi ≠ 0) := by rw [Bool.eq_iff_iff]; simp
    have u1 : ((us : Int) != (n : Int)) = decide (us ≠ n) := by rw [Bool.eq_iff_iff]; simp [Int.ofNat_inj]
    have u2 : (us != n) = decide (us ≠ n) := by rw [Bool.eq_iff_iff]; simp
    have d1 : ((nd : Int) != (sz : Int)) = decide (nd ≠ sz) := by rw [Bool.eq_iff_iff]; simp [Int.ofNat_inj]
    have d2 : (nd != sz) = decide (nd ≠ sz) := by rw [Bool.eq_iff_iff]; simp
    by_cases h1 : fi = 0
    · have g1 : decide (fi ≠ 0) = false := decide_eq_false (fun hh => hh h1)
      by_cases h2 : us = n
      · have g2 : decide (us ≠ n) = false := decide_eq_false (fun hh => hh h2)
        by_cases h3 : nd = sz
        · have g3 : decide (nd ≠ sz) = false := decide_eq_false (fun hh => hh h3)
          rw [if_pos ⟨h1, h2, h3⟩]
          rw [g1] at f1 f2
          rw [g2] at u1 u2
          rw [g3] at d1 d2
          replace h1 := Lib.hid h1
          replace h2 := Lib.hid h2
          replace h3 := Lib.hid h3
          clear g1 g2 g3
          go_enter Tryz.func37, Tryz.ntmps37
          go_upto_region 1 with (fail)
          obtain ⟨w2, hw2⟩ : ∃ W, (w.alloc (.cells #[.int .i64 (k.o : Int), .int .i64 (k.l : Int), .int .i64 (k.m : Int), .slice A k.ps.length c, .int .i64 (k.base : Int), .int .i64 k.lastI] 48)).alloc (.cells #[.int .i64 (b.num : Int), .bool false, .int .i64 (sz : Int), .string T] 65) = W := ⟨_, rfl⟩
          rw [hw2] at hD0 hW0 kb0 kc0 ⊢
          clear hw2
          have q0 := kb0.out.c 0 _ rfl
          have q1 := kb0.out.c 1 _ rfl
          have q2 := kb0.out.c 2 _ rfl
          have q3 := kb0.out.c 3 _ rfl
          have q4 := kb0.out.c 4 _ rfl
          have q5 := kb0.out.c 5 _ rfl
          have c1 := kc0.out.c 1 _ rfl
          have c2 := kc0.out.c 2 _ rfl
          have c3 := kc0.out.c 3 _ rfl
          go_wp2_with fail
          refine hD0.out.mono ?_
          rintro e w3 ⟨rfl, hb3⟩
          have hfin := Lib.hid (hW0.out.trans (hb3.mono hW0.out.size))
          have kc3 := kc0.out.below hb3
          clear q0 q1 q2 q3 q4 q5 c1 c2 c3 hb3 hD0 kb0 kc0
          have c2 := kc3.c 2 _ rfl
          have c3 := kc3.c 3 _ rfl
          clear kc3
          go_wp2_with fail
          refine bodyPost_ret (v := .tuple #[.string D, .bool true]) (by simp [results, Tryz.results37, go_sem]) rfl ?_
          exact ⟨by show _ = Ending.returned (.tuple #[.string (bsL ds), .bool true]); rw [hD'.out], hfin.out⟩
        · have g3 : decide (nd ≠ sz) = true := decide_eq_true h3
          rw [if_neg (fun hh => h3 hh.2.2)]
          rw [g1] at f1 f2
          rw [g2] at u1 u2
          rw [g3] at d1 d2
          replace h1 := Lib.hid h1
          replace h2 := Lib.hid h2
          clear g1 g2 g3
          go_enter Tryz.func37, Tryz.ntmps37
          go_upto_region 1 with (fail)
          obtain ⟨w2, hw2⟩ : ∃ W, (w.alloc (.cells #[.int .i64 (k.o : Int), .int .i64 (k.l : Int), .int .i64 (k.m : Int), .slice A k.ps.length c, .int .i64 (k.base : Int), .int .i64 k.lastI] 48)).alloc (.cells #[.int .i64 (b.num : Int), .bool false, .int .i64 (sz : Int), .string T] 65) = W := ⟨_, rfl⟩
          rw [hw2] at hD0 hW0 kb0 kc0 ⊢
          clear hw2
          have q0 := kb0.out.c 0 _ rfl
          have q1 := kb0.out.c 1 _ rfl
          have q2 := kb0.out.c 2 _ rfl
          have q3 := kb0.out.c 3 _ rfl
          have q4 := kb0.out.c 4 _ rfl
          have q5 := kb0.out.c 5 _ rfl
          have c1 := kc0.out.c 1 _ rfl
          have c2 := kc0.out.c 2 _ rfl
          have c3 := kc0.out.c 3 _ rfl
          go_wp2_with fail
          refine hD0.out.mono ?_
          rintro e w3 ⟨rfl, hb3⟩
          have hfin := Lib.hid (hW0.out.trans (hb3.mono hW0.out.size))
          have kc3 := kc0.out.below hb3
          clear q0 q1 q2 q3 q4 q5 c1 c2 c3 hb3 hD0 kb0 kc0
          have c2 := kc3.c 2 _ rfl
          have c3 := kc3.c 3 _ rfl
          clear kc3
          go_wp2_with fail
          refine bodyPost_ret (v := .tuple #[.string ⟨#[]⟩, .bool false]) (by simp [results, Tryz.results37, go_sem]) rfl ?_
          exact ⟨rfl, hfin.out⟩
      · have g2 : decide (us ≠ n) = true := decide_eq_true h2
        rw [if_neg (fun hh => h2 hh.2.1)]
        rw [g1] at f1 f2
        rw [g2] at u1 u2
        replace h1 := Lib.hid h1
        clear g1 g2 d1 d2
        go_enter Tryz.func37, Tryz.ntmps37
        go_upto_region 1 with (fail)
        obtain ⟨w2, hw2⟩ : ∃ W, (w.alloc (.cells #[.int .i64 (k.o : Int), .int .i64 (k.l : Int), .int .i64 (k.m : Int), .slice A k.ps.length c, .int .i64 (k.base : Int), .int .i64 k.lastI] 48)).alloc (.cells #[.int .i64 (b.num : Int), .bool false, .int .i64 (sz : Int), .string T] 65) = W := ⟨_, rfl⟩
        rw [hw2] at hD0 hW0 kb0 kc0 ⊢
        clear hw2
        have q0 := kb0.out.c 0 _ rfl
        have q1 := kb0.out.c 1 _ rfl
        have q2 := kb0.out.c 2 _ rfl
        have q3 := kb0.out.c 3 _ rfl
        have q4 := kb0.out.c 4 _ rfl
        have q5 := kb0.out.c 5 _ rfl
        have c1 := kc0.out.c 1 _ rfl
        have c2 := kc0.out.c 2 _ rfl
        have c3 := kc0.out.c 3 _ rfl
        go_wp2_with fail
        refine hD0.out.mono ?_
        rintro e w3 ⟨rfl, hb3⟩
        have hfin := Lib.hid (hW0.out.trans (hb3.mono hW0.out.size))
        have kc3 := kc0.out.below hb3
        clear q0 q1 q2 q3 q4 q5 c1 c2 c3 hb3 hD0 kb0 kc0
        have c2 := kc3.c 2 _ rfl
        have c3 := kc3.c 3 _ rfl
        clear kc3
        go_wp2_with fail
        refine bodyPost_ret (v := .tuple #[.string ⟨#[]⟩, .bool false]) (by simp [results, Tryz.results37, go_sem]) rfl ?_
        exact ⟨rfl, hfin.out⟩
    · have g1 : decide (fi ≠ 0) = true := decide_eq_true h1
      rw [if_neg (fun hh => h1 hh.1)]
      rw [g1] at f1 f2
      clear g1 u1 u2 d1 d2
      go_enter Tryz.func37, Tryz.ntmps37
      go_upto_region 1 with (fail)
      obtain ⟨w2, hw2⟩ : ∃ W, (w.alloc (.cells #[.int .i64 (k.o : Int), .int .i64 (k.l : Int), .int .i64 (k.m : Int), .slice A k.ps.length c, .int .i64 (k.base : Int), .int .i64 k.lastI] 48)).alloc (.cells #[.int .i64 (b.num : Int), .bool false, .int .i64 (sz : Int), .string T] 65) = W := ⟨_, rfl⟩
      rw [hw2] at hD0 hW0 kb0 kc0 ⊢
      clear hw2
      have q0 := kb0.out.c 0 _ rfl
      have q1 := kb0.out.c 1 _ rfl
      have q2 := kb0.out.c 2 _ rfl
      have q3 := kb0.out.c 3 _ rfl
      have q4 := kb0.out.c 4 _ rfl
      have q5 := kb0.out.c 5 _ rfl
      have c1 := kc0.out.c 1 _ rfl
      have c2 := kc0.out.c 2 _ rfl
      have c3 := kc0.out.c 3 _ rfl
      go_wp2_with fail
      refine hD0.out.mono ?_
      rintro e w3 ⟨rfl, hb3⟩
      have hfin := Lib.hid (hW0.out.trans (hb3.mono hW0.out.size))
      have kc3 := kc0.out.below hb3
      clear q0 q1 q2 q3 q4 q5 c1 c2 c3 hb3 hD0 kb0 kc0
      have c2 := kc3.c 2 _ rfl
      have c3 := kc3.c 3 _ rfl
      clear kc3
      go_wp2_with fail
      refine bodyPost_ret (v := .tuple #[.string ⟨#[]⟩, .bool false]) (by simp [results, Tryz.results37, go_sem]) rfl ?_
      exact ⟨rfl, hfin.out⟩
  · have hdef : k.blockData b = some b.body.data.toList := by
      unfold Kn.blockData
      rw [hraw]
      rfl
    rw [hdef]
    obtain ⟨T, hT⟩ : ∃ T, b.body = T := ⟨_, rfl⟩
    rw [hraw, hT] at kc0 hW0
    rw [hT]
    have hTb : bsL T.data.toList = T := rfl
    show Calls _ _ _ _ fun e w' => e = .returned (.tuple #[.string (bsL T.data.toList), .bool true]) ∧ _
    rw [hTb]
    simp only [hval]
    have c1 := kc0.c 1 _ rfl
    have c3 := kc0.c 3 _ rfl
    replace hW0 := Lib.hid hW0
    clear hdef hval hb h hA hbd hraw hT hTb kc0 kb0 hD0
    go_enter Tryz.func37, Tryz.ntmps37
    go_wp2_with fail
    go_ret2
    exact ⟨rfl, hW0.out⟩

end Go.Proofs.YthlgpgaeajfchaaGreatDoor
