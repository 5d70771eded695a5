/-
  The program's tree of words: learn.
-/
import Derived.Test.YthlgpgaeajfchaaGreatDoorTreeGrow
import Derived.Test.YthlgpgaeajfchaaGreatDoorHeldTail
namespace Go.Proofs.YthlgpgaeajfchaaGreatDoor
open Go.RowKit
set_option linter.unusedVariables false
set_option maxRecDepth 100000

theorem infoNode : (Tryz.prog.info? 156).map (fun i => (i.zero, i.size, i.bytes)) = some (some (.agg #[.int .i64 0, .int .i64 0, .int .i64 0, .int .u8 0, .int .u8 0, .int .i64 0]), 6, 40) := by kernel_rfl

theorem elemNode : Elem Tryz.prog 127 156 (.agg #[.int .i64 0, .int .i64 0, .int .i64 0, .int .u8 0, .int .u8 0, .int .i64 0]) 6 40 := ⟨Tryz.underlying127, infoNode, rfl, by decide⟩

/-- There are no more nodes behind the literals than pairs. -/
theorem TrOk.ns_le {k : Kn} {t : Tr} (h : TrOk k t) : t.ns.length ≤ k.ps.length := by
  have h1 : ∀ (j : Nat) (d : Nd), t.ns[j]? = some d → k.fin + 1 + j ≤ d.code := by
    intro j
    induction j with
    | zero => intro d hd; have := (h.code 0 d hd).1; omega
    | succ j ih =>
      intro d hd
      have hlt := (List.getElem?_eq_some_iff.1 hd).1
      have he : t.ns[j]? = some (t.ns[j]'(by omega)) := List.getElem?_eq_getElem (by omega)
      have := ih _ he
      have := h.nd.rise j (j + 1) _ _ he hd (by omega)
      omega
  rcases Nat.eq_zero_or_pos t.ns.length with h0 | h0
  · omega
  · have he : t.ns[t.ns.length - 1]? = some (t.ns[t.ns.length - 1]'(by omega)) := List.getElem?_eq_getElem (by omega)
    have h2 := h1 _ _ he
    have h3 := (h.code _ _ he).2.1
    have h4 := (List.getElem?_eq_some_iff.1 h3).1
    have := h.len
    omega

set_option maxHeartbeats 8000000 in
theorem implTreeLearn (k : Kn) (t : Tr) (T : Nat) (a : TA) (q b : Nat) (w : World) (hsv : sv k.o k.l k.m) (hnb : k.ps.length ≤ 1022) (hlow : k.Low) (ht : TrOk k t) (hm : TrM k t T a w) (hq : k.has k.ps.length q) (hb : b < k.clear) :
    Calls Tryz.prog 121 #[.pointer (some ⟨T, 0, none⟩), .agg #[.int .i64 (q : Int), .int .i64 (b : Int)]] w fun e w' => (∃ v, e = .returned v) ∧ ∃ t' a', TrOk (k.push q b) t' ∧ TrM (k.push q b) t' T a' w' ∧ Fr T a a' w w' := by
  have hl8 : k.l ≤ 8 := by have := hsv.2.1.2; omega
  have hpw : k.clear ≤ 2 ^ 8 := Nat.pow_le_pow_right (by omega) hl8
  have hnsl := ht.ns_le
  have hcl := ht.cl
  have hlen := ht.len
  have hT := hm.box.lt
  have hm0 := hm.below ((Below.refl _ _).alloc (Nat.le_refl _) (.cells #[.int .i64 (q : Int), .int .i64 (b : Int)] 123))
  have HO := fun (W : World) (hW : TrM k t T a W) => implNodeOf k t T a q W hsv (by omega) ht hW hq
  obtain ⟨hP1, _⟩ := ht.of hq
  have hsame := fun n (hk : t.IsKid (t.of k.fin q) b n) => ht.same hlow hq hk
  have hmore := fun (hk : t.NoKid (t.of k.fin q) b) => ht.more hlow hq hb hk
  obtain ⟨p, hp⟩ : ∃ p, t.of k.fin q = p := ⟨_, rfl⟩
  rw [hp] at HO hP1 hsame hmore
  have HC := fun (W : World) (hW : TrM k t T a W) => implChild k t T a p b W hW hP1 (by omega)
  have HN := fun (W : World) => implNextWordS k a.Ak a.ck W hsv (by omega)
  unfold Kn.val at HN
  have wb : IntKind.u8.wrap (b : Int) = b := u8_in b (by omega)
  have hNb : t.c + t.ns.length ≤ 2000 := by omega
  have hprb : t.pr.length ≤ 2000 := by omega
  have hpsb : k.ps.length ≤ 2000 := by omega
  have hnd := ht.nd
  replace HO := Lib.hid HO
  replace HC := Lib.hid HC
  replace HN := Lib.hid HN
  replace hm0 := Lib.hid hm0
  replace hm := Lib.hid hm
  replace hsame := Lib.hid hsame
  replace hmore := Lib.hid hmore
  replace hnd := Lib.hid hnd
  clear hl8 hpw hnsl hcl hlen hp hsv hnb
  go_enter Tryz.func121, Tryz.ntmps121
  go_wp2_with fail
  refine (HO.out _ hm0.out).mono ?_
  rintro e w1 ⟨rfl, hb1⟩
  have hm1 := Lib.hid (hm0.out.below hb1)
  have P1 := Lib.hid ((KBn.start w 123 [.int .i64 (q : Int), .int .i64 (b : Int)]).below hb1)
  have q0 := P1.out.c 0 _ rfl
  have q1 := P1.out.c 1 _ rfl
  have hfr1 := Lib.hid (Fr.of_below (T := T) (a := a) (((Below.refl w.heap.size w).alloc (Nat.le_refl _) (.cells #[.int .i64 (q : Int), .int .i64 (b : Int)] 123)).trans (hb1.mono (by simp))))
  clear hb1 hm0
  go_wp2_with fail
  refine (HC.out _ hm1.out).mono ?_
  rintro e w2 ⟨⟨z, rfl, hz⟩, rfl⟩
  rcases hz with ⟨rfl, hno⟩ | ⟨r, rfl, hk⟩
  · obtain ⟨g, hgA, hgT, hgl, ⟨n0, n1, n2, n3, n4, n5⟩, hgf⟩ := hm1.out.node hP1
    obtain ⟨b0, b1, b2, b3, b4, b5, b6, b7⟩ := hm1.out.cells
    rw [hgA] at b6
    obtain ⟨z0, hz0⟩ : ∃ z, t.parI p = z := ⟨_, rfl⟩
    obtain ⟨z1, hz1⟩ : ∃ z, kidI t.c t.ns p t.ns.length = z := ⟨_, rfl⟩
    obtain ⟨z2, hz2⟩ : ∃ z, t.nxtI p = z := ⟨_, rfl⟩
    obtain ⟨z3, hz3⟩ : ∃ z, t.lastN p = z := ⟨_, rfl⟩
    obtain ⟨z4, hz4⟩ : ∃ z, t.firstN p = z := ⟨_, rfl⟩
    obtain ⟨z5, hz5⟩ : ∃ z, t.codeOf p = z := ⟨_, rfl⟩
    obtain ⟨N, hN⟩ : ∃ N, t.c + t.ns.length = N := ⟨_, rfl⟩
    obtain ⟨x, hx⟩ : ∃ x, k.next = x := ⟨_, rfl⟩
    rw [hz0] at n0
    rw [hz1] at n1
    rw [hz2] at n2
    rw [hz3] at n3
    rw [hz4] at n4
    rw [hz5] at n5
    rw [hN] at b6 hP1 hNb
    rw [hx] at HN
    replace hN := Lib.hid hN
    replace hz1 := Lib.hid hz1
    replace hz4 := Lib.hid hz4
    replace hx := Lib.hid hx
    have hUlt := hm1.out.box.lt
    have hm2 := Lib.hid (hm1.out.below ((Below.refl _ _).alloc (Nat.le_refl _) (.cells #[.int .i64 z0, .int .i64 z1, .int .i64 z2, .int .u8 (z3 : Int), .int .u8 (z4 : Int), .int .i64 (z5 : Int)] 156)))
    have P2 := Lib.hid (P1.out.below ((Below.refl _ _).alloc (Nat.le_refl _) (.cells #[.int .i64 z0, .int .i64 z1, .int .i64 z2, .int .u8 (z3 : Int), .int .u8 (z4 : Int), .int .i64 (z5 : Int)] 156)))
    have U2 := Lib.hid (KBn.start w1 156 [.int .i64 z0, .int .i64 z1, .int .i64 z2, .int .u8 (z3 : Int), .int .u8 (z4 : Int), .int .i64 (z5 : Int)])
    have hfr2 := Lib.hid (hfr1.out.trans (Fr.of_below ((Below.refl w1.heap.size w1).alloc (Nat.le_refl _) (.cells #[.int .i64 z0, .int .i64 z1, .int .i64 z2, .int .u8 (z3 : Int), .int .u8 (z4 : Int), .int .i64 (z5 : Int)] 156))))
    clear q0 q1 hz0 hz2 hz3 hz5
    go_upto_region 6 with (fail)
    obtain ⟨w3, hw3⟩ : ∃ W, w1.alloc (.cells #[.int .i64 z0, .int .i64 z1, .int .i64 z2, .int .u8 (z3 : Int), .int .u8 (z4 : Int), .int .i64 (z5 : Int)] 156) = W := ⟨_, rfl⟩
    rw [hw3] at hm2 hfr2 ⊢
    replace P2 : Hid (KBn w3 w.heap.size [.int .i64 (q : Int), .int .i64 (b : Int)]) := Lib.hid (by rw [← hw3]; exact P2.out)
    replace U2 : Hid (KBn w3 w1.heap.size [.int .i64 z0, .int .i64 z1, .int .i64 z2, .int .u8 (z3 : Int), .int .u8 (z4 : Int), .int .i64 (z5 : Int)]) := Lib.hid (by rw [← hw3]; exact U2.out)
    clear hw3 P1 hm1 b0 b1 b2 b3 b4 b5 b6 b7 n0 n1 n2 n3 n4 n5 hgf
    have hall : ∀ W, Below w3.heap.size w3 W → (W.cell? ⟨T, 0, none⟩ = some (.int .i64 (k.o : Int)) ∧ W.cell? ⟨T, 1, none⟩ = some (.int .i64 (k.l : Int)) ∧ W.cell? ⟨T, 2, none⟩ = some (.int .i64 (k.m : Int)) ∧ W.cell? ⟨T, 3, none⟩ = some (.slice a.Ak k.ps.length a.ck) ∧ W.cell? ⟨T, 4, none⟩ = some (.int .i64 (k.base : Int)) ∧ W.cell? ⟨T, 5, none⟩ = some (.int .i64 k.lastI) ∧ W.cell? ⟨T, 6, none⟩ = some (.slice (some ⟨g, 0, none⟩) N a.cn)) ∧ W.cell? ⟨w.heap.size, 1, none⟩ = some (.int .i64 (b : Int)) ∧ W.cell? ⟨w1.heap.size, 1, none⟩ = some (.int .i64 z1) ∧ W.cell? ⟨w1.heap.size, 4, none⟩ = some (.int .u8 (z4 : Int)) := fun W hW => by
      obtain ⟨b0, b1, b2, b3, b4, b5, b6, _⟩ := (hm2.out.below hW).cells
      rw [hgA, hN.out] at b6
      exact ⟨⟨b0, b1, b2, b3, b4, b5, b6⟩, (P2.out.below hW).c 1 _ rfl, (U2.out.below hW).c 1 _ rfl, (U2.out.below hW).c 4 _ rfl⟩
    replace hall := Lib.hid hall
    refine wp_region_held_tail (S := fun W => (W.cell? ⟨T, 0, none⟩ = some (.int .i64 (k.o : Int)) ∧ W.cell? ⟨T, 1, none⟩ = some (.int .i64 (k.l : Int)) ∧ W.cell? ⟨T, 2, none⟩ = some (.int .i64 (k.m : Int)) ∧ W.cell? ⟨T, 3, none⟩ = some (.slice a.Ak k.ps.length a.ck) ∧ W.cell? ⟨T, 4, none⟩ = some (.int .i64 (k.base : Int)) ∧ W.cell? ⟨T, 5, none⟩ = some (.int .i64 k.lastI) ∧ W.cell? ⟨T, 6, none⟩ = some (.slice (some ⟨g, 0, none⟩) N a.cn)) ∧ W.cell? ⟨w.heap.size, 1, none⟩ = some (.int .i64 (b : Int)) ∧ W.cell? ⟨w1.heap.size, 1, none⟩ = some (.int .i64 z1) ∧ W.cell? ⟨w1.heap.size, 4, none⟩ = some (.int .u8 (z4 : Int))) 21 (by kernel_rfl) (by kernel_rfl) (hall.out _ (Below.refl _ _).drew) (fun hS => ?_)
    refine heldAny_take (i := 0) (v := ?_) rfl (by kernel_rfl) (by kernel_rfl) (by kernel_rfl) (by kernel_rfl) (fun _ _ _ h => h) (Or.inl ⟨by rfl, ?_⟩) (by assumption) ?_
    rotate_left
    · (intro wS hSw; (try dsimp only at hSw); go_split_ands; go_simp; all_goals with_reducible rfl)
    try simp only [Act.put, List.setIfInBounds_toArray]
    refine heldAny_take (i := 1) (v := ?_) rfl (by kernel_rfl) (by kernel_rfl) (by kernel_rfl) (by kernel_rfl) (fun _ _ _ h => h) (Or.inl ⟨by rfl, ?_⟩) (by assumption) ?_
    rotate_left
    · (intro wS hSw; (try dsimp only at hSw); go_split_ands; go_simp; all_goals with_reducible rfl)
    try simp only [Act.put]
    refine heldAny_take (i := 2) (v := ?_) rfl (by kernel_rfl) (by kernel_rfl) (by kernel_rfl) (by kernel_rfl) (fun _ _ _ h => h) (Or.inl ⟨by rfl, ?_⟩) (by assumption) ?_
    rotate_left
    · (intro wS hSw; (try dsimp only at hSw); go_split_ands; go_simp; all_goals with_reducible rfl)
    try simp only [Act.put]
    refine heldAny_take (i := 3) (v := ?_) rfl (by kernel_rfl) (by kernel_rfl) (by kernel_rfl) (by kernel_rfl) (fun _ _ _ h => h) (Or.inl ⟨by rfl, ?_⟩) (by assumption) ?_
    rotate_left
    · (intro wS hSw; (try dsimp only at hSw); go_split_ands; go_simp; all_goals with_reducible rfl)
    try simp only [Act.put]
    refine heldAny_take (i := 4) (v := ?_) rfl (by kernel_rfl) (by kernel_rfl) (by kernel_rfl) (by kernel_rfl) (fun _ _ _ h => h) (Or.inl ⟨by rfl, ?_⟩) (by assumption) ?_
    rotate_left
    · (intro wS hSw; (try dsimp only at hSw); go_split_ands; go_simp; all_goals with_reducible rfl)
    try simp only [Act.put]
    refine heldAny_take (i := 5) (v := ?_) rfl (by kernel_rfl) (by kernel_rfl) (by kernel_rfl) (by kernel_rfl) (fun _ _ _ h => h) (Or.inl ⟨by rfl, ?_⟩) (by assumption) ?_
    rotate_left
    · (intro wS hSw; (try dsimp only at hSw); go_split_ands; go_simp; all_goals with_reducible rfl)
    try simp only [Act.put]
    refine heldAny_take (i := 6) (v := ?_) rfl (by kernel_rfl) (by kernel_rfl) (by kernel_rfl) (by kernel_rfl) (fun _ _ _ h => h) (Or.inl ⟨by rfl, ?_⟩) (by assumption) ?_
    rotate_left
    · (intro wS hSw; (try dsimp only at hSw); go_split_ands; go_simp; all_goals with_reducible rfl)
    try simp only [Act.put]
    refine heldAny_take (i := 7) (v := ?_) rfl (by kernel_rfl) (by kernel_rfl) (by kernel_rfl) (by kernel_rfl) (fun _ _ _ h => h) (Or.inl ⟨by rfl, ?_⟩) (by assumption) ?_
    rotate_left
    · (intro wS hSw; (try dsimp only at hSw); go_split_ands; go_simp; all_goals with_reducible rfl)
    try simp only [Act.put]
    refine heldAny_take (i := 8) (v := ?_) rfl (by kernel_rfl) (by kernel_rfl) (by kernel_rfl) (by kernel_rfl) (fun _ _ _ h => h) (Or.inl ⟨by rfl, ?_⟩) (by assumption) ?_
    rotate_left
    · (intro wS hSw; (try dsimp only at hSw); go_split_ands; go_simp; all_goals with_reducible rfl)
    try simp only [Act.put]
    refine heldAny_take (i := 9) (v := ?_) rfl (by kernel_rfl) (by kernel_rfl) (by kernel_rfl) (by kernel_rfl) (fun _ _ _ h => h) (Or.inl ⟨by rfl, ?_⟩) (by assumption) ?_
    rotate_left
    · (intro wS hSw; (try dsimp only at hSw); go_split_ands; go_simp; all_goals with_reducible rfl)
    try simp only [Act.put]
    refine heldAny_take (i := 10) (v := ?_) rfl (by kernel_rfl) (by kernel_rfl) (by kernel_rfl) (by kernel_rfl) (fun _ _ _ h => h) (Or.inl ⟨by rfl, ?_⟩) (by assumption) ?_
    rotate_left
    · (intro wS hSw; (try dsimp only at hSw); go_split_ands; go_simp; all_goals with_reducible rfl)
    try simp only [Act.put]
    refine heldAny_take (i := 11) (v := ?_) rfl (by kernel_rfl) (by kernel_rfl) (by kernel_rfl) (by kernel_rfl) (fun _ _ _ h => h) (Or.inl ⟨by rfl, ?_⟩) (by assumption) ?_
    rotate_left
    · (intro wS hSw; (try dsimp only at hSw); go_split_ands; go_simp; all_goals with_reducible rfl)
    try simp only [Act.put]
    refine heldAny_take (i := 12) (v := ?_) rfl (by kernel_rfl) (by kernel_rfl) (by kernel_rfl) (by kernel_rfl) (fun _ _ _ h => h) (Or.inl ⟨by rfl, ?_⟩) (by assumption) ?_
    rotate_left
    · (intro wS hSw; (try dsimp only at hSw); go_split_ands; go_simp; all_goals with_reducible rfl)
    try simp only [Act.put]
    refine heldAny_take (i := 13) (v := ?_) rfl (by kernel_rfl) (by kernel_rfl) (by kernel_rfl) (by kernel_rfl) (fun _ _ _ h => h) (Or.inl ⟨by rfl, ?_⟩) (by assumption) ?_
    rotate_left
    · (intro wS hSw; (try dsimp only at hSw); go_split_ands; go_simp; all_goals with_reducible rfl)
    try simp only [Act.put]
    refine heldAny_take (i := 14) (v := ?_) rfl (by kernel_rfl) (by kernel_rfl) (by kernel_rfl) (by kernel_rfl) (fun _ _ _ h => h) (Or.inl ⟨by rfl, ?_⟩) (by assumption) ?_
    rotate_left
    · (intro wS hSw; (try dsimp only at hSw); go_split_ands; go_simp; all_goals with_reducible rfl)
    try simp only [Act.put]
    refine heldAny_take (i := 15) (v := ?_) rfl (by kernel_rfl) (by kernel_rfl) (by kernel_rfl) (by kernel_rfl) (fun _ _ _ h => h) (Or.inl ⟨by rfl, ?_⟩) (by assumption) ?_
    rotate_left
    · (intro wS hSw; (try dsimp only at hSw); go_split_ands; go_simp; all_goals with_reducible rfl)
    try simp only [Act.put]
    refine heldAny_take (i := 16) (v := ?_) rfl (by kernel_rfl) (by kernel_rfl) (by kernel_rfl) (by kernel_rfl) (fun _ _ _ h => h) (Or.inl ⟨by rfl, ?_⟩) (by assumption) ?_
    rotate_left
    · (intro wS hSw; (try dsimp only at hSw); go_split_ands; go_simp; all_goals with_reducible rfl)
    try simp only [Act.put]
    refine heldAny_one (i := 17) rfl (by kernel_rfl) (by kernel_rfl) (fun K hK => ?_)
    go_simp
    go_at_call 123
    refine (HN.out _).mono ?_
    rintro e w4 ⟨rfl, hb4⟩
    have hb34 := (Below.refl w3.heap.size w3).drew.trans hb4
    refine hK.out _ _ (hall.out _ hb34) (fun hS => ?_)
    try simp only [Act.put, List.setIfInBounds_toArray, List.set_cons_zero, List.set_cons_succ]
    have hm4 := Lib.hid (hm2.out.below hb34)
    have P4 := Lib.hid (P2.out.below hb34)
    have U4 := Lib.hid (U2.out.below hb34)
    have hfr4 := Lib.hid (hfr2.out.trans (Fr.of_below (T := T) (a := a) hb34))
    clear hK K hb4 P2 U2 hm2 hfr2
    refine heldAny_take (i := 18) (v := ?_) rfl (by kernel_rfl) (by kernel_rfl) (by kernel_rfl) (by kernel_rfl) (fun _ _ _ h => h) (Or.inl ⟨by rfl, ?_⟩) (by assumption) ?_
    rotate_left
    · (intro wS hSw; (try dsimp only at hSw); go_split_ands; go_simp; all_goals with_reducible rfl)
    try simp only [Act.put, List.setIfInBounds_toArray]
    refine heldAny_one (i := 19) rfl (by kernel_rfl) (by kernel_rfl) (fun K hK => ?_)
    go_simp
    refine hK.out _ _ (hall.out _ (hb34.alloc hb34.size _)) (fun hS => ?_)
    try simp only [Act.put, List.setIfInBounds_toArray, List.set_cons_zero, List.set_cons_succ]
    clear hK K
    refine heldAny_one (i := 20) rfl (by kernel_rfl) (by kernel_rfl) (fun K hK => ?_)
    have hns : w4.ownsRow (T + 1) 156 6 (.slice (some ⟨g, 0, none⟩) N a.cn) N (cellsN t) := by have := hm4.out.ns; rw [hgA, hN.out] at this; exact this
    have hnew : newCells t p b x = [.int .i64 (p : Int), .int .i64 (-1), .int .i64 z1, .int .u8 (b : Int), .int .u8 (z4 : Int), .int .i64 (x : Int)] := by unfold newCells; rw [hz1.out, hz4.out]
    have hT4 := hm4.out.box.lt
    refine step_append_row _ elemNode (by rfl) (.tmp 35) (.tmp 50) (by rfl) (T + 1) _ _ _ (by rfl) (hns.alloc _) _ _ 1 1 [.int .i64 (p : Int), .int .i64 (-1), .int .i64 z1, .int .u8 (b : Int), .int .u8 (z4 : Int), .int .i64 (x : Int)] (by rfl) (Row.newAt _ _ rfl _ [.int .i64 (p : Int), .int .i64 (-1), .int .i64 z1, .int .u8 (b : Int), .int .u8 (z4 : Int), .int .i64 (x : Int)] 1 6 rfl) ?_ ?_ ?_ ?_ ?_
    · intro u hu; simp at hu; rcases hu with rfl | rfl | rfl | rfl | rfl | rfl <;> rfl
    · unfold maxLen; omega
    · omega
    · simp; omega
    · intro v5 w5 hv5 hg5 hat5
      obtain ⟨A5, c5, rfl, _, _⟩ := own_form hv5
      have hgw : g < w.heap.size := by have := hm.out.ns.lt g (by rw [hgA]; rfl); omega
      have hk5 := Keep.of_row hg5
      have hS5 : ∀ y, (Value.slice (some ⟨g, 0, none⟩) N a.cn).ownBlock = some y → y = g := fun y e => by injection e with e; exact e.symm
      have hG := hm4.out.grow6 (A' := A5) (c' := c5) (p := p) (b := b) (x := x) (w' := w5) (o := .cells #[.int .i64 (p : Int), .int .i64 (-1), .int .i64 z1, .int .u8 (b : Int), .int .u8 (z4 : Int), .int .i64 (x : Int)] 156) hnd.out (by rw [hN.out]; exact hP1) (by rw [hgA]; exact hg5) (by rw [hN.out, hnew]; exact hv5) (by rw [own_any A5, own_any (some _) N] at hat5; rw [hgA]; simpa using hat5)
      simp only [hN.out] at hG
      obtain ⟨g5, rfl, hgT5, ⟨d6, f6⟩, ⟨⟨vv, dv⟩, fv⟩, hm6, hfr6⟩ := hG
      obtain ⟨b0, b1, b2, b3, b4, b5, _, _⟩ := (show KBn w5 T (boxT k t a) from hm4.out.box.keep hk5 (fun e => by have := hS5 T e; omega)).c 0 _ rfl |> fun h0 => And.intro h0 (And.intro ((hm4.out.box.keep hk5 (fun e => by have := hS5 T e; omega)).c 1 _ rfl) (And.intro ((hm4.out.box.keep hk5 (fun e => by have := hS5 T e; omega)).c 2 _ rfl) (And.intro ((hm4.out.box.keep hk5 (fun e => by have := hS5 T e; omega)).c 3 _ rfl) (And.intro ((hm4.out.box.keep hk5 (fun e => by have := hS5 T e; omega)).c 4 _ rfl) (And.intro ((hm4.out.box.keep hk5 (fun e => by have := hS5 T e; omega)).c 5 _ rfl) (And.intro trivial trivial))))))
      have P5 := Lib.hid (P4.out.keep hk5 (fun e => by have := hS5 _ e; omega))
      have U5 := Lib.hid (U4.out.keep hk5 (fun e => by have := hS5 _ e; have := hfr1.out.keep.size; omega))
      rw [hgA] at d6
      have hfr46 := Lib.hid (hfr4.out.trans hfr6)
      have hg5H : ¬ w.heap.size = g5 := fun e => by
        have hPl := P4.out.lt
        rcases hat5 with h1 | h1
        · have h2 : some g5 = some g := h1
          injection h2 with h2
          omega
        · have h2 : some g5 = some (w4.alloc (.cells #[.int .i64 (p : Int), .int .i64 (-1), .int .i64 z1, .int .u8 (b : Int), .int .u8 (z4 : Int), .int .i64 (x : Int)] 156)).heap.size := h1
          injection h2 with h2
          rw [World.size_alloc] at h2
          omega
      have hne : ¬ g5 = T := by omega
      have hne2 : ¬ T = g5 := by omega
      refine hK.out _ _ ⟨⟨b0, b1, b2, b3, b4, b5, d6⟩, P5.out.c 1 _ rfl, U5.out.c 1 _ rfl, U5.out.c 4 _ rfl⟩ (fun hS => ?_)
      try simp only [Act.put, List.setIfInBounds_toArray]
      refine heldAny_done (by kernel_rfl) ⟨by kernel_rfl, ?_⟩
      simp only [List.drop_succ_cons, List.drop_zero]
      have hP10 : p < N + 1 := by omega
      replace hm6 := Lib.hid hm6
      replace d6 := d6
      clear hK K hS hfr6 hv5 hg5 hat5 hk5 hS5 b0 b1 b2 b3 b4 b5 hfr4 hm4 P4 U4 U5 hall
      go_upto_region 8 with (fail)
      obtain ⟨w8, hw8⟩ : ∃ W, (w5.setCell ⟨T, 6, none⟩ (.slice (some ⟨g5, 0, none⟩) (N + 1) c5)).setCell ⟨g5, p * 6 + 1, none⟩ (.int .i64 (N : Int)) = W := ⟨_, rfl⟩
      rw [hw8] at hm6 hfr46 ⊢
      have hm3 := hm6
      have hfr3 := hfr46
      have P3 : Hid (KBn w8 w.heap.size [.int .i64 (q : Int), .int .i64 (b : Int)]) := Lib.hid (by
        rw [← hw8]
        exact (P5.out.keep (S := fun y => y = T) (Keep.of_set (S := fun y => y = T) (p := ⟨T, 6, none⟩) rfl _) (by omega)).keep (S := fun y => y = g5) (Keep.of_set (S := fun y => y = g5) (p := ⟨g5, p * 6 + 1, none⟩) rfl _) hg5H)
      have hHT : w.heap.size < w8.heap.size := P3.out.lt
      obtain ⟨a1, ha1⟩ : ∃ a1 : TA, ({ a with An := some ⟨g5, 0, none⟩, cn := c5 } : TA) = a1 := ⟨_, rfl⟩
      obtain ⟨t1, ht1⟩ : ∃ t1 : Tr, ({ t.more p b x with pr := t.pr } : Tr) = t1 := ⟨_, rfl⟩
      have hH0 : ¬ a1.blk T w.heap.size := by
        subst ha1
        rintro (e | e | e | e)
        · omega
        · have e' : some g5 = some w.heap.size := e
          injection e' with e'
          omega
        · have := (hm.out.blk_lt (Or.inr (Or.inr (Or.inl e)))).2; omega
        · have := (hm.out.blk_lt (Or.inr (Or.inr (Or.inr e)))).2; omega
      have HTR : Hid (TrOk (k.push q b) { t1 with pr := t1.pr ++ [N] }) := Lib.hid (by
        have h1 := hmore.out hno
        subst ht1
        have h2 : t.more p b k.next = { ({ t.more p b x with pr := t.pr } : Tr) with pr := t.pr ++ [N] } := by
          unfold Tr.more
          rw [hx.out, hN.out]
        rw [h2] at h1
        exact h1)
      have hpr1 : t1.pr.length ≤ 2000 := by subst ht1; exact hprb
      rw [ha1, ht1] at hm3
      rw [ha1] at hfr3
      obtain ⟨n, rfl⟩ : ∃ n, n = N := ⟨N, rfl⟩
      clear hm6 hfr46 hw8 P5 d6 f6 dv fv ha1 ht1 hno hne hne2 hP10
      have hT3 := hm3.out.box.lt
      obtain ⟨b0, b1, b2, b3, b4, b5, b6, b7⟩ := hm3.out.cells
      go_wp2_with (first
        | (at_builtin; refine wpList_append_row _ elemInt rfl (.tmp 66) (.tmp 68) rfl (T + 1) _ _ _ rfl (hm3.out.pr.alloc _) _ _ 1 1 [.int .i64 (n : Int)] rfl (Row.newAt _ _ rfl _ [.int .i64 (n : Int)] 1 1 rfl) ?_ ?_ ?_ ?_ ?_))
      · intro u hu; simp at hu; subst hu; rfl
      · unfold maxLen; omega
      · omega
      · simp; omega
      · intro v6 w6 hv6 hg6 hat6
        obtain ⟨A6, c6, rfl, _, _⟩ := own_form hv6
        have hl6 : (t1.pr ++ [n]).length = t1.pr.length + 1 := by simp
        obtain ⟨⟨d7, f7⟩, hm7, hfr7⟩ := hm3.out.grow7 (pr' := t1.pr ++ [n]) (A' := A6) (c' := c6) (by rw [own_any] at hg6; exact hg6) (by rw [hl6, List.map_append]; exact hv6) (by rw [own_any A6, own_any a1.Ap] at hat6; simpa using hat6)
        rw [hl6] at hm7 hfr7
        have hH2 : ¬ ({ a1 with Ap := A6, cp := c6 } : TA).blk T w.heap.size := by
          rintro (e | e | e | e)
          · exact hH0 (Or.inl e)
          · exact hH0 (Or.inr (Or.inl e))
          · have e' : (Value.slice A6 0 0).ownBlock = some w.heap.size := e
            rw [own_any A6, own_any a1.Ap] at hat6
            rcases hat6 with h1 | h1
            · exact hH0 (Or.inr (Or.inr (Or.inl (h1.symm.trans e'))))
            · rw [e'] at h1
              injection h1 with h1
              have := P3.out.lt
              omega
          · exact hH0 (Or.inr (Or.inr (Or.inr e)))
        have hfr37 := Lib.hid (hfr3.out.trans hfr7)
        have P7 := Lib.hid (hfr7.box P3.out hH0).1
        replace hm7 := Lib.hid hm7
        clear hfr7 hv6 hg6 hat6 b0 b1 b2 b3 b4 b5 b6 b7 P3 hm3 hfr3
        go_upto_region 9 with (fail)
        obtain ⟨w7, hw7⟩ : ∃ W, w6.setCell ⟨T, 7, none⟩ (.slice A6 (t1.pr.length + 1) c6) = W := ⟨_, rfl⟩
        obtain ⟨t2, ht2⟩ : ∃ t2 : Tr, ({ t1 with pr := t1.pr ++ [n] } : Tr) = t2 := ⟨_, rfl⟩
        obtain ⟨a2, ha2⟩ : ∃ a2 : TA, ({ a1 with Ap := A6, cp := c6 } : TA) = a2 := ⟨_, rfl⟩
        rw [hw7, ht2, ha2] at hm7
        rw [hw7, ha2] at hfr37
        rw [hw7] at P7 ⊢
        rw [ha2] at hH2
        rw [ht2] at HTR
        have hak : a1.Ak = a2.Ak := by rw [← ha2]
        have hT7 := hm7.out.box.lt
        clear hw7 ht2 ha2 d7 f7 hl6
        have hall9 : Hid (∀ W, Below w7.heap.size w7 W → W.cell? ⟨T, 3, none⟩ = some (.slice a2.Ak k.ps.length a2.ck) ∧ W.cell? ⟨w.heap.size, 0, none⟩ = some (.int .i64 (q : Int)) ∧ W.cell? ⟨w.heap.size, 1, none⟩ = some (.int .i64 (b : Int))) := Lib.hid (fun W hW => ⟨(hm7.out.below hW).cells.2.2.2.1, (P7.out.below hW).c 0 _ rfl, (P7.out.below hW).c 1 _ rfl⟩)
        refine wp_region_held_tail (S := fun W => W.cell? ⟨T, 3, none⟩ = some (.slice a2.Ak k.ps.length a2.ck) ∧ W.cell? ⟨w.heap.size, 0, none⟩ = some (.int .i64 (q : Int)) ∧ W.cell? ⟨w.heap.size, 1, none⟩ = some (.int .i64 (b : Int))) 9 (by kernel_rfl) (by kernel_rfl) (hall9.out _ (Below.refl _ _).drew) (fun hS => ?_)
        refine heldAny_take (i := 0) (v := ?_) rfl (by kernel_rfl) (by kernel_rfl) (by kernel_rfl) (by kernel_rfl) (fun _ _ _ h => h) (Or.inl ⟨by rfl, ?_⟩) (by assumption) ?_
        rotate_left
        · (intro wS hSw; (try dsimp only at hSw); go_split_ands; go_simp; all_goals with_reducible rfl)
        try simp only [Act.put, List.setIfInBounds_toArray]
        refine heldAny_take (i := 1) (v := ?_) rfl (by kernel_rfl) (by kernel_rfl) (by kernel_rfl) (by kernel_rfl) (fun _ _ _ h => h) (Or.inl ⟨by rfl, ?_⟩) (by assumption) ?_
        rotate_left
        · (intro wS hSw; (try dsimp only at hSw); go_split_ands; go_simp; all_goals with_reducible rfl)
        try simp only [Act.put]
        refine heldAny_take (i := 2) (v := ?_) rfl (by kernel_rfl) (by kernel_rfl) (by kernel_rfl) (by kernel_rfl) (fun _ _ _ h => h) (Or.inl ⟨by rfl, ?_⟩) (by assumption) ?_
        rotate_left
        · (intro wS hSw; (try dsimp only at hSw); go_split_ands; go_simp; all_goals with_reducible rfl)
        try simp only [Act.put]
        refine heldAny_take (i := 3) (v := ?_) rfl (by kernel_rfl) (by kernel_rfl) (by kernel_rfl) (by kernel_rfl) (fun _ _ _ h => h) (Or.inl ⟨by rfl, ?_⟩) (by assumption) ?_
        rotate_left
        · (intro wS hSw; (try dsimp only at hSw); go_split_ands; go_simp; all_goals with_reducible rfl)
        try simp only [Act.put]
        refine heldAny_take (i := 4) (v := ?_) rfl (by kernel_rfl) (by kernel_rfl) (by kernel_rfl) (by kernel_rfl) (fun _ _ _ h => h) (Or.inl ⟨by rfl, ?_⟩) (by assumption) ?_
        rotate_left
        · (intro wS hSw; (try dsimp only at hSw); go_split_ands; go_simp; all_goals with_reducible rfl)
        try simp only [Act.put]
        refine heldAny_take (i := 5) (v := ?_) rfl (by kernel_rfl) (by kernel_rfl) (by kernel_rfl) (by kernel_rfl) (fun _ _ _ h => h) (Or.inl ⟨by rfl, ?_⟩) (by assumption) ?_
        rotate_left
        · (intro wS hSw; (try dsimp only at hSw); go_split_ands; go_simp; all_goals with_reducible rfl)
        try simp only [Act.put]
        refine heldAny_take (i := 6) (v := ?_) rfl (by kernel_rfl) (by kernel_rfl) (by kernel_rfl) (by kernel_rfl) (fun _ _ _ h => h) (Or.inl ⟨by rfl, ?_⟩) (by assumption) ?_
        rotate_left
        · (intro wS hSw; (try dsimp only at hSw); go_split_ands; go_simp; all_goals with_reducible rfl)
        try simp only [Act.put]
        refine heldAny_one (i := 7) rfl (by kernel_rfl) (by kernel_rfl) (fun K hK => ?_)
        go_simp
        refine hK.out _ _ (hall9.out _ ((Below.refl _ _).drew.alloc (Nat.le_refl _) _)) (fun hS => ?_)
        try simp only [Act.put, List.setIfInBounds_toArray, List.set_cons_zero, List.set_cons_succ]
        clear hK K
        refine heldAny_one (i := 8) rfl (by kernel_rfl) (by kernel_rfl) (fun K hK => ?_)
        have hkp : w7.drew.ownsRow (T + 1) 123 2 (.slice a2.Ak k.ps.length a2.ck) k.ps.length (cellsP k.ps) := hm7.out.drew.kp
        refine step_append_row _ elemPair (by rfl) (.tmp 77) (.tmp 79) (by rfl) (T + 1) _ _ _ (by rfl) (hkp.alloc _) _ _ 1 1 [.int .i64 (q : Int), .int .i64 (b : Int)] (by rfl) (Row.newAt _ _ rfl _ [.int .i64 (q : Int), .int .i64 (b : Int)] 1 2 rfl) ?_ ?_ ?_ ?_ ?_
        · intro u hu; simp at hu; rcases hu with rfl | rfl <;> rfl
        · unfold maxLen; omega
        · omega
        · simp; omega
        · intro v9 w9 hv9 hg9 hat9
          obtain ⟨A9, c9, rfl, _, _⟩ := own_form hv9
          have hl9 : (k.ps ++ [(q, b)]).length = k.ps.length + 1 := by simp
          replace hg9 : (w7.drew.alloc (.cells #[.int .i64 (q : Int), .int .i64 (b : Int)] 123)).grownBy w9 (Value.slice a2.Ak k.ps.length a2.ck).ownBlock := hg9
          have hk9 := Keep.of_row hg9
          have hP9 := P7.out.below (Below.refl _ _).drew
          have P9 := hP9.keep hk9 (fun e => hH2 (Or.inr (Or.inr (Or.inr (by rw [own_any] at e; exact e)))))
          obtain ⟨⟨d3, f3⟩, hm9, hfr9⟩ := hm7.out.drew.grow3 (ps' := k.ps ++ [(q, b)]) (A' := A9) (c' := c9) (by rw [own_any] at hg9; exact hg9) (by rw [hl9, cellsP_append, cellsP_one]; exact hv9) (by rw [own_any A9, own_any a2.Ak] at hat9; simpa using hat9)
          rw [hl9] at hm9 hfr9
          have hfrD : Fr T a2 a2 w7 w7.drew := Fr.of_below (Below.refl _ _).drew
          have hfrZ := Lib.hid (hfr37.out.trans (hfrD.trans hfr9))
          replace hm9 := Lib.hid hm9
          refine hK.out _ _ ⟨d3, P9.c 0 _ rfl, P9.c 1 _ rfl⟩ (fun hS => ?_)
          try simp only [Act.put, List.setIfInBounds_toArray]
          refine heldAny_done (by kernel_rfl) ⟨by kernel_rfl, ?_⟩
          simp only [List.drop_succ_cons, List.drop_zero]
          clear hK K hS hfr9 hv9 hg9 hat9 hk9 hall9 P9 hP9 hm7 P7 hkp hfrD
          go_wp2_with fail
          refine bodyPost_end (results_none rfl _ _ _) rfl ?_
          exact ⟨⟨_, rfl⟩, _, _, HTR.out, hm9.out, hfrZ.out⟩
  · have hm3 := hm1
    have hfr3 := hfr1
    have P3 := P1
    have hH0 : ¬ a.blk T w.heap.size := fun e => by have := (hm.out.blk_lt e).2; omega
    have HTR : Hid (TrOk (k.push q b) { t with pr := t.pr ++ [r] }) := Lib.hid (hsame.out r hk)
    clear hm1 P1 hfr1 q0 q1 hk
    have hT3 := hm3.out.box.lt
    obtain ⟨b0, b1, b2, b3, b4, b5, b6, b7⟩ := hm3.out.cells
    go_wp2_with (first
      | (at_builtin; refine wpList_append_row _ elemInt rfl (.tmp 66) (.tmp 68) rfl (T + 1) _ _ _ rfl (hm3.out.pr.alloc _) _ _ 1 1 [.int .i64 (r : Int)] rfl (Row.newAt _ _ rfl _ [.int .i64 (r : Int)] 1 1 rfl) ?_ ?_ ?_ ?_ ?_))
    · intro u hu; simp at hu; subst hu; rfl
    · unfold maxLen; omega
    · omega
    · simp; omega
    · intro v6 w6 hv6 hg6 hat6
      obtain ⟨A6, c6, rfl, _, _⟩ := own_form hv6
      have hl6 : (t.pr ++ [r]).length = t.pr.length + 1 := by simp
      obtain ⟨⟨d7, f7⟩, hm7, hfr7⟩ := hm3.out.grow7 (pr' := t.pr ++ [r]) (A' := A6) (c' := c6) (by rw [own_any] at hg6; exact hg6) (by rw [hl6, List.map_append]; exact hv6) (by rw [own_any A6, own_any a.Ap] at hat6; simpa using hat6)
      rw [hl6] at hm7 hfr7
      have hH2 : ¬ ({ a with Ap := A6, cp := c6 } : TA).blk T w.heap.size := by
        rintro (e | e | e | e)
        · exact hH0 (Or.inl e)
        · exact hH0 (Or.inr (Or.inl e))
        · have e' : (Value.slice A6 0 0).ownBlock = some w.heap.size := e
          rw [own_any A6, own_any a.Ap] at hat6
          rcases hat6 with h1 | h1
          · exact hH0 (Or.inr (Or.inr (Or.inl (h1.symm.trans e'))))
          · rw [e'] at h1
            injection h1 with h1
            have := P3.out.lt
            omega
        · exact hH0 (Or.inr (Or.inr (Or.inr e)))
      have hfr37 := Lib.hid (hfr3.out.trans hfr7)
      have P7 := Lib.hid (hfr7.box P3.out hH0).1
      replace hm7 := Lib.hid hm7
      clear hfr7 hv6 hg6 hat6 b0 b1 b2 b3 b4 b5 b6 b7 P3 hm3 hfr3
      go_upto_region 9 with (fail)
      obtain ⟨w7, hw7⟩ : ∃ W, w6.setCell ⟨T, 7, none⟩ (.slice A6 (t.pr.length + 1) c6) = W := ⟨_, rfl⟩
      obtain ⟨t2, ht2⟩ : ∃ t2 : Tr, ({ t with pr := t.pr ++ [r] } : Tr) = t2 := ⟨_, rfl⟩
      obtain ⟨a2, ha2⟩ : ∃ a2 : TA, ({ a with Ap := A6, cp := c6 } : TA) = a2 := ⟨_, rfl⟩
      rw [hw7, ht2, ha2] at hm7
      rw [hw7, ha2] at hfr37
      rw [hw7] at P7 ⊢
      rw [ha2] at hH2
      rw [ht2] at HTR
      have hak : a.Ak = a2.Ak := by rw [← ha2]
      have hT7 := hm7.out.box.lt
      clear hw7 ht2 ha2 d7 f7 hl6
      have hall9 : Hid (∀ W, Below w7.heap.size w7 W → W.cell? ⟨T, 3, none⟩ = some (.slice a2.Ak k.ps.length a2.ck) ∧ W.cell? ⟨w.heap.size, 0, none⟩ = some (.int .i64 (q : Int)) ∧ W.cell? ⟨w.heap.size, 1, none⟩ = some (.int .i64 (b : Int))) := Lib.hid (fun W hW => ⟨(hm7.out.below hW).cells.2.2.2.1, (P7.out.below hW).c 0 _ rfl, (P7.out.below hW).c 1 _ rfl⟩)
      refine wp_region_held_tail (S := fun W => W.cell? ⟨T, 3, none⟩ = some (.slice a2.Ak k.ps.length a2.ck) ∧ W.cell? ⟨w.heap.size, 0, none⟩ = some (.int .i64 (q : Int)) ∧ W.cell? ⟨w.heap.size, 1, none⟩ = some (.int .i64 (b : Int))) 9 (by kernel_rfl) (by kernel_rfl) (hall9.out _ (Below.refl _ _).drew) (fun hS => ?_)
      refine heldAny_take (i := 0) (v := ?_) rfl (by kernel_rfl) (by kernel_rfl) (by kernel_rfl) (by kernel_rfl) (fun _ _ _ h => h) (Or.inl ⟨by rfl, ?_⟩) (by assumption) ?_
      rotate_left
      · (intro wS hSw; (try dsimp only at hSw); go_split_ands; go_simp; all_goals with_reducible rfl)
      try simp only [Act.put, List.setIfInBounds_toArray]
      refine heldAny_take (i := 1) (v := ?_) rfl (by kernel_rfl) (by kernel_rfl) (by kernel_rfl) (by kernel_rfl) (fun _ _ _ h => h) (Or.inl ⟨by rfl, ?_⟩) (by assumption) ?_
      rotate_left
      · (intro wS hSw; (try dsimp only at hSw); go_split_ands; go_simp; all_goals with_reducible rfl)
      try simp only [Act.put]
      refine heldAny_take (i := 2) (v := ?_) rfl (by kernel_rfl) (by kernel_rfl) (by kernel_rfl) (by kernel_rfl) (fun _ _ _ h => h) (Or.inl ⟨by rfl, ?_⟩) (by assumption) ?_
      rotate_left
      · (intro wS hSw; (try dsimp only at hSw); go_split_ands; go_simp; all_goals with_reducible rfl)
      try simp only [Act.put]
      refine heldAny_take (i := 3) (v := ?_) rfl (by kernel_rfl) (by kernel_rfl) (by kernel_rfl) (by kernel_rfl) (fun _ _ _ h => h) (Or.inl ⟨by rfl, ?_⟩) (by assumption) ?_
      rotate_left
      · (intro wS hSw; (try dsimp only at hSw); go_split_ands; go_simp; all_goals with_reducible rfl)
      try simp only [Act.put]
      refine heldAny_take (i := 4) (v := ?_) rfl (by kernel_rfl) (by kernel_rfl) (by kernel_rfl) (by kernel_rfl) (fun _ _ _ h => h) (Or.inl ⟨by rfl, ?_⟩) (by assumption) ?_
      rotate_left
      · (intro wS hSw; (try dsimp only at hSw); go_split_ands; go_simp; all_goals with_reducible rfl)
      try simp only [Act.put]
      refine heldAny_take (i := 5) (v := ?_) rfl (by kernel_rfl) (by kernel_rfl) (by kernel_rfl) (by kernel_rfl) (fun _ _ _ h => h) (Or.inl ⟨by rfl, ?_⟩) (by assumption) ?_
      rotate_left
      · (intro wS hSw; (try dsimp only at hSw); go_split_ands; go_simp; all_goals with_reducible rfl)
      try simp only [Act.put]
      refine heldAny_take (i := 6) (v := ?_) rfl (by kernel_rfl) (by kernel_rfl) (by kernel_rfl) (by kernel_rfl) (fun _ _ _ h => h) (Or.inl ⟨by rfl, ?_⟩) (by assumption) ?_
      rotate_left
      · (intro wS hSw; (try dsimp only at hSw); go_split_ands; go_simp; all_goals with_reducible rfl)
      try simp only [Act.put]
      refine heldAny_one (i := 7) rfl (by kernel_rfl) (by kernel_rfl) (fun K hK => ?_)
      go_simp
      refine hK.out _ _ (hall9.out _ ((Below.refl _ _).drew.alloc (Nat.le_refl _) _)) (fun hS => ?_)
      try simp only [Act.put, List.setIfInBounds_toArray, List.set_cons_zero, List.set_cons_succ]
      clear hK K
      refine heldAny_one (i := 8) rfl (by kernel_rfl) (by kernel_rfl) (fun K hK => ?_)
      have hkp : w7.drew.ownsRow (T + 1) 123 2 (.slice a2.Ak k.ps.length a2.ck) k.ps.length (cellsP k.ps) := hm7.out.drew.kp
      refine step_append_row _ elemPair (by rfl) (.tmp 77) (.tmp 79) (by rfl) (T + 1) _ _ _ (by rfl) (hkp.alloc _) _ _ 1 1 [.int .i64 (q : Int), .int .i64 (b : Int)] (by rfl) (Row.newAt _ _ rfl _ [.int .i64 (q : Int), .int .i64 (b : Int)] 1 2 rfl) ?_ ?_ ?_ ?_ ?_
      · intro u hu; simp at hu; rcases hu with rfl | rfl <;> rfl
      · unfold maxLen; omega
      · omega
      · simp; omega
      · intro v9 w9 hv9 hg9 hat9
        obtain ⟨A9, c9, rfl, _, _⟩ := own_form hv9
        have hl9 : (k.ps ++ [(q, b)]).length = k.ps.length + 1 := by simp
        replace hg9 : (w7.drew.alloc (.cells #[.int .i64 (q : Int), .int .i64 (b : Int)] 123)).grownBy w9 (Value.slice a2.Ak k.ps.length a2.ck).ownBlock := hg9
        have hk9 := Keep.of_row hg9
        have hP9 := P7.out.below (Below.refl _ _).drew
        have P9 := hP9.keep hk9 (fun e => hH2 (Or.inr (Or.inr (Or.inr (by rw [own_any] at e; exact e)))))
        obtain ⟨⟨d3, f3⟩, hm9, hfr9⟩ := hm7.out.drew.grow3 (ps' := k.ps ++ [(q, b)]) (A' := A9) (c' := c9) (by rw [own_any] at hg9; exact hg9) (by rw [hl9, cellsP_append, cellsP_one]; exact hv9) (by rw [own_any A9, own_any a2.Ak] at hat9; simpa using hat9)
        rw [hl9] at hm9 hfr9
        have hfrD : Fr T a2 a2 w7 w7.drew := Fr.of_below (Below.refl _ _).drew
        have hfrZ := Lib.hid (hfr37.out.trans (hfrD.trans hfr9))
        replace hm9 := Lib.hid hm9
        refine hK.out _ _ ⟨d3, P9.c 0 _ rfl, P9.c 1 _ rfl⟩ (fun hS => ?_)
        try simp only [Act.put, List.setIfInBounds_toArray]
        refine heldAny_done (by kernel_rfl) ⟨by kernel_rfl, ?_⟩
        simp only [List.drop_succ_cons, List.drop_zero]
        clear hK K hS hfr9 hv9 hg9 hat9 hk9 hall9 P9 hP9 hm7 P7 hkp hfrD
        go_wp2_with fail
        refine bodyPost_end (results_none rfl _ _ _) rfl ?_
        exact ⟨⟨_, rfl⟩, _, _, HTR.out, hm9.out, hfrZ.out⟩

end Go.Proofs.YthlgpgaeajfchaaGreatDoor
