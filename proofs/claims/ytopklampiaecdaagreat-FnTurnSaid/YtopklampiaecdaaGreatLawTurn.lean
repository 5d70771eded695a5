/-
  The program's CountRaw, of a container that is read.
  The walk of the law FnTurn.
-/
import Derived.Test.YtopklampiaecdaaGreatPropP
import Derived.Test.YtopklampiaecdaaGreatTurn
import Derived.Test.YtopklampiaecdaaGreatTurnSpec
import Derived.Test.YtopklampiaecdaaGreatImplData
import Derived.Test.YtopklampiaecdaaGreatDrawsC
import Derived.Test.YtopklampiaecdaaGreatTreeMem

namespace Go.Proofs.YtopklampiaecdaaGreat
open Go.RowKit
set_option linter.unusedVariables false
set_option linter.unusedSimpArgs false
set_option maxRecDepth 100000

theorem rawN_take (bs : List Blk) (j : Nat) (b : Blk) (hb : bs[j]? = some b) : rawN (bs.take (j + 1)) = rawN (bs.take j) + (if b.raw then 1 else 0) := by
  unfold rawN
  obtain ⟨hi, e⟩ := List.getElem?_eq_some_iff.1 hb
  rw [List.take_succ_eq_append_getElem hi, e, List.map_append, List.count_append]
  show _ + List.count true [b.raw] = _
  cases b.raw <;> rfl

theorem rawN_le (bs : List Blk) : rawN bs ≤ bs.length := by
  unfold rawN
  have := List.count_le_length (a := true) (l := bs.map (·.raw))
  rwa [List.length_map] at this

set_option maxHeartbeats 4000000 in
theorem implCountRaw (s : ByteArray) (bs : List Blk) (w : World) (hs : s.size ≤ 1048576) (h : contB s = some bs) :
    Calls Tryz.prog 43 #[.string s] w fun e w' => e = .returned (.int .i64 (rawN bs : Int)) ∧ Below w.heap.size w w' := by
  have hnum := contB_numbered h
  have h40 := hnum.length
  obtain ⟨n, hn⟩ : ∃ n, bs.length = n := ⟨_, rfl⟩
  have H1 := Lib.hid (fun W => implContainerBlocksYes s bs n W hs h hn)
  rw [hn] at h40
  replace hn := Lib.hid hn
  clear h hnum
  go_enter Tryz.func43, Tryz.ntmps43
  go_wp2_with fail
  refine (H1.out _).mono ?_
  rintro e w1 ⟨A1, c1, rfl, ho1, hb1⟩
  have hr := Lib.hid (Row.of_own ho1)
  replace hb1 := Lib.hid hb1
  clear ho1
  go_wp2_with fail
  go_loopw [5, 17] (fun v i wr => ∃ j : Nat, j ≤ n ∧ i = .int .i64 (j : Int) ∧ v = .int .i64 (rawN (bs.take j) : Int) ∧ Hid (Below w1.heap.size w1 wr)) (fun _ i _ => n - (intOf i).toNat)
  case atStart => exact ⟨0, Nat.zero_le _, rfl, rfl, Lib.hid (Below.refl _ _)⟩
  case round =>
    obtain ⟨j, hj, rfl, rfl, hbel⟩ := hrel
    have hwz := hbel.out.size
    by_cases hlt : j < n
    · obtain ⟨b, hb⟩ : ∃ b, bs[j]? = some b := ⟨_, List.getElem?_eq_getElem (by rw [hn.out]; exact hlt)⟩
      obtain ⟨g, off, rfl, hg, p0, p1, p2, p3⟩ := (hr.out.below hbel.out (Nat.le_refl _)).blk (num := b.num) (raw := b.raw) (size := b.size) (body := b.body) hlt hb
      have ht := rawN_take bs j b hb
      have hle := rawN_le (bs.take j)
      rw [List.length_take] at hle
      obtain ⟨x0, hx0⟩ : ∃ x : Nat, b.num = x := ⟨_, rfl⟩
      obtain ⟨x1, hx1⟩ : ∃ x, b.raw = x := ⟨_, rfl⟩
      obtain ⟨x2, hx2⟩ : ∃ x : Nat, b.size = x := ⟨_, rfl⟩
      obtain ⟨x3, hx3⟩ : ∃ x, b.body = x := ⟨_, rfl⟩
      rw [hx0] at p0
      rw [hx1] at p1 ht
      rw [hx2] at p2
      rw [hx3] at p3
      obtain ⟨q, hq⟩ : ∃ q, rawN (bs.take j) = q := ⟨_, rfl⟩
      obtain ⟨q', hq'⟩ : ∃ q, rawN (bs.take (j + 1)) = q := ⟨_, rfl⟩
      rw [hq, hq'] at ht
      rw [hq] at hle ⊢
      have hj0 : (0 : Int) ≤ j := by omega
      have hji : (j : Int) < n := by omega
      have hbel2 := Lib.hid (hbel.out.alloc hwz (.cells #[.int .i64 (x0 : Int), .bool x1, .int .i64 (x2 : Int), .string x3] 71))
      replace hq' := Lib.hid hq'
      clear hq hb hx0 hx1 hx2 hx3
      cases x1 with
      | true =>
        have e1 : (q : Int) + 1 = q' := by simp at ht; omega
        have we : IntKind.i64.wrap (q' : Int) = q' := IntWalk.i64_in _ (by simp at ht; omega)
        clear ht
        go_wp2_with fail
        go_roundw
        case rel => exact ⟨j + 1, by omega, by go_num, by rw [hq'.out], hbel2⟩
        case measure => simp [intOf]; omega
      | false =>
        have e1 : q' = q := by simp at ht; omega
        clear ht
        go_wp2_with fail
        go_roundw
        case rel => exact ⟨j + 1, by omega, by go_num, by rw [hq'.out, e1], hbel2⟩
        case measure => simp [intOf]; omega
    · have ht : bs.take j = bs := List.take_of_length_le (by rw [hn.out]; omega)
      rw [ht]
      clear ht
      have hji : ¬ ((j : Int) < n) := by omega
      go_wp2_with fail
      go_ret
      exact ⟨rfl, hb1.out.trans (hbel.out.mono hb1.out.size)⟩

end Go.Proofs.YtopklampiaecdaaGreat

namespace Go.Proofs.YtopklampiaecdaaGreat
open Go.RowKit
set_option linter.unusedVariables false
set_option linter.unusedSimpArgs false
set_option maxRecDepth 100000

/-- What turning makes, and what it is turned back into. -/
theorem turn_law {o l m : Int} {d : List UInt8} {s x : ByteArray} (h : turnC o l m d (contB s) = some x) :
    ∃ (o2 : Int) (D : List UInt8) (y : ByteArray) (bs cs : List Blk), (1 : Int) - o = o2 ∧ (o2 = 0 ∨ o2 = 1) ∧ contB s = some bs ∧ contB x = some cs ∧ contD o l m d (some bs) = some D ∧ contD o2 l m d (some cs) = some D ∧
      turnC o2 l m d (some cs) = some y ∧ turnC o l m d (contB y) = some x ∧ s.size ≤ 2960 ∧ x.size ≤ 2960 ∧ y.size ≤ s.size ∧ rawN cs = rawN bs := by
  unfold turnC at h
  cases hbs : contB s with
  | none => rw [hbs] at h; cases h
  | some bs =>
    rw [hbs] at h
    simp only at h
    by_cases hf : dfits o l m d
    · rw [if_pos hf] at h
      obtain ⟨on, rfl⟩ : ∃ n : Nat, o = n := ⟨o.toNat, by have := hf.1.1; omega⟩
      obtain ⟨ln, rfl⟩ : ∃ n : Nat, l = n := ⟨l.toNat, by have := hf.1.2.1; omega⟩
      obtain ⟨mn, rfl⟩ : ∃ n : Nat, m = n := ⟨m.toNat, by have := hf.1.2; omega⟩
      have hkd : kdict on ln mn d = Kn.dict on ln mn d := rfl
      rw [hkd] at h
      obtain ⟨hok, h40, hz, htx, hs⟩ := contB_ok hbs
      have hkv := (Kn.dict_fresh hf).1.val
      cases hc : (Kn.dict on ln mn d).turnL bs with
      | none => rw [hc] at h; cases h
      | some cs =>
        rw [hc] at h
        have hx : textsFrom 0 cs = x := by injection h
        obtain ⟨c1, c2, c3, c4, c5, ⟨D, c6, c7⟩, c8, es, j1, j2, j3, j4, j5, j6⟩ := turnL_back hkv bs cs hok hc
        have hxb : contB x = some (renumL 0 cs) := by rw [← hx]; exact contB_texts c1 (by omega) (by omega)
        have hyb : contB (textsFrom 0 es) = some (renumL 0 es) := contB_texts j3 (by omega) (by omega)
        obtain ⟨f1, f2, f3, f4⟩ := dfits_flip hf
        have hk2 : kdict ((1 - on : Nat) : Int) ln mn d = (Kn.dict on ln mn d).flip := flip_dict on ln mn d
        have ss : s.size = txl bs := by rw [← htx]; exact textsFrom_txl bs 0
        have sx : x.size = txl cs := by rw [← hx]; exact textsFrom_txl cs 0
        refine ⟨((1 - on : Nat) : Int), D, textsFrom 0 es, bs, renumL 0 cs, f3, by omega, rfl, hxb, ?_, ?_, ?_, ?_, hs, by omega, by rw [textsFrom_txl]; omega, ?_⟩
        · show (if _ then _ else _) = _
          rw [if_pos hf, hkd]; exact c6
        · show (if _ then _ else _) = _
          rw [if_pos f1, hk2, Kn.datas_renumL]; exact c7
        · show (if _ then _ else _) = _
          rw [if_pos f1, hk2, turnL_renumL, j1]
          show some (textsFrom 0 (renumL 0 es)) = _
          rw [textsFrom_renumL']
        · rw [hyb]
          show (if _ then _ else _) = _
          rw [if_pos hf, hkd, turnL_renumL, j2]
          show some (textsFrom 0 (renumL 0 cs)) = _
          rw [textsFrom_renumL', hx]
        · unfold rawN
          rw [renumL_raw, c4]
    · rw [if_neg hf] at h; cases h

set_option maxHeartbeats 4000000 in
theorem lawFnTurn (A : Option Addr) (n c : Nat) (bs : List UInt8) (w : World) (h : ByteRow w A n bs) (hnc : n ≤ c) :
    Calls Tryz.prog 14 #[.slice A n c] w fun e w' => e = .returned (.bool true) ∧ Below w.heap.size w w' := by
  have hle := h.le
  unfold maxLen at hle
  by_cases hn : n ≤ 1048576
  · have gn := decide_eq_false (p := (1048576 : Int) < n) (by omega)
    have gn2 := decide_eq_false (p := 1048576 < n) (by omega)
    go_enter Tryz.func14, Tryz.ntmps14
    go_wp2_with fail
    refine (specDrawTurnContainer A n c bs _ h hnc).mono ?_
    rintro e w1 ⟨o, l, m, d, s, rfl, hd, hs, hb1⟩
    have kb2 := KBn.start w1 26 [.int .i64 o, .int .i64 l, .int .i64 m]
    have hW2 := hb1.alloc hb1.size (.cells #[.int .i64 o, .int .i64 l, .int .i64 m] 26)
    change KBn (w1.alloc (.cells #[.int .i64 o, .int .i64 l, .int .i64 m] 26)) _ _ at kb2
    clear hb1 h
    go_upto_region 4 with (fail)
    obtain ⟨G, hG⟩ : ∃ G, w1.heap.size = G := ⟨_, rfl⟩
    obtain ⟨w2, hw2⟩ : ∃ W, w1.alloc (.cells #[.int .i64 o, .int .i64 l, .int .i64 m] 26) = W := ⟨_, rfl⟩
    rw [hw2] at kb2 hW2 ⊢
    rw [hG] at kb2 ⊢
    clear hw2 hG
    replace kb2 := Lib.hid kb2
    replace hW2 := Lib.hid hW2
    have HI := fun W => implTurnContainer o l m d s W (by omega) (by omega)
    have HS := fun W => specTurnContainer o l m d s W (by omega) (by omega)
    have hW2s := Lib.hid hW2.out.size
    rcases hT : turnC o l m d.data.toList (contB s) with _ | x
    · rw [hT] at HI HS
      unfold optV at HI HS
      replace HI := Lib.hid HI
      replace HS := Lib.hid HS
      clear hT
      have qkb0 := kb2.out.c 0 _ rfl
      have qkb1 := kb2.out.c 1 _ rfl
      have qkb2 := kb2.out.c 2 _ rfl
      go_wp2_with fail
      refine (HI.out _).mono ?_
      rintro e w3 ⟨rfl, hb3⟩
      have hW3 := Lib.hid (hW2.out.trans (hb3.mono hW2.out.size))
      have kb3 := Lib.hid (kb2.out.below hb3)
      clear hb3 hW2 kb2 qkb0 qkb1 qkb2
      have qkb0 := kb3.out.c 0 _ rfl
      have qkb1 := kb3.out.c 1 _ rfl
      have qkb2 := kb3.out.c 2 _ rfl
      go_wp2_with fail
      refine (HS.out _).mono ?_
      rintro e w4 ⟨rfl, hb4⟩
      have hW4 := Lib.hid (hW3.out.trans (hb4.mono hW3.out.size))
      have kb4 := Lib.hid (kb3.out.below hb4)
      clear hb4 hW3 kb3 qkb0 qkb1 qkb2
      go_wp2_with fail
      go_ret
      exact ⟨rfl, hW4.out⟩
    · rw [hT] at HI HS
      obtain ⟨o2, D, y, p, q, ho2, ho01, hp, hq, e1, e2, e3, e4, s1, s2, s3, hraw⟩ := turn_law hT
      have H1 := fun W => implContainerData o l m d s W (by omega) (by omega)
      have H2 := fun W => implContainerData o2 l m d x W (by omega) (by omega)
      have H3 := fun W => implTurnContainer o2 l m d x W (by omega) (by omega)
      have H4 := fun W => implTurnContainer o l m d y W (by omega) (by omega)
      have H5 := fun W => implCountRaw x q W (by omega) hq
      have H6 := fun W => implCountRaw s p W (by omega) hp
      rw [hp, e1] at H1
      rw [hq, e2] at H2
      rw [hq, e3] at H3
      rw [e4] at H4
      rw [hraw] at H5
      obtain ⟨R, hR⟩ : ∃ R, rawN p = R := ⟨_, rfl⟩
      rw [hR] at H5 H6
      unfold optV at HI HS H3 H4
      simp only [Option.getD_some, Option.isSome_some] at HI HS H1 H2 H3 H4
      obtain ⟨DD, hDD⟩ : ∃ DD, bsL D = DD := ⟨_, rfl⟩
      rw [hDD] at H1 H2
      have wo2 : IntKind.i64.wrap o2 = o2 := IntWalk.i64_in _ (by omega)
      have gl := decide_eq_true (p := (y.size : Int) ≤ (s.size : Int)) (by omega)
      have gl2 := decide_eq_true (p := y.size ≤ s.size) s3
      replace HI := Lib.hid HI
      replace HS := Lib.hid HS
      replace H1 := Lib.hid H1
      replace H2 := Lib.hid H2
      replace H3 := Lib.hid H3
      replace H4 := Lib.hid H4
      replace H5 := Lib.hid H5
      replace H6 := Lib.hid H6
      clear hT hp hq e1 e2 e3 e4 s3 hraw hR hDD ho01
      have qkb0 := kb2.out.c 0 _ rfl
      have qkb1 := kb2.out.c 1 _ rfl
      have qkb2 := kb2.out.c 2 _ rfl
      go_wp2_with fail
      refine (HI.out _).mono ?_
      rintro e w3 ⟨rfl, hb3⟩
      have hW3 := Lib.hid (hW2.out.trans (hb3.mono hW2.out.size))
      have kb3 := Lib.hid (kb2.out.below hb3)
      clear hb3 hW2 kb2 qkb0 qkb1 qkb2
      have qkb0 := kb3.out.c 0 _ rfl
      have qkb1 := kb3.out.c 1 _ rfl
      have qkb2 := kb3.out.c 2 _ rfl
      go_wp2_with fail
      refine (HS.out _).mono ?_
      rintro e w4 ⟨rfl, hb4⟩
      have hW4 := Lib.hid (hW3.out.trans (hb4.mono hW3.out.size))
      have kb4 := Lib.hid (kb3.out.below hb4)
      clear hb4 hW3 kb3 qkb0 qkb1 qkb2
      have q0 := kb4.out.c 0 _ rfl
      have q1 := kb4.out.c 1 _ rfl
      have q2 := kb4.out.c 2 _ rfl
      have pb5 := KBn.start w4 26 [.int .i64 o, .int .i64 l, .int .i64 m]
      change KBn (w4.alloc (.cells #[.int .i64 o, .int .i64 l, .int .i64 m] 26)) _ _ at pb5
      have kb5 := kb4.out.alloc (.cells #[.int .i64 o, .int .i64 l, .int .i64 m] 26)
      have hW5 := hW4.out.alloc hW4.out.size (.cells #[.int .i64 o, .int .i64 l, .int .i64 m] 26)
      have hne5 := kb4.out.lt
      have hge5 := hW4.out.size
      clear kb4 hW4
      go_upto_region 9 with (fail)
      clear q0 q1 q2
      obtain ⟨G2, hG2⟩ : ∃ G, w4.heap.size = G := ⟨_, rfl⟩
      obtain ⟨w5, hw5⟩ : ∃ W, w4.alloc (.cells #[.int .i64 o, .int .i64 l, .int .i64 m] 26) = W := ⟨_, rfl⟩
      rw [hw5] at kb5 hW5 pb5 ⊢
      rw [hG2] at pb5 hne5 hge5 ⊢
      clear hw5 hG2
      have q0 := kb5.c 0 _ rfl
      have f0 := pb5.f 0 _ rfl
      have p0 := pb5.c 0 _ rfl
      have kb6 := kb5.keep (S := fun x => x = G2) (Keep.of_set (S := fun x => x = G2) (w := w5) (p := ⟨G2, 0, none⟩) rfl (.int .i64 o2)) (by omega)
      have pb6 := pb5.set (j := 0) rfl (.int .i64 o2)
      have hW6 := hW5.setCell (p := ⟨G2, 0, none⟩) hge5 (.int .i64 o2)
      change KBn _ _ [.int .i64 o2, .int .i64 l, .int .i64 m] at pb6
      clear kb5 pb5 hW5
      go_upto_region 10 with (fail)
      clear q0 f0 p0
      obtain ⟨w6, hw6⟩ : ∃ W, w5.setCell ⟨G2, 0, none⟩ (.int .i64 o2) = W := ⟨_, rfl⟩
      rw [hw6] at kb6 pb6 hW6 ⊢
      clear hw6
      replace kb6 := Lib.hid kb6
      replace pb6 := Lib.hid pb6
      replace hW6 := Lib.hid hW6
      clear ho2 wo2
      have qkb0 := kb6.out.c 0 _ rfl
      have qkb1 := kb6.out.c 1 _ rfl
      have qkb2 := kb6.out.c 2 _ rfl
      have qpb0 := pb6.out.c 0 _ rfl
      have qpb1 := pb6.out.c 1 _ rfl
      have qpb2 := pb6.out.c 2 _ rfl
      go_wp2_with fail
      refine (H1.out _).mono ?_
      rintro e w7 ⟨rfl, hb7⟩
      have hW7 := Lib.hid (hW6.out.trans (hb7.mono hW6.out.size))
      have kb7 := Lib.hid (kb6.out.below hb7)
      have pb7 := Lib.hid (pb6.out.below hb7)
      clear hb7 hW6 kb6 pb6 qkb0 qkb1 qkb2 qpb0 qpb1 qpb2
      have qkb0 := kb7.out.c 0 _ rfl
      have qkb1 := kb7.out.c 1 _ rfl
      have qkb2 := kb7.out.c 2 _ rfl
      have qpb0 := pb7.out.c 0 _ rfl
      have qpb1 := pb7.out.c 1 _ rfl
      have qpb2 := pb7.out.c 2 _ rfl
      go_wp2_with fail
      refine (H2.out _).mono ?_
      rintro e w8 ⟨rfl, hb8⟩
      have hW8 := Lib.hid (hW7.out.trans (hb8.mono hW7.out.size))
      have kb8 := Lib.hid (kb7.out.below hb8)
      have pb8 := Lib.hid (pb7.out.below hb8)
      clear hb8 hW7 kb7 pb7 qkb0 qkb1 qkb2 qpb0 qpb1 qpb2
      have qkb0 := kb8.out.c 0 _ rfl
      have qkb1 := kb8.out.c 1 _ rfl
      have qkb2 := kb8.out.c 2 _ rfl
      have qpb0 := pb8.out.c 0 _ rfl
      have qpb1 := pb8.out.c 1 _ rfl
      have qpb2 := pb8.out.c 2 _ rfl
      go_wp2_with fail
      refine (H3.out _).mono ?_
      rintro e w9 ⟨rfl, hb9⟩
      have hW9 := Lib.hid (hW8.out.trans (hb9.mono hW8.out.size))
      have kb9 := Lib.hid (kb8.out.below hb9)
      have pb9 := Lib.hid (pb8.out.below hb9)
      clear hb9 hW8 kb8 pb8 qkb0 qkb1 qkb2 qpb0 qpb1 qpb2
      have qkb0 := kb9.out.c 0 _ rfl
      have qkb1 := kb9.out.c 1 _ rfl
      have qkb2 := kb9.out.c 2 _ rfl
      have qpb0 := pb9.out.c 0 _ rfl
      have qpb1 := pb9.out.c 1 _ rfl
      have qpb2 := pb9.out.c 2 _ rfl
      go_wp2_with fail
      refine (H4.out _).mono ?_
      rintro e w10 ⟨rfl, hb10⟩
      have hW10 := Lib.hid (hW9.out.trans (hb10.mono hW9.out.size))
      have kb10 := Lib.hid (kb9.out.below hb10)
      have pb10 := Lib.hid (pb9.out.below hb10)
      clear hb10 hW9 kb9 pb9 qkb0 qkb1 qkb2 qpb0 qpb1 qpb2
      have qkb0 := kb10.out.c 0 _ rfl
      have qkb1 := kb10.out.c 1 _ rfl
      have qkb2 := kb10.out.c 2 _ rfl
      have qpb0 := pb10.out.c 0 _ rfl
      have qpb1 := pb10.out.c 1 _ rfl
      have qpb2 := pb10.out.c 2 _ rfl
      go_wp2_with fail
      refine (H5.out _).mono ?_
      rintro e w11 ⟨rfl, hb11⟩
      have hW11 := Lib.hid (hW10.out.trans (hb11.mono hW10.out.size))
      have kb11 := Lib.hid (kb10.out.below hb11)
      have pb11 := Lib.hid (pb10.out.below hb11)
      clear hb11 hW10 kb10 pb10 qkb0 qkb1 qkb2 qpb0 qpb1 qpb2
      have qkb0 := kb11.out.c 0 _ rfl
      have qkb1 := kb11.out.c 1 _ rfl
      have qkb2 := kb11.out.c 2 _ rfl
      have qpb0 := pb11.out.c 0 _ rfl
      have qpb1 := pb11.out.c 1 _ rfl
      have qpb2 := pb11.out.c 2 _ rfl
      go_wp2_with fail
      refine (H6.out _).mono ?_
      rintro e w12 ⟨rfl, hb12⟩
      have hW12 := Lib.hid (hW11.out.trans (hb12.mono hW11.out.size))
      have kb12 := Lib.hid (kb11.out.below hb12)
      have pb12 := Lib.hid (pb11.out.below hb12)
      clear hb12 hW11 kb11 pb11 qkb0 qkb1 qkb2 qpb0 qpb1 qpb2
      go_wp2_with fail
      go_ret
      exact ⟨rfl, hW12.out⟩
  · have gn := decide_eq_true (p := (1048576 : Int) < n) (by omega)
    have gn2 := decide_eq_true (p := 1048576 < n) (by omega)
    clear h
    go_enter Tryz.func14, Tryz.ntmps14
    go_wp2_with fail
    go_ret
    exact ⟨rfl, Below.refl _ _⟩

end Go.Proofs.YtopklampiaecdaaGreat
