/-
  The reference's l2Greedy.
-/
import Derived.Test.YtopklampiaecdaaGreatWordsG
namespace Go.Proofs.YtopklampiaecdaaGreat
open Go.RowKit
set_option linter.unusedVariables false

/-- The state of l2Greedy's loop. -/
structure Gr (k : Kn) (L : List UInt8) (w0 : World) (H : Nat) (k' : Kn) (A : Option Addr) (c : Nat) (d : List UInt8) (cs : List Nat) (v : Value) (w : World) : Prop where
  val : k'.Valid
  like : k.Like k'
  fit : k'.fits d
  box : KB w H (.int .i64 (k.o : Int)) (.int .i64 (k.l : Int)) (.int .i64 (k.m : Int)) (.slice A k'.ps.length c) (.int .i64 (k.base : Int)) (.int .i64 k'.lastI)
  lies : k'.Lies w A H v
  cap : k'.ps.length ≤ c
  own : w.ownsRow (H + 1) 3 1 v cs.length (cs.map natV)
  bel : Below H w0 w
  sem : ∃ f, d.length ≤ f ∧ k.greedy L = cs ++ greedyF f k' d
  len : d.length ≤ L.length

theorem Kn.Like.val {k k' : Kn} (h : k.Like k') (A : Option Addr) (c : Nat) : k'.val A c = .agg #[.int .i64 (k.o : Int), .int .i64 (k.l : Int), .int .i64 (k.m : Int), .slice A k'.ps.length c, .int .i64 (k.base : Int), .int .i64 k'.lastI] := by
  unfold Kn.val; rw [h.o, h.l, h.m, h.base]

theorem Kn.val_eq (k : Kn) (A : Option Addr) (c : Nat) : k.val A c = .agg #[.int .i64 (k.o : Int), .int .i64 (k.l : Int), .int .i64 (k.m : Int), .slice A k.ps.length c, .int .i64 (k.base : Int), .int .i64 k.lastI] := rfl

theorem kb_lt' {k : Kn} {L : List UInt8} {w0 : World} {H : Nat} {k' : Kn} {A : Option Addr} {c : Nat} {d : List UInt8} {cs : List Nat} {v : Value} {w : World} (h : Gr k L w0 H k' A c d cs v w) : H < w.heap.size := h.box.lt

set_option maxHeartbeats 8000000 in
theorem specL2Greedy (k : Kn) (A : Option Addr) (c B : Nat) (L : List UInt8) (w : World) (h : k.Valid) (hA : k.At w B A) (hB : B ≤ w.heap.size) (hc : k.ps.length ≤ c) (hf : k.fits L) (hL : L.length ≤ 2000) :
    Calls Tryz.prog 190 #[k.val A c, .string (bsL L)] w fun e w' => ∃ A' c', e = .returned (.slice A' (k.greedy L).length c') ∧ w'.ownsRow w.heap.size 3 1 (.slice A' (k.greedy L).length c') (k.greedy L).length ((k.greedy L).map natV) ∧ Below w.heap.size w w' := by
  have hpw := h.pow
  have hl8 := h.lit8
  have hm10 := h.most10
  have HC := fun W => specL1Clear k.o k.l k.m W (by omega)
  unfold setV at HC
  have hcl : 2 ^ k.l = k.clear := rfl
  rw [hcl] at HC
  have HE := fun W => specL1End k.o k.l k.m W (by omega)
  have hfe : 2 ^ k.l + 1 = k.fin := rfl
  rw [hfe] at HE
  have HT := fun W => specL1Last k.o k.l k.m W (by omega)
  have hte : 2 ^ k.m - 1 = k.top := rfl
  rw [hte] at HT
  have HD := fun (W : World) (hb : Below w.heap.size w W) => specL2Cleared k A c B W h (hA.below hb hB) (Nat.le_trans hB hb.size) hc
  simp only [Kn.val_eq k A c] at HD
  have hgs := (Kn.greedy_spec h hf).2.2
  replace HC := Lib.hid HC
  replace HE := Lib.hid HE
  replace HT := Lib.hid HT
  replace HD := Lib.hid HD
  replace h := Lib.hid h
  replace hf := Lib.hid hf
  rw [Kn.val_eq]
  clear hl8 hm10 hcl hfe hte hA
  go_enter Tryz.func190, Tryz.ntmps190
  go_wp2_with fail
  refine (HC.out _).mono ?_
  rintro e w1 ⟨rfl, hb1⟩
  have kb1 := (KB.start w 64 _ _ _ _ _ _).below hb1
  have hB1 : Below w.heap.size w w1 := ((Below.refl _ _).alloc (Nat.le_refl _) _).trans (hb1.mono (by simp))
  have hs1 := kb1.lt
  have kb2 := kb1.alloc (.cells #[.int .i64 (k.clear : Int)] 3)
  have hv2 := World.ownsRow_lit (base := w.heap.size + 1) (size := 1) (e := 3) w1 #[.int .i64 (k.clear : Int)] 1 (by omega) (by unfold maxLen; omega) (by simp)
  have kb2c := kb2
  obtain ⟨⟨q0, q1, q2, q3, q4, q5⟩, z0, z1, z2, z3, z4, z5⟩ := kb2c
  clear hb1
  go_wp2_with fail
  refine (HD.out _ (hB1.alloc (by omega) _)).mono ?_
  rintro e w3 ⟨A2, c2, rfl, hown, hb3⟩
  have kb3 := kb2.below hb3
  have hv3 := own_below hv2 hb3 (Nat.le_refl _)
  have hB3 := (hB1.alloc (by omega) (.cells #[.int .i64 (k.clear : Int)] 3)).trans (hb3.mono (by simp; omega))
  have hl3 : k.cleared.Lies w3 A2 w.heap.size (.slice (some ⟨w1.heap.size, 0, none⟩) 1 1) := Kn.Lies.of_own hown (by simp; omega) (fun g hg => by simp [Value.ownBlock] at hg; simp; omega)
  have hcp := hown.cap
  have GR : Hid (Gr k L w w.heap.size k.cleared A2 c2 L [k.clear] (.slice (some ⟨w1.heap.size, 0, none⟩) 1 1) (set6 w3 w.heap.size (.int .i64 (k.o : Int)) (.int .i64 (k.l : Int)) (.int .i64 (k.m : Int)) (.slice A2 k.cleared.ps.length c2) (.int .i64 (k.base : Int)) (.int .i64 k.cleared.lastI))) :=
    Lib.hid ⟨Kn.cleared_valid h.out, k.like_cleared, k.like_cleared.fits hf.out, kb3.set _ _ _ _ _ _, lies_set6 hl3 _ _ _ _ _ _, hcp, own_set6 hv3 (by omega) _ _ _ _ _ _, below_set6 hB3 (Nat.le_refl _) _ _ _ _ _ _, ⟨L.length, Nat.le_refl _, rfl⟩, Nat.le_refl _⟩
  have kb3c := kb3
  clear q0 q1 q2 q3 q4 q5 z0 z1 z2 z3 z4 z5
  obtain ⟨⟨q0, q1, q2, q3, q4, q5⟩, z0, z1, z2, z3, z4, z5⟩ := kb3c
  rw [k.like_cleared.val]
  clear kb1 kb2 kb3 hv2 hv3 hB1 hB3 hl3 hcp hown hb3 HD
  go_wp2_with fail
  go_loopw [1, 5] (fun u v wr => ∃ (k' : Kn) (A' : Option Addr) (c' : Nat) (d : List UInt8) (cs : List Nat) (Av : Option Addr) (cv : Nat), u = .string (bsL d) ∧ v = .slice Av cs.length cv ∧ Hid (Gr k L w w.heap.size k' A' c' d cs v wr)) (fun u _ _ => szOf u)
  case atStart => exact ⟨k.cleared, A2, c2, L, [k.clear], _, _, rfl, rfl, GR⟩
  case round =>
    clear GR q0 q1 q2 q3 q4 q5 z0 z1 z2 z3 z4 z5
    obtain ⟨k', A', c', d, cs, Av, cv, rfl, rfl, hgr⟩ := hrel
    have hlen : cs.length ≤ 4002 := by
      obtain ⟨f, _, hs⟩ := hgr.out.sem
      have := congrArg List.length hs
      rw [List.length_append] at this
      omega
    have hdl := hgr.out.len
    have kbc := hgr.out.box
    obtain ⟨⟨q0, q1, q2, q3, q4, q5⟩, z0, z1, z2, z3, z4, z5⟩ := kbc
    have hcmp : d.isEmpty = decide (d = []) := by cases d <;> rfl
    have hsz := kb_lt' hgr.out
    by_cases hd : d = []
    · have hfin : k.greedy L = cs ++ [k.fin] := by
        obtain ⟨f, _, hs⟩ := hgr.out.sem
        rw [hs, hd]
        cases f with
        | zero => rw [greedyF]; rw [hgr.out.like.fin]
        | succ f => rw [greedyF, if_pos rfl]; rw [hgr.out.like.fin]
      rw [decide_eq_true hd] at hcmp
      replace hfin := Lib.hid hfin
      clear hd
      go_wp2_with fail
      refine (HE.out _).mono ?_
      rintro e w4 ⟨rfl, hb4⟩
      have hown := own_below hgr.out.own hb4 (Nat.le_refl _)
      have hbel := hgr.out.bel.trans (hb4.mono (by omega))
      have hs4 := hb4.size
      clear q0 q1 q2 q3 q4 q5 z0 z1 z2 z3 z4 z5 hb4
      go_wp2_with (first
            | (at_builtin; refine wpList_append_row _ elemInt rfl (.tmp 59) (.tmp 63) rfl (w.heap.size + 1) _ _ _ rfl (hown.alloc _) _ _ 1 1 [natV k.fin] rfl (Row.newAt _ _ rfl _ [natV k.fin] 1 1 rfl) ?_ ?_ ?_ ?_ ?_))
      · intro z hz; simp at hz; subst hz; rfl
      · unfold maxLen; omega
      · omega
      · simp; omega
      · intro v5 w5 hv5 hg5 hat5
        have hb5 := (hbel.alloc (by omega) _).grown hg5 (by simp; omega) (fun g hg => by have := (hown.lt g hg).1; omega)
        obtain ⟨A5, c5, rfl, _, _⟩ := own_form hv5
        have hl : (k.greedy L).length = cs.length + 1 := by rw [hfin.out]; simp
        have hm : (k.greedy L).map natV = cs.map natV ++ [natV k.fin] := by rw [hfin.out]; simp
        go_wp2_with fail
        go_ret
        refine ⟨A5, c5, by rw [hl]; rfl, ?_, hb5⟩
        rw [hl, hm]
        exact own_base hv5 (by omega)
    · rw [decide_eq_false hd] at hcmp
      obtain ⟨x, e1, e2, e3, e4, e5, e6, e7⟩ := Kn.longest_take hgr.out.val hd hgr.out.fit
      have H1 := specL2Longest k' A' c' wr.heap.size d wr hgr.out.val hgr.out.lies.row (Nat.le_refl _) (by omega) (by omega)
      have hsem := hgr.out.sem
      obtain ⟨Wl, hWl⟩ : ∃ W, k'.longest d = W := ⟨_, rfl⟩
      rw [hgr.out.like.val, hWl] at H1
      have hxb : x ≤ 1023 := by
        have := Kn.can_great hgr.out.val e2
        have := Kn.great_bounds hgr.out.val
        have := hgr.out.val.pow
        have := k'.fin_eq
        omega
      have hstep : ∃ f0, d.length ≤ f0 + 1 ∧ k.greedy L = cs ++ (if d.drop Wl.length ≠ [] ∧ (k'.after x).top < (k'.after x).next ∧ (k'.after x).base < (k'.after x).ps.length then x :: (k'.after x).clear :: greedyF f0 (k'.after x).cleared (d.drop Wl.length) else x :: greedyF f0 (k'.after x) (d.drop Wl.length)) := by
        obtain ⟨f, hf1, hs⟩ := hsem
        cases f with
        | zero => exact absurd (List.eq_nil_of_length_eq_zero (by omega)) hd
        | succ f =>
          refine ⟨f, hf1, ?_⟩
          rw [hs, greedyF, if_neg hd, e1, hWl]
          rfl
      rw [hWl] at e1 e3 e4 e5 e6 e7
      have hdrop : (bsL d).extract Wl.length d.length = bsL (d.drop Wl.length) := bsL_drop d Wl.length
      have hdsz : (bsL d).size = d.length := rfl
      have hrl : (d.drop Wl.length).length + Wl.length = d.length := by rw [List.length_drop]; omega
      obtain ⟨R, hR⟩ : ∃ R, d.drop Wl.length = R := ⟨_, rfl⟩
      rw [hR] at hstep hdrop hrl
      replace H1 := Lib.hid H1
      replace hstep := Lib.hid hstep
      replace e1 := Lib.hid e1
      replace e2 := Lib.hid e2
      replace e7 := Lib.hid e7
      clear hsem hWl e3 e4
      go_wp2_with fail
      refine H1.out.mono ?_
      rintro e w4 ⟨rfl, hb4⟩
      have kb4 := hgr.out.box.below hb4
      have lies4 := hgr.out.lies.below hb4
      have own4 := own_below hgr.out.own hb4 (Nat.le_refl _)
      have bel4 := hgr.out.bel.trans (hb4.mono (by omega))
      have H2 := specL2Find k' A' c' w4.heap.size x Wl w4 hgr.out.val lies4.row (Nat.le_refl _) e1.out e7.out (by omega)
      rw [hgr.out.like.val] at H2
      replace H2 := Lib.hid H2
      clear q0 q1 q2 q3 q4 q5 z0 z1 z2 z3 z4 z5 hb4 H1
      have kbc := kb4
      obtain ⟨⟨q0, q1, q2, q3, q4, q5⟩, z0, z1, z2, z3, z4, z5⟩ := kbc
      have hsz4 := kb4.lt
      go_wp2_with fail
      refine H2.out.mono ?_
      rintro e w5 ⟨rfl, hb5⟩
      have kb5 := kb4.below hb5
      have lies5 := lies4.below hb5
      have own5 := own_below own4 hb5 (Nat.le_refl _)
      have bel5 := bel4.trans (hb5.mono (by omega))
      have hsz5 := kb5.lt
      clear q0 q1 q2 q3 q4 q5 z0 z1 z2 z3 z4 z5 hb5 H2 kb4 lies4 own4 bel4
      go_wp2_with (first
            | (at_builtin; refine wpList_append_row _ elemInt rfl (.tmp 22) (.tmp 24) rfl (w.heap.size + 1) _ _ _ rfl (own5.alloc _) _ _ 1 1 [natV x] rfl (Row.newAt _ _ rfl _ [natV x] 1 1 rfl) ?_ ?_ ?_ ?_ ?_))
      · intro z hz; simp at hz; subst hz; rfl
      · unfold maxLen; omega
      · omega
      · simp; omega
      · intro v6 w6 hv6 hg6 hat6
        obtain ⟨A6, c6, rfl, _, _⟩ := own_form hv6
        have hog : ∀ g, (Value.slice Av cs.length cv).ownBlock = some g → w.heap.size + 1 ≤ g := fun g hg => (own5.lt g hg).1
        have kb6 := (kb5.alloc (.cells #[.int .i64 (x : Int)] 3)).grown hg6 (fun e => by have := hog _ e; omega)
        have lies6 := (lies5.alloc (.cells #[.int .i64 (x : Int)] 3)).grown hg6 (by rw [World.size_alloc]; exact hat6)
        have bel6 := (bel5.alloc (by omega) (.cells #[.int .i64 (x : Int)] 3)).grown hg6 (by simp; omega) (fun g hg => by have := hog _ hg; omega)
        have hsz6 := kb6.lt
        have H3 := specL2After k' A' c' w6.heap.size x w6 hgr.out.val lies6.row (Nat.le_refl _) e2.out
        rw [hgr.out.like.val] at H3
        replace H3 := Lib.hid H3
        have kbc := kb6
        obtain ⟨⟨q0, q1, q2, q3, q4, q5⟩, z0, z1, z2, z3, z4, z5⟩ := kbc
        clear kb5 lies5 own5 bel5 hg6 hat6
        go_wp2_with fail
        refine H3.out.mono ?_
        rintro e w7 ⟨A7, c7, rfl, hown7, hb7⟩
        have like2 := hgr.out.like.trans (k'.like_after x)
        have val2 := Kn.after_valid hgr.out.val e2.out
        have fit2 : (k'.after x).fits R := by rw [← hR]; exact (k'.like_after x).fits (fits_drop hgr.out.fit _)
        obtain ⟨k2, hk2⟩ : ∃ k2, k'.after x = k2 := ⟨_, rfl⟩
        rw [hk2] at hown7 like2 val2 fit2 hstep ⊢
        rw [like2.val]
        have kb7 := kb6.below hb7
        have own7 := own_below hv6 hb7 (Nat.le_refl _)
        have bel7 := bel6.trans (hb7.mono (by omega))
        have hsz7 := kb7.lt
        have lies7 : k2.Lies w7 A7 w.heap.size (.slice A6 (cs.length + 1) c6) := Kn.Lies.of_own hown7 hsz6 (fun g hg => (hv6.lt g hg).2)
        have cap7 := hown7.cap
        have kb8 := kb7.set (.int .i64 (k.o : Int)) (.int .i64 (k.l : Int)) (.int .i64 (k.m : Int)) (.slice A7 k2.ps.length c7) (.int .i64 (k.base : Int)) (.int .i64 k2.lastI)
        have own8 := own_set6 (H := w.heap.size) own7 (by omega) (.int .i64 (k.o : Int)) (.int .i64 (k.l : Int)) (.int .i64 (k.m : Int)) (.slice A7 k2.ps.length c7) (.int .i64 (k.base : Int)) (.int .i64 k2.lastI)
        have lies8 := lies_set6 lies7 (.int .i64 (k.o : Int)) (.int .i64 (k.l : Int)) (.int .i64 (k.m : Int)) (.slice A7 k2.ps.length c7) (.int .i64 (k.base : Int)) (.int .i64 k2.lastI)
        have bel8 := below_set6 (H := w.heap.size) bel7 (Nat.le_refl _) (.int .i64 (k.o : Int)) (.int .i64 (k.l : Int)) (.int .i64 (k.m : Int)) (.slice A7 k2.ps.length c7) (.int .i64 (k.base : Int)) (.int .i64 k2.lastI)
        clear q0 q1 q2 q3 q4 q5 z0 z1 z2 z3 z4 z5
        have kbc := kb7
        obtain ⟨⟨q0, q1, q2, q3, q4, q5⟩, z0, z1, z2, z3, z4, z5⟩ := kbc
        obtain ⟨w8, hw8⟩ : ∃ W, set6 w7 w.heap.size (.int .i64 (k.o : Int)) (.int .i64 (k.l : Int)) (.int .i64 (k.m : Int)) (.slice A7 k2.ps.length c7) (.int .i64 (k.base : Int)) (.int .i64 k2.lastI) = W := ⟨_, rfl⟩
        rw [hw8] at kb8 own8 lies8 bel8
        unfold set6 at hw8
        clear kb6 lies6 bel6 hown7 hb7 kb7 own7 bel7 lies7 H3 hv6 hk2
        have t1 : (0 : Int) ≤ (bsL Wl).size := by omega
        have t2 : ((bsL Wl).size : Int) ≤ (bsL d).size := by rw [bsL_size, bsL_size]; omega
        go_upto_region 9 with (fail)
        clear q0 q1 q2 q3 q4 q5 z0 z1 z2 z3 z4 z5 hw8
        have HN := fun W => specL2Next k2 A7 c7 W val2
        simp only [like2.val] at HN
        replace HN := Lib.hid HN
        have et := like2.top
        have eb := like2.base
        obtain ⟨g, hg⟩ : ∃ g, decide (R ≠ [] ∧ k2.top < k2.next ∧ k2.base < k2.ps.length) = g := ⟨_, rfl⟩
        rw [et, eb] at hg
        have hsz8 := kb8.lt
        have kbc := kb8
        obtain ⟨⟨q0, q1, q2, q3, q4, q5⟩, z0, z1, z2, z3, z4, z5⟩ := kbc
        go_cut [50] (fun v wx => v = .bool g ∧ Below w8.heap.size w8 wx)
        case first =>
          by_cases p1 : R = []
          · have hg' : g = false := by rw [← hg]; exact decide_eq_false (fun hh => hh.1 p1)
            have hR0 : R.isEmpty = true := by rw [p1]; rfl
            subst hg'
            clear hg p1
            refine wp_region_cls (by kernel_rfl) (by kernel_rfl) ?_
            have cc0 := clsCell q0
            have cc1 := clsCell q1
            have cc2 := clsCell q2
            have cc3 := clsCell q3
            have cc4 := clsCell q4
            have cc5 := clsCell q5
            repeat (go_big_quiet_step (first | (go_at_call 162; exact clsCall (HN.out _)) | (go_at_call 152; exact clsCall (HT.out _))))
            refine wpQuiet_nil ?_
            rintro w' ⟨⟨w', hB9⟩, rfl⟩
            go_wp2_with fail
            go_meet
            exact ⟨rfl, hB9⟩
          · have hR0 : R.isEmpty = false := by cases R with
              | nil => exact absurd rfl p1
              | cons y ys => rfl
            by_cases p2 : k.top < k2.next
            · have p2i : ((k.top : Int) < (k2.next : Int)) := by omega
              by_cases p3 : k.base < k2.ps.length
              · have p3i : ((k.base : Int) < (k2.ps.length : Int)) := by omega
                have hg' : g = true := by rw [← hg]; exact decide_eq_true ⟨p1, p2, p3⟩
                subst hg'
                clear hg p1 p2 p3
                refine wp_region_cls (by kernel_rfl) (by kernel_rfl) ?_
                have cc0 := clsCell q0
                have cc1 := clsCell q1
                have cc2 := clsCell q2
                have cc3 := clsCell q3
                have cc4 := clsCell q4
                have cc5 := clsCell q5
                repeat (go_big_quiet_step (first | (go_at_call 162; exact clsCall (HN.out _)) | (go_at_call 152; exact clsCall (HT.out _))))
                refine wpQuiet_nil ?_
                rintro w' ⟨⟨w', hB9⟩, rfl⟩
                go_wp2_with fail
                go_meet
                exact ⟨rfl, hB9⟩
              · have p3i : ¬ ((k.base : Int) < (k2.ps.length : Int)) := by omega
                have hg' : g = false := by rw [← hg]; exact decide_eq_false (fun hh => p3 hh.2.2)
                subst hg'
                clear hg p1 p2 p3
                refine wp_region_cls (by kernel_rfl) (by kernel_rfl) ?_
                have cc0 := clsCell q0
                have cc1 := clsCell q1
                have cc2 := clsCell q2
                have cc3 := clsCell q3
                have cc4 := clsCell q4
                have cc5 := clsCell q5
                repeat (go_big_quiet_step (first | (go_at_call 162; exact clsCall (HN.out _)) | (go_at_call 152; exact clsCall (HT.out _))))
                refine wpQuiet_nil ?_
                rintro w' ⟨⟨w', hB9⟩, rfl⟩
                go_wp2_with fail
                go_meet
                exact ⟨rfl, hB9⟩
            · have p2i : ¬ ((k.top : Int) < (k2.next : Int)) := by omega
              have hg' : g = false := by rw [← hg]; exact decide_eq_false (fun hh => p2 hh.2.1)
              subst hg'
              clear hg p1 p2
              refine wp_region_cls (by kernel_rfl) (by kernel_rfl) ?_
              have cc0 := clsCell q0
              have cc1 := clsCell q1
              have cc2 := clsCell q2
              have cc3 := clsCell q3
              have cc4 := clsCell q4
              have cc5 := clsCell q5
              repeat (go_big_quiet_step (first | (go_at_call 162; exact clsCall (HN.out _)) | (go_at_call 152; exact clsCall (HT.out _))))
              refine wpQuiet_nil ?_
              rintro w' ⟨⟨w', hB9⟩, rfl⟩
              go_wp2_with fail
              go_meet
              exact ⟨rfl, hB9⟩
        case rest =>
          obtain ⟨rfl, hb9⟩ := hcut
          have kb9 := kb8.below hb9
          have lies9 := lies8.below hb9
          have own9 := own_below own8 hb9 (Nat.le_refl _)
          have bel9 := bel8.trans (hb9.mono (by omega))
          have hsz9 := kb9.lt
          clear q0 q1 q2 q3 q4 q5 z0 z1 z2 z3 z4 z5 hb9 kb8 lies8 own8 bel8 hsz8
          obtain ⟨f0, hf0, hs⟩ := hstep.out
          rw [et, eb] at hs
          have hR1 : R.length ≤ f0 := by omega
          have hRL : R.length ≤ L.length := by omega
          have hRd : Hid (R.length < d.length) := Lib.hid (by omega)
          replace hR1 := Lib.hid hR1
          replace hRL := Lib.hid hRL
          clear hf0 hrl hdsz e5 e6 hdl hcmp hdrop t1 t2
          cases g with
          | false =>
            rw [if_neg (of_decide_eq_false hg)] at hs
            have hl1 : (cs ++ [x]).length = cs.length + 1 := by simp
            have hm1 : (cs ++ [x]).map natV = cs.map natV ++ [natV x] := by simp
            have GR : Hid (Gr k L w w.heap.size k2 A7 c7 R (cs ++ [x]) (.slice A6 (cs.length + 1) c6) wc) := Lib.hid ⟨val2, like2, fit2, kb9, lies9, cap7, by rw [hl1, hm1]; exact own9, bel9, ⟨f0, hR1.out, by rw [hs]; simp⟩, hRL.out⟩
            clear hg hs own9 lies9 kb9 bel9 hm1
            go_wp2_with fail
            go_roundw
            case rel => exact ⟨k2, A7, c7, R, cs ++ [x], A6, c6, rfl, by rw [hl1], GR⟩
            case measure => simp only [szOf]; exact hRd.out
          | true =>
            have hgp := of_decide_eq_true hg
            rw [if_pos hgp, like2.clear] at hs
            have hcl2 : (cs ++ [x, k.clear]).length = cs.length + 1 + 1 := by simp
            have hm1 : (cs ++ [x, k.clear]).map natV = cs.map natV ++ [natV x, natV k.clear] := by simp
            have hfit3 := k2.like_cleared.fits fit2
            have hlen2 : cs.length + 1 ≤ 4003 := by omega
            have kbc := kb9
            obtain ⟨⟨q0, q1, q2, q3, q4, q5⟩, z0, z1, z2, z3, z4, z5⟩ := kbc
            clear hg hgp
            go_wp2_with fail
            refine (HC.out _).mono ?_
            rintro e wa ⟨rfl, hba⟩
            have kba := kb9.below hba
            have liesa := lies9.below hba
            have owna := own_below own9 hba (Nat.le_refl _)
            have bela := bel9.trans (hba.mono (by omega))
            have hsza := kba.lt
            clear q0 q1 q2 q3 q4 q5 z0 z1 z2 z3 z4 z5 hba kb9 lies9 own9 bel9
            go_wp2_with (first
              | (at_builtin; refine wpList_append_row _ elemInt rfl (.tmp 51) (.tmp 55) rfl (w.heap.size + 1) _ _ _ rfl (owna.alloc _) _ _ 1 1 [natV k.clear] rfl (Row.newAt _ _ rfl _ [natV k.clear] 1 1 rfl) ?_ ?_ ?_ ?_ ?_))
            · intro z hz; simp at hz; subst hz; rfl
            · unfold maxLen; omega
            · omega
            · simp; omega
            · intro vb wb hvb hgb hatb
              obtain ⟨Ab, cb, rfl, _, _⟩ := own_form hvb
              have hog : ∀ g, (Value.slice A6 (cs.length + 1) c6).ownBlock = some g → w.heap.size + 1 ≤ g := fun g hg => (owna.lt g hg).1
              have kbb := (kba.alloc (.cells #[.int .i64 (k.clear : Int)] 3)).grown hgb (fun e => by have := hog _ e; omega)
              have liesb := (liesa.alloc (.cells #[.int .i64 (k.clear : Int)] 3)).grown hgb (by rw [World.size_alloc]; exact hatb)
              have belb := (bela.alloc (by omega) (.cells #[.int .i64 (k.clear : Int)] 3)).grown hgb (by simp; omega) (fun g hg => by have := hog _ hg; omega)
              have hszb := kbb.lt
              have H4 := specL2Cleared k2 A7 c7 wb.heap.size wb val2 liesb.row (Nat.le_refl _) cap7
              rw [like2.val] at H4
              replace H4 := Lib.hid H4
              have kbc := kbb
              obtain ⟨⟨q0, q1, q2, q3, q4, q5⟩, z0, z1, z2, z3, z4, z5⟩ := kbc
              clear kba liesa owna bela hgb hatb
              go_wp2_with fail
              refine H4.out.mono ?_
              rintro e wd ⟨Ad, cd, rfl, hownd, hbd⟩
              have like3 := like2.trans k2.like_cleared
              rw [like3.val]
              have kbd := kbb.below hbd
              have ownd := own_below hvb hbd (Nat.le_refl _)
              have beld := belb.trans (hbd.mono (by omega))
              have liesd : k2.cleared.Lies wd Ad w.heap.size (.slice Ab (cs.length + 1 + 1) cb) := Kn.Lies.of_own hownd hszb (fun g hg => (hvb.lt g hg).2)
              have capd := hownd.cap
              have GR : Hid (Gr k L w w.heap.size k2.cleared Ad cd R (cs ++ [x, k.clear]) (.slice Ab (cs.length + 1 + 1) cb) (set6 wd w.heap.size (.int .i64 (k.o : Int)) (.int .i64 (k.l : Int)) (.int .i64 (k.m : Int)) (.slice Ad k2.cleared.ps.length cd) (.int .i64 (k.base : Int)) (.int .i64 k2.cleared.lastI))) :=
                Lib.hid ⟨Kn.cleared_valid val2, like3, hfit3, kbd.set _ _ _ _ _ _, lies_set6 liesd _ _ _ _ _ _, capd, by rw [hcl2, hm1]; exact own_set6 (H := w.heap.size) ownd (Nat.lt_succ_self _) _ _ _ _ _ _, below_set6 beld (Nat.le_refl _) _ _ _ _ _ _, ⟨f0, hR1.out, by rw [hs]; simp⟩, hRL.out⟩
              clear q0 q1 q2 q3 q4 q5 z0 z1 z2 z3 z4 z5
              obtain ⟨⟨q0, q1, q2, q3, q4, q5⟩, z0, z1, z2, z3, z4, z5⟩ := kbd
              clear kbb liesb belb hownd hbd ownd beld liesd capd hs hvb hm1
              go_wp2_with fail
              go_roundw
              case rel => exact ⟨k2.cleared, Ad, cd, R, cs ++ [x, k.clear], Ab, cb, rfl, by rw [hcl2], GR⟩
              case measure => simp only [szOf]; exact hRd.out

end Go.Proofs.YtopklampiaecdaaGreat
