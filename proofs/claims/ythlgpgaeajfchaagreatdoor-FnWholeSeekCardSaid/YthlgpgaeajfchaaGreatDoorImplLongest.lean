/-
  The program's tree of words: longest.
-/
import Derived.Test.YthlgpgaeajfchaaGreatDoorImplTLearn
import Derived.Deep.CutBlock
namespace Go.Proofs.YthlgpgaeajfchaaGreatDoor
open Go.RowKit
set_option linter.unusedVariables false
set_option maxRecDepth 100000

theorem bsL_at {L : List UInt8} {j : Nat} (h : j < (bsL L).size) (h2 : j < L.length) : (bsL L)[j] = L[j] := by
  simp [bsL, ByteArray.getElem_eq_getElem_data]

set_option maxHeartbeats 8000000 in
theorem implLongest (k : Kn) (t : Tr) (T : Nat) (a : TA) (x : UInt8) (r : List UInt8) (w : World) (hv : k.Valid) (ht : TrOk k t) (hm : TrM k t T a w) (hx : x.toNat < k.clear) (hlen : (x :: r).length ≤ 100000) :
    Calls Tryz.prog 95 #[.pointer (some ⟨T, 0, none⟩), .string (bsL (x :: r))] w fun e w' =>
      e = .returned (.tuple #[.int .i64 (((k.find (k.longest (x :: r))).getD 0 : Nat) : Int), .int .i64 ((k.longest (x :: r)).length : Int)]) ∧ Below w.heap.size w w' := by
  have hpw := hv.pow
  have hcl := ht.cl
  have hnd := ht.nd
  have hnb : k.ps.length ≤ 1023 := by have := hv.room; omega
  have hlow : k.Low := hv.below
  have hnsl := ht.ns_le
  have hsz : (bsL (x :: r)).size = (x :: r).length := rfl
  have hat : ∀ (j : Nat) (h : j < (bsL (x :: r)).size), ((bsL (x :: r))[j]).toNat = ((x :: r)[j]'(by rw [← hsz]; exact h)).toNat := fun j h => by rw [bsL_at h (by rw [← hsz]; exact h)]
  have hfirst : t.Far (x :: r) x.toNat 1 := Tr.Far.first (by omega)
  have h0 : ∀ h : 0 < (bsL (x :: r)).size, ((bsL (x :: r))[0]'h).toNat = x.toNat := fun h => by rw [hat 0 h]; rfl
  have hnext := fun (n size : Nat) => ht.longest_next hv hx (n := n) (size := size) (r := r)
  have hnode := fun (n size : Nat) => ht.longest_node hv hx (n := n) (size := size) (r := r)
  obtain ⟨y, hy⟩ : ∃ y, x.toNat = y := ⟨_, rfl⟩
  obtain ⟨D, hD⟩ : ∃ D, x :: r = D := ⟨_, rfl⟩
  have hpos : 1 ≤ D.length := by rw [← hD]; simp
  rw [hy] at hfirst h0 hx
  rw [hD] at hfirst hsz hlen hnext hnode ⊢
  have hat1 : ∀ (j : Nat) (h : j < (bsL D).size), ((bsL D)[j]).toNat = (D[j]'(by rw [← hsz]; exact h)).toNat := by subst hD; exact hat
  have h01 : ∀ h : 0 < (bsL D).size, ((bsL D)[0]'h).toNat = y := by subst hD; exact h0
  have HG1 := fun (W : World) (hg : k.grows) => implGrows k a.Ak a.ck true W hv (btrue hg)
  have HG2 := fun (W : World) (hg : ¬ k.grows) => implGrows k a.Ak a.ck false W hv (bfalse hg)
  unfold Kn.val at HG1 HG2
  have HNW := fun (W : World) => implNextWordS k a.Ak a.ck W hv.sv hnb
  unfold Kn.val at HNW
  obtain ⟨s, hs⟩ : ∃ s, bsL D = s := ⟨_, rfl⟩
  obtain ⟨N, hN⟩ : ∃ N, t.c + t.ns.length = N := ⟨_, rfl⟩
  have hNb : N ≤ 2000 := by omega
  have hsz0 : 0 < s.size := by rw [← hs, hsz]; omega
  have h0' : s[0].toNat = y := by subst hs; exact h01 hsz0
  rw [hs] at hsz
  have hat' : ∀ (j : Nat) (h : j < s.size), s[j].toNat = (D[j]'(by omega)).toNat := by subst hs; exact hat1
  have HC := fun (W : World) (hW : TrM k t T a W) (p b : Nat) (hp : p < N) (hb : b < 256) => implChild k t T a p b W hW (by rw [hN]; exact hp) hb
  replace HC := Lib.hid HC
  replace hnext := Lib.hid hnext
  replace hnode := Lib.hid hnode
  replace hat' := Lib.hid hat'
  replace HG1 := Lib.hid HG1
  replace HG2 := Lib.hid HG2
  replace HNW := Lib.hid HNW
  replace hm := Lib.hid hm
  replace hs := Lib.hid hs
  replace hN := Lib.hid hN
  replace hfirst := Lib.hid hfirst
  obtain ⟨m, hml⟩ : ∃ m, D.length = m := ⟨_, rfl⟩
  rw [hml] at hsz hlen hpos
  replace hml := Lib.hid hml
  have hy256 : y < 256 := by omega
  have wy : IntKind.i64.wrap (y : Int) = y := IntWalk.i64_in _ (by omega)
  clear hat h0 hat1 h01 hD hpw hcl hnsl
  rw [hs.out]
  go_enter Tryz.func95, Tryz.ntmps95
  go_upto_block 0 with fail
  go_cut [6, 7] (fun u v wx => ∃ n z : Nat, u = .int .i64 (n : Int) ∧ v = .int .i64 (z : Int) ∧ Hid (t.Far D n z ∧ ∀ (hlt : z < D.length), t.NoKid n (D[z]).toNat) ∧ n < N ∧ 1 ≤ z ∧ z ≤ m ∧ wx = w)
  case first =>
    go_wp2_with fail
    go_loopw [6, 7] (fun u v wr => ∃ n z : Nat, u = .int .i64 (n : Int) ∧ v = .int .i64 (z : Int) ∧ Hid (t.Far D n z) ∧ n < N ∧ 1 ≤ z ∧ z ≤ m ∧ wr = w) (fun _ v _ => m - (intOf v).toNat)
    case atStart => exact ⟨y, 1, rfl, rfl, hfirst, by have := hfirst.out.node; have := hN.out; omega, Nat.le_refl _, by omega, rfl⟩
    case round =>
      obtain ⟨n, z, rfl, rfl, hfar, hnN, hz1, hzm, rfl⟩ := hrel
      by_cases h1 : z < m
      · have hzs : z < s.size := by rw [hsz]; exact h1
        have hzD : z < D.length := by rw [hml.out]; exact h1
        have hbz := hat'.out z hzs
        obtain ⟨c, hc⟩ : ∃ c, s[z].toNat = c := ⟨_, rfl⟩
        rw [hc] at hbz
        replace hbz := Lib.hid hbz
        have hc256 : c < 256 := by rw [← hc]; exact UInt8.toNat_lt _
        go_wp2_with fail
        refine (HC.out _ hm.out n c hnN hc256).mono ?_
        rintro e w1 ⟨⟨z', rfl, hk⟩, rfl⟩
        rcases hk with ⟨rfl, hno⟩ | ⟨r', rfl, hk⟩
        · have hend := Lib.hid (And.intro hfar.out (fun (hlt : z < D.length) => (show t.NoKid n (D[z]).toNat by rw [← hbz.out]; exact hno)))
          clear hno
          go_wp2_with fail
          go_meet
          exact ⟨n, z, rfl, rfl, hend, hnN, hz1, hzm, rfl⟩
        · have hfar2 := Lib.hid (hfar.out.step hnd hzD (by rw [← hbz.out]; exact hk))
          have hr'N : r' < N := by have := hfar2.out.node; have := hN.out; omega
          clear hk
          go_wp2_with fail
          go_roundw
          case rel => exact ⟨r', z + 1, rfl, by go_num, hfar2, hr'N, by omega, by omega, trivial⟩
          case measure => simp [intOf]; omega
      · have hend := Lib.hid (And.intro hfar.out (fun (hlt : z < D.length) => (show t.NoKid n (D[z]).toNat from absurd hlt (by rw [hml.out]; omega))))
        go_wp2_with fail
        go_meet
        exact ⟨n, z, rfl, rfl, hend, hnN, hz1, hzm, rfl⟩
  case rest =>
    obtain ⟨n, z, rfl, rfl, hend, hnN, hz1, hzm, hwc⟩ := hcut
    obtain rfl : w = _ := hwc.symm
    obtain ⟨f4, hf4⟩ : ∃ z, t.firstN n = z := ⟨_, rfl⟩
    obtain ⟨f5, hf5⟩ : ∃ z, t.codeOf n = z := ⟨_, rfl⟩
    have hnodeR := fun hno => hnode.out n z hend.out.1 hend.out.2 hno
    have hnres : (∀ (hlt : z < D.length) (q : Nat), k.grows → k.last = some q → t.of k.fin q = n → D[z] ≠ (t.word n).headD 0) → Hid (Ending.returned (.tuple #[.int .i64 (f5 : Int), .int .i64 (z : Int)]) = .returned (.tuple #[.int .i64 (((k.find (k.longest D)).getD 0 : Nat) : Int), .int .i64 ((k.longest D).length : Int)])) := fun hno => Lib.hid (by
      obtain ⟨e1, e2⟩ := hnodeR hno
      rw [e1, e2, List.length_take, Nat.min_eq_left hend.out.1.le, ← hf5]
      rfl)
    replace hf4 := Lib.hid hf4
    replace hf5 := Lib.hid hf5
    replace hnres := Lib.hid hnres
    have hcls : Hid (∀ X : Wd (Below w.heap.size w), TrM k t T a X.w) := Lib.hid (fun X => hm.out.below X.h)
    clear hnodeR
    by_cases h1 : z < m
    · skip
      have gd0 : decide ((z : Int) < (D.length : Int)) = true := decide_eq_true (by have := hml.out; omega)
      have gd1 : decide (z < D.length) = true := decide_eq_true (by have := hml.out; omega)
      have gd2 : decide ((z : Int) < (m : Int)) = true := decide_eq_true (by have := hml.out; omega)
      have gd3 : decide (z < m) = true := decide_eq_true (by have := hml.out; omega)
      by_cases hg : k.grows
      · obtain ⟨q, hq⟩ := Option.isSome_iff_exists.1 hg.1
        have hqh := hv.tail q hq
        have hlast : k.lastI = (q : Int) := by unfold Kn.lastI; rw [hq]
        have HG := fun W => HG1.out W hg
        rw [hlast] at HG
        replace HG := Lib.hid HG
        have HNW2 := HNW.out
        rw [hlast] at HNW2
        replace HNW := Lib.hid HNW2
        have HO := fun (W : World) (hW : TrM k t T a W) => implNodeOf k t T a q W hv.sv hnb ht hW hqh
        have hnx := hnext.out n z hend.out.1 hend.out.2
        obtain ⟨o, ho⟩ : ∃ o, t.of k.fin q = o := ⟨_, rfl⟩
        rw [ho] at HO
        replace HO := Lib.hid HO
        have hzD : z < D.length := by rw [hml.out]; exact h1
        have hzs : z < s.size := by rw [hsz]; exact h1
        have hbz := hat'.out z hzs
        obtain ⟨c, hc⟩ : ∃ c, s[z].toNat = c := ⟨_, rfl⟩
        rw [hc] at hbz
        have hc256 : c < 256 := by rw [← hc]; exact UInt8.toNat_lt _
        have hfn : f4 = ((t.word n).headD 0).toNat := hf4.out.symm
        replace hnx := Lib.hid hnx
        replace hbz := Lib.hid hbz
        replace hfn := Lib.hid hfn
        by_cases hon : o = n
        · by_cases hcf : c = f4
          · have hres : Hid (Ending.returned (.tuple #[.int .i64 (k.next : Int), .int .i64 ((z : Int) + 1)]) = .returned (.tuple #[.int .i64 (((k.find (k.longest D)).getD 0 : Nat) : Int), .int .i64 ((k.longest D).length : Int)])) := Lib.hid (by
              obtain ⟨e1, e2⟩ := hnx.out hzD hg hq (by rw [ho, hon]) (by
                apply UInt8.toNat_inj.1
                rw [← hbz.out, hcf, hfn.out])
              rw [e1, e2, List.length_take, Nat.min_eq_left (by omega)]
              rfl)
            replace ho := Lib.hid ho
            replace hq := Lib.hid hq
            have eo1 : ((n : Int) == (o : Int)) = true := by rw [beq_iff_eq]; omega
            have eo2 : decide ((n : Int) = (o : Int)) = true := decide_eq_true (by omega)
            have eo3 : (n == o) = true := by rw [beq_iff_eq]; omega
            have eo4 : decide (n = o) = true := decide_eq_true (by omega)
            have ec1 : ((c : Int) == (f4 : Int)) = true := by rw [beq_iff_eq]; omega
            have ec2 : decide ((c : Int) = (f4 : Int)) = true := decide_eq_true (by omega)
            have ec3 : (c == f4) = true := by rw [beq_iff_eq]; omega
            have ec4 : decide (c = f4) = true := decide_eq_true (by omega)
            clear hon hcf
            obtain ⟨b0, b1, b2, b3, b4, b5, b6, b7⟩ := hm.out.cells
            obtain ⟨g, hgA, _, _, ⟨n0, n1, n2, n3, n4, n5⟩, _⟩ := hm.out.node (i := n) (by rw [hN.out]; exact hnN)
            rw [hgA, hN.out] at b6
            rw [hf4.out] at n4
            rw [hlast] at b5
            go_upto_region 7 with (fail)
            refine wp_region_cls (by kernel_rfl) (by kernel_rfl) ?_
            have c0 := clsCell b0
            have c1 := clsCell b1
            have c2 := clsCell b2
            have c3 := clsCell b3
            have c4 := clsCell b4
            have c5 := clsCell b5
            have c6 := clsCell b6
            have c7 := clsCell n4
            repeat (go_big_quiet_step (first | (go_at_call 94; exact clsCall (HG.out _)) | (go_at_call 124; exact clsCall (HO.out _ (hcls.out _)))))
            refine wpQuiet_nil ?_
            rintro w1 ⟨⟨w1, hB⟩, rfl⟩
            have hm1 := Lib.hid (hm.out.below hB)
            clear b0 b1 b2 b3 b4 b5 b6 b7 n0 n1 n2 n3 n4 n5 c0 c1 c2 c3 c4 c5 c6 c7
            obtain ⟨b0, b1, b2, b3, b4, b5, b6, b7⟩ := hm1.out.cells
            obtain ⟨g', hgA', _, _, ⟨n0, n1, n2, n3, n4, n5⟩, _⟩ := hm1.out.node (i := n) (by rw [hN.out]; exact hnN)
            rw [hgA', hN.out] at b6
            rw [hlast] at b5
            go_wp2_with fail
            refine (HNW.out _).mono ?_
            rintro e w2 ⟨rfl, hb2⟩
            go_wp2_with fail
            go_ret2
            exact ⟨hres.out, hB.trans (hb2.mono hB.size)⟩

          · have hres := hnres.out (fun hlt q' _ _ _ e => hcf (by
              rw [hbz.out, hfn.out, e]))
            replace ho := Lib.hid ho
            replace hq := Lib.hid hq
            have eo1 : ((n : Int) == (o : Int)) = true := by rw [beq_iff_eq]; omega
            have eo2 : decide ((n : Int) = (o : Int)) = true := decide_eq_true (by omega)
            have eo3 : (n == o) = true := by rw [beq_iff_eq]; omega
            have eo4 : decide (n = o) = true := decide_eq_true (by omega)
            have ec1 : ((c : Int) == (f4 : Int)) = false := by rw [beq_eq_false_iff_ne]; omega
            have ec2 : decide ((c : Int) = (f4 : Int)) = false := decide_eq_false (by omega)
            have ec3 : (c == f4) = false := by rw [beq_eq_false_iff_ne]; omega
            have ec4 : decide (c = f4) = false := decide_eq_false (by omega)
            clear hon hcf
            obtain ⟨b0, b1, b2, b3, b4, b5, b6, b7⟩ := hm.out.cells
            obtain ⟨g, hgA, _, _, ⟨n0, n1, n2, n3, n4, n5⟩, _⟩ := hm.out.node (i := n) (by rw [hN.out]; exact hnN)
            rw [hgA, hN.out] at b6
            rw [hf4.out] at n4
            rw [hlast] at b5
            go_upto_region 7 with (fail)
            refine wp_region_cls (by kernel_rfl) (by kernel_rfl) ?_
            have c0 := clsCell b0
            have c1 := clsCell b1
            have c2 := clsCell b2
            have c3 := clsCell b3
            have c4 := clsCell b4
            have c5 := clsCell b5
            have c6 := clsCell b6
            have c7 := clsCell n4
            repeat (go_big_quiet_step (first | (go_at_call 94; exact clsCall (HG.out _)) | (go_at_call 124; exact clsCall (HO.out _ (hcls.out _)))))
            refine wpQuiet_nil ?_
            rintro w1 ⟨⟨w1, hB⟩, rfl⟩
            have hm1 := Lib.hid (hm.out.below hB)
            clear b0 b1 b2 b3 b4 b5 b6 b7 n0 n1 n2 n3 n4 n5 c0 c1 c2 c3 c4 c5 c6 c7
            obtain ⟨b0, b1, b2, b3, b4, b5, b6, b7⟩ := hm1.out.cells
            obtain ⟨g', hgA', _, _, ⟨n0, n1, n2, n3, n4, n5⟩, _⟩ := hm1.out.node (i := n) (by rw [hN.out]; exact hnN)
            rw [hgA', hN.out] at b6
            rw [hlast] at b5
            rw [hf5.out] at n5
            go_wp2_with fail
            go_ret2
            exact ⟨hres.out, hB⟩

        · have hres := hnres.out (fun hlt q' _ hq' ho' => by
            rw [hq] at hq'
            injection hq' with hq'
            subst hq'
            exact absurd (ho.symm.trans ho') hon)
          replace ho := Lib.hid ho
          replace hq := Lib.hid hq
          have eo1 : ((n : Int) == (o : Int)) = false := by rw [beq_eq_false_iff_ne]; omega
          have eo2 : decide ((n : Int) = (o : Int)) = false := decide_eq_false (by omega)
          have eo3 : (n == o) = false := by rw [beq_eq_false_iff_ne]; omega
          have eo4 : decide (n = o) = false := decide_eq_false (by omega)
          clear hon
          obtain ⟨b0, b1, b2, b3, b4, b5, b6, b7⟩ := hm.out.cells
          obtain ⟨g, hgA, _, _, ⟨n0, n1, n2, n3, n4, n5⟩, _⟩ := hm.out.node (i := n) (by rw [hN.out]; exact hnN)
          rw [hgA, hN.out] at b6
          rw [hf4.out] at n4
          rw [hlast] at b5
          go_upto_region 7 with (fail)
          refine wp_region_cls (by kernel_rfl) (by kernel_rfl) ?_
          have c0 := clsCell b0
          have c1 := clsCell b1
          have c2 := clsCell b2
          have c3 := clsCell b3
          have c4 := clsCell b4
          have c5 := clsCell b5
          have c6 := clsCell b6
          have c7 := clsCell n4
          repeat (go_big_quiet_step (first | (go_at_call 94; exact clsCall (HG.out _)) | (go_at_call 124; exact clsCall (HO.out _ (hcls.out _)))))
          refine wpQuiet_nil ?_
          rintro w1 ⟨⟨w1, hB⟩, rfl⟩
          have hm1 := Lib.hid (hm.out.below hB)
          clear b0 b1 b2 b3 b4 b5 b6 b7 n0 n1 n2 n3 n4 n5 c0 c1 c2 c3 c4 c5 c6 c7
          obtain ⟨b0, b1, b2, b3, b4, b5, b6, b7⟩ := hm1.out.cells
          obtain ⟨g', hgA', _, _, ⟨n0, n1, n2, n3, n4, n5⟩, _⟩ := hm1.out.node (i := n) (by rw [hN.out]; exact hnN)
          rw [hgA', hN.out] at b6
          rw [hlast] at b5
          rw [hf5.out] at n5
          go_wp2_with fail
          go_ret2
          exact ⟨hres.out, hB⟩
      · have HG := Lib.hid (fun W => HG2.out W hg)
        have hres := hnres.out (fun _ _ hgg => absurd hgg hg)
        have HO : Hid True := Lib.hid trivial
        obtain ⟨b0, b1, b2, b3, b4, b5, b6, b7⟩ := hm.out.cells
        obtain ⟨g, hgA, _, _, ⟨n0, n1, n2, n3, n4, n5⟩, _⟩ := hm.out.node (i := n) (by rw [hN.out]; exact hnN)
        rw [hgA, hN.out] at b6
        rw [hf4.out] at n4
        go_upto_region 7 with (fail)
        refine wp_region_cls (by kernel_rfl) (by kernel_rfl) ?_
        have c0 := clsCell b0
        have c1 := clsCell b1
        have c2 := clsCell b2
        have c3 := clsCell b3
        have c4 := clsCell b4
        have c5 := clsCell b5
        have c6 := clsCell b6
        have c7 := clsCell n4
        repeat (go_big_quiet_step (first | (go_at_call 94; exact clsCall (HG.out _)) | (go_at_call 124; exact clsCall (HO.out _ (hcls.out _)))))
        refine wpQuiet_nil ?_
        rintro w1 ⟨⟨w1, hB⟩, rfl⟩
        have hm1 := Lib.hid (hm.out.below hB)
        clear b0 b1 b2 b3 b4 b5 b6 b7 n0 n1 n2 n3 n4 n5 c0 c1 c2 c3 c4 c5 c6 c7
        obtain ⟨b0, b1, b2, b3, b4, b5, b6, b7⟩ := hm1.out.cells
        obtain ⟨g', hgA', _, _, ⟨n0, n1, n2, n3, n4, n5⟩, _⟩ := hm1.out.node (i := n) (by rw [hN.out]; exact hnN)
        rw [hgA', hN.out] at b6
        rw [hf5.out] at n5
        go_wp2_with fail
        go_ret2
        exact ⟨hres.out, hB⟩

    · skip
      have gd0 : decide ((z : Int) < (D.length : Int)) = false := decide_eq_false (by have := hml.out; omega)
      have gd1 : decide (z < D.length) = false := decide_eq_false (by have := hml.out; omega)
      have gd2 : decide ((z : Int) < (m : Int)) = false := decide_eq_false (by have := hml.out; omega)
      have gd3 : decide (z < m) = false := decide_eq_false (by have := hml.out; omega)
      have HG : Hid True := Lib.hid trivial
      have HO : Hid True := Lib.hid trivial
      have hres := hnres.out (fun hlt => absurd hlt (by rw [hml.out]; exact h1))
      obtain ⟨b0, b1, b2, b3, b4, b5, b6, b7⟩ := hm.out.cells
      obtain ⟨g, hgA, _, _, ⟨n0, n1, n2, n3, n4, n5⟩, _⟩ := hm.out.node (i := n) (by rw [hN.out]; exact hnN)
      rw [hgA, hN.out] at b6
      rw [hf4.out] at n4
      go_upto_region 7 with (fail)
      refine wp_region_cls (by kernel_rfl) (by kernel_rfl) ?_
      have c0 := clsCell b0
      have c1 := clsCell b1
      have c2 := clsCell b2
      have c3 := clsCell b3
      have c4 := clsCell b4
      have c5 := clsCell b5
      have c6 := clsCell b6
      have c7 := clsCell n4
      repeat (go_big_quiet_step (first | (go_at_call 94; exact clsCall (HG.out _)) | (go_at_call 124; exact clsCall (HO.out _ (hcls.out _)))))
      refine wpQuiet_nil ?_
      rintro w1 ⟨⟨w1, hB⟩, rfl⟩
      have hm1 := Lib.hid (hm.out.below hB)
      clear b0 b1 b2 b3 b4 b5 b6 b7 n0 n1 n2 n3 n4 n5 c0 c1 c2 c3 c4 c5 c6 c7
      obtain ⟨b0, b1, b2, b3, b4, b5, b6, b7⟩ := hm1.out.cells
      obtain ⟨g', hgA', _, _, ⟨n0, n1, n2, n3, n4, n5⟩, _⟩ := hm1.out.node (i := n) (by rw [hN.out]; exact hnN)
      rw [hgA', hN.out] at b6
      rw [hf5.out] at n5
      go_wp2_with fail
      go_ret2
      exact ⟨hres.out, hB⟩

end Go.Proofs.YthlgpgaeajfchaaGreatDoor
