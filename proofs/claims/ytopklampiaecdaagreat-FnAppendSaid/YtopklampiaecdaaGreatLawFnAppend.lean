/-
  The walk of the law FnAppend.
-/
import Derived.Test.YtopklampiaecdaaGreatEditsA
import Derived.Test.YtopklampiaecdaaGreatImplData
import Derived.Test.YtopklampiaecdaaGreatPropP
import Derived.Test.YtopklampiaecdaaGreatDrawsA
import Derived.Test.YtopklampiaecdaaGreatTreeMem
namespace Go.Proofs.YtopklampiaecdaaGreat
open Go.RowKit
set_option linter.unusedVariables false
set_option linter.unusedSimpArgs false
set_option maxRecDepth 100000

/-- What was appended to a container. -/
theorem append_law {o l m size : Int} {d L : List UInt8} {s x : ByteArray} (h : appendC o l m d (contB s) L size = some x) :
    ∃ (bs cs : List Blk) (Do : Option (List UInt8)), contB s = some bs ∧ contB x = some cs ∧ contD o l m d (some bs) = Do ∧ contD o l m d (some cs) = Do.map (· ++ L) ∧ szs bs ≤ 2000 ∧ szs cs = szs bs + L.length ∧ L.length ≤ 2000 ∧
      x.extract 0 s.size = s ∧ s.size ≤ x.size ∧ x.size ≤ 2960 ∧ ∀ D, Do = some D → D.length ≤ 2000 := by
  cases hbs : contB s with
  | none => rw [hbs] at h; cases h
  | some bs =>
    rw [hbs] at h
    by_cases hc : dfits o l m d ∧ roomy L.length size
    · obtain ⟨hf, hr⟩ := hc
      obtain ⟨on, rfl⟩ : ∃ n : Nat, o = n := ⟨o.toNat, by have := hf.1.1; omega⟩
      obtain ⟨ln, rfl⟩ : ∃ n : Nat, l = n := ⟨l.toNat, by have := hf.1.2.1; omega⟩
      obtain ⟨mn, rfl⟩ : ∃ n : Nat, m = n := ⟨m.toNat, by have := hf.1.2; omega⟩
      obtain ⟨sz, rfl⟩ : ∃ n : Nat, size = n := ⟨size.toNat, by have := hr.1; omega⟩
      rw [appendC_yes hf hr] at h
      have hkd : kdict on ln mn d = Kn.dict on ln mn d := rfl
      have hkv := (Kn.dict_fresh hf).1.val
      obtain ⟨hok, h40, hz, htx, hs⟩ := contB_ok hbs
      obtain ⟨k, hk⟩ : ∃ k, Kn.dict on ln mn d = k := ⟨_, rfl⟩
      rw [hk] at h hkv
      have hsp := splitF_okb hkv (size := sz) (by have := hr.1; omega) (by have := hr.1; omega) L.length L
      have hspz : szs (k.split sz L) = L.length := (splitF_szs k (size := sz) (by have := hr.1; omega) L.length L (Nat.le_refl _)).1
      have hall : ∀ b ∈ bs ++ k.split sz L, b.okb := fun b hb => by
        rcases List.mem_append.1 hb with h1 | h1
        · exact hok b h1
        · exact hsp b h1
      obtain ⟨m1, m2, m3, m4⟩ := mkC_some hall h
      have hdat : k.datas (k.split sz L) = some L := Kn.split_data hkv (by have := hr.1; omega) L
      have hx : x = s ++ textsFrom (0 + bs.length) (k.split sz L) := by rw [m3, textsFrom_append, htx]
      refine ⟨bs, renumL 0 (bs ++ k.split sz L), contD on ln mn d (some bs), rfl, m4, rfl, ?_, hz, by rw [renumL_szs, szs_append, hspz], hr.2.1, ?_, ?_, ?_, ?_⟩
      · show (if _ then _ else _) = _
        rw [if_pos hf]
        show _ = (if _ then _ else _ : Option (List UInt8)).map _
        rw [if_pos hf, hkd, hk, Kn.datas_renumL, Kn.datas_append, hdat]
        cases k.datas bs <;> rfl
      · rw [hx]
        apply ba_list
        simp
        exact List.take_of_length_le (by simp)
      · rw [hx, ByteArray.size_append]; omega
      · exact (contB_ok m4).2.2.2.2
      · intro D hD
        have hD' : (if dfits on ln mn d then (kdict on ln mn d).datas bs else none) = some D := hD
        rw [if_pos hf] at hD'
        rw [Kn.datas_size hok hD']; exact hz
    · rw [appendC_no (Or.inl hc)] at h; cases h

set_option maxHeartbeats 4000000 in
theorem lawFnAppend (A : Option Addr) (n c : Nat) (bs : List UInt8) (w : World) (h : ByteRow w A n bs) (hnc : n ≤ c) :
    Calls Tryz.prog 13 #[.slice A n c] w fun e w' => e = .returned (.bool true) ∧ Below w.heap.size w w' := by
  have hle := h.le
  unfold maxLen at hle
  by_cases hn : n ≤ 1048576
  · have gn := decide_eq_false (p := (1048576 : Int) < n) (by omega)
    have gn2 := decide_eq_false (p := 1048576 < n) (by omega)
    go_enter Tryz.func13, Tryz.ntmps13
    go_wp2_with fail
    refine (specDrawAppendData A n c bs _ h hnc).mono ?_
    rintro e w1 ⟨o, l, m, d, s, U, size, rfl, hd, hs, hU, hsr, hb1⟩
    have kb2 := KBn.start w1 26 [.int .i64 o, .int .i64 l, .int .i64 m]
    have hW2 := hb1.alloc hb1.size (.cells #[.int .i64 o, .int .i64 l, .int .i64 m] 26)
    change KBn (w1.alloc (.cells #[.int .i64 o, .int .i64 l, .int .i64 m] 26)) _ _ at kb2
    clear hb1 h
    go_upto_region 4 with (fail)
    obtain ⟨G, hG⟩ : ∃ G, w1.heap.size = G := ⟨_, rfl⟩
    obtain ⟨w2, hw2⟩ : ∃ W, w1.alloc (.cells #[.int .i64 o, .int .i64 l, .int .i64 m] 26) = W := ⟨_, rfl⟩
    rw [hw2] at kb2 hW2 ⊢
    rw [hG] at kb2 ⊢
    clear hw2 hG
    replace kb2 := Lib.hid kb2
    replace hW2 := Lib.hid hW2
    have HI := fun W => implAppendData o l m size d s U W (by omega) (by omega) (by omega)
    have HS := fun W => specAppendData o l m size d s U W (by omega) (by omega) (by omega)
    replace hsr := Lib.hid hsr
    rcases hT : appendC o l m d.data.toList (contB s) U.data.toList size with _ | x
    · rw [hT] at HI HS
      unfold optV at HI HS
      replace HI := Lib.hid HI
      replace HS := Lib.hid HS
      clear hT
      have qkb0 := kb2.out.c 0 _ rfl
      have qkb1 := kb2.out.c 1 _ rfl
      have qkb2 := kb2.out.c 2 _ rfl
      go_wp2_with fail
      refine (HI.out _).mono ?_
      rintro e w3 ⟨rfl, hb3⟩
      have hW3 := Lib.hid (hW2.out.trans (hb3.mono hW2.out.size))
      have kb3 := Lib.hid (kb2.out.below hb3)
      clear hb3 hW2 kb2 qkb0 qkb1 qkb2
      have qkb0 := kb3.out.c 0 _ rfl
      have qkb1 := kb3.out.c 1 _ rfl
      have qkb2 := kb3.out.c 2 _ rfl
      go_wp2_with fail
      refine (HS.out _).mono ?_
      rintro e w4 ⟨rfl, hb4⟩
      have hW4 := Lib.hid (hW3.out.trans (hb4.mono hW3.out.size))
      have kb4 := Lib.hid (kb3.out.below hb4)
      clear hb4 hW3 kb3 qkb0 qkb1 qkb2
      go_wp2_with fail
      go_ret
      exact ⟨rfl, hW4.out⟩
    · rw [hT] at HI HS
      obtain ⟨p, q, Do, hp, hq, e1, e2, z1, z2, hL, hex, sx, s2, hD2⟩ := append_law hT
      have H1 := fun W => implContainerData o l m d s W (by omega) (by omega)
      have H2 := fun W => implContainerData o l m d x W (by omega) (by omega)
      have H3 := fun W => implContainerSizeYes s p W (by omega) hp
      have H4 := fun W => implContainerSizeYes x q W (by omega) hq
      rw [hp, e1] at H1
      rw [hq, e2] at H2
      have hUl : U.data.toList.length = U.size := by simp
      rw [z2, hUl] at H4
      rw [hUl] at hL
      obtain ⟨z, hz⟩ : ∃ z, szs p = z := ⟨_, rfl⟩
      rw [hz] at H3 H4 z1
      obtain ⟨ul, hul⟩ : ∃ z, U.size = z := ⟨_, rfl⟩
      rw [hul] at H4 hL
      obtain ⟨zz, hzz⟩ : ∃ y, z + ul = y := ⟨_, rfl⟩
      rw [hzz] at H4
      have ez : (z : Int) + ul = zz := by omega
      have wz : IntKind.i64.wrap (zz : Int) = zz := IntWalk.i64_in _ (by omega)
      have i1 : (0 : Int) ≤ s.size := by omega
      have i2 : (s.size : Int) ≤ x.size := by omega
      unfold optV at HI HS
      simp only [Option.getD_some, Option.isSome_some] at HI HS
      replace HI := Lib.hid HI
      replace HS := Lib.hid HS
      replace H3 := Lib.hid H3
      replace H4 := Lib.hid H4
      clear hT hp hq e1 e2 z2 hUl hz hzz
      rcases Do with _ | D
      · have e0 : bsL ([] : List UInt8) = ByteArray.empty := rfl
        simp only [Option.map_none, Option.getD_none, Option.isSome_none] at H1 H2
        replace H1 := Lib.hid H1
        replace H2 := Lib.hid H2
        clear hD2 e0
        have qkb0 := kb2.out.c 0 _ rfl
        have qkb1 := kb2.out.c 1 _ rfl
        have qkb2 := kb2.out.c 2 _ rfl
        go_wp2_with fail
        refine (HI.out _).mono ?_
        rintro e w3 ⟨rfl, hb3⟩
        have hW3 := Lib.hid (hW2.out.trans (hb3.mono hW2.out.size))
        have kb3 := Lib.hid (kb2.out.below hb3)
        clear hb3 hW2 kb2 qkb0 qkb1 qkb2
        have qkb0 := kb3.out.c 0 _ rfl
        have qkb1 := kb3.out.c 1 _ rfl
        have qkb2 := kb3.out.c 2 _ rfl
        go_wp2_with fail
        refine (HS.out _).mono ?_
        rintro e w4 ⟨rfl, hb4⟩
        have hW4 := Lib.hid (hW3.out.trans (hb4.mono hW3.out.size))
        have kb4 := Lib.hid (kb3.out.below hb4)
        clear hb4 hW3 kb3 qkb0 qkb1 qkb2
        have qkb0 := kb4.out.c 0 _ rfl
        have qkb1 := kb4.out.c 1 _ rfl
        have qkb2 := kb4.out.c 2 _ rfl
        go_wp2_with fail
        refine (H1.out _).mono ?_
        rintro e w5 ⟨rfl, hb5⟩
        have hW5 := Lib.hid (hW4.out.trans (hb5.mono hW4.out.size))
        have kb5 := Lib.hid (kb4.out.below hb5)
        clear hb5 hW4 kb4 qkb0 qkb1 qkb2
        have qkb0 := kb5.out.c 0 _ rfl
        have qkb1 := kb5.out.c 1 _ rfl
        have qkb2 := kb5.out.c 2 _ rfl
        go_wp2_with fail
        refine (H2.out _).mono ?_
        rintro e w6 ⟨rfl, hb6⟩
        have hW6 := Lib.hid (hW5.out.trans (hb6.mono hW5.out.size))
        have kb6 := Lib.hid (kb5.out.below hb6)
        clear hb6 hW5 kb5 qkb0 qkb1 qkb2
        go_wp2_with fail
        refine (H3.out _).mono ?_
        rintro e w7 ⟨rfl, hb7⟩
        have hW7 := Lib.hid (hW6.out.trans (hb7.mono hW6.out.size))
        have kb7 := Lib.hid (kb6.out.below hb7)
        clear hb7 hW6 kb6 
        go_wp2_with fail
        refine (H4.out _).mono ?_
        rintro e w8 ⟨rfl, hb8⟩
        have hW8 := Lib.hid (hW7.out.trans (hb8.mono hW7.out.size))
        have kb8 := Lib.hid (kb7.out.below hb8)
        clear hb8 hW7 kb7 
        go_wp2_with fail
        go_ret
        exact ⟨rfl, hW8.out⟩
      · have hDl := hD2 D rfl
        simp only [Option.map_some, Option.getD_some, Option.isSome_some] at H1 H2
        have hbU : bsL U.data.toList = U := rfl
        rw [← bsL_append, hbU] at H2
        obtain ⟨Y, hY⟩ : ∃ Y, bsL D = Y := ⟨_, rfl⟩
        have hYl : Y.size ≤ 2000 := by rw [← hY]; simp [bsL, ByteArray.size]; omega
        rw [hY] at H1 H2
        have hcat : Y.size + U.size ≤ 100000 := by omega
        replace H1 := Lib.hid H1
        replace H2 := Lib.hid H2
        clear hD2 hbU hY hDl
        have qkb0 := kb2.out.c 0 _ rfl
        have qkb1 := kb2.out.c 1 _ rfl
        have qkb2 := kb2.out.c 2 _ rfl
        go_wp2_with fail
        refine (HI.out _).mono ?_
        rintro e w3 ⟨rfl, hb3⟩
        have hW3 := Lib.hid (hW2.out.trans (hb3.mono hW2.out.size))
        have kb3 := Lib.hid (kb2.out.below hb3)
        clear hb3 hW2 kb2 qkb0 qkb1 qkb2
        have qkb0 := kb3.out.c 0 _ rfl
        have qkb1 := kb3.out.c 1 _ rfl
        have qkb2 := kb3.out.c 2 _ rfl
        go_wp2_with fail
        refine (HS.out _).mono ?_
        rintro e w4 ⟨rfl, hb4⟩
        have hW4 := Lib.hid (hW3.out.trans (hb4.mono hW3.out.size))
        have kb4 := Lib.hid (kb3.out.below hb4)
        clear hb4 hW3 kb3 qkb0 qkb1 qkb2
        have qkb0 := kb4.out.c 0 _ rfl
        have qkb1 := kb4.out.c 1 _ rfl
        have qkb2 := kb4.out.c 2 _ rfl
        go_wp2_with fail
        refine (H1.out _).mono ?_
        rintro e w5 ⟨rfl, hb5⟩
        have hW5 := Lib.hid (hW4.out.trans (hb5.mono hW4.out.size))
        have kb5 := Lib.hid (kb4.out.below hb5)
        clear hb5 hW4 kb4 qkb0 qkb1 qkb2
        have qkb0 := kb5.out.c 0 _ rfl
        have qkb1 := kb5.out.c 1 _ rfl
        have qkb2 := kb5.out.c 2 _ rfl
        go_wp2_with fail
        refine (H2.out _).mono ?_
        rintro e w6 ⟨rfl, hb6⟩
        have hW6 := Lib.hid (hW5.out.trans (hb6.mono hW5.out.size))
        have kb6 := Lib.hid (kb5.out.below hb6)
        clear hb6 hW5 kb5 qkb0 qkb1 qkb2
        go_wp2_with fail
        refine (H3.out _).mono ?_
        rintro e w7 ⟨rfl, hb7⟩
        have hW7 := Lib.hid (hW6.out.trans (hb7.mono hW6.out.size))
        have kb7 := Lib.hid (kb6.out.below hb7)
        clear hb7 hW6 kb6 
        go_wp2_with fail
        refine (H4.out _).mono ?_
        rintro e w8 ⟨rfl, hb8⟩
        have hW8 := Lib.hid (hW7.out.trans (hb8.mono hW7.out.size))
        have kb8 := Lib.hid (kb7.out.below hb8)
        clear hb8 hW7 kb7 
        go_wp2_with fail
        go_ret
        exact ⟨rfl, hW8.out⟩
  · have gn := decide_eq_true (p := (1048576 : Int) < n) (by omega)
    have gn2 := decide_eq_true (p := 1048576 < n) (by omega)
    clear h
    go_enter Tryz.func13, Tryz.ntmps13
    go_wp2_with fail
    go_ret
    exact ⟨rfl, Below.refl _ _⟩

end Go.Proofs.YtopklampiaecdaaGreat
