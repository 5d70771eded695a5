/-
 The program's TouchedBlocks and IndexOf, of a container that is read.
-/
import Derived.Test.YthlgpgaeajfchaaGreatQPropK
import Derived.Test.YthlgpgaeajfchaaGreatQMergeP
import Derived.Test.YthlgpgaeajfchaaGreatQPropR
import Derived.Test.YthlgpgaeajfchaaGreatQTreeMem
import Derived.Test.YthlgpgaeajfchaaGreatQImplTLearn

namespace Go.Proofs.YthlgpgaeajfchaaGreat
open Go.RowKit
set_option linter.unusedVariables false
set_option linter.unusedSimpArgs false
set_option maxRecDepth 100000

theorem tchL_take (f t : Nat) : ∀ (bs : List Blk) (p i j : Nat) (b : Blk), bs[j]? = some b → tchL f t p i (bs.take (j + 1)) = tchL f t p i (bs.take j) ++ (if max (p + szs (bs.take j)) f < min (p + szs (bs.take j) + b.size) t then [i + j] else []) := by
 intro bs
 induction bs with
 | nil => intro p i j b h; simp at h
 | cons c bs ih =>
  intro p i j b h
  cases j with
  | zero =>
   have e : c = b := by simpa using h
   subst e
   show (if max p f < min (p + c.size) t then [i] else []) ++ [] = [] ++ (if max (p + 0) f < min (p + 0 + c.size) t then [i + 0] else [])
   simp
  | succ j =>
   have h2 : bs[j]? = some b := by simpa using h
   have hi := ih (p + c.size) (i + 1) j b h2
   rw [List.take_succ_cons, List.take_succ_cons]
   show (if _ then [i] else []) ++ tchL f t (p + c.size) (i + 1) (bs.take (j + 1)) = ((if _ then [i] else []) ++ tchL f t (p + c.size) (i + 1) (bs.take j)) ++ _
   rw [hi, szs_cons, List.append_assoc]
   have e1 : p + c.size + szs (bs.take j) = p + (c.size + szs (bs.take j)) := by omega
   have e2 : i + 1 + j = i + (j + 1) := by omega
   rw [e1, e2]

set_option maxHeartbeats 4000000 in
theorem implTouchedBlocks (s : ByteArray) (f t : Nat) (bs : List Blk) (w : World) (hs : s.size ≤ 1048576) (hf : f ≤ 100000) (ht : t ≤ 100000) (h : contB s = some bs) :
  Calls Tryz.prog 27 #[.string s, .int .i64 (f : Int), .int .i64 (t : Int)] w fun e w' => ∃ A c n, e = .returned (.slice A n c) ∧ n = (tchL f t 0 0 bs).length ∧ w'.ownsRow w.heap.size 3 1 (.slice A n c) n ((tchL f t 0 0 bs).map natV) ∧ Below w.heap.size w w' := by
 have hnum := contB_numbered h
 have h40 := hnum.length
 have hok := numbered_okb hnum
 have hz := contB_szs h
 obtain ⟨n, hn⟩ : ∃ n, bs.length = n := ⟨_, rfl⟩
 have H1 := Lib.hid (fun W => implContainerBlocksYes s bs n W hs h hn)
 rw [hn] at h40
 replace hn := Lib.hid hn
 replace hok := Lib.hid hok
 replace hz := Lib.hid hz
 clear h hnum
 go_enter Tryz.func27, Tryz.ntmps27
 go_wp2_with fail
 refine (H1.out _).mono ?_
 rintro e w1 ⟨A1, c1, rfl, ho1, hb1⟩
 have hr := Lib.hid (Row.of_own ho1)
 have hz1 := hb1.size
 replace hb1 := Lib.hid hb1
 have hO0 : Hid (w1.ownsRow w1.heap.size 3 1 (.slice none 0 0) 0 ([] : List Value)) := Lib.hid ⟨rfl, Or.inl ⟨rfl, rfl⟩⟩
 clear ho1
 go_wp2_with fail
 go_loopw [9, 10, 23] (fun v q i wr => ∃ (A' : Option Addr) (c' j p mm : Nat), v = .slice A' mm c' ∧ q = .int .i64 (p : Int) ∧ i = .int .i64 (j : Int) ∧ j ≤ n ∧ p ≤ 64 * j ∧ mm ≤ j ∧ Hid (p = szs (bs.take j)) ∧ Hid ((tchL f t 0 0 (bs.take j)).length = mm) ∧ Hid (wr.ownsRow w1.heap.size 3 1 (.slice A' mm c') mm ((tchL f t 0 0 (bs.take j)).map natV)) ∧ Hid (Below w1.heap.size w1 wr)) (fun _ _ i _ => n - (intOf i).toNat)
 case atStart => exact ⟨_, _, 0, 0, 0, rfl, rfl, rfl, Nat.zero_le _, Nat.zero_le _, Nat.le_refl _, Lib.hid rfl, Lib.hid rfl, hO0, Lib.hid (Below.refl _ _)⟩
 case round =>
  obtain ⟨A', c', j, p, mm, rfl, rfl, rfl, hj, hp, hmj, hpz, hml, hO, hbel⟩ := hrel
  clear hO0
  have hwz := hbel.out.size
  by_cases hlt : j < n
  ·obtain ⟨b, hb⟩ : ∃ b, bs[j]? = some b := ⟨_, List.getElem?_eq_getElem (by rw [hn.out]; exact hlt)⟩
   obtain ⟨g, off, rfl, hg, p0, p1, p2', p3⟩ := (hr.out.below hbel.out (Nat.le_refl _)).blk (num := b.num) (raw := b.raw) (size := b.size) (body := b.body) hlt hb
   have h64 := (hok.out b (List.mem_of_getElem? hb)).2.1
   have htk := tchL_take f t bs 0 0 j b hb
   have hsk := szs_take_succ bs j b hb
   rw [← hpz.out] at htk hsk
   simp only [Nat.zero_add] at htk
   obtain ⟨x0, hx0⟩ : ∃ x : Nat, b.num = x := ⟨_, rfl⟩
   obtain ⟨x1, hx1⟩ : ∃ x, b.raw = x := ⟨_, rfl⟩
   obtain ⟨x2, hx2⟩ : ∃ x : Nat, b.size = x := ⟨_, rfl⟩
   obtain ⟨x3, hx3⟩ : ∃ x, b.body = x := ⟨_, rfl⟩
   rw [hx0] at p0
   rw [hx1] at p1
   rw [hx2] at p2' htk hsk h64
   rw [hx3] at p3
   obtain ⟨p2, hp2e⟩ : ∃ z, p + x2 = z := ⟨_, rfl⟩
   rw [hp2e] at htk hsk
   have hp2 : p2 ≤ 64 * (j + 1) := by omega
   have ep2 : (p : Int) + x2 = p2 := by omega
   have wp2 : IntKind.i64.wrap (p2 : Int) = p2 := IntWalk.i64_in _ (by omega)
   obtain ⟨st, hst⟩ : ∃ z : Nat, max p f = z := ⟨_, rfl⟩
   obtain ⟨en, hen⟩ : ∃ z : Nat, min p2 t = z := ⟨_, rfl⟩
   rw [hst, hen] at htk
   have hsti : max (p : Int) (f : Int) = (st : Int) := by omega
   have heni : min (p2 : Int) (t : Int) = (en : Int) := by omega
   have hj0 : (0 : Int) ≤ j := by omega
   have hji : (j : Int) < n := by omega
   have hpz2 : Hid (p2 = szs (bs.take (j + 1))) := Lib.hid (by omega)
   have hbl5 := (Below.refl wr.heap.size wr).alloc (Nat.le_refl _) (.cells #[.int .i64 (x0 : Int), .bool x1, .int .i64 (x2 : Int), .string x3] 36)
   have hb5 := Lib.hid (hbel.out.trans (hbl5.mono hwz))
   have O5 := Lib.hid (own_below hO.out hbl5 (Nat.le_refl _))
   have X5 := Lib.hid (KBn.start wr 36 [.int .i64 (x0 : Int), .bool x1, .int .i64 (x2 : Int), .string x3])
   replace hst := Lib.hid hst
   replace hen := Lib.hid hen
   replace hp2e := Lib.hid hp2e
   clear hbl5 hO hbel hx0 hx1 hx2 hx3 hb hsk
   go_upto_region 9 with (fail)
   obtain ⟨X, hX⟩ : ∃ X, wr.heap.size = X := ⟨_, rfl⟩
   obtain ⟨w5, hw5⟩ : ∃ W, wr.alloc (.cells #[.int .i64 (x0 : Int), .bool x1, .int .i64 (x2 : Int), .string x3] 36) = W := ⟨_, rfl⟩
   rw [hw5] at hb5 X5 O5 ⊢
   rw [hX] at X5 hwz ⊢
   clear hw5 hX p0 p1 p2' p3
   have y2 := X5.out.c 2 _ rfl
   by_cases hc : st < en
   ·rw [if_pos hc] at htk
    have g1 : decide ((st : Int) < (en : Int)) = true := decide_eq_true (by omega)
    have g2 : decide (st < en) = true := decide_eq_true hc
    have hml2 : Hid ((tchL f t 0 0 (bs.take (j + 1))).length = mm + 1) := Lib.hid (by rw [htk, List.length_append, hml.out]; rfl)
    have hcb : Hid ((tchL f t 0 0 (bs.take (j + 1))).map natV = (tchL f t 0 0 (bs.take j)).map natV ++ [.int .i64 (j : Int)]) := Lib.hid (by rw [htk, List.map_append]; rfl)
    have hsc : w1.heap.size ≤ w5.heap.size := hb5.out.size
    have ownC := O5.out
    clear htk hc X5
    go_wp2_with (first
     | (at_builtin; refine wpList_append_row _ elemInt rfl (.tmp 39) (.tmp 41) rfl w1.heap.size _ _ _ rfl (ownC.alloc _) _ _ 1 1 [.int .i64 (j : Int)] rfl (Row.newAt _ _ rfl _ [.int .i64 (j : Int)] 1 1 rfl) ?_ ?_ ?_ ?_ ?_))
    all_goals first
     | (intro z hz; simp at hz; subst hz; rfl)
     | (unfold maxLen; omega)
     | omega
     | (simp; omega)
     | skip
    all_goals (
     intro ve we hve hge _
     obtain ⟨Ae, ce, rfl, _, _⟩ := own_form hve
     have hgx := fun g (hg : (Value.slice A' mm c').ownBlock = some g) => (ownC.lt g hg).1
     have hbE := Lib.hid ((hb5.out.alloc hsc _).grown hge (by first | omega | (simp; omega)) (fun g hg => hgx g hg))
     have hOe : Hid (we.ownsRow w1.heap.size 3 1 (.slice Ae (mm + 1) ce) (mm + 1) ((tchL f t 0 0 (bs.take (j + 1))).map natV)) := Lib.hid (by rw [hcb.out]; exact hve)
     clear hve hge ownC hgx O5 hb5
     go_wp2_with fail
     go_roundw
     case rel => exact ⟨Ae, ce, j + 1, p2, mm + 1, rfl, rfl, rfl, by omega, hp2, by omega, hpz2, hml2, hOe, hbE⟩
     case measure => simp [intOf]; omega)
   ·rw [if_neg hc, List.append_nil] at htk
    have g1 : decide ((st : Int) < (en : Int)) = false := decide_eq_false (by omega)
    have g2 : decide (st < en) = false := decide_eq_false hc
    have hml2 : Hid ((tchL f t 0 0 (bs.take (j + 1))).length = mm) := Lib.hid (by rw [htk]; exact hml.out)
    have hOe : Hid (w5.ownsRow w1.heap.size 3 1 (.slice A' mm c') mm ((tchL f t 0 0 (bs.take (j + 1))).map natV)) := Lib.hid (by rw [htk]; exact O5.out)
    clear htk hc X5 O5
    go_wp2_with fail
    go_roundw
    case rel => exact ⟨A', c', j + 1, p2, mm, rfl, rfl, rfl, by omega, hp2, by omega, hpz2, hml2, hOe, hb5⟩
    case measure => simp [intOf]; omega
  ·have ht2 : bs.take j = bs := List.take_of_length_le (by rw [hn.out]; omega)
   have hml2 := hml.out
   have hO2 := hO.out
   rw [ht2] at hml2 hO2
   have hres := Lib.hid (And.intro hml2 (And.intro (own_base (base' := w.heap.size) hO2 hz1) (hb1.out.trans (hbel.out.mono hz1))))
   have hji : ¬ ((j : Int) < n) := by omega
   clear ht2 hml2 hO2 hO hbel hml
   go_wp2_with fail
   refine bodyPost_ret (v := .slice A' mm c') (by simp [results, Tryz.results27, go_sem]) rfl ?_
   exact ⟨A', c', mm, rfl, hres.out.1.symm, hres.out.2.1, hres.out.2.2⟩

end Go.Proofs.YthlgpgaeajfchaaGreat
