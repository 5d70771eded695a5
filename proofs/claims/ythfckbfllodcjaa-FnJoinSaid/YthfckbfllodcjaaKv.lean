/-
  What is known at first: the reference's Start; what is known and valid: the reference's KnownValid.
-/
import Derived.Test.YthfckbfllodcjaaSet
import Derived.Test.YthfckbfllodcjaaWordsH
namespace Go.Proofs.Ythfckbfllodcjaa
open Go.RowKit
set_option linter.unusedVariables false

/-- What is known at first. -/
def Kn.zero (o l m : Nat) : Kn := ⟨o, l, m, [], 0, none⟩

theorem Kn.zero_valid {o l m : Nat} (h : sv o l m) : (Kn.zero o l m).Valid := by
  unfold sv at h
  refine ⟨?_, ?_, ?_, ?_, ?_, Nat.zero_le _, Nat.le_refl _, ?_, ?_⟩
  · show o < 2; omega
  · show 1 ≤ l; omega
  · show l ≤ 8; omega
  · show l + 2 ≤ m; omega
  · show m ≤ 10; omega
  · intro i p b hi; simp [Kn.zero] at hi
  · intro c hc; cases hc

/-- What is known and no code was read. -/
structure Kn.Fresh (k : Kn) : Prop where
  val : k.Valid
  last : k.last = none
  base : k.base = k.ps.length

theorem Kn.zero_fresh {o l m : Nat} (h : sv o l m) : (Kn.zero o l m).Fresh := ⟨Kn.zero_valid h, rfl, rfl⟩

theorem Kn.Valid.sv {k : Kn} (h : k.Valid) : sv k.o k.l k.m := by
  have h1 := h.ord
  have h2 := h.lit1
  have h3 := h.lit8
  have h4 := h.most
  have h5 := h.most10
  unfold Go.Proofs.Ythfckbfllodcjaa.sv
  omega

set_option maxHeartbeats 1000000 in
theorem specStartYes (o l m : Nat) (w : World) (h : sv o l m) :
    Calls Try.prog 65 #[.agg #[.int .i64 (o : Int), .int .i64 (l : Int), .int .i64 (m : Int)]] w fun e w' => e = .returned (.tuple #[.agg #[.int .i64 (o : Int), .int .i64 (l : Int), .int .i64 (m : Int), .slice none 0 0, .int .i64 0, .int .i64 (-1)], .bool true]) ∧ Below w.heap.size w w' := by
  have H := Lib.hid (fun W => specSettingValid o l m true W (btrue h))
  clear h
  go_enter Try.func65, Try.ntmps65
  go_wp2_with fail
  refine (H.out _).mono ?_
  rintro e w1 ⟨rfl, hb1⟩
  obtain ⟨hc, hf⟩ := bcell hb1
  have hb2 := (((((((((Below.refl w.heap.size w).alloc (Nat.le_refl _) _).alloc (by simp) _).trans (hb1.mono (by simp; omega))).setCell (p := ⟨w.heap.size + 1, 0, none⟩) (by simp) (.int .i64 (o : Int))).setCell (p := ⟨w.heap.size + 1, 1, none⟩) (by simp) (.int .i64 (l : Int))).setCell (p := ⟨w.heap.size + 1, 2, none⟩) (by simp) (.int .i64 (m : Int))).setCell (p := ⟨w.heap.size + 1, 3, none⟩) (by simp) (.slice none 0 0)).setCell (p := ⟨w.heap.size + 1, 4, none⟩) (by simp) (.int .i64 0)).setCell (p := ⟨w.heap.size + 1, 5, none⟩) (by simp) (.int .i64 (-1))
  replace hb2 := Lib.hid hb2
  clear hb1
  go_wp2_with fail
  refine bodyPost_ret (v := .tuple #[.agg #[.int .i64 (o : Int), .int .i64 (l : Int), .int .i64 (m : Int), .slice none 0 0, .int .i64 0, .int .i64 (-1)], .bool true]) (by simp [results, Try.results65, go_sem, hc]) rfl ?_
  exact ⟨rfl, hb2.out⟩

set_option maxHeartbeats 1000000 in
theorem specStartNo (o l m : Int) (w : World) (h : ¬ sv o l m) :
    Calls Try.prog 65 #[.agg #[.int .i64 o, .int .i64 l, .int .i64 m]] w fun e w' => e = .returned (.tuple #[.agg #[.int .i64 0, .int .i64 0, .int .i64 0, .slice none 0 0, .int .i64 0, .int .i64 0], .bool false]) ∧ Below w.heap.size w w' := by
  have H := Lib.hid (fun W => specSettingValid o l m false W (bfalse h))
  clear h
  go_enter Try.func65, Try.ntmps65
  go_wp2_with fail
  refine (H.out _).mono ?_
  rintro e w1 ⟨rfl, hb1⟩
  obtain ⟨hc, hf⟩ := bcell hb1
  have hb2 := (((((((((Below.refl w.heap.size w).alloc (Nat.le_refl _) _).alloc (by simp) _).trans (hb1.mono (by simp; omega))).setCell (p := ⟨w.heap.size + 1, 0, none⟩) (by simp) (.int .i64 0)).setCell (p := ⟨w.heap.size + 1, 1, none⟩) (by simp) (.int .i64 0)).setCell (p := ⟨w.heap.size + 1, 2, none⟩) (by simp) (.int .i64 0)).setCell (p := ⟨w.heap.size + 1, 3, none⟩) (by simp) (.slice none 0 0)).setCell (p := ⟨w.heap.size + 1, 4, none⟩) (by simp) (.int .i64 0)).setCell (p := ⟨w.heap.size + 1, 5, none⟩) (by simp) (.int .i64 0)
  replace hb2 := Lib.hid hb2
  clear hb1
  go_wp2_with fail
  refine bodyPost_ret (v := .tuple #[.agg #[.int .i64 0, .int .i64 0, .int .i64 0, .slice none 0 0, .int .i64 0, .int .i64 0], .bool false]) (by simp [results, Try.results65, go_sem, hc]) rfl ?_
  exact ⟨rfl, hb2.out⟩

theorem kvBox {w wx : World} {T U : TypeId} {a b c d e f x y z : Value} (h : Below (w.heap.size + 2) ((w.alloc (.cells #[a, b, c, d, e, f] T)).alloc (.cells #[x, y, z] U)) wx) :
    (wx.cell? ⟨w.heap.size, 0, none⟩ = some a ∧ wx.cell? ⟨w.heap.size, 1, none⟩ = some b ∧ wx.cell? ⟨w.heap.size, 2, none⟩ = some c ∧ wx.cell? ⟨w.heap.size, 3, none⟩ = some d ∧ wx.cell? ⟨w.heap.size, 4, none⟩ = some e ∧ wx.cell? ⟨w.heap.size, 5, none⟩ = some f) ∧
      wx.cell? ⟨w.heap.size + 1, 0, none⟩ = some x ∧ wx.cell? ⟨w.heap.size + 1, 1, none⟩ = some y ∧ wx.cell? ⟨w.heap.size + 1, 2, none⟩ = some z := by
  have e0 := ((Below.refl (w.heap.size + 1) (w.alloc (.cells #[a, b, c, d, e, f] T))).alloc (by simp) (.cells #[x, y, z] U)).block w.heap.size (by omega)
  have e1 : wx.heap[w.heap.size]? = some (.cells #[a, b, c, d, e, f] T (0, 0)) := (h.block _ (by omega)).trans (e0.trans (heap_alloc_new w _))
  have e3 := heap_alloc_new (w.alloc (.cells #[a, b, c, d, e, f] T)) (.cells #[x, y, z] U)
  rw [World.size_alloc] at e3
  have e2 : wx.heap[w.heap.size + 1]? = some (.cells #[x, y, z] U (0, 0)) := (h.block _ (by omega)).trans e3
  refine ⟨⟨?_, ?_, ?_, ?_, ?_, ?_⟩, ?_, ?_, ?_⟩ <;> simp [World.cell?, e1, e2]

set_option maxHeartbeats 8000000 in
theorem specKnownValid (k : Kn) (A : Option Addr) (c B : Nat) (w : World) (h : k.Fresh) (hA : k.At w B A) (hB : B ≤ w.heap.size) :
    Calls Try.prog 67 #[k.val A c] w fun e w' => e = .returned (.bool true) ∧ Below w.heap.size w w' := by
  have hv := h.val
  have hpw := hv.pow
  have hroom := hv.room
  have hl8 := hv.lit8
  have hm10 := hv.most10
  have hli : k.lastI = -1 := Kn.lastI_none h.last
  have hbase := h.base
  have HS := fun W => specSettingValid k.o k.l k.m true W (btrue hv.sv)
  have HC := fun W => specL1Clear k.o k.l k.m W (by omega)
  unfold setV at HC
  have HE := fun W => specL1End k.o k.l k.m W (by omega)
  have HT := fun W => specL1Last k.o k.l k.m W (by omega)
  have hz : 2 ^ k.l = k.clear := rfl
  have hfe : 2 ^ k.l + 1 = k.fin := rfl
  have hte : 2 ^ k.m - 1 = k.top := rfl
  rw [hz] at HC
  rw [hfe] at HE
  rw [hte] at HT
  have HP := fun (i p b : Nat) (hi : k.ps[i]? = some (p, b)) => hv.pair i p b hi
  have HQ := fun (i p : Nat) (hp : k.has i p) (hi : i ≤ k.ps.length) W => specL2Code k.o k.l k.m i p true W hl8 (by omega) (btrue (by
    unfold Kn.has at hp
    rw [hfe]
    have : ((2 : Int) ^ k.l) = (k.clear : Int) := by rw [← hz]; simp
    omega))
  have HQ2 := fun W => specL2Code k.o k.l k.m k.ps.length (-1) false W hl8 (by omega) (bfalse (by omega))
  have HI := fun W => specL1In (k.base : Int) 0 (k.ps.length : Int) true W (btrue (by omega))
  have hfc := k.fin_eq
  have hrow := hA
  obtain ⟨ps, hps⟩ : ∃ ps, k.ps = ps := ⟨_, rfl⟩
  obtain ⟨n, hn⟩ : ∃ n, ps.length = n := ⟨_, rfl⟩
  unfold Kn.At at hrow
  unfold Kn.val
  rw [hps, hn] at hrow hroom HQ HI HQ2 hbase
  rw [hps] at HP
  rw [hps, hn, hli]
  obtain ⟨z, hz'⟩ : ∃ z, k.clear = z := ⟨_, rfl⟩
  obtain ⟨f, hf'⟩ : ∃ z, k.fin = z := ⟨_, rfl⟩
  obtain ⟨t, ht'⟩ : ∃ z, k.top = z := ⟨_, rfl⟩
  rw [hz'] at HC HP hpw hfc
  rw [hf'] at HE hroom hfc
  rw [ht'] at HT hpw hroom
  obtain ⟨d, hd⟩ : ∃ d : Nat, (t : Int) - f = d := ⟨t - f, by omega⟩
  obtain ⟨z1, hz1⟩ : ∃ d : Nat, (z : Int) - 1 = d := ⟨z - 1, by omega⟩
  have HB := fun (b : Nat) (hb : b < z) W => specL1In (b : Int) 0 (z1 : Int) true W (btrue (by omega))
  have wd : IntKind.i64.wrap (d : Int) = d := IntWalk.i64_in _ (by omega)
  have wz : IntKind.i64.wrap (z1 : Int) = z1 := IntWalk.i64_in _ (by omega)
  have g1 : decide ((d : Int) < n) = false := decide_eq_false (by omega)
  have g2 : decide (d < n) = false := decide_eq_false (by omega)
  have hbn : k.base = n := by omega
  have hnb : n ≤ 1023 := by omega
  obtain ⟨o, ho⟩ : ∃ x, k.o = x := ⟨_, rfl⟩
  obtain ⟨l, hl'⟩ : ∃ x, k.l = x := ⟨_, rfl⟩
  obtain ⟨m, hm⟩ : ∃ x, k.m = x := ⟨_, rfl⟩
  rw [ho, hl', hm] at HS HC HE HT HQ2 HQ
  rw [hbn] at HI
  rw [ho, hl', hm, hbn]
  replace HS := Lib.hid HS
  replace HC := Lib.hid HC
  replace HE := Lib.hid HE
  replace HT := Lib.hid HT
  replace HP := Lib.hid HP
  replace HQ := Lib.hid HQ
  replace HQ2 := Lib.hid HQ2
  replace HI := Lib.hid HI
  replace HB := Lib.hid HB
  replace hn := Lib.hid hn
  replace hd := Lib.hid hd
  replace hz1 := Lib.hid hz1
  have hd2 : (t : Int) - f = d := hd.out
  have hz2 : (z : Int) - 1 = z1 := hz1.out
  clear hli hbase hz hfe hte hroom hl8 hm10 hz' hf' ht' hbn ho hl' hm hpw hfc hv h hA hd hz1
  go_enter Try.func67, Try.ntmps67
  go_upto_region 2 with (fail)
  obtain ⟨⟨q0, q1, q2, q3, q4, q5⟩, r0, r1, r2⟩ := kvBox (Below.refl _ ((w.alloc (.cells #[.int .i64 (o : Int), .int .i64 (l : Int), .int .i64 (m : Int), .slice A n c, .int .i64 (n : Int), .int .i64 (-1)] 91)).alloc (.cells #[.int .i64 (o : Int), .int .i64 (l : Int), .int .i64 (m : Int)] 38)))
  refine wp_region_cls (by kernel_rfl) (by kernel_rfl) ?_
  have cq1 := clsCell q1
  have cq3 := clsCell q3
  have cq4 := clsCell q4
  have cr0 := clsCell r0
  have cr1 := clsCell r1
  have cr2 := clsCell r2
  repeat (go_big_quiet_step (first | (go_at_call 53; exact clsCall (HS.out _)) | (go_at_call 70; exact clsCall (HT.out _)) | (go_at_call 71; exact clsCall (HE.out _)) | (go_at_call 26; exact clsSame (HI.out _))))
  refine wpQuiet_nil ?_
  rintro w1 ⟨⟨w1, hB1⟩, rfl⟩
  have hb1 := Lib.hid (hB1.mono (show w.heap.size + 2 ≤ _ by simp))
  clear q0 q1 q2 q3 q4 q5 r0 r1 r2 cq1 cq3 cq4 cr0 cr1 cr2 hB1
  go_wp2_with fail
  go_loopw [4] (fun v wr => ∃ i : Nat, v = .int .i64 (i : Int) ∧ i ≤ n ∧ Hid (Below (w.heap.size + 2) ((w.alloc (.cells #[.int .i64 (o : Int), .int .i64 (l : Int), .int .i64 (m : Int), .slice A n c, .int .i64 (n : Int), .int .i64 (-1)] 91)).alloc (.cells #[.int .i64 (o : Int), .int .i64 (l : Int), .int .i64 (m : Int)] 38)) wr)) (fun v _ => n - (intOf v).toNat)
  case atStart => exact ⟨0, rfl, Nat.zero_le _, hb1⟩
  case round =>
    clear hb1
    obtain ⟨i, rfl, hi, hbel⟩ := hrel
    obtain ⟨⟨q0, q1, q2, q3, q4, q5⟩, r0, r1, r2⟩ := kvBox hbel.out
    have hsz : w.heap.size + 2 ≤ wr.heap.size := by have := hbel.out.size; simpa using this
    by_cases h1 : (i : Int) < n
    · have hil : i < ps.length := by rw [hn.out]; omega
      obtain ⟨⟨p, b⟩, hpb⟩ : ∃ x, ps[i]? = some x := ⟨_, List.getElem?_eq_getElem hil⟩
      have hpv := HP.out i p b hpb
      have HQ1 := HQ.out i p hpv.1 (by omega)
      have HB1 := HB.out b hpv.2
      have hW := ((Below.refl w.heap.size w).alloc (Nat.le_refl _) (.cells #[.int .i64 (o : Int), .int .i64 (l : Int), .int .i64 (m : Int), .slice A n c, .int .i64 (n : Int), .int .i64 (-1)] 91)).alloc (by simp) (.cells #[.int .i64 (o : Int), .int .i64 (l : Int), .int .i64 (m : Int)] 38)
      obtain ⟨ba, off, rfl, hbB, g0, g2'⟩ := (hrow.below (hW.trans (hbel.out.mono (by omega))) hB).pair (by omega) hpb
      replace HQ1 := Lib.hid HQ1
      replace HB1 := Lib.hid HB1
      have i0 : (0 : Int) ≤ i := by omega
      clear hpv hpb hil hW
      go_wp2_with fail
      refine wp_region_cls (by kernel_rfl) (by kernel_rfl) ?_
      have cq3 := clsCell q3
      have cr0 := clsCell r0
      have cr1 := clsCell r1
      have cr2 := clsCell r2
      have cg0 := clsCell g0
      have cg1 := clsCell g2'
      repeat (go_big_quiet_step (first | (go_at_call 72; exact clsCall (HQ1.out _)) | (go_at_call 47; exact clsCall (HC.out _)) | (go_at_call 26; exact clsSame (HB1.out _))))
      refine wpQuiet_nil ?_
      rintro w1 ⟨⟨w1, hB1⟩, rfl⟩
      have hb1 := Lib.hid (hbel.out.trans (hB1.mono hsz))
      clear q0 q1 q2 q3 q4 q5 r0 r1 r2 cq3 cr0 cr1 cr2 cg0 cg1 g0 g2' hB1
      go_wp2_with fail
      go_roundw
      case rel => exact ⟨i + 1, by go_num, by omega, hb1⟩
      case measure => simp [intOf]; omega
    · have hin : i = n := by omega
      have hnn : decide (n < n) = false := decide_eq_false (by omega)
      go_wp2_with fail
      refine (HQ2.out _).mono ?_
      rintro e w1 ⟨rfl, hb1⟩
      have hb2 := Lib.hid (hbel.out.trans (hb1.mono hsz))
      clear q0 q1 q2 q3 q4 q5 r0 r1 r2 hb1
      obtain ⟨⟨q0, q1, q2, q3, q4, q5⟩, r0, r1, r2⟩ := kvBox hb2.out
      go_wp2_with fail
      go_ret
      exact ⟨rfl, (((Below.refl w.heap.size w).alloc (Nat.le_refl _) _).alloc (by simp) _).trans (hb2.out.mono (by omega))⟩

end Go.Proofs.Ythfckbfllodcjaa
