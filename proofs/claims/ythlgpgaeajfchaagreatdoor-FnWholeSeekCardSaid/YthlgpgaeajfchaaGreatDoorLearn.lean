/-
  What is known at first: the reference's Start; what is known and valid: the reference's KnownValid.
  What is known behind the words of a text: the reference's l4Learn.
-/
import Derived.Test.YthlgpgaeajfchaaGreatDoorSet
import Derived.Test.YthlgpgaeajfchaaGreatDoorWordsG

namespace Go.Proofs.YthlgpgaeajfchaaGreatDoor
open Go.RowKit
set_option linter.unusedVariables false

/-- What is known at first. -/
def Kn.zero (o l m : Nat) : Kn := ⟨o, l, m, [], 0, none⟩

theorem Kn.zero_valid {o l m : Nat} (h : sv o l m) : (Kn.zero o l m).Valid := by
  unfold sv at h
  refine ⟨?_, ?_, ?_, ?_, ?_, Nat.zero_le _, Nat.le_refl _, ?_, ?_⟩
  · show o < 2; omega
  · show 1 ≤ l; omega
  · show l ≤ 8; omega
  · show l + 2 ≤ m; omega
  · show m ≤ 10; omega
  · intro i p b hi; simp [Kn.zero] at hi
  · intro c hc; cases hc

/-- What is known and no code was read. -/
structure Kn.Fresh (k : Kn) : Prop where
  val : k.Valid
  last : k.last = none
  base : k.base = k.ps.length

theorem Kn.zero_fresh {o l m : Nat} (h : sv o l m) : (Kn.zero o l m).Fresh := ⟨Kn.zero_valid h, rfl, rfl⟩

theorem Kn.Valid.sv {k : Kn} (h : k.Valid) : sv k.o k.l k.m := by
  have h1 := h.ord
  have h2 := h.lit1
  have h3 := h.lit8
  have h4 := h.most
  have h5 := h.most10
  unfold Go.Proofs.YthlgpgaeajfchaaGreatDoor.sv
  omega

set_option maxHeartbeats 1000000 in
theorem specStartYes (o l m : Nat) (w : World) (h : sv o l m) :
    Calls Tryz.prog 131 #[.agg #[.int .i64 (o : Int), .int .i64 (l : Int), .int .i64 (m : Int)]] w fun e w' => e = .returned (.tuple #[.agg #[.int .i64 (o : Int), .int .i64 (l : Int), .int .i64 (m : Int), .slice none 0 0, .int .i64 0, .int .i64 (-1)], .bool true]) ∧ Below w.heap.size w w' := by
  have H := Lib.hid (fun W => specSettingValid o l m true W (btrue h))
  clear h
  go_enter Tryz.func131, Tryz.ntmps131
  go_wp2_with fail
  refine (H.out _).mono ?_
  rintro e w1 ⟨rfl, hb1⟩
  obtain ⟨hc, hf⟩ := bcell hb1
  have hb2 := (((((((((Below.refl w.heap.size w).alloc (Nat.le_refl _) _).alloc (by simp) _).trans (hb1.mono (by simp; omega))).setCell (p := ⟨w.heap.size + 1, 0, none⟩) (by simp) (.int .i64 (o : Int))).setCell (p := ⟨w.heap.size + 1, 1, none⟩) (by simp) (.int .i64 (l : Int))).setCell (p := ⟨w.heap.size + 1, 2, none⟩) (by simp) (.int .i64 (m : Int))).setCell (p := ⟨w.heap.size + 1, 3, none⟩) (by simp) (.slice none 0 0)).setCell (p := ⟨w.heap.size + 1, 4, none⟩) (by simp) (.int .i64 0)).setCell (p := ⟨w.heap.size + 1, 5, none⟩) (by simp) (.int .i64 (-1))
  replace hb2 := Lib.hid hb2
  clear hb1
  go_wp2_with fail
  refine bodyPost_ret (v := .tuple #[.agg #[.int .i64 (o : Int), .int .i64 (l : Int), .int .i64 (m : Int), .slice none 0 0, .int .i64 0, .int .i64 (-1)], .bool true]) (by simp [results, Tryz.results131, go_sem, hc]) rfl ?_
  exact ⟨rfl, hb2.out⟩

set_option maxHeartbeats 1000000 in
theorem specStartNo (o l m : Int) (w : World) (h : ¬ sv o l m) :
    Calls Tryz.prog 131 #[.agg #[.int .i64 o, .int .i64 l, .int .i64 m]] w fun e w' => e = .returned (.tuple #[.agg #[.int .i64 0, .int .i64 0, .int .i64 0, .slice none 0 0, .int .i64 0, .int .i64 0], .bool false]) ∧ Below w.heap.size w w' := by
  have H := Lib.hid (fun W => specSettingValid o l m false W (bfalse h))
  clear h
  go_enter Tryz.func131, Tryz.ntmps131
  go_wp2_with fail
  refine (H.out _).mono ?_
  rintro e w1 ⟨rfl, hb1⟩
  obtain ⟨hc, hf⟩ := bcell hb1
  have hb2 := (((((((((Below.refl w.heap.size w).alloc (Nat.le_refl _) _).alloc (by simp) _).trans (hb1.mono (by simp; omega))).setCell (p := ⟨w.heap.size + 1, 0, none⟩) (by simp) (.int .i64 0)).setCell (p := ⟨w.heap.size + 1, 1, none⟩) (by simp) (.int .i64 0)).setCell (p := ⟨w.heap.size + 1, 2, none⟩) (by simp) (.int .i64 0)).setCell (p := ⟨w.heap.size + 1, 3, none⟩) (by simp) (.slice none 0 0)).setCell (p := ⟨w.heap.size + 1, 4, none⟩) (by simp) (.int .i64 0)).setCell (p := ⟨w.heap.size + 1, 5, none⟩) (by simp) (.int .i64 0)
  replace hb2 := Lib.hid hb2
  clear hb1
  go_wp2_with fail
  refine bodyPost_ret (v := .tuple #[.agg #[.int .i64 0, .int .i64 0, .int .i64 0, .slice none 0 0, .int .i64 0, .int .i64 0], .bool false]) (by simp [results, Tryz.results131, go_sem, hc]) rfl ?_
  exact ⟨rfl, hb2.out⟩

theorem kvBox {w wx : World} {T U : TypeId} {a b c d e f x y z : Value} (h : Below (w.heap.size + 2) ((w.alloc (.cells #[a, b, c, d, e, f] T)).alloc (.cells #[x, y, z] U)) wx) :
    (wx.cell? ⟨w.heap.size, 0, none⟩ = some a ∧ wx.cell? ⟨w.heap.size, 1, none⟩ = some b ∧ wx.cell? ⟨w.heap.size, 2, none⟩ = some c ∧ wx.cell? ⟨w.heap.size, 3, none⟩ = some d ∧ wx.cell? ⟨w.heap.size, 4, none⟩ = some e ∧ wx.cell? ⟨w.heap.size, 5, none⟩ = some f) ∧
      wx.cell? ⟨w.heap.size + 1, 0, none⟩ = some x ∧ wx.cell? ⟨w.heap.size + 1, 1, none⟩ = some y ∧ wx.cell? ⟨w.heap.size + 1, 2, none⟩ = some z := by
  have e0 := ((Below.refl (w.heap.size + 1) (w.alloc (.cells #[a, b, c, d, e, f] T))).alloc (by simp) (.cells #[x, y, z] U)).block w.heap.size (by omega)
  have e1 : wx.heap[w.heap.size]? = some (.cells #[a, b, c, d, e, f] T (0, 0)) := (h.block _ (by omega)).trans (e0.trans (heap_alloc_new w _))
  have e3 := heap_alloc_new (w.alloc (.cells #[a, b, c, d, e, f] T)) (.cells #[x, y, z] U)
  rw [World.size_alloc] at e3
  have e2 : wx.heap[w.heap.size + 1]? = some (.cells #[x, y, z] U (0, 0)) := (h.block _ (by omega)).trans e3
  refine ⟨⟨?_, ?_, ?_, ?_, ?_, ?_⟩, ?_, ?_, ?_⟩ <;> simp [World.cell?, e1, e2]

set_option maxHeartbeats 8000000 in
theorem specKnownValid (k : Kn) (A : Option Addr) (c B : Nat) (w : World) (h : k.Fresh) (hA : k.At w B A) (hB : B ≤ w.heap.size) :
    Calls Tryz.prog 133 #[k.val A c] w fun e w' => e = .returned (.bool true) ∧ Below w.heap.size w w' := by
  have hv := h.val
  have hpw := hv.pow
  have hroom := hv.room
  have hl8 := hv.lit8
  have hm10 := hv.most10
  have hli : k.lastI = -1 := Kn.lastI_none h.last
  have hbase := h.base
  have HS := fun W => specSettingValid k.o k.l k.m true W (btrue hv.sv)
  have HC := fun W => specL1Clear k.o k.l k.m W (by omega)
  unfold setV at HC
  have HE := fun W => specL1End k.o k.l k.m W (by omega)
  have HT := fun W => specL1Last k.o k.l k.m W (by omega)
  have hz : 2 ^ k.l = k.clear := rfl
  have hfe : 2 ^ k.l + 1 = k.fin := rfl
  have hte : 2 ^ k.m - 1 = k.top := rfl
  rw [hz] at HC
  rw [hfe] at HE
  rw [hte] at HT
  have HP := fun (i p b : Nat) (hi : k.ps[i]? = some (p, b)) => hv.pair i p b hi
  have HQ := fun (i p : Nat) (hp : k.has i p) (hi : i ≤ k.ps.length) W => specL2Code k.o k.l k.m i p true W hl8 (by omega) (btrue (by
    unfold Kn.has at hp
    rw [hfe]
    have : ((2 : Int) ^ k.l) = (k.clear : Int) := by rw [← hz]; simp
    omega))
  have HQ2 := fun W => specL2Code k.o k.l k.m k.ps.length (-1) false W hl8 (by omega) (bfalse (by omega))
  have HI := fun W => specL1In (k.base : Int) 0 (k.ps.length : Int) true W (btrue (by omega))
  have hfc := k.fin_eq
  have hrow := hA
  obtain ⟨ps, hps⟩ : ∃ ps, k.ps = ps := ⟨_, rfl⟩
  obtain ⟨n, hn⟩ : ∃ n, ps.length = n := ⟨_, rfl⟩
  unfold Kn.At at hrow
  unfold Kn.val
  rw [hps, hn] at hrow hroom HQ HI HQ2 hbase
  rw [hps] at HP
  rw [hps, hn, hli]
  obtain ⟨z, hz'⟩ : ∃ z, k.clear = z := ⟨_, rfl⟩
  obtain ⟨f, hf'⟩ : ∃ z, k.fin = z := ⟨_, rfl⟩
  obtain ⟨t, ht'⟩ : ∃ z, k.top = z := ⟨_, rfl⟩
  rw [hz'] at HC HP hpw hfc
  rw [hf'] at HE hroom hfc
  rw [ht'] at HT hpw hroom
  obtain ⟨d, hd⟩ : ∃ d : Nat, (t : Int) - f = d := ⟨t - f, by omega⟩
  obtain ⟨z1, hz1⟩ : ∃ d : Nat, (z : Int) - 1 = d := ⟨z - 1, by omega⟩
  have HB := fun (b : Nat) (hb : b < z) W => specL1In (b : Int) 0 (z1 : Int) true W (btrue (by omega))
  have wd : IntKind.i64.wrap (d : Int) = d := IntWalk.i64_in _ (by omega)
  have wz : IntKind.i64.wrap (z1 : Int) = z1 := IntWalk.i64_in _ (by omega)
  have g1 : decide ((d : Int) < n) = false := decide_eq_false (by omega)
  have g2 : decide (d < n) = false := decide_eq_false (by omega)
  have hbn : k.base = n := by omega
  have hnb : n ≤ 1023 := by omega
  obtain ⟨o, ho⟩ : ∃ x, k.o = x := ⟨_, rfl⟩
  obtain ⟨l, hl'⟩ : ∃ x, k.l = x := ⟨_, rfl⟩
  obtain ⟨m, hm⟩ : ∃ x, k.m = x := ⟨_, rfl⟩
  rw [ho, hl', hm] at HS HC HE HT HQ2 HQ
  rw [hbn] at HI
  rw [ho, hl', hm, hbn]
  replace HS := Lib.hid HS
  replace HC := Lib.hid HC
  replace HE := Lib.hid HE
  replace HT := Lib.hid HT
  replace HP := Lib.hid HP
  replace HQ := Lib.hid HQ
  replace HQ2 := Lib.hid HQ2
  replace HI := Lib.hid HI
  replace HB := Lib.hid HB
  replace hn := Lib.hid hn
  replace hd := Lib.hid hd
  replace hz1 := Lib.hid hz1
  have hd2 : (t : Int) - f = d := hd.out
  have hz2 : (z : Int) - 1 = z1 := hz1.out
  clear hli hbase hz hfe hte hroom hl8 hm10 hz' hf' ht' hbn ho hl' hm hpw hfc hv h hA hd hz1
  go_enter Tryz.func133, Tryz.ntmps133
  go_upto_region 2 with (fail)
  obtain ⟨⟨q0, q1, q2, q3, q4, q5⟩, r0, r1, r2⟩ := kvBox (Below.refl _ ((w.alloc (.cells #[.int .i64 (o : Int), .int .i64 (l : Int), .int .i64 (m : Int), .slice A n c, .int .i64 (n : Int), .int .i64 (-1)] 48)).alloc (.cells #[.int .i64 (o : Int), .int .i64 (l : Int), .int .i64 (m : Int)] 24)))
  refine wp_region_cls (by kernel_rfl) (by kernel_rfl) ?_
  have cq1 := clsCell q1
  have cq3 := clsCell q3
  have cq4 := clsCell q4
  have cr0 := clsCell r0
  have cr1 := clsCell r1
  have cr2 := clsCell r2
  repeat (go_big_quiet_step (first | (go_at_call 70; exact clsCall (HS.out _)) | (go_at_call 155; exact clsCall (HT.out _)) | (go_at_call 156; exact clsCall (HE.out _)) | (go_at_call 24; exact clsSame (HI.out _))))
  refine wpQuiet_nil ?_
  rintro w1 ⟨⟨w1, hB1⟩, rfl⟩
  have hb1 := Lib.hid (hB1.mono (show w.heap.size + 2 ≤ _ by simp))
  clear q0 q1 q2 q3 q4 q5 r0 r1 r2 cq1 cq3 cq4 cr0 cr1 cr2 hB1
  go_wp2_with fail
  go_loopw [4] (fun v wr => ∃ i : Nat, v = .int .i64 (i : Int) ∧ i ≤ n ∧ Hid (Below (w.heap.size + 2) ((w.alloc (.cells #[.int .i64 (o : Int), .int .i64 (l : Int), .int .i64 (m : Int), .slice A n c, .int .i64 (n : Int), .int .i64 (-1)] 48)).alloc (.cells #[.int .i64 (o : Int), .int .i64 (l : Int), .int .i64 (m : Int)] 24)) wr)) (fun v _ => n - (intOf v).toNat)
  case atStart => exact ⟨0, rfl, Nat.zero_le _, hb1⟩
  case round =>
    clear hb1
    obtain ⟨i, rfl, hi, hbel⟩ := hrel
    obtain ⟨⟨q0, q1, q2, q3, q4, q5⟩, r0, r1, r2⟩ := kvBox hbel.out
    have hsz : w.heap.size + 2 ≤ wr.heap.size := by have := hbel.out.size; simpa using this
    by_cases h1 : (i : Int) < n
    · have hil : i < ps.length := by rw [hn.out]; omega
      obtain ⟨⟨p, b⟩, hpb⟩ : ∃ x, ps[i]? = some x := ⟨_, List.getElem?_eq_getElem hil⟩
      have hpv := HP.out i p b hpb
      have HQ1 := HQ.out i p hpv.1 (by omega)
      have HB1 := HB.out b hpv.2
      have hW := ((Below.refl w.heap.size w).alloc (Nat.le_refl _) (.cells #[.int .i64 (o : Int), .int .i64 (l : Int), .int .i64 (m : Int), .slice A n c, .int .i64 (n : Int), .int .i64 (-1)] 48)).alloc (by simp) (.cells #[.int .i64 (o : Int), .int .i64 (l : Int), .int .i64 (m : Int)] 24)
      obtain ⟨ba, off, rfl, hbB, g0, g2'⟩ := (hrow.below (hW.trans (hbel.out.mono (by omega))) hB).pair (by omega) hpb
      replace HQ1 := Lib.hid HQ1
      replace HB1 := Lib.hid HB1
      have i0 : (0 : Int) ≤ i := by omega
      clear hpv hpb hil hW
      go_wp2_with fail
      refine wp_region_cls (by kernel_rfl) (by kernel_rfl) ?_
      have cq3 := clsCell q3
      have cr0 := clsCell r0
      have cr1 := clsCell r1
      have cr2 := clsCell r2
      have cg0 := clsCell g0
      have cg1 := clsCell g2'
      repeat (go_big_quiet_step (first | (go_at_call 157; exact clsCall (HQ1.out _)) | (go_at_call 62; exact clsCall (HC.out _)) | (go_at_call 24; exact clsSame (HB1.out _))))
      refine wpQuiet_nil ?_
      rintro w1 ⟨⟨w1, hB1⟩, rfl⟩
      have hb1 := Lib.hid (hbel.out.trans (hB1.mono hsz))
      clear q0 q1 q2 q3 q4 q5 r0 r1 r2 cq3 cr0 cr1 cr2 cg0 cg1 g0 g2' hB1
      go_wp2_with fail
      go_roundw
      case rel => exact ⟨i + 1, by go_num, by omega, hb1⟩
      case measure => simp [intOf]; omega
    · have hin : i = n := by omega
      have hnn : decide (n < n) = false := decide_eq_false (by omega)
      go_wp2_with fail
      refine (HQ2.out _).mono ?_
      rintro e w1 ⟨rfl, hb1⟩
      have hb2 := Lib.hid (hbel.out.trans (hb1.mono hsz))
      clear q0 q1 q2 q3 q4 q5 r0 r1 r2 hb1
      obtain ⟨⟨q0, q1, q2, q3, q4, q5⟩, r0, r1, r2⟩ := kvBox hb2.out
      go_wp2_with fail
      go_ret
      exact ⟨rfl, (((Below.refl w.heap.size w).alloc (Nat.le_refl _) _).alloc (by simp) _).trans (hb2.out.mono (by omega))⟩

end Go.Proofs.YthlgpgaeajfchaaGreatDoor

namespace Go.Proofs.YthlgpgaeajfchaaGreatDoor
open Go.RowKit
set_option linter.unusedVariables false

/-- What is known behind the words of a text, by fuel. -/
def learnF : Nat → Kn → List UInt8 → Kn
  | 0, k, _ => k
  | f + 1, k, d => if d = [] then k else learnF f (k.after ((k.find (k.longest d)).getD 0)) (d.drop (k.longest d).length)

/-- What is known behind the words of a text: kept by a clear code, no code read. -/
def Kn.learn (k : Kn) (d : List UInt8) : Kn := { learnF d.length k.cleared d with base := (learnF d.length k.cleared d).ps.length, last := none }

theorem learnF_ok : ∀ (f : Nat) (k : Kn) (d : List UInt8), k.Valid → k.fits d → (learnF f k d).Valid ∧ k.Like (learnF f k d) := by
  intro f
  induction f with
  | zero => intro k d h _; exact ⟨h, Kn.Like.refl k⟩
  | succ f ih =>
    intro k d h hf
    rw [learnF]
    by_cases hd : d = []
    · rw [if_pos hd]; exact ⟨h, Kn.Like.refl k⟩
    · rw [if_neg hd]
      obtain ⟨c, h1, h2, _⟩ := Kn.longest_take h hd hf
      rw [h1, Option.getD_some]
      have h3 := ih (k.after c) (d.drop (k.longest d).length) (Kn.after_valid h h2) ((k.like_after c).fits (fits_drop hf _))
      exact ⟨h3.1, (k.like_after c).trans h3.2⟩

theorem Kn.learn_fresh {k : Kn} (h : k.Valid) {d : List UInt8} (hf : k.fits d) : (k.learn d).Fresh := by
  have h1 := (learnF_ok d.length k.cleared d (Kn.cleared_valid h) (k.like_cleared.fits hf)).1
  refine ⟨⟨h1.ord, h1.lit1, h1.lit8, h1.most, h1.most10, h1.room, Nat.le_refl _, h1.pair, ?_⟩, rfl, rfl⟩
  intro c hc; cases hc

theorem Kn.learn_like {k : Kn} (h : k.Valid) {d : List UInt8} (hf : k.fits d) : (k.learn d).o = k.o ∧ (k.learn d).l = k.l ∧ (k.learn d).m = k.m := by
  have h1 := (learnF_ok d.length k.cleared d (Kn.cleared_valid h) (k.like_cleared.fits hf)).2
  exact ⟨h1.o, h1.l, h1.m⟩

/-- The pairs of what is known lie in memory, at a block from base on. -/
structure Kn.New (k : Kn) (w : World) (base : Nat) (A : Option Addr) : Prop where
  row : k.At w w.heap.size A
  new : 0 < k.ps.length → ∀ b off, A = some ⟨b, off, none⟩ → base ≤ b

theorem Kn.Own.new {k : Kn} {w : World} {base : Nat} {A : Option Addr} {c : Nat} (h : k.Own w base A c) : 0 < k.ps.length → ∀ b off, A = some ⟨b, off, none⟩ → base ≤ b := by
  intro hn b off e
  subst e
  rcases h.2 with ⟨h0, h1⟩ | ⟨g, cap, cur, hv, hb, hg, _⟩
  · omega
  · injection hv with e1 e2 e3
    injection e1 with e1
    injection e1 with e1
    omega

theorem Kn.New.below {k : Kn} {w w' : World} {base : Nat} {A : Option Addr} (h : k.New w base A) (hb : Below w.heap.size w w') : k.New w' base A :=
  ⟨(Row.below h.row hb (Nat.le_refl _)).more hb.size, h.new⟩

theorem Kn.New.mono {k : Kn} {w : World} {base base' : Nat} {A : Option Addr} (h : k.New w base A) (hb : base' ≤ base) : k.New w base' A :=
  ⟨h.row, fun hn b off e => Nat.le_trans hb (h.new hn b off e)⟩

theorem Kn.New.setCell {k : Kn} {w : World} {base : Nat} {A : Option Addr} (h : k.New w base A) {p : Addr} (hp : p.block < base) (u : Value) : k.New (w.setCell p u) base A := by
  refine ⟨⟨h.row.1, fun hn => ?_⟩, h.new⟩
  obtain ⟨b, off, e, hb, hc⟩ := h.row.2 hn
  refine ⟨b, off, e, by simpa [World.setCell] using hb, fun j x hx => ?_⟩
  have := h.new hn b off e
  exact (World.cell?_setCell_other _ _ _ _ (fun e2 => by subst e2; exact absurd hp (by simp; omega))).trans (hc j x hx)

theorem Kn.New.set6 {k : Kn} {w : World} {base H : Nat} {A : Option Addr} (h : k.New w base A) (hp : H < base) (a b c d e f : Value) : k.New (set6 w H a b c d e f) base A := by
  unfold Go.Proofs.YthlgpgaeajfchaaGreatDoor.set6
  exact (((((h.setCell (p := ⟨H, 0, none⟩) hp _).setCell (p := ⟨H, 1, none⟩) hp _).setCell (p := ⟨H, 2, none⟩) hp _).setCell (p := ⟨H, 3, none⟩) hp _).setCell (p := ⟨H, 4, none⟩) hp _).setCell (p := ⟨H, 5, none⟩) hp _

/-- The memory of l4Learn's loop. -/
structure LnM (k : Kn) (w0 : World) (H : Nat) (k' : Kn) (A : Option Addr) (c : Nat) (w : World) : Prop where
  box : KB w H (.int .i64 (k.o : Int)) (.int .i64 (k.l : Int)) (.int .i64 (k.m : Int)) (.slice A k'.ps.length c) (.int .i64 (k.base : Int)) (.int .i64 k'.lastI)
  res : KB w (H + 1) (.int .i64 0) (.int .i64 0) (.int .i64 0) (.slice none 0 0) (.int .i64 0) (.int .i64 0)
  lies : k'.Lies w A H (.slice (some ⟨H + 1, 0, none⟩) 0 0)
  cap : k'.ps.length ≤ c
  bel : Below H w0 w

section
variable {k : Kn} {w0 : World} {H : Nat} {k' : Kn} {A : Option Addr} {c : Nat} {w w' : World}

theorem LnM.lt (h : LnM k w0 H k' A c w) : H + 1 < w.heap.size := h.res.lt

theorem LnM.below (h : LnM k w0 H k' A c w) (hb : Below w.heap.size w w') : LnM k w0 H k' A c w' :=
  ⟨h.box.below hb, h.res.below hb, h.lies.below hb, h.cap, h.bel.trans (hb.mono (by have := h.lt; omega))⟩

theorem LnM.setK (h : LnM k w0 H k' A c w) {k2 : Kn} {A2 : Option Addr} {c2 : Nat} (hb : Below w.heap.size w w') (hown : k2.Own w' w.heap.size A2 c2) :
    LnM k w0 H k2 A2 c2 (set6 w' H (.int .i64 (k.o : Int)) (.int .i64 (k.l : Int)) (.int .i64 (k.m : Int)) (.slice A2 k2.ps.length c2) (.int .i64 (k.base : Int)) (.int .i64 k2.lastI)) := by
  have hlt := h.lt
  have h2 := h.below hb
  have hcp := hown.cap
  refine ⟨h2.box.set _ _ _ _ _ _, ?_, lies_set6 (Kn.Lies.of_own hown (by omega) (fun g hg => by simp [Value.ownBlock] at hg; omega)) _ _ _ _ _ _, hcp, below_set6 h2.bel (Nat.le_refl _) _ _ _ _ _ _⟩
  obtain ⟨⟨c0, c1, c2, c3, c4, c5⟩, f0, f1, f2, f3, f4, f5⟩ := h2.res
  have hc : ∀ (W : World) (j i : Nat) (u : Value), (W.setCell ⟨H, i, none⟩ u).cell? ⟨H + 1, j, none⟩ = W.cell? ⟨H + 1, j, none⟩ := fun W j i u => World.cell?_setCell_other _ _ _ _ (by simp)
  unfold set6
  refine ⟨?_, ?_⟩
  · simp only [hc]; exact ⟨c0, c1, c2, c3, c4, c5⟩
  · simp only [World.frozen?_setCell]; exact ⟨f0, f1, f2, f3, f4, f5⟩

end

set_option maxHeartbeats 8000000 in
theorem specL4Learn (k : Kn) (A : Option Addr) (c B : Nat) (L : List UInt8) (w : World) (h : k.Valid) (hA : k.At w B A) (hB : B ≤ w.heap.size) (hc : k.ps.length ≤ c) (hf : k.fits L) (hL : L.length ≤ 2000) :
    Calls Tryz.prog 154 #[k.val A c, .string (bsL L)] w fun e w' => ∃ A' c', e = .returned ((k.learn L).val A' c') ∧ (k.learn L).New w' w.heap.size A' ∧ (k.learn L).ps.length ≤ c' ∧ Below w.heap.size w w' := by
  have M0 : Hid (LnM k w w.heap.size k A c ((w.alloc (.cells #[.int .i64 (k.o : Int), .int .i64 (k.l : Int), .int .i64 (k.m : Int), .slice A k.ps.length c, .int .i64 (k.base : Int), .int .i64 k.lastI] 48)).alloc (.cells #[.int .i64 0, .int .i64 0, .int .i64 0, .slice none 0 0, .int .i64 0, .int .i64 0] 48))) := by
    have hA' := hA.below (((Below.refl w.heap.size w).alloc (Nat.le_refl _) (.cells #[.int .i64 (k.o : Int), .int .i64 (k.l : Int), .int .i64 (k.m : Int), .slice A k.ps.length c, .int .i64 (k.base : Int), .int .i64 k.lastI] 48)).alloc (by simp) (.cells #[.int .i64 0, .int .i64 0, .int .i64 0, .slice none 0 0, .int .i64 0, .int .i64 0] 48)) hB
    refine Lib.hid ⟨(KB.start w _ _ _ _ _ _ _).alloc _, ?_, ?_, hc, ?_⟩
    · have g := KB.start (w.alloc (.cells #[.int .i64 (k.o : Int), .int .i64 (k.l : Int), .int .i64 (k.m : Int), .slice A k.ps.length c, .int .i64 (k.base : Int), .int .i64 k.lastI] 48)) 48 (.int .i64 0) (.int .i64 0) (.int .i64 0) (.slice none 0 0) (.int .i64 0) (.int .i64 0)
      rw [World.size_alloc] at g
      exact g
    · exact Kn.Lies.of_at hA' (by simp; omega) hB (fun g hg => by simp [Value.ownBlock] at hg; omega)
    · exact ((Below.refl _ _).alloc (Nat.le_refl _) _).alloc (by simp) _
  have HD := fun (W : World) (hb : LnM k w w.heap.size k A c W) => specL2Cleared k A c W.heap.size W h hb.lies.row (Nat.le_refl _) hc
  simp only [Kn.val_eq k A c] at HD
  replace HD := Lib.hid HD
  replace h := Lib.hid h
  replace hf := Lib.hid hf
  rw [Kn.val_eq]
  clear hA
  obtain ⟨⟨q0, q1, q2, q3, q4, q5⟩, z0, z1, z2, z3, z4, z5⟩ := M0.out.box
  go_enter Tryz.func154, Tryz.ntmps154
  go_wp2_with fail
  refine (HD.out _ M0.out).mono ?_
  rintro e w3 ⟨A2, c2, rfl, hown, hb3⟩
  have M1 := Lib.hid (M0.out.setK hb3 hown)
  have N1 : Hid (0 < k.cleared.ps.length → ∀ b off, A2 = some ⟨b, off, none⟩ → w.heap.size ≤ b) := Lib.hid (fun hn b off e => Nat.le_trans (by simp; omega) (hown.new hn b off e))
  have M3 := Lib.hid (M0.out.below hb3)
  rw [k.like_cleared.val]
  clear q0 q1 q2 q3 q4 q5 z0 z1 z2 z3 z4 z5 hown hb3 M0 HD
  obtain ⟨⟨q0, q1, q2, q3, q4, q5⟩, z0, z1, z2, z3, z4, z5⟩ := M3.out.box
  go_wp2_with fail
  go_loopw [1] (fun u wr => ∃ (k' : Kn) (A' : Option Addr) (c' : Nat) (d : List UInt8), u = .string (bsL d) ∧ Hid (k'.Valid ∧ k.Like k' ∧ k'.fits d ∧ d.length ≤ L.length ∧ ∃ f, d.length ≤ f ∧ learnF L.length k.cleared L = learnF f k' d) ∧ Hid (0 < k'.ps.length → ∀ b off, A' = some ⟨b, off, none⟩ → w.heap.size ≤ b) ∧ Hid (LnM k w w.heap.size k' A' c' wr)) (fun u _ => szOf u)
  case atStart => exact ⟨k.cleared, A2, c2, L, rfl, Lib.hid ⟨Kn.cleared_valid h.out, k.like_cleared, k.like_cleared.fits hf.out, Nat.le_refl _, L.length, Nat.le_refl _, rfl⟩, N1, M1⟩
  case round =>
    clear M1 M3 N1 q0 q1 q2 q3 q4 q5 z0 z1 z2 z3 z4 z5
    obtain ⟨k', A', c', d, rfl, hS, hN, hM⟩ := hrel
    have hdl := hS.out.2.2.2.1
    have hcmp : d.isEmpty = decide (d = []) := by cases d <;> rfl
    have hsz := hM.out.lt
    obtain ⟨⟨q0, q1, q2, q3, q4, q5⟩, z0, z1, z2, z3, z4, z5⟩ := hM.out.box
    by_cases hd : d = []
    · have hfin : learnF L.length k.cleared L = k' := by
        obtain ⟨_, _, _, _, f, _, hs⟩ := hS.out
        rw [hs, hd]
        cases f with
        | zero => rfl
        | succ f => rw [learnF, if_pos rfl]
      rw [decide_eq_true hd] at hcmp
      have hlk := hS.out.2.1
      have hll : k.learn L = { k' with base := k'.ps.length, last := none } := by unfold Kn.learn; rw [hfin]
      have hbound : k'.ps.length ≤ 1023 := by have := hS.out.1.room; have := hS.out.1.pow; omega
      obtain ⟨⟨r0, r1, r2, r3, r4, r5⟩, y0, y1, y2, y3, y4, y5⟩ := hM.out.res
      have hbel := Lib.hid (below_set6 (H := w.heap.size + 1) hM.out.bel (by omega) (.int .i64 (k.o : Int)) (.int .i64 (k.l : Int)) (.int .i64 (k.m : Int)) (.slice A' k'.ps.length c') (.int .i64 (k'.ps.length : Int)) (.int .i64 (-1)))
      have hlies : k'.New (set6 wr (w.heap.size + 1) (.int .i64 (k.o : Int)) (.int .i64 (k.l : Int)) (.int .i64 (k.m : Int)) (.slice A' k'.ps.length c') (.int .i64 (k'.ps.length : Int)) (.int .i64 (-1))) w.heap.size A' := by
        have hl := hM.out.lies
        have hl2 : k'.Lies wr A' (w.heap.size + 1) (.slice (some ⟨w.heap.size, 0, none⟩) 0 0) := ⟨hl.row, fun hn b off e => by
          have := hl.ne hn b off e
          simp [Value.ownBlock] at this ⊢
          omega⟩
        have := (lies_set6 hl2 (.int .i64 (k.o : Int)) (.int .i64 (k.l : Int)) (.int .i64 (k.m : Int)) (.slice A' k'.ps.length c') (.int .i64 (k'.ps.length : Int)) (.int .i64 (-1))).row
        exact ⟨this, hN.out⟩
      replace hlies := Lib.hid hlies
      replace hll := Lib.hid hll
      replace hlk := Lib.hid hlk
      clear hd hfin hS
      go_wp2_with fail
      refine bodyPost_ret (v := .agg #[.int .i64 (k.o : Int), .int .i64 (k.l : Int), .int .i64 (k.m : Int), .slice A' k'.ps.length c', .int .i64 (k'.ps.length : Int), .int .i64 (-1)]) (by simp [results, Tryz.results154, go_sem, r0, r1, r2, r3, r4, r5]) rfl ?_
      refine ⟨A', c', ?_, ?_, by rw [hll.out]; exact hM.out.cap, hbel.out⟩
      · rw [hll.out]
        unfold Kn.val
        show _ = Ending.returned (.agg #[.int .i64 (k'.o : Int), .int .i64 (k'.l : Int), .int .i64 (k'.m : Int), .slice A' k'.ps.length c', .int .i64 (k'.ps.length : Int), .int .i64 (-1)])
        rw [hlk.out.o, hlk.out.l, hlk.out.m]
      · rw [hll.out]
        have := hlies.out
        exact ⟨this.row, this.new⟩
    · rw [decide_eq_false hd] at hcmp
      obtain ⟨hv, hlk, hfi, _, f, hfl, hsem⟩ := hS.out
      obtain ⟨x, e1, e2, e3, e4, e5, e6, e7⟩ := Kn.longest_take hv hd hfi
      have H1 := specL2Longest k' A' c' wr.heap.size d wr hv hM.out.lies.row (Nat.le_refl _) (by omega) (by omega)
      obtain ⟨Wl, hWl⟩ : ∃ W, k'.longest d = W := ⟨_, rfl⟩
      rw [hlk.val, hWl] at H1
      have hstep : ∃ f0, d.length ≤ f0 + 1 ∧ learnF L.length k.cleared L = learnF f0 (k'.after x) (d.drop Wl.length) := by
        cases f with
        | zero => exact absurd (List.eq_nil_of_length_eq_zero (by omega)) hd
        | succ f =>
          refine ⟨f, hfl, ?_⟩
          rw [hsem, learnF, if_neg hd, e1, hWl]
          rfl
      rw [hWl] at e1 e3 e4 e5 e6 e7
      have hfi2 : (k'.after x).fits (d.drop Wl.length) := (k'.like_after x).fits (fits_drop hfi _)
      have hdrop : (bsL d).extract Wl.length d.length = bsL (d.drop Wl.length) := bsL_drop d Wl.length
      have hdsz : (bsL d).size = d.length := rfl
      have hrl : (d.drop Wl.length).length + Wl.length = d.length := by rw [List.length_drop]; omega
      obtain ⟨R, hR⟩ : ∃ R, d.drop Wl.length = R := ⟨_, rfl⟩
      rw [hR] at hstep hdrop hrl hfi2
      have H2 := fun (W : World) (hm : LnM k w w.heap.size k' A' c' W) => specL2Find k' A' c' W.heap.size x Wl W hv hm.lies.row (Nat.le_refl _) e1 e7 (by omega)
      have H3 := fun (W : World) (hm : LnM k w w.heap.size k' A' c' W) => specL2After k' A' c' W.heap.size x W hv hm.lies.row (Nat.le_refl _) e2
      simp only [hlk.val] at H2 H3
      have hsem2 : Hid ((k'.after x).Valid ∧ k.Like (k'.after x) ∧ (k'.after x).fits R ∧ R.length ≤ L.length ∧ ∃ f, R.length ≤ f ∧ learnF L.length k.cleared L = learnF f (k'.after x) R) := by
        obtain ⟨f0, g1, g2⟩ := hstep
        exact Lib.hid ⟨Kn.after_valid hv e2, hlk.trans (k'.like_after x), hfi2, by omega, f0, by omega, g2⟩
      have hR2 : szOf (.string (bsL R)) < szOf (.string (bsL d)) := by show R.length < d.length; omega
      replace H1 := Lib.hid H1
      replace H2 := Lib.hid H2
      replace H3 := Lib.hid H3
      have like2 := Lib.hid (hlk.trans (k'.like_after x))
      replace hR2 := Lib.hid hR2
      clear hsem hWl e1 e2 e3 e4 e7 hS hv hlk hfi hfl hR hfi2 hstep hf h hd
      go_wp2_with fail
      refine H1.out.mono ?_
      rintro e w4 ⟨rfl, hb4⟩
      have M4 := Lib.hid (hM.out.below hb4)
      have hsz4 := M4.out.lt
      clear q0 q1 q2 q3 q4 q5 z0 z1 z2 z3 z4 z5 hb4 H1 hM
      have M4d : Hid (LnM k w w.heap.size k' A' c' w4.drew) := Lib.hid (M4.out.below (Below.refl _ _).drew)
      have S4 := Lib.hid M4d.out.box.c
      obtain ⟨⟨q0, q1, q2, q3, q4, q5⟩, z0, z1, z2, z3, z4, z5⟩ := M4.out.box
      go_upto_region 4 with (fail)
      clear z0 z1 z2 z3 z4 z5
      obtain ⟨k2, hk2⟩ : ∃ k2, k'.after x = k2 := ⟨_, rfl⟩
      rw [hk2] at H3 hsem2 like2
      go_cut [17] (fun v wx => ∃ (A8 : Option Addr) (c8 : Nat), v = .agg #[.int .i64 (k.o : Int), .int .i64 (k.l : Int), .int .i64 (k.m : Int), .slice A8 k2.ps.length c8, .int .i64 (k.base : Int), .int .i64 k2.lastI] ∧ Hid (0 < k2.ps.length → ∀ b off, A8 = some ⟨b, off, none⟩ → w.heap.size ≤ b) ∧ Hid (LnM k w w.heap.size k2 A8 c8 wx))
      case first =>
        go_region_with (first
          | (go_at_call 171; refine (H2.out _ M4d.out).mono ?_; rintro e w5 ⟨rfl, hb5⟩; have M5 := Lib.hid (M4d.out.below hb5); obtain ⟨⟨p0, p1, p2, p3, p4, p5⟩, y0, y1, y2, y3, y4, y5⟩ := M5.out.box; clear hb5)
          | (go_at_call 170; refine (H3.out _ M5.out).mono ?_; rintro e w8 ⟨A8, c8, rfl, hown8, hb8⟩; rw [like2.out.val]; have N8 : Hid (0 < k2.ps.length → ∀ b off, A8 = some ⟨b, off, none⟩ → w.heap.size ≤ b) := Lib.hid (fun hn b off e => Nat.le_trans (by have := M5.out.lt; omega) (hown8.new hn b off e)); have M8 := Lib.hid (M5.out.setK hb8 hown8); have kb8 := (M5.out.below hb8).box; clear p0 p1 p2 p3 p4 p5 y0 y1 y2 y3 y4 y5; obtain ⟨⟨p0, p1, p2, p3, p4, p5⟩, y0, y1, y2, y3, y4, y5⟩ := kb8; clear hown8 hb8))
        all_goals (go_wp2_with fail)
        all_goals (go_meet)
        all_goals (exact ⟨A8, c8, rfl, N8, M8⟩)
      case rest =>
        obtain ⟨A8, c8, rfl, N8, M8⟩ := hcut
        clear q0 q1 q2 q3 q4 q5 S4 M4d M4 H2 H3
        have t1 : (0 : Int) ≤ (bsL Wl).size := by omega
        have t2 : ((bsL Wl).size : Int) ≤ (bsL d).size := by rw [bsL_size, bsL_size]; omega
        have hR3 : (bsL d).extract (bsL Wl).size (bsL d).size = bsL R := hdrop
        go_wp2_with fail
        go_roundw
        case rel => exact ⟨k2, A8, c8, R, rfl, hsem2, N8, M8⟩
        case measure => simp only [szOf]; exact hR2.out

end Go.Proofs.YthlgpgaeajfchaaGreatDoor
