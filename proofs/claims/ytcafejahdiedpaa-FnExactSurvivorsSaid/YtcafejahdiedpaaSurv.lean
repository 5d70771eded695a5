/-
  The first found block with a number; what Survivors returns.
-/
import Derived.Test.YtcafejahdiedpaaFound
import Derived.Test.YtcafejahdiedpaaContSpec
namespace Go.Proofs.Ytcafejahdiedpaa
open Go.RowKit
set_option linter.unusedVariables false

/-- The first found block with a number. -/
def firstF : List Fnd → Nat → Option Blk
  | [], _ => none
  | f :: fs, n => if f.b.num = n then some f.b else firstF fs n

theorem drop_get {α : Type} {l : List α} {k : Nat} {x : α} (h : l[k]? = some x) : l.drop k = x :: l.drop (k + 1) := by
  obtain ⟨hk, hp⟩ := List.getElem?_eq_some_iff.1 h
  rw [List.drop_eq_getElem_cons hk, hp]

theorem firstF_hit {fs : List Fnd} {k n : Nat} {f : Fnd} (h : fs[k]? = some f) (hn : f.b.num = n) : firstF (fs.drop k) n = some f.b := by
  rw [drop_get h]; simp only [firstF]; rw [if_pos hn]

theorem firstF_miss {fs : List Fnd} {k n : Nat} {f : Fnd} (h : fs[k]? = some f) (hn : f.b.num ≠ n) : firstF (fs.drop k) n = firstF (fs.drop (k + 1)) n := by
  rw [drop_get h]; simp only [firstF]; rw [if_neg hn]

/-- A block and a bool as results. -/
def firstV : Option Blk → Value
  | some b => .tuple #[.agg #[.int .i64 b.num, .bool b.raw, .int .i64 b.size, .string b.body], .bool true]
  | none => .tuple #[.agg #[.int .i64 0, .bool false, .int .i64 0, .string ByteArray.empty], .bool false]

instance : DecidableEq Blk := fun a b =>
  if h : a.num = b.num ∧ a.raw = b.raw ∧ a.size = b.size ∧ a.body = b.body then isTrue (by cases a; cases b; simp_all) else isFalse (fun e => h (by subst e; exact ⟨rfl, rfl, rfl, rfl⟩))

/-- The numbers of the blocks that are still found. -/
def survI (bs : List Blk) (fs : List Fnd) : List Int := (bs.filter fun b => decide (firstF fs b.num = some b)).map fun b => (b.num : Int)

theorem survI_yes {bs : List Blk} {fs : List Fnd} {k : Nat} {b : Blk} (h : bs[k]? = some b) (hb : firstF fs b.num = some b) : survI (bs.take (k + 1)) fs = survI (bs.take k) fs ++ [(b.num : Int)] := by
  obtain ⟨hk, rfl⟩ := List.getElem?_eq_some_iff.1 h
  unfold survI
  rw [List.take_succ_eq_append_getElem hk, List.filter_append, List.map_append]
  simp [hb]

theorem survI_no {bs : List Blk} {fs : List Fnd} {k : Nat} {b : Blk} (h : bs[k]? = some b) (hb : ¬ firstF fs b.num = some b) : survI (bs.take (k + 1)) fs = survI (bs.take k) fs := by
  obtain ⟨hk, rfl⟩ := List.getElem?_eq_some_iff.1 h
  unfold survI
  rw [List.take_succ_eq_append_getElem hk, List.filter_append, List.map_append]
  simp [hb]

/-- What Survivors returns. -/
def survOf (o : Option (List Blk)) (fs : List Fnd) : List Int := survI (o.getD []) fs

theorem firstF_end {fs : List Fnd} {k n : Nat} (h : fs.length ≤ k) : firstF (fs.drop k) n = none := by rw [List.drop_eq_nil_of_le h]; rfl

theorem box4z {w wx : World} {T : TypeId} (h : Below (w.heap.size + 1) (w.alloc (.cells #[.int .i64 0, .bool false, .int .i64 0, .string ByteArray.empty] T)) wx) :
    wx.cell? ⟨w.heap.size, 0, none⟩ = some (.int .i64 0) ∧ wx.cell? ⟨w.heap.size, 1, none⟩ = some (.bool false) ∧ wx.cell? ⟨w.heap.size, 2, none⟩ = some (.int .i64 0) ∧ wx.cell? ⟨w.heap.size, 3, none⟩ = some (.string ByteArray.empty) ∧
      wx.frozen? ⟨w.heap.size, 0, none⟩ = false ∧ wx.frozen? ⟨w.heap.size, 1, none⟩ = false ∧ wx.frozen? ⟨w.heap.size, 2, none⟩ = false ∧ wx.frozen? ⟨w.heap.size, 3, none⟩ = false := by
  obtain ⟨h0, h1, h2, h3, _⟩ := box4 h
  have hf : ∀ j, wx.frozen? ⟨w.heap.size, j, none⟩ = false := fun j => by
    have e := h.block w.heap.size (by omega)
    rw [heap_alloc_new] at e
    simp [World.frozen?, e]
  exact ⟨h0, h1, h2, h3, hf 0, hf 1, hf 2, hf 3⟩

theorem ret_firstYes {o : Option Blk} {num size : Nat} {raw : Bool} {body : ByteArray} (h : o = some ⟨num, raw, size, body⟩) :
    Ending.returned (.tuple #[.agg #[.int .i64 num, .bool raw, .int .i64 size, .string body], .bool true]) = .returned (firstV o) := by rw [h]; rfl

theorem ret_firstNo {o : Option Blk} (h : o = none) : Ending.returned (.tuple #[.agg #[.int .i64 0, .bool false, .int .i64 0, .string ByteArray.empty], .bool false]) = .returned (firstV o) := by rw [h]; rfl

set_option maxHeartbeats 2000000 in
theorem implFirstFound (A : Option Addr) (n c B : Nat) (fs : List Fnd) (m : Nat) (w : World) (hn : n ≤ 1048576) (h : Row w B 5 A n (cellsF fs)) (hB : B ≤ w.heap.size) (hm : m ≤ 1048576) :
    Calls Try.prog 59 #[.slice A n c, .int .i64 m] w fun e w' => e = .returned (firstV (firstF fs m)) ∧ Below w.heap.size w w' := by
  have hlen := h.len5
  obtain ⟨R, hR⟩ : ∃ R, firstF fs m = R := ⟨_, rfl⟩
  rw [hR]
  have HR := Lib.hid hR
  clear hR
  go_enter Try.func59, Try.ntmps59
  go_wp2_with fail
  go_loopw [10] (fun i wr => ∃ k : Nat, k ≤ n ∧ i = .int .i64 k ∧ Hid (firstF (fs.drop k) m = R) ∧ Below (w.heap.size + 1) (w.alloc (.cells #[.int .i64 0, .bool false, .int .i64 0, .string ByteArray.empty] 66)) wr) (fun i _ => n - (intOf i).toNat)
  case atStart => exact ⟨0, Nat.zero_le _, rfl, HR, Below.refl _ _⟩
  case round =>
    obtain ⟨k, hk, rfl, HK, hbox⟩ := hrel
    have hW : Below w.heap.size w wr := ((Below.refl _ _).alloc (Nat.le_refl _) _).trans (hbox.mono (by omega))
    have hwz : w.heap.size + 1 ≤ wr.heap.size := by have := hbox.size; simpa using this
    by_cases hlt : k < n
    · obtain ⟨⟨pos, num, raw, size, body⟩, hb⟩ : ∃ b, fs[k]? = some b := ⟨_, List.getElem?_eq_getElem (by omega)⟩
      obtain ⟨g, off, rfl, hg, p0, p1, p2, p3, p4⟩ := (h.below hW hB).fnd hlt hb
      by_cases hnm : num = m
      · have hv := firstF_hit hb (n := m) hnm
        rw [HK.out] at hv
        have HV := Lib.hid (ret_firstYes hv)
        obtain ⟨z0, z1, z2, z3, y0, y1, y2, y3⟩ := box4z (hbox.alloc hwz (.cells #[.int .i64 pos, .int .i64 num, .bool raw, .int .i64 size, .string body] 70))
        subst hnm
        clear hb hv hlen
        go_wp2_with fail
        refine bodyPost_ret (v := .tuple #[.agg #[.int .i64 num, .bool raw, .int .i64 size, .string body], .bool true]) (by simp [results, Try.results59, go_sem, z0, z1, z2, z3]; try rfl) rfl ⟨HV.out, ?_⟩
        exact ((((hW.alloc (by omega) _).setCell (Nat.le_refl _) _).setCell (Nat.le_refl _) _).setCell (Nat.le_refl _) _).setCell (Nat.le_refl _) _
      · have hv := firstF_miss hb (n := m) hnm
        rw [HK.out] at hv
        have HV := Lib.hid hv.symm
        have i1 : ((num : Int) == m) = false := by rw [beq_eq_false_iff_ne]; omega
        clear hb hv hlen
        go_wp2_with fail
        go_roundw
        case rel => exact ⟨k + 1, by omega, by go_num, HV, hbox.alloc hwz _⟩
        case measure => simp [intOf]; omega
    · have hv := firstF_end (fs := fs) (k := k) (n := m) (by omega)
      rw [HK.out] at hv
      have HV := Lib.hid (ret_firstNo hv)
      obtain ⟨z0, z1, z2, z3, y0, y1, y2, y3⟩ := box4z hbox
      clear hv hlen
      go_wp2_with fail
      refine bodyPost_ret (v := .tuple #[.agg #[.int .i64 0, .bool false, .int .i64 0, .string ByteArray.empty], .bool false]) (by simp [results, Try.results59, go_sem, z0, z1, z2, z3]; try rfl) rfl ⟨HV.out, ?_⟩
      exact (((hW.setCell (Nat.le_refl _) _).setCell (Nat.le_refl _) _).setCell (Nat.le_refl _) _).setCell (Nat.le_refl _) _

set_option maxHeartbeats 2000000 in
theorem specL7First (A : Option Addr) (n c B : Nat) (fs : List Fnd) (m : Nat) (w : World) (hn : n ≤ 1048576) (h : Row w B 5 A n (cellsF fs)) (hB : B ≤ w.heap.size) (hm : m ≤ 1048576) :
    Calls Try.prog 58 #[.slice A n c, .int .i64 m] w fun e w' => e = .returned (firstV (firstF fs m)) ∧ Below w.heap.size w w' := by
  have hlen := h.len5
  obtain ⟨R, hR⟩ : ∃ R, firstF fs m = R := ⟨_, rfl⟩
  rw [hR]
  have HR := Lib.hid hR
  clear hR
  go_enter Try.func58, Try.ntmps58
  go_wp2_with fail
  go_loop [6] (fun i => ∃ k : Nat, k ≤ n ∧ i = .int .i64 k ∧ Hid (firstF (fs.drop k) m = R)) (fun i => n - (intOf i).toNat)
  case atStart => exact ⟨0, Nat.zero_le _, rfl, HR⟩
  case round =>
    obtain ⟨k, hk, rfl, HK⟩ := hrel
    by_cases hlt : k < n
    · obtain ⟨⟨pos, num, raw, size, body⟩, hb⟩ : ∃ b, fs[k]? = some b := ⟨_, List.getElem?_eq_getElem (by omega)⟩
      obtain ⟨g, off, rfl, hg, p0, p1, p2, p3, p4⟩ := h.fnd hlt hb
      have hgw : g < w.heap.size := by omega
      have i1 : (0 : Int) ≤ k := by omega
      have i2 : (k : Int) < n := by omega
      have p2' : w.cell? ⟨g, off + k * 5 + 1 + 1, none⟩ = some (.bool raw) := p2
      have p3' : w.cell? ⟨g, off + k * 5 + 1 + 2, none⟩ = some (.int .i64 size) := p3
      have p4' : w.cell? ⟨g, off + k * 5 + 1 + 3, none⟩ = some (.string body) := p4
      by_cases hnm : num = m
      · have hv := firstF_hit hb (n := m) hnm
        rw [HK.out] at hv
        have HV := Lib.hid (ret_firstYes hv)
        subst hnm
        clear hb hv hlen h p2 p3 p4
        go_wp2_with fail
        refine bodyPost_ret (v := .tuple #[.agg #[.int .i64 num, .bool raw, .int .i64 size, .string body], .bool true]) (by simp [results, Try.results58, go_sem]; try rfl) rfl ⟨HV.out, by go_grown⟩
      · have hv := firstF_miss hb (n := m) hnm
        rw [HK.out] at hv
        have HV := Lib.hid hv.symm
        have i3 : ((num : Int) == m) = false := by rw [beq_eq_false_iff_ne]; omega
        clear hb hv hlen h p2 p3 p4
        go_wp2_with fail
        go_round
        case rel => exact ⟨k + 1, by omega, by go_num, HV⟩
        case measure => simp [intOf]; omega
    · have hv := firstF_end (fs := fs) (k := k) (n := m) (by omega)
      rw [HK.out] at hv
      have HV := Lib.hid (ret_firstNo hv)
      clear hv hlen
      go_wp2_with fail
      refine bodyPost_ret (v := .tuple #[.agg #[.int .i64 0, .bool false, .int .i64 0, .string ByteArray.empty], .bool false]) (by simp [results, Try.results58, go_sem]; try rfl) rfl ⟨HV.out, by go_grown⟩

theorem firstF_num {fs : List Fnd} {m : Nat} {b : Blk} (h : firstF fs m = some b) : b.num = m := by
  induction fs with
  | nil => cases h
  | cons x xs ih =>
    simp only [firstF] at h
    split at h
    · injection h with h; subst h; assumption
    · exact ih h

/-- A block in the memory of a call. -/
abbrev blkObj (b : Blk) : Obj := .cells #[.int .i64 b.num, .bool b.raw, .int .i64 b.size, .string b.body] 66

set_option maxHeartbeats 4000000 in
theorem implSurvivors (s t : ByteArray) (w : World) (hs : s.size ≤ 1048576) (ht : t.size ≤ 1048576) :
    Calls Try.prog 26 #[.string s, .string t] w fun e w' => ∃ A c, e = .returned (.slice A (survOf (contB s) (foundB t)).length c) ∧ w'.ownsRow w.heap.size 3 1 (.slice A (survOf (contB s) (foundB t)).length c) (survOf (contB s) (foundB t)).length ((survOf (contB s) (foundB t)).map intV) ∧ Below w.heap.size w w' := by
  rcases hx : contB s with _ | x
  · have H1 := Lib.hid (fun W => implContainerBlocksNo s W hs hx)
    clear hx
    go_enter Try.func26, Try.ntmps26
    go_wp2_with fail
    refine (H1.out _).mono ?_
    rintro e w1 ⟨A1, c1, rfl, ho1, hb1⟩
    go_wp2_with fail
    go_ret
    exact ⟨none, 0, rfl, ⟨rfl, .inl ⟨rfl, rfl⟩⟩, hb1⟩
  · obtain ⟨n, hn⟩ : ∃ n, x.length = n := ⟨_, rfl⟩
    have hnx := contB_numbered hx
    have hn40 := hnx.length
    rw [hn] at hn40
    have H1 := Lib.hid (fun W => implContainerBlocksYes s x n W hs hx hn)
    have HF := fun W => implFindBlocks t W ht
    obtain ⟨fs, hfs⟩ : ∃ fs, foundB t = fs := ⟨_, rfl⟩
    unfold FndsPost at HF
    rw [hfs] at HF ⊢
    obtain ⟨N, hN⟩ : ∃ N, fs.length = N := ⟨_, rfl⟩
    rw [hN] at HF
    have HF := Lib.hid HF
    obtain ⟨R, hR⟩ : ∃ R, survOf (some x) fs = R := ⟨_, rfl⟩
    rw [hR]
    have HR := Lib.hid (show survI x fs = R from hR)
    have HN := Lib.hid hn
    clear hx hn hfs hN hR
    go_enter Try.func26, Try.ntmps26
    go_wp2_with fail
    refine (H1.out _).mono ?_
    rintro e w1 ⟨A1, c1, rfl, ho1, hb1⟩
    have hz1 := hb1.size
    have hr1 := Row.of_own ho1
    clear ho1
    go_wp2_with fail
    refine (HF.out _).mono ?_
    rintro e w2 ⟨A2, c2, rfl, ho2, hb2, hN2⟩
    have hz2 := hb2.size
    have hr2 := Row.of_own ho2
    have hr1 := hr1.below hb2 (Nat.le_refl _)
    have hb02 := hb1.trans (hb2.mono hz1)
    clear ho2 hb1 hb2
    go_wp2_with fail
    go_loopw [8, 24] (fun v i wr => ∃ (k L : Nat), k ≤ n ∧ i = .int .i64 k ∧ Hid ((survI (x.take k) fs).length = L) ∧ L ≤ k ∧ wr.ownsRow w2.heap.size 3 1 v L ((survI (x.take k) fs).map intV) ∧ Below w2.heap.size w2 wr) (fun _ i _ => n - (intOf i).toNat)
    case atStart => exact ⟨0, 0, Nat.zero_le _, rfl, Lib.hid (by simp [survI]), Nat.le_refl _, ⟨by simp [survI], .inl ⟨rfl, rfl⟩⟩, Below.refl _ _⟩
    case round =>
      obtain ⟨k, L, hk, rfl, HL, hLk, hown, hbel⟩ := hrel
      have hwz := hbel.size
      obtain ⟨Av, cv, rfl, _, _⟩ := own_form hown
      by_cases hlt : k < n
      · obtain ⟨⟨num, raw, size, body⟩, hb⟩ : ∃ b, x[k]? = some b := ⟨_, List.getElem?_eq_getElem (by rw [HN.out]; exact hlt)⟩
        have hnum : num = k := (hnx k _ hb).1
        subst hnum
        obtain ⟨g, off, rfl, hg, p0, p1, p2, p3⟩ := (hr1.below hbel hz2).blk hlt hb
        have hyes := survI_yes (fs := fs) hb
        have hno := survI_no (fs := fs) hb
        simp only at hyes hno
        have HFF := Lib.hid (fun W h => implFirstFound A2 N c2 w2.heap.size fs num W hN2 h)
        rcases hf : firstF fs num with _ | ⟨num', raw', size', body'⟩
        · have HX := Lib.hid (hno (by rw [hf]; exact fun h => by cases h))
          rw [hf] at HFF
          simp only [firstV] at HFF
          clear hb hyes hno hf
          go_wp2_with fail
          refine (HFF.out _ ((hr2.below hbel (Nat.le_refl _)).alloc (by omega) _) (by simp; omega) (by omega)).mono ?_
          rintro e w3 ⟨rfl, hb3⟩
          have hown3 := own_below (hown.alloc (blkObj ⟨num, raw, size, body⟩)) hb3 (Nat.le_refl _)
          have hbel3 : Below w2.heap.size w2 w3 := (hbel.alloc hwz (blkObj ⟨num, raw, size, body⟩)).trans (hb3.mono (by simp; omega))
          go_wp2_with fail
          go_roundw
          case rel => exact ⟨num + 1, L, by omega, by go_num, by rw [HX.out]; exact HL, by omega, by rw [HX.out]; exact hown3.alloc _, hbel3.alloc (by have := hbel3.size; omega) _⟩
          case measure => simp [intOf]; omega
        · have hn' : num' = num := firstF_num hf
          subst hn'
          rw [hf] at HFF hyes hno
          simp only [firstV] at HFF
          clear hb hf
          by_cases c1 : raw' = raw
          · by_cases c2 : (size' : Int) = size
            · by_cases c3 : body'.toList = body.toList
              · have c2' : size' = size := by omega
                have c3' : body' = body := ba_toList c3
                subst c1 c2' c3'
                have HX := Lib.hid (hyes rfl)
                clear hyes hno c2 c3
                go_wp2_with fail
                refine (HFF.out _ ((hr2.below hbel (Nat.le_refl _)).alloc (by omega) _) (by simp; omega) (by omega)).mono ?_
                rintro e w3 ⟨rfl, hb3⟩
                have hown3 := own_below (hown.alloc (blkObj ⟨num', raw', size', body'⟩)) hb3 (Nat.le_refl _)
                have hbel3 : Below w2.heap.size w2 w3 := (hbel.alloc hwz (blkObj ⟨num', raw', size', body'⟩)).trans (hb3.mono (by simp; omega))
                have hz3 : wr.heap.size + 1 ≤ w3.heap.size := by have := hb3.size; simpa using this
                have hb3' : Below (wr.heap.size + 1) (wr.alloc (blkObj ⟨num', raw', size', body'⟩)) w3 := by simpa using hb3
                obtain ⟨q0, q1, q2, q3, _⟩ := box4 hb3'
                have hlt3 : wr.heap.size < w3.heap.size := by omega
                clear hb3 hb3' hbel hown
                go_wp2_with (first
                  | (at_builtin; refine wpList_append_row _ elemInt rfl (.tmp 41) (.tmp 44) rfl w2.heap.size _ _ _ rfl ((hown3.alloc _).alloc _) _ _ 1 1 [.int .i64 num'] rfl (Row.newAt _ (w3.heap.size + 1) (by simp) _ [.int .i64 num'] 1 1 rfl) ?_ ?_ ?_ ?_ ?_))
                · intro u hu; simp at hu; subst hu; rfl
                · unfold maxLen; omega
                · omega
                · have := hbel3.size; simp; omega
                · intro v4 w4 hv4 hg4 _
                  have hzz := hbel3.size
                  have hbel4 : Below w2.heap.size w2 w4 := ((hbel3.alloc (by omega) _).alloc (by simp; omega) _).grown hg4 (by simp; omega) (fun g hg => (hown3.lt g hg).1)
                  clear hown3 hbel3 hg4
                  go_wp2_with fail
                  go_roundw
                  case rel => exact ⟨num' + 1, L + 1, by omega, by go_num, Lib.hid (by rw [HX.out, List.length_append, HL.out]; rfl), by omega, by rw [HX.out, List.map_append]; exact hv4, hbel4⟩
                  case measure => simp [intOf]; omega
              · have HX := Lib.hid (hno (fun h => by simp at h; exact c3 (by rw [h.2.2])))
                clear hyes hno
                go_wp2_with fail
                refine (HFF.out _ ((hr2.below hbel (Nat.le_refl _)).alloc (by omega) _) (by simp; omega) (by omega)).mono ?_
                rintro e w3 ⟨rfl, hb3⟩
                have hown3 := own_below (hown.alloc (blkObj ⟨num', raw, size, body⟩)) hb3 (Nat.le_refl _)
                have hbel3 : Below w2.heap.size w2 w3 := (hbel.alloc hwz (blkObj ⟨num', raw, size, body⟩)).trans (hb3.mono (by simp; omega))
                have hz3 : wr.heap.size + 1 ≤ w3.heap.size := by have := hb3.size; simpa using this
                have hb3' : Below (wr.heap.size + 1) (wr.alloc (blkObj ⟨num', raw, size, body⟩)) w3 := by simpa using hb3
                obtain ⟨q0, q1, q2, q3, _⟩ := box4 hb3'
                have hlt3 : wr.heap.size < w3.heap.size := by omega
                clear hb3 hb3' hbel hown
                go_wp2_with fail
                go_roundw
                case rel => exact ⟨num' + 1, L, by omega, by go_num, by rw [HX.out]; exact HL, by omega, by rw [HX.out]; exact hown3.alloc _, hbel3.alloc (by have := hbel3.size; omega) _⟩
                case measure => simp [intOf]; omega
            · have HX := Lib.hid (hno (fun h => by simp at h; exact c2 (by rw [h.2.1])))
              clear hyes hno
              go_wp2_with fail
              refine (HFF.out _ ((hr2.below hbel (Nat.le_refl _)).alloc (by omega) _) (by simp; omega) (by omega)).mono ?_
              rintro e w3 ⟨rfl, hb3⟩
              have hown3 := own_below (hown.alloc (blkObj ⟨num', raw, size, body⟩)) hb3 (Nat.le_refl _)
              have hbel3 : Below w2.heap.size w2 w3 := (hbel.alloc hwz (blkObj ⟨num', raw, size, body⟩)).trans (hb3.mono (by simp; omega))
              have hz3 : wr.heap.size + 1 ≤ w3.heap.size := by have := hb3.size; simpa using this
              have hb3' : Below (wr.heap.size + 1) (wr.alloc (blkObj ⟨num', raw, size, body⟩)) w3 := by simpa using hb3
              obtain ⟨q0, q1, q2, q3, _⟩ := box4 hb3'
              have hlt3 : wr.heap.size < w3.heap.size := by omega
              clear hb3 hb3' hbel hown
              go_wp2_with fail
              go_roundw
              case rel => exact ⟨num' + 1, L, by omega, by go_num, by rw [HX.out]; exact HL, by omega, by rw [HX.out]; exact hown3.alloc _, hbel3.alloc (by have := hbel3.size; omega) _⟩
              case measure => simp [intOf]; omega
          · have HX := Lib.hid (hno (fun h => by simp at h; exact c1 h.1))
            clear hyes hno
            go_wp2_with fail
            refine (HFF.out _ ((hr2.below hbel (Nat.le_refl _)).alloc (by omega) _) (by simp; omega) (by omega)).mono ?_
            rintro e w3 ⟨rfl, hb3⟩
            have hown3 := own_below (hown.alloc (blkObj ⟨num', raw, size, body⟩)) hb3 (Nat.le_refl _)
            have hbel3 : Below w2.heap.size w2 w3 := (hbel.alloc hwz (blkObj ⟨num', raw, size, body⟩)).trans (hb3.mono (by simp; omega))
            have hz3 : wr.heap.size + 1 ≤ w3.heap.size := by have := hb3.size; simpa using this
            have hb3' : Below (wr.heap.size + 1) (wr.alloc (blkObj ⟨num', raw, size, body⟩)) w3 := by simpa using hb3
            obtain ⟨q0, q1, q2, q3, _⟩ := box4 hb3'
            have hlt3 : wr.heap.size < w3.heap.size := by omega
            clear hb3 hb3' hbel hown
            go_wp2_with fail
            go_roundw
            case rel => exact ⟨num' + 1, L, by omega, by go_num, by rw [HX.out]; exact HL, by omega, by rw [HX.out]; exact hown3.alloc _, hbel3.alloc (by have := hbel3.size; omega) _⟩
            case measure => simp [intOf]; omega
      · have ht : x.take k = x := List.take_of_length_le (by rw [HN.out]; omega)
        rw [ht] at hown
        have hown' := hown
        rw [HR.out] at hown'
        have HLR := Lib.hid (show R.length = L by rw [← HR.out, ← ht]; exact HL.out)
        clear ht hown
        go_wp2_with fail
        go_ret
        exact ⟨Av, cv, by rw [HLR.out]; rfl, by rw [HLR.out]; exact own_base hown' hb02.size, hb02.trans (hbel.mono hb02.size)⟩

end Go.Proofs.Ytcafejahdiedpaa
