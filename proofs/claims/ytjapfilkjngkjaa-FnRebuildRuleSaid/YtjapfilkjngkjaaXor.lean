/-
  The contracts of XorTexts: the program's and the reference's return the same string, byte j of which is the sum of the bytes j of all strings that are long enough.
-/
import Derived.Test.YtjapfilkjngkjaaTexts
import Derived.Test.YtjapfilkjngkjaaInts
namespace Go.Proofs.Ytjapfilkjngkjaa
open Go.RowKit
set_option linter.unusedVariables false

/-- The sum of the bytes j of some strings. -/
def xorAt (ss : List ByteArray) (j : Nat) : UInt8 := ss.foldl (fun a s => a ^^^ bAt s j) 0

/-- The length of the longest of some strings. -/
def maxSz (ss : List ByteArray) : Nat := ss.foldl (fun m s => max m s.size) 0

/-- What XorTexts returns. -/
def xorAll (ss : List ByteArray) : ByteArray := ⟨((List.range (maxSz ss)).map (xorAt ss)).toArray⟩

theorem xorAll_size (ss : List ByteArray) : (xorAll ss).size = maxSz ss := by simp [xorAll, ByteArray.size]

theorem xorAt_take_succ (ss : List ByteArray) (k j : Nat) (h : k < ss.length) : xorAt (ss.take (k + 1)) j = xorAt (ss.take k) j ^^^ bAt ss[k] j := by
  unfold xorAt; rw [List.take_succ_eq_append_getElem h, List.foldl_append]; rfl

theorem maxSz_take_succ (ss : List ByteArray) (k : Nat) (h : k < ss.length) : maxSz (ss.take (k + 1)) = max (maxSz (ss.take k)) ss[k].size := by
  unfold maxSz; rw [List.take_succ_eq_append_getElem h, List.foldl_append]; rfl

theorem foldl_max_ge (ss : List ByteArray) : ∀ m : Nat, m ≤ ss.foldl (fun m s => max m s.size) m ∧ ∀ s ∈ ss, s.size ≤ ss.foldl (fun m s => max m s.size) m := by
  induction ss with
  | nil => intro m; simp
  | cons x xs ih =>
    intro m
    have := ih (max m x.size)
    simp only [List.foldl_cons]
    refine ⟨by omega, fun s hs => ?_⟩
    rcases List.mem_cons.1 hs with rfl | h
    · omega
    · exact this.2 s h

theorem maxSz_mem {ss : List ByteArray} {s : ByteArray} (h : s ∈ ss) : s.size ≤ maxSz ss := (foldl_max_ge ss 0).2 s h

theorem foldl_max_le (ss : List ByteArray) (M : Nat) (h : ∀ s ∈ ss, s.size ≤ M) : ∀ m : Nat, m ≤ M → ss.foldl (fun m s => max m s.size) m ≤ M := by
  induction ss with
  | nil => intro m hm; simpa
  | cons x xs ih =>
    intro m hm
    simp only [List.foldl_cons]
    exact ih (fun s hs => h s (List.mem_cons_of_mem _ hs)) _ (by have := h x (List.mem_cons_self ..); omega)

theorem maxSz_le {ss : List ByteArray} {M : Nat} (h : ∀ s ∈ ss, s.size ≤ M) : maxSz ss ≤ M := foldl_max_le ss M h 0 (Nat.zero_le _)

theorem foldl_xor_zero (j : Nat) : ∀ ss : List ByteArray, (∀ s ∈ ss, s.size ≤ j) → ∀ a : UInt8, ss.foldl (fun a s => a ^^^ bAt s j) a = a := by
  intro ss
  induction ss with
  | nil => intro _ a; rfl
  | cons x xs ih =>
    intro h a
    simp only [List.foldl_cons]
    rw [bAt_ge (h x (List.mem_cons_self ..)), UInt8.xor_zero]
    exact ih (fun s hs => h s (List.mem_cons_of_mem _ hs)) a

theorem xorAt_ge {ss : List ByteArray} {j : Nat} (h : maxSz ss ≤ j) : xorAt ss j = 0 :=
  foldl_xor_zero j ss (fun s hs => Nat.le_trans (maxSz_mem hs) h) 0

/-- '^' of two bytes. -/
theorem xor_byte (a b : UInt8) : bits .xor .u8 (a.toNat : Int) (b.toNat : Int) = ((a ^^^ b).toNat : Int) := by
  rw [u8_xor_nat _ _ (UInt8.toNat_lt a) (UInt8.toNat_lt b), UInt8.toNat_xor]

set_option maxHeartbeats 1000000 in
theorem implXorTexts (A : Option Addr) (n c B : Nat) (ss : List ByteArray) (w : World) (hl : ss.length = n) (hrow : Row w B 1 A n (ss.map .string)) (hB : B ≤ w.heap.size) (hn : n ≤ 1048576) (hs : ∀ s ∈ ss, s.size ≤ 1048576) :
    Calls Try.prog 7 #[.slice A n c] w fun e w' => e = .returned (.string (xorAll ss)) ∧ Below w.heap.size w w' := by
  go_enter Try.func7, Try.ntmps7
  go_wp2
  go_loop [3, 12] (fun v i => ∃ k : Nat, k ≤ n ∧ i = .int .i64 k ∧ v = .int .i64 (maxSz (ss.take k))) (fun _ i => n - (intOf i).toNat)
  case atStart => exact ⟨0, Nat.zero_le _, rfl, rfl⟩
  case round =>
    obtain ⟨k, hk, rfl, rfl⟩ := hrel
    by_cases hlt : k < n
    · obtain ⟨b, off, rfl, hbl, hc⟩ := hrow.2 (by omega)
      have hkl : k < ss.length := by omega
      obtain ⟨s, hsk⟩ : ∃ s, ss[k] = s := ⟨_, rfl⟩
      have hcell : w.cell? ⟨b, off + k, none⟩ = some (.string s) := hc k _ (by simp [hsk, hkl])
      have hle := hs s (by rw [← hsk]; exact List.getElem_mem hkl)
      have hmx := maxSz_take_succ ss k hkl
      rw [hsk] at hmx
      obtain ⟨q, hq⟩ : ∃ q, maxSz (ss.take k) = q := ⟨_, rfl⟩
      obtain ⟨q', hq'⟩ : ∃ q, maxSz (ss.take (k + 1)) = q := ⟨_, rfl⟩
      have hM : q ≤ 1048576 := by rw [← hq]; exact maxSz_le fun s hs' => hs s (List.mem_of_mem_take hs')
      rw [hq, hq'] at hmx
      rw [hq]
      have HQ := Lib.hid hq'
      have HM := Lib.hid hmx
      clear hc hsk hq' hq hmx
      by_cases hm : q < s.size
      all_goals
        go_wp2
        have hM' := HM.out
        go_round
        case rel => exact ⟨k + 1, by omega, by go_num, by rw [HQ.out, hM']; congr 1; omega⟩
        case measure => simp [intOf]; omega
    · obtain rfl : k = n := by omega
      have ht : ss.take k = ss := List.take_of_length_le (by omega)
      rw [ht]
      obtain ⟨L, hL⟩ : ∃ L, maxSz ss = L := ⟨_, rfl⟩
      have hLM : L ≤ 1048576 := by rw [← hL]; exact maxSz_le hs
      rw [hL]
      have HL := Lib.hid hL
      have HT := Lib.hid ht
      clear hL ht hk hlt
      have hmk := run_make_row' (P := Try.prog) 22 5 (.int .u8 0) 1 Try.underlying22 infoByte rfl .i64 .i64 L (by omega) (by omega)
      go_wp2
      go_loopw [25] (fun i wr => ∃ m : Nat, m ≤ k ∧ i = .int .i64 m ∧ wr.rowIs w.heap.size 5 L (fun j => byteV (xorAt (ss.take m) j)) ∧ Below w.heap.size w wr) (fun i _ => k - (intOf i).toNat)
      case atStart => exact ⟨0, Nat.zero_le _, rfl, (World.rowIs_made _ _ _ _).congr (fun i _ => by simp [xorAt, byteV]), (Below.refl _ _).alloc (Nat.le_refl _) _⟩
      case round =>
        obtain ⟨m, hm, rfl, hout, hbel⟩ := hrel
        by_cases hlt : m < k
        · obtain ⟨b, off, rfl, hbl, hc⟩ := hrow.2 (by omega)
          have hml : m < ss.length := by omega
          obtain ⟨s, hsm⟩ : ∃ s, ss[m] = s := ⟨_, rfl⟩
          have hcell : wr.cell? ⟨b, off + m, none⟩ = some (.string s) := (hbel.cell (p := ⟨b, off + m, none⟩) (by show b < _; omega)).trans (hc m _ (by simp [hsm, hml]))
          have hle : s.size ≤ 1048576 := hs s (by rw [← hsm]; exact List.getElem_mem hml)
          have hsL : s.size ≤ L := by rw [← HL.out]; exact maxSz_mem (by rw [← hsm]; exact List.getElem_mem hml)
          have hnext : ∀ j, xorAt (ss.take (m + 1)) j = xorAt (ss.take m) j ^^^ bAt s j := fun j => by rw [xorAt_take_succ ss m j hml, hsm]
          obtain ⟨f, hf⟩ : ∃ f : Nat → UInt8, xorAt (ss.take m) = f := ⟨_, rfl⟩
          rw [hf] at hnext hout
          have HN := Lib.hid hnext
          clear hc hsm hnext hf hmk
          obtain ⟨wo, rfl⟩ : ∃ wo : World, wo = wr := ⟨_, rfl⟩
          go_wp2
          go_loopw [31] (fun i wr => ∃ j : Nat, j ≤ s.size ∧ i = .int .i64 j ∧ wr.rowIs w.heap.size 5 L (fun q => byteV (f q ^^^ if q < j then bAt s q else 0)) ∧ Below w.heap.size w wr) (fun i _ => s.size - (intOf i).toNat)
          case atStart => exact ⟨0, Nat.zero_le _, rfl, hout.congr (fun i _ => by simp), hbel⟩
          case round =>
            obtain ⟨j, hj, rfl, hin, hbi⟩ := hrel
            by_cases hjl : j < s.size
            · have hcj := hin.cell (i := j) (by omega)
              have hfj := hin.frozen j
              have hset := hin.set j (byteV (f j ^^^ s[j]))
              have hnew : (wr.setCell ⟨w.heap.size, j, none⟩ (byteV (f j ^^^ s[j]))).rowIs w.heap.size 5 L (fun q => byteV (f q ^^^ if q < j + 1 then bAt s q else 0)) := by
                refine hset.congr fun i hi => ?_
                by_cases hij : i = j
                · subst hij
                  rw [if_pos rfl, if_pos (by omega), bAt_lt hjl]
                · simp only [if_neg hij]
                  by_cases h1 : i < j
                  · rw [if_pos h1, if_pos (by omega)]
                  · rw [if_neg h1, if_neg (by omega)]
              have hb2 : Below w.heap.size w (wr.setCell ⟨w.heap.size, j, none⟩ (byteV (f j ^^^ s[j]))) := hbi.setCell (Nat.le_refl _) _
              have hcj' : wr.cell? ⟨w.heap.size, j, none⟩ = some (.int .u8 ((f j).toNat : Int)) := by rw [hcj]; simp [byteV]
              have hx := xor_byte (f j) s[j]
              have HW := Lib.hid hnew
              have hjL : j < L := by omega
              clear hnew hset hcj hin hbi hout hcell hbel
              have hv : byteV (f j ^^^ s[j]) = .int .u8 (((f j).toNat ^^^ s[j].toNat : Nat) : Int) := by unfold byteV; rw [UInt8.toNat_xor]
              rw [hv] at HW hb2
              clear hv
              go_wp2
              go_region
              go_wp2
              go_roundw
              case rel => exact ⟨j + 1, by omega, by go_num, HW.out, hb2.drew⟩
              case measure => simp [intOf]; omega
            · obtain rfl : j = s.size := by omega
              have hnew : wr.rowIs w.heap.size 5 L (fun q => byteV (xorAt (ss.take (m + 1)) q)) := by
                refine hin.congr fun i hi => ?_
                rw [HN.out i]
                by_cases h1 : i < s.size
                · rw [if_pos h1]
                · rw [if_neg h1, bAt_ge (by omega)]
              have HW := Lib.hid hnew
              clear hnew hin hout hcell hbel
              go_wp2
              go_roundw
              case rel => exact ⟨m + 1, by omega, by go_num, HW.out, hbi⟩
              case measure => simp [intOf]; omega
        · obtain rfl : m = k := by omega
          rw [HT.out] at hout
          obtain ⟨bs, hbs⟩ : ∃ bs : List UInt8, bs = (List.range L).map (xorAt ss) := ⟨_, rfl⟩
          have hbl : bs.length = L := by rw [hbs]; simp
          have hcv := run_convert_bytes_back (P := Try.prog) wr 22 9 5 ⟨w.heap.size, 0, none⟩ L bs Try.underlying22 Try.underlying5 Try.underlying9 (fun j hj => by
            rw [addr_add, Nat.zero_add, hout.cell (by omega)]
            simp [byteV, hbs])
          rw [hbl] at hcv
          have HB := Lib.hid hbs
          have HLEN := Lib.hid hbl
          clear hout hbs hbl hmk
          go_wp2
          go_ret
          exact ⟨ret_str (by unfold xorAll; rw [HL.out, HB.out]), hbel⟩

set_option maxHeartbeats 2000000 in
theorem specXorTexts (A : Option Addr) (n c B : Nat) (ss : List ByteArray) (w : World) (hl : ss.length = n) (hrow : Row w B 1 A n (ss.map .string)) (hB : B ≤ w.heap.size) (hn : n ≤ 1048576) (hs : ∀ s ∈ ss, s.size ≤ 1048576) :
    Calls Try.prog 8 #[.slice A n c] w fun e w' => e = .returned (.string (xorAll ss)) ∧ Below w.heap.size w w' := by
  go_enter Try.func8, Try.ntmps8
  go_wp2
  go_loopw [3, 4] (fun v i wr => ∃ k : Nat, k ≤ n ∧ i = .int .i64 k ∧ wr.ownsRow w.heap.size 5 1 v (maxSz (ss.take k)) ((List.range (maxSz (ss.take k))).map fun j => byteV (xorAt (ss.take k) j)) ∧ Below w.heap.size w wr) (fun _ i _ => n - (intOf i).toNat)
  case atStart => exact ⟨0, Nat.zero_le _, rfl, World.ownsRow_made _ _ _ (Nat.le_refl _) (Nat.zero_le _) rfl, (Below.refl _ _).alloc (Nat.le_refl _) _⟩
  case round =>
    obtain ⟨k, hk, rfl, hown, hbel⟩ := hrel
    obtain ⟨A', c', rfl, hc1, hc2⟩ := own_form hown
    by_cases hlt : k < n
    · obtain ⟨b, off, rfl, hbl, hc⟩ := hrow.2 (by omega)
      have hkl : k < ss.length := by omega
      obtain ⟨s, hsk⟩ : ∃ s, ss[k] = s := ⟨_, rfl⟩
      have hcell0 : w.cell? ⟨b, off + k, none⟩ = some (.string s) := hc k _ (by simp [hsk, hkl])
      have hle := hs s (by rw [← hsk]; exact List.getElem_mem hkl)
      have hmx := maxSz_take_succ ss k hkl
      rw [hsk] at hmx
      have hge : ∀ j, maxSz (ss.take k) ≤ j → xorAt (ss.take k) j = 0 := fun j hj => xorAt_ge hj
      have hnext : ∀ j, xorAt (ss.take (k + 1)) j = xorAt (ss.take k) j ^^^ bAt s j := fun j => by rw [xorAt_take_succ ss k j hkl, hsk]
      obtain ⟨q, hq⟩ : ∃ q, maxSz (ss.take k) = q := ⟨_, rfl⟩
      have hM : q ≤ 1048576 := by rw [← hq]; exact maxSz_le fun s hs' => hs s (List.mem_of_mem_take hs')
      obtain ⟨f, hf⟩ : ∃ f : Nat → UInt8, xorAt (ss.take k) = f := ⟨_, rfl⟩
      rw [hf] at hnext hown hge
      rw [hq] at hmx hown hge hc1
      rw [hq]
      have HN := Lib.hid hnext
      have HM := Lib.hid hmx
      have HG := Lib.hid hge
      have HC := Lib.hid hcell0
      clear hc hsk hq hf hnext hmx hge hcell0
      obtain ⟨wo, rfl⟩ : ∃ wo : World, wo = wr := ⟨_, rfl⟩
      go_wp2
      go_loopw [3] (fun v wr => ∃ m : Nat, q ≤ m ∧ m ≤ max q s.size ∧ wr.ownsRow w.heap.size 5 1 v m ((List.range m).map fun j => byteV (f j)) ∧ Below w.heap.size w wr) (fun v _ => s.size - lenOf v)
      case atStart => exact ⟨q, Nat.le_refl _, by omega, hown, hbel⟩
      case round =>
        clear hown hbel hc1 hc2
        obtain ⟨m, hqm, hm, hown, hbel⟩ := hrel
        obtain ⟨A', c', rfl, hc1, hc2⟩ := own_form hown
        have hcell : wr.cell? ⟨b, off + k, none⟩ = some (.string s) := (hbel.cell (p := ⟨b, off + k, none⟩) (by show b < _; omega)).trans HC.out
        have hsz := hbel.size
        have hmm : m ≤ 1048576 := by omega
        have hxs : (List.range (m + 1)).map (fun j => byteV (f j)) = (List.range m).map (fun j => byteV (f j)) ++ [.int .u8 0] := by
          rw [range_snoc, HG.out m (by omega)]; rfl
        have HX := Lib.hid hxs
        clear hxs
        by_cases hms : m < s.size
        · go_wp2_with (first
            | (at_builtin; refine wpList_append_row _ elemByte rfl (.tmp 21) (.tmp 22) rfl w.heap.size _ _ _ rfl (hown.alloc _) _ _ 1 1 [.int .u8 0] rfl (Row.new _ _ [.int .u8 0] 1 1 rfl) ?_ ?_ ?_ ?_ ?_))
          · intro u hu; simp at hu; subst hu; rfl
          · unfold maxLen; omega
          · omega
          · simp; omega
          · intro v' w1 hown' hgrow _
            rw [← HX.out] at hown'
            have hb2 : Below w.heap.size w w1 := (hbel.alloc hsz _).grown hgrow (by simp; omega) (fun g hg => (hown.lt g hg).1)
            obtain ⟨A'', c'', rfl, _, _⟩ := own_form hown'
            clear hown hbel hgrow hcell
            go_wp2
            go_roundw
            case rel => exact ⟨m + 1, by omega, by omega, hown', hb2⟩
            case measure => simp [lenOf]; omega
        · obtain ⟨M, hM2⟩ : ∃ M, maxSz (ss.take (k + 1)) = M := ⟨_, rfl⟩
          obtain rfl : m = M := by have := HM.out; omega
          have HM2 := Lib.hid hM2
          have hsm : s.size ≤ m := by omega
          clear hM2 HX hqm hm hms
          go_wp2
          clear hcell
          go_loopw [5] (fun i wr => ∃ j : Nat, j ≤ s.size ∧ i = .int .i64 j ∧ wr.ownsRow w.heap.size 5 1 (.slice A' m c') m ((List.range m).map fun q => byteV (f q ^^^ if q < j then bAt s q else 0)) ∧ Below w.heap.size w wr) (fun i _ => s.size - (intOf i).toNat)
          case atStart => exact ⟨0, Nat.zero_le _, rfl, by simpa using hown, hbel⟩
          case round =>
            clear hown hbel
            obtain ⟨j, hj, rfl, hown, hbel⟩ := hrel
            have hcell : wr.cell? ⟨b, off + k, none⟩ = some (.string s) := (hbel.cell (p := ⟨b, off + k, none⟩) (by show b < _; omega)).trans HC.out
            by_cases hjl : j < s.size
            · obtain ⟨g, rfl, hg1, hg2, hgc, hgf⟩ := own_at hown (by omega)
              have hcj : wr.cell? ⟨g, j, none⟩ = some (.int .u8 ((f j).toNat : Int)) := hgc j _ (by simp [byteV, show j < m by omega])
              have hfj := hgf j
              have hst := (hown.stored j (byteV (f j ^^^ s[j]))).1
              have hxs : ((List.range m).map (fun q => byteV (f q ^^^ if q < j then bAt s q else 0))).set j (byteV (f j ^^^ s[j])) = (List.range m).map (fun q => byteV (f q ^^^ if q < j + 1 then bAt s q else 0)) := by
                refine set_range m j _ _ _ ?_ fun i hi hij => ?_
                · rw [if_pos (by omega), bAt_lt hjl]
                · by_cases h1 : i < j
                  · rw [if_pos h1, if_pos (by omega)]
                  · rw [if_neg h1, if_neg (by omega)]
              rw [hxs] at hst
              have hb2 : Below w.heap.size w (wr.setCell ⟨g, j, none⟩ (byteV (f j ^^^ s[j]))) := hbel.setCell hg1 _
              have hx := xor_byte (f j) s[j]
              have HW := Lib.hid hst
              have hjm : j < m := by omega
              have hv : byteV (f j ^^^ s[j]) = .int .u8 (((f j).toNat ^^^ s[j].toNat : Nat) : Int) := by unfold byteV; rw [UInt8.toNat_xor]
              rw [hv] at HW hb2
              clear hst hxs hown hbel hgc hgf hv
              go_wp2
              go_region
              go_wp2
              go_roundw
              case rel => exact ⟨j + 1, by omega, by go_num, HW.out, hb2.drew⟩
              case measure => simp [intOf]; omega
            · obtain rfl : j = s.size := by omega
              have hxs : (List.range m).map (fun q => byteV (f q ^^^ if q < s.size then bAt s q else 0)) = (List.range m).map (fun j => byteV (xorAt (ss.take (k + 1)) j)) := by
                refine List.map_congr_left fun i hi => ?_
                rw [HN.out i]
                by_cases h1 : i < s.size
                · rw [if_pos h1]
                · rw [if_neg h1, bAt_ge (by omega)]
              rw [hxs] at hown
              clear hxs
              go_wp2
              go_roundw
              case rel => exact ⟨k + 1, by omega, by go_num, by rw [HM2.out]; exact hown, hbel⟩
              case measure => simp [intOf]; omega
    · obtain rfl : k = n := by omega
      have ht : ss.take k = ss := List.take_of_length_le (by omega)
      rw [ht] at hown hc1 ⊢
      obtain ⟨L, hL⟩ : ∃ L, maxSz ss = L := ⟨_, rfl⟩
      have hLM : L ≤ 1048576 := by rw [← hL]; exact maxSz_le hs
      rw [hL] at hown hc1 ⊢
      obtain ⟨bs, hbs⟩ : ∃ bs : List UInt8, bs = (List.range L).map (xorAt ss) := ⟨_, rfl⟩
      have hbl : bs.length = L := by rw [hbs]; simp
      have hcv : (convert 22 9 (.slice A' L c')).run Try.prog wr = .ok (.string ⟨bs.toArray⟩) wr :=
        run_convert_own elemByte Try.underlying5 Try.underlying9 bs (by rw [hbl]; have := hown; rw [hbs, List.map_map]; exact this) hbl
      have HB := Lib.hid hbs
      have HL := Lib.hid hL
      clear hown hbs hbl hL ht
      go_wp2
      go_ret
      exact ⟨ret_str (by unfold xorAll; rw [HL.out, HB.out]), hbel⟩

end Go.Proofs.Ytjapfilkjngkjaa
