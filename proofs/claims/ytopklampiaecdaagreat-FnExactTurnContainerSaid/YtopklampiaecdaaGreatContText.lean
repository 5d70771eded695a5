/-
  A container is the text of its blocks, and the text of blocks is a container of them: plain facts.
-/
import Derived.Test.YtopklampiaecdaaGreatContPlain
import Derived.Test.YtopklampiaecdaaGreatMakeC
namespace Go.Proofs.YtopklampiaecdaaGreat
set_option linter.unusedVariables false

theorem ba_list {a b : ByteArray} (h : a.data.toList = b.data.toList) : a = b := ByteArray.ext (Array.toList_inj.1 h)

theorem textsFrom_snoc (i : Nat) (bs : List Blk) (b : Blk) : textsFrom i (bs ++ [b]) = textsFrom i bs ++ textB (renum (i + bs.length) b) := by
  rw [textsFrom_append]
  show _ ++ (textB _ ++ ByteArray.empty) = _
  rw [ByteArray.append_empty]

theorem renum_self {b : Blk} {i : Nat} (h : b.num = i) : renum i b = b := by
  subst h; rfl

/-- A container from an index on is the text of its blocks. -/
theorem conts_text {s : ByteArray} {k : Nat} {acc bs : List Blk} (hk : k ≤ s.size) (hc : conts s k acc = some bs) : textsFrom 0 bs = textsFrom 0 acc ++ s.extract k s.size := by
  by_cases hlt : k < s.size
  · by_cases h1 : pbOk s k ∧ (pbBlk s k).num = acc.length
    · rw [conts_next hlt h1.1 h1.2] at hc
      have hend := pbOk_end h1.1
      have := pbEnd_ge s k
      rw [conts_text hend hc, textsFrom_snoc, Nat.zero_add, renum_self h1.2]
      have ht := (text_pbBlk s k h1.1.1 h1.1.2.1 h1.1.2.2.1 hend).2 h1.1.2.2.2.2.2
      rw [ht, ByteArray.append_assoc, extract_append s k (pbEnd s k + 2) s.size (by omega) hend]
    · rw [conts_bad hlt h1] at hc
      cases hc
  · rw [conts_end (by omega)] at hc
    split at hc
    · injection hc with hc
      subst hc
      have : s.extract k s.size = ByteArray.empty := by
        apply ba_list
        simp
        omega
      rw [this, ByteArray.append_empty]
    · cases hc
termination_by s.size - k
decreasing_by have := pbEnd_ge s k; omega

theorem contB_text {s : ByteArray} {bs : List Blk} (h : contB s = some bs) : textsFrom 0 bs = s := by
  have := conts_text (Nat.zero_le _) h
  rw [this]
  show ByteArray.empty ++ _ = _
  rw [ByteArray.empty_append]
  apply ba_list
  simp

theorem bAt_mid {s X Z : ByteArray} (h : s = X ++ Z) (j : Nat) : bAt s (X.size + j) = bAt Z j := by
  unfold bAt
  rw [h, ByteArray.data_append, Array.toList_append, List.getD_eq_getElem?_getD, List.getD_eq_getElem?_getD, List.getElem?_append_right (by simp)]
  congr 2
  simp

theorem extract_mid {s X Z : ByteArray} (h : s = X ++ Z) (i j : Nat) : s.extract (X.size + i) (X.size + j) = Z.extract i j := by
  subst h
  apply ba_list
  simp only [ByteArray.data_extract, ByteArray.data_append, Array.toList_extract, Array.toList_append, List.extract_eq_take_drop]
  have e : X.size = X.data.toList.length := by simp
  rw [e, List.drop_append, List.drop_eq_nil_of_le (by omega)]
  simp only [List.nil_append]
  congr 1
  · omega
  · congr 1; omega

/-- The bytes of a block's text, one by one. -/
theorem textB_list (b : Blk) : (textB b).data.toList = 181 :: (if b.raw then 0 else 1) :: UInt8.ofNat (b.num / 256) :: UInt8.ofNat b.num :: UInt8.ofNat (b.size / 256) :: UInt8.ofNat b.size :: UInt8.ofNat (b.body.size / 256) :: UInt8.ofNat b.body.size :: (b.body.data.toList ++ [UInt8.ofNat (sumOf (innerB b).data.toList / 256), UInt8.ofNat (sumOf (innerB b).data.toList)]) := by
  obtain ⟨sm, hs⟩ : ∃ sm, sumOf (innerB b).data.toList = sm := ⟨_, rfl⟩
  unfold textB
  rw [hs]
  unfold innerB two kindB
  simp only [ByteArray.data_append, Array.toList_append]
  split <;> simp

theorem innerB_list (b : Blk) : (innerB b).data.toList = (if b.raw then 0 else 1) :: UInt8.ofNat (b.num / 256) :: UInt8.ofNat b.num :: UInt8.ofNat (b.size / 256) :: UInt8.ofNat b.size :: UInt8.ofNat (b.body.size / 256) :: UInt8.ofNat b.body.size :: b.body.data.toList := by
  unfold innerB two kindB
  simp only [ByteArray.data_append, Array.toList_append]
  split <;> simp

theorem pair_num {n : Nat} (h : n < 65536) : 256 * (UInt8.ofNat (n / 256)).toNat + (UInt8.ofNat n).toNat = n := by
  rw [UInt8.toNat_ofNat', UInt8.toNat_ofNat']
  omega

theorem ba_ext_l {s : ByteArray} {i j : Nat} {l : List UInt8} (h : (s.data.toList.take j).drop i = l) : (s.extract i j).data.toList = l := by
  rw [← h]
  simp [List.drop_take]

/-- Where a block's text stands, the block stands. -/
theorem pb_text {s X Y : ByteArray} {b : Blk} (h : s = X ++ textB b ++ Y) (hb : b.ok) : pbOk s X.size ∧ pbBlk s X.size = b ∧ pbEnd s X.size + 2 = X.size + (textB b).size := by
  have hs : s = X ++ (textB b ++ Y) := by rw [h, ByteArray.append_assoc]
  have hbody : b.body.size ≤ 64 := by
    obtain ⟨_, _, h3, h4⟩ := hb
    split at h4 <;> omega
  have hnum := hb.1
  have hsz := hb.2.2.1
  obtain ⟨sm, hsm⟩ : ∃ sm, sumOf (innerB b).data.toList = sm := ⟨_, rfl⟩
  have hsl : sm < 65536 := by rw [← hsm]; exact sumOf_lt _
  have hL := textB_list b
  have hI := innerB_list b
  rw [hsm] at hL
  have hZ : (textB b ++ Y).data.toList = (textB b).data.toList ++ Y.data.toList := by simp
  rw [hL] at hZ
  have hlen : b.body.data.toList.length = b.body.size := by simp
  have at_ : ∀ j, bAt s (X.size + j) = (textB b ++ Y).data.toList.getD j 0 := fun j => bAt_mid hs j
  rw [hZ] at at_
  have g0 : bAt s X.size = 181 := by have := at_ 0; simpa using this
  have g1 : bAt s (X.size + 1) = if b.raw then 0 else 1 := by have := at_ 1; simpa using this
  have g2 : bAt s (X.size + 2) = UInt8.ofNat (b.num / 256) := by have := at_ 2; simpa using this
  have g3 : bAt s (X.size + 3) = UInt8.ofNat b.num := by have := at_ 3; simpa using this
  have g4 : bAt s (X.size + 4) = UInt8.ofNat (b.size / 256) := by have := at_ 4; simpa using this
  have g5 : bAt s (X.size + 5) = UInt8.ofNat b.size := by have := at_ 5; simpa using this
  have g6 : bAt s (X.size + 6) = UInt8.ofNat (b.body.size / 256) := by have := at_ 6; simpa using this
  have g7 : bAt s (X.size + 7) = UInt8.ofNat b.body.size := by have := at_ 7; simpa using this
  have hn6 : numAt s (X.size + 6) = b.body.size := by unfold numAt; rw [g6, show X.size + 6 + 1 = X.size + 7 by omega, g7]; exact pair_num (by omega)
  have hn4 : numAt s (X.size + 4) = b.size := by unfold numAt; rw [g4, show X.size + 4 + 1 = X.size + 5 by omega, g5]; exact pair_num (by omega)
  have hn2 : numAt s (X.size + 2) = b.num := by unfold numAt; rw [g2, show X.size + 2 + 1 = X.size + 3 by omega, g3]; exact pair_num (by omega)
  have hend : pbEnd s X.size = X.size + (8 + b.body.size) := by unfold pbEnd; rw [hn6]; omega
  have htsz := textB_size b
  have hssz : s.size = X.size + (10 + b.body.size) + Y.size := by rw [h, ByteArray.size_append, ByteArray.size_append, htsz]
  have hbd : s.extract (X.size + 8) (pbEnd s X.size) = b.body := by
    rw [hend, extract_mid hs]
    apply ba_list
    apply ba_ext_l
    rw [hZ, Nat.add_comm 8]
    simp [hlen]
  have hin : s.extract (X.size + 1) (pbEnd s X.size) = innerB b := by
    rw [hend, extract_mid hs]
    apply ba_list
    rw [hI]
    apply ba_ext_l
    rw [hZ, Nat.add_comm 8]
    simp [hlen]
  have hck : numAt s (pbEnd s X.size) = sm := by
    rw [hend]
    unfold numAt
    have e1 := at_ (8 + b.body.size)
    have e2 := at_ (9 + b.body.size)
    have f1 : bAt s (X.size + (8 + b.body.size)) = UInt8.ofNat (sm / 256) := by
      rw [e1, Nat.add_comm 8]
      simp [List.getD_eq_getElem?_getD, hlen]
    have f2 : bAt s (X.size + (8 + b.body.size) + 1) = UInt8.ofNat sm := by
      rw [show X.size + (8 + b.body.size) + 1 = X.size + (9 + b.body.size) by omega, e2, show 9 + b.body.size = (b.body.size + 1) + 8 by omega]
      simp [List.getD_eq_getElem?_getD, hlen]
    rw [f1, f2]
    exact pair_num hsl
  have hraw : (bAt s (X.size + 1) == 0) = b.raw := by
    rw [g1]
    cases b.raw <;> rfl
  have hblk : pbBlk s X.size = b := by
    unfold pbBlk
    rw [hn2, hraw, hn4, hbd]
  refine ⟨⟨by omega, by rw [g0]; rfl, ?_, by omega, by rw [hblk]; exact hb, by rw [hin, hck, hsm]⟩, hblk, by omega⟩
  rw [g1]
  cases b.raw <;> decide

/-- Blocks with the numbers of their places. -/
def renumL : Nat → List Blk → List Blk
  | _, [] => []
  | i, b :: bs => renum i b :: renumL (i + 1) bs

theorem renumL_length (bs : List Blk) : ∀ i, (renumL i bs).length = bs.length := by
  induction bs with
  | nil => intro i; rfl
  | cons b bs ih => intro i; show (renumL (i + 1) bs).length + 1 = _; rw [ih]; rfl

theorem renumL_append (a b : List Blk) : ∀ i, renumL i (a ++ b) = renumL i a ++ renumL (i + a.length) b := by
  induction a with
  | nil => intro i; simp [renumL]
  | cons x xs ih =>
    intro i
    show renum i x :: renumL (i + 1) (xs ++ b) = renum i x :: renumL (i + 1) xs ++ renumL (i + (xs.length + 1)) b
    rw [ih (i + 1), show i + 1 + xs.length = i + (xs.length + 1) from by omega]; rfl

theorem renumL_szs (bs : List Blk) : ∀ i, szs (renumL i bs) = szs bs := by
  induction bs with
  | nil => intro i; rfl
  | cons b bs ih => intro i; show b.size + szs (renumL (i + 1) bs) = _; rw [ih]; rfl

theorem textsFrom_renumL (bs : List Blk) : ∀ i, textsFrom i (renumL i bs) = textsFrom i bs := by
  induction bs with
  | nil => intro i; rfl
  | cons b bs ih =>
    intro i
    show textB (renum i (renum i b)) ++ textsFrom (i + 1) (renumL (i + 1) bs) = _
    rw [ih]; rfl

theorem renumL_get (bs : List Blk) : ∀ (i j : Nat), (renumL i bs)[j]? = (bs[j]?).map (renum (i + j)) := by
  induction bs with
  | nil => intro i j; simp [renumL]
  | cons b bs ih =>
    intro i j
    cases j with
    | zero => simp [renumL]
    | succ j =>
      show (renumL (i + 1) bs)[j]? = _
      rw [ih, List.getElem?_cons_succ, show i + 1 + j = i + (j + 1) by omega]

theorem renumL_self {bs : List Blk} (h : Numbered bs) : renumL 0 bs = bs := by
  apply List.ext_getElem?
  intro j
  rw [renumL_get, Nat.zero_add]
  cases hj : bs[j]? with
  | none => rfl
  | some b => simp [renum_self (h j b hj).1]

/-- The text of blocks is a container of them. -/
theorem contB_texts {bs : List Blk} (hok : ∀ b ∈ bs, b.okb) (h40 : bs.length ≤ 40) (hz : szs bs ≤ 2000) : contB (textsFrom 0 bs) = some (renumL 0 bs) := by
  have main : ∀ (post pre : List Blk), bs = pre ++ post → conts (textsFrom 0 bs) (textsFrom 0 pre).size (renumL 0 pre) = some (renumL 0 bs) := by
    intro post
    induction post with
    | nil =>
      intro pre e
      rw [List.append_nil] at e
      subst e
      rw [conts_end (Nat.le_refl _), if_pos (by rw [renumL_szs]; exact hz)]
    | cons b post ih =>
      intro pre e
      have hpl : pre.length < 40 := by
        have := congrArg List.length e
        rw [List.length_append, List.length_cons] at this
        omega
      have hb : b.okb := hok b (by rw [e]; simp)
      have hbo := Blk.ok_of hb hpl
      have ht : textsFrom 0 bs = textsFrom 0 pre ++ textB (renum pre.length b) ++ textsFrom (pre.length + 1) post := by
        rw [e, textsFrom_append, Nat.zero_add, ByteArray.append_assoc]; rfl
      obtain ⟨p1, p2, p3⟩ := pb_text ht hbo
      have hlt := pbOk_lt p1
      rw [conts_next hlt p1 (by rw [p2, renumL_length]; rfl), p2, p3]
      have e2 : (textsFrom 0 (pre ++ [b])).size = (textsFrom 0 pre).size + (textB (renum pre.length b)).size := by
        rw [textsFrom_snoc, Nat.zero_add, ByteArray.size_append]
      have e3 : renumL 0 (pre ++ [b]) = renumL 0 pre ++ [renum pre.length b] := by
        rw [renumL_append, Nat.zero_add]; rfl
      rw [← e2, ← e3]
      exact ih (pre ++ [b]) (by rw [e]; simp)
  exact main bs [] rfl

end Go.Proofs.YtopklampiaecdaaGreat
