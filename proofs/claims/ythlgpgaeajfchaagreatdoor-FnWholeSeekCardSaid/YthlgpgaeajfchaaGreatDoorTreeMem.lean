/-
  The nodes of a tree as cells: six each; a node more, a node less.
  The tree in memory: its box, the rows of nodes, of the pairs' nodes and of pairs; what a call on it leaves as it was.
  Go's slices.Reverse on bytes that are owned, and slices.Clip on a slice.
  The contracts of toSetting and toPatch of the laws.
-/
import Derived.Test.YthlgpgaeajfchaaGreatDoorKn
import Derived.Test.YthlgpgaeajfchaaGreatDoorWordsA
import Derived.Test.YthlgpgaeajfchaaGreatDoorWordsG

namespace Go.Proofs.YthlgpgaeajfchaaGreatDoor
open Go.RowKit
set_option linter.unusedVariables false

/-- The child of a node among the first nodes that was added last; -1 for none. -/
def kidI (c : Nat) (ns : List Nd) (p : Nat) : Nat → Int
  | 0 => -1
  | m + 1 => match ns[m]? with
    | some d => if d.par = p then ((c + m : Nat) : Int) else kidI c ns p m
    | none => kidI c ns p m

theorem kidI_append {c : Nat} {ns ms : List Nd} {p : Nat} : ∀ (m : Nat), m ≤ ns.length → kidI c (ns ++ ms) p m = kidI c ns p m := by
  intro m
  induction m with
  | zero => intro _; rfl
  | succ m ih =>
    intro hm
    rw [kidI, kidI, List.getElem?_append_left (by omega), ih (by omega)]

theorem kidI_range (c : Nat) (ns : List Nd) (p : Nat) : ∀ m, m ≤ ns.length → -1 ≤ kidI c ns p m ∧ kidI c ns p m < (c + m : Nat) := by
  intro m
  induction m with
  | zero => intro _; show (-1 : Int) ≤ -1 ∧ (-1 : Int) < _; omega
  | succ m ih =>
    intro hm
    have := ih (by omega)
    rw [kidI]
    split
    · split <;> omega
    · omega

/-- What is found along the children of a node. -/
theorem kidI_some {c : Nat} {ns : List Nd} {p : Nat} : ∀ (m : Nat), m ≤ ns.length → (kidI c ns p m = -1 ∧ ∀ (j : Nat) (d : Nd), j < m → ns[j]? = some d → d.par ≠ p) ∨
    (∃ (j : Nat) (d : Nd), j < m ∧ ns[j]? = some d ∧ d.par = p ∧ kidI c ns p m = ((c + j : Nat) : Int) ∧ ∀ (i : Nat) (e : Nd), j < i → i < m → ns[i]? = some e → e.par ≠ p) := by
  intro m
  induction m with
  | zero => intro _; exact Or.inl ⟨rfl, fun j d hj => by omega⟩
  | succ m ih =>
    intro hm
    have hg : ns[m]? = some ns[m] := List.getElem?_eq_getElem (by omega)
    rw [kidI, hg]
    simp only
    by_cases hp : (ns[m]).par = p
    · rw [if_pos hp]
      exact Or.inr ⟨m, ns[m], by omega, hg, hp, rfl, fun i e h1 h2 => by omega⟩
    · rw [if_neg hp]
      rcases ih (by omega) with ⟨h1, h2⟩ | ⟨j, d, h1, h2, h3, h4, h5⟩
      · refine Or.inl ⟨h1, fun j d hj hd => ?_⟩
        by_cases hjm : j = m
        · subst hjm; rw [hg] at hd; injection hd with hd; subst hd; exact hp
        · exact h2 j d (by omega) hd
      · refine Or.inr ⟨j, d, by omega, h2, h3, h4, fun i e hi hi2 he => ?_⟩
        by_cases him : i = m
        · subst him; rw [hg] at he; injection he with he; subst he; exact hp
        · exact h5 i e hi (by omega) he

def Tr.parI (t : Tr) (i : Nat) : Int := if i < t.c then -1 else match t.ns[i - t.c]? with
  | some d => (d.par : Int)
  | none => 0

def Tr.nxtI (t : Tr) (i : Nat) : Int := if i < t.c then -1 else match t.ns[i - t.c]? with
  | some d => kidI t.c t.ns d.par (i - t.c)
  | none => 0

def Tr.lastN (t : Tr) (i : Nat) : Nat := if i < t.c then i else match t.ns[i - t.c]? with
  | some d => d.byte
  | none => 0

def Tr.firstN (t : Tr) (i : Nat) : Nat := ((t.word i).headD 0).toNat

/-- The six cells of a node. -/
def nodeCells (t : Tr) (i : Nat) : List Value := [.int .i64 (t.parI i), .int .i64 (kidI t.c t.ns i t.ns.length), .int .i64 (t.nxtI i), .int .u8 (t.lastN i : Int), .int .u8 (t.firstN i : Int), .int .i64 (t.codeOf i : Int)]

/-- The cells of all nodes. -/
def cellsN (t : Tr) : List Value := (List.range (t.c + t.ns.length)).flatMap (nodeCells t)

theorem flatMap6_length {f : Nat → List Value} (hf : ∀ i, (f i).length = 6) : ∀ n, ((List.range n).flatMap f).length = n * 6 := by
  intro n
  induction n with
  | zero => rfl
  | succ n ih => rw [List.range_succ, List.flatMap_append, List.length_append, ih]; simp [hf]; omega

theorem cellsN_length (t : Tr) : (cellsN t).length = (t.c + t.ns.length) * 6 := flatMap6_length (fun _ => rfl) _

theorem flatMap6_get {f : Nat → List Value} (hf : ∀ i, (f i).length = 6) : ∀ n i j, i < n → j < 6 → ((List.range n).flatMap f)[i * 6 + j]? = (f i)[j]? := by
  intro n
  induction n with
  | zero => intro i j hi; omega
  | succ n ih =>
    intro i j hi hj
    rw [List.range_succ, List.flatMap_append]
    by_cases h : i < n
    · rw [List.getElem?_append_left (by rw [flatMap6_length hf]; omega), ih i j h hj]
    · obtain rfl : i = n := by omega
      rw [List.getElem?_append_right (by rw [flatMap6_length hf]; omega), flatMap6_length hf, show i * 6 + j - i * 6 = j by omega]
      simp

theorem cellsN_get (t : Tr) {i j : Nat} (hi : i < t.c + t.ns.length) (hj : j < 6) : (cellsN t)[i * 6 + j]? = (nodeCells t i)[j]? := flatMap6_get (fun _ => rfl) _ _ _ hi hj

/-- Lists of six cells for each number that agree in each cell. -/
theorem ext6 {a b : List Value} {n : Nat} (ha : a.length = n * 6) (hb : b.length = n * 6) (h : ∀ i j, i < n → j < 6 → a[i * 6 + j]? = b[i * 6 + j]?) : a = b := by
  apply List.ext_getElem?
  intro k
  by_cases hk : k < n * 6
  · have := h (k / 6) (k % 6) (by omega) (by omega)
    rw [show k / 6 * 6 + k % 6 = k by omega] at this
    exact this
  · rw [List.getElem?_eq_none (by omega), List.getElem?_eq_none (by omega)]

/-- The cells of a new node. -/
def newCells (t : Tr) (p b x : Nat) : List Value := [.int .i64 (p : Int), .int .i64 (-1), .int .i64 (kidI t.c t.ns p t.ns.length), .int .u8 (b : Int), .int .u8 (t.firstN p : Int), .int .i64 (x : Int)]

theorem more_old {t : Tr} (h : NdOk t.c t.ns) {p b x i : Nat} (hi : i < t.c + t.ns.length) :
    nodeCells (t.more p b x) i = if i = p then (nodeCells t i).set 1 (.int .i64 ((t.c + t.ns.length : Nat) : Int)) else nodeCells t i := by
  have hc : (t.more p b x).c = t.c := rfl
  have hns : (t.more p b x).ns = t.ns ++ [⟨p, b, x⟩] := rfl
  have e1 : (t.more p b x).parI i = t.parI i := by
    unfold Tr.parI
    rw [hc, hns]
    by_cases h1 : i < t.c
    · rw [if_pos h1, if_pos h1]
    · rw [if_neg h1, if_neg h1, List.getElem?_append_left (by omega)]
  have e2 : (t.more p b x).nxtI i = t.nxtI i := by
    unfold Tr.nxtI
    rw [hc, hns]
    by_cases h1 : i < t.c
    · rw [if_pos h1, if_pos h1]
    · rw [if_neg h1, if_neg h1, List.getElem?_append_left (by omega)]
      cases t.ns[i - t.c]? with
      | none => rfl
      | some d => exact kidI_append _ (by omega)
  have e3 : (t.more p b x).lastN i = t.lastN i := by
    unfold Tr.lastN
    rw [hc, hns]
    by_cases h1 : i < t.c
    · rw [if_pos h1, if_pos h1]
    · rw [if_neg h1, if_neg h1, List.getElem?_append_left (by omega)]
  have e4 : (t.more p b x).firstN i = t.firstN i := by
    unfold Tr.firstN
    have : (t.more p b x).word i = t.word i := nwordF_append h (i + 1) i hi
    rw [this]
  have e5 : (t.more p b x).codeOf i = t.codeOf i := by
    unfold Tr.codeOf
    rw [hc, hns]
    by_cases h1 : i < t.c
    · rw [if_pos h1, if_pos h1]
    · rw [if_neg h1, if_neg h1, List.getElem?_append_left (by omega)]
  have e6 : kidI t.c (t.ns ++ [⟨p, b, x⟩]) i (t.ns.length + 1) = if i = p then ((t.c + t.ns.length : Nat) : Int) else kidI t.c t.ns i t.ns.length := by
    rw [kidI, List.getElem?_append_right (Nat.le_refl _), Nat.sub_self]
    simp only [List.getElem?_cons_zero]
    by_cases hp : p = i
    · rw [if_pos hp, if_pos hp.symm]
    · rw [if_neg hp, if_neg (fun e => hp e.symm), kidI_append _ (Nat.le_refl _)]
  unfold nodeCells
  rw [e1, e2, e3, e4, e5, hc, hns, List.length_append]
  simp only [List.length_cons, List.length_nil, Nat.zero_add]
  rw [e6]
  by_cases hp : i = p
  · rw [if_pos hp, if_pos hp]; rfl
  · rw [if_neg hp, if_neg hp]

theorem more_new {t : Tr} (h : NdOk t.c t.ns) {p b x : Nat} (hp : p < t.c + t.ns.length) : nodeCells (t.more p b x) (t.c + t.ns.length) = newCells t p b x := by
  have hc : (t.more p b x).c = t.c := rfl
  have hns : (t.more p b x).ns = t.ns ++ [⟨p, b, x⟩] := rfl
  have hg : (t.ns ++ [(⟨p, b, x⟩ : Nd)])[t.c + t.ns.length - t.c]? = some ⟨p, b, x⟩ := by rw [show t.c + t.ns.length - t.c = t.ns.length by omega]; simp
  have hlt : ¬ t.c + t.ns.length < t.c := by omega
  have e1 : (t.more p b x).parI (t.c + t.ns.length) = p := by unfold Tr.parI; rw [hc, hns, if_neg hlt, hg]
  have e2 : (t.more p b x).nxtI (t.c + t.ns.length) = kidI t.c t.ns p t.ns.length := by
    unfold Tr.nxtI
    rw [hc, hns, if_neg hlt, hg, show t.c + t.ns.length - t.c = t.ns.length by omega]
    exact kidI_append _ (Nat.le_refl _)
  have e3 : (t.more p b x).lastN (t.c + t.ns.length) = b := by unfold Tr.lastN; rw [hc, hns, if_neg hlt, hg]
  have e5 : (t.more p b x).codeOf (t.c + t.ns.length) = x := by unfold Tr.codeOf; rw [hc, hns, if_neg hlt, hg]
  have e4 : (t.more p b x).firstN (t.c + t.ns.length) = t.firstN p := by
    unfold Tr.firstN Tr.word
    rw [hc, hns, nwordF, if_neg hlt, hg]
    simp only
    have h1 : nwordF t.c (t.ns ++ [⟨p, b, x⟩]) (t.c + t.ns.length) p = nwordF t.c t.ns (t.c + t.ns.length) p := nwordF_append h _ _ hp
    rw [h1, nwordF_more h (t.c + t.ns.length) (p + 1) p hp (by omega)]
    have hne := t.word_ne p
    unfold Tr.word at hne
    rw [headD_append hne]
  have e6 : kidI t.c (t.ns ++ [⟨p, b, x⟩]) (t.c + t.ns.length) (t.ns.length + 1) = -1 := by
    rcases kidI_some (c := t.c) (ns := t.ns ++ [⟨p, b, x⟩]) (p := t.c + t.ns.length) (t.ns.length + 1) (by simp) with ⟨h1, _⟩ | ⟨j, d, h1, h2, h3, _⟩
    · exact h1
    · exfalso
      by_cases hj : j < t.ns.length
      · rw [List.getElem?_append_left hj] at h2
        have := (h.par j d h2).1
        omega
      · obtain rfl : j = t.ns.length := by omega
        rw [List.getElem?_append_right (Nat.le_refl _), Nat.sub_self] at h2
        simp at h2
        subst h2
        simp at h3
        omega
  unfold nodeCells newCells
  rw [e1, e2, e3, e4, e5, hc, hns, List.length_append]
  simp only [List.length_cons, List.length_nil, Nat.zero_add]
  rw [e6]

/-- The cells of a tree with a node more. -/
theorem cellsN_more {t : Tr} (h : NdOk t.c t.ns) {p b x : Nat} (hp : p < t.c + t.ns.length) : cellsN (t.more p b x) = (cellsN t ++ newCells t p b x).set (p * 6 + 1) (.int .i64 ((t.c + t.ns.length : Nat) : Int)) := by
  have hlen : (t.more p b x).ns.length = t.ns.length + 1 := by show (t.ns ++ [_]).length = _; simp
  have hc : (t.more p b x).c = t.c := rfl
  refine ext6 (n := t.c + t.ns.length + 1) (by rw [cellsN_length, hlen, hc]; omega) (by rw [List.length_set, List.length_append, cellsN_length]; show _ + 6 = _; omega) ?_
  intro i j hi hj
  rw [cellsN_get _ (by rw [hlen, hc]; omega) hj, List.getElem?_set]
  have hl2 : (cellsN t ++ newCells t p b x).length = (t.c + t.ns.length) * 6 + 6 := by rw [List.length_append, cellsN_length]; rfl
  by_cases hil : i < t.c + t.ns.length
  · rw [more_old h hil, List.getElem?_append_left (by rw [cellsN_length]; omega), cellsN_get _ hil hj]
    by_cases hip : i = p
    · subst hip
      rw [if_pos rfl, List.getElem?_set]
      by_cases hj1 : j = 1
      · subst hj1
        rw [if_pos rfl, if_pos rfl, if_pos (show 1 < (nodeCells t i).length by show 1 < 6; omega), if_pos (by rw [hl2]; omega)]
      · rw [if_neg (by omega), if_neg (by omega)]
    · rw [if_neg hip, if_neg (by omega)]
  · obtain rfl : i = t.c + t.ns.length := by omega
    rw [more_new h hp, if_neg (by omega), List.getElem?_append_right (by rw [cellsN_length]; omega), cellsN_length, show (t.c + t.ns.length) * 6 + j - (t.c + t.ns.length) * 6 = j by omega]

/-- The first nodes of a tree. -/
def Tr.cut (t : Tr) (m : Nat) : Tr := { t with ns := t.ns.take m }

theorem cut_all (t : Tr) : t.cut t.ns.length = t := by unfold Tr.cut; rw [List.take_length]

theorem cellsN_pr (t : Tr) (pr : List Nat) : cellsN ({ t with pr := pr } : Tr) = cellsN t := rfl

/-- The cells of a tree with the last node taken away. -/
theorem cellsN_less {t : Tr} (h : NdOk t.c t.ns) {m : Nat} {d : Nd} (hd : t.ns[m]? = some d) :
    ((cellsN (t.cut (m + 1))).take ((t.c + m) * 6)).set (d.par * 6 + 1) (.int .i64 (kidI t.c t.ns d.par m)) = cellsN (t.cut m) ∧ (t.cut (m + 1)).nxtI (t.c + m) = kidI t.c t.ns d.par m := by
  have hm := (List.getElem?_eq_some_iff.1 hd).1
  have hlen : (t.cut m).ns.length = m := by show (t.ns.take m).length = m; rw [List.length_take]; omega
  have hp : d.par < (t.cut m).c + (t.cut m).ns.length := by rw [hlen]; exact (h.par m d hd).1
  have hk : kidI t.c (t.ns.take m) d.par m = kidI t.c t.ns d.par m := by
    have := kidI_append (c := t.c) (ns := t.ns.take m) (ms := t.ns.drop m) (p := d.par) m (by rw [List.length_take]; omega)
    rw [List.take_append_drop] at this
    exact this.symm
  have hmore : cellsN (t.cut (m + 1)) = cellsN ((t.cut m).more d.par d.byte d.code) := by
    have e : (t.cut (m + 1)).ns = (t.cut m).ns ++ [⟨d.par, d.byte, d.code⟩] := by
      show t.ns.take (m + 1) = t.ns.take m ++ [d]
      obtain ⟨h1, h2⟩ := List.getElem?_eq_some_iff.1 hd
      rw [List.take_succ_eq_append_getElem h1, h2]
    have e2 : t.cut (m + 1) = { (t.cut m).more d.par d.byte d.code with pr := t.pr } := by
      unfold Tr.more
      rw [← e]
      rfl
    rw [e2]; rfl
  have hndm : NdOk (t.cut m).c (t.cut m).ns := h.take m
  refine ⟨?_, ?_⟩
  · rw [hmore, cellsN_more hndm hp]
    have hl : (cellsN (t.cut m)).length = (t.c + m) * 6 := by rw [cellsN_length, hlen]; rfl
    have hpi : d.par * 6 + 1 < (cellsN (t.cut m)).length := by
      have := (h.par m d hd).1
      rw [hl]; omega
    rw [List.set_append_left _ _ hpi, List.take_left' (by rw [List.length_set, hl]), List.set_set]
    apply List.ext_getElem?
    intro k
    rw [List.getElem?_set]
    by_cases hkk : d.par * 6 + 1 = k
    · subst hkk
      rw [if_pos rfl, if_pos hpi, cellsN_get _ hp (by omega)]
      show some _ = some (Value.int .i64 (kidI (t.cut m).c (t.cut m).ns d.par (t.cut m).ns.length))
      rw [hlen]
      show some (Value.int .i64 (kidI t.c t.ns d.par m)) = some (Value.int .i64 (kidI t.c (t.ns.take m) d.par m))
      rw [hk]
    · rw [if_neg hkk]
  · unfold Tr.nxtI
    have hc : (t.cut (m + 1)).c = t.c := rfl
    have hns : (t.cut (m + 1)).ns = t.ns.take (m + 1) := rfl
    rw [hc, hns, if_neg (by omega), show t.c + m - t.c = m by omega, List.getElem?_take, if_pos (by omega), hd]
    simp only
    have := kidI_append (c := t.c) (ns := t.ns.take (m + 1)) (ms := t.ns.drop (m + 1)) (p := d.par) m (by rw [List.length_take]; omega)
    rw [List.take_append_drop] at this
    exact this.symm

end Go.Proofs.YthlgpgaeajfchaaGreatDoor

namespace Go.Proofs.YthlgpgaeajfchaaGreatDoor
open Go.RowKit
set_option linter.unusedVariables false

/-- All blocks but some are as they were. -/
structure Keep (S : Nat → Prop) (w w' : World) : Prop where
  os : w'.os = w.os
  tape : w'.tape = w.tape
  output : w'.output = w.output
  size : w.heap.size ≤ w'.heap.size
  block : ∀ g, g < w.heap.size → ¬ S g → w'.heap[g]? = w.heap[g]?

theorem Keep.refl (S : Nat → Prop) (w : World) : Keep S w w := ⟨rfl, rfl, rfl, Nat.le_refl _, fun _ _ _ => rfl⟩

theorem Keep.trans {S S' : Nat → Prop} {a b c : World} (h : Keep S a b) (k : Keep S' b c) (hs : ∀ g, g < a.heap.size → S' g → S g) : Keep S a c :=
  ⟨k.os.trans h.os, k.tape.trans h.tape, k.output.trans h.output, Nat.le_trans h.size k.size, fun g hg hn => (k.block g (Nat.lt_of_lt_of_le hg h.size) (fun e => hn (hs g hg e))).trans (h.block g hg hn)⟩

theorem Keep.of_below {S : Nat → Prop} {w w' : World} (h : Below w.heap.size w w') : Keep S w w' := ⟨h.os, h.tape, h.output, h.size, fun g hg _ => h.block g hg⟩

theorem Keep.of_grown {S : Nat → Prop} {w w' : World} {row : Option Nat} (h : w.grownBy w' row) (hs : ∀ g, row = some g → S g ∨ w.heap.size ≤ g) : Keep S w w' :=
  ⟨h.os, h.tape, h.output, h.size, fun g hg hn => h.block g hg (fun e => by
    rcases hs g e.symm with h1 | h1
    · exact hn h1
    · omega)⟩

theorem Keep.of_set {S : Nat → Prop} {w : World} {p : Addr} (hp : S p.block) (u : Value) : Keep S w (w.setCell p u) :=
  Keep.of_grown (row := some p.block) (only_setCell (World.grownBy.refl _ _) rfl _) (fun g e => by injection e with e; exact Or.inl (e ▸ hp))

theorem Keep.below {S : Nat → Prop} {w w' : World} {B : Nat} (h : Keep S w w') (hB : B ≤ w.heap.size) (hs : ∀ g, S g → B ≤ g) : Below B w w' :=
  ⟨h.os, h.tape, h.output, h.size, fun g hg => h.block g (by omega) (fun e => by have := hs g e; omega)⟩

theorem own_keep {S : Nat → Prop} {w w' : World} {base size n : Nat} {e : TypeId} {v : Value} {xs : List Value} (h : w.ownsRow base e size v n xs) (hk : Keep S w w') (hv : ∀ g, v.ownBlock = some g → ¬ S g) : w'.ownsRow base e size v n xs := by
  refine ⟨h.1, ?_⟩
  rcases h.2 with hn | ⟨g, cap, cur, rfl, hg, hgg, rest⟩
  · exact .inl hn
  · exact .inr ⟨g, cap, cur, rfl, hg, (hk.block g (Array.getElem?_eq_some_iff.1 hgg).1 (hv g rfl)).trans hgg, rest⟩

/-- A box whose cells are known and can be written. -/
structure KBn (w : World) (H : Nat) (vs : List Value) : Prop where
  c : ∀ (j : Nat) (v : Value), vs[j]? = some v → w.cell? ⟨H, j, none⟩ = some v
  f : ∀ (j : Nat) (v : Value), vs[j]? = some v → w.frozen? ⟨H, j, none⟩ = false
  lt : H < w.heap.size

theorem KBn.start (w : World) (T : TypeId) (vs : List Value) : KBn (w.alloc (.cells vs.toArray T)) w.heap.size vs := by
  refine ⟨fun j v hv => ?_, fun j v _ => by simp, by simp⟩
  exact new_cell w _ rfl T vs j v hv

theorem KBn.keep {S : Nat → Prop} {w w' : World} {H : Nat} {vs : List Value} (h : KBn w H vs) (hk : Keep S w w') (hn : ¬ S H) : KBn w' H vs := by
  have e := hk.block H h.lt hn
  exact ⟨fun j v hv => (World.cell?_of_block e).trans (h.c j v hv), fun j v hv => (World.frozen?_of_block e).trans (h.f j v hv), Nat.lt_of_lt_of_le h.lt hk.size⟩

theorem KBn.below {w w' : World} {H : Nat} {vs : List Value} (h : KBn w H vs) (hb : Below w.heap.size w w') : KBn w' H vs := h.keep (S := fun _ => False) (Keep.of_below hb) (fun e => e)

theorem KBn.set {w : World} {H j : Nat} {vs : List Value} {v0 : Value} (h : KBn w H vs) (hj : vs[j]? = some v0) (u : Value) : KBn (w.setCell ⟨H, j, none⟩ u) H (vs.set j u) := by
  have hc0 := h.c j v0 hj
  have hf0 := h.f j v0 hj
  refine ⟨fun i v hv => ?_, fun i v hv => ?_, by simpa [World.setCell] using h.lt⟩
  · rw [List.getElem?_set] at hv
    by_cases hij : j = i
    · subst hij
      rw [if_pos rfl] at hv
      split at hv
      · injection hv with hv
        subst hv
        simp [go_sem, hc0]
      · cases hv
    · rw [if_neg hij] at hv
      rw [World.cell?_setCell_other _ _ _ _ (by intro e; injection e; omega)]
      exact h.c i v hv
  · rw [World.frozen?_setCell]
    rw [List.getElem?_set] at hv
    by_cases hij : j = i
    · subst hij; exact hf0
    · rw [if_neg hij] at hv
      exact h.f i v hv

/-- Where the rows of a tree lie. -/
structure TA where
  An : Option Addr
  cn : Nat
  Ap : Option Addr
  cp : Nat
  Ak : Option Addr
  ck : Nat

/-- The blocks of a tree. -/
def TA.blk (a : TA) (T g : Nat) : Prop := g = T ∨ (Value.slice a.An 0 0).ownBlock = some g ∨ (Value.slice a.Ap 0 0).ownBlock = some g ∨ (Value.slice a.Ak 0 0).ownBlock = some g

theorem own_any (A : Option Addr) (n c : Nat) : (Value.slice A n c).ownBlock = (Value.slice A 0 0).ownBlock := by cases A <;> rfl

/-- The cells of a tree's box. -/
def boxT (k : Kn) (t : Tr) (a : TA) : List Value := [.int .i64 (k.o : Int), .int .i64 (k.l : Int), .int .i64 (k.m : Int), .slice a.Ak k.ps.length a.ck, .int .i64 (k.base : Int), .int .i64 k.lastI, .slice a.An (t.c + t.ns.length) a.cn, .slice a.Ap t.pr.length a.cp]

/-- A tree in memory. -/
structure TrM (k : Kn) (t : Tr) (T : Nat) (a : TA) (w : World) : Prop where
  box : KBn w T (boxT k t a)
  ns : w.ownsRow (T + 1) 156 6 (.slice a.An (t.c + t.ns.length) a.cn) (t.c + t.ns.length) (cellsN t)
  pr : w.ownsRow (T + 1) 3 1 (.slice a.Ap t.pr.length a.cp) t.pr.length (t.pr.map natV)
  kp : w.ownsRow (T + 1) 123 2 (.slice a.Ak k.ps.length a.ck) k.ps.length (cellsP k.ps)
  ap1 : Apart (.slice a.An 0 0) (.slice a.Ap 0 0)
  ap2 : Apart (.slice a.An 0 0) (.slice a.Ak 0 0)
  ap3 : Apart (.slice a.Ap 0 0) (.slice a.Ak 0 0)

section
variable {k : Kn} {t : Tr} {T : Nat} {a : TA} {w w' : World}

theorem TrM.blk_lt (h : TrM k t T a w) {g : Nat} (hg : a.blk T g) : T ≤ g ∧ g < w.heap.size := by
  have hlt := h.box.lt
  rcases hg with rfl | e | e | e
  · exact ⟨Nat.le_refl _, hlt⟩
  · have := h.ns.lt g (by rw [own_any]; exact e); omega
  · have := h.pr.lt g (by rw [own_any]; exact e); omega
  · have := h.kp.lt g (by rw [own_any]; exact e); omega

theorem TrM.below (h : TrM k t T a w) (hb : Below w.heap.size w w') : TrM k t T a w' :=
  ⟨h.box.below hb, own_below h.ns hb (Nat.le_refl _), own_below h.pr hb (Nat.le_refl _), own_below h.kp hb (Nat.le_refl _), h.ap1, h.ap2, h.ap3⟩

theorem TrM.drew (h : TrM k t T a w) : TrM k t T a w.drew := h.below (Below.refl _ _).drew

end

/-- What a call on a tree leaves: other blocks are as they were, and the tree takes none of them. -/
structure Fr (T : Nat) (a a' : TA) (w w' : World) : Prop where
  keep : Keep (a.blk T) w w'
  new : ∀ g, a'.blk T g → a.blk T g ∨ w.heap.size ≤ g

theorem Fr.refl (T : Nat) (a : TA) (w : World) : Fr T a a w w := ⟨Keep.refl _ _, fun g h => Or.inl h⟩

theorem Fr.trans {T : Nat} {a b c : TA} {w w1 w2 : World} (h : Fr T a b w w1) (k : Fr T b c w1 w2) : Fr T a c w w2 := by
  refine ⟨h.keep.trans k.keep (fun g hg hb => ?_), fun g hg => ?_⟩
  · rcases h.new g hb with h1 | h1
    · exact h1
    · omega
  · rcases k.new g hg with h1 | h1
    · exact h.new g h1
    · exact Or.inr (Nat.le_trans h.keep.size h1)

theorem Fr.of_below {T : Nat} {a : TA} {w w' : World} (h : Below w.heap.size w w') : Fr T a a w w' := ⟨Keep.of_below h, fun g h => Or.inl h⟩

/-- A row that is not the tree's stays, and is not the tree's. -/
theorem Fr.own {T : Nat} {a a' : TA} {w w' : World} (h : Fr T a a' w w') {base size n : Nat} {e : TypeId} {v : Value} {xs : List Value} (ho : w.ownsRow base e size v n xs) (hv : ∀ g, v.ownBlock = some g → ¬ a.blk T g) :
    w'.ownsRow base e size v n xs ∧ ∀ g, v.ownBlock = some g → ¬ a'.blk T g :=
  ⟨own_keep ho h.keep hv, fun g hg hb => by
    rcases h.new g hb with h1 | h1
    · exact hv g hg h1
    · have := (ho.lt g hg).2; omega⟩

theorem Fr.box {T : Nat} {a a' : TA} {w w' : World} (h : Fr T a a' w w') {H : Nat} {vs : List Value} (hb : KBn w H vs) (hn : ¬ a.blk T H) : KBn w' H vs ∧ ¬ a'.blk T H :=
  ⟨hb.keep h.keep hn, fun hb2 => by
    rcases h.new H hb2 with h1 | h1
    · exact hn h1
    · have := hb.lt; omega⟩

/-- All that was there before the tree is as it was. -/
theorem Fr.since {T : Nat} {a a' : TA} {w w' : World} {k : Kn} {t : Tr} (h : Fr T a a' w w') (hm : TrM k t T a w) : Below T w w' :=
  h.keep.below (Nat.le_of_lt hm.box.lt) (fun g hg => (hm.blk_lt hg).1)

/-- A part of an owned row, from its beginning. -/
theorem own_pre {w : World} {base size n c m : Nat} {e : TypeId} {A : Option Addr} {xs : List Value} (h : w.ownsRow base e size (.slice A n c) n xs) (hm : m ≤ n) (hA : A ≠ none) : w.ownsRow base e size (.slice A m c) m (xs.take (m * size)) := by
  have hle : m * size ≤ n * size := Nat.mul_le_mul_right _ hm
  refine ⟨by rw [List.length_take, h.1]; omega, ?_⟩
  rcases h.2 with ⟨h0, h1⟩ | ⟨g, cap, cur, hv, hb, hg, hnc, hcm, hcs, htake⟩
  · injection h0 with h0; exact absurd h0 hA
  · injection hv with e1 e2 e3
    subst e1 e3
    refine .inr ⟨g, c, cur, rfl, hb, hg, by omega, hcm, hcs, ?_⟩
    rw [← htake, List.take_take, Nat.min_eq_left hle]

/-- The place of an owned row that is not empty. -/
theorem own_place {w : World} {base size n c : Nat} {e : TypeId} {A : Option Addr} {xs : List Value} (h : w.ownsRow base e size (.slice A n c) n xs) (hn : 0 < n) :
    ∃ g, A = some ⟨g, 0, none⟩ ∧ base ≤ g ∧ g < w.heap.size ∧ n ≤ c ∧ (∀ j u, xs[j]? = some u → w.cell? ⟨g, j, none⟩ = some u) ∧ ∀ j, w.frozen? ⟨g, j, none⟩ = false := by
  rcases h.2 with ⟨h0, h1⟩ | ⟨g, cap, cur, hv, hb, hg, hnc, _⟩
  · omega
  · have hv' := hv
    injection hv with e1 e2 e3
    subst e1 e3
    refine ⟨g, rfl, hb, (Array.getElem?_eq_some_iff.1 hg).1, hnc, fun j u hu => ?_, h.frozenAt⟩
    have := h.cells (g := g) rfl j u hu
    rw [addr_add, Nat.zero_add] at this
    exact this

end Go.Proofs.YthlgpgaeajfchaaGreatDoor

namespace Go.Proofs.YthlgpgaeajfchaaGreatDoor
open Go.RowKit
set_option linter.unusedVariables false
set_option maxRecDepth 100000

set_option maxHeartbeats 4000000 in
theorem goReverse (A : Option Addr) (c base n : Nat) (bs : List UInt8) (w : World) (hown : w.ownsRow base 5 1 (.slice A n c) n (bs.map byteV)) (hn : bs.length = n) (h1 : 1 ≤ n) (hl : n ≤ 5000) :
    Calls Tryz.prog 167 #[.slice A n c] w fun e w' => (∃ v, e = .returned v) ∧ w'.ownsRow base 5 1 (.slice A n c) n (bs.reverse.map byteV) ∧ Keep (fun g => (Value.slice A n c).ownBlock = some g) w w' := by
  have HN := Lib.hid hn
  have hown' := Lib.hid hown
  clear hown hn
  go_enter Tryz.func167, Tryz.ntmps167
  obtain ⟨n1, hn1⟩ : ∃ z : Nat, (n : Int) - 1 = z := ⟨n - 1, by omega⟩
  have wn1 : IntKind.i64.wrap (n1 : Int) = n1 := IntWalk.i64_in _ (by omega)
  go_wp2_with fail
  go_loopw [2, 3] (fun u v wr => ∃ (i : Nat) (j : Int), u = .int .i64 (i : Int) ∧ v = .int .i64 j ∧ i ≤ n / 2 ∧ Hid (j = n1 - i) ∧ Hid (wr.ownsRow base 5 1 (.slice A n c) n ((swp bs i).map byteV)) ∧ Hid (Keep (fun g => (Value.slice A n c).ownBlock = some g) w wr)) (fun u _ _ => n - (intOf u).toNat)
  case atStart => exact ⟨0, n1, rfl, rfl, Nat.zero_le _, Lib.hid (by omega), Lib.hid (by rw [swp_zero]; exact hown'.out), Lib.hid (Keep.refl _ _)⟩
  case round =>
    obtain ⟨i, j, rfl, rfl, hi, HJ, hO, hG⟩ := hrel
    have hj := HJ.out
    by_cases hij : i < n / 2
    · obtain ⟨g, rfl, hg1, hg2, hgc, hgf⟩ := own_at hO.out (by omega)
      obtain ⟨r, rfl⟩ : ∃ r : Nat, j = r := ⟨j.toNat, by omega⟩
      have hl2 := HN.out
      have gi := swp_get bs i (j := i) (by omega)
      have gr := swp_get bs i (j := r) (by omega)
      rw [if_neg (by omega)] at gi gr
      have hsw := swp_succ bs (i := i) (by omega)
      rw [show bs.length - 1 - i = r by omega] at hsw
      obtain ⟨x1, hx1⟩ : ∃ x1, bs.getD i 0 = x1 := ⟨_, rfl⟩
      obtain ⟨x2, hx2⟩ : ∃ x2, bs.getD r 0 = x2 := ⟨_, rfl⟩
      rw [hx1] at gi hsw
      rw [hx2] at gr hsw
      have ci := hgc i (byteV x1) (by rw [List.getElem?_map, gi]; rfl)
      have cr := hgc r (byteV x2) (by rw [List.getElem?_map, gr]; rfl)
      have hst := (hO.out.stored i (byteV x2)).1
      obtain ⟨g', hge, _, _, hgc2, hgf2⟩ := own_at hst (by omega)
      obtain rfl : g = g' := by injection hge with e; injection e
      have hst2 := (hst.stored r (byteV x1)).1
      have cr2 := hgc2 r (byteV x2) (by rw [List.getElem?_set_ne (by omega), List.getElem?_map, gr]; rfl)
      have e2 : ((((swp bs i).map byteV).set i (byteV x2)).set r (byteV x1)) = (swp bs (i + 1)).map byteV := by rw [hsw, List.map_set, List.map_set]
      rw [e2] at hst2
      have fi := hgf i
      have fr := hgf r
      have fr2 := hgf2 r
      have hG2 := Lib.hid ((hG.out.trans (Keep.of_set (S := fun x => (Value.slice (some ⟨g, 0, none⟩) n c).ownBlock = some x) (p := ⟨g, i, none⟩) rfl (byteV x2)) (fun _ _ e => e)).trans (Keep.of_set (S := fun x => (Value.slice (some ⟨g, 0, none⟩) n c).ownBlock = some x) (p := ⟨g, r, none⟩) rfl (byteV x1)) (fun _ _ e => e))
      unfold byteV at ci cr cr2 fr2
      have HW2 := Lib.hid hst2
      clear hst hst2 hgc hgf hgc2 hgf2 gi gr hsw hx1 hx2 hl2 e2 hO hG hown'
      have i1 : (0 : Int) ≤ i := by omega
      have i2 : (i : Int) < n := by omega
      have r1 : (0 : Int) ≤ r := by omega
      have r2 : (r : Int) < n := by omega
      have w4 : IntKind.i64.wrap (r : Int) = r := IntWalk.i64_in _ (by omega)
      have hir : (i : Int) < r := by omega
      have hrl : Hid ((r : Int) - 1 = n1 - ((i + 1 : Nat) : Int)) := Lib.hid (by omega)
      clear hj HJ hn1
      obtain ⟨r3, hr3⟩ : ∃ z : Int, (r : Int) - 1 = z := ⟨_, rfl⟩
      have w5 : IntKind.i64.wrap r3 = r3 := IntWalk.i64_in _ (by omega)
      go_upto_region 3 with (fail)
      go_region
      all_goals (go_wp2_with fail)
      all_goals go_roundw
      case rel => exact ⟨i + 1, r3, by go_num, rfl, by omega, Lib.hid (by rw [← hr3]; exact hrl.out), Lib.hid (own_below HW2.out (Below.refl _ _).drew (Nat.le_refl _)), Lib.hid (hG2.out.trans (Keep.of_below (S := fun x => (Value.slice (some ⟨g, 0, none⟩) n c).ownBlock = some x) (Below.refl _ _).drew) (fun _ _ e => e))⟩
      case measure => simp [intOf]; omega
    · have hi2 : i = n / 2 := by omega
      have hO2 := hO.out
      rw [swp_half bs (by have := HN.out; omega) (by have := HN.out; omega)] at hO2
      have hG2 := hG.out
      replace hO2 := Lib.hid hO2
      have hij2 : ¬ (i : Int) < j := by omega
      clear hj HJ
      go_wp2_with fail
      refine bodyPost_end (results_none rfl _ _ _) rfl ?_
      exact ⟨⟨_, rfl⟩, by have := hO2.out; rw [List.map_reverse] at this; exact this, hG2⟩

theorem goClip (A : Option Addr) (n c : Nat) (w : World) (hn : n ≤ 100000) (hc : n ≤ c) :
    Calls Tryz.prog 126 #[.slice A n c] w fun e w' => e = .returned (.slice A n n) ∧ w = w' := by
  go_enter Tryz.func126, Tryz.ntmps126
  go_wp2_with fail
  go_ret
  exact ⟨rfl, rfl⟩

end Go.Proofs.YthlgpgaeajfchaaGreatDoor

namespace Go.Proofs.YthlgpgaeajfchaaGreatDoor
open Go.RowKit
set_option linter.unusedVariables false

/-- The range of a number that came in. -/
theorem wf_range {n : Int} (h : (Lit.int .i64 n).wf = true) : -9223372036854775808 ≤ n ∧ n ≤ 9223372036854775807 := by
  simpa [Lit.wf, IntKind.min, IntKind.max, IntKind.signed, IntKind.bits] using h

end Go.Proofs.YthlgpgaeajfchaaGreatDoor
