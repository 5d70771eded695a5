/-
  The reference's unpacking of streams, the data of containers and ResizeBlocks.
-/
import Derived.Test.YthlgpgaeajfchaaGreatDoorImplRead
import Derived.Test.YthlgpgaeajfchaaGreatDoorMergeFacts
import Derived.Test.YthlgpgaeajfchaaGreatDoorContSpec
namespace Go.Proofs.YthlgpgaeajfchaaGreatDoor
open Go.RowKit
set_option linter.unusedVariables false
set_option linter.unusedSimpArgs false
set_option maxRecDepth 100000

/-- A row that is read, under the growth of another one. -/
theorem Row.grownO {w w' : World} {B size n : Nat} {A : Option Addr} {xs : List Value} {row : Option Nat} (h : Row w B size A n xs) (hB : B ≤ w.heap.size) (hg : w.grownBy w' row) (hne : 0 < n → ∀ b off, A = some ⟨b, off, none⟩ → row ≠ some b) : Row w' B size A n xs := by
  refine ⟨h.1, fun hn => ?_⟩
  obtain ⟨b, off, rfl, hb, hc⟩ := h.2 hn
  exact ⟨b, off, rfl, hb, fun j v hj => hg.cell (hc j v hj) (fun e => hne hn b off rfl e.symm)⟩

/-- The memory of UnpackCodes' loop. -/
structure UnM (k : Kn) (w0 : World) (H : Nat) (k' : Kn) (A : Option Addr) (c : Nat) (cs : List Nat) (v1 : Value) (w : World) : Prop where
  box : KB w H (.int .i64 (k.o : Int)) (.int .i64 (k.l : Int)) (.int .i64 (k.m : Int)) (.slice A k'.ps.length c) (.int .i64 (k.base : Int)) (.int .i64 k'.lastI)
  at_ : k'.At w w.heap.size A
  far : 0 < k'.ps.length → ∀ b off, A = some ⟨b, off, none⟩ → b ≠ H ∧ v1.ownBlock ≠ some b
  cap : k'.ps.length ≤ c
  o1 : w.ownsRow (H + 1) 3 1 v1 cs.length (cs.map natV)
  bel : Below H w0 w

section
variable {k : Kn} {w0 : World} {H : Nat} {k' : Kn} {A : Option Addr} {c : Nat} {cs : List Nat} {v1 : Value} {w w' : World}

theorem UnM.lt (h : UnM k w0 H k' A c cs v1 w) : H < w.heap.size := h.box.lt

theorem UnM.below (h : UnM k w0 H k' A c cs v1 w) (hb : Below w.heap.size w w') : UnM k w0 H k' A c cs v1 w' :=
  ⟨h.box.below hb, Row.more (Row.below h.at_ hb (Nat.le_refl _)) hb.size, h.far, h.cap, own_below h.o1 hb (Nat.le_refl _), h.bel.trans (hb.mono (Nat.le_of_lt h.lt))⟩

theorem UnM.pushC (h : UnM k w0 H k' A c cs v1 w) {v1' : Value} {o : Obj} {y : Nat} (hv : w'.ownsRow (H + 1) 3 1 v1' (cs.length + 1) (cs.map natV ++ [.int .i64 (y : Int)])) (hg : (w.alloc o).grownBy w' v1.ownBlock) (hat : v1'.ownBlock = v1.ownBlock ∨ v1'.ownBlock = some (w.heap.size + 1)) :
    UnM k w0 H k' A c (cs ++ [y]) v1' w' := by
  have hlt := h.lt
  have h1 : ∀ g, v1.ownBlock = some g → H + 1 ≤ g := fun g hg => (h.o1.lt g hg).1
  have hsz := hg.size
  rw [World.size_alloc] at hsz
  refine ⟨(h.box.alloc o).grown hg (fun e => by have := h1 _ e; omega), ?_, fun hn b off e => ⟨(h.far hn b off e).1, fun e2 => ?_⟩, h.cap, ?_, ?_⟩
  · have h2 : Row (w.alloc o) w.heap.size 2 A k'.ps.length (cellsP k'.ps) := Row.alloc h.at_ (Nat.le_refl _) o
    exact Row.more (Row.grownO h2 (by simp) hg (fun hn b off e => (h.far hn b off e).2)) (by omega)
  · rcases hat with h3 | h3
    · rw [h3] at e2; exact (h.far hn b off e).2 e2
    · rw [h3] at e2
      injection e2 with e2
      obtain ⟨b', off', e3, hb3, _⟩ := h.at_.2 hn
      rw [e] at e3
      injection e3 with e3
      injection e3 with e3
      omega
  · rw [List.length_append, List.map_append]; exact hv
  · exact (h.bel.alloc (Nat.le_of_lt hlt) o).grown hg (by simp; omega) (fun g e => by have := h1 _ e; omega)

theorem UnM.setK (h : UnM k w0 H k' A c cs v1 w) {k2 : Kn} {A2 : Option Addr} {c2 : Nat} (hb : Below w.heap.size w w') (hown : k2.Own w' w.heap.size A2 c2) :
    UnM k w0 H k2 A2 c2 cs v1 (set6 w' H (.int .i64 (k.o : Int)) (.int .i64 (k.l : Int)) (.int .i64 (k.m : Int)) (.slice A2 k2.ps.length c2) (.int .i64 (k.base : Int)) (.int .i64 k2.lastI)) := by
  have hlt := h.lt
  have hS := (Keep.refl (fun g => g = H) w').set6 (H := H) rfl (.int .i64 (k.o : Int)) (.int .i64 (k.l : Int)) (.int .i64 (k.m : Int)) (.slice A2 k2.ps.length c2) (.int .i64 (k.base : Int)) (.int .i64 k2.lastI)
  have hnew := hown.new
  have ho := own_keep (own_below h.o1 hb (Nat.le_refl _)) hS (fun g e1 e2 => by have := (h.o1.lt g e1).1; omega)
  have hk2 := own_keep hown hS (fun g e1 e2 => by have := (World.ownsRow.lt hown g e1).1; omega)
  refine ⟨(h.box.below hb).set _ _ _ _ _ _, Row.of_own hk2, fun hn b off e => ⟨by have := hnew hn b off e; omega, fun e2 => by have := hnew hn b off e; have := (h.o1.lt b e2).2; omega⟩, hown.cap, ho, ?_⟩
  exact below_set6 (h.bel.trans (hb.mono (Nat.le_of_lt hlt))) (Nat.le_refl _) _ _ _ _ _ _

end

/-- The data of the blocks that lie ahead of one. -/
theorem Kn.datas_take {k : Kn} {bs : List Blk} {i : Nat} {b : Blk} (hb : bs[i]? = some b) {d e : List UInt8} (h1 : k.datas (bs.take i) = some d) (h2 : k.blockData b = some e) : k.datas (bs.take (i + 1)) = some (d ++ e) := by
  rw [List.take_add_one, hb]
  show k.datas (bs.take i ++ [b]) = _
  rw [Kn.datas_append, h1]
  simp [Kn.datas, h2]

theorem Kn.datas_none {k : Kn} {bs : List Blk} {i : Nat} {b : Blk} (hb : bs[i]? = some b) (h2 : k.blockData b = none) : k.datas bs = none := by
  obtain ⟨hi, e⟩ := List.getElem?_eq_some_iff.1 hb
  rw [← List.take_append_drop i bs, List.drop_eq_getElem_cons hi, e, Kn.datas_append]
  have : k.datas (b :: List.drop (i + 1) bs) = none := by simp [Kn.datas, h2]
  rw [this]
  cases k.datas (List.take i bs) <;> rfl

/-- The data of a container. -/
def contD (o l m : Int) (d : List UInt8) (ob : Option (List Blk)) : Option (List UInt8) :=
  match ob with
  | some bs => if dfits o l m d then (kdict o l m d).datas bs else none
  | none => none

/-- A container of blocks of another size. -/
def resizeC (o l m : Int) (d : List UInt8) (ob : Option (List Blk)) (size : Int) : Option ByteArray :=
  match contD o l m d ob with
  | some D => if (1 ≤ size ∧ size ≤ 64) ∧ (D.length : Int) ≤ size * 40 ∧ D.length ≤ 2000 then some (textsFrom 0 ((kdict o l m d).split size.toNat D)) else none
  | none => none

theorem contD_some {o l m : Int} {d : List UInt8} {s : ByteArray} {D : List UInt8} (h : contD o l m d (contB s) = some D) : dfits o l m d ∧ D.length ≤ 4000 := by
  unfold contD at h
  rcases hbs : contB s with _ | bs
  · rw [hbs] at h; cases h
  · rw [hbs] at h
    simp only at h
    have hnum := contB_numbered hbs
    have hok : ∀ b ∈ bs, b.okb := fun b hb => Blk.okb_of (hnum.of_mem hb)
    have hz := szs_le (fun b hm => hnum.of_mem hm)
    have hn := hnum.length
    by_cases hf : dfits o l m d
    · rw [if_pos hf] at h
      have := Kn.datas_size hok h
      exact ⟨hf, by omega⟩
    · rw [if_neg hf] at h; cases h

end Go.Proofs.YthlgpgaeajfchaaGreatDoor
