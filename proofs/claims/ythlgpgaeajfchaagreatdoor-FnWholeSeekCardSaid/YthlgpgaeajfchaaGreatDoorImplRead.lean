/-
  The program's unpackBytes and readCodes: the codes of bits.
-/
import Derived.Test.YthlgpgaeajfchaaGreatDoorImplWalk
import Derived.Test.YthlgpgaeajfchaaGreatDoorImplBits
namespace Go.Proofs.YthlgpgaeajfchaaGreatDoor
open Go.RowKit
set_option linter.unusedVariables false
set_option linter.unusedSimpArgs false
set_option maxRecDepth 100000

theorem KBn.set6 {w : World} {H : Nat} {a0 a1 a2 a3 a4 a5 : Value} {r : List Value} (h : KBn w H (a0 :: a1 :: a2 :: a3 :: a4 :: a5 :: r)) (b0 b1 b2 b3 b4 b5 : Value) : KBn (set6 w H b0 b1 b2 b3 b4 b5) H (b0 :: b1 :: b2 :: b3 :: b4 :: b5 :: r) :=
  (((((h.set (j := 0) rfl b0).set (j := 1) rfl b1).set (j := 2) rfl b2).set (j := 3) rfl b3).set (j := 4) rfl b4).set (j := 5) rfl b5

/-- The zeros of a reading. -/
def rd0 : List Value := [.int .i64 0, .int .i64 0, .int .i64 0, .slice none 0 0, .int .i64 0, .int .i64 0, .slice none 0 0, .slice none 0 0, .int .i64 0, .int .i64 0]

/-- The memory of readCodes' loop: the reading's box, with rows of its own. -/
structure RdM (k : Kn) (kv : List Value) (w0 : World) (H G : Nat) (k' : Kn) (A : Option Addr) (c : Nat) (cs : List Nat) (ds : List UInt8) (v1 v2 : Value) (fin p : Nat) (w : World) : Prop where
  box : KBn w G [.int .i64 (k.o : Int), .int .i64 (k.l : Int), .int .i64 (k.m : Int), .slice A k'.ps.length c, .int .i64 (k.base : Int), .int .i64 k'.lastI, v1, v2, .int .i64 (fin : Int), .int .i64 (p : Int)]
  kb : KBn w H kv
  res : KBn w (H + 1) rd0
  kp : k'.Own w (H + 2) A c
  o1 : w.ownsRow (H + 2) 3 1 v1 cs.length (cs.map natV)
  o2 : w.ownsRow (H + 2) 5 1 v2 ds.length (ds.map byteV)
  n0 : ¬ (Value.slice A 0 0).ownBlock = some G
  n1 : ¬ v1.ownBlock = some G
  n2 : ¬ v2.ownBlock = some G
  a1 : Apart v1 v2
  a2 : Apart (.slice A 0 0) v1
  a3 : Apart (.slice A 0 0) v2
  bel : Below H w0 w
  hG : H + 2 ≤ G

section
variable {k : Kn} {kv : List Value} {w0 : World} {H G : Nat} {k' : Kn} {A : Option Addr} {c : Nat} {cs : List Nat} {ds : List UInt8} {v1 v2 : Value} {fin p : Nat} {w w' : World}

theorem RdM.lt (h : RdM k kv w0 H G k' A c cs ds v1 v2 fin p w) : G < w.heap.size := h.box.lt

theorem RdM.below (h : RdM k kv w0 H G k' A c cs ds v1 v2 fin p w) (hb : Below w.heap.size w w') : RdM k kv w0 H G k' A c cs ds v1 v2 fin p w' :=
  ⟨h.box.below hb, h.kb.below hb, h.res.below hb, h.kp.below hb (Nat.le_refl _), own_below h.o1 hb (Nat.le_refl _), own_below h.o2 hb (Nat.le_refl _), h.n0, h.n1, h.n2, h.a1, h.a2, h.a3, h.bel.trans (hb.mono (Nat.le_of_lt (h.kb.lt))), h.hG⟩

theorem rdBlk (h : k'.Own w (H + 2) A c) {g : Nat} (hg : (Value.slice A 0 0).ownBlock = some g) : H + 2 ≤ g ∧ g < w.heap.size := by
  rw [← own_any A k'.ps.length c] at hg
  exact World.ownsRow.lt h g hg

/-- A cell of the reading's box is written. -/
theorem RdM.setG (h : RdM k kv w0 H G k' A c cs ds v1 v2 fin p w) {j : Nat} {u v0 : Value} {fin2 p2 : Nat}
    (hj : ([.int .i64 (k.o : Int), .int .i64 (k.l : Int), .int .i64 (k.m : Int), .slice A k'.ps.length c, .int .i64 (k.base : Int), .int .i64 k'.lastI, v1, v2, .int .i64 (fin : Int), .int .i64 (p : Int)] : List Value)[j]? = some v0)
    (he : ([.int .i64 (k.o : Int), .int .i64 (k.l : Int), .int .i64 (k.m : Int), .slice A k'.ps.length c, .int .i64 (k.base : Int), .int .i64 k'.lastI, v1, v2, .int .i64 (fin : Int), .int .i64 (p : Int)] : List Value).set j u = [.int .i64 (k.o : Int), .int .i64 (k.l : Int), .int .i64 (k.m : Int), .slice A k'.ps.length c, .int .i64 (k.base : Int), .int .i64 k'.lastI, v1, v2, .int .i64 (fin2 : Int), .int .i64 (p2 : Int)]) :
    RdM k kv w0 H G k' A c cs ds v1 v2 fin2 p2 (w.setCell ⟨G, j, none⟩ u) := by
  have hk : Keep (fun g => g = G) w (w.setCell ⟨G, j, none⟩ u) := Keep.of_set (S := fun g => g = G) rfl u
  have hG := h.hG
  have hb := h.box.set hj u
  rw [he] at hb
  refine ⟨hb, h.kb.keep hk (by omega), h.res.keep hk (by omega), own_keep h.kp hk (fun g e1 e2 => h.n0 (by rw [own_any] at e1; rw [e1, e2])), own_keep h.o1 hk (fun g e1 e2 => h.n1 (by rw [e1, e2])), own_keep h.o2 hk (fun g e1 e2 => h.n2 (by rw [e1, e2])), h.n0, h.n1, h.n2, h.a1, h.a2, h.a3, h.bel.setCell (by show H ≤ G; omega) u, hG⟩

/-- A code is appended. -/
theorem RdM.pushC (h : RdM k kv w0 H G k' A c cs ds v1 v2 fin p w) {v1' : Value} {o : Obj} {y : Nat} (hv : w'.ownsRow (H + 2) 3 1 v1' (cs.length + 1) (cs.map natV ++ [.int .i64 (y : Int)])) (hg : (w.alloc o).grownBy w' v1.ownBlock) (hat : v1'.ownBlock = v1.ownBlock ∨ v1'.ownBlock = some (w.heap.size + 1)) :
    RdM k kv w0 H G k' A c (cs ++ [y]) ds v1' v2 fin p (w'.setCell ⟨G, 6, none⟩ v1') := by
  have hlt := h.lt
  have hG := h.hG
  have hk1 := Keep.of_row hg
  have h1 : ∀ g, v1.ownBlock = some g → H + 2 ≤ g ∧ g < w.heap.size := fun g hg => h.o1.lt g hg
  have hk2 : Keep (fun g => g = G) w' (w'.setCell ⟨G, 6, none⟩ v1') := Keep.of_set (S := fun g => g = G) rfl v1'
  have hn1 : ¬ v1'.ownBlock = some G := fun e => by
    rcases hat with h2 | h2
    · rw [h2] at e; exact h.n1 e
    · rw [h2] at e; injection e with e; omega
  have hne : ∀ g, g < H + 2 → ¬ v1.ownBlock = some g := fun g hg e => by have := (h1 g e).1; omega
  have hb := (h.box.keep hk1 (fun e => h.n1 e)).set (j := 6) rfl v1'
  refine ⟨hb, (h.kb.keep hk1 (hne H (by omega))).keep hk2 (by omega), (h.res.keep hk1 (hne (H + 1) (by omega))).keep hk2 (by omega), own_keep (own_keep h.kp hk1 (fun g e1 e2 => h.a2 g (by rw [own_any] at e1; exact e1) e2)) hk2 (fun g e1 e2 => h.n0 (by rw [own_any] at e1; rw [e1, e2])), own_keep ?_ hk2 (fun g e1 e2 => hn1 (by rw [e1, e2])), own_keep (own_keep h.o2 hk1 (fun g e1 e2 => h.a1 g e2 e1)) hk2 (fun g e1 e2 => h.n2 (by rw [e1, e2])), h.n0, hn1, h.n2, ?_, ?_, h.a3, ?_, hG⟩
  · rw [List.length_append, List.map_append]; exact hv
  · exact Apart.step h.a1 hat (fun g e => by have := (h.o2.lt g e).2; omega)
  · exact (Apart.step h.a2.symm hat (fun g e => by have := (rdBlk h.kp e).2; omega)).symm
  · exact (((h.bel.alloc (by omega) o).grown hg (by simp; omega) (fun g e => by have := (h1 g e).1; omega))).setCell (by show H ≤ G; omega) v1'

/-- Data is appended. -/
theorem RdM.pushD (h : RdM k kv w0 H G k' A c cs ds v1 v2 fin p w) {v2' : Value} {bs : List UInt8} {n : Nat} (hn : n = bs.length) (hv : w'.ownsRow (H + 2) 5 1 v2' (ds.length + n) (ds.map byteV ++ bs.map byteV)) (hg : w.grownBy w' v2.ownBlock) (hat : v2'.ownBlock = v2.ownBlock ∨ v2'.ownBlock = some w.heap.size) :
    RdM k kv w0 H G k' A c cs (ds ++ bs) v1 v2' fin p (w'.setCell ⟨G, 7, none⟩ v2') := by
  have hlt := h.lt
  have hG := h.hG
  have h2 : ∀ g, v2.ownBlock = some g → H + 2 ≤ g ∧ g < w.heap.size := fun g hg => h.o2.lt g hg
  have hk1 : Keep (fun g => v2.ownBlock = some g) w w' := Keep.of_grown hg (fun g e => Or.inl e)
  have hk2 : Keep (fun g => g = G) w' (w'.setCell ⟨G, 7, none⟩ v2') := Keep.of_set (S := fun g => g = G) rfl v2'
  have hn2 : ¬ v2'.ownBlock = some G := fun e => by
    rcases hat with h3 | h3
    · rw [h3] at e; exact h.n2 e
    · rw [h3] at e; injection e with e; omega
  have hne : ∀ g, g < H + 2 → ¬ v2.ownBlock = some g := fun g hg e => by have := (h2 g e).1; omega
  have hb := (h.box.keep hk1 (fun e => h.n2 e)).set (j := 7) rfl v2'
  refine ⟨hb, (h.kb.keep hk1 (hne H (by omega))).keep hk2 (by omega), (h.res.keep hk1 (hne (H + 1) (by omega))).keep hk2 (by omega), own_keep (own_keep h.kp hk1 (fun g e1 e2 => h.a3 g (by rw [own_any] at e1; exact e1) e2)) hk2 (fun g e1 e2 => h.n0 (by rw [own_any] at e1; rw [e1, e2])), own_keep (own_keep h.o1 hk1 (fun g e1 e2 => h.a1 g e1 e2)) hk2 (fun g e1 e2 => h.n1 (by rw [e1, e2])), own_keep ?_ hk2 (fun g e1 e2 => hn2 (by rw [e1, e2])), h.n0, h.n1, hn2, ?_, h.a2, ?_, ?_, hG⟩
  · rw [List.length_append, List.map_append, ← hn]; exact hv
  · exact (Apart.step h.a1.symm hat (fun g e => (h.o1.lt g e).2)).symm
  · exact (Apart.step h.a3.symm hat (fun g e => (rdBlk h.kp e).2)).symm
  · exact (h.bel.grown hg (by omega) (fun g e => by have := (h2 g e).1; omega)).setCell (by show H ≤ G; omega) v2'

/-- What is known is advanced. -/
theorem RdM.setK (h : RdM k kv w0 H G k' A c cs ds v1 v2 fin p w) {k2 : Kn} {A2 : Option Addr} {c2 : Nat} (hown : k2.Own w' (H + 2) A2 c2) (hap : App w w' (.slice A k'.ps.length c) (.slice A2 k2.ps.length c2)) :
    RdM k kv w0 H G k2 A2 c2 cs ds v1 v2 fin p (set6 w' G (.int .i64 (k.o : Int)) (.int .i64 (k.l : Int)) (.int .i64 (k.m : Int)) (.slice A2 k2.ps.length c2) (.int .i64 (k.base : Int)) (.int .i64 k2.lastI)) := by
  have hlt := h.lt
  have hG := h.hG
  have hg := hap.grow
  have hk : ∀ g, (Value.slice A k'.ps.length c).ownBlock = some g → H + 2 ≤ g ∧ g < w.heap.size := fun g e => World.ownsRow.lt h.kp g e
  have hk1 : Keep (fun g => (Value.slice A k'.ps.length c).ownBlock = some g) w w' := Keep.of_grown hg (fun g e => Or.inl e)
  have hk2 : Keep (fun g => g = G) w' (set6 w' G (.int .i64 (k.o : Int)) (.int .i64 (k.l : Int)) (.int .i64 (k.m : Int)) (.slice A2 k2.ps.length c2) (.int .i64 (k.base : Int)) (.int .i64 k2.lastI)) := (Keep.refl (fun g => g = G) w').set6 (H := G) rfl _ _ _ _ _ _
  have hat : ∀ g, (Value.slice A2 0 0).ownBlock = some g → (Value.slice A 0 0).ownBlock = some g ∨ w.heap.size ≤ g := fun g e => by
    rcases hap.at_ with h5 | ⟨g5, h5, h6⟩
    · rw [own_any A2, own_any A] at h5; rw [h5] at e; exact Or.inl e
    · rw [own_any A2, e] at h5; injection h5 with h5; exact Or.inr (by omega)
  have hn0 : ¬ (Value.slice A2 0 0).ownBlock = some G := fun e => by
    rcases hat G e with h5 | h5
    · exact h.n0 h5
    · omega
  have hne : ∀ g, g < H + 2 → ¬ (Value.slice A k'.ps.length c).ownBlock = some g := fun g hg e => by have := (hk g e).1; omega
  have hap2 : ∀ {v : Value}, Apart (.slice A 0 0) v → (∀ g, v.ownBlock = some g → g < w.heap.size) → Apart (.slice A2 0 0) v := fun {v} ha hv g e1 e2 => by
    rcases hat g e1 with h5 | h5
    · exact ha g h5 e2
    · have := hv g e2; omega
  have hb := KBn.set6 (h.box.keep hk1 (fun e => h.n0 (by rw [own_any] at e; exact e))) (.int .i64 (k.o : Int)) (.int .i64 (k.l : Int)) (.int .i64 (k.m : Int)) (.slice A2 k2.ps.length c2) (.int .i64 (k.base : Int)) (.int .i64 k2.lastI)
  refine ⟨hb, (h.kb.keep hk1 (hne H (by omega))).keep hk2 (by omega), (h.res.keep hk1 (hne (H + 1) (by omega))).keep hk2 (by omega), own_keep hown hk2 (fun g e1 e2 => hn0 (by rw [own_any] at e1; rw [e1, e2])), own_keep (own_keep h.o1 hk1 (fun g e1 e2 => h.a2 g (by rw [own_any] at e2; exact e2) e1)) hk2 (fun g e1 e2 => h.n1 (by rw [e1, e2])), own_keep (own_keep h.o2 hk1 (fun g e1 e2 => h.a3 g (by rw [own_any] at e2; exact e2) e1)) hk2 (fun g e1 e2 => h.n2 (by rw [e1, e2])), hn0, h.n1, h.n2, h.a1, hap2 h.a2 (fun g e => (h.o1.lt g e).2), hap2 h.a3 (fun g e => (h.o2.lt g e).2), ?_, hG⟩
  exact below_set6 (h.bel.grown hg (by omega) (fun g e => by have := (hk g e).1; omega)) (by omega) _ _ _ _ _ _

/-- The cells of the reading's box. -/
theorem RdM.cells (h : RdM k kv w0 H G k' A c cs ds v1 v2 fin p w) : (w.cell? ⟨G, 0, none⟩ = some (.int .i64 (k.o : Int)) ∧ w.cell? ⟨G, 1, none⟩ = some (.int .i64 (k.l : Int)) ∧ w.cell? ⟨G, 2, none⟩ = some (.int .i64 (k.m : Int)) ∧ w.cell? ⟨G, 3, none⟩ = some (.slice A k'.ps.length c) ∧ w.cell? ⟨G, 4, none⟩ = some (.int .i64 (k.base : Int)) ∧ w.cell? ⟨G, 5, none⟩ = some (.int .i64 k'.lastI)) ∧ w.cell? ⟨G, 6, none⟩ = some v1 ∧ w.cell? ⟨G, 7, none⟩ = some v2 ∧ w.cell? ⟨G, 8, none⟩ = some (.int .i64 (fin : Int)) ∧ w.cell? ⟨G, 9, none⟩ = some (.int .i64 (p : Int)) :=
  ⟨⟨h.box.c 0 _ rfl, h.box.c 1 _ rfl, h.box.c 2 _ rfl, h.box.c 3 _ rfl, h.box.c 4 _ rfl, h.box.c 5 _ rfl⟩, h.box.c 6 _ rfl, h.box.c 7 _ rfl, h.box.c 8 _ rfl, h.box.c 9 _ rfl⟩

end

/-- What readCodes returns. -/
def RdPost (k : Kn) (u : Un) (w : World) (e : Ending) (w' : World) : Prop :=
  ∃ (A3 : Option Addr) (n3 c3 : Nat) (q3 : Int) (A1 : Option Addr) (c1 : Nat) (A2 : Option Addr) (c2 : Nat), e = .returned (.agg #[.int .i64 (k.o : Int), .int .i64 (k.l : Int), .int .i64 (k.m : Int), .slice A3 n3 c3, .int .i64 (k.base : Int), .int .i64 q3, .slice A1 u.codes.length c1, .slice A2 (k.data u.codes).length c2, .int .i64 (u.fin : Int), .int .i64 (u.bits : Int)]) ∧
    w'.ownsRow w.heap.size 3 1 (.slice A1 u.codes.length c1) u.codes.length (u.codes.map natV) ∧ w'.ownsRow w.heap.size 5 1 (.slice A2 (k.data u.codes).length c2) (k.data u.codes).length ((k.data u.codes).map byteV) ∧ Below w.heap.size w w'

set_option maxHeartbeats 2000000 in
theorem implUnpackBytes (o : Nat) (L : List UInt8) (w : World) (ho : o ≤ 1) (hL : L.length ≤ 4000) :
    Calls Tryz.prog 120 #[.int .i64 (o : Int), .string (bsL L)] w fun e w' => e = .returned (.string (bsL (unpL o L))) ∧ Below w.heap.size w w' := by
  obtain ⟨n, hn⟩ : ∃ n, L.length = n := ⟨_, rfl⟩
  have hLs : (bsL L).size = n := hn
  rw [hn] at hL
  obtain ⟨i0, hi0, hz0, hz1, hz2⟩ := info_parts infoByte
  obtain ⟨c2, hc2⟩ : ∃ c2, 8 * n = c2 := ⟨_, rfl⟩
  have hmk := fun W => run_make_rowN (P := Tryz.prog) 22 5 i0 _ Tryz.underlying22 hi0 hz0 .i64 .i64 0 c2 (Nat.zero_le _) (by rw [hz2]; omega) (by omega) W
  obtain ⟨cs, hcs⟩ : ∃ cs, madeCells (Value.int .u8 0).cells (c2 * i0.size) = cs := ⟨_, rfl⟩
  have hcsz : cs.size = c2 * 1 := by rw [← hcs, hz1]; simp [madeCells]
  rw [hcs, Int.natCast_zero] at hmk
  have ec2 : 8 * (n : Int) = c2 := by omega
  have hc2m : c2 ≤ 32000 := by omega
  have HO := Lib.hid (own_made w cs c2 w.heap.size 1 5 (Nat.le_refl _) (by unfold maxLen; omega) hcsz)
  have HN := Lib.hid hn
  clear hcs hcsz hi0 hz0 hz1 hz2 hc2 hn
  go_enter Tryz.func120, Tryz.ntmps120
  go_wp2_with fail
  clear ec2 hmk
  go_loopw [5, 13] (fun v i wr => ∃ (A' : Option Addr) (c' k m : Nat) (bs : List UInt8), v = .slice A' m c' ∧ i = .int .i64 (k : Int) ∧ k ≤ n ∧ m ≤ 8 * k ∧ Hid (bs.length = m) ∧ Hid (unpL o L = bs ++ unpL o (L.drop k)) ∧ Hid (wr.ownsRow w.heap.size 5 1 (.slice A' m c') m (bs.map byteV)) ∧ Hid (Below w.heap.size w wr)) (fun _ i _ => n - (intOf i).toNat)
  case atStart => exact ⟨_, _, 0, 0, [], rfl, rfl, Nat.zero_le _, Nat.zero_le _, Lib.hid rfl, Lib.hid rfl, HO, Lib.hid ((Below.refl _ _).alloc (Nat.le_refl _) _)⟩
  case round =>
    obtain ⟨A', c', k, m, bs, rfl, rfl, hk, hmk, hbl, hbe, hO, hB⟩ := hrel
    by_cases hlt : k < n
    · have hkl : k < L.length := by rw [HN.out]; exact hlt
      have hks : k < (bsL L).size := by rw [hLs]; exact hlt
      obtain ⟨x, hx⟩ : ∃ x, ((bsL L)[k]'hks).toNat = x := ⟨_, rfl⟩
      have hx2 : x < 256 := by rw [← hx]; exact UInt8.toNat_lt _
      have hxL : L[k].toNat = x := by rw [← hx, bsL_at hks hkl]
      have hbe2 : Hid (unpL o L = (bs ++ codeL o x 8) ++ unpL o (L.drop (k + 1))) := Lib.hid (by
        rw [hbe.out, List.drop_eq_getElem_cons hkl]
        have : unpL o (L[k] :: L.drop (k + 1)) = codeL o L[k].toNat 8 ++ unpL o (L.drop (k + 1)) := rfl
        rw [this, hxL]; simp)
      have HA := implAppendBits A' c' w.heap.size o x 8 bs wr (by rw [hbl.out]; exact hO.out) hB.out.size (by rw [hbl.out]; omega) ho (by omega) (by omega)
      rw [hbl.out] at HA
      have hgx := Lib.hid (fun g (hg : (Value.slice A' m c').ownBlock = some g) => (hO.out.lt g hg).1)
      replace HA := Lib.hid HA
      have i1 : (0 : Int) ≤ k := by omega
      have i2 : (k : Int) < n := by omega
      clear hxL hkl
      go_wp2_with fail
      refine HA.out.mono ?_
      rintro e w2 ⟨A2, c9, rfl, hown2, hap⟩
      have hB2 := Lib.hid (hB.out.trans (hap.out hB.out.size hgx.out))
      have hbl2 : Hid ((bs ++ codeL o x 8).length = m + 8) := Lib.hid (by rw [List.length_append, codeL_length, hbl.out])
      replace hown2 := Lib.hid hown2
      clear hap HA
      go_wp2_with fail
      go_roundw
      case rel => exact ⟨A2, c9, k + 1, m + 8, bs ++ codeL o x 8, rfl, by go_num, by omega, by omega, hbl2, hbe2, hown2, hB2⟩
      case measure => simp [intOf]; omega
    · have hfin : unpL o L = bs := by
        rw [hbe.out, List.drop_eq_nil_of_le (by rw [HN.out]; omega)]
        simp [unpL]
      have hO2 := hO.out
      have hcv := run_convert_own (n := m) elemByte Tryz.underlying5 Tryz.underlying9 bs (by rw [hbl.out]; exact hO2) hbl.out
      have hnk : ¬ (k : Int) < n := by omega
      replace hfin := Lib.hid hfin
      clear hO2
      go_wp2_with fail
      go_ret
      exact ⟨by rw [hfin.out]; rfl, hB.out⟩

/-- The index in a reading's box: for the loop's measure. -/
def atOf (w : World) (G : Nat) : Nat := match w.cell? ⟨G, 9, none⟩ with
  | some (.int _ n) => n.toNat
  | _ => 0

theorem atOf_cell {w : World} {G p : Nat} (h : w.cell? ⟨G, 9, none⟩ = some (.int .i64 (p : Int))) : atOf w G = p := by
  unfold atOf; rw [h]; exact Int.toNat_natCast p

/-- What is read on from a state is what is read from the beginning. -/
structure RdS (k : Kn) (Bt : List UInt8) (k' : Kn) (p : Nat) (acc : List Nat) (ds : List UInt8) (f : Nat) : Prop where
  val : k'.Valid
  like : k.Like k'
  run : unF Bt 3100 k 0 0 [] = unF Bt (f + 1) k' p ds.length acc
  cnt : acc.length + (f + 1) = 3100
  len : ds.length ≤ 2000
  dat : ∀ xs, k.data (acc ++ xs) = ds ++ k'.data xs

theorem RdS.start {k : Kn} (h : k.Valid) (Bt : List UInt8) : RdS k Bt k 0 [] [] 3099 := ⟨h, Kn.Like.refl k, rfl, rfl, Nat.zero_le _, fun xs => rfl⟩

/-- A code more. -/
theorem RdS.step {k : Kn} {Bt : List UInt8} {k' : Kn} {p f : Nat} {acc : List Nat} {ds : List UInt8} (h : RdS k Bt k' p acc ds (f + 1)) (h1 : p + k'.width ≤ Bt.length) (hg : k'.goes (k'.peek Bt p)) (hl : ds.length + (if k'.peek Bt p = k'.clear then 0 else (k'.any (k'.peek Bt p)).length) ≤ 2000) :
    RdS k Bt (k'.step (k'.peek Bt p)) (p + k'.width) (acc ++ [k'.peek Bt p]) (ds ++ (if k'.peek Bt p = k'.clear then [] else k'.any (k'.peek Bt p))) f := by
  obtain ⟨x, hx⟩ : ∃ x, k'.peek Bt p = x := ⟨_, rfl⟩
  rw [hx] at hg hl ⊢
  have hne : x ≠ k'.fin := by
    rcases hg with h2 | h2
    · have := k'.fin_eq; omega
    · exact Kn.can_ne_fin h.val h2
  have hno : ¬ (x ≠ k'.clear ∧ ¬ k'.can x) := fun h2 => by
    rcases hg with h3 | h3
    · exact h2.1 h3
    · exact h2.2 h3
  refine ⟨Kn.step_valid h.val hg, h.like.trans (k'.like_step x), ?_, by rw [List.length_append]; have := h.cnt; simp; omega, ?_, fun xs => ?_⟩
  · rw [h.run, unF, hx, if_neg (by omega), if_neg hne, if_neg hno, if_neg (by omega), List.length_append]
    congr 1
    split <;> simp
  · rw [List.length_append]
    split <;> rename_i h2
    · have := h.len; simp; omega
    · rw [if_neg h2] at hl; exact hl
  · rw [List.append_assoc, h.dat]
    show ds ++ (if x = k'.fin then [] else (if x = k'.clear then [] else k'.any x) ++ (k'.step x).data xs) = _
    rw [if_neg hne, List.append_assoc]

/-- Too many codes. -/
theorem RdS.full {k : Kn} {Bt : List UInt8} {k' : Kn} {p : Nat} {acc : List Nat} {ds : List UInt8} (h : RdS k Bt k' p acc ds 0) (h1 : p + k'.width ≤ Bt.length) (hg : k'.goes (k'.peek Bt p)) (hl : ds.length + (if k'.peek Bt p = k'.clear then 0 else (k'.any (k'.peek Bt p)).length) ≤ 2000) :
    unF Bt 3100 k 0 0 [] = ⟨acc ++ [k'.peek Bt p], 3, p + k'.width⟩ ∧ k.data (acc ++ [k'.peek Bt p]) = ds ++ (if k'.peek Bt p = k'.clear then [] else k'.any (k'.peek Bt p)) := by
  obtain ⟨x, hx⟩ : ∃ x, k'.peek Bt p = x := ⟨_, rfl⟩
  rw [hx] at hg hl ⊢
  have hne : x ≠ k'.fin := by
    rcases hg with h2 | h2
    · have := k'.fin_eq; omega
    · exact Kn.can_ne_fin h.val h2
  have hno : ¬ (x ≠ k'.clear ∧ ¬ k'.can x) := fun h2 => by
    rcases hg with h3 | h3
    · exact h2.1 h3
    · exact h2.2 h3
  refine ⟨?_, ?_⟩
  · rw [h.run, unF, hx, if_neg (by omega), if_neg hne, if_neg hno, if_neg (by omega)]; rfl
  · rw [h.dat]
    show ds ++ (if x = k'.fin then [] else (if x = k'.clear then [] else k'.any x) ++ (k'.step x).data []) = _
    rw [if_neg hne]
    show ds ++ (_ ++ []) = _
    rw [List.append_nil]

theorem RdS.here {k : Kn} {Bt : List UInt8} {k' : Kn} {p f : Nat} {acc : List Nat} {ds : List UInt8} (h : RdS k Bt k' p acc ds f) : k.data acc = ds := by
  have := h.dat []
  rw [List.append_nil] at this
  rw [this]
  show ds ++ [] = ds
  rw [List.append_nil]

/-- The reading is over: what is returned. -/
theorem RdM.post {k : Kn} {kv : List Value} {w0 : World} {H G : Nat} {k' : Kn} {A : Option Addr} {c : Nat} {cs : List Nat} {ds : List UInt8} {A1 A2 : Option Addr} {n1 c1 n2 c2 fin p : Nat} {w : World} {u : Un}
    (h : RdM k kv w0 H G k' A c cs ds (.slice A1 n1 c1) (.slice A2 n2 c2) fin p w) (hH : H = w0.heap.size) (hu : u = ⟨cs, fin, p⟩) (hd : k.data cs = ds) (hn1 : cs.length = n1) (hn2 : ds.length = n2) {w' : World} (hk : Keep (fun g => g = H + 1) w w') :
    RdPost k u w0 (.returned (.agg #[.int .i64 (k.o : Int), .int .i64 (k.l : Int), .int .i64 (k.m : Int), .slice A k'.ps.length c, .int .i64 (k.base : Int), .int .i64 k'.lastI, .slice A1 n1 c1, .slice A2 n2 c2, .int .i64 (fin : Int), .int .i64 (p : Int)])) w' := by
  subst hu hn1 hn2 hH
  refine ⟨A, k'.ps.length, c, k'.lastI, A1, c1, A2, c2, by rw [hd], own_base (own_keep h.o1 hk (fun g e1 e2 => by have := (h.o1.lt g e1).1; omega)) (by omega), ?_, ?_⟩
  · rw [hd]
    exact own_base (own_keep h.o2 hk (fun g e1 e2 => by have := (h.o2.lt g e1).1; omega)) (by omega)
  · refine h.bel.trans ?_
    exact (hk.below (B := w0.heap.size) (Nat.le_trans (by omega) (Nat.le_of_lt (h.kb.lt))) (fun g e => by omega))

theorem keep10 {w : World} {J : Nat} (u0 u1 u2 u3 u4 u5 u6 u7 u8 u9 : Value) : Keep (fun g => g = J) w ((((((((((w.setCell ⟨J, 0, none⟩ u0).setCell ⟨J, 1, none⟩ u1).setCell ⟨J, 2, none⟩ u2).setCell ⟨J, 3, none⟩ u3).setCell ⟨J, 4, none⟩ u4).setCell ⟨J, 5, none⟩ u5).setCell ⟨J, 6, none⟩ u6).setCell ⟨J, 7, none⟩ u7).setCell ⟨J, 8, none⟩ u8).setCell ⟨J, 9, none⟩ u9) :=
  ((((((((((Keep.refl (fun g => g = J) w).setCell (p := ⟨J, 0, none⟩) rfl u0).setCell (p := ⟨J, 1, none⟩) rfl u1).setCell (p := ⟨J, 2, none⟩) rfl u2).setCell (p := ⟨J, 3, none⟩) rfl u3).setCell (p := ⟨J, 4, none⟩) rfl u4).setCell (p := ⟨J, 5, none⟩) rfl u5).setCell (p := ⟨J, 6, none⟩) rfl u6).setCell (p := ⟨J, 7, none⟩) rfl u7).setCell (p := ⟨J, 8, none⟩) rfl u8).setCell (p := ⟨J, 9, none⟩) rfl u9

end Go.Proofs.YthlgpgaeajfchaaGreatDoor
