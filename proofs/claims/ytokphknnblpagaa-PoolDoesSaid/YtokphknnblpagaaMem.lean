/- A law's own memory: the blocks that are known of it. No program in sight. -/
import Derived.Test.YtokphknnblpagaaRegion
import Derived.WalkKit
namespace Go
open Go.RowKit

/-- What a row of cells holds, from a place on. -/
def CellsAt (W : World) (b : Nat) : Nat → List Value → Prop
  | _, [] => True
  | i, v :: vs => W.cell? ⟨b, i, none⟩ = some v ∧ W.frozen? ⟨b, i, none⟩ = false ∧ CellsAt W b (i + 1) vs

/-- What known blocks hold. -/
def AllCells (W : World) : List (Nat × Obj) → Prop
  | [] => True
  | (k, .cells cs _ (0, 0)) :: L => CellsAt W k 0 cs.toList ∧ AllCells W L
  | _ :: L => AllCells W L

/-- Below w's heap's size all is as it was; and these blocks are known. -/
structure Mem (w : World) (L : List (Nat × Obj)) (W : World) : Prop where
  bel : Below w.heap.size w W
  blk : ∀ p ∈ L, W.heap[p.1]? = some p.2

theorem Mem.start (w : World) : Mem w [] w := ⟨Below.refl _ _, fun _ h => absurd h (by simp)⟩
theorem Mem.later {w W W' : World} {L : List (Nat × Obj)} (h : Mem w L W) (hb : Below W.heap.size W W') : Mem w L W' :=
  ⟨h.bel.trans (hb.mono h.bel.size), fun p hp => (hb.block _ (lt_of_block (h.blk p hp))).trans (h.blk p hp)⟩
theorem Mem.alloc {w W : World} {L : List (Nat × Obj)} (h : Mem w L W) (o : Obj) : Mem w ((W.heap.size, o) :: L) (W.alloc o) :=
  ⟨h.bel.alloc h.bel.size o, fun p hp => by
    rcases List.mem_cons.1 hp with rfl | hp
    · exact heap_alloc_new _ _
    · exact (Below.heap_alloc _ _ _ (lt_of_block (h.blk p hp))).trans (h.blk p hp)⟩
theorem Mem.with {w W : World} {L : List (Nat × Obj)} (h : Mem w L W) {k : Nat} {o : Obj} (hk : W.heap[k]? = some o) : Mem w ((k, o) :: L) W :=
  ⟨h.bel, fun p hp => by
    rcases List.mem_cons.1 hp with rfl | hp
    · exact hk
    · exact h.blk p hp⟩
theorem Mem.sub {w W : World} {L L' : List (Nat × Obj)} (h : Mem w L W) (hs : ∀ p ∈ L', p ∈ L) : Mem w L' W := ⟨h.bel, fun p hp => h.blk p (hs p hp)⟩
theorem Mem.get {w W : World} {L : List (Nat × Obj)} (h : Mem w L W) (i : Nat) {k : Nat} {o : Obj} (hi : L[i]? = some (k, o)) : W.heap[k]? = some o := h.blk (k, o) (List.mem_of_getElem? hi)
theorem Mem.lt {w W : World} {L : List (Nat × Obj)} (h : Mem w L W) (i : Nat) {k : Nat} {o : Obj} (hi : L[i]? = some (k, o)) : k < W.heap.size := lt_of_block (h.get i hi)
/-- A store into the first one. -/
theorem Mem.set {w W : World} {L : List (Nat × Obj)} {k : Nat} {cs : Array Value} {T : TypeId} (h : Mem w ((k, .cells cs T (0, 0)) :: L) W) (hk : w.heap.size ≤ k) (hL : ∀ p ∈ L, p.1 ≠ k) (i : Nat) (v : Value) :
    Mem w ((k, .cells (cs.setIfInBounds i v) T (0, 0)) :: L) (W.setCell ⟨k, i, none⟩ v) :=
  ⟨h.bel.setCell hk v, fun p hp => by
    rcases List.mem_cons.1 hp with rfl | hp'
    · have := h.blk (k, .cells cs T (0, 0)) (List.mem_cons_self ..)
      simp only [World.setCell, Array.getElem?_modify, if_pos, this]
      simp
    · rw [Below.heap_setCell _ _ _ _ (hL p hp')]
      exact h.blk p (List.mem_cons_of_mem _ hp')⟩

theorem cellsAt_of {W : World} {k : Nat} {cs : Array Value} {T : TypeId} (h : W.heap[k]? = some (.cells cs T (0, 0))) : ∀ (vs : List Value) (i : Nat), (∀ j (hj : j < vs.length), cs[i + j]? = some vs[j]) → CellsAt W k i vs
  | [], _, _ => trivial
  | v :: vs, i, hv => ⟨by have := hv 0 (by simp); simp only [Nat.add_zero, List.getElem_cons_zero] at this; simp only [World.cell?, h, Option.isSome_none, Bool.false_eq_true, if_false, this], by simp [World.frozen?, h], cellsAt_of h vs (i + 1) fun j hj => by
      have := hv (j + 1) (by simpa using hj)
      simpa [Nat.add_assoc, Nat.add_comm 1 j] using this⟩
theorem Mem.rules {w W : World} : ∀ {L : List (Nat × Obj)}, Mem w L W → AllCells W L
  | [], _ => trivial
  | (k, o) :: L, h => by
    have ht : AllCells W L := Mem.rules (h.sub fun p hp => List.mem_cons_of_mem _ hp)
    have hh := h.blk (k, o) (List.mem_cons_self ..)
    unfold AllCells
    split
    · rename_i heq; cases heq
    · rename_i heq
      simp only [List.cons.injEq, Prod.mk.injEq] at heq
      obtain ⟨⟨rfl, rfl⟩, rfl⟩ := heq
      exact ⟨cellsAt_of hh _ _ fun j hj => by simp at hj ⊢, ht⟩
    · rename_i heq
      obtain ⟨_, rfl⟩ := List.cons.inj heq
      exact ht
/-- .. and in every world behind. -/
theorem Mem.rulesL {w W : World} {L : List (Nat × Obj)} (h : Mem w L W) : ∀ x : Later W, AllCells x.world L := fun x => (h.later x.below).rules
theorem Mem.atL {w W : World} {L : List (Nat × Obj)} (h : Mem w L W) (x : Later W) : Mem w L x.world := h.later x.below

end Go
