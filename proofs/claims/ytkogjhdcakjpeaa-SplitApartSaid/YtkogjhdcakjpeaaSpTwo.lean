/- A law's own memory: two boxes of parts. -/
import Derived.Test.YtkogjhdcakjpeaaSpLaw
import Derived.Test.YtkogjhdcakjpeaaSpLawPlain
namespace Go.Proofs.Ytkogjhdcakjpeaa
open Go.RowKit Go.Shelf

/-- Four stores into a box of a part. -/
def put4 (W : World) (b : Nat) (x y z u : Value) : World := (((W.setCell ⟨b, 0, none⟩ x).setCell ⟨b, 1, none⟩ y).setCell ⟨b, 2, none⟩ z).setCell ⟨b, 3, none⟩ u
theorem put4_at {W : World} {b : Nat} {x0 x1 x2 x3 : Value} {t : TypeId} (h : W.heap[b]? = some (.cells #[x0, x1, x2, x3] t (0, 0))) (x y z u : Value) : (put4 W b x y z u).heap[b]? = some (.cells #[x, y, z, u] t (0, 0)) := by
  have h1 := setCell_heap h 0 x
  have h2 := setCell_heap h1 1 y
  have h3 := setCell_heap h2 2 z
  exact setCell_heap h3 3 u
theorem put4_other {W : World} {b k : Nat} (h : k ≠ b) (x y z u : Value) : (put4 W b x y z u).heap[k]? = W.heap[k]? := by
  unfold put4
  rw [Below.heap_setCell _ _ _ _ h, Below.heap_setCell _ _ _ _ h, Below.heap_setCell _ _ _ _ h, Below.heap_setCell _ _ _ _ h]
theorem put4_size {W : World} {b : Nat} (x y z u : Value) : (put4 W b x y z u).heap.size = W.heap.size := by simp [put4, World.setCell]
theorem put4_below {B b : Nat} {w W : World} (h : Below B w W) (hb : B ≤ b) (x y z u : Value) : Below B w (put4 W b x y z u) :=
  (((h.setCell (p := ⟨b, 0, none⟩) hb _).setCell (p := ⟨b, 1, none⟩) hb _).setCell (p := ⟨b, 2, none⟩) hb _).setCell (p := ⟨b, 3, none⟩) hb _

structure Box (w : World) (k : Nat) (x y z u : Value) (W : World) : Prop where
  ge : w.heap.size ≤ k
  at_ : W.heap[k]? = some (.cells #[x, y, z, u] 26 (0, 0))
theorem Box.later {w W W' : World} {k : Nat} {x y z u : Value} (h : Box w k x y z u W) (hb : Below W.heap.size W W') : Box w k x y z u W' := ⟨h.ge, (hb.block _ (lt_of_block h.at_)).trans h.at_⟩
theorem Box.cells {w W : World} {k : Nat} {x y z u : Value} (h : Box w k x y z u W) : W.cell? ⟨k, 0, none⟩ = some x ∧ W.cell? ⟨k, 1, none⟩ = some y ∧ W.cell? ⟨k, 2, none⟩ = some z ∧ W.cell? ⟨k, 3, none⟩ = some u ∧
    W.frozen? ⟨k, 0, none⟩ = false ∧ W.frozen? ⟨k, 1, none⟩ = false ∧ W.frozen? ⟨k, 2, none⟩ = false ∧ W.frozen? ⟨k, 3, none⟩ = false := by
  have := h.at_
  simp [World.cell?, World.frozen?, this]
theorem Box.put {w W : World} {k : Nat} {x y z u : Value} (h : Box w k x y z u W) (x' y' z' u' : Value) : Box w k x' y' z' u' (put4 W k x' y' z' u') := ⟨h.ge, put4_at h.at_ _ _ _ _⟩
theorem Box.other {w W : World} {k j : Nat} {x y z u : Value} (h : Box w k x y z u W) (hj : k ≠ j) (x' y' z' u' : Value) : Box w k x y z u (put4 W j x' y' z' u') := ⟨h.ge, (put4_other hj _ _ _ _).trans h.at_⟩
theorem Box.made {w W : World} (hb : w.heap.size ≤ W.heap.size) (x y z u : Value) : Box w W.heap.size x y z u (W.alloc (.cells #[x, y, z, u] 26)) := ⟨hb, heap_alloc_new _ _⟩

end Go.Proofs.Ytkogjhdcakjpeaa
