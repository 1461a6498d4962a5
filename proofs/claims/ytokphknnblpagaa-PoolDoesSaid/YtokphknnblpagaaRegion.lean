/- A region that draws its order and holds calls that make memory, walked once, in the order of the text: no program in sight. The class of worlds is: all that lie behind one world with new blocks ('Later'). -/
import Derived.BigQuiet
import Derived.Below
namespace Go
open Go.RowKit

/-- A world behind W: below W's heap's size all is as it was. -/
structure Later (W : World) where
  world : World
  below : Below W.heap.size W world

theorem Later.any (W : World) : Nonempty (Later W) := ⟨⟨W, Below.refl _ _⟩⟩
instance laterNonempty (W : World) : Nonempty (Later W) := Later.any W

theorem wp_region_later {P : Program} {id : Nat} {Q : Exit → Act → World → Prop} {a : Act} {w : World} {l : List Oper} (hm : P.follows .mixedOrders = true) (hB : Region.lexB .any l.toArray = true)
    (h : wpQuiet P l.toArray (fun w' => ∃ x : Later w, w' = x.world) (fun a' => ∀ x : Later w, Q .normal a' x.world) l a) : (Code.region id l.toArray true).wp P Q a w := by
  have e : (fun a' => ∀ x : Later w, Q .normal a' x.world) = (fun a' => ∀ w', (∃ x : Later w, w' = x.world) → Q .normal a' w') := by
    funext a'
    exact propext ⟨fun h w' ⟨x, hx⟩ => hx ▸ h x, fun h x => h _ ⟨x, rfl⟩⟩
  rw [e] at h
  exact wp_region_quiet (C := fun w' => ∃ x : Later w, w' = x.world) hm hB ⟨⟨_, (Below.refl _ w).drew⟩, rfl⟩ h

/-- A callee that makes memory alone, met in such a world. -/
theorem Calls.later {P : Program} {f : FuncId} {args : Array Value} {W : World} {x : Later W} {v : Value}
    (h : Calls P f args x.world fun e w' => e = .returned v ∧ Below x.world.heap.size x.world w') : Calls P f args x.world fun e w'' => e = .returned v ∧ ∃ y : Later W, w'' = y.world :=
  h.mono fun _ w' ⟨he, hb⟩ => ⟨he, ⟨w', x.below.trans (hb.mono x.below.size)⟩, rfl⟩

/-- .. and one that leaves the world alone. -/
theorem Calls.later_same {P : Program} {f : FuncId} {args : Array Value} {W : World} {x : Later W} {v : Value}
    (h : Calls P f args x.world fun e w' => e = .returned v ∧ x.world = w') : Calls P f args x.world fun e w'' => e = .returned v ∧ ∃ y : Later W, w'' = y.world :=
  h.mono fun _ _ ⟨he, hb⟩ => ⟨he, x, hb.symm⟩

/-- What was there is there. -/
theorem Later.cell {W : World} (x : Later W) {a : Addr} {v : Value} (h : W.cell? a = some v) : x.world.cell? a = some v :=
  (x.below.cell (World.block_lt_of_cell? W a h)).trans h

/-- What the walk is told of a slice of integers that came in: it is nil; or it leads to a row of 'cap' cells, the numbers 'zs' (the first 'len' are its elements, the rest its spare room), each fitting its kind. -/
def IsRow (k : IntKind) (w : World) (a : Option Addr) (len cap : Nat) (zs : List Int) : Prop :=
  (a = none ∧ len = 0 ∧ cap = 0 ∧ zs = []) ∨
  ∃ x, a = some x ∧ len ≤ cap ∧ cap ≤ maxLen ∧ zs.length = cap ∧ (∀ i, i < zs.length → w.cell? (x.add i) = some (.int k (zs.getD i 0))) ∧ ∀ n ∈ zs, (Lit.int k n).wf = true

end Go
