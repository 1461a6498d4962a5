/- Which blocks may have turned. No program in sight. -/
import Derived.Test.YtokphknnblpagaaMem
import Derived.Maps.RangeWalk
import Derived.WalkKit
namespace Go.Proofs.Ytokphknnblpagaa
open Go.RowKit Go.Maps Go.ChangeMaps

/-- Of what was there, these blocks alone may have turned. -/
structure Turned (S : List Nat) (w w' : World) : Prop where
  os : w'.os = w.os
  tape : w'.tape = w.tape
  output : w'.output = w.output
  size : w.heap.size ≤ w'.heap.size
  block : ∀ i, i < w.heap.size → i ∉ S → w'.heap[i]? = w.heap[i]?

theorem Turned.refl (S : List Nat) (w : World) : Turned S w w := ⟨rfl, rfl, rfl, Nat.le_refl _, fun _ _ _ => rfl⟩
theorem Turned.trans {S S' : List Nat} {a b c : World} (h : Turned S a b) (k : Turned S' b c) (hS : ∀ i ∈ S', i ∈ S ∨ a.heap.size ≤ i) : Turned S a c :=
  ⟨k.os.trans h.os, k.tape.trans h.tape, k.output.trans h.output, Nat.le_trans h.size k.size, fun i hi hn =>
    (k.block i (Nat.lt_of_lt_of_le hi h.size) (fun e => by rcases hS i e with e | e
                                                           · exact hn e
                                                           · omega)).trans (h.block i hi hn)⟩
theorem Turned.below {S : List Nat} {w w' : World} (h : Below w.heap.size w w') : Turned S w w' := ⟨h.os, h.tape, h.output, h.size, fun i hi _ => h.block i hi⟩
theorem Turned.toBelow {S : List Nat} {w w' : World} {B : Nat} (h : Turned S w w') (hS : ∀ i ∈ S, B ≤ i) (hB : B ≤ w.heap.size) : Below B w w' :=
  ⟨h.os, h.tape, h.output, h.size, fun i hi => h.block i (by omega) (fun e => by have := hS i e; omega)⟩
theorem Turned.grown {S : List Nat} {w w' : World} {row : Option Nat} (h : w.grownBy w' row) (hS : ∀ i, row = some i → i ∈ S ∨ w.heap.size ≤ i) : Turned S w w' :=
  ⟨h.os, h.tape, h.output, h.size, fun i hi hn => h.block i hi (fun e => by rcases hS i e.symm with e | e
                                                                            · exact hn e
                                                                            · omega)⟩
theorem Turned.mono {S S' : List Nat} {w w' : World} (h : Turned S w w') (hS : ∀ i ∈ S, i ∈ S') : Turned S' w w' := ⟨h.os, h.tape, h.output, h.size, fun i hi hn => h.block i hi fun e => hn (hS i e)⟩
theorem Turned.setCell {S : List Nat} {w : World} {a : Addr} (ha : a.block ∈ S) (v : Value) : Turned S w (w.setCell a v) :=
  ⟨rfl, rfl, rfl, by simp [World.setCell], fun i _ hn => Below.heap_setCell _ _ _ _ (fun e => hn (e ▸ ha))⟩
/-- A law's memory behind that: of the known blocks those that are none of these stand. -/
theorem Turned.mem {S : List Nat} {w0 w w' : World} {L L' : List (Nat × Obj)} (h : Turned S w w') (hm : Mem w0 L w) (hS : ∀ i ∈ S, w0.heap.size ≤ i) (hL : ∀ p ∈ L', p ∈ L ∧ p.1 ∉ S) : Mem w0 L' w' :=
  ⟨hm.bel.trans (h.toBelow hS hm.bel.size), fun p hp => (h.block _ (lt_of_block (hm.blk p (hL p hp).1)) (hL p hp).2).trans (hm.blk p (hL p hp).1)⟩

end Go.Proofs.Ytokphknnblpagaa
