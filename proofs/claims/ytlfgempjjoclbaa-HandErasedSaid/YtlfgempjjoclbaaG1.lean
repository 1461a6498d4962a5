/- Texts YtlfgempjjoclbaaRet .. YtlfgempjjoclbaaTwoRows, joined. What they prove: the contracts of the functions that the law reaches, and plain law. -/
import Derived.WalkKit
import Derived.Below
import Derived.OpenShut
import Derived.BigQuiet
import Derived.Maps.RangeWalk
import Derived.Test.YtlfgempjjoclbaaRows
import Derived.Maps.Ext
import Derived.Maps.OwnOps
import Derived.Laws.AppendOwn
import Derived.DeepKeys4
import Derived.Lib.Hide
import Derived.LoopTactic
import Derived.Laws.StructEq
import Derived.Laws.Tables
import Derived.KernelRfl
namespace Go.Proofs.Ytlfgempjjoclbaa
open Go.RowKit
theorem ret_bool {a b : Bool} (h : a = b) : Ending.returned (.bool a) = .returned (.bool b) := by rw [h]
theorem ext_trans {a b c : World} (h : Below a.heap.size a b) (k : Below b.heap.size b c) : Below a.heap.size a c := h.trans (k.mono h.size)
theorem mk_size (l : List UInt8) : (⟨l.toArray⟩ : ByteArray).size = l.length := rfl
theorem wf_u64 {n : Int} (h : (Lit.int .u64 n).wf = true) : ∃ m : Nat, n = m ∧ m < 18446744073709551616 := by
  have := bounds_u64 h
  exact ⟨n.toNat, by omega, by omega⟩
end Go.Proofs.Ytlfgempjjoclbaa
namespace Sough
structure Term where
  k : Int
  s : List UInt8
  n : Nat
  a : Int
  b : Int
  c : Int
deriving DecidableEq
def zeroT : Term := ⟨0, [], 0, 0, 0, 0⟩
def partsOf (t : Term) : List Int :=
  if t.k = 3 ∨ t.k = 5 ∨ t.k = 9 then [t.a]
  else if t.k = 4 ∨ t.k = 6 ∨ t.k = 7 ∨ t.k = 8 ∨ t.k = 11 then [t.a, t.b]
  else if t.k = 10 then [t.a, t.b, t.c] else []
def onlyT (t : Term) : Term :=
  ⟨t.k, if t.k = 1 then t.s else [], if t.k = 2 ∨ t.k = 9 ∨ t.k = 10 then t.n else 0, (partsOf t).getD 0 0, (partsOf t).getD 1 0, (partsOf t).getD 2 0⟩
structure Store where
  l : List Term
  most : Nat
deriving DecidableEq
def mayT (t : Term) : Bool := decide (1 ≤ t.k) && decide (t.k < 12) && decide (t = onlyT t) && decide (t.s.length ≤ 1000) && !(decide (t.k = 4) && decide (t.b < t.a))
def Store.may (st : Store) (t : Term) : Bool := mayT t && (partsOf t).all fun p => decide (1 ≤ p) && decide (p ≤ st.l.length)
def Store.find (st : Store) (t : Term) : Option Nat := st.l.findIdx? fun x => decide (x = t)
def Store.put (st : Store) (t : Term) : Store × Nat × Nat :=
  if st.may t = false then (st, 0, 1)
  else match st.find t with
    | some i => (st, i + 1, 0)
    | none => if st.most ≤ st.l.length then (st, 0, 4) else (⟨st.l ++ [t], st.most⟩, st.l.length + 1, 0)
def Store.has (st : Store) (x : Int) : Bool := decide (1 ≤ x) && decide (x ≤ st.l.length)
def Store.at (st : Store) (x : Int) : Term := if st.has x = true then st.l.getD (x.toNat - 1) zeroT else zeroT
structure Term.Wf (t : Term) : Prop where
  k : -9223372036854775808 ≤ t.k ∧ t.k ≤ 9223372036854775807
  a : -9223372036854775808 ≤ t.a ∧ t.a ≤ 9223372036854775807
  b : -9223372036854775808 ≤ t.b ∧ t.b ≤ 9223372036854775807
  c : -9223372036854775808 ≤ t.c ∧ t.c ≤ 9223372036854775807
  n : t.n < 18446744073709551616
  s : t.s.length ≤ 9223372036854775807
structure Store.Ok (st : Store) : Prop where
  most : st.most ≤ 1048576
  len : st.l.length ≤ st.most
  wf : ∀ t ∈ st.l, t.Wf
  may : ∀ i (h : i < st.l.length), (⟨st.l.take i, st.most⟩ : Store).may st.l[i] = true
  each : st.l.Nodup
theorem partsOf_few (t : Term) : (partsOf t).length ≤ 3 := by
  unfold partsOf
  split
  · simp
  · split
    · simp
    · split <;> simp
theorem zeroT_wf : zeroT.Wf := ⟨by decide, by decide, by decide, by decide, by decide, by decide⟩
theorem Store.Ok.put {st : Store} (h : st.Ok) {t : Term} (ht : t.Wf) : (st.put t).1.Ok := by
  unfold Store.put
  split
  · exact h
  · rename_i hm
    split
    · exact h
    · rename_i hf
      split
      · exact h
      · rename_i hl
        have hn : t ∉ st.l := fun hin => by
          have := List.findIdx?_eq_none_iff.1 hf t hin
          simp at this
        refine ⟨h.most, by simp; omega, ?_, ?_, ?_⟩
        · intro u hu
          simp only [List.mem_append, List.mem_singleton] at hu
          rcases hu with hu | rfl
          · exact h.wf u hu
          · exact ht
        · intro i hi
          simp only [List.length_append, List.length_singleton] at hi
          by_cases e : i < st.l.length
          · have := h.may i e
            simp only [List.take_append_of_le_length (Nat.le_of_lt e), List.getElem_append_left e]
            exact this
          · obtain rfl : i = st.l.length := by omega
            simp only [List.take_append_of_le_length (Nat.le_refl _), List.take_length]
            simpa using hm
        · simp only
          rw [List.nodup_append]
          refine ⟨h.each, by simp, ?_⟩
          rintro a ha b hb e
          simp only [List.mem_singleton] at hb
          subst hb e
          exact hn ha
end Sough
namespace Go
open Go.RowKit
structure Later (W : World) where
  world : World
  below : Below W.heap.size W world
theorem Later.any (W : World) : Nonempty (Later W) := ⟨⟨W, Below.refl _ _⟩⟩
instance laterNonempty (W : World) : Nonempty (Later W) := Later.any W
theorem wp_region_later {P : Program} {id : Nat} {Q : Exit → Act → World → Prop} {a : Act} {w : World} {l : List Oper} (hm : P.follows .mixedOrders = true) (hB : Region.lexB .any l.toArray = true)
    (h : wpQuiet P l.toArray (fun w' => ∃ x : Later w, w' = x.world) (fun a' => ∀ x : Later w, Q .normal a' x.world) l a) : (Code.region id l.toArray true).wp P Q a w := by
  have e : (fun a' => ∀ x : Later w, Q .normal a' x.world) = (fun a' => ∀ w', (∃ x : Later w, w' = x.world) → Q .normal a' w') := by
    funext a'
    exact propext ⟨fun h w' ⟨x, hx⟩ => hx ▸ h x, fun h x => h _ ⟨x, rfl⟩⟩
  rw [e] at h
  exact wp_region_quiet (C := fun w' => ∃ x : Later w, w' = x.world) hm hB ⟨⟨_, (Below.refl _ w).drew⟩, rfl⟩ h
theorem Calls.later {P : Program} {f : FuncId} {args : Array Value} {W : World} {x : Later W} {v : Value}
    (h : Calls P f args x.world fun e w' => e = .returned v ∧ Below x.world.heap.size x.world w') : Calls P f args x.world fun e w'' => e = .returned v ∧ ∃ y : Later W, w'' = y.world :=
  h.mono fun _ w' ⟨he, hb⟩ => ⟨he, ⟨w', x.below.trans (hb.mono x.below.size)⟩, rfl⟩
theorem Calls.later_same {P : Program} {f : FuncId} {args : Array Value} {W : World} {x : Later W} {v : Value}
    (h : Calls P f args x.world fun e w' => e = .returned v ∧ x.world = w') : Calls P f args x.world fun e w'' => e = .returned v ∧ ∃ y : Later W, w'' = y.world :=
  h.mono fun _ _ ⟨he, hb⟩ => ⟨he, x, hb.symm⟩
theorem Later.cell {W : World} (x : Later W) {a : Addr} {v : Value} (h : W.cell? a = some v) : x.world.cell? a = some v :=
  (x.below.cell (World.block_lt_of_cell? W a h)).trans h
end Go
namespace Go
open Go.RowKit
def CellsAt (W : World) (b : Nat) : Nat → List Value → Prop
  | _, [] => True
  | i, v :: vs => W.cell? ⟨b, i, none⟩ = some v ∧ W.frozen? ⟨b, i, none⟩ = false ∧ CellsAt W b (i + 1) vs
def AllCells (W : World) : List (Nat × Obj) → Prop
  | [] => True
  | (k, .cells cs _ (0, 0)) :: L => CellsAt W k 0 cs.toList ∧ AllCells W L
  | _ :: L => AllCells W L
structure Mem (w : World) (L : List (Nat × Obj)) (W : World) : Prop where
  bel : Below w.heap.size w W
  blk : ∀ p ∈ L, W.heap[p.1]? = some p.2
theorem Mem.start (w : World) : Mem w [] w := ⟨Below.refl _ _, fun _ h => absurd h (by simp)⟩
theorem Mem.later {w W W' : World} {L : List (Nat × Obj)} (h : Mem w L W) (hb : Below W.heap.size W W') : Mem w L W' :=
  ⟨h.bel.trans (hb.mono h.bel.size), fun p hp => (hb.block _ (lt_of_block (h.blk p hp))).trans (h.blk p hp)⟩
theorem Mem.alloc {w W : World} {L : List (Nat × Obj)} (h : Mem w L W) (o : Obj) : Mem w ((W.heap.size, o) :: L) (W.alloc o) :=
  ⟨h.bel.alloc h.bel.size o, fun p hp => by
    rcases List.mem_cons.1 hp with rfl | hp
    · exact heap_alloc_new _ _
    · exact (Below.heap_alloc _ _ _ (lt_of_block (h.blk p hp))).trans (h.blk p hp)⟩
theorem Mem.with {w W : World} {L : List (Nat × Obj)} (h : Mem w L W) {k : Nat} {o : Obj} (hk : W.heap[k]? = some o) : Mem w ((k, o) :: L) W :=
  ⟨h.bel, fun p hp => by
    rcases List.mem_cons.1 hp with rfl | hp
    · exact hk
    · exact h.blk p hp⟩
theorem Mem.sub {w W : World} {L L' : List (Nat × Obj)} (h : Mem w L W) (hs : ∀ p ∈ L', p ∈ L) : Mem w L' W := ⟨h.bel, fun p hp => h.blk p (hs p hp)⟩
theorem Mem.get {w W : World} {L : List (Nat × Obj)} (h : Mem w L W) (i : Nat) {k : Nat} {o : Obj} (hi : L[i]? = some (k, o)) : W.heap[k]? = some o := h.blk (k, o) (List.mem_of_getElem? hi)
theorem Mem.lt {w W : World} {L : List (Nat × Obj)} (h : Mem w L W) (i : Nat) {k : Nat} {o : Obj} (hi : L[i]? = some (k, o)) : k < W.heap.size := lt_of_block (h.get i hi)
theorem Mem.set {w W : World} {L : List (Nat × Obj)} {k : Nat} {cs : Array Value} {T : TypeId} (h : Mem w ((k, .cells cs T (0, 0)) :: L) W) (hk : w.heap.size ≤ k) (hL : ∀ p ∈ L, p.1 ≠ k) (i : Nat) (v : Value) :
    Mem w ((k, .cells (cs.setIfInBounds i v) T (0, 0)) :: L) (W.setCell ⟨k, i, none⟩ v) :=
  ⟨h.bel.setCell hk v, fun p hp => by
    rcases List.mem_cons.1 hp with rfl | hp'
    · have := h.blk (k, .cells cs T (0, 0)) (List.mem_cons_self ..)
      simp only [World.setCell, Array.getElem?_modify, if_pos, this]
      simp
    · rw [Below.heap_setCell _ _ _ _ (hL p hp')]
      exact h.blk p (List.mem_cons_of_mem _ hp')⟩
theorem cellsAt_of {W : World} {k : Nat} {cs : Array Value} {T : TypeId} (h : W.heap[k]? = some (.cells cs T (0, 0))) : ∀ (vs : List Value) (i : Nat), (∀ j (hj : j < vs.length), cs[i + j]? = some vs[j]) → CellsAt W k i vs
  | [], _, _ => trivial
  | v :: vs, i, hv => ⟨by have := hv 0 (by simp); simp only [Nat.add_zero, List.getElem_cons_zero] at this; simp only [World.cell?, h, Option.isSome_none, Bool.false_eq_true, if_false, this], by simp [World.frozen?, h], cellsAt_of h vs (i + 1) fun j hj => by
      have := hv (j + 1) (by simpa using hj)
      simpa [Nat.add_assoc, Nat.add_comm 1 j] using this⟩
theorem Mem.rules {w W : World} : ∀ {L : List (Nat × Obj)}, Mem w L W → AllCells W L
  | [], _ => trivial
  | (k, o) :: L, h => by
    have ht : AllCells W L := Mem.rules (h.sub fun p hp => List.mem_cons_of_mem _ hp)
    have hh := h.blk (k, o) (List.mem_cons_self ..)
    unfold AllCells
    split
    · rename_i heq; cases heq
    · rename_i heq
      simp only [List.cons.injEq, Prod.mk.injEq] at heq
      obtain ⟨⟨rfl, rfl⟩, rfl⟩ := heq
      exact ⟨cellsAt_of hh _ _ fun j hj => by simp at hj ⊢, ht⟩
    · rename_i heq
      obtain ⟨_, rfl⟩ := List.cons.inj heq
      exact ht
theorem Mem.rulesL {w W : World} {L : List (Nat × Obj)} (h : Mem w L W) : ∀ x : Later W, AllCells x.world L := fun x => (h.later x.below).rules
end Go
namespace Go.Proofs.Ytlfgempjjoclbaa
open Go.RowKit Go.Maps Go.ChangeMaps
structure Turned (S : List Nat) (w w' : World) : Prop where
  os : w'.os = w.os
  tape : w'.tape = w.tape
  output : w'.output = w.output
  size : w.heap.size ≤ w'.heap.size
  block : ∀ i, i < w.heap.size → i ∉ S → w'.heap[i]? = w.heap[i]?
theorem Turned.refl (S : List Nat) (w : World) : Turned S w w := ⟨rfl, rfl, rfl, Nat.le_refl _, fun _ _ _ => rfl⟩
theorem Turned.trans {S S' : List Nat} {a b c : World} (h : Turned S a b) (k : Turned S' b c) (hS : ∀ i ∈ S', i ∈ S ∨ a.heap.size ≤ i) : Turned S a c :=
  ⟨k.os.trans h.os, k.tape.trans h.tape, k.output.trans h.output, Nat.le_trans h.size k.size, fun i hi hn =>
    (k.block i (Nat.lt_of_lt_of_le hi h.size) (fun e => by rcases hS i e with e | e
                                                           · exact hn e
                                                           · omega)).trans (h.block i hi hn)⟩
theorem Turned.below {S : List Nat} {w w' : World} (h : Below w.heap.size w w') : Turned S w w' := ⟨h.os, h.tape, h.output, h.size, fun i hi _ => h.block i hi⟩
theorem Turned.toBelow {S : List Nat} {w w' : World} {B : Nat} (h : Turned S w w') (hS : ∀ i ∈ S, B ≤ i) (hB : B ≤ w.heap.size) : Below B w w' :=
  ⟨h.os, h.tape, h.output, h.size, fun i hi => h.block i (by omega) (fun e => by have := hS i e; omega)⟩
theorem Turned.grown {S : List Nat} {w w' : World} {row : Option Nat} (h : w.grownBy w' row) (hS : ∀ i, row = some i → i ∈ S ∨ w.heap.size ≤ i) : Turned S w w' :=
  ⟨h.os, h.tape, h.output, h.size, fun i hi hn => h.block i hi (fun e => by rcases hS i e.symm with e | e
                                                                            · exact hn e
                                                                            · omega)⟩
theorem Turned.mono {S S' : List Nat} {w w' : World} (h : Turned S w w') (hS : ∀ i ∈ S, i ∈ S') : Turned S' w w' := ⟨h.os, h.tape, h.output, h.size, fun i hi hn => h.block i hi fun e => hn (hS i e)⟩
theorem Turned.setCell {S : List Nat} {w : World} {a : Addr} (ha : a.block ∈ S) (v : Value) : Turned S w (w.setCell a v) :=
  ⟨rfl, rfl, rfl, by simp [World.setCell], fun i _ hn => Below.heap_setCell _ _ _ _ (fun e => hn (e ▸ ha))⟩
theorem Turned.mem {S : List Nat} {w0 w w' : World} {L L' : List (Nat × Obj)} (h : Turned S w w') (hm : Mem w0 L w) (hS : ∀ i ∈ S, w0.heap.size ≤ i) (hL : ∀ p ∈ L', p ∈ L ∧ p.1 ∉ S) : Mem w0 L' w' :=
  ⟨hm.bel.trans (h.toBelow hS hm.bel.size), fun p hp => (h.block _ (lt_of_block (hm.blk p (hL p hp).1)) (hL p hp).2).trans (hm.blk p (hL p hp).1)⟩
end Go.Proofs.Ytlfgempjjoclbaa
namespace Go.Proofs.Ytlfgempjjoclbaa
open Go.RowKit Go.Maps Go.ChangeMaps
theorem laidOut0 : laidOutB Try.prog = true := by kernel_rfl
theorem lawT : Keyed Try.prog 76 := Keyed.of_law (deep_law_laid laidOut0 (m := 3) (by omega) (of_decide_eq_true (by kernel_rfl)) (by kernel_rfl) (by kernel_rfl))
def termC (t : Sough.Term) : List Value := [.int .i64 t.k, .string ⟨t.s.toArray⟩, .int .u64 t.n, .int .i64 t.a, .int .i64 t.b, .int .i64 t.c]
noncomputable def keyT (t : Sough.Term) : Lit := (keyOf Try.prog 76 (.agg (termC t).toArray)).getD (.bool false)
theorem litsInt {d : Nat} {T : TypeId} {q : IntKind} {x : Int} (hu : Try.prog.underlying T = some (.int q)) (hw : (Lit.int q x).wf = true) : Try.prog.keyLits (d + 1) T [.int q x] = some [.int q x] := by
  unfold Program.keyLits
  rw [hu]
  simp [hw]
theorem litsStr {d : Nat} {T : TypeId} {s : ByteArray} (hu : Try.prog.underlying T = some .string) (hw : s.size ≤ maxLen) : Try.prog.keyLits (d + 1) T [.string s] = some [.string s.data.toList] := by
  unfold Program.keyLits
  rw [hu]
  simp [hw]
theorem keyOfT {t : Sough.Term} (h : t.Wf) : keyOf Try.prog 76 (.agg (termC t).toArray) = some (keyT t) := by
  have : ∃ l, keyOf Try.prog 76 (.agg (termC t).toArray) = some l := by
    have hu : Try.prog.underlying 76 = some (.struct (Try.prog.fieldsOf 76)) := by kernel_rfl
    have hk : Try.prog.keyType 76 = true := by kernel_rfl
    have hz : Try.prog.cellsOf 76 = 6 := by kernel_rfl
    obtain ⟨d, hd⟩ : ∃ d, Try.prog.types.size + 1 = d + 2 := ⟨Try.prog.types.size - 1, by kernel_rfl⟩
    unfold keyOf
    rw [hu]
    simp only [hk, Value.formed, hu, hz, Bool.true_and]
    rw [hd]
    have c3 : Try.prog.cellsOf 3 = 1 := by kernel_rfl
    have c9 : Try.prog.cellsOf 9 = 1 := by kernel_rfl
    have c8 : Try.prog.cellsOf 32 = 1 := by kernel_rfl
    have hs : (⟨t.s.toArray⟩ : ByteArray).size ≤ maxLen := by rw [mk_size]; exact h.s
    have k1 := litsInt (d := d) Try.underlying3 (WalkArith.wf_i64 (n := t.k) (by have := h.k; omega))
    have k2 := litsStr (d := d) Try.underlying9 hs
    have k3 := litsInt (d := d) Try.underlying32 (WalkArith.wf_u64 (n := (t.n : Int)) (by have := h.n; omega))
    have k4 := litsInt (d := d) Try.underlying3 (WalkArith.wf_i64 (n := t.a) (by have := h.a; omega))
    have k5 := litsInt (d := d) Try.underlying3 (WalkArith.wf_i64 (n := t.b) (by have := h.b; omega))
    have k6 := litsInt (d := d) Try.underlying3 (WalkArith.wf_i64 (n := t.c) (by have := h.c; omega))
    unfold Program.keyLits
    rw [hu]
    simp only [Program.fieldsOf, Try.underlying76, hz]
    simp [termC, Value.cells, c3, c9, c8, k1, k2, k3, k4, k5, k6]
  obtain ⟨l, hl⟩ := this
  unfold keyT
  rw [hl]
  rfl
set_option maxRecDepth 100000 in
theorem isKeyT {t : Sough.Term} (h : t.Wf) : WideAt.IsKeyLit (keyT t) := by
  have h1 := keyOfT h
  exact lawT.key h1
theorem termC_inj {t u : Sough.Term} (h : (Value.agg (termC t).toArray) = .agg (termC u).toArray) : t = u := by
  have h1 : termC t = termC u := by
    have := congrArg (fun v => match v with | Value.agg cs => cs.toList | _ => []) h
    simpa using this
  unfold termC at h1
  simp only [List.cons.injEq, Value.int.injEq, Value.string.injEq, ByteArray.mk.injEq, true_and, and_true] at h1
  obtain ⟨e1, e2, e3, e4, e5, e6⟩ := h1
  obtain ⟨k, s, n, a, b, c⟩ := t
  obtain ⟨k', s', n', a', b', c'⟩ := u
  simp only at e1 e2 e3 e4 e5 e6
  have e2 : s = s' := by simpa using e2
  have e3 : n = n' := by omega
  subst e1 e2 e3 e4 e5 e6
  rfl
theorem keyT_inj {t u : Sough.Term} (ht : t.Wf) (hu : u.Wf) (h : keyT t = keyT u) : t = u :=
  termC_inj (lawT.inj (keyOfT ht) (by rw [h]; exact keyOfT hu))
abbrev mkI (n : Nat) : DataW Unit := .lit (.int .i64 n)
structure NamesTo (D : DataW Unit) (l : List Sough.Term) : Prop where
  tidy : Tidy D
  has : ∀ t, t.Wf → Maps.has D (keyT t) = decide (t ∈ l)
  at_ : ∀ i (h : i < l.length) zd, D.atKey (keyT l[i]) zd = mkI (i + 1)
  size : Maps.size D = l.length
theorem NamesTo.start : NamesTo (.map []) [] := ⟨tidy_empty, fun _ _ => by simp [Maps.has], fun i h => absurd h (by simp), rfl⟩
set_option maxRecDepth 100000 in
theorem NamesTo.put {D : DataW Unit} {l : List Sough.Term} (h : NamesTo D l) {t : Sough.Term} (ht : t.Wf) (hl : ∀ u ∈ l, u.Wf) (hn : t ∉ l) : NamesTo (D.put (keyT t) (mkI (l.length + 1))) (l ++ [t]) := by
  refine ⟨h.tidy.put (isKeyT ht) _, fun u hu => ?_, fun i hi zd => ?_, ?_⟩
  · by_cases e : u = t
    · subst e; rw [has_put_same h.tidy.isMap (isKeyT ht)]; simp
    · rw [has_put_other (fun e' => e (keyT_inj hu ht e')), h.has u hu]
      simp [e]
  · simp only [List.length_append, List.length_singleton] at hi
    by_cases e : i < l.length
    · have hne : l[i] ≠ t := fun e' => hn (e' ▸ List.getElem_mem e)
      rw [List.getElem_append_left e, atKey_put_other (fun e' => hne (keyT_inj (hl _ (List.getElem_mem e)) ht e')), h.at_ i e]
    · obtain rfl : i = l.length := by omega
      rw [List.getElem_append_right (Nat.le_refl _)]
      simp only [Nat.sub_self, List.getElem_cons_zero]
      rw [atKey_put_same h.tidy.isMap (isKeyT ht)]
  · rw [size_put h.tidy, h.has t ht, h.size]
    simp [hn]
def rowT (st : Sough.Store) : List Value := termC Sough.zeroT ++ st.l.flatMap termC
def storeC (lb cap db dcap mb n most : Nat) : Array Value := #[.slice (some ⟨lb, 0, none⟩) n cap, .slice (some ⟨db, 0, none⟩) n dcap, .map (some mb), .int .i64 most]
structure StoreCore (w : World) (p lb cap db dcap mb : Nat) (st : Sough.Store) (ds : List Nat) (D : DataW Unit) : Prop where
  box : w.heap[p]? = some (.cells (storeC lb cap db dcap mb (st.l.length + 1) st.most) 102 (0, 0))
  row : w.ownsRow 0 76 6 (.slice (some ⟨lb, 0, none⟩) (st.l.length + 1) cap) (st.l.length + 1) (rowT st)
  deep : w.ownsRow 0 3 1 (.slice (some ⟨db, 0, none⟩) (st.l.length + 1) dcap) (st.l.length + 1) (ds.map fun d : Nat => Value.int .i64 (d : Int))
  low : ∀ d ∈ ds, d ≤ st.l.length
  map : w.ownsMap Try.prog 76 (plainElem (H := Unit) Try.prog 3) mb st.l.length D
  names : NamesTo D st.l
  apart : [p, lb, db, mb].Nodup
def StoreAt (w : World) (p : Nat) (st : Sough.Store) (S : List Nat) : Prop := ∃ lb cap db dcap mb ds D, StoreCore w p lb cap db dcap mb st ds D ∧ S = [p, lb, db, mb]
theorem ownsRow_block {w : World} {base e size n g cap : Nat} {xs : List Value} (h : w.ownsRow base e size (.slice (some ⟨g, 0, none⟩) n cap) n xs) : ∃ cur, w.heap[g]? = some (.cells cur e (0, 0)) ∧ n ≤ cap ∧ cap ≤ maxLen ∧ cur.size = cap * size ∧ cur.toList.take (n * size) = xs := by
  rcases h.2 with ⟨h1, _⟩ | ⟨g', cap', cur, hv, _, h2, h3, h4, h5, h6⟩
  · cases h1
  · cases hv
    exact ⟨cur, h2, h3, h4, h5, h6⟩
theorem ownsRow_same {w w' : World} {base e size n g cap : Nat} {xs : List Value} (h : w.ownsRow base e size (.slice (some ⟨g, 0, none⟩) n cap) n xs) (e' : w'.heap[g]? = w.heap[g]?) : w'.ownsRow base e size (.slice (some ⟨g, 0, none⟩) n cap) n xs := by
  refine ⟨h.1, ?_⟩
  rcases h.2 with ⟨h1, _⟩ | ⟨g', cap', cur, hv, hb, h2, r⟩
  · cases h1
  · cases hv
    exact .inr ⟨g, cap, cur, rfl, hb, e'.trans h2, r⟩
theorem ownsRow_cell {w : World} {base e size n g cap : Nat} {xs : List Value} (h : w.ownsRow base e size (.slice (some ⟨g, 0, none⟩) n cap) n xs) {i : Nat} {v : Value} (hi : xs[i]? = some v) : w.cell? ⟨g, i, none⟩ = some v := by
  obtain ⟨cur, h1, _, _, _, h5⟩ := ownsRow_block h
  have : cur[i]? = some v := by
    rw [← h5] at hi
    have hlt : i < n * size := by
      have := (List.getElem?_eq_some_iff.1 hi).1
      rw [List.length_take] at this
      omega
    rw [List.getElem?_take_of_lt hlt] at hi
    simpa using hi
  simp [World.cell?, h1, this]
theorem StoreCore.lt {w : World} {p lb cap db dcap mb : Nat} {st : Sough.Store} {ds : List Nat} {D : DataW Unit} (h : StoreCore w p lb cap db dcap mb st ds D) : ∀ i ∈ [p, lb, db, mb], i < w.heap.size := by
  intro i hi
  simp only [List.mem_cons, List.not_mem_nil, or_false] at hi
  rcases hi with rfl | rfl | rfl | rfl
  · exact lt_of_block h.box
  · obtain ⟨cur, h1, _⟩ := ownsRow_block h.row; exact lt_of_block h1
  · obtain ⟨cur, h1, _⟩ := ownsRow_block h.deep; exact lt_of_block h1
  · exact h.map.lt
theorem StoreAt.same {w w' : World} {p : Nat} {st : Sough.Store} {S : List Nat} (h : StoreAt w p st S) (e : ∀ i ∈ S, w'.heap[i]? = w.heap[i]?) : StoreAt w' p st S := by
  obtain ⟨lb, cap, db, dcap, mb, ds, D, hc, rfl⟩ := h
  refine ⟨lb, cap, db, dcap, mb, ds, D, ⟨(e p (by simp)).trans hc.box, ownsRow_same hc.row (e lb (by simp)), ownsRow_same hc.deep (e db (by simp)), hc.low, ?_, hc.names, hc.apart⟩, rfl⟩
  obtain ⟨es, clock, hb, r⟩ := hc.map
  exact ⟨es, clock, (e mb (by simp)).trans hb, r⟩
theorem StoreAt.lt {w : World} {p : Nat} {st : Sough.Store} {S : List Nat} (h : StoreAt w p st S) : ∀ i ∈ S, i < w.heap.size := by
  obtain ⟨lb, cap, db, dcap, mb, ds, D, hc, rfl⟩ := h
  exact hc.lt
theorem StoreAt.later {w w' : World} {p : Nat} {st : Sough.Store} {S : List Nat} (h : StoreAt w p st S) (hb : Below w.heap.size w w') : StoreAt w' p st S := h.same fun i hi => hb.block i (h.lt i hi)
theorem flat6 (i j : Nat) (hj : j < 6) : ∀ (l : List Sough.Term) (h : i < l.length), (l.flatMap termC)[i * 6 + j]? = (termC l[i])[j]? := by
  intro l
  induction l generalizing i with
  | nil => intro h; simp at h
  | cons x l ih =>
    intro h
    rw [List.flatMap_cons]
    cases i with
    | zero => rw [Nat.zero_mul, Nat.zero_add, List.getElem?_append_left (by simpa [termC] using hj)]; rfl
    | succ i =>
      rw [List.getElem?_append_right (by simp [termC]; omega)]
      have : (i + 1) * 6 + j - (termC x).length = i * 6 + j := by simp [termC]; omega
      rw [this, ih i (by simpa using h)]
      rfl
theorem rowT_at {st : Sough.Store} {i j : Nat} (hi : 1 ≤ i) (hl : i ≤ st.l.length) (hj : j < 6) : (rowT st)[i * 6 + j]? = (termC (st.l.getD (i - 1) Sough.zeroT))[j]? := by
  obtain ⟨k, rfl⟩ : ∃ k, i = k + 1 := ⟨i - 1, by omega⟩
  unfold rowT
  rw [List.getElem?_append_right (by simp [termC]; omega)]
  have : (k + 1) * 6 + j - (termC Sough.zeroT).length = k * 6 + j := by simp [termC]; omega
  rw [this, flat6 k j hj st.l (by omega)]
  simp [List.getD_eq_getElem?_getD, List.getElem?_eq_getElem (show k < st.l.length by omega)]
end Go.Proofs.Ytlfgempjjoclbaa
namespace Go
open Go.RowKit
theorem ready_mem {md : Region.Mode} {ops : Array Oper} {listed : Array Bool} {i : Nat} (h : i ∈ Region.ready md ops listed) : i < ops.size ∧ listed.getD i true = false ∧ ∀ o, ops[i]? = some o → (o.after.all fun e => !Region.binds md e || listed.getD e.on false) = true := by
  unfold Region.ready at h
  rw [List.mem_filter] at h
  obtain ⟨h1, h2⟩ := h
  rw [Bool.and_eq_true] at h2
  refine ⟨List.mem_range.1 h1, by simpa using h2.1, fun o ho => ?_⟩
  have := h2.2
  rw [ho] at this
  simpa using this
def openOps (ops : Array Oper) (listed : Array Bool) : List Nat := (List.range ops.size).filter fun i => !listed.getD i true
theorem all_listed {md : Region.Mode} {ops : Array Oper} {listed : Array Bool} (hs : listed.size = ops.size) (hafter : ∀ (i : Nat) (o : Oper), ops[i]? = some o → ∀ e ∈ o.after, Region.binds md e = true → e.on < i) (h : Region.ready md ops listed = []) : ∀ i, i < ops.size → listed.getD i true = true := by
  intro i
  induction i using Nat.strongRecOn with
  | _ i ih =>
    intro hi
    apply Decidable.byContradiction
    intro hn
    have hn' : listed.getD i true = false := by simpa using hn
    have : i ∈ Region.ready md ops listed := by
      unfold Region.ready
      rw [List.mem_filter]
      refine ⟨List.mem_range.2 hi, ?_⟩
      rw [Bool.and_eq_true]
      refine ⟨by simpa using hn', ?_⟩
      have ho : ops[i]? = some ops[i] := Array.getElem?_eq_getElem hi
      rw [ho]
      simp only [Option.map_some, Option.getD_some]
      rw [Array.all_eq_true]
      intro j hj
      by_cases hb : Region.binds md ops[i].after[j] = true
      · have hlt := hafter i ops[i] ho ops[i].after[j] (Array.getElem_mem hj) hb
        have := ih _ hlt (by omega)
        have hgd : listed.getD ops[i].after[j].on false = listed.getD ops[i].after[j].on true := by
          simp only [Array.getD, hs, show ops[i].after[j].on < ops.size by omega, dif_pos]
        rw [hgd, this]; simp
      · have : Region.binds md ops[i].after[j] = false := by simpa using hb
        rw [this]; simp
    rw [h] at this
    simp at this
theorem wp_region_inv {P : Program} {id : Nat} {ops : Array Oper} {Q : Exit → Act → World → Prop} {a : Act} {w : World} (I : (Nat → Bool) → Act → World → Prop) (hm : P.follows .mixedOrders = true)
    (hafter : ∀ (i : Nat) (o : Oper), ops[i]? = some o → ∀ e ∈ o.after, Region.binds .any e = true → e.on < i)
    (h0 : ∀ L, (∀ i, i < ops.size → L i = false) → I L a w.drew)
    (hstep : ∀ (i : Nat) (o : Oper) (L : Nat → Bool) (a : Act) (w : World), ops[i]? = some o → L i = false → (o.after.all fun e => !Region.binds .any e || L e.on) = true → I L a w → wpOp P ops Q i (I (fun j => L j || j == i)) a w)
    (hend : ∀ (L : Nat → Bool) (a : Act) (w : World), (∀ i, i < ops.size → L i = true) → I L a w → Q .normal a w) : (Code.region id ops true).wp P Q a w := by
  refine wp_region_any hm ?_
  have main : ∀ (fuel : Nat) (listed : Array Bool) (a : Act) (w : World), listed.size = ops.size → (openOps ops listed).length ≤ fuel → I (fun j => listed.getD j false) a w → wpAny P .any ops Q fuel listed a w := by
    intro fuel
    induction fuel with
    | zero =>
      intro listed a w hs hc hI
      have hop : openOps ops listed = [] := List.eq_nil_of_length_eq_zero (by omega)
      have hall : ∀ i, i < ops.size → listed.getD i true = true := fun i hi => by
        have := List.filter_eq_nil_iff.1 hop i (List.mem_range.2 hi)
        simpa using this
      refine ⟨?_, hend _ a w (fun i hi => ?_) hI⟩
      · unfold Region.ready
        rw [List.filter_eq_nil_iff]
        intro i hi
        rw [hall i (List.mem_range.1 hi)]
        simp
      · have := hall i hi
        simpa only [Array.getD, hs, hi, dif_pos] using this
    | succ fuel ih =>
      intro listed a w hs hc hI
      refine ⟨fun hr => hend _ a w (fun i hi => ?_) hI, fun i hi => ?_⟩
      · have := all_listed hs hafter hr i hi
        simpa only [Array.getD, hs, hi, dif_pos] using this
      · obtain ⟨h1, h2, h3⟩ := ready_mem hi
        have ho : ops[i]? = some ops[i] := Array.getElem?_eq_getElem h1
        have hli : listed.getD i false = false := by simpa only [Array.getD, hs, h1, dif_pos] using h2
        refine wpOp_mono (fun a' w' hI' => ih (listed.setIfInBounds i true) a' w' (by simpa using hs) ?_ ?_) (hstep i ops[i] _ a w ho hli (h3 _ ho) hI)
        · have hm' : i ∈ openOps ops listed := List.mem_filter.2 ⟨List.mem_range.2 h1, by rw [h2]; rfl⟩
          have hsub : openOps ops (listed.setIfInBounds i true) = (openOps ops listed).filter fun j => !(j == i) := by
            unfold openOps
            rw [List.filter_filter]
            apply List.filter_congr
            intro j hj
            have hj' := List.mem_range.1 hj
            simp only [Array.getD, Array.size_setIfInBounds, hs, hj', dif_pos, Array.getInternal_eq_getElem, Array.getElem_setIfInBounds]
            by_cases e : i = j
            · simp [e]
            · simp [e, Ne.symm e]
          rw [hsub]
          have : ((openOps ops listed).filter fun j => !(j == i)).length < (openOps ops listed).length := List.length_filter_lt_length_iff_exists.2 ⟨i, hm', by simp⟩
          omega
        · have e : (fun j => (listed.setIfInBounds i true).getD j false) = fun j => listed.getD j false || j == i := by
            funext j
            by_cases hj : j < listed.size
            · simp only [Array.getD, Array.size_setIfInBounds, hj, dif_pos, Array.getInternal_eq_getElem, Array.getElem_setIfInBounds]
              by_cases e : i = j
              · simp [e]
              · simp [e, Ne.symm e]
            · have : j ≠ i := by omega
              simp [Array.getD, hj, this]
          rw [e]
          exact hI'
  refine main ops.size _ a _ (by simp) ?_ (h0 _ fun i hi => by simp [Array.getD, hi])
  unfold openOps
  exact Nat.le_trans (List.length_filter_le _ _) (by simp)
end Go
namespace Go
open Go.RowKit Go.Proofs.Ytlfgempjjoclbaa
inductive OpKind where
  | val (f : (Nat → Value) → Value)
  | blk (mk : Nat → Value) (T : TypeId) (z : (Nat → Value) → Array Value) (ks : Nat) (c : (Nat → Value) → Array Value)
  | sto (ka : Nat)
  | res
  | wr
def putAll (a : Act) : Nat → List Oper → (Nat → Value) → Act
  | _, [], _ => a
  | k, o :: r, v => putAll (a.put o.dst (v k)) (k + 1) r v
def waits (o : Oper) : List Nat := (o.after.toList.filter fun e => Region.binds .any e).map (·.on)
def dsts (l : List Oper) : List Nat := l.filterMap (·.dst)
def factsB (l : List Oper) (n : Nat) : Bool :=
  decide (dsts l).Nodup && (dsts l).all (fun s => decide (s < n)) && (l.zipIdx.all fun x => (x.1.after.all fun e => !Region.binds .any e || decide (e.on < x.2)))
section
variable {P : Program} {l : List Oper} {S : List Nat} {w0 : World} {Kd : List OpKind} {Pre : World → Prop} {Post : Nat → Value → List Nat → World → Prop} {Q : Exit → Act → World → Prop} {a0 : Act}
def Known (Kd : List OpKind) (w0 : World) (Post : Nat → Value → List Nat → World → Prop) (W : List Nat) (v : Nat → Value) (x : World) : Prop :=
  ∀ j ∈ W, match Kd[j]? with
    | some (.val f) => v j = f v
    | some (.blk mk T z ks c) => ∃ g, v j = mk g ∧ w0.heap.size ≤ g ∧ (ks ∈ W → x.heap[g]? = some (.cells (c v) T (0, 0))) ∧ (Kd.length ≤ ks → x.heap[g]? = some (.cells (z v) T (0, 0)))
    | some .wr => ∃ FP, Post j (v j) FP x
    | some .res => ∃ FP, Post j (v j) FP x
    | _ => True
def StepFor (P : Program) (l : List Oper) (S : List Nat) (w0 : World) (Kd : List OpKind) (Pre : World → Prop) (Post : Nat → Value → List Nat → World → Prop) (Q : Exit → Act → World → Prop) (a0 : Act) (k : Nat) (o : Oper) : OpKind → Prop
  | .val f => (∀ v v' : Nat → Value, (∀ j ∈ waits o, v j = v' j) → f v = f v') ∧
      ∀ v x, Turned S w0 x → Known Kd w0 Post (waits o) v x → (Region.wanted o (yielded l.toArray (putAll a0 0 l v).tmps) = true ∧ o.wp P (putAll a0 0 l v) x (fun a' y => a' = (putAll a0 0 l v).put o.dst (f v) ∧ Below x.heap.size x y) Q) ∨ (Region.wanted o (yielded l.toArray (putAll a0 0 l v).tmps) = false ∧ f v = undef)
  | .blk mk T z ks _ => (ks < l.length → Kd[ks]? = some (.sto k)) ∧ (∀ v v' : Nat → Value, (∀ j ∈ waits o, v j = v' j) → z v = z v') ∧
      ∀ v x, Turned S w0 x → Known Kd w0 Post (waits o) v x → Region.wanted o (yielded l.toArray (putAll a0 0 l v).tmps) = true ∧ o.wp P (putAll a0 0 l v) x (fun a' y => a' = (putAll a0 0 l v).put o.dst (mk x.heap.size) ∧ y = x.alloc (.cells (z v) T)) Q
  | .sto ka => ka ∈ waits o ∧ o.dst = none ∧ ∃ mk T z c, Kd[ka]? = some (.blk mk T z k c) ∧ (∀ v v' : Nat → Value, (∀ j ∈ waits o, v j = v' j) → c v = c v') ∧
      ∀ v x g, Turned S w0 x → Known Kd w0 Post (waits o) v x → v ka = mk g → w0.heap.size ≤ g → x.heap[g]? = some (.cells (z v) T (0, 0)) →
        Region.wanted o (yielded l.toArray (putAll a0 0 l v).tmps) = true ∧ o.wp P (putAll a0 0 l v) x (fun a' y => a' = putAll a0 0 l v ∧ y.heap[g]? = some (.cells (c v) T (0, 0)) ∧ Turned [g] x y) Q
  | .res => ∀ v x, Turned S w0 x → Known Kd w0 Post (waits o) v x → Region.wanted o (yielded l.toArray (putAll a0 0 l v).tmps) = true ∧
        o.wp P (putAll a0 0 l v) x (fun a' y => ∃ u FP, a' = (putAll a0 0 l v).put o.dst u ∧ Below x.heap.size x y ∧ Post k u FP y ∧ ∀ i ∈ FP, x.heap.size ≤ i ∧ i < y.heap.size) Q
  | .wr => (∀ j, Kd[j]? = some .wr → j = k) ∧
      ∀ v x, Turned S w0 x → Pre x → Known Kd w0 Post (waits o) v x → Region.wanted o (yielded l.toArray (putAll a0 0 l v).tmps) = true ∧ o.wp P (putAll a0 0 l v) x (fun a' y => ∃ u FP, a' = (putAll a0 0 l v).put o.dst u ∧ Turned S x y ∧ Post k u FP y ∧ ∀ i ∈ FP, (i ∈ S ∨ x.heap.size ≤ i) ∧ i < y.heap.size) Q
structure FactsAt (l : List Oper) (S : List Nat) (w0 : World) (Kd : List OpKind) (Pre : World → Prop) (Post : Nat → Value → List Nat → World → Prop) (L : Nat → Bool) (v : Nat → Value) (G : Nat → Nat) (x : World) : Prop where
  tur : Turned S w0 x
  vals : ∀ k f, Kd[k]? = some (.val f) → L k = true → v k = f v
  blks : ∀ k mk T z ks c, Kd[k]? = some (.blk mk T z ks c) → L k = true → v k = mk (G k) ∧ w0.heap.size ≤ G k ∧ G k < x.heap.size ∧ x.heap[G k]? = some (.cells (if L ks = true then c v else z v) T (0, 0))
  apart : ∀ k k' mk T z ks c mk' T' z' ks' c', Kd[k]? = some (.blk mk T z ks c) → Kd[k']? = some (.blk mk' T' z' ks' c') → L k = true → L k' = true → k ≠ k' → G k ≠ G k'
  post : ∀ j, (Kd[j]? = some .wr ∨ Kd[j]? = some .res) → L j = true → ∃ FP, Post j (v j) FP x ∧ (∀ i ∈ FP, i < x.heap.size) ∧ (Kd[j]? = some .res → ∀ i ∈ FP, w0.heap.size ≤ i) ∧ ∀ k mk T z ks c, Kd[k]? = some (.blk mk T z ks c) → L k = true → G k ∉ FP
  pre : ∀ j, Kd[j]? = some .wr → L j = false → Pre x
  back : ∀ k o, l[k]? = some o → L k = true → ∀ j ∈ waits o, L j = true
  few : ∀ k, L k = true → k < l.length
def FactsI (l : List Oper) (S : List Nat) (w0 : World) (Kd : List OpKind) (Pre : World → Prop) (Post : Nat → Value → List Nat → World → Prop) (a0 : Act) (L : Nat → Bool) (a : Act) (x : World) : Prop :=
  ∃ v G, a = putAll a0 0 l v ∧ FactsAt l S w0 Kd Pre Post (fun k => L k && decide (k < l.length)) v G x
theorem put_self (a : Act) (d : Option Tmp) (u : Value) (h : ∀ s, d = some s → u = a.eval (.tmp s)) : a.put d u = a := by
  cases d with
  | none => rfl
  | some s =>
    rw [h s rfl]
    simp only [Act.put, Act.eval]
    congr 1
    apply Array.ext
    · simp
    · intro i h1 h2
      rw [Array.getElem_setIfInBounds (by simpa using h1)]
      split
      · rename_i e; subst e; simp [Array.getD, h2]
      · rfl
theorem put_twice (a : Act) (d : Option Tmp) (u v : Value) : (a.put d v).put d u = a.put d u := by
  cases d with
  | none => rfl
  | some s => simp [Act.put]
theorem put_swap (a : Act) (d e : Option Tmp) (u v : Value) (h : ∀ s, d = some s → e ≠ some s) : (a.put d u).put e v = (a.put e v).put d u := by
  cases d with
  | none => rfl
  | some s =>
    cases e with
    | none => rfl
    | some t =>
      have : s ≠ t := fun e => h s rfl (by rw [e])
      simp only [Act.put]
      rw [Array.setIfInBounds_comm _ _ this]
theorem mem_dsts {l : List Oper} {i : Nat} {o : Oper} {s : Tmp} (ho : l[i]? = some o) (hd : o.dst = some s) : s ∈ dsts l :=
  List.mem_filterMap.2 ⟨o, List.mem_of_getElem? ho, hd⟩
theorem putAll_far (d : Option Tmp) (u : Value) : ∀ (l : List Oper) (k : Nat) (a : Act) (v : Nat → Value), (∀ s, d = some s → s ∉ dsts l) → (putAll a k l v).put d u = putAll (a.put d u) k l v
  | [], _, _, _, _ => rfl
  | o :: r, k, a, v, h => by
    unfold putAll
    have hr : ∀ s, d = some s → s ∉ dsts r := fun s hs hm => h s hs (by
      unfold dsts at hm ⊢
      rw [List.filterMap_cons]
      split
      · exact hm
      · exact List.mem_cons_of_mem _ hm)
    rw [putAll_far d u r (k + 1) _ v hr, put_swap a o.dst d (v k) u (fun s hs e => h s e (mem_dsts (i := 0) rfl hs))]
theorem putAll_put (u : Value) : ∀ (l : List Oper) (k i : Nat) (a : Act) (v : Nat → Value) (o : Oper), (dsts l).Nodup → l[i]? = some o → (putAll a k l v).put o.dst u = putAll a k l (fun j => if j = k + i then u else v j)
  | [], _, _, _, _, _, _, h => by simp at h
  | x :: r, k, 0, a, v, o, hn, h => by
    simp only [List.getElem?_cons_zero, Option.some.injEq] at h
    subst h
    unfold putAll
    have hf : ∀ s, x.dst = some s → s ∉ dsts r := fun s hs => by
      unfold dsts at hn
      rw [List.filterMap_cons, hs] at hn
      exact (List.nodup_cons.1 hn).1
    rw [putAll_far x.dst u r (k + 1) _ v hf, put_twice]
    simp only [Nat.add_zero, if_true]
    have : ∀ (r : List Oper) (m : Nat) (b : Act), k < m → putAll b m r v = putAll b m r (fun j => if j = k then u else v j) := by
      intro r
      induction r with
      | nil => intros; rfl
      | cons y r ih =>
        intro m b hm
        unfold putAll
        have e : (fun j => if j = k then u else v j) m = v m := if_neg (by omega)
        rw [e]
        exact ih (m + 1) _ (by omega)
    exact this r (k + 1) _ (by omega)
  | x :: r, k, i + 1, a, v, o, hn, h => by
    simp only [List.getElem?_cons_succ] at h
    unfold putAll
    have hn' : (dsts r).Nodup := by
      unfold dsts at hn ⊢
      rw [List.filterMap_cons] at hn
      split at hn
      · exact hn
      · exact (List.nodup_cons.1 hn).2
    have e : (fun j => if j = k + (i + 1) then u else v j) k = v k := if_neg (by omega)
    rw [putAll_put u r (k + 1) i _ v o hn' h, e, Nat.add_assoc, Nat.add_comm 1 i]
theorem putAll_self (a : Act) : ∀ (l : List Oper) (k : Nat) (v : Nat → Value), (∀ i o s, l[i]? = some o → o.dst = some s → v (k + i) = a.eval (.tmp s)) → putAll a k l v = a
  | [], _, _, _ => rfl
  | o :: r, k, v, h => by
    unfold putAll
    rw [put_self a o.dst (v k) (fun s hs => h 0 o s rfl hs)]
    exact putAll_self a r (k + 1) v fun i o s ho hs => by
      have := h (i + 1) o s (by simpa using ho) hs
      rwa [Nat.add_assoc, Nat.add_comm 1 i]
theorem FactsAt.known {L : Nat → Bool} {v : Nat → Value} {G : Nat → Nat} {x : World} (h : FactsAt l S w0 Kd Pre Post L v G x) (hK : Kd.length = l.length) {W : List Nat} (hW : ∀ j ∈ W, L j = true) : Known Kd w0 Post W v x := by
  intro j hj
  split
  · rename_i f hk; exact h.vals j f hk (hW j hj)
  · rename_i mk T z ks c hk
    obtain ⟨h1, h2, h3, h4⟩ := h.blks j mk T z ks c hk (hW j hj)
    refine ⟨G j, h1, h2, fun hks => ?_, fun hks => ?_⟩
    · rw [h4, if_pos (hW ks hks)]
    · rw [h4, if_neg]
      intro e
      have := h.few ks e
      omega
  · rename_i hk
    obtain ⟨FP, h1, _⟩ := h.post j (.inl hk) (hW j hj)
    exact ⟨FP, h1⟩
  · rename_i hk
    obtain ⟨FP, h1, _⟩ := h.post j (.inr hk) (hW j hj)
    exact ⟨FP, h1⟩
  · trivial
theorem wpOp_one {ops : Array Oper} {i : Nat} {K : Act → World → Prop} {a : Act} {w : World} {o : Oper} (ho : ops[i]? = some o) (hg : Region.wanted o (yielded ops a.tmps) = true) (h : o.wp P a w K Q) : wpOp P ops Q i K a w := by
  unfold wpOp
  rw [ho]
  simp only [hg, if_true]
  exact .inl h
theorem wpOp_skip {ops : Array Oper} {i : Nat} {K : Act → World → Prop} {a : Act} {w : World} {o : Oper} (ho : ops[i]? = some o) (hg : Region.wanted o (yielded ops a.tmps) = false) (h : K (a.put o.dst undef) w) : wpOp P ops Q i K a w := by
  unfold wpOp
  rw [ho]
  simp only [hg, Bool.false_eq_true, if_false]
  exact h
theorem FactsAt.keep {M : Nat → Bool} {v : Nat → Value} {G : Nat → Nat} {x : World} (h : FactsAt l S w0 Kd Pre Post M v G x)
    (hsteps : ∀ k o K, l[k]? = some o → Kd[k]? = some K → StepFor P l S w0 Kd Pre Post Q a0 k o K) {i : Nat} (hi : M i = false) (u : Value) :
    (∀ k f, Kd[k]? = some (.val f) → M k = true → (fun j => if j = i then u else v j) k = f fun j => if j = i then u else v j) ∧
    ∀ k mk T z ks c, Kd[k]? = some (.blk mk T z ks c) → M k = true → (fun j => if j = i then u else v j) k = mk (G k) ∧
      (M ks = true → c (fun j => if j = i then u else v j) = c v) ∧ (z fun j => if j = i then u else v j) = z v := by
  have hop : ∀ k, M k = true → ∃ o, l[k]? = some o := fun k hk => ⟨_, List.getElem?_eq_getElem (h.few k hk)⟩
  have hne : ∀ k o, l[k]? = some o → M k = true → ∀ j ∈ waits o, v j = (fun j => if j = i then u else v j) j := fun k o ho hk j hj => by
    have := h.back k o ho hk j hj
    have : j ≠ i := fun e => by rw [e, hi] at this; cases this
    simp [this]
  have hki : ∀ k, M k = true → k ≠ i := fun k hk e => by rw [e, hi] at hk; cases hk
  refine ⟨fun k f hf hk => ?_, fun k mk T z ks c hb hk => ?_⟩
  · obtain ⟨o, ho⟩ := hop k hk
    obtain ⟨hd, _⟩ := hsteps k o _ ho hf
    simp only [if_neg (hki k hk)]
    rw [h.vals k f hf hk]
    exact hd _ _ (hne k o ho hk)
  · obtain ⟨o, ho⟩ := hop k hk
    obtain ⟨hks, hd, _⟩ := hsteps k o _ ho hb
    refine ⟨?_, fun hm => ?_, (hd _ _ (hne k o ho hk)).symm⟩
    · simp only [if_neg (hki k hk)]
      exact (h.blks k mk T z ks c hb hk).1
    · obtain ⟨os, hos⟩ := hop ks hm
      obtain ⟨_, _, mk', T', z', c', he, hd', _⟩ := hsteps ks os _ hos (hks (h.few ks hm))
      rw [hb] at he
      cases he
      exact (hd' _ _ (hne ks os hos hm)).symm
theorem wp_region_facts {id n : Nat} (S : List Nat) (Kd : List OpKind) (Pre : World → Prop) (Post : Nat → Value → List Nat → World → Prop) (hm : P.follows .mixedOrders = true) (hB : factsB l n = true) (_hn : a0.tmps.size = n) (hK : Kd.length = l.length)
    (hS : ∀ i ∈ S, i < w0.heap.size) (hpre0 : Pre w0) (hpre : ∀ x y, Pre x → Below w0.heap.size x y → Pre y) (hpost : ∀ j u FP x y, Post j u FP x → (∀ i ∈ FP, y.heap[i]? = x.heap[i]?) → Post j u FP y)
    (hsteps : ∀ k o K, l[k]? = some o → Kd[k]? = some K → StepFor P l S w0 Kd Pre Post Q a0 k o K)
    (hend : ∀ v G x, FactsAt l S w0 Kd Pre Post (fun k => decide (k < l.length)) v G x → Q .normal (putAll a0 0 l v) x) : (Code.region id l.toArray true).wp P Q a0 w0 := by
  unfold factsB at hB
  rw [Bool.and_eq_true, Bool.and_eq_true, decide_eq_true_eq, List.all_eq_true] at hB
  obtain ⟨⟨hnd, _⟩, hB2⟩ := hB
  have hedge : ∀ (i : Nat) (o : Oper), l[i]? = some o → ∀ j ∈ waits o, j < i := fun i o ho => by
    have := List.all_eq_true.1 hB2 (o, i) (by rw [List.mem_zipIdx_iff_getElem?]; exact ho)
    rw [Array.all_eq_true] at this
    intro j hj
    unfold waits at hj
    obtain ⟨e, he, rfl⟩ := List.mem_map.1 hj
    obtain ⟨he1, he2⟩ := List.mem_filter.1 he
    obtain ⟨q, hq, rfl⟩ := Array.getElem_of_mem (Array.mem_toList_iff.1 he1)
    have := this q hq
    simpa [he2] using this
  refine wp_region_inv (FactsI l S w0 Kd Pre Post a0) hm (fun i o ho e he hb => ?_) (fun L hL => ?_) (fun i o L a x ho hLi haft hI => ?_) (fun L a x hL hI => ?_)
  · have ho' : l[i]? = some o := by simpa using ho
    exact hedge i o ho' e.on (List.mem_map.2 ⟨e, List.mem_filter.2 ⟨by simpa using he, hb⟩, rfl⟩)
  · have h0 : ∀ k, (L k && decide (k < l.length)) = true → False := fun k hk => by
      rw [Bool.and_eq_true, decide_eq_true_eq] at hk
      rw [hL k (by simpa using hk.2)] at hk
      cases hk.1
    have hd : Below w0.heap.size w0 w0.drew := (Below.refl _ _).drew
    refine ⟨fun k => match l[k]? with
      | some o => match o.dst with
        | some s => a0.eval (.tmp s)
        | none => undef
      | none => undef, fun _ => 0, ?_, Turned.below hd, fun k f _ hk => (h0 k hk).elim, fun k _ _ _ _ _ _ hk => (h0 k hk).elim, fun k _ _ _ _ _ _ _ _ _ _ _ _ _ hk => (h0 k hk).elim, fun k _ hk => (h0 k hk).elim, fun k _ _ => hpre _ _ hpre0 hd, fun k _ _ hk => (h0 k hk).elim, fun k hk => (h0 k hk).elim⟩
    refine (putAll_self a0 l 0 _ fun i o s ho hs => ?_).symm
    simp only [Nat.zero_add, ho, hs]
  · have ho' : l[i]? = some o := by simpa using ho
    have hil : i < l.length := by
      rcases Nat.lt_or_ge i l.length with h | h
      · exact h
      · rw [List.getElem?_eq_none h] at ho'; cases ho'
    obtain ⟨v, G, rfl, hF⟩ := hI
    have hedge1 := hedge i o ho'
    obtain ⟨M, hM⟩ : ∃ M : Nat → Bool, M = fun k => L k && decide (k < l.length) := ⟨_, rfl⟩
    rw [← hM] at hF
    have hMi : M i = false := by rw [hM]; simp [hLi]
    have hMl : (fun k => (L k || k == i) && decide (k < l.length)) = fun k => M k || k == i := by
      funext k
      rw [hM]
      by_cases e : k = i
      · subst e; simp [hil]
      · have e' : (k == i) = false := by simpa using e
        simp [e']
    have hW : ∀ j ∈ waits o, M j = true := fun j hj => by
      have h1 := hedge1 j hj
      unfold waits at hj
      obtain ⟨e, he, rfl⟩ := List.mem_map.1 hj
      obtain ⟨he1, he2⟩ := List.mem_filter.1 he
      rw [Array.all_eq_true] at haft
      obtain ⟨q, hq, rfl⟩ := Array.getElem_of_mem (Array.mem_toList_iff.1 he1)
      have := haft q hq
      rw [hM]
      have h2 : L o.after[q].on = true := by simpa [he2] using this
      simp [h2]
      omega
    have hkn := hF.known hK hW
    obtain ⟨K, hKi⟩ : ∃ K, Kd[i]? = some K := ⟨_, List.getElem?_eq_getElem (by omega)⟩
    have hst := hsteps i o K ho' hKi
    have hki : ∀ k, M k = true → k ≠ i := fun k hk e => by rw [e, hMi] at hk; cases hk
    have hput : ∀ u, (putAll a0 0 l v).put o.dst u = putAll a0 0 l fun j => if j = i then u else v j := fun u => by
      have := putAll_put u l 0 i a0 v o hnd ho'
      simpa only [Nat.zero_add] using this
    have hM' : ∀ {k}, (M k || k == i) = true → k = i ∨ M k = true := fun {k} h => by
      rw [Bool.or_eq_true] at h
      rcases h with h | h
      · exact .inr h
      · exact .inl (by simpa using h)
    have hback : ∀ k o, l[k]? = some o → (M k || k == i) = true → ∀ j ∈ waits o, (M j || j == i) = true := fun k o2 ho2 hk j hj => by
      rcases hM' hk with e | hk
      · subst e
        rw [ho'] at ho2
        cases ho2
        simp [hW j hj]
      · simp [hF.back k o2 ho2 hk j hj]
    have hfew : ∀ k, (M k || k == i) = true → k < l.length := fun k hk => by
      rcases hM' hk with e | hk
      · rw [e]; exact hil
      · exact hF.few k hk
    have hvi : ∀ u : Value, (fun j => if j = i then u else v j) i = u := fun u => if_pos rfl
    have hwait : ∀ (u : Value), ∀ j ∈ waits o, v j = (fun j => if j = i then u else v j) j := fun u j hj => by
      have : j ≠ i := hki j (hW j hj)
      simp [this]
    cases K with
    | val f =>
      obtain ⟨hdep, hrun⟩ := hst
      have main : ∀ y, Below x.heap.size x y → FactsI l S w0 Kd Pre Post a0 (fun j => L j || j == i) ((putAll a0 0 l v).put o.dst (f v)) y := ?_
      · rcases hrun v x hF.tur hkn with ⟨hg, hr⟩ | ⟨hg, hu⟩
        · refine wpOp_one ho hg (Oper.wp_mono ?_ hr)
          rintro a' y ⟨rfl, hb⟩
          exact main y hb
        · refine wpOp_skip ho hg ?_
          have := main x (Below.refl _ _)
          rwa [hu] at this
      intro y hb
      obtain ⟨k1, k2⟩ := hF.keep hsteps hMi (f v)
      refine ⟨_, G, hput _, ?_⟩
      rw [hMl]
      have hbB : Below w0.heap.size x y := hb.mono hF.tur.size
      refine ⟨hF.tur.trans (Turned.below (S := []) hb) (by simp), fun k f' hk hm' => ?_, fun k mk T z ks c hk hm' => ?_, fun k k' mk T z ks c mk' T' z' ks' c' hk hk' hm1 hm2 => ?_, fun j hj hm' => ?_, fun j hj hm' => ?_, hback, hfew⟩
      · rcases hM' hm' with e | hm'
        · subst e
          rw [hKi] at hk
          cases hk
          rw [if_pos rfl]
          exact hdep _ _ (hwait _)
        · exact k1 k f' hk hm'
      · rcases hM' hm' with e | hm'
        · subst e; rw [hKi] at hk; cases hk
        · obtain ⟨h1, h2, h3⟩ := k2 k mk T z ks c hk hm'
          obtain ⟨_, g2, g3, g4⟩ := hF.blks k mk T z ks c hk hm'
          refine ⟨h1, g2, Nat.lt_of_lt_of_le g3 hb.size, ?_⟩
          rw [hb.block _ g3, g4]
          have hks : (M ks || ks == i) = M ks := by
            by_cases e : ks = i
            · obtain ⟨o2, ho2⟩ : ∃ o2, l[k]? = some o2 := ⟨_, List.getElem?_eq_getElem (hF.few k hm')⟩
              obtain ⟨hs2, _⟩ := hsteps k o2 _ ho2 hk
              have := hs2 (by rw [e]; exact hil)
              rw [e, hKi] at this
              cases this
            · have e' : (ks == i) = false := by simpa using e
              simp [e']
          rw [hks, h3]
          by_cases hm2 : M ks = true
          · rw [if_pos hm2, if_pos hm2, h2 hm2]
          · rw [if_neg hm2, if_neg hm2]
      · rcases hM' hm1 with e | hm1
        · subst e; rw [hKi] at hk; cases hk
        · rcases hM' hm2 with e | hm2
          · subst e; rw [hKi] at hk'; cases hk'
          · exact hF.apart k k' mk T z ks c mk' T' z' ks' c' hk hk' hm1 hm2
      · rcases hM' hm' with e | hm'
        · subst e; rw [hKi] at hj; rcases hj with hj | hj <;> cases hj
        · obtain ⟨FP, p1, p2, p4, p3⟩ := hF.post j hj hm'
          refine ⟨FP, ?_, fun q hq => Nat.lt_of_lt_of_le (p2 q hq) hb.size, p4, fun k mk T z ks c hk hm2 => ?_⟩
          · simp only [if_neg (hki j hm')]
            exact hpost _ _ _ _ _ p1 fun q hq => hb.block q (p2 q hq)
          · rcases hM' hm2 with e | hm2
            · subst e; rw [hKi] at hk; cases hk
            · exact p3 k mk T z ks c hk hm2
      · exact hpre _ _ (hF.pre j hj (by rw [Bool.or_eq_false_iff] at hm'; exact hm'.1)) hbB
    | res =>
      have hrun := hst
      obtain ⟨hg, hr⟩ := hrun v x hF.tur hkn
      refine wpOp_one ho hg (Oper.wp_mono ?_ hr)
      rintro a' y ⟨u, FP0, rfl, hb, hpo, hfp⟩
      obtain ⟨k1, k2⟩ := hF.keep hsteps hMi u
      refine ⟨_, G, hput _, ?_⟩
      rw [hMl]
      have hbB : Below w0.heap.size x y := hb.mono hF.tur.size
      refine ⟨hF.tur.trans (Turned.below (S := []) hb) (by simp), fun k f' hk hm' => ?_, fun k mk T z ks c hk hm' => ?_, fun k k' mk T z ks c mk' T' z' ks' c' hk hk' hm1 hm2 => ?_, fun j hj hm' => ?_, fun j hj hm' => ?_, hback, hfew⟩
      · rcases hM' hm' with e | hm'
        · subst e; rw [hKi] at hk; cases hk
        · exact k1 k f' hk hm'
      · rcases hM' hm' with e | hm'
        · subst e; rw [hKi] at hk; cases hk
        · obtain ⟨h1, h2, h3⟩ := k2 k mk T z ks c hk hm'
          obtain ⟨_, g2, g3, g4⟩ := hF.blks k mk T z ks c hk hm'
          refine ⟨h1, g2, Nat.lt_of_lt_of_le g3 hb.size, ?_⟩
          rw [hb.block _ g3, g4]
          have hks : (M ks || ks == i) = M ks := by
            by_cases e : ks = i
            · obtain ⟨o2, ho2⟩ : ∃ o2, l[k]? = some o2 := ⟨_, List.getElem?_eq_getElem (hF.few k hm')⟩
              obtain ⟨hs2, _⟩ := hsteps k o2 _ ho2 hk
              have := hs2 (by rw [e]; exact hil)
              rw [e, hKi] at this
              cases this
            · have e' : (ks == i) = false := by simpa using e
              simp [e']
          rw [hks, h3]
          by_cases hm2 : M ks = true
          · rw [if_pos hm2, if_pos hm2, h2 hm2]
          · rw [if_neg hm2, if_neg hm2]
      · rcases hM' hm1 with e | hm1
        · subst e; rw [hKi] at hk; cases hk
        · rcases hM' hm2 with e | hm2
          · subst e; rw [hKi] at hk'; cases hk'
          · exact hF.apart k k' mk T z ks c mk' T' z' ks' c' hk hk' hm1 hm2
      · rcases hM' hm' with e | hm'
        · subst e
          refine ⟨FP0, by rw [if_pos rfl]; exact hpo, fun q hq => (hfp q hq).2, fun _ q hq => Nat.le_trans hF.tur.size (hfp q hq).1, fun k mk T z ks c hk hm2 => ?_⟩
          rcases hM' hm2 with e | hm2
          · subst e; rw [hKi] at hk; cases hk
          · have := (hF.blks k mk T z ks c hk hm2).2.2.1
            intro hq
            have := (hfp _ hq).1
            omega
        · obtain ⟨FP, p1, p2, p4, p3⟩ := hF.post j hj hm'
          refine ⟨FP, ?_, fun q hq => Nat.lt_of_lt_of_le (p2 q hq) hb.size, p4, fun k mk T z ks c hk hm2 => ?_⟩
          · simp only [if_neg (hki j hm')]
            exact hpost _ _ _ _ _ p1 fun q hq => hb.block q (p2 q hq)
          · rcases hM' hm2 with e | hm2
            · subst e; rw [hKi] at hk; cases hk
            · exact p3 k mk T z ks c hk hm2
      · exact hpre _ _ (hF.pre j hj (by rw [Bool.or_eq_false_iff] at hm'; exact hm'.1)) hbB
    | blk mk0 T0 z0 ks0 c0 =>
      obtain ⟨hks0, hdep, hrun⟩ := hst
      obtain ⟨hg, hr⟩ := hrun v x hF.tur hkn
      refine wpOp_one ho hg (Oper.wp_mono ?_ hr)
      rintro a' y ⟨rfl, rfl⟩
      obtain ⟨k1, k2⟩ := hF.keep hsteps hMi (mk0 x.heap.size)
      have hb : Below x.heap.size x (x.alloc (.cells (z0 v) T0)) := (Below.refl _ _).alloc (Nat.le_refl _) _
      have hsz : (x.alloc (.cells (z0 v) T0)).heap.size = x.heap.size + 1 := by simp
      refine ⟨_, fun k => if k = i then x.heap.size else G k, hput _, ?_⟩
      rw [hMl]
      have hbB : Below w0.heap.size x (x.alloc (.cells (z0 v) T0)) := hb.mono hF.tur.size
      refine ⟨hF.tur.trans (Turned.below (S := []) hb) (by simp), fun k f' hk hm' => ?_, fun k mk T z ks c hk hm' => ?_, fun k k' mk T z ks c mk' T' z' ks' c' hk hk' hm1 hm2 hne => ?_, fun j hj hm' => ?_, fun j hj hm' => ?_, hback, hfew⟩
      · rcases hM' hm' with e | hm'
        · subst e; rw [hKi] at hk; cases hk
        · exact k1 k f' hk hm'
      · rcases hM' hm' with e | hm'
        · subst e
          rw [hKi] at hk
          cases hk
          refine ⟨by rw [if_pos rfl, if_pos rfl], by simp only [if_pos]; exact hF.tur.size, by simp, ?_⟩
          simp only [if_pos]
          have hks : (M ks0 || ks0 == k) = false := by
            by_cases hlt : ks0 < l.length
            · have h1 := hks0 hlt
              obtain ⟨o2, ho2⟩ : ∃ o2, l[ks0]? = some o2 := ⟨_, List.getElem?_eq_getElem hlt⟩
              obtain ⟨h2, _⟩ := hsteps ks0 o2 _ ho2 h1
              rw [Bool.or_eq_false_iff]
              refine ⟨?_, ?_⟩
              · cases hm : M ks0
                · rfl
                · have := hF.back ks0 o2 ho2 hm k h2; rw [hMi] at this; cases this
              · have : ks0 ≠ k := fun e => by rw [e, hKi] at h1; cases h1
                simpa using this
            · rw [Bool.or_eq_false_iff]
              refine ⟨?_, ?_⟩
              · cases hm : M ks0
                · rfl
                · exact absurd (hF.few ks0 hm) hlt
              · have : ks0 ≠ k := fun e => by rw [e] at hlt; exact hlt hil
                simpa using this
          rw [hks, if_neg (by simp), heap_alloc_new, ← hdep _ _ (hwait _)]
        · obtain ⟨h1, h2, h3⟩ := k2 k mk T z ks c hk hm'
          obtain ⟨_, g2, g3, g4⟩ := hF.blks k mk T z ks c hk hm'
          simp only [if_neg (hki k hm')] at h1 ⊢
          refine ⟨h1, g2, by rw [hsz]; omega, ?_⟩
          rw [hb.block _ g3, g4]
          have hks : (M ks || ks == i) = M ks := by
            by_cases e : ks = i
            · obtain ⟨o2, ho2⟩ : ∃ o2, l[k]? = some o2 := ⟨_, List.getElem?_eq_getElem (hF.few k hm')⟩
              obtain ⟨hs2, _⟩ := hsteps k o2 _ ho2 hk
              have := hs2 (by rw [e]; exact hil)
              rw [e, hKi] at this
              cases this
            · have e' : (ks == i) = false := by simpa using e
              simp [e']
          rw [hks, h3]
          by_cases hm2 : M ks = true
          · rw [if_pos hm2, if_pos hm2, h2 hm2]
          · rw [if_neg hm2, if_neg hm2]
      · rcases hM' hm1 with e | hm1
        · subst e
          rcases hM' hm2 with e | hm2
          · exact absurd e.symm hne
          · have := (hF.blks k' mk' T' z' ks' c' hk' hm2).2.2.1
            simp only [if_pos, if_neg (Ne.symm hne)]
            omega
        · rcases hM' hm2 with e | hm2
          · have := (hF.blks k mk T z ks c hk hm1).2.2.1
            subst e
            simp only [if_pos, if_neg hne]
            omega
          · simp only [if_neg (hki k hm1), if_neg (hki k' hm2)]
            exact hF.apart k k' mk T z ks c mk' T' z' ks' c' hk hk' hm1 hm2 hne
      · rcases hM' hm' with e | hm'
        · subst e; rw [hKi] at hj; rcases hj with hj | hj <;> cases hj
        · obtain ⟨FP, p1, p2, p4, p3⟩ := hF.post j hj hm'
          refine ⟨FP, ?_, fun q hq => by have := p2 q hq; rw [hsz]; omega, p4, fun k mk T z ks c hk hm2 => ?_⟩
          · simp only [if_neg (hki j hm')]
            exact hpost _ _ _ _ _ p1 fun q hq => hb.block q (p2 q hq)
          · rcases hM' hm2 with e | hm2
            · subst e
              simp only [if_pos]
              intro hq
              have := p2 _ hq
              omega
            · simp only [if_neg (hki k hm2)]
              exact p3 k mk T z ks c hk hm2
      · exact hpre _ _ (hF.pre j hj (by rw [Bool.or_eq_false_iff] at hm'; exact hm'.1)) hbB
    | sto ka =>
      obtain ⟨hka, hdn, mk0, T0, z0, c0, hkb, hdep, hrun⟩ := hst
      obtain ⟨b1, b2, b3, b4⟩ := hF.blks ka mk0 T0 z0 i c0 hkb (hW ka hka)
      rw [hMi, if_neg (by simp)] at b4
      obtain ⟨hg, hr⟩ := hrun v x (G ka) hF.tur hkn b1 b2 b4
      refine wpOp_one ho hg (Oper.wp_mono ?_ hr)
      rintro a' y ⟨rfl, hc, htu⟩
      obtain ⟨k1, k2⟩ := hF.keep hsteps hMi undef
      have hbB : Below w0.heap.size x y := htu.toBelow (by simpa using b2) hF.tur.size
      refine ⟨_, G, by rw [← hput undef, hdn]; rfl, ?_⟩
      rw [hMl]
      refine ⟨hF.tur.trans (Turned.below (S := []) (w := x) (w' := x) (Below.refl _ _)) (by simp) |>.trans htu (fun q hq => by simp at hq; subst hq; exact .inr b2), fun k f' hk hm' => ?_, fun k mk T z ks c hk hm' => ?_, fun k k' mk T z ks c mk' T' z' ks' c' hk hk' hm1 hm2 hne => ?_, fun j hj hm' => ?_, fun j hj hm' => ?_, hback, hfew⟩
      · rcases hM' hm' with e | hm'
        · subst e; rw [hKi] at hk; cases hk
        · exact k1 k f' hk hm'
      · rcases hM' hm' with e | hm'
        · subst e; rw [hKi] at hk; cases hk
        · obtain ⟨h1, h2, h3⟩ := k2 k mk T z ks c hk hm'
          obtain ⟨_, g2, g3, g4⟩ := hF.blks k mk T z ks c hk hm'
          refine ⟨h1, g2, Nat.lt_of_lt_of_le g3 htu.size, ?_⟩
          by_cases e : k = ka
          · subst e
            rw [hkb] at hk
            cases hk
            rw [hc]
            simp only [beq_self_eq_true, Bool.or_true, if_true]
            rw [← hdep _ _ (hwait undef)]
          · have hge : G k ∉ [G ka] := by
              simp only [List.mem_singleton]
              exact hF.apart k ka mk T z ks c mk0 T0 z0 i c0 hk hkb hm' (hW ka hka) e
            rw [htu.block _ g3 hge, g4]
            have hks : (M ks || ks == i) = M ks := by
              by_cases e2 : ks = i
              · obtain ⟨o2, ho2⟩ : ∃ o2, l[k]? = some o2 := ⟨_, List.getElem?_eq_getElem (hF.few k hm')⟩
                obtain ⟨hs2, _⟩ := hsteps k o2 _ ho2 hk
                have := hs2 (by rw [e2]; exact hil)
                rw [e2, hKi] at this
                cases this
                exact absurd rfl e
              · have e' : (ks == i) = false := by simpa using e2
                simp [e']
            rw [hks, h3]
            by_cases hm2 : M ks = true
            · rw [if_pos hm2, if_pos hm2, h2 hm2]
            · rw [if_neg hm2, if_neg hm2]
      · rcases hM' hm1 with e | hm1
        · subst e; rw [hKi] at hk; cases hk
        · rcases hM' hm2 with e | hm2
          · subst e; rw [hKi] at hk'; cases hk'
          · exact hF.apart k k' mk T z ks c mk' T' z' ks' c' hk hk' hm1 hm2 hne
      · rcases hM' hm' with e | hm'
        · subst e; rw [hKi] at hj; rcases hj with hj | hj <;> cases hj
        · obtain ⟨FP, p1, p2, p4, p3⟩ := hF.post j hj hm'
          refine ⟨FP, ?_, fun q hq => Nat.lt_of_lt_of_le (p2 q hq) htu.size, p4, fun k mk T z ks c hk hm2 => ?_⟩
          · simp only [if_neg (hki j hm')]
            exact hpost _ _ _ _ _ p1 fun q hq => htu.block q (p2 q hq) (by
              simp only [List.mem_singleton]
              intro e
              exact p3 ka mk0 T0 z0 i c0 hkb (hW ka hka) (e ▸ hq))
          · rcases hM' hm2 with e | hm2
            · subst e; rw [hKi] at hk; cases hk
            · exact p3 k mk T z ks c hk hm2
      · exact hpre _ _ (hF.pre j hj (by rw [Bool.or_eq_false_iff] at hm'; exact hm'.1)) hbB
    | wr =>
      obtain ⟨honly, hrun⟩ := hst
      obtain ⟨hg, hr⟩ := hrun v x hF.tur (hF.pre i hKi hMi) hkn
      refine wpOp_one ho hg (Oper.wp_mono ?_ hr)
      rintro a' y ⟨u, FP, rfl, htu, hpo, hfp⟩
      obtain ⟨k1, k2⟩ := hF.keep hsteps hMi u
      have hGS : ∀ q, w0.heap.size ≤ q → q ∉ S := fun q hq hs => by have := hS q hs; omega
      refine ⟨_, G, hput _, ?_⟩
      rw [hMl]
      refine ⟨hF.tur.trans htu (fun q hq => .inl hq), fun k f' hk hm' => ?_, fun k mk T z ks c hk hm' => ?_, fun k k' mk T z ks c mk' T' z' ks' c' hk hk' hm1 hm2 hne => ?_, fun j hj hm' => ?_, fun j hj hm' => ?_, hback, hfew⟩
      · rcases hM' hm' with e | hm'
        · subst e; rw [hKi] at hk; cases hk
        · exact k1 k f' hk hm'
      · rcases hM' hm' with e | hm'
        · subst e; rw [hKi] at hk; cases hk
        · obtain ⟨h1, h2, h3⟩ := k2 k mk T z ks c hk hm'
          obtain ⟨_, g2, g3, g4⟩ := hF.blks k mk T z ks c hk hm'
          refine ⟨h1, g2, Nat.lt_of_lt_of_le g3 htu.size, ?_⟩
          rw [htu.block _ g3 (hGS _ g2), g4]
          have hks : (M ks || ks == i) = M ks := by
            by_cases e : ks = i
            · obtain ⟨o2, ho2⟩ : ∃ o2, l[k]? = some o2 := ⟨_, List.getElem?_eq_getElem (hF.few k hm')⟩
              obtain ⟨hs2, _⟩ := hsteps k o2 _ ho2 hk
              have := hs2 (by rw [e]; exact hil)
              rw [e, hKi] at this
              cases this
            · have e' : (ks == i) = false := by simpa using e
              simp [e']
          rw [hks, h3]
          by_cases hm2 : M ks = true
          · rw [if_pos hm2, if_pos hm2, h2 hm2]
          · rw [if_neg hm2, if_neg hm2]
      · rcases hM' hm1 with e | hm1
        · subst e; rw [hKi] at hk; cases hk
        · rcases hM' hm2 with e | hm2
          · subst e; rw [hKi] at hk'; cases hk'
          · exact hF.apart k k' mk T z ks c mk' T' z' ks' c' hk hk' hm1 hm2 hne
      · rcases hj with hj | hj
        · have hji := honly j hj
          subst hji
          refine ⟨FP, by rw [if_pos rfl]; exact hpo, fun q hq => (hfp q hq).2, (fun h => by rw [hj] at h; cases h), fun k mk T z ks c hk hm2 => ?_⟩
          rcases hM' hm2 with e | hm2
          · subst e; rw [hKi] at hk; cases hk
          · obtain ⟨_, g2, g3, _⟩ := hF.blks k mk T z ks c hk hm2
            intro hq
            rcases (hfp _ hq).1 with h | h
            · exact hGS _ g2 h
            · omega
        · rcases hM' hm' with e | hm'
          · subst e; rw [hKi] at hj; cases hj
          · obtain ⟨FP', p1, p2, p4, p3⟩ := hF.post j (.inr hj) hm'
            refine ⟨FP', ?_, fun q hq => Nat.lt_of_lt_of_le (p2 q hq) htu.size, p4, fun k mk T z ks c hk hm2 => ?_⟩
            · simp only [if_neg (hki j hm')]
              exact hpost _ _ _ _ _ p1 fun q hq => htu.block q (p2 q hq) (hGS _ (p4 hj q hq))
            · rcases hM' hm2 with e | hm2
              · subst e; rw [hKi] at hk; cases hk
              · exact p3 k mk T z ks c hk hm2
      · have hji := honly j hj
        subst hji
        rw [Bool.or_eq_false_iff] at hm'
        have := hm'.2
        simp at this
  · obtain ⟨v, G, rfl, hF⟩ := hI
    have e : (fun k => L k && decide (k < l.length)) = fun k => decide (k < l.length) := by
      funext k
      by_cases h : k < l.length
      · rw [hL k (by simpa using h)]; simp
      · simp [h]
    rw [e] at hF
    exact hend v G x hF
def AllSteps (F : Nat → Oper → OpKind → Prop) : Nat → List Oper → List OpKind → Prop
  | k, o :: l, K :: s => F k o K ∧ AllSteps F (k + 1) l s
  | _, _, _ => True
theorem allSteps_of {F : Nat → Oper → OpKind → Prop} : ∀ {l : List Oper} {s : List OpKind} {b : Nat}, AllSteps F b l s → ∀ k o K, l[k]? = some o → s[k]? = some K → F (b + k) o K
  | [], _, _, _, _, _, _, h, _ => by simp at h
  | _ :: _, [], _, _, _, _, _, _, h => by simp at h
  | o :: l, K :: s, b, h, 0, o', K', h1, h2 => by
    simp only [List.getElem?_cons_zero, Option.some.injEq] at h1 h2
    subst h1 h2
    exact h.1
  | o :: l, K :: s, b, h, k + 1, o', K', h1, h2 => by
    have := allSteps_of h.2 k o' K' (by simpa using h1) (by simpa using h2)
    rwa [Nat.add_assoc, Nat.add_comm 1 k] at this
theorem wp_facts {id n : Nat} (S : List Nat) (Kd : List OpKind) (Pre : World → Prop) (Post : Nat → Value → List Nat → World → Prop) (hm : P.follows .mixedOrders = true) (hB : factsB l n = true) (hn : a0.tmps.size = n) (hK : Kd.length = l.length)
    (hS : ∀ i ∈ S, i < w0.heap.size) (hpre0 : Pre w0) (hpre : ∀ x y, Pre x → Below w0.heap.size x y → Pre y) (hpost : ∀ j u FP x y, Post j u FP x → (∀ i ∈ FP, y.heap[i]? = x.heap[i]?) → Post j u FP y)
    (hsteps : AllSteps (StepFor P l S w0 Kd Pre Post Q a0) 0 l Kd)
    (hend : ∀ v G x, FactsAt l S w0 Kd Pre Post (fun k => decide (k < l.length)) v G x → Q .normal (putAll a0 0 l v) x) : (Code.region id l.toArray true).wp P Q a0 w0 :=
  wp_region_facts S Kd Pre Post hm hB hn hK hS hpre0 hpre hpost (fun k o K ho hk => by have := allSteps_of hsteps k o K ho hk; rwa [Nat.zero_add] at this) hend
theorem wanted_none {o : Oper} {ys : Nat → Option Bool} (h : o.guard = none) : Region.wanted o ys = true := by unfold Region.wanted; rw [h]
theorem val_of_quiet {ops : Array Oper} {o : Oper} {a A : Act} {x : World} (hg : o.guard = none) (h : wpQuiet P ops (fun y => ∃ z : Later x, y = z.world) (fun b => b = A) [o] a) :
    o.wp P a x (fun b y => b = A ∧ Below x.heap.size x y) Q := by
  unfold wpQuiet at h
  have hw : Region.wanted o (yielded ops a.tmps) = true := by unfold Region.wanted; rw [hg]
  rw [hw] at h
  simp only [if_true] at h
  refine Oper.wp_of_quiet (C := fun y => ∃ z : Later x, y = z.world) (K := fun b => b = A) ⟨⟨x, Below.refl _ _⟩, rfl⟩ ?_ h
  rintro b y ⟨z, rfl⟩ hb
  exact ⟨hb, z.below⟩
theorem turned_cells {x : World} (h : Turned S w0 x) {p : Addr} {u : Value} (hc : w0.cell? p = some u) (hn : p.block ∉ S) (z : Later x) : z.world.cell? p = some u := by
  have hb := World.block_lt_of_cell? w0 p hc
  have e : z.world.heap[p.block]? = w0.heap[p.block]? := (z.below.block _ (Nat.lt_of_lt_of_le hb h.size)).trans (h.block _ hb hn)
  rw [← hc]
  unfold World.cell?
  rw [e]
end
end Go
namespace Go
open Go.RowKit Go.Proofs.Ytlfgempjjoclbaa
section
variable {P : Program} {Q : Exit → Act → World → Prop}
theorem turned_block {w0 x : World} {S : List Nat} (h : Turned S w0 x) {b : Nat} {o : Obj} (hc : w0.heap[b]? = some o) (hn : b ∉ S) (z : Later x) : z.world.heap[b]? = some o :=
  (z.below.block _ (Nat.lt_of_lt_of_le (lt_of_block hc) h.size)).trans ((h.block _ (lt_of_block hc) hn).trans hc)
def ResK (A : Value → Act) (R : Value → List Nat → World → Prop) (x : World) (a' : Act) (y : World) : Prop := ∃ u FP, a' = A u ∧ Below x.heap.size x y ∧ R u FP y ∧ ∀ i ∈ FP, x.heap.size ≤ i ∧ i < y.heap.size
theorem resK_mk {A : Value → Act} {R : Value → List Nat → World → Prop} {x y : World} {a' : Act} {u : Value} {FP : List Nat} (h1 : a' = A u) (h2 : Below x.heap.size x y) (h3 : R u FP y) (h4 : ∀ i ∈ FP, x.heap.size ≤ i ∧ i < y.heap.size) : ResK A R x a' y := ⟨u, FP, h1, h2, h3, h4⟩
theorem res_of {o : Oper} {a : Act} {R : Value → List Nat → World → Prop} {x : World} (h : o.wp P a x (ResK (fun u => a.put o.dst u) R x) Q) : o.wp P a x (fun a' y => ∃ u FP, a' = a.put o.dst u ∧ Below x.heap.size x y ∧ R u FP y ∧ ∀ i ∈ FP, x.heap.size ≤ i ∧ i < y.heap.size) Q := h
end
end Go
namespace Go.Proofs.Ytlfgempjjoclbaa
open Go.RowKit Go.Maps Go.ChangeMaps
theorem storeCells {w : World} {p lb cap db dcap mb : Nat} {st : Sough.Store} {ds : List Nat} {D : DataW Unit} (h : StoreCore w p lb cap db dcap mb st ds D) :
    (w.cell? ⟨p, 0, none⟩ = some (.slice (some ⟨lb, 0, none⟩) (st.l.length + 1) cap) ∧ w.cell? ⟨p, 1, none⟩ = some (.slice (some ⟨db, 0, none⟩) (st.l.length + 1) dcap) ∧ w.cell? ⟨p, 2, none⟩ = some (.map (some mb)) ∧ w.cell? ⟨p, 3, none⟩ = some (.int .i64 st.most)) ∧
    w.frozen? ⟨p, 0, none⟩ = false ∧ w.frozen? ⟨p, 1, none⟩ = false := by
  have := h.box
  simp [World.cell?, World.frozen?, this, storeC]
set_option maxRecDepth 100000 in
theorem len_any {p : Nat} {st : Sough.Store} {S : List Nat} (w : World) (h : StoreAt w p st S) (hl : st.l.length ≤ 1048576) : Calls Try.prog 15 #[.pointer (some ⟨p, 0, none⟩)] w fun e w' => e = .returned (.int .i64 st.l.length) ∧ w = w' := by
  obtain ⟨lb, cap, db, dcap, mb, ds, D, hc, _⟩ := h
  obtain ⟨⟨c0, _, _, _⟩, _⟩ := storeCells hc
  clear hc
  go_enter Try.func15, Try.ntmps15
  go_wp2_with fail
  go_ret
  exact ⟨by first | rfl | simp, rfl⟩
set_option maxRecDepth 100000 in
set_option maxHeartbeats 1600000 in
theorem get_no {p : Nat} {st : Sough.Store} {S : List Nat} {x : Int} (w : World) (h : StoreAt w p st S) (hl : st.l.length ≤ 1048576) (hx : st.has x = false) : Calls Try.prog 68 #[.pointer (some ⟨p, 0, none⟩), .int .i64 x] w fun e w' => e = .returned (.tuple #[.agg #[.int .i64 0, .string ⟨#[]⟩, .int .u64 0, .int .i64 0, .int .i64 0, .int .i64 0], .bool false]) ∧ Below w.heap.size w w' := by
  have hb : x < 1 ∨ (st.l.length : Int) < x := by
    unfold Sough.Store.has at hx
    rw [Bool.and_eq_false_iff, decide_eq_false_iff_not, decide_eq_false_iff_not] at hx
    omega
  have HS := Lib.hid h
  clear hx h
  by_cases h1 : x < 1
  · clear hb
    go_enter Try.func68, Try.ntmps68
    go_wp2_with fail
    exact bodyPost_ret (v := .tuple #[.agg #[.int .i64 0, .string ⟨#[]⟩, .int .u64 0, .int .i64 0, .int .i64 0, .int .i64 0], .bool false]) (by simp [results, Try.results68, go_sem]) rfl ⟨rfl, (Below.refl _ _).alloc (Nat.le_refl _) _⟩
  · have h2 : (st.l.length : Int) < x := by omega
    have h3 : 1 ≤ x := by omega
    clear hb
    have CL := Lib.hid fun (w' : World) (hb : Below w.heap.size w w') => len_any w' (HS.out.later hb) hl
    go_enter Try.func68, Try.ntmps68
    go_wp2_with fail
    refine (CL.out _ ((Below.refl _ _).alloc (Nat.le_refl _) _)).mono ?_
    rintro e w1 ⟨rfl, rfl⟩
    go_wp2_with fail
    exact bodyPost_ret (v := .tuple #[.agg #[.int .i64 0, .string ⟨#[]⟩, .int .u64 0, .int .i64 0, .int .i64 0, .int .i64 0], .bool false]) (by simp [results, Try.results68, go_sem]) rfl ⟨rfl, (Below.refl _ _).alloc (Nat.le_refl _) _⟩
set_option maxRecDepth 100000 in
set_option maxHeartbeats 1600000 in
theorem get_yes {p : Nat} {st : Sough.Store} {S : List Nat} {i : Nat} {t : Sough.Term} (w : World) (h : StoreAt w p st S) (hl : st.l.length ≤ 1048576) (h1 : 1 ≤ i) (h2 : i ≤ st.l.length) (ht : st.l.getD (i - 1) Sough.zeroT = t) : Calls Try.prog 68 #[.pointer (some ⟨p, 0, none⟩), .int .i64 i] w fun e w' => e = .returned (.tuple #[.agg #[.int .i64 t.k, .string ⟨t.s.toArray⟩, .int .u64 t.n, .int .i64 t.a, .int .i64 t.b, .int .i64 t.c], .bool true]) ∧ Below w.heap.size w w' := by
  have HS := Lib.hid h
  have CL := Lib.hid fun (w' : World) (hb : Below w.heap.size w w') => len_any w' (HS.out.later hb) hl
  obtain ⟨lb, cap, db, dcap, mb, ds, D, hc, _⟩ := h
  obtain ⟨⟨c0, _, _, _⟩, _⟩ := storeCells hc
  have hcell := fun (j : Nat) (hj : j < 6) (v : Value) (hv : (termC t)[j]? = some v) => ownsRow_cell hc.row (i := i * 6 + j) (v := v) (by rw [rowT_at h1 h2 hj, ht]; exact hv)
  have r0 := hcell 0 (by omega) _ rfl
  have r1 := hcell 1 (by omega) _ rfl
  have r2 := hcell 2 (by omega) _ rfl
  have r3 := hcell 3 (by omega) _ rfl
  have r4 := hcell 4 (by omega) _ rfl
  have r5 := hcell 5 (by omega) _ rfl
  have hlb := hc.lt lb (by simp)
  have hp := hc.lt p (by simp)
  have h3 : ¬ (i : Int) < 1 := by omega
  simp only [Nat.add_zero] at r0
  clear hc hcell h1
  go_enter Try.func68, Try.ntmps68
  go_wp2_with fail
  refine (CL.out _ ((Below.refl _ _).alloc (Nat.le_refl _) _)).mono ?_
  rintro e w1 ⟨rfl, rfl⟩
  go_wp2_with fail
  exact bodyPost_ret (v := .tuple #[.agg #[.int .i64 t.k, .string ⟨t.s.toArray⟩, .int .u64 t.n, .int .i64 t.a, .int .i64 t.b, .int .i64 t.c], .bool true]) (by simp [results, Try.results68, go_sem]) rfl ⟨rfl, (Below.refl _ _).alloc (Nat.le_refl _) _⟩
theorem get_any {p : Nat} {st : Sough.Store} {S : List Nat} {x : Int} {t : Sough.Term} {b : Bool} (w : World) (h : StoreAt w p st S) (hl : st.l.length ≤ 1048576) (ht : st.at x = t) (hb : st.has x = b) : Calls Try.prog 68 #[.pointer (some ⟨p, 0, none⟩), .int .i64 x] w fun e w' => e = .returned (.tuple #[.agg #[.int .i64 t.k, .string ⟨t.s.toArray⟩, .int .u64 t.n, .int .i64 t.a, .int .i64 t.b, .int .i64 t.c], .bool b]) ∧ Below w.heap.size w w' := by
  cases b with
  | false =>
    have : t = Sough.zeroT := by rw [← ht]; unfold Sough.Store.at; rw [hb]; rfl
    subst this
    exact get_no w h hl hb
  | true =>
    have hb' := hb
    unfold Sough.Store.has at hb'
    rw [Bool.and_eq_true, decide_eq_true_eq, decide_eq_true_eq] at hb'
    obtain ⟨i, rfl⟩ := Int.eq_ofNat_of_zero_le (show 0 ≤ x by omega)
    refine get_yes w h hl (by omega) (by omega) ?_
    rw [← ht]
    unfold Sough.Store.at
    rw [hb]
    rfl
end Go.Proofs.Ytlfgempjjoclbaa
namespace Go.Proofs.Ytlfgempjjoclbaa
open Go.RowKit Go.Maps Go.ChangeMaps
def IntRow (w : World) (v : Value) (l : List Int) : Prop :=
  (l = [] ∧ v = .slice none 0 0) ∨ ∃ g, v = .slice (some ⟨g, 0, none⟩) l.length l.length ∧ w.heap[g]? = some (.cells (l.map (Value.int .i64)).toArray 3 (0, 0))
def PartsTo (w : World) (l : List Int) (e : Ending) (w' : World) : Prop := ∃ v, e = .returned v ∧ IntRow w' v l ∧ Below w.heap.size w w'
theorem two_new (w : World) (o o' : Obj) : ((w.alloc o).alloc o').heap[w.heap.size + 1]? = some o' := by
  have := heap_alloc_new (w.alloc o) o'
  rw [World.size_alloc] at this
  exact this
set_option maxRecDepth 100000 in
set_option maxHeartbeats 3200000 in
theorem parts_any {t : Sough.Term} {l : List Int} (hl : Sough.partsOf t = l) (w : World) : Calls Try.prog 52 #[.agg #[.int .i64 t.k, .string ⟨t.s.toArray⟩, .int .u64 t.n, .int .i64 t.a, .int .i64 t.b, .int .i64 t.c]] w (PartsTo w l) := by
  obtain ⟨k, s, n, a, b, c⟩ := t
  simp only
  have hb := fun (o o' : Obj) => ((Below.refl w.heap.size w).alloc (Nat.le_refl _) o).alloc (by simp) o'
  by_cases g1 : k = 3 ∨ k = 5 ∨ k = 9
  · have hp : l = [a] := by rw [← hl]; unfold Sough.partsOf; rw [if_pos g1]
    subst hp
    rcases g1 with rfl | rfl | rfl
    all_goals
      clear hl
      go_enter Try.func52, Try.ntmps52
      go_wp2_with fail
      go_ret
      exact ⟨_, rfl, .inr ⟨_, rfl, two_new _ _ _⟩, hb _ _⟩
  by_cases g2 : k = 4 ∨ k = 6 ∨ k = 7 ∨ k = 8 ∨ k = 11
  · have hp : l = [a, b] := by rw [← hl]; unfold Sough.partsOf; rw [if_neg g1, if_pos g2]
    subst hp
    rcases g2 with rfl | rfl | rfl | rfl | rfl
    all_goals
      clear hl g1
      go_enter Try.func52, Try.ntmps52
      go_wp2_with fail
      go_ret
      exact ⟨_, rfl, .inr ⟨_, rfl, two_new _ _ _⟩, hb _ _⟩
  by_cases g3 : k = 10
  · have hp : l = [a, b, c] := by rw [← hl]; unfold Sough.partsOf; rw [if_neg g1, if_neg g2, if_pos g3]
    subst hp g3
    clear hl g1 g2
    go_enter Try.func52, Try.ntmps52
    go_wp2_with fail
    go_ret
    exact ⟨_, rfl, .inr ⟨_, rfl, two_new _ _ _⟩, hb _ _⟩
  · have hp : l = [] := by rw [← hl]; unfold Sough.partsOf; rw [if_neg g1, if_neg g2, if_neg g3]
    subst hp
    simp only [not_or] at g1 g2
    obtain ⟨a1, a2, a3⟩ := g1
    obtain ⟨b1, b2, b3, b4, b5⟩ := g2
    clear hl
    go_enter Try.func52, Try.ntmps52
    go_wp2_with fail
    go_ret
    exact ⟨_, rfl, .inl ⟨rfl, rfl⟩, (Below.refl w.heap.size w).alloc (Nat.le_refl _) _⟩
end Go.Proofs.Ytlfgempjjoclbaa
namespace Go.Proofs.Ytlfgempjjoclbaa
open Go.RowKit
theorem gen_world {Q : World → Prop} {W : World} (P : World → Prop) (hW : P W) (h : ∀ W', P W' → Q W') : Q W := h W hW
theorem blk_set {W : World} {k i : Nat} {cs : Array Value} {T : TypeId} {v : Value} (h : W.heap[k]? = some (.cells cs T (0, 0))) : (W.setCell ⟨k, i, none⟩ v).heap[k]? = some (.cells (cs.setIfInBounds i v) T (0, 0)) := by
  simp only [World.setCell, Array.getElem?_modify, if_pos, h]
  simp
theorem blk_far {W : World} {k j i : Nat} {o : Obj} {v : Value} (hne : j ≠ k) (h : W.heap[j]? = some o) : (W.setCell ⟨k, i, none⟩ v).heap[j]? = some o :=
  (Below.heap_setCell _ _ _ _ hne).trans h
theorem blk_is {W : World} {k : Nat} {cs cs' : Array Value} {T : TypeId} (h : W.heap[k]? = some (.cells cs T (0, 0))) (e : cs = cs') : W.heap[k]? = some (.cells cs' T (0, 0)) := e ▸ h
theorem put6_blk {W : World} {k : Nat} {cs : Array Value} {T : TypeId} {v0 v1 v2 v3 v4 v5 : Value} (h : W.heap[k]? = some (.cells cs T (0, 0))) (hs : cs.size = 6) :
    ((((((W.setCell ⟨k, 0, none⟩ v0).setCell ⟨k, 1, none⟩ v1).setCell ⟨k, 2, none⟩ v2).setCell ⟨k, 3, none⟩ v3).setCell ⟨k, 4, none⟩ v4).setCell ⟨k, 5, none⟩ v5).heap[k]? = some (.cells #[v0, v1, v2, v3, v4, v5] T (0, 0)) := by
  refine blk_is (blk_set (blk_set (blk_set (blk_set (blk_set (blk_set h)))))) ?_
  obtain ⟨l⟩ := cs
  match l, hs with
  | [_, _, _, _, _, _], _ => rfl
end Go.Proofs.Ytlfgempjjoclbaa
namespace Go.Proofs.Ytlfgempjjoclbaa
open Go.RowKit Go.Maps Go.ChangeMaps
theorem idx3_0 (x : Addr) (b c : Value) (w : World) : (Instr.index 158 (.agg #[.pointer (some x), b, c]) (.int .i64 0)).run Try.prog w = .ok (.pointer (some x)) w := by kernel_rfl
theorem idx3_1 (x : Addr) (a c : Value) (w : World) : (Instr.index 158 (.agg #[a, .pointer (some x), c]) (.int .i64 1)).run Try.prog w = .ok (.pointer (some x)) w := by kernel_rfl
theorem idx3_2 (x : Addr) (a b : Value) (w : World) : (Instr.index 158 (.agg #[a, b, .pointer (some x)]) (.int .i64 2)).run Try.prog w = .ok (.pointer (some x)) w := by kernel_rfl
def OnlyTo (w : World) (c : Array Value) (e : Ending) (w' : World) : Prop := e = .returned (.agg c) ∧ Below w.heap.size w w'
theorem only_world {w w1 : World} {o o' o'' : Obj} (hb : Below (((w.alloc o).alloc o').alloc o'').heap.size (((w.alloc o).alloc o').alloc o'') w1) : Below w.heap.size w w1 :=
  ((((Below.refl _ _).alloc (Nat.le_refl _) _).alloc (by simp) _).alloc (by simp; omega) _).trans (hb.mono (by simp; omega))
set_option maxRecDepth 100000 in
set_option maxHeartbeats 3200000 in
theorem only_1 {n : Nat} {s : List UInt8} {a b c : Int} (w : World) : Calls Try.prog 73 #[.agg #[.int .i64 1, .string ⟨s.toArray⟩, .int .u64 n, .int .i64 a, .int .i64 b, .int .i64 c]] w (OnlyTo w #[.int .i64 1, .string ⟨s.toArray⟩, .int .u64 0, .int .i64 0, .int .i64 0, .int .i64 0]) := by
  go_enter Try.func73, Try.ntmps73
  go_wp2_with fail
  refine (parts_any (t := ⟨1, s, n, a, b, c⟩) (l := []) (by simp [Sough.partsOf]) _).mono ?_
  rintro e w1 ⟨v, rfl, hrow, hb1⟩
  have HB := Lib.hid (only_world hb1)
  have M := Lib.hid (((((Mem.start w).alloc (.cells #[.int .i64 1, .string ⟨s.toArray⟩, .int .u64 n, .int .i64 a, .int .i64 b, .int .i64 c] 76)).alloc (.cells #[.int .i64 0, .string ⟨#[]⟩, .int .u64 0, .int .i64 0, .int .i64 0, .int .i64 0] 76)).alloc (.cells #[.int .i64 1, .string ⟨s.toArray⟩, .int .u64 0, .int .i64 0, .int .i64 0, .int .i64 0] 76)).later hb1)
  simp only [World.size_alloc] at M
  have K : Hid (w1.heap[w.heap.size + 1]? = some (.cells #[.int .i64 0, .string ⟨#[]⟩, .int .u64 0, .int .i64 0, .int .i64 0, .int .i64 0] 76 (0, 0))) := Lib.hid (M.out.get 1 rfl)
  have r := M.out.rules; simp only [AllCells, CellsAt, Nat.zero_add] at r
  clear hb1
  rcases hrow with ⟨_, rfl⟩ | ⟨g, rfl, hg⟩
  · skip
    go_wp2_with fail
    refine wp_loop_rounds 4 ?_
    simp only [rounds_succ]
    go_wp2_with fail
    refine gen_world (Q := fun W => bodyPost _ _ _ _ _ W) (fun W => W.heap[w.heap.size + 1]? = some (.cells #[.int .i64 1, .string ⟨s.toArray⟩, .int .u64 0, .int .i64 0, .int .i64 0, .int .i64 0] 76 (0, 0)) ∧ Below w.heap.size w W) ⟨?_, ?_⟩ ?_
    · refine put6_blk (cs := #[.int .i64 0, .string ⟨#[]⟩, .int .u64 0, .int .i64 0, .int .i64 0, .int .i64 0]) ?_ rfl
      repeat (first | with_reducible exact K.out | refine blk_far (by omega) ?_)
    · repeat (first | with_reducible exact HB.out | with_reducible refine Below.setCell ?_ (show _ ≤ _ by simp <;> omega) _)
    · rintro W ⟨hx, hb⟩
      exact bodyPost_ret (v := .agg #[.int .i64 1, .string ⟨s.toArray⟩, .int .u64 0, .int .i64 0, .int .i64 0, .int .i64 0]) (by simp [results, Try.results73, go_sem, World.cell?, hx]) rfl ⟨rfl, hb⟩
  · go_wp2_with fail
    refine wp_loop_rounds 4 ?_
    simp only [rounds_succ]
    go_wp2_with fail
    refine gen_world (Q := fun W => bodyPost _ _ _ _ _ W) (fun W => W.heap[w.heap.size + 1]? = some (.cells #[.int .i64 1, .string ⟨s.toArray⟩, .int .u64 0, .int .i64 0, .int .i64 0, .int .i64 0] 76 (0, 0)) ∧ Below w.heap.size w W) ⟨?_, ?_⟩ ?_
    · refine put6_blk (cs := #[.int .i64 0, .string ⟨#[]⟩, .int .u64 0, .int .i64 0, .int .i64 0, .int .i64 0]) ?_ rfl
      repeat (first | with_reducible exact K.out | refine blk_far (by omega) ?_)
    · repeat (first | with_reducible exact HB.out | with_reducible refine Below.setCell ?_ (show _ ≤ _ by simp <;> omega) _)
    · rintro W ⟨hx, hb⟩
      exact bodyPost_ret (v := .agg #[.int .i64 1, .string ⟨s.toArray⟩, .int .u64 0, .int .i64 0, .int .i64 0, .int .i64 0]) (by simp [results, Try.results73, go_sem, World.cell?, hx]) rfl ⟨rfl, hb⟩
set_option maxRecDepth 100000 in
set_option maxHeartbeats 3200000 in
theorem only_2 {n : Nat} {s : List UInt8} {a b c : Int} (w : World) : Calls Try.prog 73 #[.agg #[.int .i64 2, .string ⟨s.toArray⟩, .int .u64 n, .int .i64 a, .int .i64 b, .int .i64 c]] w (OnlyTo w #[.int .i64 2, .string ⟨#[]⟩, .int .u64 n, .int .i64 0, .int .i64 0, .int .i64 0]) := by
  go_enter Try.func73, Try.ntmps73
  go_wp2_with fail
  refine (parts_any (t := ⟨2, s, n, a, b, c⟩) (l := []) (by simp [Sough.partsOf]) _).mono ?_
  rintro e w1 ⟨v, rfl, hrow, hb1⟩
  have HB := Lib.hid (only_world hb1)
  have M := Lib.hid (((((Mem.start w).alloc (.cells #[.int .i64 2, .string ⟨s.toArray⟩, .int .u64 n, .int .i64 a, .int .i64 b, .int .i64 c] 76)).alloc (.cells #[.int .i64 0, .string ⟨#[]⟩, .int .u64 0, .int .i64 0, .int .i64 0, .int .i64 0] 76)).alloc (.cells #[.int .i64 2, .string ⟨#[]⟩, .int .u64 n, .int .i64 0, .int .i64 0, .int .i64 0] 76)).later hb1)
  simp only [World.size_alloc] at M
  have K : Hid (w1.heap[w.heap.size + 1]? = some (.cells #[.int .i64 0, .string ⟨#[]⟩, .int .u64 0, .int .i64 0, .int .i64 0, .int .i64 0] 76 (0, 0))) := Lib.hid (M.out.get 1 rfl)
  have r := M.out.rules; simp only [AllCells, CellsAt, Nat.zero_add] at r
  clear hb1
  rcases hrow with ⟨_, rfl⟩ | ⟨g, rfl, hg⟩
  · skip
    go_wp2_with fail
    refine wp_loop_rounds 4 ?_
    simp only [rounds_succ]
    go_wp2_with fail
    refine gen_world (Q := fun W => bodyPost _ _ _ _ _ W) (fun W => W.heap[w.heap.size + 1]? = some (.cells #[.int .i64 2, .string ⟨#[]⟩, .int .u64 n, .int .i64 0, .int .i64 0, .int .i64 0] 76 (0, 0)) ∧ Below w.heap.size w W) ⟨?_, ?_⟩ ?_
    · refine put6_blk (cs := #[.int .i64 0, .string ⟨#[]⟩, .int .u64 0, .int .i64 0, .int .i64 0, .int .i64 0]) ?_ rfl
      repeat (first | with_reducible exact K.out | refine blk_far (by omega) ?_)
    · repeat (first | with_reducible exact HB.out | with_reducible refine Below.setCell ?_ (show _ ≤ _ by simp <;> omega) _)
    · rintro W ⟨hx, hb⟩
      exact bodyPost_ret (v := .agg #[.int .i64 2, .string ⟨#[]⟩, .int .u64 n, .int .i64 0, .int .i64 0, .int .i64 0]) (by simp [results, Try.results73, go_sem, World.cell?, hx]) rfl ⟨rfl, hb⟩
  · go_wp2_with fail
    refine wp_loop_rounds 4 ?_
    simp only [rounds_succ]
    go_wp2_with fail
    refine gen_world (Q := fun W => bodyPost _ _ _ _ _ W) (fun W => W.heap[w.heap.size + 1]? = some (.cells #[.int .i64 2, .string ⟨#[]⟩, .int .u64 n, .int .i64 0, .int .i64 0, .int .i64 0] 76 (0, 0)) ∧ Below w.heap.size w W) ⟨?_, ?_⟩ ?_
    · refine put6_blk (cs := #[.int .i64 0, .string ⟨#[]⟩, .int .u64 0, .int .i64 0, .int .i64 0, .int .i64 0]) ?_ rfl
      repeat (first | with_reducible exact K.out | refine blk_far (by omega) ?_)
    · repeat (first | with_reducible exact HB.out | with_reducible refine Below.setCell ?_ (show _ ≤ _ by simp <;> omega) _)
    · rintro W ⟨hx, hb⟩
      exact bodyPost_ret (v := .agg #[.int .i64 2, .string ⟨#[]⟩, .int .u64 n, .int .i64 0, .int .i64 0, .int .i64 0]) (by simp [results, Try.results73, go_sem, World.cell?, hx]) rfl ⟨rfl, hb⟩
set_option maxRecDepth 100000 in
set_option maxHeartbeats 3200000 in
theorem only_3 {n : Nat} {s : List UInt8} {a b c : Int} (w : World) : Calls Try.prog 73 #[.agg #[.int .i64 3, .string ⟨s.toArray⟩, .int .u64 n, .int .i64 a, .int .i64 b, .int .i64 c]] w (OnlyTo w #[.int .i64 3, .string ⟨#[]⟩, .int .u64 0, .int .i64 a, .int .i64 0, .int .i64 0]) := by
  go_enter Try.func73, Try.ntmps73
  go_wp2_with fail
  refine (parts_any (t := ⟨3, s, n, a, b, c⟩) (l := [a]) (by simp [Sough.partsOf]) _).mono ?_
  rintro e w1 ⟨v, rfl, hrow, hb1⟩
  have HB := Lib.hid (only_world hb1)
  have M := Lib.hid (((((Mem.start w).alloc (.cells #[.int .i64 3, .string ⟨s.toArray⟩, .int .u64 n, .int .i64 a, .int .i64 b, .int .i64 c] 76)).alloc (.cells #[.int .i64 0, .string ⟨#[]⟩, .int .u64 0, .int .i64 0, .int .i64 0, .int .i64 0] 76)).alloc (.cells #[.int .i64 3, .string ⟨#[]⟩, .int .u64 0, .int .i64 0, .int .i64 0, .int .i64 0] 76)).later hb1)
  simp only [World.size_alloc] at M
  have K : Hid (w1.heap[w.heap.size + 1]? = some (.cells #[.int .i64 0, .string ⟨#[]⟩, .int .u64 0, .int .i64 0, .int .i64 0, .int .i64 0] 76 (0, 0))) := Lib.hid (M.out.get 1 rfl)
  have r := M.out.rules; simp only [AllCells, CellsAt, Nat.zero_add] at r
  clear hb1
  rcases hrow with ⟨h, _⟩ | ⟨g, rfl, hg⟩
  · cases h
  have c0 : w1.cell? ⟨g, 0, none⟩ = some (.int .i64 a) := by simp [World.cell?, hg]
  have i0 := idx3_0
  clear hg
  go_wp2_with fail
  refine wp_loop_rounds 4 ?_
  simp only [rounds_succ]
  go_wp2_with fail
  simp only [rounds_succ]
  go_wp2_with fail
  refine gen_world (Q := fun W => bodyPost _ _ _ _ _ W) (fun W => W.heap[w.heap.size + 1]? = some (.cells #[.int .i64 3, .string ⟨#[]⟩, .int .u64 0, .int .i64 a, .int .i64 0, .int .i64 0] 76 (0, 0)) ∧ Below w.heap.size w W) ⟨?_, ?_⟩ ?_
  · refine put6_blk (cs := #[.int .i64 0, .string ⟨#[]⟩, .int .u64 0, .int .i64 0, .int .i64 0, .int .i64 0]) ?_ rfl
    repeat (first | with_reducible exact K.out | refine blk_far (by omega) ?_)
  · repeat (first | with_reducible exact HB.out | with_reducible refine Below.setCell ?_ (show _ ≤ _ by simp <;> omega) _)
  · rintro W ⟨hx, hb⟩
    exact bodyPost_ret (v := .agg #[.int .i64 3, .string ⟨#[]⟩, .int .u64 0, .int .i64 a, .int .i64 0, .int .i64 0]) (by simp [results, Try.results73, go_sem, World.cell?, hx]) rfl ⟨rfl, hb⟩
set_option maxRecDepth 100000 in
set_option maxHeartbeats 3200000 in
theorem only_5 {n : Nat} {s : List UInt8} {a b c : Int} (w : World) : Calls Try.prog 73 #[.agg #[.int .i64 5, .string ⟨s.toArray⟩, .int .u64 n, .int .i64 a, .int .i64 b, .int .i64 c]] w (OnlyTo w #[.int .i64 5, .string ⟨#[]⟩, .int .u64 0, .int .i64 a, .int .i64 0, .int .i64 0]) := by
  go_enter Try.func73, Try.ntmps73
  go_wp2_with fail
  refine (parts_any (t := ⟨5, s, n, a, b, c⟩) (l := [a]) (by simp [Sough.partsOf]) _).mono ?_
  rintro e w1 ⟨v, rfl, hrow, hb1⟩
  have HB := Lib.hid (only_world hb1)
  have M := Lib.hid (((((Mem.start w).alloc (.cells #[.int .i64 5, .string ⟨s.toArray⟩, .int .u64 n, .int .i64 a, .int .i64 b, .int .i64 c] 76)).alloc (.cells #[.int .i64 0, .string ⟨#[]⟩, .int .u64 0, .int .i64 0, .int .i64 0, .int .i64 0] 76)).alloc (.cells #[.int .i64 5, .string ⟨#[]⟩, .int .u64 0, .int .i64 0, .int .i64 0, .int .i64 0] 76)).later hb1)
  simp only [World.size_alloc] at M
  have K : Hid (w1.heap[w.heap.size + 1]? = some (.cells #[.int .i64 0, .string ⟨#[]⟩, .int .u64 0, .int .i64 0, .int .i64 0, .int .i64 0] 76 (0, 0))) := Lib.hid (M.out.get 1 rfl)
  have r := M.out.rules; simp only [AllCells, CellsAt, Nat.zero_add] at r
  clear hb1
  rcases hrow with ⟨h, _⟩ | ⟨g, rfl, hg⟩
  · cases h
  have c0 : w1.cell? ⟨g, 0, none⟩ = some (.int .i64 a) := by simp [World.cell?, hg]
  have i0 := idx3_0
  clear hg
  go_wp2_with fail
  refine wp_loop_rounds 4 ?_
  simp only [rounds_succ]
  go_wp2_with fail
  simp only [rounds_succ]
  go_wp2_with fail
  refine gen_world (Q := fun W => bodyPost _ _ _ _ _ W) (fun W => W.heap[w.heap.size + 1]? = some (.cells #[.int .i64 5, .string ⟨#[]⟩, .int .u64 0, .int .i64 a, .int .i64 0, .int .i64 0] 76 (0, 0)) ∧ Below w.heap.size w W) ⟨?_, ?_⟩ ?_
  · refine put6_blk (cs := #[.int .i64 0, .string ⟨#[]⟩, .int .u64 0, .int .i64 0, .int .i64 0, .int .i64 0]) ?_ rfl
    repeat (first | with_reducible exact K.out | refine blk_far (by omega) ?_)
  · repeat (first | with_reducible exact HB.out | with_reducible refine Below.setCell ?_ (show _ ≤ _ by simp <;> omega) _)
  · rintro W ⟨hx, hb⟩
    exact bodyPost_ret (v := .agg #[.int .i64 5, .string ⟨#[]⟩, .int .u64 0, .int .i64 a, .int .i64 0, .int .i64 0]) (by simp [results, Try.results73, go_sem, World.cell?, hx]) rfl ⟨rfl, hb⟩
set_option maxRecDepth 100000 in
set_option maxHeartbeats 3200000 in
theorem only_9 {n : Nat} {s : List UInt8} {a b c : Int} (w : World) : Calls Try.prog 73 #[.agg #[.int .i64 9, .string ⟨s.toArray⟩, .int .u64 n, .int .i64 a, .int .i64 b, .int .i64 c]] w (OnlyTo w #[.int .i64 9, .string ⟨#[]⟩, .int .u64 n, .int .i64 a, .int .i64 0, .int .i64 0]) := by
  go_enter Try.func73, Try.ntmps73
  go_wp2_with fail
  refine (parts_any (t := ⟨9, s, n, a, b, c⟩) (l := [a]) (by simp [Sough.partsOf]) _).mono ?_
  rintro e w1 ⟨v, rfl, hrow, hb1⟩
  have HB := Lib.hid (only_world hb1)
  have M := Lib.hid (((((Mem.start w).alloc (.cells #[.int .i64 9, .string ⟨s.toArray⟩, .int .u64 n, .int .i64 a, .int .i64 b, .int .i64 c] 76)).alloc (.cells #[.int .i64 0, .string ⟨#[]⟩, .int .u64 0, .int .i64 0, .int .i64 0, .int .i64 0] 76)).alloc (.cells #[.int .i64 9, .string ⟨#[]⟩, .int .u64 n, .int .i64 0, .int .i64 0, .int .i64 0] 76)).later hb1)
  simp only [World.size_alloc] at M
  have K : Hid (w1.heap[w.heap.size + 1]? = some (.cells #[.int .i64 0, .string ⟨#[]⟩, .int .u64 0, .int .i64 0, .int .i64 0, .int .i64 0] 76 (0, 0))) := Lib.hid (M.out.get 1 rfl)
  have r := M.out.rules; simp only [AllCells, CellsAt, Nat.zero_add] at r
  clear hb1
  rcases hrow with ⟨h, _⟩ | ⟨g, rfl, hg⟩
  · cases h
  have c0 : w1.cell? ⟨g, 0, none⟩ = some (.int .i64 a) := by simp [World.cell?, hg]
  have i0 := idx3_0
  clear hg
  go_wp2_with fail
  refine wp_loop_rounds 4 ?_
  simp only [rounds_succ]
  go_wp2_with fail
  simp only [rounds_succ]
  go_wp2_with fail
  refine gen_world (Q := fun W => bodyPost _ _ _ _ _ W) (fun W => W.heap[w.heap.size + 1]? = some (.cells #[.int .i64 9, .string ⟨#[]⟩, .int .u64 n, .int .i64 a, .int .i64 0, .int .i64 0] 76 (0, 0)) ∧ Below w.heap.size w W) ⟨?_, ?_⟩ ?_
  · refine put6_blk (cs := #[.int .i64 0, .string ⟨#[]⟩, .int .u64 0, .int .i64 0, .int .i64 0, .int .i64 0]) ?_ rfl
    repeat (first | with_reducible exact K.out | refine blk_far (by omega) ?_)
  · repeat (first | with_reducible exact HB.out | with_reducible refine Below.setCell ?_ (show _ ≤ _ by simp <;> omega) _)
  · rintro W ⟨hx, hb⟩
    exact bodyPost_ret (v := .agg #[.int .i64 9, .string ⟨#[]⟩, .int .u64 n, .int .i64 a, .int .i64 0, .int .i64 0]) (by simp [results, Try.results73, go_sem, World.cell?, hx]) rfl ⟨rfl, hb⟩
set_option maxRecDepth 100000 in
set_option maxHeartbeats 3200000 in
theorem only_4 {n : Nat} {s : List UInt8} {a b c : Int} (w : World) : Calls Try.prog 73 #[.agg #[.int .i64 4, .string ⟨s.toArray⟩, .int .u64 n, .int .i64 a, .int .i64 b, .int .i64 c]] w (OnlyTo w #[.int .i64 4, .string ⟨#[]⟩, .int .u64 0, .int .i64 a, .int .i64 b, .int .i64 0]) := by
  go_enter Try.func73, Try.ntmps73
  go_wp2_with fail
  refine (parts_any (t := ⟨4, s, n, a, b, c⟩) (l := [a, b]) (by simp [Sough.partsOf]) _).mono ?_
  rintro e w1 ⟨v, rfl, hrow, hb1⟩
  have HB := Lib.hid (only_world hb1)
  have M := Lib.hid (((((Mem.start w).alloc (.cells #[.int .i64 4, .string ⟨s.toArray⟩, .int .u64 n, .int .i64 a, .int .i64 b, .int .i64 c] 76)).alloc (.cells #[.int .i64 0, .string ⟨#[]⟩, .int .u64 0, .int .i64 0, .int .i64 0, .int .i64 0] 76)).alloc (.cells #[.int .i64 4, .string ⟨#[]⟩, .int .u64 0, .int .i64 0, .int .i64 0, .int .i64 0] 76)).later hb1)
  simp only [World.size_alloc] at M
  have K : Hid (w1.heap[w.heap.size + 1]? = some (.cells #[.int .i64 0, .string ⟨#[]⟩, .int .u64 0, .int .i64 0, .int .i64 0, .int .i64 0] 76 (0, 0))) := Lib.hid (M.out.get 1 rfl)
  have r := M.out.rules; simp only [AllCells, CellsAt, Nat.zero_add] at r
  clear hb1
  rcases hrow with ⟨h, _⟩ | ⟨g, rfl, hg⟩
  · cases h
  have c0 : w1.cell? ⟨g, 0, none⟩ = some (.int .i64 a) := by simp [World.cell?, hg]
  have c1 : w1.cell? ⟨g, 1, none⟩ = some (.int .i64 b) := by simp [World.cell?, hg]
  have i0 := idx3_0
  have i1 := idx3_1
  clear hg
  go_wp2_with fail
  refine wp_loop_rounds 4 ?_
  simp only [rounds_succ]
  go_wp2_with fail
  simp only [rounds_succ]
  go_wp2_with fail
  simp only [rounds_succ]
  go_wp2_with fail
  refine gen_world (Q := fun W => bodyPost _ _ _ _ _ W) (fun W => W.heap[w.heap.size + 1]? = some (.cells #[.int .i64 4, .string ⟨#[]⟩, .int .u64 0, .int .i64 a, .int .i64 b, .int .i64 0] 76 (0, 0)) ∧ Below w.heap.size w W) ⟨?_, ?_⟩ ?_
  · refine put6_blk (cs := #[.int .i64 0, .string ⟨#[]⟩, .int .u64 0, .int .i64 0, .int .i64 0, .int .i64 0]) ?_ rfl
    repeat (first | with_reducible exact K.out | refine blk_far (by omega) ?_)
  · repeat (first | with_reducible exact HB.out | with_reducible refine Below.setCell ?_ (show _ ≤ _ by simp <;> omega) _)
  · rintro W ⟨hx, hb⟩
    exact bodyPost_ret (v := .agg #[.int .i64 4, .string ⟨#[]⟩, .int .u64 0, .int .i64 a, .int .i64 b, .int .i64 0]) (by simp [results, Try.results73, go_sem, World.cell?, hx]) rfl ⟨rfl, hb⟩
set_option maxRecDepth 100000 in
set_option maxHeartbeats 3200000 in
theorem only_6 {n : Nat} {s : List UInt8} {a b c : Int} (w : World) : Calls Try.prog 73 #[.agg #[.int .i64 6, .string ⟨s.toArray⟩, .int .u64 n, .int .i64 a, .int .i64 b, .int .i64 c]] w (OnlyTo w #[.int .i64 6, .string ⟨#[]⟩, .int .u64 0, .int .i64 a, .int .i64 b, .int .i64 0]) := by
  go_enter Try.func73, Try.ntmps73
  go_wp2_with fail
  refine (parts_any (t := ⟨6, s, n, a, b, c⟩) (l := [a, b]) (by simp [Sough.partsOf]) _).mono ?_
  rintro e w1 ⟨v, rfl, hrow, hb1⟩
  have HB := Lib.hid (only_world hb1)
  have M := Lib.hid (((((Mem.start w).alloc (.cells #[.int .i64 6, .string ⟨s.toArray⟩, .int .u64 n, .int .i64 a, .int .i64 b, .int .i64 c] 76)).alloc (.cells #[.int .i64 0, .string ⟨#[]⟩, .int .u64 0, .int .i64 0, .int .i64 0, .int .i64 0] 76)).alloc (.cells #[.int .i64 6, .string ⟨#[]⟩, .int .u64 0, .int .i64 0, .int .i64 0, .int .i64 0] 76)).later hb1)
  simp only [World.size_alloc] at M
  have K : Hid (w1.heap[w.heap.size + 1]? = some (.cells #[.int .i64 0, .string ⟨#[]⟩, .int .u64 0, .int .i64 0, .int .i64 0, .int .i64 0] 76 (0, 0))) := Lib.hid (M.out.get 1 rfl)
  have r := M.out.rules; simp only [AllCells, CellsAt, Nat.zero_add] at r
  clear hb1
  rcases hrow with ⟨h, _⟩ | ⟨g, rfl, hg⟩
  · cases h
  have c0 : w1.cell? ⟨g, 0, none⟩ = some (.int .i64 a) := by simp [World.cell?, hg]
  have c1 : w1.cell? ⟨g, 1, none⟩ = some (.int .i64 b) := by simp [World.cell?, hg]
  have i0 := idx3_0
  have i1 := idx3_1
  clear hg
  go_wp2_with fail
  refine wp_loop_rounds 4 ?_
  simp only [rounds_succ]
  go_wp2_with fail
  simp only [rounds_succ]
  go_wp2_with fail
  simp only [rounds_succ]
  go_wp2_with fail
  refine gen_world (Q := fun W => bodyPost _ _ _ _ _ W) (fun W => W.heap[w.heap.size + 1]? = some (.cells #[.int .i64 6, .string ⟨#[]⟩, .int .u64 0, .int .i64 a, .int .i64 b, .int .i64 0] 76 (0, 0)) ∧ Below w.heap.size w W) ⟨?_, ?_⟩ ?_
  · refine put6_blk (cs := #[.int .i64 0, .string ⟨#[]⟩, .int .u64 0, .int .i64 0, .int .i64 0, .int .i64 0]) ?_ rfl
    repeat (first | with_reducible exact K.out | refine blk_far (by omega) ?_)
  · repeat (first | with_reducible exact HB.out | with_reducible refine Below.setCell ?_ (show _ ≤ _ by simp <;> omega) _)
  · rintro W ⟨hx, hb⟩
    exact bodyPost_ret (v := .agg #[.int .i64 6, .string ⟨#[]⟩, .int .u64 0, .int .i64 a, .int .i64 b, .int .i64 0]) (by simp [results, Try.results73, go_sem, World.cell?, hx]) rfl ⟨rfl, hb⟩
set_option maxRecDepth 100000 in
set_option maxHeartbeats 3200000 in
theorem only_7 {n : Nat} {s : List UInt8} {a b c : Int} (w : World) : Calls Try.prog 73 #[.agg #[.int .i64 7, .string ⟨s.toArray⟩, .int .u64 n, .int .i64 a, .int .i64 b, .int .i64 c]] w (OnlyTo w #[.int .i64 7, .string ⟨#[]⟩, .int .u64 0, .int .i64 a, .int .i64 b, .int .i64 0]) := by
  go_enter Try.func73, Try.ntmps73
  go_wp2_with fail
  refine (parts_any (t := ⟨7, s, n, a, b, c⟩) (l := [a, b]) (by simp [Sough.partsOf]) _).mono ?_
  rintro e w1 ⟨v, rfl, hrow, hb1⟩
  have HB := Lib.hid (only_world hb1)
  have M := Lib.hid (((((Mem.start w).alloc (.cells #[.int .i64 7, .string ⟨s.toArray⟩, .int .u64 n, .int .i64 a, .int .i64 b, .int .i64 c] 76)).alloc (.cells #[.int .i64 0, .string ⟨#[]⟩, .int .u64 0, .int .i64 0, .int .i64 0, .int .i64 0] 76)).alloc (.cells #[.int .i64 7, .string ⟨#[]⟩, .int .u64 0, .int .i64 0, .int .i64 0, .int .i64 0] 76)).later hb1)
  simp only [World.size_alloc] at M
  have K : Hid (w1.heap[w.heap.size + 1]? = some (.cells #[.int .i64 0, .string ⟨#[]⟩, .int .u64 0, .int .i64 0, .int .i64 0, .int .i64 0] 76 (0, 0))) := Lib.hid (M.out.get 1 rfl)
  have r := M.out.rules; simp only [AllCells, CellsAt, Nat.zero_add] at r
  clear hb1
  rcases hrow with ⟨h, _⟩ | ⟨g, rfl, hg⟩
  · cases h
  have c0 : w1.cell? ⟨g, 0, none⟩ = some (.int .i64 a) := by simp [World.cell?, hg]
  have c1 : w1.cell? ⟨g, 1, none⟩ = some (.int .i64 b) := by simp [World.cell?, hg]
  have i0 := idx3_0
  have i1 := idx3_1
  clear hg
  go_wp2_with fail
  refine wp_loop_rounds 4 ?_
  simp only [rounds_succ]
  go_wp2_with fail
  simp only [rounds_succ]
  go_wp2_with fail
  simp only [rounds_succ]
  go_wp2_with fail
  refine gen_world (Q := fun W => bodyPost _ _ _ _ _ W) (fun W => W.heap[w.heap.size + 1]? = some (.cells #[.int .i64 7, .string ⟨#[]⟩, .int .u64 0, .int .i64 a, .int .i64 b, .int .i64 0] 76 (0, 0)) ∧ Below w.heap.size w W) ⟨?_, ?_⟩ ?_
  · refine put6_blk (cs := #[.int .i64 0, .string ⟨#[]⟩, .int .u64 0, .int .i64 0, .int .i64 0, .int .i64 0]) ?_ rfl
    repeat (first | with_reducible exact K.out | refine blk_far (by omega) ?_)
  · repeat (first | with_reducible exact HB.out | with_reducible refine Below.setCell ?_ (show _ ≤ _ by simp <;> omega) _)
  · rintro W ⟨hx, hb⟩
    exact bodyPost_ret (v := .agg #[.int .i64 7, .string ⟨#[]⟩, .int .u64 0, .int .i64 a, .int .i64 b, .int .i64 0]) (by simp [results, Try.results73, go_sem, World.cell?, hx]) rfl ⟨rfl, hb⟩
set_option maxRecDepth 100000 in
set_option maxHeartbeats 3200000 in
theorem only_8 {n : Nat} {s : List UInt8} {a b c : Int} (w : World) : Calls Try.prog 73 #[.agg #[.int .i64 8, .string ⟨s.toArray⟩, .int .u64 n, .int .i64 a, .int .i64 b, .int .i64 c]] w (OnlyTo w #[.int .i64 8, .string ⟨#[]⟩, .int .u64 0, .int .i64 a, .int .i64 b, .int .i64 0]) := by
  go_enter Try.func73, Try.ntmps73
  go_wp2_with fail
  refine (parts_any (t := ⟨8, s, n, a, b, c⟩) (l := [a, b]) (by simp [Sough.partsOf]) _).mono ?_
  rintro e w1 ⟨v, rfl, hrow, hb1⟩
  have HB := Lib.hid (only_world hb1)
  have M := Lib.hid (((((Mem.start w).alloc (.cells #[.int .i64 8, .string ⟨s.toArray⟩, .int .u64 n, .int .i64 a, .int .i64 b, .int .i64 c] 76)).alloc (.cells #[.int .i64 0, .string ⟨#[]⟩, .int .u64 0, .int .i64 0, .int .i64 0, .int .i64 0] 76)).alloc (.cells #[.int .i64 8, .string ⟨#[]⟩, .int .u64 0, .int .i64 0, .int .i64 0, .int .i64 0] 76)).later hb1)
  simp only [World.size_alloc] at M
  have K : Hid (w1.heap[w.heap.size + 1]? = some (.cells #[.int .i64 0, .string ⟨#[]⟩, .int .u64 0, .int .i64 0, .int .i64 0, .int .i64 0] 76 (0, 0))) := Lib.hid (M.out.get 1 rfl)
  have r := M.out.rules; simp only [AllCells, CellsAt, Nat.zero_add] at r
  clear hb1
  rcases hrow with ⟨h, _⟩ | ⟨g, rfl, hg⟩
  · cases h
  have c0 : w1.cell? ⟨g, 0, none⟩ = some (.int .i64 a) := by simp [World.cell?, hg]
  have c1 : w1.cell? ⟨g, 1, none⟩ = some (.int .i64 b) := by simp [World.cell?, hg]
  have i0 := idx3_0
  have i1 := idx3_1
  clear hg
  go_wp2_with fail
  refine wp_loop_rounds 4 ?_
  simp only [rounds_succ]
  go_wp2_with fail
  simp only [rounds_succ]
  go_wp2_with fail
  simp only [rounds_succ]
  go_wp2_with fail
  refine gen_world (Q := fun W => bodyPost _ _ _ _ _ W) (fun W => W.heap[w.heap.size + 1]? = some (.cells #[.int .i64 8, .string ⟨#[]⟩, .int .u64 0, .int .i64 a, .int .i64 b, .int .i64 0] 76 (0, 0)) ∧ Below w.heap.size w W) ⟨?_, ?_⟩ ?_
  · refine put6_blk (cs := #[.int .i64 0, .string ⟨#[]⟩, .int .u64 0, .int .i64 0, .int .i64 0, .int .i64 0]) ?_ rfl
    repeat (first | with_reducible exact K.out | refine blk_far (by omega) ?_)
  · repeat (first | with_reducible exact HB.out | with_reducible refine Below.setCell ?_ (show _ ≤ _ by simp <;> omega) _)
  · rintro W ⟨hx, hb⟩
    exact bodyPost_ret (v := .agg #[.int .i64 8, .string ⟨#[]⟩, .int .u64 0, .int .i64 a, .int .i64 b, .int .i64 0]) (by simp [results, Try.results73, go_sem, World.cell?, hx]) rfl ⟨rfl, hb⟩
set_option maxRecDepth 100000 in
set_option maxHeartbeats 3200000 in
theorem only_11 {n : Nat} {s : List UInt8} {a b c : Int} (w : World) : Calls Try.prog 73 #[.agg #[.int .i64 11, .string ⟨s.toArray⟩, .int .u64 n, .int .i64 a, .int .i64 b, .int .i64 c]] w (OnlyTo w #[.int .i64 11, .string ⟨#[]⟩, .int .u64 0, .int .i64 a, .int .i64 b, .int .i64 0]) := by
  go_enter Try.func73, Try.ntmps73
  go_wp2_with fail
  refine (parts_any (t := ⟨11, s, n, a, b, c⟩) (l := [a, b]) (by simp [Sough.partsOf]) _).mono ?_
  rintro e w1 ⟨v, rfl, hrow, hb1⟩
  have HB := Lib.hid (only_world hb1)
  have M := Lib.hid (((((Mem.start w).alloc (.cells #[.int .i64 11, .string ⟨s.toArray⟩, .int .u64 n, .int .i64 a, .int .i64 b, .int .i64 c] 76)).alloc (.cells #[.int .i64 0, .string ⟨#[]⟩, .int .u64 0, .int .i64 0, .int .i64 0, .int .i64 0] 76)).alloc (.cells #[.int .i64 11, .string ⟨#[]⟩, .int .u64 0, .int .i64 0, .int .i64 0, .int .i64 0] 76)).later hb1)
  simp only [World.size_alloc] at M
  have K : Hid (w1.heap[w.heap.size + 1]? = some (.cells #[.int .i64 0, .string ⟨#[]⟩, .int .u64 0, .int .i64 0, .int .i64 0, .int .i64 0] 76 (0, 0))) := Lib.hid (M.out.get 1 rfl)
  have r := M.out.rules; simp only [AllCells, CellsAt, Nat.zero_add] at r
  clear hb1
  rcases hrow with ⟨h, _⟩ | ⟨g, rfl, hg⟩
  · cases h
  have c0 : w1.cell? ⟨g, 0, none⟩ = some (.int .i64 a) := by simp [World.cell?, hg]
  have c1 : w1.cell? ⟨g, 1, none⟩ = some (.int .i64 b) := by simp [World.cell?, hg]
  have i0 := idx3_0
  have i1 := idx3_1
  clear hg
  go_wp2_with fail
  refine wp_loop_rounds 4 ?_
  simp only [rounds_succ]
  go_wp2_with fail
  simp only [rounds_succ]
  go_wp2_with fail
  simp only [rounds_succ]
  go_wp2_with fail
  refine gen_world (Q := fun W => bodyPost _ _ _ _ _ W) (fun W => W.heap[w.heap.size + 1]? = some (.cells #[.int .i64 11, .string ⟨#[]⟩, .int .u64 0, .int .i64 a, .int .i64 b, .int .i64 0] 76 (0, 0)) ∧ Below w.heap.size w W) ⟨?_, ?_⟩ ?_
  · refine put6_blk (cs := #[.int .i64 0, .string ⟨#[]⟩, .int .u64 0, .int .i64 0, .int .i64 0, .int .i64 0]) ?_ rfl
    repeat (first | with_reducible exact K.out | refine blk_far (by omega) ?_)
  · repeat (first | with_reducible exact HB.out | with_reducible refine Below.setCell ?_ (show _ ≤ _ by simp <;> omega) _)
  · rintro W ⟨hx, hb⟩
    exact bodyPost_ret (v := .agg #[.int .i64 11, .string ⟨#[]⟩, .int .u64 0, .int .i64 a, .int .i64 b, .int .i64 0]) (by simp [results, Try.results73, go_sem, World.cell?, hx]) rfl ⟨rfl, hb⟩
set_option maxRecDepth 100000 in
set_option maxHeartbeats 3200000 in
theorem only_10 {n : Nat} {s : List UInt8} {a b c : Int} (w : World) : Calls Try.prog 73 #[.agg #[.int .i64 10, .string ⟨s.toArray⟩, .int .u64 n, .int .i64 a, .int .i64 b, .int .i64 c]] w (OnlyTo w #[.int .i64 10, .string ⟨#[]⟩, .int .u64 n, .int .i64 a, .int .i64 b, .int .i64 c]) := by
  go_enter Try.func73, Try.ntmps73
  go_wp2_with fail
  refine (parts_any (t := ⟨10, s, n, a, b, c⟩) (l := [a, b, c]) (by simp [Sough.partsOf]) _).mono ?_
  rintro e w1 ⟨v, rfl, hrow, hb1⟩
  have HB := Lib.hid (only_world hb1)
  have M := Lib.hid (((((Mem.start w).alloc (.cells #[.int .i64 10, .string ⟨s.toArray⟩, .int .u64 n, .int .i64 a, .int .i64 b, .int .i64 c] 76)).alloc (.cells #[.int .i64 0, .string ⟨#[]⟩, .int .u64 0, .int .i64 0, .int .i64 0, .int .i64 0] 76)).alloc (.cells #[.int .i64 10, .string ⟨#[]⟩, .int .u64 n, .int .i64 0, .int .i64 0, .int .i64 0] 76)).later hb1)
  simp only [World.size_alloc] at M
  have K : Hid (w1.heap[w.heap.size + 1]? = some (.cells #[.int .i64 0, .string ⟨#[]⟩, .int .u64 0, .int .i64 0, .int .i64 0, .int .i64 0] 76 (0, 0))) := Lib.hid (M.out.get 1 rfl)
  have r := M.out.rules; simp only [AllCells, CellsAt, Nat.zero_add] at r
  clear hb1
  rcases hrow with ⟨h, _⟩ | ⟨g, rfl, hg⟩
  · cases h
  have c0 : w1.cell? ⟨g, 0, none⟩ = some (.int .i64 a) := by simp [World.cell?, hg]
  have c1 : w1.cell? ⟨g, 1, none⟩ = some (.int .i64 b) := by simp [World.cell?, hg]
  have c2 : w1.cell? ⟨g, 2, none⟩ = some (.int .i64 c) := by simp [World.cell?, hg]
  have i0 := idx3_0
  have i1 := idx3_1
  have i2 := idx3_2
  clear hg
  go_wp2_with fail
  refine wp_loop_rounds 4 ?_
  simp only [rounds_succ]
  go_wp2_with fail
  simp only [rounds_succ]
  go_wp2_with fail
  simp only [rounds_succ]
  go_wp2_with fail
  simp only [rounds_succ]
  go_wp2_with fail
  refine gen_world (Q := fun W => bodyPost _ _ _ _ _ W) (fun W => W.heap[w.heap.size + 1]? = some (.cells #[.int .i64 10, .string ⟨#[]⟩, .int .u64 n, .int .i64 a, .int .i64 b, .int .i64 c] 76 (0, 0)) ∧ Below w.heap.size w W) ⟨?_, ?_⟩ ?_
  · refine put6_blk (cs := #[.int .i64 0, .string ⟨#[]⟩, .int .u64 0, .int .i64 0, .int .i64 0, .int .i64 0]) ?_ rfl
    repeat (first | with_reducible exact K.out | refine blk_far (by omega) ?_)
  · repeat (first | with_reducible exact HB.out | with_reducible refine Below.setCell ?_ (show _ ≤ _ by simp <;> omega) _)
  · rintro W ⟨hx, hb⟩
    exact bodyPost_ret (v := .agg #[.int .i64 10, .string ⟨#[]⟩, .int .u64 n, .int .i64 a, .int .i64 b, .int .i64 c]) (by simp [results, Try.results73, go_sem, World.cell?, hx]) rfl ⟨rfl, hb⟩
set_option maxRecDepth 100000 in
set_option maxHeartbeats 3200000 in
theorem only_no {k : Int} {n : Nat} {s : List UInt8} {a b c : Int} (w : World) (h1 : ¬ k = 1) (h2 : ¬ k = 2) (h3 : ¬ k = 3) (h4 : ¬ k = 4) (h5 : ¬ k = 5) (h6 : ¬ k = 6) (h7 : ¬ k = 7) (h8 : ¬ k = 8) (h9 : ¬ k = 9) (h10 : ¬ k = 10) (h11 : ¬ k = 11) : Calls Try.prog 73 #[.agg #[.int .i64 k, .string ⟨s.toArray⟩, .int .u64 n, .int .i64 a, .int .i64 b, .int .i64 c]] w (OnlyTo w #[.int .i64 k, .string ⟨#[]⟩, .int .u64 0, .int .i64 0, .int .i64 0, .int .i64 0]) := by
  go_enter Try.func73, Try.ntmps73
  go_wp2_with fail
  refine (parts_any (t := ⟨k, s, n, a, b, c⟩) (l := []) (by simp [Sough.partsOf, h3, h4, h5, h6, h7, h8, h9, h10, h11]) _).mono ?_
  rintro e w1 ⟨v, rfl, hrow, hb1⟩
  have HB := Lib.hid (only_world hb1)
  have M := Lib.hid (((((Mem.start w).alloc (.cells #[.int .i64 k, .string ⟨s.toArray⟩, .int .u64 n, .int .i64 a, .int .i64 b, .int .i64 c] 76)).alloc (.cells #[.int .i64 0, .string ⟨#[]⟩, .int .u64 0, .int .i64 0, .int .i64 0, .int .i64 0] 76)).alloc (.cells #[.int .i64 k, .string ⟨#[]⟩, .int .u64 0, .int .i64 0, .int .i64 0, .int .i64 0] 76)).later hb1)
  simp only [World.size_alloc] at M
  have K : Hid (w1.heap[w.heap.size + 1]? = some (.cells #[.int .i64 0, .string ⟨#[]⟩, .int .u64 0, .int .i64 0, .int .i64 0, .int .i64 0] 76 (0, 0))) := Lib.hid (M.out.get 1 rfl)
  have r := M.out.rules; simp only [AllCells, CellsAt, Nat.zero_add] at r
  clear hb1
  rcases hrow with ⟨_, rfl⟩ | ⟨g, rfl, hg⟩
  · skip
    go_wp2_with fail
    refine wp_loop_rounds 4 ?_
    simp only [rounds_succ]
    go_wp2_with fail
    refine gen_world (Q := fun W => bodyPost _ _ _ _ _ W) (fun W => W.heap[w.heap.size + 1]? = some (.cells #[.int .i64 k, .string ⟨#[]⟩, .int .u64 0, .int .i64 0, .int .i64 0, .int .i64 0] 76 (0, 0)) ∧ Below w.heap.size w W) ⟨?_, ?_⟩ ?_
    · refine put6_blk (cs := #[.int .i64 0, .string ⟨#[]⟩, .int .u64 0, .int .i64 0, .int .i64 0, .int .i64 0]) ?_ rfl
      repeat (first | with_reducible exact K.out | refine blk_far (by omega) ?_)
    · repeat (first | with_reducible exact HB.out | with_reducible refine Below.setCell ?_ (show _ ≤ _ by simp <;> omega) _)
    · rintro W ⟨hx, hb⟩
      exact bodyPost_ret (v := .agg #[.int .i64 k, .string ⟨#[]⟩, .int .u64 0, .int .i64 0, .int .i64 0, .int .i64 0]) (by simp [results, Try.results73, go_sem, World.cell?, hx]) rfl ⟨rfl, hb⟩
  · go_wp2_with fail
    refine wp_loop_rounds 4 ?_
    simp only [rounds_succ]
    go_wp2_with fail
    refine gen_world (Q := fun W => bodyPost _ _ _ _ _ W) (fun W => W.heap[w.heap.size + 1]? = some (.cells #[.int .i64 k, .string ⟨#[]⟩, .int .u64 0, .int .i64 0, .int .i64 0, .int .i64 0] 76 (0, 0)) ∧ Below w.heap.size w W) ⟨?_, ?_⟩ ?_
    · refine put6_blk (cs := #[.int .i64 0, .string ⟨#[]⟩, .int .u64 0, .int .i64 0, .int .i64 0, .int .i64 0]) ?_ rfl
      repeat (first | with_reducible exact K.out | refine blk_far (by omega) ?_)
    · repeat (first | with_reducible exact HB.out | with_reducible refine Below.setCell ?_ (show _ ≤ _ by simp <;> omega) _)
    · rintro W ⟨hx, hb⟩
      exact bodyPost_ret (v := .agg #[.int .i64 k, .string ⟨#[]⟩, .int .u64 0, .int .i64 0, .int .i64 0, .int .i64 0]) (by simp [results, Try.results73, go_sem, World.cell?, hx]) rfl ⟨rfl, hb⟩
theorem only_any {t : Sough.Term} (w : World) : Calls Try.prog 73 #[.agg #[.int .i64 t.k, .string ⟨t.s.toArray⟩, .int .u64 t.n, .int .i64 t.a, .int .i64 t.b, .int .i64 t.c]] w (OnlyTo w (#[.int .i64 (Sough.onlyT t).k, .string ⟨(Sough.onlyT t).s.toArray⟩, .int .u64 (Sough.onlyT t).n, .int .i64 (Sough.onlyT t).a, .int .i64 (Sough.onlyT t).b, .int .i64 (Sough.onlyT t).c])) := by
  obtain ⟨k, s, n, a, b, c⟩ := t
  by_cases h1 : k = 1
  · subst h1; exact only_1 w
  by_cases h2 : k = 2
  · subst h2; exact only_2 w
  by_cases h3 : k = 3
  · subst h3; exact only_3 w
  by_cases h4 : k = 4
  · subst h4; exact only_4 w
  by_cases h5 : k = 5
  · subst h5; exact only_5 w
  by_cases h6 : k = 6
  · subst h6; exact only_6 w
  by_cases h7 : k = 7
  · subst h7; exact only_7 w
  by_cases h8 : k = 8
  · subst h8; exact only_8 w
  by_cases h9 : k = 9
  · subst h9; exact only_9 w
  by_cases h10 : k = 10
  · subst h10; exact only_10 w
  by_cases h11 : k = 11
  · subst h11; exact only_11 w
  have e : Sough.onlyT ⟨k, s, n, a, b, c⟩ = ⟨k, [], 0, 0, 0, 0⟩ := by simp [Sough.onlyT, Sough.partsOf, h1, h2, h3, h4, h5, h6, h7, h8, h9, h10, h11]
  rw [e]
  exact only_no w h1 h2 h3 h4 h5 h6 h7 h8 h9 h10 h11
end Go.Proofs.Ytlfgempjjoclbaa
namespace Go.Proofs.Ytlfgempjjoclbaa
open Go.RowKit Go.Maps Go.ChangeMaps
set_option maxRecDepth 100000 in
set_option maxHeartbeats 1600000 in
theorem eqTerm (m q : Sough.Term) (w : World) : (Op.equalIn 10000 76 (.agg #[.int .i64 m.k, .string ⟨m.s.toArray⟩, .int .u64 m.n, .int .i64 m.a, .int .i64 m.b, .int .i64 m.c]) (.agg #[.int .i64 q.k, .string ⟨q.s.toArray⟩, .int .u64 q.n, .int .i64 q.a, .int .i64 q.b, .int .i64 q.c])).run Try.prog w = .ok (decide (m = q)) w := by
  have u1 := Try.underlying3
  have a1 := Try.isAgg3
  have z1 := Try.sizeOf3
  have u2 := Try.underlying32
  have a2 := Try.isAgg32
  have z2 := Try.sizeOf32
  have u3 := Try.underlying9
  have a3 := Try.isAgg9
  have z3 := Try.sizeOf9
  have hS : Try.prog.underlying 76 = some (.struct (Try.prog.fieldsOf 76)) := by kernel_rfl
  rw [show (10000 : Nat) = 9999 + 1 from rfl, run_equalIn_agg w 9999 76 _ _ hS (by kernel_rfl)]
  simp only [Program.fieldsOf, Try.underlying76]
  go_simp
  obtain ⟨k, s, n, a, b, c⟩ := m
  obtain ⟨k', s', n', a', b', c'⟩ := q
  by_cases h0 : k = k'
  rotate_left
  · simp [h0]
  subst h0
  by_cases h1 : s = s'
  rotate_left
  · simp [h1]
  subst h1
  by_cases h2 : n = n'
  rotate_left
  · simp [h2]
    omega
  subst h2
  by_cases h3 : a = a'
  rotate_left
  · simp [h3]
  subst h3
  by_cases h4 : b = b'
  rotate_left
  · simp [h4]
  subst h4
  by_cases h5 : c = c'
  rotate_left
  · simp [h5]
  subst h5
  simp
set_option maxRecDepth 100000 in
set_option maxHeartbeats 3200000 in
theorem may_low {p n : Nat} {st : Sough.Store} {S : List Nat} {k a b c : Int} {s : List UInt8} (w : World) (h : StoreAt w p st S) (hl : st.l.length ≤ 1048576) (h1 : k < 1) : Calls Try.prog 51 #[.pointer (some ⟨p, 0, none⟩), .agg #[.int .i64 k, .string ⟨s.toArray⟩, .int .u64 n, .int .i64 a, .int .i64 b, .int .i64 c]] w fun e w' => e = .returned (.bool false) ∧ Below w.heap.size w w' := by
  have d0 : decide (k < 1) = true := by simp; omega
  have HS := Lib.hid h
  have CO := Lib.hid fun (W : World) => only_any (t := ⟨k, s, n, a, b, c⟩) W
  have CL := Lib.hid fun (W : World) (hb : Below w.heap.size w W) => len_any W (HS.out.later hb) hl
  clear h
  have M : Hid (Mem w [(w.heap.size, .cells #[.int .i64 k, .string ⟨s.toArray⟩, .int .u64 n, .int .i64 a, .int .i64 b, .int .i64 c] 76 (0, 0))] (w.alloc (.cells #[.int .i64 k, .string ⟨s.toArray⟩, .int .u64 n, .int .i64 a, .int .i64 b, .int .i64 c] 76))) := Lib.hid ((Mem.start w).alloc _)
  have r := M.out.rulesL; simp only [AllCells, CellsAt, Nat.zero_add] at r
  have EG : Try.prog.eqGuardType Try.prog.depth 76 = false := by kernel_rfl
  go_enter Try.func51, Try.ntmps51
  go_wp2_with fail
  generalize w.alloc (.cells #[.int .i64 k, .string ⟨s.toArray⟩, .int .u64 n, .int .i64 a, .int .i64 b, .int .i64 c] 76) = W1 at *
  refine wp_region_later (by kernel_rfl) (by kernel_rfl) ?_
  repeat go_big_quiet_step (fail)
  refine wpQuiet_nil ?_
  rintro ⟨w2, hb2⟩
  change Exit.then _ _ _ _ w2
  have HB := Lib.hid ((M.out.later hb2).bel)
  clear hb2 r EG
  go_wp2_with fail
  go_ret
  exact ⟨rfl, HB.out⟩
set_option maxRecDepth 100000 in
set_option maxHeartbeats 3200000 in
theorem may_high {p n : Nat} {st : Sough.Store} {S : List Nat} {k a b c : Int} {s : List UInt8} (w : World) (h : StoreAt w p st S) (hl : st.l.length ≤ 1048576) (h1 : ¬ k < 1) (h2 : 12 ≤ k) : Calls Try.prog 51 #[.pointer (some ⟨p, 0, none⟩), .agg #[.int .i64 k, .string ⟨s.toArray⟩, .int .u64 n, .int .i64 a, .int .i64 b, .int .i64 c]] w fun e w' => e = .returned (.bool false) ∧ Below w.heap.size w w' := by
  have d0 : decide (k < 1) = false := by simp; omega
  have d1 : decide (12 ≤ k) = true := by simp; omega
  have HS := Lib.hid h
  have CO := Lib.hid fun (W : World) => only_any (t := ⟨k, s, n, a, b, c⟩) W
  have CL := Lib.hid fun (W : World) (hb : Below w.heap.size w W) => len_any W (HS.out.later hb) hl
  clear h
  have M : Hid (Mem w [(w.heap.size, .cells #[.int .i64 k, .string ⟨s.toArray⟩, .int .u64 n, .int .i64 a, .int .i64 b, .int .i64 c] 76 (0, 0))] (w.alloc (.cells #[.int .i64 k, .string ⟨s.toArray⟩, .int .u64 n, .int .i64 a, .int .i64 b, .int .i64 c] 76))) := Lib.hid ((Mem.start w).alloc _)
  have r := M.out.rulesL; simp only [AllCells, CellsAt, Nat.zero_add] at r
  have EG : Try.prog.eqGuardType Try.prog.depth 76 = false := by kernel_rfl
  go_enter Try.func51, Try.ntmps51
  go_wp2_with fail
  generalize w.alloc (.cells #[.int .i64 k, .string ⟨s.toArray⟩, .int .u64 n, .int .i64 a, .int .i64 b, .int .i64 c] 76) = W1 at *
  refine wp_region_later (by kernel_rfl) (by kernel_rfl) ?_
  repeat go_big_quiet_step (fail)
  refine wpQuiet_nil ?_
  rintro ⟨w2, hb2⟩
  change Exit.then _ _ _ _ w2
  have HB := Lib.hid ((M.out.later hb2).bel)
  clear hb2 r EG
  go_wp2_with fail
  go_ret
  exact ⟨rfl, HB.out⟩
set_option maxRecDepth 100000 in
set_option maxHeartbeats 3200000 in
theorem may_only {p n : Nat} {st : Sough.Store} {S : List Nat} {k a b c : Int} {s : List UInt8} {o : Sough.Term} (w : World) (h : StoreAt w p st S) (hl : st.l.length ≤ 1048576) (h1 : ¬ k < 1) (h2 : ¬ 12 ≤ k) (ho : Sough.onlyT ⟨k, s, n, a, b, c⟩ = o) (h3 : (⟨k, s, n, a, b, c⟩ : Sough.Term) ≠ o) : Calls Try.prog 51 #[.pointer (some ⟨p, 0, none⟩), .agg #[.int .i64 k, .string ⟨s.toArray⟩, .int .u64 n, .int .i64 a, .int .i64 b, .int .i64 c]] w fun e w' => e = .returned (.bool false) ∧ Below w.heap.size w w' := by
  have EQ : ∀ w, (Op.equalIn 10000 76 (.agg #[.int .i64 k, .string ⟨s.toArray⟩, .int .u64 n, .int .i64 a, .int .i64 b, .int .i64 c]) (.agg #[.int .i64 o.k, .string ⟨o.s.toArray⟩, .int .u64 o.n, .int .i64 o.a, .int .i64 o.b, .int .i64 o.c])).run Try.prog w = .ok false w := fun w => (eqTerm ⟨k, s, n, a, b, c⟩ o w).trans (by rw [show decide ((⟨k, s, n, a, b, c⟩ : Sough.Term) = o) = false by simp [h3]])
  clear h3
  have HO := Lib.hid ho
  clear ho
  have d0 : decide (k < 1) = false := by simp; omega
  have d1 : decide (12 ≤ k) = false := by simp; omega
  have HS := Lib.hid h
  have CO := Lib.hid fun (W : World) => only_any (t := ⟨k, s, n, a, b, c⟩) W
  have CL := Lib.hid fun (W : World) (hb : Below w.heap.size w W) => len_any W (HS.out.later hb) hl
  clear h
  have M : Hid (Mem w [(w.heap.size, .cells #[.int .i64 k, .string ⟨s.toArray⟩, .int .u64 n, .int .i64 a, .int .i64 b, .int .i64 c] 76 (0, 0))] (w.alloc (.cells #[.int .i64 k, .string ⟨s.toArray⟩, .int .u64 n, .int .i64 a, .int .i64 b, .int .i64 c] 76))) := Lib.hid ((Mem.start w).alloc _)
  have r := M.out.rulesL; simp only [AllCells, CellsAt, Nat.zero_add] at r
  have EG : Try.prog.eqGuardType Try.prog.depth 76 = false := by kernel_rfl
  go_enter Try.func51, Try.ntmps51
  go_wp2_with fail
  generalize w.alloc (.cells #[.int .i64 k, .string ⟨s.toArray⟩, .int .u64 n, .int .i64 a, .int .i64 b, .int .i64 c] 76) = W1 at *
  refine wp_region_later (by kernel_rfl) (by kernel_rfl) ?_
  have CO2 : ∀ x : Later W1, Calls Try.prog 73 #[.agg #[.int .i64 k, .string ⟨s.toArray⟩, .int .u64 n, .int .i64 a, .int .i64 b, .int .i64 c]] x.world fun e w' => e = .returned (.agg #[.int .i64 o.k, .string ⟨o.s.toArray⟩, .int .u64 o.n, .int .i64 o.a, .int .i64 o.b, .int .i64 o.c]) ∧ Below x.world.heap.size x.world w' := fun x => by have := CO.out x.world; rw [HO.out] at this; exact this
  repeat (first | go_big_quiet_step (fail) | go_big_quiet_step ((go_at_call 73; exact Calls.later (CO2 _))))
  clear EQ CO2
  refine wpQuiet_nil ?_
  rintro ⟨w2, hb2⟩
  change Exit.then _ _ _ _ w2
  have HB := Lib.hid ((M.out.later hb2).bel)
  clear hb2 r EG
  go_wp2_with fail
  go_ret
  exact ⟨rfl, HB.out⟩
set_option maxRecDepth 100000 in
set_option maxHeartbeats 3200000 in
theorem may_long {p n : Nat} {st : Sough.Store} {S : List Nat} {k a b c : Int} {s : List UInt8} {o : Sough.Term} (w : World) (h : StoreAt w p st S) (hl : st.l.length ≤ 1048576) (h1 : ¬ k < 1) (h2 : ¬ 12 ≤ k) (ho : Sough.onlyT ⟨k, s, n, a, b, c⟩ = o) (h3 : (⟨k, s, n, a, b, c⟩ : Sough.Term) = o) (h4 : 1000 < s.length) : Calls Try.prog 51 #[.pointer (some ⟨p, 0, none⟩), .agg #[.int .i64 k, .string ⟨s.toArray⟩, .int .u64 n, .int .i64 a, .int .i64 b, .int .i64 c]] w fun e w' => e = .returned (.bool false) ∧ Below w.heap.size w w' := by
  have EQ : ∀ w, (Op.equalIn 10000 76 (.agg #[.int .i64 k, .string ⟨s.toArray⟩, .int .u64 n, .int .i64 a, .int .i64 b, .int .i64 c]) (.agg #[.int .i64 o.k, .string ⟨o.s.toArray⟩, .int .u64 o.n, .int .i64 o.a, .int .i64 o.b, .int .i64 o.c])).run Try.prog w = .ok true w := fun w => (eqTerm ⟨k, s, n, a, b, c⟩ o w).trans (by rw [show decide ((⟨k, s, n, a, b, c⟩ : Sough.Term) = o) = true by simp [h3]])
  clear h3
  have HO := Lib.hid ho
  clear ho
  have d0 : decide (k < 1) = false := by simp; omega
  have d1 : decide (12 ≤ k) = false := by simp; omega
  have d2 : decide (1000 < (s.length : Int)) = true := by simp; omega
  have HS := Lib.hid h
  have CO := Lib.hid fun (W : World) => only_any (t := ⟨k, s, n, a, b, c⟩) W
  have CL := Lib.hid fun (W : World) (hb : Below w.heap.size w W) => len_any W (HS.out.later hb) hl
  clear h
  have M : Hid (Mem w [(w.heap.size, .cells #[.int .i64 k, .string ⟨s.toArray⟩, .int .u64 n, .int .i64 a, .int .i64 b, .int .i64 c] 76 (0, 0))] (w.alloc (.cells #[.int .i64 k, .string ⟨s.toArray⟩, .int .u64 n, .int .i64 a, .int .i64 b, .int .i64 c] 76))) := Lib.hid ((Mem.start w).alloc _)
  have r := M.out.rulesL; simp only [AllCells, CellsAt, Nat.zero_add] at r
  have EG : Try.prog.eqGuardType Try.prog.depth 76 = false := by kernel_rfl
  go_enter Try.func51, Try.ntmps51
  go_wp2_with fail
  generalize w.alloc (.cells #[.int .i64 k, .string ⟨s.toArray⟩, .int .u64 n, .int .i64 a, .int .i64 b, .int .i64 c] 76) = W1 at *
  refine wp_region_later (by kernel_rfl) (by kernel_rfl) ?_
  have CO2 : ∀ x : Later W1, Calls Try.prog 73 #[.agg #[.int .i64 k, .string ⟨s.toArray⟩, .int .u64 n, .int .i64 a, .int .i64 b, .int .i64 c]] x.world fun e w' => e = .returned (.agg #[.int .i64 o.k, .string ⟨o.s.toArray⟩, .int .u64 o.n, .int .i64 o.a, .int .i64 o.b, .int .i64 o.c]) ∧ Below x.world.heap.size x.world w' := fun x => by have := CO.out x.world; rw [HO.out] at this; exact this
  repeat (first | go_big_quiet_step (fail) | go_big_quiet_step ((go_at_call 73; exact Calls.later (CO2 _))))
  clear EQ CO2
  refine wpQuiet_nil ?_
  rintro ⟨w2, hb2⟩
  change Exit.then _ _ _ _ w2
  have HB := Lib.hid ((M.out.later hb2).bel)
  clear hb2 r EG
  go_wp2_with fail
  go_ret
  exact ⟨rfl, HB.out⟩
set_option maxRecDepth 100000 in
set_option maxHeartbeats 3200000 in
theorem may_share {p n : Nat} {st : Sough.Store} {S : List Nat} {k a b c : Int} {s : List UInt8} {o : Sough.Term} (w : World) (h : StoreAt w p st S) (hl : st.l.length ≤ 1048576) (h1 : ¬ k < 1) (h2 : ¬ 12 ≤ k) (ho : Sough.onlyT ⟨k, s, n, a, b, c⟩ = o) (h3 : (⟨k, s, n, a, b, c⟩ : Sough.Term) = o) (h4 : s.length ≤ 1000) (h5 : k = 4) (h6 : b < a) : Calls Try.prog 51 #[.pointer (some ⟨p, 0, none⟩), .agg #[.int .i64 k, .string ⟨s.toArray⟩, .int .u64 n, .int .i64 a, .int .i64 b, .int .i64 c]] w fun e w' => e = .returned (.bool false) ∧ Below w.heap.size w w' := by
  have EQ : ∀ w, (Op.equalIn 10000 76 (.agg #[.int .i64 k, .string ⟨s.toArray⟩, .int .u64 n, .int .i64 a, .int .i64 b, .int .i64 c]) (.agg #[.int .i64 o.k, .string ⟨o.s.toArray⟩, .int .u64 o.n, .int .i64 o.a, .int .i64 o.b, .int .i64 o.c])).run Try.prog w = .ok true w := fun w => (eqTerm ⟨k, s, n, a, b, c⟩ o w).trans (by rw [show decide ((⟨k, s, n, a, b, c⟩ : Sough.Term) = o) = true by simp [h3]])
  clear h3
  have HO := Lib.hid ho
  clear ho
  have d0 : decide (k < 1) = false := by simp; omega
  have d1 : decide (12 ≤ k) = false := by simp; omega
  have d2 : decide (1000 < (s.length : Int)) = false := by simp; omega
  have d3 : (k == 4) = true := by simp; omega
  have d4 : decide (b < a) = true := by simp; omega
  clear h5
  have HS := Lib.hid h
  have CO := Lib.hid fun (W : World) => only_any (t := ⟨k, s, n, a, b, c⟩) W
  have CL := Lib.hid fun (W : World) (hb : Below w.heap.size w W) => len_any W (HS.out.later hb) hl
  clear h
  have M : Hid (Mem w [(w.heap.size, .cells #[.int .i64 k, .string ⟨s.toArray⟩, .int .u64 n, .int .i64 a, .int .i64 b, .int .i64 c] 76 (0, 0))] (w.alloc (.cells #[.int .i64 k, .string ⟨s.toArray⟩, .int .u64 n, .int .i64 a, .int .i64 b, .int .i64 c] 76))) := Lib.hid ((Mem.start w).alloc _)
  have r := M.out.rulesL; simp only [AllCells, CellsAt, Nat.zero_add] at r
  have EG : Try.prog.eqGuardType Try.prog.depth 76 = false := by kernel_rfl
  go_enter Try.func51, Try.ntmps51
  go_wp2_with fail
  generalize w.alloc (.cells #[.int .i64 k, .string ⟨s.toArray⟩, .int .u64 n, .int .i64 a, .int .i64 b, .int .i64 c] 76) = W1 at *
  refine wp_region_later (by kernel_rfl) (by kernel_rfl) ?_
  have CO2 : ∀ x : Later W1, Calls Try.prog 73 #[.agg #[.int .i64 k, .string ⟨s.toArray⟩, .int .u64 n, .int .i64 a, .int .i64 b, .int .i64 c]] x.world fun e w' => e = .returned (.agg #[.int .i64 o.k, .string ⟨o.s.toArray⟩, .int .u64 o.n, .int .i64 o.a, .int .i64 o.b, .int .i64 o.c]) ∧ Below x.world.heap.size x.world w' := fun x => by have := CO.out x.world; rw [HO.out] at this; exact this
  repeat (first | go_big_quiet_step (fail) | go_big_quiet_step ((go_at_call 73; exact Calls.later (CO2 _))))
  clear EQ CO2
  refine wpQuiet_nil ?_
  rintro ⟨w2, hb2⟩
  change Exit.then _ _ _ _ w2
  have HB := Lib.hid ((M.out.later hb2).bel)
  clear hb2 r EG
  go_wp2_with fail
  go_ret
  exact ⟨rfl, HB.out⟩
def inside (st : Sough.Store) (x : Int) : Bool := decide (1 ≤ x) && decide (x ≤ st.l.length)
def MayR (st : Sough.Store) (l : List Int) (W : World) (iv : Value) (wr : World) : Prop := ∃ i : Nat, i ≤ l.length ∧ iv = .int .i64 i ∧ (l.take i).all (inside st) = true ∧ wr = W
theorem row_cell {w : World} {g : Nat} {l : List Int} {T : TypeId} (h : w.heap[g]? = some (.cells (l.map (Value.int .i64)).toArray T (0, 0))) {i : Nat} (hi : i < l.length) : w.cell? ⟨g, i, none⟩ = some (.int .i64 (l.getD i 0)) := by
  simp [World.cell?, h, List.getElem?_eq_getElem hi]
set_option maxRecDepth 100000 in
set_option maxHeartbeats 3200000 in
theorem may_other {p n : Nat} {st : Sough.Store} {S : List Nat} {k a b c : Int} {s : List UInt8} {o : Sough.Term} {l : List Int} (w : World) (h : StoreAt w p st S) (hl : st.l.length ≤ 1048576) (h1 : ¬ k < 1) (h2 : ¬ 12 ≤ k) (ho : Sough.onlyT ⟨k, s, n, a, b, c⟩ = o) (h3 : (⟨k, s, n, a, b, c⟩ : Sough.Term) = o) (h4 : s.length ≤ 1000) (h5 : ¬ k = 4) (hp : Sough.partsOf ⟨k, s, n, a, b, c⟩ = l) : Calls Try.prog 51 #[.pointer (some ⟨p, 0, none⟩), .agg #[.int .i64 k, .string ⟨s.toArray⟩, .int .u64 n, .int .i64 a, .int .i64 b, .int .i64 c]] w fun e w' => e = .returned (.bool (l.all (inside st))) ∧ Below w.heap.size w w' := by
  have EQ : ∀ w, (Op.equalIn 10000 76 (.agg #[.int .i64 k, .string ⟨s.toArray⟩, .int .u64 n, .int .i64 a, .int .i64 b, .int .i64 c]) (.agg #[.int .i64 o.k, .string ⟨o.s.toArray⟩, .int .u64 o.n, .int .i64 o.a, .int .i64 o.b, .int .i64 o.c])).run Try.prog w = .ok true w := fun w => (eqTerm ⟨k, s, n, a, b, c⟩ o w).trans (by rw [show decide ((⟨k, s, n, a, b, c⟩ : Sough.Term) = o) = true by simp [h3]])
  clear h3
  have HO := Lib.hid ho
  have HL := Lib.hid hp
  clear ho hp
  have d0 : decide (k < 1) = false := by simp; omega
  have d1 : decide (12 ≤ k) = false := by simp; omega
  have d2 : decide (1000 < (s.length : Int)) = false := by simp; omega
  have d3 : (k == 4) = false := by simp; omega
  have HS := Lib.hid h
  have CO := Lib.hid fun (W : World) => only_any (t := ⟨k, s, n, a, b, c⟩) W
  have CL := Lib.hid fun (W : World) (hb : Below w.heap.size w W) => len_any W (HS.out.later hb) hl
  clear h
  have M : Hid (Mem w [(w.heap.size, .cells #[.int .i64 k, .string ⟨s.toArray⟩, .int .u64 n, .int .i64 a, .int .i64 b, .int .i64 c] 76 (0, 0))] (w.alloc (.cells #[.int .i64 k, .string ⟨s.toArray⟩, .int .u64 n, .int .i64 a, .int .i64 b, .int .i64 c] 76))) := Lib.hid ((Mem.start w).alloc _)
  have r := M.out.rulesL; simp only [AllCells, CellsAt, Nat.zero_add] at r
  have EG : Try.prog.eqGuardType Try.prog.depth 76 = false := by kernel_rfl
  go_enter Try.func51, Try.ntmps51
  go_wp2_with fail
  generalize w.alloc (.cells #[.int .i64 k, .string ⟨s.toArray⟩, .int .u64 n, .int .i64 a, .int .i64 b, .int .i64 c] 76) = W1 at *
  refine wp_region_later (by kernel_rfl) (by kernel_rfl) ?_
  have CO2 : ∀ x : Later W1, Calls Try.prog 73 #[.agg #[.int .i64 k, .string ⟨s.toArray⟩, .int .u64 n, .int .i64 a, .int .i64 b, .int .i64 c]] x.world fun e w' => e = .returned (.agg #[.int .i64 o.k, .string ⟨o.s.toArray⟩, .int .u64 o.n, .int .i64 o.a, .int .i64 o.b, .int .i64 o.c]) ∧ Below x.world.heap.size x.world w' := fun x => by have := CO.out x.world; rw [HO.out] at this; exact this
  repeat (first | go_big_quiet_step (fail) | go_big_quiet_step ((go_at_call 73; exact Calls.later (CO2 _))))
  clear EQ CO2
  clear d0 d1 d2 d3
  refine wpQuiet_nil ?_
  rintro ⟨w2, hb2⟩
  change Exit.then _ _ _ _ w2
  have M2 := Lib.hid (M.out.later hb2)
  clear hb2 r EG
  have r2 := M2.out.rules; simp only [AllCells, CellsAt, Nat.zero_add] at r2
  go_wp2_with fail
  refine (parts_any (t := ⟨k, s, n, a, b, c⟩) (l := l) HL.out _).mono ?_
  rintro e w3 ⟨v, rfl, hrow, hb3⟩
  have M3 := Lib.hid (M2.out.later hb3)
  clear hb3 r2
  obtain ⟨m, hm⟩ : ∃ m, m = l.length := ⟨_, rfl⟩
  have HM := Lib.hid hm
  obtain ⟨x, hv, hx⟩ : ∃ x, v = .slice x m m ∧ ∀ i, i < l.length → ∃ g, x = some ⟨g, 0, none⟩ ∧ w3.cell? ⟨g, i, none⟩ = some (.int .i64 (l.getD i 0)) := by
    rcases hrow with ⟨rfl, rfl⟩ | ⟨g, rfl, hg⟩
    · subst hm; exact ⟨none, rfl, fun i hi => absurd hi (by simp)⟩
    · exact ⟨some ⟨g, 0, none⟩, by rw [hm], fun i hi => ⟨g, rfl, row_cell hg hi⟩⟩
  subst hv
  have HX := Lib.hid hx
  have hm3 : m ≤ 3 := by have := HL.out; have h3 := Sough.partsOf_few ⟨k, s, n, a, b, c⟩; rw [this, ← hm] at h3; exact h3
  clear hrow hx hm
  go_wp2_with fail
  go_loopw [42] (fun iv wr => MayR st l w3 iv wr) (fun iv _ => m - (intOf iv).toNat)
  case atStart => exact ⟨0, Nat.zero_le _, rfl, rfl, rfl⟩
  case round =>
    obtain ⟨i, hi, rfl, hok, rfl⟩ := hrel
    rw [← HM.out] at hi
    have HOK := Lib.hid hok
    clear hok
    by_cases hlt : i < m
    · obtain ⟨g, rfl, hc⟩ := HX.out i (by rw [← HM.out]; exact hlt)
      have htk : l.take (i + 1) = l.take i ++ [l.getD i 0] := by
        have hil : i < l.length := by rw [← HM.out]; exact hlt
        rw [List.take_succ_eq_append_getElem hil, List.getD_eq_getElem?_getD, List.getElem?_eq_getElem hil]; rfl
      have HT := Lib.hid htk
      have hfin : inside st (l.getD i 0) = false → l.all (inside st) = false := fun hf => by
        rw [← List.take_append_drop (i + 1) l, HT.out, List.all_append, List.all_append, List.all_cons, hf]; simp
      have HF := Lib.hid hfin
      clear htk hfin
      generalize hy : l.getD i 0 = y at *
      have HY := Lib.hid hy
      clear hy
      by_cases h7 : y < 1
      · have e1 : decide (y < 1) = true := by simp; omega
        have HR : Hid (l.all (inside st) = false) := Lib.hid (HF.out (by unfold inside; rw [decide_eq_false (by omega)]; rfl))
        go_wp2_with fail
        go_ret
        exact ⟨ret_bool HR.out.symm, M3.out.bel⟩
      · have e1 : decide (y < 1) = false := by simp; omega
        by_cases h8 : (st.l.length : Int) < y
        · have e2 : decide ((st.l.length : Int) < y) = true := by simp; omega
          have HR : Hid (l.all (inside st) = false) := Lib.hid (HF.out (by unfold inside; rw [decide_eq_false (p := y ≤ _) (by omega), Bool.and_false]))
          go_wp2_with fail
          refine (CL.out _ M3.out.bel).mono ?_
          rintro e w4 ⟨rfl, rfl⟩
          go_wp2_with fail
          go_ret
          exact ⟨ret_bool HR.out.symm, M3.out.bel⟩
        · have e2 : decide ((st.l.length : Int) < y) = false := by simp; omega
          have HR : Hid ((l.take (i + 1)).all (inside st) = true) := Lib.hid (by rw [HT.out, List.all_append, HOK.out]; simp [inside]; omega)
          go_wp2_with fail
          refine (CL.out _ M3.out.bel).mono ?_
          rintro e w4 ⟨rfl, rfl⟩
          go_wp2_with fail
          go_roundw
          case rel => exact ⟨i + 1, by rw [← HM.out]; omega, rfl, HR.out, rfl⟩
          case measure => simp [intOf]; omega
    · obtain rfl : i = m := by omega
      have HR : Hid (l.all (inside st) = true) := Lib.hid (by have := HOK.out; rw [HM.out, List.take_length] at this; exact this)
      go_wp2_with fail
      go_ret
      exact ⟨ret_bool HR.out.symm, M3.out.bel⟩
set_option maxRecDepth 100000 in
set_option maxHeartbeats 3200000 in
theorem may_agree {p n : Nat} {st : Sough.Store} {S : List Nat} {k a b c : Int} {s : List UInt8} {o : Sough.Term} {l : List Int} (w : World) (h : StoreAt w p st S) (hl : st.l.length ≤ 1048576) (h1 : ¬ k < 1) (h2 : ¬ 12 ≤ k) (ho : Sough.onlyT ⟨k, s, n, a, b, c⟩ = o) (h3 : (⟨k, s, n, a, b, c⟩ : Sough.Term) = o) (h4 : s.length ≤ 1000) (h5 : k = 4) (h6 : ¬ b < a) (hp : Sough.partsOf ⟨k, s, n, a, b, c⟩ = l) : Calls Try.prog 51 #[.pointer (some ⟨p, 0, none⟩), .agg #[.int .i64 k, .string ⟨s.toArray⟩, .int .u64 n, .int .i64 a, .int .i64 b, .int .i64 c]] w fun e w' => e = .returned (.bool (l.all (inside st))) ∧ Below w.heap.size w w' := by
  have EQ : ∀ w, (Op.equalIn 10000 76 (.agg #[.int .i64 k, .string ⟨s.toArray⟩, .int .u64 n, .int .i64 a, .int .i64 b, .int .i64 c]) (.agg #[.int .i64 o.k, .string ⟨o.s.toArray⟩, .int .u64 o.n, .int .i64 o.a, .int .i64 o.b, .int .i64 o.c])).run Try.prog w = .ok true w := fun w => (eqTerm ⟨k, s, n, a, b, c⟩ o w).trans (by rw [show decide ((⟨k, s, n, a, b, c⟩ : Sough.Term) = o) = true by simp [h3]])
  clear h3
  have HO := Lib.hid ho
  have HL := Lib.hid hp
  clear ho hp
  have d0 : decide (k < 1) = false := by simp; omega
  have d1 : decide (12 ≤ k) = false := by simp; omega
  have d2 : decide (1000 < (s.length : Int)) = false := by simp; omega
  have d3 : (k == 4) = true := by simp; omega
  have d4 : decide (b < a) = false := by simp; omega
  clear h5
  have HS := Lib.hid h
  have CO := Lib.hid fun (W : World) => only_any (t := ⟨k, s, n, a, b, c⟩) W
  have CL := Lib.hid fun (W : World) (hb : Below w.heap.size w W) => len_any W (HS.out.later hb) hl
  clear h
  have M : Hid (Mem w [(w.heap.size, .cells #[.int .i64 k, .string ⟨s.toArray⟩, .int .u64 n, .int .i64 a, .int .i64 b, .int .i64 c] 76 (0, 0))] (w.alloc (.cells #[.int .i64 k, .string ⟨s.toArray⟩, .int .u64 n, .int .i64 a, .int .i64 b, .int .i64 c] 76))) := Lib.hid ((Mem.start w).alloc _)
  have r := M.out.rulesL; simp only [AllCells, CellsAt, Nat.zero_add] at r
  have EG : Try.prog.eqGuardType Try.prog.depth 76 = false := by kernel_rfl
  go_enter Try.func51, Try.ntmps51
  go_wp2_with fail
  generalize w.alloc (.cells #[.int .i64 k, .string ⟨s.toArray⟩, .int .u64 n, .int .i64 a, .int .i64 b, .int .i64 c] 76) = W1 at *
  refine wp_region_later (by kernel_rfl) (by kernel_rfl) ?_
  have CO2 : ∀ x : Later W1, Calls Try.prog 73 #[.agg #[.int .i64 k, .string ⟨s.toArray⟩, .int .u64 n, .int .i64 a, .int .i64 b, .int .i64 c]] x.world fun e w' => e = .returned (.agg #[.int .i64 o.k, .string ⟨o.s.toArray⟩, .int .u64 o.n, .int .i64 o.a, .int .i64 o.b, .int .i64 o.c]) ∧ Below x.world.heap.size x.world w' := fun x => by have := CO.out x.world; rw [HO.out] at this; exact this
  repeat (first | go_big_quiet_step (fail) | go_big_quiet_step ((go_at_call 73; exact Calls.later (CO2 _))))
  clear EQ CO2
  clear d0 d1 d2 d3 d4
  refine wpQuiet_nil ?_
  rintro ⟨w2, hb2⟩
  change Exit.then _ _ _ _ w2
  have M2 := Lib.hid (M.out.later hb2)
  clear hb2 r EG
  have r2 := M2.out.rules; simp only [AllCells, CellsAt, Nat.zero_add] at r2
  go_wp2_with fail
  refine (parts_any (t := ⟨k, s, n, a, b, c⟩) (l := l) HL.out _).mono ?_
  rintro e w3 ⟨v, rfl, hrow, hb3⟩
  have M3 := Lib.hid (M2.out.later hb3)
  clear hb3 r2
  obtain ⟨m, hm⟩ : ∃ m, m = l.length := ⟨_, rfl⟩
  have HM := Lib.hid hm
  obtain ⟨x, hv, hx⟩ : ∃ x, v = .slice x m m ∧ ∀ i, i < l.length → ∃ g, x = some ⟨g, 0, none⟩ ∧ w3.cell? ⟨g, i, none⟩ = some (.int .i64 (l.getD i 0)) := by
    rcases hrow with ⟨rfl, rfl⟩ | ⟨g, rfl, hg⟩
    · subst hm; exact ⟨none, rfl, fun i hi => absurd hi (by simp)⟩
    · exact ⟨some ⟨g, 0, none⟩, by rw [hm], fun i hi => ⟨g, rfl, row_cell hg hi⟩⟩
  subst hv
  have HX := Lib.hid hx
  have hm3 : m ≤ 3 := by have := HL.out; have h3 := Sough.partsOf_few ⟨k, s, n, a, b, c⟩; rw [this, ← hm] at h3; exact h3
  clear hrow hx hm
  go_wp2_with fail
  go_loopw [42] (fun iv wr => MayR st l w3 iv wr) (fun iv _ => m - (intOf iv).toNat)
  case atStart => exact ⟨0, Nat.zero_le _, rfl, rfl, rfl⟩
  case round =>
    obtain ⟨i, hi, rfl, hok, rfl⟩ := hrel
    rw [← HM.out] at hi
    have HOK := Lib.hid hok
    clear hok
    by_cases hlt : i < m
    · obtain ⟨g, rfl, hc⟩ := HX.out i (by rw [← HM.out]; exact hlt)
      have htk : l.take (i + 1) = l.take i ++ [l.getD i 0] := by
        have hil : i < l.length := by rw [← HM.out]; exact hlt
        rw [List.take_succ_eq_append_getElem hil, List.getD_eq_getElem?_getD, List.getElem?_eq_getElem hil]; rfl
      have HT := Lib.hid htk
      have hfin : inside st (l.getD i 0) = false → l.all (inside st) = false := fun hf => by
        rw [← List.take_append_drop (i + 1) l, HT.out, List.all_append, List.all_append, List.all_cons, hf]; simp
      have HF := Lib.hid hfin
      clear htk hfin
      generalize hy : l.getD i 0 = y at *
      have HY := Lib.hid hy
      clear hy
      by_cases h7 : y < 1
      · have e1 : decide (y < 1) = true := by simp; omega
        have HR : Hid (l.all (inside st) = false) := Lib.hid (HF.out (by unfold inside; rw [decide_eq_false (by omega)]; rfl))
        go_wp2_with fail
        go_ret
        exact ⟨ret_bool HR.out.symm, M3.out.bel⟩
      · have e1 : decide (y < 1) = false := by simp; omega
        by_cases h8 : (st.l.length : Int) < y
        · have e2 : decide ((st.l.length : Int) < y) = true := by simp; omega
          have HR : Hid (l.all (inside st) = false) := Lib.hid (HF.out (by unfold inside; rw [decide_eq_false (p := y ≤ _) (by omega), Bool.and_false]))
          go_wp2_with fail
          refine (CL.out _ M3.out.bel).mono ?_
          rintro e w4 ⟨rfl, rfl⟩
          go_wp2_with fail
          go_ret
          exact ⟨ret_bool HR.out.symm, M3.out.bel⟩
        · have e2 : decide ((st.l.length : Int) < y) = false := by simp; omega
          have HR : Hid ((l.take (i + 1)).all (inside st) = true) := Lib.hid (by rw [HT.out, List.all_append, HOK.out]; simp [inside]; omega)
          go_wp2_with fail
          refine (CL.out _ M3.out.bel).mono ?_
          rintro e w4 ⟨rfl, rfl⟩
          go_wp2_with fail
          go_roundw
          case rel => exact ⟨i + 1, by rw [← HM.out]; omega, rfl, HR.out, rfl⟩
          case measure => simp [intOf]; omega
    · obtain rfl : i = m := by omega
      have HR : Hid (l.all (inside st) = true) := Lib.hid (by have := HOK.out; rw [HM.out, List.take_length] at this; exact this)
      go_wp2_with fail
      go_ret
      exact ⟨ret_bool HR.out.symm, M3.out.bel⟩
theorem may_any {p : Nat} {st : Sough.Store} {S : List Nat} {t : Sough.Term} {z : Bool} (w : World) (h : StoreAt w p st S) (hl : st.l.length ≤ 1048576) (hz : st.may t = z) : Calls Try.prog 51 #[.pointer (some ⟨p, 0, none⟩), .agg #[.int .i64 t.k, .string ⟨t.s.toArray⟩, .int .u64 t.n, .int .i64 t.a, .int .i64 t.b, .int .i64 t.c]] w fun e w' => e = .returned (.bool z) ∧ Below w.heap.size w w' := by
  obtain ⟨k, s, n, a, b, c⟩ := t
  have hin : (inside st) = fun x : Int => decide (1 ≤ x) && decide (x ≤ st.l.length) := rfl
  unfold Sough.Store.may Sough.mayT at hz
  simp only [] at hz
  rw [← hin] at hz
  by_cases h1 : k < 1
  · rw [decide_eq_false (show ¬ 1 ≤ k by omega)] at hz
    simp only [Bool.false_and] at hz
    subst hz; exact may_low w h hl h1
  rw [decide_eq_true (show 1 ≤ k by omega)] at hz
  by_cases h2 : 12 ≤ k
  · rw [decide_eq_false (show ¬ k < 12 by omega)] at hz
    simp only [Bool.false_and, Bool.and_false] at hz
    subst hz; exact may_high w h hl h1 h2
  rw [decide_eq_true (show k < 12 by omega)] at hz
  by_cases h3 : (⟨k, s, n, a, b, c⟩ : Sough.Term) = Sough.onlyT ⟨k, s, n, a, b, c⟩
  rotate_left
  · rw [decide_eq_false h3] at hz
    simp only [Bool.false_and, Bool.and_false] at hz
    subst hz; exact may_only w h hl h1 h2 rfl h3
  rw [decide_eq_true h3] at hz
  by_cases h4 : s.length ≤ 1000
  rotate_left
  · rw [decide_eq_false h4] at hz
    simp only [Bool.false_and, Bool.and_false] at hz
    subst hz; exact may_long w h hl h1 h2 rfl h3 (Nat.lt_of_not_le h4)
  rw [decide_eq_true h4] at hz
  by_cases h5 : k = 4
  · by_cases h6 : b < a
    · rw [decide_eq_true h5, decide_eq_true h6] at hz
      simp only [Bool.and_self, Bool.not_true, Bool.and_false, Bool.false_and] at hz
      subst hz; exact may_share w h hl h1 h2 rfl h3 h4 h5 h6
    · rw [decide_eq_false h6] at hz
      simp only [Bool.and_false, Bool.not_false, Bool.and_self, Bool.true_and] at hz
      subst hz; exact may_agree w h hl h1 h2 rfl h3 h4 h5 h6 rfl
  · rw [decide_eq_false h5] at hz
    simp only [Bool.false_and, Bool.not_false, Bool.and_self, Bool.true_and] at hz
    subst hz; exact may_other w h hl h1 h2 rfl h3 h4 h5 rfl
end Go.Proofs.Ytlfgempjjoclbaa
namespace Sough
def Store.putText (st : Store) (s : List UInt8) : Store × Nat × Nat := st.put ⟨1, s, 0, 0, 0, 0⟩
def dhPublic (st : Store) (x : Int) : Store × Nat × Nat := st.put ⟨3, [], 0, x, 0, 0⟩
def dhAgree (st : Store) (x p : Int) : Store × Nat × Nat :=
  if st.has x = false ∨ (st.at p).k ≠ 3 then (st, 0, 1)
  else if (st.at p).a < x then st.put ⟨4, [], 0, (st.at p).a, x, 0⟩ else st.put ⟨4, [], 0, x, (st.at p).a, 0⟩
def kemPublic (st : Store) (x : Int) : Store × Nat × Nat := st.put ⟨5, [], 0, x, 0, 0⟩
def Store.put2 (st : Store) (t u : Term) : Store × Nat × Nat × Nat :=
  if (st.put t).2.2 ≠ 0 then ((st.put t).1, 0, 0, (st.put t).2.2)
  else if ((st.put t).1.put u).2.2 ≠ 0 then (((st.put t).1.put u).1, 0, 0, ((st.put t).1.put u).2.2)
  else (((st.put t).1.put u).1, (st.put t).2.1, ((st.put t).1.put u).2.1, 0)
def kemWrap (st : Store) (p d : Int) : Store × Nat × Nat × Nat :=
  if (st.at p).k ≠ 5 ∨ st.has d = false then (st, 0, 0, 1) else st.put2 ⟨6, [], 0, (st.at p).a, d, 0⟩ ⟨7, [], 0, (st.at p).a, d, 0⟩
def kemOpen (st : Store) (x b : Int) : Store × Nat × Nat :=
  if st.has x = false ∨ st.has b = false then (st, 0, 1)
  else if (st.at b).k ≠ 6 ∨ (st.at b).a ≠ x then (st, 0, 10) else st.put ⟨7, [], 0, x, (st.at b).b, 0⟩
def kdfHash (st : Store) (a b : Int) : Store × Nat × Nat := st.put ⟨8, [], 0, a, b, 0⟩
def kdfDerive (st : Store) (key : Int) (n : Nat) : Store × Nat × Nat := st.put ⟨9, [], n, key, 0, 0⟩
def kdfMix (st : Store) (key x : Int) : Store × Nat × Nat × Nat :=
  if (kdfHash st key x).2.2 ≠ 0 then ((kdfHash st key x).1, 0, 0, (kdfHash st key x).2.2)
  else (kdfHash st key x).1.put2 ⟨9, [], 1, (kdfHash st key x).2.1, 0, 0⟩ ⟨9, [], 2, (kdfHash st key x).2.1, 0, 0⟩
def aeadSeal (st : Store) (key : Int) (n : Nat) (beside plain : Int) : Store × Nat × Nat := st.put ⟨10, [], n, key, beside, plain⟩
def aeadOpen (st : Store) (key : Int) (n : Nat) (beside sealed : Int) : Int × Nat :=
  if st.has key = false ∨ st.has beside = false ∨ st.has sealed = false then (0, 1)
  else if (st.at sealed).k ≠ 10 ∨ (st.at sealed).a ≠ key ∨ (st.at sealed).n ≠ n ∨ (st.at sealed).b ≠ beside then (0, 9) else ((st.at sealed).c, 0)
structure Sym where
  ck : Int
  k : Int
  h : Int
  n : Nat
deriving DecidableEq
def zeroY : Sym := ⟨0, 0, 0, 0⟩
def symBegin (st : Store) (name : List UInt8) : Store × Sym × Nat :=
  if (st.putText name).2.2 ≠ 0 then ((st.putText name).1, zeroY, (st.putText name).2.2) else ((st.putText name).1, ⟨(st.putText name).2.1, 0, (st.putText name).2.1, 0⟩, 0)
def symHash (st : Store) (y : Sym) (x : Int) : Store × Sym × Nat :=
  if (kdfHash st y.h x).2.2 ≠ 0 then ((kdfHash st y.h x).1, zeroY, (kdfHash st y.h x).2.2) else ((kdfHash st y.h x).1, ⟨y.ck, y.k, (kdfHash st y.h x).2.1, y.n⟩, 0)
def symMix (st : Store) (y : Sym) (x : Int) : Store × Sym × Nat :=
  if (kdfMix st y.ck x).2.2.2 ≠ 0 then ((kdfMix st y.ck x).1, zeroY, (kdfMix st y.ck x).2.2.2) else ((kdfMix st y.ck x).1, ⟨(kdfMix st y.ck x).2.1, (kdfMix st y.ck x).2.2.1, y.h, 0⟩, 0)
def Sym.ready (y : Sym) : Bool := decide (y.k ≠ 0) && decide (y.n < 18446744073709551615)
def symSaid (st : Store) (y : Sym) (sealed x : Int) (er : Nat) : Store × Sym × Int × Nat :=
  if er ≠ 0 then (st, zeroY, 0, er)
  else if (symHash st ⟨y.ck, y.k, y.h, y.n + 1⟩ sealed).2.2 ≠ 0 then ((symHash st ⟨y.ck, y.k, y.h, y.n + 1⟩ sealed).1, zeroY, 0, (symHash st ⟨y.ck, y.k, y.h, y.n + 1⟩ sealed).2.2)
  else ((symHash st ⟨y.ck, y.k, y.h, y.n + 1⟩ sealed).1, (symHash st ⟨y.ck, y.k, y.h, y.n + 1⟩ sealed).2.1, x, 0)
def symSeal (st : Store) (y : Sym) (plain : Int) : Store × Sym × Int × Nat :=
  if y.ready = false then (st, zeroY, 0, 7)
  else symSaid (aeadSeal st y.k y.n y.h plain).1 y (aeadSeal st y.k y.n y.h plain).2.1 (aeadSeal st y.k y.n y.h plain).2.1 (aeadSeal st y.k y.n y.h plain).2.2
def symOpen (st : Store) (y : Sym) (sealed : Int) : Store × Sym × Int × Nat :=
  if y.ready = false then (st, zeroY, 0, 7)
  else symSaid st y sealed (aeadOpen st y.k y.n y.h sealed).1 (aeadOpen st y.k y.n y.h sealed).2
def symSplit (st : Store) (y : Sym) : Store × Nat × Nat × Nat :=
  if (st.putText []).2.2 ≠ 0 then ((st.putText []).1, 0, 0, (st.putText []).2.2) else kdfMix (st.putText []).1 y.ck (st.putText []).2.1
def Int64 (x : Int) : Prop := -9223372036854775808 ≤ x ∧ x ≤ 9223372036854775807
structure Sym.Wf (y : Sym) : Prop where
  ck : Int64 y.ck
  k : Int64 y.k
  h : Int64 y.h
  n : y.n < 18446744073709551616
theorem put_name {st : Store} (h : st.Ok) (t : Term) : (st.put t).2.1 ≤ 1048576 := by
  have h1 := h.len
  have h2 := h.most
  unfold Store.put
  split
  · exact Nat.zero_le _
  · split
    · rename_i i hf
      have := (List.findIdx?_eq_some_iff_getElem.1 hf).1
      show i + 1 ≤ _
      omega
    · split
      · exact Nat.zero_le _
      · show st.l.length + 1 ≤ _; omega
theorem put2_ok {st : Store} (h : st.Ok) {t u : Term} (ht : t.Wf) (hu : u.Wf) : (st.put2 t u).1.Ok := by
  unfold Store.put2
  split
  · exact h.put ht
  · split
    · exact (h.put ht).put hu
    · exact (h.put ht).put hu
theorem at_wf {st : Store} (h : st.Ok) (x : Int) : (st.at x).Wf := by
  unfold Store.at
  split
  · rename_i hx
    unfold Store.has at hx
    rw [Bool.and_eq_true, decide_eq_true_eq, decide_eq_true_eq] at hx
    rw [List.getD_eq_getElem?_getD, List.getElem?_eq_getElem (by omega)]
    exact h.wf _ (List.getElem_mem _)
  · exact zeroT_wf
theorem zeroY_wf : zeroY.Wf := ⟨⟨by decide, by decide⟩, ⟨by decide, by decide⟩, ⟨by decide, by decide⟩, by decide⟩
theorem wf_of {k a b c : Int} {n : Nat} {s : List UInt8} (hk : 0 ≤ k ∧ k ≤ 100) (hs : s.length ≤ 9223372036854775807) (hn : n < 18446744073709551616) (ha : Int64 a) (hb : Int64 b) (hc : Int64 c) : (⟨k, s, n, a, b, c⟩ : Term).Wf := ⟨by simp only; omega, ha, hb, hc, hn, hs⟩
theorem i64_zero : Int64 0 := ⟨by decide, by decide⟩
theorem i64_nat {n : Nat} (h : n ≤ 1048576) : Int64 n := ⟨by omega, by omega⟩
theorem hash_ok {st : Store} {a b : Int} (h : st.Ok) (ha : Int64 a) (hb : Int64 b) : (kdfHash st a b).1.Ok := h.put (wf_of (by omega) (by simp) (by omega) ha hb i64_zero)
theorem mix_ok {st : Store} {a b : Int} (h : st.Ok) (ha : Int64 a) (hb : Int64 b) : (kdfMix st a b).1.Ok := by
  unfold kdfMix
  split
  · exact hash_ok h ha hb
  · have hn : Int64 (kdfHash st a b).2.1 := i64_nat (put_name h _)
    exact put2_ok (hash_ok h ha hb) (wf_of (by omega) (by simp) (by omega) hn i64_zero i64_zero) (wf_of (by omega) (by simp) (by omega) hn i64_zero i64_zero)
theorem symHash_ok {st : Store} {y : Sym} {x : Int} (h : st.Ok) (ha : Int64 y.h) (hx : Int64 x) : (symHash st y x).1.Ok := by
  unfold symHash
  split
  · exact hash_ok h ha hx
  · exact hash_ok h ha hx
theorem symMix_ok {st : Store} {y : Sym} {x : Int} (h : st.Ok) (ha : Int64 y.ck) (hx : Int64 x) : (symMix st y x).1.Ok := by
  unfold symMix
  split
  · exact mix_ok h ha hx
  · exact mix_ok h ha hx
end Sough
namespace Go.Proofs.Ytlfgempjjoclbaa
open Go.RowKit Go.Maps Go.ChangeMaps
def StoreTo (w : World) (S : List Nat) (p : Nat) (st : Sough.Store) (w' : World) : Prop := ∃ S', StoreAt w' p st S' ∧ (∀ i ∈ S', i ∈ S ∨ w.heap.size ≤ i) ∧ Turned S w w'
structure SF (S : List Nat) (w0 W : World) (p : Nat) (st : Sough.Store) (L : List (Nat × Obj)) : Prop where
  store : ∃ S', StoreAt W p st S' ∧ (∀ i ∈ S', i ∈ S ∨ w0.heap.size ≤ i) ∧ ∀ x ∈ L, x.1 ∉ S'
  ok : st.Ok
  tur : Turned S w0 W
  blk : ∀ x ∈ L, W.heap[x.1]? = some x.2 ∧ w0.heap.size ≤ x.1
  apart : (L.map (·.1)).Nodup
section
variable {S : List Nat} {w0 W w' : World} {p : Nat} {st st' : Sough.Store} {L L' : List (Nat × Obj)}
theorem SF.start (h : StoreAt W p st S) (hok : st.Ok) : SF S W W p st [] := ⟨⟨S, h, fun _ hi => .inl hi, fun _ hx => absurd hx (by simp)⟩, hok, Turned.refl _ _, fun _ hx => absurd hx (by simp), by simp⟩
theorem SF.to (h : SF S w0 W p st L) : StoreTo w0 S p st W := by
  obtain ⟨S', h1, h2, _⟩ := h.store
  exact ⟨S', h1, h2, h.tur⟩
theorem SF.later (h : SF S w0 W p st L) (hb : Below W.heap.size W w') : SF S w0 w' p st L := by
  obtain ⟨S', h1, h2, h3⟩ := h.store
  exact ⟨⟨S', h1.later hb, h2, h3⟩, h.ok, h.tur.trans (Turned.below (S := []) hb) (fun j e => absurd e (by simp)), fun x hx => ⟨(hb.block _ (lt_of_block (h.blk x hx).1)).trans (h.blk x hx).1, (h.blk x hx).2⟩, h.apart⟩
theorem SF.sub (h : SF S w0 W p st L) (hs : L'.Sublist L) : SF S w0 W p st L' := by
  obtain ⟨S', h1, h2, h3⟩ := h.store
  exact ⟨⟨S', h1, h2, fun x hx => h3 x (hs.subset hx)⟩, h.ok, h.tur, fun x hx => h.blk x (hs.subset hx), (hs.map _).nodup h.apart⟩
theorem SF.perm (h : SF S w0 W p st L) (hs : L.Perm L') : SF S w0 W p st L' := by
  obtain ⟨S', h1, h2, h3⟩ := h.store
  exact ⟨⟨S', h1, h2, fun x hx => h3 x (hs.mem_iff.2 hx)⟩, h.ok, h.tur, fun x hx => h.blk x (hs.mem_iff.2 hx), (hs.map _).nodup_iff.1 h.apart⟩
theorem SF.alloc (h : SF S w0 W p st L) (o : Obj) : SF S w0 (W.alloc o) p st ((W.heap.size, o) :: L) := by
  have hk := h.later ((Below.refl _ W).alloc (Nat.le_refl _) o)
  obtain ⟨S', h1, h2, h3⟩ := h.store
  refine ⟨⟨S', h1.later ((Below.refl _ W).alloc (Nat.le_refl _) o), h2, fun x hx => ?_⟩, h.ok, hk.tur, fun x hx => ?_, ?_⟩
  · rcases List.mem_cons.1 hx with rfl | hx
    · exact fun hi => by have := h1.lt _ hi; simp only at this; omega
    · exact h3 x hx
  · rcases List.mem_cons.1 hx with rfl | hx
    · exact ⟨heap_alloc_new W o, h.tur.size⟩
    · exact hk.blk x hx
  · rw [List.map_cons, List.nodup_cons]
    refine ⟨fun hi => ?_, h.apart⟩
    obtain ⟨x, hx, e⟩ := List.mem_map.1 hi
    have := lt_of_block (h.blk x hx).1
    simp only at e
    omega
theorem SF.set {k : Nat} {cs : Array Value} {T : TypeId} (h : SF S w0 W p st ((k, .cells cs T (0, 0)) :: L)) (i : Nat) (v : Value) : SF S w0 (W.setCell ⟨k, i, none⟩ v) p st ((k, .cells (cs.setIfInBounds i v) T (0, 0)) :: L) := by
  obtain ⟨S', h1, h2, h3⟩ := h.store
  have hk := h.blk _ (List.mem_cons_self ..)
  have hne : ∀ j, j ≠ k → (W.setCell ⟨k, i, none⟩ v).heap[j]? = W.heap[j]? := fun j hj => Below.heap_setCell _ _ _ _ hj
  have hkS : k ∉ S' := h3 _ (List.mem_cons_self ..)
  have ha := h.apart
  rw [List.map_cons, List.nodup_cons] at ha
  refine ⟨⟨S', h1.same fun j hj => hne j (fun e => hkS (e ▸ hj)), h2, fun x hx => ?_⟩, h.ok, h.tur.trans (Turned.setCell (S := [k]) (w := W) (a := ⟨k, i, none⟩) (by simp) v) (fun j e => .inr (by simp at e; subst e; exact hk.2)), fun x hx => ?_, ?_⟩
  · rcases List.mem_cons.1 hx with rfl | hx
    · exact hkS
    · exact h3 x (List.mem_cons_of_mem _ hx)
  · rcases List.mem_cons.1 hx with rfl | hx
    · refine ⟨?_, hk.2⟩
      have := hk.1
      simp only at this
      simp only [World.setCell, Array.getElem?_modify, if_pos, this]
      simp
    · have hxk : x.1 ≠ k := fun e => ha.1 (by show k ∈ _; rw [← e]; exact List.mem_map_of_mem (f := (·.1)) hx)
      exact ⟨(hne _ hxk).trans (h.blk x (List.mem_cons_of_mem _ hx)).1, (h.blk x (List.mem_cons_of_mem _ hx)).2⟩
  · rw [List.map_cons, List.nodup_cons]; exact ha
theorem SF.turn {S1 : List Nat} (h : SF S w0 W p st L) (hok : st'.Ok) (hS1 : ∀ i ∈ S1, (i ∈ S ∨ w0.heap.size ≤ i)) (hL : ∀ x ∈ L, x.1 ∉ S1) (ht : StoreTo W S1 p st' w') : SF S w0 w' p st' L := by
  obtain ⟨S2, h1, h2, h3⟩ := ht
  refine ⟨⟨S2, h1, fun i hi => ?_, fun x hx hi => ?_⟩, hok, h.tur.trans h3 hS1, fun x hx => ⟨(h3.block _ (lt_of_block (h.blk x hx).1) (hL x hx)).trans (h.blk x hx).1, (h.blk x hx).2⟩, h.apart⟩
  · rcases h2 i hi with e | e
    · exact hS1 i e
    · exact .inr (Nat.le_trans h.tur.size e)
  · rcases h2 _ hi with e | e
    · exact hL x hx e
    · have := lt_of_block (h.blk x hx).1; omega
theorem SF.call {P : Program} {f : FuncId} {args : Array Value} {E : Ending} (h : SF S w0 W p st L) (hok : st'.Ok) (hc : ∀ S1, StoreAt W p st S1 → Calls P f args W fun e w' => e = E ∧ StoreTo W S1 p st' w') :
    Calls P f args W fun e w' => e = E ∧ SF S w0 w' p st' L := by
  obtain ⟨S1, h1, h2, h3⟩ := h.store
  refine (hc S1 h1).mono ?_
  rintro e w' ⟨rfl, ht⟩
  exact ⟨rfl, h.turn hok h2 h3 ht⟩
theorem SF.get (h : SF S w0 W p st L) (i : Nat) {k : Nat} {o : Obj} (hi : L[i]? = some (k, o)) : W.heap[k]? = some o := (h.blk (k, o) (List.mem_of_getElem? hi)).1
theorem SF.mem (h : SF S w0 W p st L) : Mem W L W := ⟨Below.refl _ _, fun x hx => (h.blk x hx).1⟩
end
end Go.Proofs.Ytlfgempjjoclbaa
namespace Go.Proofs.Ytlfgempjjoclbaa
open Go.RowKit Go.Maps Go.ChangeMaps
def PutTo (w : World) (S : List Nat) (p : Nat) (st : Sough.Store) (n er : Nat) (e : Ending) (w' : World) : Prop := e = .returned (.tuple #[.int .i64 n, .int .i64 er]) ∧ StoreTo w S p st w'
theorem StoreTo.below {w w' : World} {S : List Nat} {p : Nat} {st : Sough.Store} (h : StoreAt w p st S) (hb : Below w.heap.size w w') : StoreTo w S p st w' := ⟨S, h.later hb, fun _ hi => .inl hi, Turned.below hb⟩
theorem zeroI (w : World) : (zeroValue 3).run Try.prog w = .ok (.int .i64 0) w := by kernel_rfl
theorem find_at {l : List Sough.Term} {t : Sough.Term} {i : Nat} (h : (l.findIdx? fun x => decide (x = t)) = some i) : ∃ hi : i < l.length, l[i] = t := by
  obtain ⟨hi, h1, _⟩ := List.findIdx?_eq_some_iff_getElem.1 h
  exact ⟨hi, of_decide_eq_true h1⟩
def nameIn (l : List Sough.Term) (t : Sough.Term) : Nat := match l.findIdx? fun x => decide (x = t) with
  | some i => i + 1
  | none => 0
theorem look_name {w : World} {mb : Nat} {D : DataW Unit} {l : List Sough.Term} {t : Sough.Term} (h : w.ownsMap Try.prog 76 (plainElem (H := Unit) Try.prog 3) mb l.length D) (hN : NamesTo D l) (ht : t.Wf) :
    (Instr.lookup 100 (.map (some mb)) (.agg #[.int .i64 t.k, .string ⟨t.s.toArray⟩, .int .u64 t.n, .int .i64 t.a, .int .i64 t.b, .int .i64 t.c]) true).run Try.prog w = .ok (.tuple #[.int .i64 (nameIn l t), .bool (decide (t ∈ l))]) w := by
  obtain ⟨v, ps, hrun, hv⟩ := h.look_ok lawT Try.underlying100 (zeroI w) (zd := mkI 0) (zp := []) (plainElem_int Try.underlying3 (by decide)) (keyOfT ht)
  rw [hN.has t ht] at hrun
  refine hrun.trans ?_
  unfold nameIn
  cases hf : l.findIdx? fun x => decide (x = t) with
  | none =>
    have hn : t ∉ l := fun hin => by
      have := List.findIdx?_eq_none_iff.1 hf t hin
      simp at this
    have hh : Maps.has D (keyT t) = false := by rw [hN.has t ht]; simpa using hn
    rw [atKey_of_not_has hh] at hv
    obtain ⟨a, rfl, e⟩ := plainElem_int_inv Try.underlying3 hv
    simp only [Prod.mk.injEq, DataW.lit.injEq, Lit.int.injEq, true_and] at e
    rw [← e.1.1]
  | some i =>
    obtain ⟨hi, hit⟩ := find_at hf
    have hat := hN.at_ i hi (mkI 0)
    rw [hit] at hat
    rw [hat] at hv
    obtain ⟨a, rfl, e⟩ := plainElem_int_inv Try.underlying3 hv
    simp only [Prod.mk.injEq, DataW.lit.injEq, Lit.int.injEq, true_and] at e
    rw [← e.1.1]
theorem StoreCore.later {w w' : World} {p lb cap db dcap mb : Nat} {st : Sough.Store} {ds : List Nat} {D : DataW Unit} (h : StoreCore w p lb cap db dcap mb st ds D) (hb : Below w.heap.size w w') : StoreCore w' p lb cap db dcap mb st ds D := by
  have e : ∀ i ∈ [p, lb, db, mb], w'.heap[i]? = w.heap[i]? := fun i hi => hb.block i (h.lt i hi)
  refine ⟨(e p (by simp)).trans h.box, ownsRow_same h.row (e lb (by simp)), ownsRow_same h.deep (e db (by simp)), h.low, ?_, h.names, h.apart⟩
  obtain ⟨es, clock, hb, r⟩ := h.map
  exact ⟨es, clock, (e mb (by simp)).trans hb, r⟩
theorem StoreCore.look {w : World} {p lb cap db dcap mb nm : Nat} {st : Sough.Store} {ds : List Nat} {D : DataW Unit} {t : Sough.Term} {z : Bool} (h : StoreCore w p lb cap db dcap mb st ds D) (ht : t.Wf) (hf : nameIn st.l t = nm ∧ decide (t ∈ st.l) = z) (x : Later w) :
    (Instr.lookup 100 (.map (some mb)) (.agg #[.int .i64 t.k, .string ⟨t.s.toArray⟩, .int .u64 t.n, .int .i64 t.a, .int .i64 t.b, .int .i64 t.c]) true).run Try.prog x.world = .ok (.tuple #[.int .i64 nm, .bool z]) x.world := by
  have h := h.later x.below
  have := look_name h.map h.names ht
  rwa [hf.1, hf.2] at this
theorem in_of_find {l : List Sough.Term} {t : Sough.Term} {i : Nat} (h : (l.findIdx? fun x => decide (x = t)) = some i) : nameIn l t = i + 1 ∧ decide (t ∈ l) = true := by
  unfold nameIn
  rw [h]
  obtain ⟨hi, hit⟩ := find_at h
  exact ⟨rfl, by rw [← hit]; simp⟩
theorem not_in_of_find {l : List Sough.Term} {t : Sough.Term} (h : (l.findIdx? fun x => decide (x = t)) = none) : nameIn l t = 0 ∧ decide (t ∈ l) = false := by
  unfold nameIn
  rw [h]
  refine ⟨rfl, ?_⟩
  rw [decide_eq_false_iff_not]
  intro hin
  have := List.findIdx?_eq_none_iff.1 h t hin
  simp at this
set_option maxRecDepth 100000 in
set_option maxHeartbeats 3200000 in
theorem put_bad {p : Nat} {st : Sough.Store} {S : List Nat} {t : Sough.Term} (w : World) (h : StoreAt w p st S) (hok : st.Ok) (ht : t.Wf) (hm : st.may t = false) : Calls Try.prog 24 #[.pointer (some ⟨p, 0, none⟩), .agg #[.int .i64 t.k, .string ⟨t.s.toArray⟩, .int .u64 t.n, .int .i64 t.a, .int .i64 t.b, .int .i64 t.c]] w (PutTo w S p st 0 1) := by
  have HS := Lib.hid h; have HOK := Lib.hid hok; have HT := Lib.hid ht
  have hl : st.l.length ≤ 1048576 := by have h1 := hok.len; have h2 := hok.most; omega
  have CM := Lib.hid fun (W : World) (hb : Below w.heap.size w W) => may_any (z := false) W (HS.out.later hb) hl hm
  have CL := Lib.hid fun (W : World) (hb : Below w.heap.size w W) => len_any W (HS.out.later hb) hl
  clear h hok ht hm
  have M : Hid (Mem w [(w.heap.size, .cells #[.int .i64 t.k, .string ⟨t.s.toArray⟩, .int .u64 t.n, .int .i64 t.a, .int .i64 t.b, .int .i64 t.c] 76 (0, 0))] (w.alloc (.cells #[.int .i64 t.k, .string ⟨t.s.toArray⟩, .int .u64 t.n, .int .i64 t.a, .int .i64 t.b, .int .i64 t.c] 76))) := Lib.hid ((Mem.start w).alloc _)
  have r := M.out.rules; simp only [AllCells, CellsAt, Nat.zero_add] at r
  go_enter Try.func24, Try.ntmps24
  go_wp2_with fail
  generalize w.alloc (.cells #[.int .i64 t.k, .string ⟨t.s.toArray⟩, .int .u64 t.n, .int .i64 t.a, .int .i64 t.b, .int .i64 t.c] 76) = W1 at *
  refine (CM.out W1 M.out.bel).mono ?_
  rintro e w2 ⟨rfl, hb2⟩
  have M2 := Lib.hid (M.out.later hb2)
  clear hb2 r
  go_wp2_with fail
  have HF : Hid (StoreTo w S p st w2) := Lib.hid (.below HS.out M2.out.bel)
  go_ret2
  exact ⟨rfl, HF.out⟩
set_option maxRecDepth 100000 in
set_option maxHeartbeats 3200000 in
theorem put_found {p i : Nat} {st : Sough.Store} {S : List Nat} {t : Sough.Term} (w : World) (h : StoreAt w p st S) (hok : st.Ok) (ht : t.Wf) (hm : st.may t = true) (hf : st.find t = some i) : Calls Try.prog 24 #[.pointer (some ⟨p, 0, none⟩), .agg #[.int .i64 t.k, .string ⟨t.s.toArray⟩, .int .u64 t.n, .int .i64 t.a, .int .i64 t.b, .int .i64 t.c]] w (PutTo w S p st (i + 1) 0) := by
  have hi : i + 1 ≤ 1048576 := by have := (find_at hf).1; have := hok.len; have := hok.most; omega
  obtain ⟨nm, hnm⟩ : ∃ nm : Nat, nm = i + 1 := ⟨_, rfl⟩
  have HFD : Hid (nameIn st.l t = nm ∧ decide (t ∈ st.l) = true) := Lib.hid (by rw [hnm]; exact in_of_find hf)
  rw [← hnm]
  clear hf hnm hi
  have HS := Lib.hid h; have HOK := Lib.hid hok; have HT := Lib.hid ht
  have hl : st.l.length ≤ 1048576 := by have h1 := hok.len; have h2 := hok.most; omega
  have CM := Lib.hid fun (W : World) (hb : Below w.heap.size w W) => may_any (z := true) W (HS.out.later hb) hl hm
  have CL := Lib.hid fun (W : World) (hb : Below w.heap.size w W) => len_any W (HS.out.later hb) hl
  clear h hok ht hm
  have M : Hid (Mem w [(w.heap.size, .cells #[.int .i64 t.k, .string ⟨t.s.toArray⟩, .int .u64 t.n, .int .i64 t.a, .int .i64 t.b, .int .i64 t.c] 76 (0, 0))] (w.alloc (.cells #[.int .i64 t.k, .string ⟨t.s.toArray⟩, .int .u64 t.n, .int .i64 t.a, .int .i64 t.b, .int .i64 t.c] 76))) := Lib.hid ((Mem.start w).alloc _)
  have r := M.out.rules; simp only [AllCells, CellsAt, Nat.zero_add] at r
  go_enter Try.func24, Try.ntmps24
  go_wp2_with fail
  generalize w.alloc (.cells #[.int .i64 t.k, .string ⟨t.s.toArray⟩, .int .u64 t.n, .int .i64 t.a, .int .i64 t.b, .int .i64 t.c] 76) = W1 at *
  refine (CM.out W1 M.out.bel).mono ?_
  rintro e w2 ⟨rfl, hb2⟩
  have M2 := Lib.hid (M.out.later hb2)
  clear hb2 r
  have r := M2.out.rulesL; simp only [AllCells, CellsAt, Nat.zero_add] at r
  have HS2 := Lib.hid (HS.out.later M2.out.bel)
  obtain ⟨lb, cap, db, dcap, mb, ds, D, hc, hS⟩ := HS2.out
  have HC := Lib.hid hc; have HSS := Lib.hid hS
  clear hc hS
  have q2 : ∀ x : Later w2, x.world.cell? ⟨p, 2, none⟩ = some (.map (some mb)) := fun x => x.cell (storeCells HC.out).1.2.2.1
  have lk := HC.out.look HT.out HFD.out
  go_wp2_with fail
  refine wp_region_later (by kernel_rfl) (by kernel_rfl) ?_
  repeat go_big_quiet_step (fail)
  refine wpQuiet_nil ?_
  rintro ⟨w3, hb3⟩
  change Exit.then _ _ _ _ w3
  have M3 := Lib.hid (M2.out.later hb3)
  have HC3 := Lib.hid (HC.out.later hb3)
  clear hb3 r lk q2
  have HF : Hid (StoreTo w S p st w3) := Lib.hid (.below HS.out M3.out.bel)
  go_wp2_with fail
  go_ret2
  exact ⟨rfl, HF.out⟩
set_option maxRecDepth 100000 in
set_option maxHeartbeats 3200000 in
theorem put_full {p : Nat} {st : Sough.Store} {S : List Nat} {t : Sough.Term} (w : World) (h : StoreAt w p st S) (hok : st.Ok) (ht : t.Wf) (hm : st.may t = true) (hf : st.find t = none) (hfull : st.most ≤ st.l.length) : Calls Try.prog 24 #[.pointer (some ⟨p, 0, none⟩), .agg #[.int .i64 t.k, .string ⟨t.s.toArray⟩, .int .u64 t.n, .int .i64 t.a, .int .i64 t.b, .int .i64 t.c]] w (PutTo w S p st 0 4) := by
  obtain ⟨nm, hnm⟩ : ∃ nm : Nat, nm = 0 := ⟨_, rfl⟩
  have HFD : Hid (nameIn st.l t = nm ∧ decide (t ∈ st.l) = false) := Lib.hid (by rw [hnm]; exact not_in_of_find hf)
  clear hf hnm
  have d1 : decide ((st.most : Int) ≤ st.l.length) = true := by simp; omega
  have d1' : decide (st.most ≤ st.l.length) = true := by simp; omega
  clear hfull
  have HS := Lib.hid h; have HOK := Lib.hid hok; have HT := Lib.hid ht
  have hl : st.l.length ≤ 1048576 := by have h1 := hok.len; have h2 := hok.most; omega
  have CM := Lib.hid fun (W : World) (hb : Below w.heap.size w W) => may_any (z := true) W (HS.out.later hb) hl hm
  have CL := Lib.hid fun (W : World) (hb : Below w.heap.size w W) => len_any W (HS.out.later hb) hl
  clear h hok ht hm
  have M : Hid (Mem w [(w.heap.size, .cells #[.int .i64 t.k, .string ⟨t.s.toArray⟩, .int .u64 t.n, .int .i64 t.a, .int .i64 t.b, .int .i64 t.c] 76 (0, 0))] (w.alloc (.cells #[.int .i64 t.k, .string ⟨t.s.toArray⟩, .int .u64 t.n, .int .i64 t.a, .int .i64 t.b, .int .i64 t.c] 76))) := Lib.hid ((Mem.start w).alloc _)
  have r := M.out.rules; simp only [AllCells, CellsAt, Nat.zero_add] at r
  go_enter Try.func24, Try.ntmps24
  go_wp2_with fail
  generalize w.alloc (.cells #[.int .i64 t.k, .string ⟨t.s.toArray⟩, .int .u64 t.n, .int .i64 t.a, .int .i64 t.b, .int .i64 t.c] 76) = W1 at *
  refine (CM.out W1 M.out.bel).mono ?_
  rintro e w2 ⟨rfl, hb2⟩
  have M2 := Lib.hid (M.out.later hb2)
  clear hb2 r
  have r := M2.out.rulesL; simp only [AllCells, CellsAt, Nat.zero_add] at r
  have HS2 := Lib.hid (HS.out.later M2.out.bel)
  obtain ⟨lb, cap, db, dcap, mb, ds, D, hc, hS⟩ := HS2.out
  have HC := Lib.hid hc; have HSS := Lib.hid hS
  clear hc hS
  have q2 : ∀ x : Later w2, x.world.cell? ⟨p, 2, none⟩ = some (.map (some mb)) := fun x => x.cell (storeCells HC.out).1.2.2.1
  have lk := HC.out.look HT.out HFD.out
  go_wp2_with fail
  refine wp_region_later (by kernel_rfl) (by kernel_rfl) ?_
  repeat go_big_quiet_step (fail)
  refine wpQuiet_nil ?_
  rintro ⟨w3, hb3⟩
  change Exit.then _ _ _ _ w3
  have M3 := Lib.hid (M2.out.later hb3)
  have HC3 := Lib.hid (HC.out.later hb3)
  clear hb3 r lk q2
  have CL3 : ∀ x : Later w3, Calls Try.prog 15 #[.pointer (some ⟨p, 0, none⟩)] x.world fun e w' => e = .returned (.int .i64 st.l.length) ∧ x.world = w' := fun x => CL.out _ (M3.out.later x.below).bel
  have q3 : ∀ x : Later w3, x.world.cell? ⟨p, 3, none⟩ = some (.int .i64 st.most) := fun x => x.cell (storeCells HC3.out).1.2.2.2
  go_wp2_with fail
  refine wp_region_later (by kernel_rfl) (by kernel_rfl) ?_
  repeat (first | go_big_quiet_step (fail) | go_big_quiet_step ((go_at_call 15; exact Calls.later_same (CL3 _))))
  refine wpQuiet_nil ?_
  rintro ⟨w4, hb4⟩
  change Exit.then _ _ _ _ w4
  have M4 := Lib.hid (M3.out.later hb4)
  have HC4 := Lib.hid (HC3.out.later hb4)
  clear hb4 CL3 q3
  have HF : Hid (StoreTo w S p st w4) := Lib.hid (.below HS.out M4.out.bel)
  go_wp2_with fail
  go_ret2
  exact ⟨rfl, HF.out⟩
end Go.Proofs.Ytlfgempjjoclbaa
namespace Go
open Go.RowKit Go.Proofs.Ytlfgempjjoclbaa
section
variable {P : Program} {l : List Oper} {w0 : World} {Q : Exit → Act → World → Prop} {a0 : Act}
def VStep (P : Program) (l : List Oper) (Q : Exit → Act → World → Prop) (a0 : Act) (F : Nat → Option Value) (M : (Nat → Bool) → (Nat → Value) → World → Prop) (k : Nat) (o : Oper) : Prop :=
  ∀ (L : Nat → Bool) (v : Nat → Value) (x : World), L k = false → (∀ j ∈ waits o, L j = true) → (∀ j u, j ∈ waits o → F j = some u → v j = u) → (∀ (i j : Nat) (o' : Oper), l[i]? = some o' → j ∈ waits o' → L i = true → L j = true) → M L v x →
    Region.wanted o (yielded l.toArray (putAll a0 0 l v).tmps) = true ∧ o.wp P (putAll a0 0 l v) x (fun a' y => match F k with
      | some u => a' = (putAll a0 0 l v).put o.dst u ∧ M L v y
      | none => ∃ u, a' = (putAll a0 0 l v).put o.dst u ∧ M (fun j => L j || j == k) (fun j => if j = k then u else v j) y) Q
def VSteps (P : Program) (l : List Oper) (Q : Exit → Act → World → Prop) (a0 : Act) (F : Nat → Option Value) (M : (Nat → Bool) → (Nat → Value) → World → Prop) : Nat → List Oper → Prop
  | _, [] => True
  | k, o :: r => VStep P l Q a0 F M k o ∧ VSteps P l Q a0 F M (k + 1) r
theorem VSteps.at {F : Nat → Option Value} {M : (Nat → Bool) → (Nat → Value) → World → Prop} (r : List Oper) : ∀ (k : Nat), VSteps P l Q a0 F M k r → ∀ i o, r[i]? = some o → VStep P l Q a0 F M (k + i) o := by
  induction r with
  | nil => intro k _ i o hi; simp at hi
  | cons o' r ih =>
    intro k h i o hi
    cases i with
    | zero =>
      simp only [List.getElem?_cons_zero, Option.some.injEq] at hi
      subst hi; exact h.1
    | succ i =>
      simp only [List.getElem?_cons_succ] at hi
      have := ih (k + 1) h.2 i o hi
      rwa [Nat.add_assoc, Nat.add_comm 1 i] at this
theorem wp_vals {id n : Nat} (F : Nat → Option Value) (M : (Nat → Bool) → (Nat → Value) → World → Prop) (hm : P.follows .mixedOrders = true) (hB : factsB l n = true)
    (h0 : ∀ L v, (∀ i, i < l.length → L i = false) → M L v w0.drew)
    (hM : ∀ L L' v v' x, (∀ k, k < l.length → F k = none → L k = L' k ∧ (L k = true → v k = v' k)) → M L v x → M L' v' x)
    (hsteps : VSteps P l Q a0 F M 0 l)
    (hend : ∀ L v x, (∀ i, i < l.length → L i = true) → (∀ k u, k < l.length → F k = some u → v k = u) → M L v x → Q .normal (putAll a0 0 l v) x) : (Code.region id l.toArray true).wp P Q a0 w0 := by
  unfold factsB at hB
  rw [Bool.and_eq_true, Bool.and_eq_true, decide_eq_true_eq, List.all_eq_true] at hB
  obtain ⟨⟨hnd, _⟩, hB2⟩ := hB
  have hedge : ∀ (i : Nat) (o : Oper), l[i]? = some o → ∀ j ∈ waits o, j < i := fun i o ho => by
    have := List.all_eq_true.1 hB2 (o, i) (by rw [List.mem_zipIdx_iff_getElem?]; exact ho)
    rw [Array.all_eq_true] at this
    intro j hj
    unfold waits at hj
    obtain ⟨e, he, rfl⟩ := List.mem_map.1 hj
    obtain ⟨he1, he2⟩ := List.mem_filter.1 he
    obtain ⟨q, hq, rfl⟩ := Array.getElem_of_mem (Array.mem_toList_iff.1 he1)
    have := this q hq
    simpa [he2] using this
  refine wp_region_inv (fun L a x => (∀ (i j : Nat) (o' : Oper), l[i]? = some o' → j ∈ waits o' → L i = true → L j = true) ∧ ∃ v, a = putAll a0 0 l v ∧ (∀ k u, k < l.length → F k = some u → L k = true → v k = u) ∧ M L v x) hm (fun i o ho e he hb => ?_) (fun L hL => ?_) (fun i o L a x ho hLi haft hI => ?_) (fun L a x hL hI => ?_)
  · have ho' : l[i]? = some o := by simpa using ho
    exact hedge i o ho' e.on (List.mem_map.2 ⟨e, List.mem_filter.2 ⟨by simpa using he, hb⟩, rfl⟩)
  · have hL' : ∀ i, i < l.length → L i = false := fun i hi => hL i (by simpa using hi)
    have hlt : ∀ (i : Nat) (o' : Oper), l[i]? = some o' → i < l.length := fun i o' ho => by
      rcases Nat.lt_or_ge i l.length with h | h
      · exact h
      · rw [List.getElem?_eq_none h] at ho; cases ho
    refine ⟨fun i j o' ho' _ hi => (by rw [hL' i (hlt i o' ho')] at hi; cases hi), fun k => match l[k]? with
      | some o => match o.dst with
        | some s => a0.eval (.tmp s)
        | none => undef
      | none => undef, ?_, fun k u hk _ hk' => (by rw [hL' k hk] at hk'; cases hk'), h0 _ _ hL'⟩
    refine (putAll_self a0 l 0 _ fun i o s ho hs => ?_).symm
    simp only [Nat.zero_add, ho, hs]
  · have ho' : l[i]? = some o := by simpa using ho
    have hil : i < l.length := by
      rcases Nat.lt_or_ge i l.length with h | h
      · exact h
      · rw [List.getElem?_eq_none h] at ho'; cases ho'
    obtain ⟨hbk, v, rfl, hF, hMx⟩ := hI
    have hW : ∀ j ∈ waits o, L j = true := fun j hj => by
      unfold waits at hj
      obtain ⟨e, he, rfl⟩ := List.mem_map.1 hj
      obtain ⟨he1, he2⟩ := List.mem_filter.1 he
      rw [Array.all_eq_true] at haft
      obtain ⟨q, hq, rfl⟩ := Array.getElem_of_mem (Array.mem_toList_iff.1 he1)
      have := haft q hq
      simpa [he2] using this
    have hwl : ∀ j ∈ waits o, j < l.length := fun j hj => Nat.lt_trans (hedge i o ho' j hj) hil
    have hst := VSteps.at l 0 hsteps i o ho'
    rw [Nat.zero_add] at hst
    obtain ⟨hg, hr⟩ := hst L v x hLi hW (fun j u hj hu => hF j u (hwl j hj) hu (hW j hj)) hbk hMx
    have hput : ∀ u, (putAll a0 0 l v).put o.dst u = putAll a0 0 l fun j => if j = i then u else v j := fun u => by
      have := putAll_put u l 0 i a0 v o hnd ho'
      simpa only [Nat.zero_add] using this
    have hbk' : ∀ (k j : Nat) (o' : Oper), l[k]? = some o' → j ∈ waits o' → (L k || k == i) = true → (L j || j == i) = true := fun k j o' hk hj h => by
      by_cases e : k = i
      · subst e
        rw [ho'] at hk; cases hk
        simp [hW j hj]
      · have e' : (k == i) = false := by simpa using e
        simp only [e', Bool.or_false] at h
        simp [hbk k j o' hk hj h]
    refine wpOp_one ho hg (Oper.wp_mono ?_ hr)
    intro a' y hy
    refine ⟨hbk', ?_⟩
    cases hFi : F i with
    | some u =>
      rw [hFi] at hy
      obtain ⟨rfl, hy⟩ := hy
      refine ⟨_, hput u, fun k u' hk hu' hk' => ?_, hM _ _ _ _ _ (fun k hk hn => ?_) hy⟩
      · by_cases e : k = i
        · subst e; rw [hFi] at hu'; cases hu'; exact if_pos rfl
        · simp only [if_neg e]
          have e' : (k == i) = false := by simpa using e
          simp only [e', Bool.or_false] at hk'
          exact hF k u' hk hu' hk'
      · have e : k ≠ i := fun e => by subst e; rw [hFi] at hn; cases hn
        have e' : (k == i) = false := by simpa using e
        simp [e, e']
    | none =>
      rw [hFi] at hy
      obtain ⟨u, rfl, hy⟩ := hy
      refine ⟨_, hput u, fun k u' hk hu' hk' => ?_, hy⟩
      have e : k ≠ i := fun e => by subst e; rw [hFi] at hu'; cases hu'
      simp only [if_neg e]
      have e' : (k == i) = false := by simpa using e
      simp only [e', Bool.or_false] at hk'
      exact hF k u' hk hu' hk'
  · obtain ⟨_, v, rfl, hF, hMx⟩ := hI
    have hL' : ∀ i, i < l.length → L i = true := fun i hi => hL i (by simpa using hi)
    exact hend L v x hL' (fun k u hk hu => hF k u hk hu (hL' k hk)) hMx
theorem vstep_pure {K : Act → World → Prop} {o : Oper} {a A : Act} {x : World} (hg : o.guard = none) (hk : ∀ y, Below x.heap.size x y → K A y) (h : wpQuiet P #[] (fun y => ∃ z : Later x, y = z.world) (fun b => b = A) [o] a) : o.wp P a x K Q :=
  Oper.wp_mono (by rintro a' y ⟨rfl, hb⟩; exact hk y hb) (val_of_quiet (ops := #[]) hg h)
theorem vstep_one {K : Act → World → Prop} {o : Oper} {a A : Act} {x W : World} (hk : K A W) (h : o.wp P a x (fun a' y => a' = A ∧ y = W) Q) : o.wp P a x K Q :=
  Oper.wp_mono (by rintro a' y ⟨rfl, rfl⟩; exact hk) h
end
end Go
namespace Go.Proofs.Ytlfgempjjoclbaa
open Go.RowKit
structure TwoRows (w0 : World) (p : Nat) (T1 T2 TS : TypeId) (s1 s2 n : Nat) (xs1 nx1 xs2 nx2 : List Value) (o1 o2 c2 c3 : Value) (S : List Nat) (a b c d e f : Bool) (u1 v1 u2 v2 : Value) (g1 k1 g2 k2 : Nat) (x : World) : Prop where
  tur : Turned S w0 x
  new1 : a = true → ∃ g, u1 = .slice (some ⟨g, 0, none⟩) 1 1 ∧ w0.heap.size ≤ g ∧ g ≠ g1 ∧ x.heap[g]? = some (.cells nx1.toArray T1 (0, 0))
  new2 : d = true → ∃ g, u2 = .slice (some ⟨g, 0, none⟩) 1 1 ∧ w0.heap.size ≤ g ∧ g ≠ g2 ∧ x.heap[g]? = some (.cells nx2.toArray T2 (0, 0))
  val1 : (if b = true then v1 else o1) = .slice (some ⟨g1, 0, none⟩) (n + b.toNat) k1
  val2 : (if e = true then v2 else o2) = .slice (some ⟨g2, 0, none⟩) (n + e.toNat) k2
  row1 : x.ownsRow 0 T1 s1 (.slice (some ⟨g1, 0, none⟩) (n + b.toNat) k1) (n + b.toNat) (xs1 ++ if b = true then nx1 else [])
  row2 : x.ownsRow 0 T2 s2 (.slice (some ⟨g2, 0, none⟩) (n + e.toNat) k2) (n + e.toNat) (xs2 ++ if e = true then nx2 else [])
  box : x.heap[p]? = some (.cells #[if c = true then v1 else o1, if f = true then v2 else o2, c2, c3] TS (0, 0))
  in1 : g1 ∈ S ∨ w0.heap.size ≤ g1
  cb1 : c = true → b = true
  cb2 : f = true → e = true
  in2 : g2 ∈ S ∨ w0.heap.size ≤ g2
section
variable {w0 : World} {p : Nat} {T1 T2 TS : TypeId} {s1 s2 n : Nat} {xs1 nx1 xs2 nx2 : List Value} {o1 o2 c2 c3 : Value} {S : List Nat} {a b c d e f : Bool} {u1 v1 u2 v2 : Value} {g1 k1 g2 k2 : Nat} {x : World}
theorem TwoRows.lt1 (h : TwoRows w0 p T1 T2 TS s1 s2 n xs1 nx1 xs2 nx2 o1 o2 c2 c3 S a b c d e f u1 v1 u2 v2 g1 k1 g2 k2 x) : g1 < x.heap.size := by obtain ⟨cur, hc, _⟩ := ownsRow_block h.row1; exact lt_of_block hc
theorem TwoRows.lt2 (h : TwoRows w0 p T1 T2 TS s1 s2 n xs1 nx1 xs2 nx2 o1 o2 c2 c3 S a b c d e f u1 v1 u2 v2 g1 k1 g2 k2 x) : g2 < x.heap.size := by obtain ⟨cur, hc, _⟩ := ownsRow_block h.row2; exact lt_of_block hc
theorem TwoRows.ne1 (hT : T1 ≠ T2 ∧ T1 ≠ TS ∧ T2 ≠ TS) (h : TwoRows w0 p T1 T2 TS s1 s2 n xs1 nx1 xs2 nx2 o1 o2 c2 c3 S a b c d e f u1 v1 u2 v2 g1 k1 g2 k2 x) : p ≠ g1 := by
  rintro rfl
  obtain ⟨cur, hc, _⟩ := ownsRow_block h.row1
  rw [h.box] at hc
  simp only [Option.some.injEq, Obj.cells.injEq] at hc
  exact hT.2.1 hc.2.1.symm
theorem TwoRows.ne2 (hT : T1 ≠ T2 ∧ T1 ≠ TS ∧ T2 ≠ TS) (h : TwoRows w0 p T1 T2 TS s1 s2 n xs1 nx1 xs2 nx2 o1 o2 c2 c3 S a b c d e f u1 v1 u2 v2 g1 k1 g2 k2 x) : p ≠ g2 := by
  rintro rfl
  obtain ⟨cur, hc, _⟩ := ownsRow_block h.row2
  rw [h.box] at hc
  simp only [Option.some.injEq, Obj.cells.injEq] at hc
  exact hT.2.2 hc.2.1.symm
theorem TwoRows.ne21 (hT : T1 ≠ T2 ∧ T1 ≠ TS ∧ T2 ≠ TS) (h : TwoRows w0 p T1 T2 TS s1 s2 n xs1 nx1 xs2 nx2 o1 o2 c2 c3 S a b c d e f u1 v1 u2 v2 g1 k1 g2 k2 x) : g2 ≠ g1 := by
  rintro rfl
  obtain ⟨cur, hc, _⟩ := ownsRow_block h.row1
  obtain ⟨cur', hc', _⟩ := ownsRow_block h.row2
  rw [hc] at hc'
  simp only [Option.some.injEq, Obj.cells.injEq] at hc'
  exact hT.1 hc'.2.1
theorem TwoRows.ne12 (hT : T1 ≠ T2 ∧ T1 ≠ TS ∧ T2 ≠ TS) (h : TwoRows w0 p T1 T2 TS s1 s2 n xs1 nx1 xs2 nx2 o1 o2 c2 c3 S a b c d e f u1 v1 u2 v2 g1 k1 g2 k2 x) : g1 ≠ g2 := (h.ne21 hT).symm
theorem TwoRows.later {y : World} (h : TwoRows w0 p T1 T2 TS s1 s2 n xs1 nx1 xs2 nx2 o1 o2 c2 c3 S a b c d e f u1 v1 u2 v2 g1 k1 g2 k2 x) (hb : Below x.heap.size x y) : TwoRows w0 p T1 T2 TS s1 s2 n xs1 nx1 xs2 nx2 o1 o2 c2 c3 S a b c d e f u1 v1 u2 v2 g1 k1 g2 k2 y := by
  refine { tur := h.tur.trans (Turned.below (S := []) hb) (by simp), new1 := ?_, new2 := ?_, val1 := h.val1, val2 := h.val2, row1 := ownsRow_same h.row1 (hb.block _ h.lt1), row2 := ownsRow_same h.row2 (hb.block _ h.lt2), box := (hb.block _ (lt_of_block h.box)).trans h.box, in1 := h.in1, in2 := h.in2, cb1 := h.cb1, cb2 := h.cb2 }
  · intro hb'
    obtain ⟨q, h1, h2, h3, h4⟩ := h.new1 hb'
    exact ⟨q, h1, h2, h3, (hb.block _ (lt_of_block h4)).trans h4⟩
  · intro hb'
    obtain ⟨q, h1, h2, h3, h4⟩ := h.new2 hb'
    exact ⟨q, h1, h2, h3, (hb.block _ (lt_of_block h4)).trans h4⟩
theorem TwoRows.alloc1 (h : TwoRows w0 p T1 T2 TS s1 s2 n xs1 nx1 xs2 nx2 o1 o2 c2 c3 S false b c d e f u1 v1 u2 v2 g1 k1 g2 k2 x) : TwoRows w0 p T1 T2 TS s1 s2 n xs1 nx1 xs2 nx2 o1 o2 c2 c3 S true b c d e f (.slice (some ⟨x.heap.size, 0, none⟩) 1 1) v1 u2 v2 g1 k1 g2 k2 (x.alloc (.cells nx1.toArray T1)) := by
  have hk := h.later ((Below.refl _ x).alloc (Nat.le_refl _) (.cells nx1.toArray T1))
  have hg := h.lt1
  exact { hk with new1 := fun _ => ⟨_, rfl, h.tur.size, by omega, heap_alloc_new _ _⟩ }
theorem TwoRows.app1 {g k : Nat} {y : World} (hT : T1 ≠ T2 ∧ T1 ≠ TS ∧ T2 ≠ TS) (h : TwoRows w0 p T1 T2 TS s1 s2 n xs1 nx1 xs2 nx2 o1 o2 c2 c3 S a false false d e f u1 v1 u2 v2 g1 k1 g2 k2 x) (hown : y.ownsRow 0 T1 s1 (.slice (some ⟨g, 0, none⟩) (n + 1) k) (n + 1) (xs1 ++ nx1)) (hgr : x.grownBy y (some g1)) (hg : some g1 = some g ∨ g = x.heap.size) : TwoRows w0 p T1 T2 TS s1 s2 n xs1 nx1 xs2 nx2 o1 o2 c2 c3 S a true false d e f u1 (.slice (some ⟨g, 0, none⟩) (n + 1) k) u2 v2 g k g2 k2 y := by
  have hlI := h.lt1
  have hlJ := h.lt2
  have hp := lt_of_block h.box
  have hpg : p ≠ g1 := h.ne1 hT
  have hgg : g2 ≠ g1 := h.ne21 hT
  have old : ∀ j, j < x.heap.size → j ≠ g1 → y.heap[j]? = x.heap[j]? := fun j hj hne => hgr.block j hj (by simp; exact hne)
  refine { tur := ?tu, new1 := ?na, new2 := ?nb, val1 := rfl, val2 := h.val2, row1 := by simpa using hown, row2 := ownsRow_same h.row2 (old _ hlJ hgg), box := (old p hp hpg).trans h.box, in1 := ?ni, in2 := h.in2, cb1 := fun h => absurd h (by simp), cb2 := h.cb2 }
  case tu =>
    refine h.tur.trans (Turned.grown (S := [g1]) hgr (fun i hi => by simp at hi; subst hi; exact .inl (by simp))) fun i hi => ?_
    simp only [List.mem_singleton] at hi
    subst hi
    exact h.in1
  case na =>
    intro hb
    obtain ⟨q, h1, h2, h3, h4⟩ := h.new1 hb
    have := lt_of_block h4
    refine ⟨q, h1, h2, ?_, (old q this h3).trans h4⟩
    rcases hg with e | e
    · cases e; exact h3
    · omega
  case nb =>
    intro hb
    obtain ⟨q, h1, h2, h3, h4⟩ := h.new2 hb
    have hq := lt_of_block h4
    refine ⟨q, h1, h2, h3, (old q hq fun e => ?_).trans h4⟩
    subst e
    obtain ⟨cur, hc, _⟩ := ownsRow_block h.row1
    rw [hc] at h4
    simp only [Option.some.injEq, Obj.cells.injEq] at h4
    first | exact hT.1 h4.2.1 | exact hT.1 h4.2.1.symm
  case ni =>
    rcases hg with e | e
    · cases e; exact h.in1
    · right; have := h.tur.size; omega
theorem TwoRows.sto1 (hT : T1 ≠ T2 ∧ T1 ≠ TS ∧ T2 ≠ TS) (hpS : p ∈ S) (h : TwoRows w0 p T1 T2 TS s1 s2 n xs1 nx1 xs2 nx2 o1 o2 c2 c3 S a true false d e f u1 v1 u2 v2 g1 k1 g2 k2 x) : TwoRows w0 p T1 T2 TS s1 s2 n xs1 nx1 xs2 nx2 o1 o2 c2 c3 S a true true d e f u1 v1 u2 v2 g1 k1 g2 k2 (x.setCell ⟨p, 0, none⟩ v1) := by
  have hne : ∀ j, j ≠ p → (x.setCell ⟨p, 0, none⟩ v1).heap[j]? = x.heap[j]? := fun j hj => Below.heap_setCell _ _ _ _ hj
  have box_ne : ∀ q cs T, x.heap[q]? = some (.cells cs T (0, 0)) → T ≠ TS → q ≠ p := fun q cs T hq hT e => by
    subst e
    rw [h.box] at hq
    simp only [Option.some.injEq, Obj.cells.injEq] at hq
    exact hT hq.2.1.symm
  refine { tur := h.tur.trans (Turned.setCell (S := S) hpS _) (fun i hi => .inl hi), new1 := ?na, new2 := ?nb, val1 := h.val1, val2 := h.val2, row1 := ownsRow_same h.row1 (hne _ (h.ne1 hT).symm), row2 := ownsRow_same h.row2 (hne _ (h.ne2 hT).symm), box := ?bo, in1 := h.in1, in2 := h.in2, cb1 := fun _ => rfl, cb2 := h.cb2 }
  case na =>
    intro hb
    obtain ⟨q, h1, h2, h3, h4⟩ := h.new1 hb
    exact ⟨q, h1, h2, h3, (hne q (box_ne q _ _ h4 hT.2.1)).trans h4⟩
  case nb =>
    intro hb
    obtain ⟨q, h1, h2, h3, h4⟩ := h.new2 hb
    exact ⟨q, h1, h2, h3, (hne q (box_ne q _ _ h4 hT.2.2)).trans h4⟩
  case bo =>
    have := h.box
    simp only [World.setCell, Array.getElem?_modify, if_pos, this]
    simp
theorem TwoRows.alloc2 (h : TwoRows w0 p T1 T2 TS s1 s2 n xs1 nx1 xs2 nx2 o1 o2 c2 c3 S a b c false e f u1 v1 u2 v2 g1 k1 g2 k2 x) : TwoRows w0 p T1 T2 TS s1 s2 n xs1 nx1 xs2 nx2 o1 o2 c2 c3 S a b c true e f u1 v1 (.slice (some ⟨x.heap.size, 0, none⟩) 1 1) v2 g1 k1 g2 k2 (x.alloc (.cells nx2.toArray T2)) := by
  have hk := h.later ((Below.refl _ x).alloc (Nat.le_refl _) (.cells nx2.toArray T2))
  have hg := h.lt2
  exact { hk with new2 := fun _ => ⟨_, rfl, h.tur.size, by omega, heap_alloc_new _ _⟩ }
theorem TwoRows.app2 {g k : Nat} {y : World} (hT : T1 ≠ T2 ∧ T1 ≠ TS ∧ T2 ≠ TS) (h : TwoRows w0 p T1 T2 TS s1 s2 n xs1 nx1 xs2 nx2 o1 o2 c2 c3 S a b c d false false u1 v1 u2 v2 g1 k1 g2 k2 x) (hown : y.ownsRow 0 T2 s2 (.slice (some ⟨g, 0, none⟩) (n + 1) k) (n + 1) (xs2 ++ nx2)) (hgr : x.grownBy y (some g2)) (hg : some g2 = some g ∨ g = x.heap.size) : TwoRows w0 p T1 T2 TS s1 s2 n xs1 nx1 xs2 nx2 o1 o2 c2 c3 S a b c d true false u1 v1 u2 (.slice (some ⟨g, 0, none⟩) (n + 1) k) g1 k1 g k y := by
  have hlI := h.lt2
  have hlJ := h.lt1
  have hp := lt_of_block h.box
  have hpg : p ≠ g2 := h.ne2 hT
  have hgg : g1 ≠ g2 := h.ne12 hT
  have old : ∀ j, j < x.heap.size → j ≠ g2 → y.heap[j]? = x.heap[j]? := fun j hj hne => hgr.block j hj (by simp; exact hne)
  refine { tur := ?tu, new2 := ?na, new1 := ?nb, val2 := rfl, val1 := h.val1, row2 := by simpa using hown, row1 := ownsRow_same h.row1 (old _ hlJ hgg), box := (old p hp hpg).trans h.box, in2 := ?ni, in1 := h.in1, cb2 := fun h => absurd h (by simp), cb1 := h.cb1 }
  case tu =>
    refine h.tur.trans (Turned.grown (S := [g2]) hgr (fun i hi => by simp at hi; subst hi; exact .inl (by simp))) fun i hi => ?_
    simp only [List.mem_singleton] at hi
    subst hi
    exact h.in2
  case na =>
    intro hb
    obtain ⟨q, h1, h2, h3, h4⟩ := h.new2 hb
    have := lt_of_block h4
    refine ⟨q, h1, h2, ?_, (old q this h3).trans h4⟩
    rcases hg with e | e
    · cases e; exact h3
    · omega
  case nb =>
    intro hb
    obtain ⟨q, h1, h2, h3, h4⟩ := h.new1 hb
    have hq := lt_of_block h4
    refine ⟨q, h1, h2, h3, (old q hq fun e => ?_).trans h4⟩
    subst e
    obtain ⟨cur, hc, _⟩ := ownsRow_block h.row2
    rw [hc] at h4
    simp only [Option.some.injEq, Obj.cells.injEq] at h4
    first | exact hT.1 h4.2.1 | exact hT.1 h4.2.1.symm
  case ni =>
    rcases hg with e | e
    · cases e; exact h.in2
    · right; have := h.tur.size; omega
theorem TwoRows.sto2 (hT : T1 ≠ T2 ∧ T1 ≠ TS ∧ T2 ≠ TS) (hpS : p ∈ S) (h : TwoRows w0 p T1 T2 TS s1 s2 n xs1 nx1 xs2 nx2 o1 o2 c2 c3 S a b c d true false u1 v1 u2 v2 g1 k1 g2 k2 x) : TwoRows w0 p T1 T2 TS s1 s2 n xs1 nx1 xs2 nx2 o1 o2 c2 c3 S a b c d true true u1 v1 u2 v2 g1 k1 g2 k2 (x.setCell ⟨p, 1, none⟩ v2) := by
  have hne : ∀ j, j ≠ p → (x.setCell ⟨p, 1, none⟩ v2).heap[j]? = x.heap[j]? := fun j hj => Below.heap_setCell _ _ _ _ hj
  have box_ne : ∀ q cs T, x.heap[q]? = some (.cells cs T (0, 0)) → T ≠ TS → q ≠ p := fun q cs T hq hT e => by
    subst e
    rw [h.box] at hq
    simp only [Option.some.injEq, Obj.cells.injEq] at hq
    exact hT hq.2.1.symm
  refine { tur := h.tur.trans (Turned.setCell (S := S) hpS _) (fun i hi => .inl hi), new2 := ?na, new1 := ?nb, val2 := h.val2, val1 := h.val1, row2 := ownsRow_same h.row2 (hne _ (h.ne2 hT).symm), row1 := ownsRow_same h.row1 (hne _ (h.ne1 hT).symm), box := ?bo, in2 := h.in2, in1 := h.in1, cb2 := fun _ => rfl, cb1 := h.cb1 }
  case na =>
    intro hb
    obtain ⟨q, h1, h2, h3, h4⟩ := h.new2 hb
    exact ⟨q, h1, h2, h3, (hne q (box_ne q _ _ h4 hT.2.2)).trans h4⟩
  case nb =>
    intro hb
    obtain ⟨q, h1, h2, h3, h4⟩ := h.new1 hb
    exact ⟨q, h1, h2, h3, (hne q (box_ne q _ _ h4 hT.2.1)).trans h4⟩
  case bo =>
    have := h.box
    simp only [World.setCell, Array.getElem?_modify, if_pos, this]
    simp
theorem TwoRows.congr {u1' v1' u2' v2' : Value} (h : TwoRows w0 p T1 T2 TS s1 s2 n xs1 nx1 xs2 nx2 o1 o2 c2 c3 S a b c d e f u1 v1 u2 v2 g1 k1 g2 k2 x) (h1 : a = true → u1 = u1') (h2 : b = true → v1 = v1') (h3 : d = true → u2 = u2') (h4 : e = true → v2 = v2') : TwoRows w0 p T1 T2 TS s1 s2 n xs1 nx1 xs2 nx2 o1 o2 c2 c3 S a b c d e f u1' v1' u2' v2' g1 k1 g2 k2 x := by
  have e1 : (if b = true then v1' else o1) = if b = true then v1 else o1 := by split <;> simp_all
  have e2 : (if e = true then v2' else o2) = if e = true then v2 else o2 := by split <;> simp_all
  have e3 : (if c = true then v1' else o1) = if c = true then v1 else o1 := by
    by_cases hc : c = true
    · rw [if_pos hc, if_pos hc, h2 (h.cb1 hc)]
    · rw [if_neg hc, if_neg hc]
  have e4 : (if f = true then v2' else o2) = if f = true then v2 else o2 := by
    by_cases hc : f = true
    · rw [if_pos hc, if_pos hc, h4 (h.cb2 hc)]
    · rw [if_neg hc, if_neg hc]
  exact { h with new1 := fun ha => by rw [← h1 ha]; exact h.new1 ha, new2 := fun ha => by rw [← h3 ha]; exact h.new2 ha, val1 := e1.trans h.val1, val2 := e2.trans h.val2, box := by rw [e3, e4]; exact h.box }
end
end Go.Proofs.Ytlfgempjjoclbaa
