/- Messages in memory; the walk of (*msg.Msg).fields. -/
import Derived.Test.YtjoanlhdocoddaaMsPlain
import Derived.Test.YtjoanlhdocoddaaProg
import Derived.Test.YtjoanlhdocoddaaRows
import Derived.Test.YtjoanlhdocoddaaMem
import Derived.Test.YtjoanlhdocoddaaRet
import Derived.Maps.OwnSet
import Derived.WalkKit
import Derived.Lib.Hide
import Derived.Lib.MinMax
import Derived.Outline
namespace Go.Proofs.Ytjoanlhdocoddaa
open Go.RowKit Go.Maps Go.ChangeMaps

def msgC (m : Sough.Msg) : Array Value := #[.int .i64 (m.v 0), .int .u64 (m.v 1), .int .u64 (m.v 2), .string ⟨m.offer.toArray⟩, .int .i64 (m.v 4), .int .i64 (m.v 5), .int .i64 (m.v 6), .int .i64 (m.v 7), .int .i64 (m.v 8), .int .i64 (m.v 9), .int .i64 (m.v 10), .int .u64 (m.v 11), .int .u64 (m.v 12)]
/-- A field of the message in block b. -/
def fldC (b : Nat) (f : Sough.Fld) : List Value :=
  if f.c = 3 then [.int .u64 0, .int .u64 0, .pointer none, .pointer none, .pointer (some ⟨b, 3, none⟩)]
  else if Sough.u64cell f.c = true then [.int .u64 f.lo, .int .u64 f.hi, .pointer (some ⟨b, f.c, none⟩), .pointer none, .pointer none]
  else [.int .u64 f.lo, .int .u64 f.hi, .pointer none, .pointer (some ⟨b, f.c, none⟩), .pointer none]
def rowC (b : Nat) (l : List Sough.Fld) : Array Value := (l.flatMap (fldC b)).toArray

/-- A map whose elements are values as they are. -/
def heldE (v : Value) : Option (DataW Value × List MemPlace) := some (.held v, [])
theorem lawK : Keyed Try.prog 3 := int_keyed Try.underlying3
theorem zeroF (w : World) : (zeroValue 54).run Try.prog w = .ok (.slice none 0 0) w := by kernel_rfl

/-- 'insert' of a map literal, at the operation. -/
theorem wpList_insert_own {H : Type} {P : Program} (w : World) {ops : Array Oper} {rest : List Oper} {o : Oper} {a : Act} {Q : Exit → Act → World → Prop}
    (hg : o.guard = none) (m x v : Operand) (t : TypeId) (hop : o.op = Op.insert t m x v)
    (k e : TypeId) (K : Keyed P k) (ht : P.underlying t = some (.map k e)) (R : Value → Option (DataW H × List MemPlace)) (b n : Nat) (D : DataW H)
    (hm : a.eval m = .map (some b)) (hown : w.ownsMap P k R b n D) (hn : n < maxLen) (key val : Value) (kl : Lit) (hx : a.eval x = key) (hv : a.eval v = val) (hkey : keyOf P k key = some kl)
    (d : DataW H) (ps : List MemPlace) (hval : R val = some (d, ps))
    (hK : ∀ w', w'.ownsMap P k R b (n + 1) (D.put kl d) → w.grownBy w' (some b) → wpList P ops Q rest (a.put o.dst undef) w') :
    wpList P ops Q (o :: rest) a w := by
  refine wpList_plain hg fun K' hK' => ?_
  obtain ⟨w', hrun, r1, r2⟩ := hown.update K ht hn hkey hval
  unfold Oper.wp
  simp [execOp, hop, hm, hx, hv, hrun, Result.andThen]
  exact hK' _ _ (hK w' r1 r2)

set_option maxRecDepth 100000 in
theorem number_any (a : Option Addr) (w : World) : Calls Try.prog 39 #[.pointer a] w fun e w' => e = .returned (.agg #[.int .u64 1, .int .u64 4294967296, .pointer a, .pointer none, .pointer none]) ∧ Below w.heap.size w w' := by
  go_enter Try.func39, Try.ntmps39
  go_wp2_with fail
  refine bodyPost_ret (v := .agg #[.int .u64 1, .int .u64 4294967296, .pointer a, .pointer none, .pointer none]) (by simp [results, Try.results39, go_sem]) rfl ⟨rfl, (Below.refl _ _).alloc (Nat.le_refl _) _⟩
set_option maxRecDepth 100000 in
theorem name_any (a : Option Addr) (w : World) : Calls Try.prog 40 #[.pointer a] w fun e w' => e = .returned (.agg #[.int .u64 1, .int .u64 1048576, .pointer none, .pointer a, .pointer none]) ∧ Below w.heap.size w w' := by
  go_enter Try.func40, Try.ntmps40
  go_wp2_with fail
  refine bodyPost_ret (v := .agg #[.int .u64 1, .int .u64 1048576, .pointer none, .pointer a, .pointer none]) (by simp [results, Try.results40, go_sem]) rfl ⟨rfl, (Below.refl _ _).alloc (Nat.le_refl _) _⟩

/-- The map of all fields under way. -/
structure FS (w W : World) (mb n : Nat) (D : DataW Value) (L : List (Nat × Obj)) : Prop where
  mem : Mem w L W
  own : W.ownsMap Try.prog 3 heldE mb n D
  new : w.heap.size ≤ mb
  far : ∀ p ∈ L, p.1 ≠ mb
theorem FS.later {w W W' : World} {mb n : Nat} {D : DataW Value} {L : List (Nat × Obj)} (h : FS w W mb n D L) (hb : Below W.heap.size W W') : FS w W' mb n D L := by
  obtain ⟨es, clock, h1, h2⟩ := h.own
  exact ⟨h.mem.later hb, ⟨es, clock, (hb.block mb h.own.lt).trans h1, h2⟩, h.new, h.far⟩
theorem FS.alloc {w W : World} {mb n : Nat} {D : DataW Value} {L : List (Nat × Obj)} (h : FS w W mb n D L) (o : Obj) : FS w (W.alloc o) mb n D ((W.heap.size, o) :: L) :=
  ⟨h.mem.alloc o, h.own.alloc o, h.new, fun p hp => by
    rcases List.mem_cons.1 hp with rfl | hp
    · have := h.own.lt; simp only; omega
    · exact h.far p hp⟩
theorem FS.insert {w W W' : World} {mb n n' : Nat} {D D' : DataW Value} {L : List (Nat × Obj)} (h : FS w W mb n D L) (ho : W'.ownsMap Try.prog 3 heldE mb n' D') (hg : W.grownBy W' (some mb)) : FS w W' mb n' D' L :=
  ⟨⟨h.mem.bel.grown hg h.mem.bel.size (fun k e => by cases e; exact h.new), fun p hp => (hg.block p.1 (lt_of_block (h.mem.blk p hp)) (fun e => h.far p hp (by cases e; rfl))).trans (h.mem.blk p hp)⟩, ho, h.new, h.far⟩

def keyK (k : Int) : Lit := .int .i64 k
def allD (g1 g2 g3 g4 : Nat) : DataW Value :=
  ((((DataW.map [] : DataW Value).put (keyK 1) (.held (.slice (some ⟨g1, 0, none⟩) 8 8))).put (keyK 2) (.held (.slice (some ⟨g2, 0, none⟩) 5 5))).put (keyK 3) (.held (.slice (some ⟨g3, 0, none⟩) 2 2))).put (keyK 4) (.held (.slice (some ⟨g4, 0, none⟩) 4 4))


end Go.Proofs.Ytjoanlhdocoddaa
