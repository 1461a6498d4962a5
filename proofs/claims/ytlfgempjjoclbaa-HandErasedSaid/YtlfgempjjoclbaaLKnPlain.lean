/- Plain law: what can be made (layer 8). No program in sight. -/
import Derived.Test.YtlfgempjjoclbaaG1
namespace Sough
def lastOf (st : Store) (p : Term → Bool) : Nat → Nat
  | 0 => 0
  | i + 1 => if 1 ≤ i ∧ p (st.at i) = true then i else lastOf st p i
def pubTo (st : Store) (i : Nat) (a : Nat) : Nat := lastOf st (fun t => decide (t.k = 3) && decide (t.a = a)) i
def kpubTo (st : Store) (i : Nat) (a : Nat) : Nat := lastOf st (fun t => decide (t.k = 5) && decide (t.a = a)) i
def boxTo (st : Store) (i : Nat) (a b : Int) : Nat := lastOf st (fun t => decide (t.k = 6) && decide (t.a = a) && decide (t.b = b)) i
def cn (can : List Bool) (i : Nat) : Bool := can.getD i false
structure Flg where
  dh : Bool
  kem : Bool
def openK (st : Store) (can : List Bool) (x : Nat) : Bool := cn can x || cn can (pubTo st (st.l.length + 1) x)
def shareK (st : Store) (f : Flg) (can : List Bool) (a b : Nat) : Bool :=
  (cn can a && openK st can b || cn can b && openK st can a) || (f.dh && cn can (pubTo st (st.l.length + 1) a) && cn can (pubTo st (st.l.length + 1) b))
def wrapK (st : Store) (can : List Bool) (a b : Nat) : Bool := cn can b && (cn can a || cn can (kpubTo st (st.l.length + 1) a))
def kemK (st : Store) (f : Flg) (can : List Bool) (a b : Nat) : Bool := wrapK st can a b || cn can (boxTo st (st.l.length + 1) a b) && (f.kem || cn can a)
def wayK (st : Store) (f : Flg) (can : List Bool) (t : Term) : Bool :=
  if t.k = 1 then true
  else if t.k = 3 ∨ t.k = 5 ∨ t.k = 9 then cn can t.a.toNat
  else if t.k = 4 then shareK st f can t.a.toNat t.b.toNat
  else if t.k = 6 then wrapK st can t.a.toNat t.b.toNat
  else if t.k = 7 then kemK st f can t.a.toNat t.b.toNat
  else if t.k = 8 ∨ t.k = 11 then cn can t.a.toNat && cn can t.b.toNat
  else if t.k = 10 then cn can t.a.toNat && cn can t.b.toNat && cn can t.c.toNat
  else false
def apartK (can : List Bool) (t : Term) : List Bool × Bool :=
  if t.k = 11 then ((can.set t.a.toNat true).set t.b.toNat true, !cn can t.a.toNat || !cn (can.set t.a.toNat true) t.b.toNat)
  else if t.k = 10 ∧ cn can t.a.toNat = true then (can.set t.c.toNat true, !cn can t.c.toNat)
  else (can, false)
def stepK (st : Store) (f : Flg) (can : List Bool) (i : Nat) : List Bool × Bool :=
  let t := st.at i
  let w := !cn can i && wayK st f can t
  let c1 := if w = true then can.set i true else can
  if cn c1 i = true then ((apartK c1 t).1, w || (apartK c1 t).2) else (c1, w)
def roundK (st : Store) (f : Flg) : Nat → Nat → List Bool → Bool → List Bool × Bool
  | 0, _, can, more => (can, more)
  | k + 1, i, can, more => roundK st f k (i + 1) (stepK st f can i).1 (more || (stepK st f can i).2)
def allK (st : Store) (f : Flg) : Nat → List Bool → List Bool
  | 0, can => can
  | n + 1, can => if (roundK st f st.l.length 1 can false).2 = true then allK st f n (roundK st f st.l.length 1 can false).1 else (roundK st f st.l.length 1 can false).1
def knownK (st : Store) (known : List Int) : List Bool := known.foldl (fun c x => c.set x.toNat true) (List.replicate (st.l.length + 1) false)
def canK (st : Store) (known : List Int) (f : Flg) (x : Int) : Bool × Nat :=
  if (known.all fun y => st.has y) = false then (false, 1)
  else if st.has x = false then (false, 5)
  else (cn (allK st f (st.l.length + 2) (knownK st known)) x.toNat, 0)
end Sough
