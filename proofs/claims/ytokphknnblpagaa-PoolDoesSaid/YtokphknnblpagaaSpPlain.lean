/- Plain law: a part of a message, whether it may be, its bytes. No program in sight. -/
import Derived.Test.YtokphknnblpagaaVtPlain
namespace Sough

structure Frag where
  id : Nat
  index : Int
  count : Int
  part : List UInt8

def zeroFrag : Frag := ⟨0, 0, 0, []⟩

def Frag.ok (f : Frag) : Prop := 1 ≤ f.id ∧ f.id ≤ 4294967296 ∧ 1 ≤ f.count ∧ f.count ≤ 16 ∧ 0 ≤ f.index ∧ f.index < f.count ∧ 1 ≤ f.part.length ∧ f.part.length ≤ 1000
instance okDec (f : Frag) : Decidable f.ok := by unfold Frag.ok; infer_instance
def Frag.right (f : Frag) : Bool := decide f.ok

theorem right_iff (f : Frag) : f.right = true ↔ f.ok := by unfold Frag.right; exact decide_eq_true_iff

def Frag.bytes (f : Frag) : List UInt8 := put f.id ++ (put f.index.toNat ++ (put f.count.toNat ++ f.part))
def Frag.encode (f : Frag) : List UInt8 := if f.ok then f.bytes else []

/-- The part that bytes are, and what is wrong. -/
def decode (s : List UInt8) : Frag × Nat :=
  let a := get s 0
  if a.2.2 ≠ 0 then (zeroFrag, a.2.2) else
  let b := get s a.2.1
  if b.2.2 ≠ 0 then (zeroFrag, b.2.2) else
  let c := get s b.2.1
  if c.2.2 ≠ 0 then (zeroFrag, c.2.2) else
  if Frag.ok ⟨a.1, b.1, c.1, s.drop c.2.1⟩ then (⟨a.1, b.1, c.1, s.drop c.2.1⟩, 0) else (zeroFrag, 3)

end Sough
