/- Plain law: messages of layer 10. No program in sight. -/
import Derived.Test.YtjoanlhdocoddaaVtPlain
namespace Sough

/-- A message: its cells as numbers (0: the kind; 1, 2: from, to; 4 ..: the rest; 3 is none), and its offer. -/
structure Msg where
  v : Nat → Int
  offer : List UInt8

/-- A field of a kind: its cell (3: the offer), its least and its greatest number. -/
structure Fld where
  c : Nat
  lo : Nat
  hi : Nat
deriving DecidableEq

def u64cell (c : Nat) : Bool := c == 1 || c == 2 || c == 11 || c == 12
def number (c : Nat) : Fld := ⟨c, 1, 4294967296⟩
def name (c : Nat) : Fld := ⟨c, 1, 1048576⟩
def flds1 : List Fld := [number 1, ⟨3, 0, 0⟩, ⟨4, 0, 1⟩, name 6, name 7, name 8, name 9, name 10]
def flds2 : List Fld := [number 1, number 2, name 6, name 8, name 9]
def flds3 : List Fld := [number 2, ⟨5, 1, 15⟩]
def flds4 : List Fld := [number 2, ⟨11, 0, 1000⟩, ⟨12, 0, 255⟩, name 9]
def flds (k : Int) : List Fld := if k = 1 then flds1 else if k = 2 then flds2 else if k = 3 then flds3 else if k = 4 then flds4 else []

theorem flds_cases (k : Int) : (k = 1 ∧ flds k = flds1) ∨ (k = 2 ∧ flds k = flds2) ∨ (k = 3 ∧ flds k = flds3) ∨ (k = 4 ∧ flds k = flds4) ∨ (¬ k = 1 ∧ ¬ k = 2 ∧ ¬ k = 3 ∧ ¬ k = 4 ∧ flds k = []) := by
  unfold flds
  by_cases h1 : k = 1
  · simp [h1]
  · by_cases h2 : k = 2
    · simp [h2]
    · by_cases h3 : k = 3
      · simp [h3]
      · by_cases h4 : k = 4
        · simp [h4]
        · simp [h1, h2, h3, h4]

end Sough
