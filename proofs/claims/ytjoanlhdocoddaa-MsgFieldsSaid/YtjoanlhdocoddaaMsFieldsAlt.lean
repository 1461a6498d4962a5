/- What MsgFields alters. -/
import Derived.Test.YtjoanlhdocoddaaMsFieldsLaw
namespace Go.Proofs.Ytjoanlhdocoddaa
open Go.RowKit Go.Maps Go.ChangeMaps

/-- a's copy with four cells altered; with another name. -/
def alt1 (a : Sough.Msg) (t c e n : Int) : Sough.Msg := ⟨fun k => if k = 0 then 1 else if k = 2 then t else if k = 5 then c else if k = 11 then e else if k = 12 then n else a.v k, a.offer⟩
def ren (k0 : Int) (a : Sough.Msg) (x : Int) : Sough.Msg := ⟨fun k => if k = 0 then k0 else if k = 9 then x else a.v k, a.offer⟩

/-- So many names are looked at; a name at place d is the new one. -/
def LookR (w : World) (L : List (Nat × Obj)) (n d : Nat) (isv iv : Value) (wr : World) : Prop :=
  ∃ (i : Nat) (b : Bool), i ≤ n ∧ isv = .bool b ∧ iv = .int .i64 i ∧ (d < i → b = true) ∧ Mem w L wr

def alt2 (a : Sough.Msg) (p0 : List UInt8) (p1 : Int) (p2 : Int) (p3 : Int) : Sough.Msg := ⟨fun k => if k = 0 then 2 else if k = 4 then p1 else if k = 7 then p2 else if k = 10 then p3 else a.v k, p0⟩
def alt3 (a : Sough.Msg) (p0 : Int) (p1 : Int) (p2 : Int) (p3 : Int) : Sough.Msg := ⟨fun k => if k = 0 then 3 else if k = 1 then p0 else if k = 6 then p3 else if k = 8 then p2 else if k = 9 then p1 else a.v k, a.offer⟩
def alt4 (a : Sough.Msg) (p0 : Int) (p1 : Int) (p2 : Int) (p3 : Int) : Sough.Msg := ⟨fun k => if k = 0 then 4 else if k = 1 then p0 else if k = 5 then p1 else if k = 6 then p2 else if k = 10 then p3 else a.v k, a.offer⟩
/-- A copy as it is. -/
def rn3 (a : Sough.Msg) : Sough.Msg := ⟨fun k => if k = 0 then 3 else a.v k, a.offer⟩

end Go.Proofs.Ytjoanlhdocoddaa
