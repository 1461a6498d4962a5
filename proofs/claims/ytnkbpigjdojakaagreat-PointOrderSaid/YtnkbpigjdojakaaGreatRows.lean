/-
  No cell of these rows narrows 'for every input' (looked for: loops, veiled, ifaces, maps, wideKeys, modest, calm, conditions, laid).
  DERIVED. THE GIVEN ROWS OF THIS SEAT. 7 by the template 'for every input the law returns true; each argument reads behind the call as it read before'; 0 by the template 'total and deterministic' (their statements: YtnkbpigjdojakaaGreatTotals.lean).
  GIVEN WITH THE SEED: the statements are not yours to turn. If you find one false, say at which input.
  Laid BY PROGRAM, IN A SANDBOX (cutbox-rows.mjs): the forced cells as the released guide's own fill.sh prints them over the translation bb5d9b78e1a66776… (all of the seat's roots in one cut). By AI agents, Wed Nov 11 2026. No macro, syntax, notation, axiom, sorry.
-/
import Derived.Test.YtnkbpigjdojakaaGreatChecked
import GoSem.Claim
import GoSem.ClaimJoined
import GoSem.ClaimMapViews
import Derived.JoinedTies
import Derived.KernelRfl
namespace Go.Proofs.YtnkbpigjdojakaaGreat
/- THE CELL 'sum', in the pinned program and in every row, IS THE sha256 OF THE DUMP (.gsa) THAT YtnkbpigjdojakaaGreatProg.lean LOADS. Nothing in Lean hashes anything: it is a label: what it is worth is what the hold of that sum in a sandbox is worth. -/
noncomputable def Tryz.pinned : Pinned := { name := "ytnkbpigjdojakaagreat", sum := "bb5d9b78e1a6677652b1e665ee1d8b934e2adb6e7441652e26d3569e0275ac87", checked := Tryz.checked }
namespace Rows
def none {H : Type} : Left H := { results := [], args := [] }

/-- 'soughlaw21.PointMeets': WHATEVER THE INPUT: true; the input reads as it did. -/
def pointMeetsSpec : ChangeSpec := { name := "pointMeets", fn := fun _ => fun
  | [d1, d2, d3] => { results := [.lit (.bool true)], args := [d1, d2, d3] }
  | _ => none }
def pointMeetsRow : OpenClaim := { program := "ytnkbpigjdojakaagreat", sum := "bb5d9b78e1a6677652b1e665ee1d8b934e2adb6e7441652e26d3569e0275ac87", func := "sough/soughlaw21.PointMeets", spec := "pointMeets", inPlace := ["internal/bytealg.IndexByteString", "slices.overlaps[sough/skip.Entry]"], unfollowed := true, recurses := true, plainKeys := false, apart := false }
def PointMeetsSaid : Prop := pointMeetsRow.holds Tryz.pinned (OpenSpec.ofChange pointMeetsSpec)

/-- ITS FALSE NEIGHBOUR: 'it returns false'. Refute it at one input. -/
def pointMeetsWrong : ChangeSpec := { name := "pointMeets", fn := fun _ => fun
  | [d1, d2, d3] => { results := [.lit (.bool false)], args := [d1, d2, d3] }
  | _ => none }
def PointMeetsWrongFalsely : Prop := pointMeetsRow.holds Tryz.pinned (OpenSpec.ofChange pointMeetsWrong)

/-- 'soughlaw21.PointBounds': WHATEVER THE INPUT: true; the input reads as it did. -/
def pointBoundsSpec : ChangeSpec := { name := "pointBounds", fn := fun _ => fun
  | [d1, d2] => { results := [.lit (.bool true)], args := [d1, d2] }
  | _ => none }
def pointBoundsRow : OpenClaim := { program := "ytnkbpigjdojakaagreat", sum := "bb5d9b78e1a6677652b1e665ee1d8b934e2adb6e7441652e26d3569e0275ac87", func := "sough/soughlaw21.PointBounds", spec := "pointBounds", inPlace := ["internal/bytealg.IndexByteString", "slices.overlaps[sough/skip.Entry]"], unfollowed := true, recurses := true, plainKeys := false, apart := false }
def PointBoundsSaid : Prop := pointBoundsRow.holds Tryz.pinned (OpenSpec.ofChange pointBoundsSpec)

/-- ITS FALSE NEIGHBOUR: 'it returns false'. Refute it at one input. -/
def pointBoundsWrong : ChangeSpec := { name := "pointBounds", fn := fun _ => fun
  | [d1, d2] => { results := [.lit (.bool false)], args := [d1, d2] }
  | _ => none }
def PointBoundsWrongFalsely : Prop := pointBoundsRow.holds Tryz.pinned (OpenSpec.ofChange pointBoundsWrong)

/-- 'soughlaw21.PointTurns': WHATEVER THE INPUT: true; the input reads as it did. -/
def pointTurnsSpec : ChangeSpec := { name := "pointTurns", fn := fun _ => fun
  | [d1, d2, d3] => { results := [.lit (.bool true)], args := [d1, d2, d3] }
  | _ => none }
def pointTurnsRow : OpenClaim := { program := "ytnkbpigjdojakaagreat", sum := "bb5d9b78e1a6677652b1e665ee1d8b934e2adb6e7441652e26d3569e0275ac87", func := "sough/soughlaw21.PointTurns", spec := "pointTurns", inPlace := ["internal/bytealg.IndexByteString", "slices.overlaps[sough/skip.Entry]"], unfollowed := true, recurses := true, plainKeys := false, apart := false }
def PointTurnsSaid : Prop := pointTurnsRow.holds Tryz.pinned (OpenSpec.ofChange pointTurnsSpec)

/-- ITS FALSE NEIGHBOUR: 'it returns false'. Refute it at one input. -/
def pointTurnsWrong : ChangeSpec := { name := "pointTurns", fn := fun _ => fun
  | [d1, d2, d3] => { results := [.lit (.bool false)], args := [d1, d2, d3] }
  | _ => none }
def PointTurnsWrongFalsely : Prop := pointTurnsRow.holds Tryz.pinned (OpenSpec.ofChange pointTurnsWrong)

/-- 'soughlaw21.PointTimes': WHATEVER THE INPUT: true; the input reads as it did. -/
def pointTimesSpec : ChangeSpec := { name := "pointTimes", fn := fun _ => fun
  | [d1, d2] => { results := [.lit (.bool true)], args := [d1, d2] }
  | _ => none }
def pointTimesRow : OpenClaim := { program := "ytnkbpigjdojakaagreat", sum := "bb5d9b78e1a6677652b1e665ee1d8b934e2adb6e7441652e26d3569e0275ac87", func := "sough/soughlaw21.PointTimes", spec := "pointTimes", inPlace := ["internal/bytealg.IndexByteString", "slices.overlaps[sough/skip.Entry]"], unfollowed := true, recurses := true, plainKeys := false, apart := false }
def PointTimesSaid : Prop := pointTimesRow.holds Tryz.pinned (OpenSpec.ofChange pointTimesSpec)

/-- ITS FALSE NEIGHBOUR: 'it returns false'. Refute it at one input. -/
def pointTimesWrong : ChangeSpec := { name := "pointTimes", fn := fun _ => fun
  | [d1, d2] => { results := [.lit (.bool false)], args := [d1, d2] }
  | _ => none }
def PointTimesWrongFalsely : Prop := pointTimesRow.holds Tryz.pinned (OpenSpec.ofChange pointTimesWrong)

/-- 'soughlaw21.PointRejects': WHATEVER THE INPUT: true; the input reads as it did. -/
def pointRejectsSpec : ChangeSpec := { name := "pointRejects", fn := fun _ => fun
  | [d1, d2, d3] => { results := [.lit (.bool true)], args := [d1, d2, d3] }
  | _ => none }
def pointRejectsRow : OpenClaim := { program := "ytnkbpigjdojakaagreat", sum := "bb5d9b78e1a6677652b1e665ee1d8b934e2adb6e7441652e26d3569e0275ac87", func := "sough/soughlaw21.PointRejects", spec := "pointRejects", inPlace := ["internal/bytealg.IndexByteString", "slices.overlaps[sough/skip.Entry]"], unfollowed := true, recurses := true, plainKeys := false, apart := false }
def PointRejectsSaid : Prop := pointRejectsRow.holds Tryz.pinned (OpenSpec.ofChange pointRejectsSpec)

/-- ITS FALSE NEIGHBOUR: 'it returns false'. Refute it at one input. -/
def pointRejectsWrong : ChangeSpec := { name := "pointRejects", fn := fun _ => fun
  | [d1, d2, d3] => { results := [.lit (.bool false)], args := [d1, d2, d3] }
  | _ => none }
def PointRejectsWrongFalsely : Prop := pointRejectsRow.holds Tryz.pinned (OpenSpec.ofChange pointRejectsWrong)

/-- 'soughlaw21.PointOrder': WHATEVER THE INPUT: true; the input reads as it did. -/
def pointOrderSpec : ChangeSpec := { name := "pointOrder", fn := fun _ => fun
  | [d1, d2] => { results := [.lit (.bool true)], args := [d1, d2] }
  | _ => none }
def pointOrderRow : OpenClaim := { program := "ytnkbpigjdojakaagreat", sum := "bb5d9b78e1a6677652b1e665ee1d8b934e2adb6e7441652e26d3569e0275ac87", func := "sough/soughlaw21.PointOrder", spec := "pointOrder", inPlace := ["internal/bytealg.IndexByteString", "slices.overlaps[sough/skip.Entry]"], unfollowed := true, recurses := true, plainKeys := false, apart := false }
def PointOrderSaid : Prop := pointOrderRow.holds Tryz.pinned (OpenSpec.ofChange pointOrderSpec)

/-- ITS FALSE NEIGHBOUR: 'it returns false'. Refute it at one input. -/
def pointOrderWrong : ChangeSpec := { name := "pointOrder", fn := fun _ => fun
  | [d1, d2] => { results := [.lit (.bool false)], args := [d1, d2] }
  | _ => none }
def PointOrderWrongFalsely : Prop := pointOrderRow.holds Tryz.pinned (OpenSpec.ofChange pointOrderWrong)

/-- 'soughlaw21.PointReplays': WHATEVER THE INPUT: true; the input reads as it did. -/
def pointReplaysSpec : ChangeSpec := { name := "pointReplays", fn := fun _ => fun
  | [d1, d2] => { results := [.lit (.bool true)], args := [d1, d2] }
  | _ => none }
def pointReplaysRow : OpenClaim := { program := "ytnkbpigjdojakaagreat", sum := "bb5d9b78e1a6677652b1e665ee1d8b934e2adb6e7441652e26d3569e0275ac87", func := "sough/soughlaw21.PointReplays", spec := "pointReplays", inPlace := ["internal/bytealg.IndexByteString", "slices.overlaps[sough/skip.Entry]"], unfollowed := true, recurses := true, plainKeys := false, apart := false }
def PointReplaysSaid : Prop := pointReplaysRow.holds Tryz.pinned (OpenSpec.ofChange pointReplaysSpec)

/-- ITS FALSE NEIGHBOUR: 'it returns false'. Refute it at one input. -/
def pointReplaysWrong : ChangeSpec := { name := "pointReplays", fn := fun _ => fun
  | [d1, d2] => { results := [.lit (.bool false)], args := [d1, d2] }
  | _ => none }
def PointReplaysWrongFalsely : Prop := pointReplaysRow.holds Tryz.pinned (OpenSpec.ofChange pointReplaysWrong)

/- THE SECOND FORM. 'bulk': how many values and letters a reading holds, each counted each time it is reached (what is shared counts as often as it is met; a slice's spare places count too). A statement '..UptoSaid' is the law's where the arguments, and the package variables that the reading takes, are together of bulk at most 1048576: NARROWER than '..Said'. Prove '..Said' where nothing that the law and all that it calls make is longer than what came in: it says more and counts as full. Else prove '..UptoSaid'. A law counts once. -/
mutual
def uptoBulk {H : Type} : DataW H → Nat
  | .lit (.string bytes) => bytes.length + 1
  | .lit _ => 1
  | .nil => 1
  | .ptr d => uptoBulk d + 1
  | .slice elems spare => uptoBulkAll elems + uptoBulkAll spare + 1
  | .agg parts => uptoBulkAll parts + 1
  | .iface _ d => uptoBulk d + 1
  | .map entries => uptoBulkEntries entries + 1
  | .held _ => 1
def uptoBulkAll {H : Type} : List (DataW H) → Nat
  | [] => 0
  | d :: r => uptoBulk d + uptoBulkAll r
def uptoBulkEntries {H : Type} : List (Lit × DataW H) → Nat
  | [] => 0
  | x :: r => uptoBulkEntry x + uptoBulkEntries r
def uptoBulkEntry {H : Type} : Lit × DataW H → Nat
  | (.string bytes, d) => bytes.length + uptoBulk d + 1
  | (_, d) => uptoBulk d + 1
 end
def uptoSmall : (H : Type) → List (DataW H) → Bool := fun _ ds => decide (uptoBulkAll ds ≤ 1048576)
def OpenSpec.upto (s : _root_.Go.ChangeSpec) : _root_.Go.OpenSpec := { _root_.Go.OpenSpec.ofChange s with cond := some uptoSmall }

/-- 'soughlaw21.PointMeets', WHERE WHAT IT READS IS OF BULK AT MOST 1048576: true; the input reads as it did. -/
def pointMeetsUptoRow : OpenClaim := { program := "ytnkbpigjdojakaagreat", sum := "bb5d9b78e1a6677652b1e665ee1d8b934e2adb6e7441652e26d3569e0275ac87", func := "sough/soughlaw21.PointMeets", spec := "pointMeets", inPlace := ["internal/bytealg.IndexByteString", "slices.overlaps[sough/skip.Entry]"], unfollowed := true, recurses := true, plainKeys := false, apart := false, narrowed := true }
def PointMeetsUptoSaid : Prop := pointMeetsUptoRow.holds Tryz.pinned (OpenSpec.upto pointMeetsSpec)

/-- 'soughlaw21.PointBounds', WHERE WHAT IT READS IS OF BULK AT MOST 1048576: true; the input reads as it did. -/
def pointBoundsUptoRow : OpenClaim := { program := "ytnkbpigjdojakaagreat", sum := "bb5d9b78e1a6677652b1e665ee1d8b934e2adb6e7441652e26d3569e0275ac87", func := "sough/soughlaw21.PointBounds", spec := "pointBounds", inPlace := ["internal/bytealg.IndexByteString", "slices.overlaps[sough/skip.Entry]"], unfollowed := true, recurses := true, plainKeys := false, apart := false, narrowed := true }
def PointBoundsUptoSaid : Prop := pointBoundsUptoRow.holds Tryz.pinned (OpenSpec.upto pointBoundsSpec)

/-- 'soughlaw21.PointTurns', WHERE WHAT IT READS IS OF BULK AT MOST 1048576: true; the input reads as it did. -/
def pointTurnsUptoRow : OpenClaim := { program := "ytnkbpigjdojakaagreat", sum := "bb5d9b78e1a6677652b1e665ee1d8b934e2adb6e7441652e26d3569e0275ac87", func := "sough/soughlaw21.PointTurns", spec := "pointTurns", inPlace := ["internal/bytealg.IndexByteString", "slices.overlaps[sough/skip.Entry]"], unfollowed := true, recurses := true, plainKeys := false, apart := false, narrowed := true }
def PointTurnsUptoSaid : Prop := pointTurnsUptoRow.holds Tryz.pinned (OpenSpec.upto pointTurnsSpec)

/-- 'soughlaw21.PointTimes', WHERE WHAT IT READS IS OF BULK AT MOST 1048576: true; the input reads as it did. -/
def pointTimesUptoRow : OpenClaim := { program := "ytnkbpigjdojakaagreat", sum := "bb5d9b78e1a6677652b1e665ee1d8b934e2adb6e7441652e26d3569e0275ac87", func := "sough/soughlaw21.PointTimes", spec := "pointTimes", inPlace := ["internal/bytealg.IndexByteString", "slices.overlaps[sough/skip.Entry]"], unfollowed := true, recurses := true, plainKeys := false, apart := false, narrowed := true }
def PointTimesUptoSaid : Prop := pointTimesUptoRow.holds Tryz.pinned (OpenSpec.upto pointTimesSpec)

/-- 'soughlaw21.PointRejects', WHERE WHAT IT READS IS OF BULK AT MOST 1048576: true; the input reads as it did. -/
def pointRejectsUptoRow : OpenClaim := { program := "ytnkbpigjdojakaagreat", sum := "bb5d9b78e1a6677652b1e665ee1d8b934e2adb6e7441652e26d3569e0275ac87", func := "sough/soughlaw21.PointRejects", spec := "pointRejects", inPlace := ["internal/bytealg.IndexByteString", "slices.overlaps[sough/skip.Entry]"], unfollowed := true, recurses := true, plainKeys := false, apart := false, narrowed := true }
def PointRejectsUptoSaid : Prop := pointRejectsUptoRow.holds Tryz.pinned (OpenSpec.upto pointRejectsSpec)

/-- 'soughlaw21.PointOrder', WHERE WHAT IT READS IS OF BULK AT MOST 1048576: true; the input reads as it did. -/
def pointOrderUptoRow : OpenClaim := { program := "ytnkbpigjdojakaagreat", sum := "bb5d9b78e1a6677652b1e665ee1d8b934e2adb6e7441652e26d3569e0275ac87", func := "sough/soughlaw21.PointOrder", spec := "pointOrder", inPlace := ["internal/bytealg.IndexByteString", "slices.overlaps[sough/skip.Entry]"], unfollowed := true, recurses := true, plainKeys := false, apart := false, narrowed := true }
def PointOrderUptoSaid : Prop := pointOrderUptoRow.holds Tryz.pinned (OpenSpec.upto pointOrderSpec)

/-- 'soughlaw21.PointReplays', WHERE WHAT IT READS IS OF BULK AT MOST 1048576: true; the input reads as it did. -/
def pointReplaysUptoRow : OpenClaim := { program := "ytnkbpigjdojakaagreat", sum := "bb5d9b78e1a6677652b1e665ee1d8b934e2adb6e7441652e26d3569e0275ac87", func := "sough/soughlaw21.PointReplays", spec := "pointReplays", inPlace := ["internal/bytealg.IndexByteString", "slices.overlaps[sough/skip.Entry]"], unfollowed := true, recurses := true, plainKeys := false, apart := false, narrowed := true }
def PointReplaysUptoSaid : Prop := pointReplaysUptoRow.holds Tryz.pinned (OpenSpec.upto pointReplaysSpec)

end Rows
end Go.Proofs.YtnkbpigjdojakaaGreat
