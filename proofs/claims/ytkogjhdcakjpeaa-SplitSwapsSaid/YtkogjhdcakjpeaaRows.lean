/-
  No cell of these rows narrows 'for every input' (looked for: loops, veiled, ifaces, maps, wideKeys, modest, calm, conditions, laid).
  DERIVED. THE GIVEN ROWS OF THIS SEAT. 6 by the template 'for every input the law returns true; each argument reads behind the call as it read before'; 0 by the template 'total and deterministic' (their statements: YtkogjhdcakjpeaaTotals.lean).
  GIVEN WITH THE SEED: the statements are not yours to turn. If you find one false, say at which input.
  Laid BY PROGRAM, IN A SANDBOX (cutbox-rows.mjs): the forced cells as the released guide's own fill.sh prints them over the translation 4c5b53d719db399d… (all of the seat's roots in one cut). By AI agents, Wed Nov 11 2026. No macro, syntax, notation, axiom, sorry.
-/
import Derived.Test.YtkogjhdcakjpeaaChecked
import GoSem.Claim
import GoSem.ClaimJoined
import GoSem.ClaimMapViews
import Derived.JoinedTies
import Derived.KernelRfl
namespace Go.Proofs.Ytkogjhdcakjpeaa
/- THE CELL 'sum', in the pinned program and in every row, IS THE sha256 OF THE DUMP (.gsa) THAT YtkogjhdcakjpeaaProg.lean LOADS. Nothing in Lean hashes anything: it is a label: what it is worth is what the hold of that sum in a sandbox is worth. -/
noncomputable def Try.pinned : Pinned := { name := "ytkogjhdcakjpeaa", sum := "4c5b53d719db399d49fd48cfe8b465124423babd2e05e42d1e4a780b2bf0b2d4", checked := Try.checked }
namespace Rows
def none {H : Type} : Left H := { results := [], args := [] }

/-- 'soughlaw11.SplitTells': WHATEVER THE INPUT: true; the input reads as it did. -/
def splitTellsSpec : ChangeSpec := { name := "splitTells", fn := fun _ => fun
  | [d1, d2, d3] => { results := [.lit (.bool true)], args := [d1, d2, d3] }
  | _ => none }
def splitTellsRow : OpenClaim := { program := "ytkogjhdcakjpeaa", sum := "4c5b53d719db399d49fd48cfe8b465124423babd2e05e42d1e4a780b2bf0b2d4", func := "sough/soughlaw11.SplitTells", spec := "splitTells", unfollowed := true, recurses := true, apart := false }
def SplitTellsSaid : Prop := splitTellsRow.holds Try.pinned (OpenSpec.ofChange splitTellsSpec)

/-- ITS FALSE NEIGHBOUR: 'it returns false'. Refute it at one input. -/
def splitTellsWrong : ChangeSpec := { name := "splitTells", fn := fun _ => fun
  | [d1, d2, d3] => { results := [.lit (.bool false)], args := [d1, d2, d3] }
  | _ => none }
def SplitTellsWrongFalsely : Prop := splitTellsRow.holds Try.pinned (OpenSpec.ofChange splitTellsWrong)

/-- 'soughlaw11.SplitBytes': WHATEVER THE INPUT: true; the input reads as it did. -/
def splitBytesSpec : ChangeSpec := { name := "splitBytes", fn := fun _ => fun
  | [d1, d2] => { results := [.lit (.bool true)], args := [d1, d2] }
  | _ => none }
def splitBytesRow : OpenClaim := { program := "ytkogjhdcakjpeaa", sum := "4c5b53d719db399d49fd48cfe8b465124423babd2e05e42d1e4a780b2bf0b2d4", func := "sough/soughlaw11.SplitBytes", spec := "splitBytes", unfollowed := true, recurses := true, apart := false }
def SplitBytesSaid : Prop := splitBytesRow.holds Try.pinned (OpenSpec.ofChange splitBytesSpec)

/-- ITS FALSE NEIGHBOUR: 'it returns false'. Refute it at one input. -/
def splitBytesWrong : ChangeSpec := { name := "splitBytes", fn := fun _ => fun
  | [d1, d2] => { results := [.lit (.bool false)], args := [d1, d2] }
  | _ => none }
def SplitBytesWrongFalsely : Prop := splitBytesRow.holds Try.pinned (OpenSpec.ofChange splitBytesWrong)

/-- 'soughlaw11.SplitBack': WHATEVER THE INPUT: true; the input reads as it did. -/
def splitBackSpec : ChangeSpec := { name := "splitBack", fn := fun _ => fun
  | [d1, d2, d3] => { results := [.lit (.bool true)], args := [d1, d2, d3] }
  | _ => none }
def splitBackRow : OpenClaim := { program := "ytkogjhdcakjpeaa", sum := "4c5b53d719db399d49fd48cfe8b465124423babd2e05e42d1e4a780b2bf0b2d4", func := "sough/soughlaw11.SplitBack", spec := "splitBack", unfollowed := true, recurses := true, apart := false }
def SplitBackSaid : Prop := splitBackRow.holds Try.pinned (OpenSpec.ofChange splitBackSpec)

/-- ITS FALSE NEIGHBOUR: 'it returns false'. Refute it at one input. -/
def splitBackWrong : ChangeSpec := { name := "splitBack", fn := fun _ => fun
  | [d1, d2, d3] => { results := [.lit (.bool false)], args := [d1, d2, d3] }
  | _ => none }
def SplitBackWrongFalsely : Prop := splitBackRow.holds Try.pinned (OpenSpec.ofChange splitBackWrong)

/-- 'soughlaw11.SplitSizes': WHATEVER THE INPUT: true; the input reads as it did. -/
def splitSizesSpec : ChangeSpec := { name := "splitSizes", fn := fun _ => fun
  | [d1, d2, d3] => { results := [.lit (.bool true)], args := [d1, d2, d3] }
  | _ => none }
def splitSizesRow : OpenClaim := { program := "ytkogjhdcakjpeaa", sum := "4c5b53d719db399d49fd48cfe8b465124423babd2e05e42d1e4a780b2bf0b2d4", func := "sough/soughlaw11.SplitSizes", spec := "splitSizes", unfollowed := true, recurses := true, apart := false }
def SplitSizesSaid : Prop := splitSizesRow.holds Try.pinned (OpenSpec.ofChange splitSizesSpec)

/-- ITS FALSE NEIGHBOUR: 'it returns false'. Refute it at one input. -/
def splitSizesWrong : ChangeSpec := { name := "splitSizes", fn := fun _ => fun
  | [d1, d2, d3] => { results := [.lit (.bool false)], args := [d1, d2, d3] }
  | _ => none }
def SplitSizesWrongFalsely : Prop := splitSizesRow.holds Try.pinned (OpenSpec.ofChange splitSizesWrong)

/-- 'soughlaw11.SplitSwaps': WHATEVER THE INPUT: true; the input reads as it did. -/
def splitSwapsSpec : ChangeSpec := { name := "splitSwaps", fn := fun _ => fun
  | [d1, d2, d3] => { results := [.lit (.bool true)], args := [d1, d2, d3] }
  | _ => none }
def splitSwapsRow : OpenClaim := { program := "ytkogjhdcakjpeaa", sum := "4c5b53d719db399d49fd48cfe8b465124423babd2e05e42d1e4a780b2bf0b2d4", func := "sough/soughlaw11.SplitSwaps", spec := "splitSwaps", unfollowed := true, recurses := true, apart := false }
def SplitSwapsSaid : Prop := splitSwapsRow.holds Try.pinned (OpenSpec.ofChange splitSwapsSpec)

/-- ITS FALSE NEIGHBOUR: 'it returns false'. Refute it at one input. -/
def splitSwapsWrong : ChangeSpec := { name := "splitSwaps", fn := fun _ => fun
  | [d1, d2, d3] => { results := [.lit (.bool false)], args := [d1, d2, d3] }
  | _ => none }
def SplitSwapsWrongFalsely : Prop := splitSwapsRow.holds Try.pinned (OpenSpec.ofChange splitSwapsWrong)

/-- 'soughlaw11.SplitApart': WHATEVER THE INPUT: true; the input reads as it did. -/
def splitApartSpec : ChangeSpec := { name := "splitApart", fn := fun _ => fun
  | [d1, d2] => { results := [.lit (.bool true)], args := [d1, d2] }
  | _ => none }
def splitApartRow : OpenClaim := { program := "ytkogjhdcakjpeaa", sum := "4c5b53d719db399d49fd48cfe8b465124423babd2e05e42d1e4a780b2bf0b2d4", func := "sough/soughlaw11.SplitApart", spec := "splitApart", unfollowed := true, recurses := true, apart := false }
def SplitApartSaid : Prop := splitApartRow.holds Try.pinned (OpenSpec.ofChange splitApartSpec)

/-- ITS FALSE NEIGHBOUR: 'it returns false'. Refute it at one input. -/
def splitApartWrong : ChangeSpec := { name := "splitApart", fn := fun _ => fun
  | [d1, d2] => { results := [.lit (.bool false)], args := [d1, d2] }
  | _ => none }
def SplitApartWrongFalsely : Prop := splitApartRow.holds Try.pinned (OpenSpec.ofChange splitApartWrong)

/- THE SECOND FORM. 'bulk': how many values and letters a reading holds, each counted each time it is reached (what is shared counts as often as it is met; a slice's spare places count too). A statement '..UptoSaid' is the law's where the arguments, and the package variables that the reading takes, are together of bulk at most 1048576: NARROWER than '..Said'. Prove '..Said' where nothing that the law and all that it calls make is longer than what came in: it says more and counts as full. Else prove '..UptoSaid'. A law counts once. -/
mutual
def uptoBulk {H : Type} : DataW H → Nat
  | .lit (.string bytes) => bytes.length + 1
  | .lit _ => 1
  | .nil => 1
  | .ptr d => uptoBulk d + 1
  | .slice elems spare => uptoBulkAll elems + uptoBulkAll spare + 1
  | .agg parts => uptoBulkAll parts + 1
  | .iface _ d => uptoBulk d + 1
  | .map entries => uptoBulkEntries entries + 1
  | .held _ => 1
def uptoBulkAll {H : Type} : List (DataW H) → Nat
  | [] => 0
  | d :: r => uptoBulk d + uptoBulkAll r
def uptoBulkEntries {H : Type} : List (Lit × DataW H) → Nat
  | [] => 0
  | x :: r => uptoBulkEntry x + uptoBulkEntries r
def uptoBulkEntry {H : Type} : Lit × DataW H → Nat
  | (.string bytes, d) => bytes.length + uptoBulk d + 1
  | (_, d) => uptoBulk d + 1
 end
def uptoSmall : (H : Type) → List (DataW H) → Bool := fun _ ds => decide (uptoBulkAll ds ≤ 1048576)
def OpenSpec.upto (s : _root_.Go.ChangeSpec) : _root_.Go.OpenSpec := { _root_.Go.OpenSpec.ofChange s with cond := some uptoSmall }

/-- 'soughlaw11.SplitTells', WHERE WHAT IT READS IS OF BULK AT MOST 1048576: true; the input reads as it did. -/
def splitTellsUptoRow : OpenClaim := { program := "ytkogjhdcakjpeaa", sum := "4c5b53d719db399d49fd48cfe8b465124423babd2e05e42d1e4a780b2bf0b2d4", func := "sough/soughlaw11.SplitTells", spec := "splitTells", unfollowed := true, recurses := true, apart := false, narrowed := true }
def SplitTellsUptoSaid : Prop := splitTellsUptoRow.holds Try.pinned (OpenSpec.upto splitTellsSpec)

/-- 'soughlaw11.SplitBytes', WHERE WHAT IT READS IS OF BULK AT MOST 1048576: true; the input reads as it did. -/
def splitBytesUptoRow : OpenClaim := { program := "ytkogjhdcakjpeaa", sum := "4c5b53d719db399d49fd48cfe8b465124423babd2e05e42d1e4a780b2bf0b2d4", func := "sough/soughlaw11.SplitBytes", spec := "splitBytes", unfollowed := true, recurses := true, apart := false, narrowed := true }
def SplitBytesUptoSaid : Prop := splitBytesUptoRow.holds Try.pinned (OpenSpec.upto splitBytesSpec)

/-- 'soughlaw11.SplitBack', WHERE WHAT IT READS IS OF BULK AT MOST 1048576: true; the input reads as it did. -/
def splitBackUptoRow : OpenClaim := { program := "ytkogjhdcakjpeaa", sum := "4c5b53d719db399d49fd48cfe8b465124423babd2e05e42d1e4a780b2bf0b2d4", func := "sough/soughlaw11.SplitBack", spec := "splitBack", unfollowed := true, recurses := true, apart := false, narrowed := true }
def SplitBackUptoSaid : Prop := splitBackUptoRow.holds Try.pinned (OpenSpec.upto splitBackSpec)

/-- 'soughlaw11.SplitSizes', WHERE WHAT IT READS IS OF BULK AT MOST 1048576: true; the input reads as it did. -/
def splitSizesUptoRow : OpenClaim := { program := "ytkogjhdcakjpeaa", sum := "4c5b53d719db399d49fd48cfe8b465124423babd2e05e42d1e4a780b2bf0b2d4", func := "sough/soughlaw11.SplitSizes", spec := "splitSizes", unfollowed := true, recurses := true, apart := false, narrowed := true }
def SplitSizesUptoSaid : Prop := splitSizesUptoRow.holds Try.pinned (OpenSpec.upto splitSizesSpec)

/-- 'soughlaw11.SplitSwaps', WHERE WHAT IT READS IS OF BULK AT MOST 1048576: true; the input reads as it did. -/
def splitSwapsUptoRow : OpenClaim := { program := "ytkogjhdcakjpeaa", sum := "4c5b53d719db399d49fd48cfe8b465124423babd2e05e42d1e4a780b2bf0b2d4", func := "sough/soughlaw11.SplitSwaps", spec := "splitSwaps", unfollowed := true, recurses := true, apart := false, narrowed := true }
def SplitSwapsUptoSaid : Prop := splitSwapsUptoRow.holds Try.pinned (OpenSpec.upto splitSwapsSpec)

/-- 'soughlaw11.SplitApart', WHERE WHAT IT READS IS OF BULK AT MOST 1048576: true; the input reads as it did. -/
def splitApartUptoRow : OpenClaim := { program := "ytkogjhdcakjpeaa", sum := "4c5b53d719db399d49fd48cfe8b465124423babd2e05e42d1e4a780b2bf0b2d4", func := "sough/soughlaw11.SplitApart", spec := "splitApart", unfollowed := true, recurses := true, apart := false, narrowed := true }
def SplitApartUptoSaid : Prop := splitApartUptoRow.holds Try.pinned (OpenSpec.upto splitApartSpec)

end Rows
end Go.Proofs.Ytkogjhdcakjpeaa
