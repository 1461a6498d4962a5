/-
  No cell of these rows narrows 'for every input' (looked for: loops, veiled, ifaces, maps, wideKeys, modest, calm, conditions, laid).
  DERIVED. THE GIVEN ROWS OF THIS SEAT. 8 by the template 'for every input the law returns true; each argument reads behind the call as it read before'; 0 by the template 'total and deterministic' (their statements: YtnolpbkeheiadaaTotals.lean).
  GIVEN WITH THE SEED: the statements are not yours to turn. If you find one false, say at which input.
  Laid BY PROGRAM, IN A SANDBOX (cutbox-rows.mjs): the forced cells as the released guide's own fill.sh prints them over the translation 83ea180f3a9abdaf… (all of the seat's roots in one cut). By AI agents, Wed Nov 11 2026. No macro, syntax, notation, axiom, sorry.
-/
import Derived.Test.YtnolpbkeheiadaaChecked
import GoSem.Claim
import GoSem.ClaimJoined
import GoSem.ClaimMapViews
import Derived.JoinedTies
import Derived.KernelRfl
namespace Go.Proofs.Ytnolpbkeheiadaa
/- THE CELL 'sum', in the pinned program and in every row, IS THE sha256 OF THE DUMP (.gsa) THAT YtnolpbkeheiadaaProg.lean LOADS. Nothing in Lean hashes anything: it is a label: what it is worth is what the hold of that sum in a sandbox is worth. -/
noncomputable def Try.pinned : Pinned := { name := "ytnolpbkeheiadaa", sum := "83ea180f3a9abdafff3dd99e7627f0567ca15a41add2bef6d6ef4f86e1db6744", checked := Try.checked }
namespace Rows
def none {H : Type} : Left H := { results := [], args := [] }

/-- 'soughlaw01.VintTells': WHATEVER THE INPUT: true; the input reads as it did. -/
def vintTellsSpec : ChangeSpec := { name := "vintTells", fn := fun _ => fun
  | [d1, d2, d3] => { results := [.lit (.bool true)], args := [d1, d2, d3] }
  | _ => none }
def vintTellsRow : OpenClaim := { program := "ytnolpbkeheiadaa", sum := "83ea180f3a9abdafff3dd99e7627f0567ca15a41add2bef6d6ef4f86e1db6744", func := "sough/soughlaw01.VintTells", spec := "vintTells", unfollowed := true, recurses := true, apart := false }
def VintTellsSaid : Prop := vintTellsRow.holds Try.pinned (OpenSpec.ofChange vintTellsSpec)

/-- ITS FALSE NEIGHBOUR: 'it returns false'. Refute it at one input. -/
def vintTellsWrong : ChangeSpec := { name := "vintTells", fn := fun _ => fun
  | [d1, d2, d3] => { results := [.lit (.bool false)], args := [d1, d2, d3] }
  | _ => none }
def VintTellsWrongFalsely : Prop := vintTellsRow.holds Try.pinned (OpenSpec.ofChange vintTellsWrong)

/-- 'soughlaw01.VintTexts': WHATEVER THE INPUT: true; the input reads as it did. -/
def vintTextsSpec : ChangeSpec := { name := "vintTexts", fn := fun _ => fun
  | [d1, d2, d3] => { results := [.lit (.bool true)], args := [d1, d2, d3] }
  | _ => none }
def vintTextsRow : OpenClaim := { program := "ytnolpbkeheiadaa", sum := "83ea180f3a9abdafff3dd99e7627f0567ca15a41add2bef6d6ef4f86e1db6744", func := "sough/soughlaw01.VintTexts", spec := "vintTexts", unfollowed := true, recurses := true, apart := false }
def VintTextsSaid : Prop := vintTextsRow.holds Try.pinned (OpenSpec.ofChange vintTextsSpec)

/-- ITS FALSE NEIGHBOUR: 'it returns false'. Refute it at one input. -/
def vintTextsWrong : ChangeSpec := { name := "vintTexts", fn := fun _ => fun
  | [d1, d2, d3] => { results := [.lit (.bool false)], args := [d1, d2, d3] }
  | _ => none }
def VintTextsWrongFalsely : Prop := vintTextsRow.holds Try.pinned (OpenSpec.ofChange vintTextsWrong)

/-- 'soughlaw01.VintBack': WHATEVER THE INPUT: true; the input reads as it did. -/
def vintBackSpec : ChangeSpec := { name := "vintBack", fn := fun _ => fun
  | [d1, d2] => { results := [.lit (.bool true)], args := [d1, d2] }
  | _ => none }
def vintBackRow : OpenClaim := { program := "ytnolpbkeheiadaa", sum := "83ea180f3a9abdafff3dd99e7627f0567ca15a41add2bef6d6ef4f86e1db6744", func := "sough/soughlaw01.VintBack", spec := "vintBack", unfollowed := true, recurses := true, apart := false }
def VintBackSaid : Prop := vintBackRow.holds Try.pinned (OpenSpec.ofChange vintBackSpec)

/-- ITS FALSE NEIGHBOUR: 'it returns false'. Refute it at one input. -/
def vintBackWrong : ChangeSpec := { name := "vintBack", fn := fun _ => fun
  | [d1, d2] => { results := [.lit (.bool false)], args := [d1, d2] }
  | _ => none }
def VintBackWrongFalsely : Prop := vintBackRow.holds Try.pinned (OpenSpec.ofChange vintBackWrong)

/-- 'soughlaw01.VintOrder': WHATEVER THE INPUT: true; the input reads as it did. -/
def vintOrderSpec : ChangeSpec := { name := "vintOrder", fn := fun _ => fun
  | [d1, d2] => { results := [.lit (.bool true)], args := [d1, d2] }
  | _ => none }
def vintOrderRow : OpenClaim := { program := "ytnolpbkeheiadaa", sum := "83ea180f3a9abdafff3dd99e7627f0567ca15a41add2bef6d6ef4f86e1db6744", func := "sough/soughlaw01.VintOrder", spec := "vintOrder", unfollowed := true, recurses := true, apart := false }
def VintOrderSaid : Prop := vintOrderRow.holds Try.pinned (OpenSpec.ofChange vintOrderSpec)

/-- ITS FALSE NEIGHBOUR: 'it returns false'. Refute it at one input. -/
def vintOrderWrong : ChangeSpec := { name := "vintOrder", fn := fun _ => fun
  | [d1, d2] => { results := [.lit (.bool false)], args := [d1, d2] }
  | _ => none }
def VintOrderWrongFalsely : Prop := vintOrderRow.holds Try.pinned (OpenSpec.ofChange vintOrderWrong)

/-- 'soughlaw01.VintShort': WHATEVER THE INPUT: true; the input reads as it did. -/
def vintShortSpec : ChangeSpec := { name := "vintShort", fn := fun _ => fun
  | [d1, d2, d3] => { results := [.lit (.bool true)], args := [d1, d2, d3] }
  | _ => none }
def vintShortRow : OpenClaim := { program := "ytnolpbkeheiadaa", sum := "83ea180f3a9abdafff3dd99e7627f0567ca15a41add2bef6d6ef4f86e1db6744", func := "sough/soughlaw01.VintShort", spec := "vintShort", unfollowed := true, recurses := true, apart := false }
def VintShortSaid : Prop := vintShortRow.holds Try.pinned (OpenSpec.ofChange vintShortSpec)

/-- ITS FALSE NEIGHBOUR: 'it returns false'. Refute it at one input. -/
def vintShortWrong : ChangeSpec := { name := "vintShort", fn := fun _ => fun
  | [d1, d2, d3] => { results := [.lit (.bool false)], args := [d1, d2, d3] }
  | _ => none }
def VintShortWrongFalsely : Prop := vintShortRow.holds Try.pinned (OpenSpec.ofChange vintShortWrong)

/-- 'soughlaw01.VintWhere': WHATEVER THE INPUT: true; the input reads as it did. -/
def vintWhereSpec : ChangeSpec := { name := "vintWhere", fn := fun _ => fun
  | [d1, d2] => { results := [.lit (.bool true)], args := [d1, d2] }
  | _ => none }
def vintWhereRow : OpenClaim := { program := "ytnolpbkeheiadaa", sum := "83ea180f3a9abdafff3dd99e7627f0567ca15a41add2bef6d6ef4f86e1db6744", func := "sough/soughlaw01.VintWhere", spec := "vintWhere", unfollowed := true, recurses := true, apart := false }
def VintWhereSaid : Prop := vintWhereRow.holds Try.pinned (OpenSpec.ofChange vintWhereSpec)

/-- ITS FALSE NEIGHBOUR: 'it returns false'. Refute it at one input. -/
def vintWhereWrong : ChangeSpec := { name := "vintWhere", fn := fun _ => fun
  | [d1, d2] => { results := [.lit (.bool false)], args := [d1, d2] }
  | _ => none }
def VintWhereWrongFalsely : Prop := vintWhereRow.holds Try.pinned (OpenSpec.ofChange vintWhereWrong)

/-- 'soughlaw01.VintDigits': WHATEVER THE INPUT: true; the input reads as it did. -/
def vintDigitsSpec : ChangeSpec := { name := "vintDigits", fn := fun _ => fun
  | [d] => { results := [.lit (.bool true)], args := [d] }
  | _ => none }
def vintDigitsRow : OpenClaim := { program := "ytnolpbkeheiadaa", sum := "83ea180f3a9abdafff3dd99e7627f0567ca15a41add2bef6d6ef4f86e1db6744", func := "sough/soughlaw01.VintDigits", spec := "vintDigits", unfollowed := true, recurses := true, apart := false }
def VintDigitsSaid : Prop := vintDigitsRow.holds Try.pinned (OpenSpec.ofChange vintDigitsSpec)

/-- ITS FALSE NEIGHBOUR: 'it returns false'. Refute it at one input. -/
def vintDigitsWrong : ChangeSpec := { name := "vintDigits", fn := fun _ => fun
  | [d] => { results := [.lit (.bool false)], args := [d] }
  | _ => none }
def VintDigitsWrongFalsely : Prop := vintDigitsRow.holds Try.pinned (OpenSpec.ofChange vintDigitsWrong)

/-- 'soughlaw01.VintMost': WHATEVER THE INPUT: true; the input reads as it did. -/
def vintMostSpec : ChangeSpec := { name := "vintMost", fn := fun _ => fun
  | [d1, d2] => { results := [.lit (.bool true)], args := [d1, d2] }
  | _ => none }
def vintMostRow : OpenClaim := { program := "ytnolpbkeheiadaa", sum := "83ea180f3a9abdafff3dd99e7627f0567ca15a41add2bef6d6ef4f86e1db6744", func := "sough/soughlaw01.VintMost", spec := "vintMost", unfollowed := true, recurses := true, apart := false }
def VintMostSaid : Prop := vintMostRow.holds Try.pinned (OpenSpec.ofChange vintMostSpec)

/-- ITS FALSE NEIGHBOUR: 'it returns false'. Refute it at one input. -/
def vintMostWrong : ChangeSpec := { name := "vintMost", fn := fun _ => fun
  | [d1, d2] => { results := [.lit (.bool false)], args := [d1, d2] }
  | _ => none }
def VintMostWrongFalsely : Prop := vintMostRow.holds Try.pinned (OpenSpec.ofChange vintMostWrong)

/- THE SECOND FORM. 'bulk': how many values and letters a reading holds, each counted each time it is reached (what is shared counts as often as it is met; a slice's spare places count too). A statement '..UptoSaid' is the law's where the arguments, and the package variables that the reading takes, are together of bulk at most 1048576: NARROWER than '..Said'. Prove '..Said' where nothing that the law and all that it calls make is longer than what came in: it says more and counts as full. Else prove '..UptoSaid'. A law counts once. -/
mutual
def uptoBulk {H : Type} : DataW H → Nat
  | .lit (.string bytes) => bytes.length + 1
  | .lit _ => 1
  | .nil => 1
  | .ptr d => uptoBulk d + 1
  | .slice elems spare => uptoBulkAll elems + uptoBulkAll spare + 1
  | .agg parts => uptoBulkAll parts + 1
  | .iface _ d => uptoBulk d + 1
  | .map entries => uptoBulkEntries entries + 1
  | .held _ => 1
def uptoBulkAll {H : Type} : List (DataW H) → Nat
  | [] => 0
  | d :: r => uptoBulk d + uptoBulkAll r
def uptoBulkEntries {H : Type} : List (Lit × DataW H) → Nat
  | [] => 0
  | x :: r => uptoBulkEntry x + uptoBulkEntries r
def uptoBulkEntry {H : Type} : Lit × DataW H → Nat
  | (.string bytes, d) => bytes.length + uptoBulk d + 1
  | (_, d) => uptoBulk d + 1
 end
def uptoSmall : (H : Type) → List (DataW H) → Bool := fun _ ds => decide (uptoBulkAll ds ≤ 1048576)
def OpenSpec.upto (s : _root_.Go.ChangeSpec) : _root_.Go.OpenSpec := { _root_.Go.OpenSpec.ofChange s with cond := some uptoSmall }

/-- 'soughlaw01.VintTells', WHERE WHAT IT READS IS OF BULK AT MOST 1048576: true; the input reads as it did. -/
def vintTellsUptoRow : OpenClaim := { program := "ytnolpbkeheiadaa", sum := "83ea180f3a9abdafff3dd99e7627f0567ca15a41add2bef6d6ef4f86e1db6744", func := "sough/soughlaw01.VintTells", spec := "vintTells", unfollowed := true, recurses := true, apart := false, narrowed := true }
def VintTellsUptoSaid : Prop := vintTellsUptoRow.holds Try.pinned (OpenSpec.upto vintTellsSpec)

/-- 'soughlaw01.VintTexts', WHERE WHAT IT READS IS OF BULK AT MOST 1048576: true; the input reads as it did. -/
def vintTextsUptoRow : OpenClaim := { program := "ytnolpbkeheiadaa", sum := "83ea180f3a9abdafff3dd99e7627f0567ca15a41add2bef6d6ef4f86e1db6744", func := "sough/soughlaw01.VintTexts", spec := "vintTexts", unfollowed := true, recurses := true, apart := false, narrowed := true }
def VintTextsUptoSaid : Prop := vintTextsUptoRow.holds Try.pinned (OpenSpec.upto vintTextsSpec)

/-- 'soughlaw01.VintBack', WHERE WHAT IT READS IS OF BULK AT MOST 1048576: true; the input reads as it did. -/
def vintBackUptoRow : OpenClaim := { program := "ytnolpbkeheiadaa", sum := "83ea180f3a9abdafff3dd99e7627f0567ca15a41add2bef6d6ef4f86e1db6744", func := "sough/soughlaw01.VintBack", spec := "vintBack", unfollowed := true, recurses := true, apart := false, narrowed := true }
def VintBackUptoSaid : Prop := vintBackUptoRow.holds Try.pinned (OpenSpec.upto vintBackSpec)

/-- 'soughlaw01.VintOrder', WHERE WHAT IT READS IS OF BULK AT MOST 1048576: true; the input reads as it did. -/
def vintOrderUptoRow : OpenClaim := { program := "ytnolpbkeheiadaa", sum := "83ea180f3a9abdafff3dd99e7627f0567ca15a41add2bef6d6ef4f86e1db6744", func := "sough/soughlaw01.VintOrder", spec := "vintOrder", unfollowed := true, recurses := true, apart := false, narrowed := true }
def VintOrderUptoSaid : Prop := vintOrderUptoRow.holds Try.pinned (OpenSpec.upto vintOrderSpec)

/-- 'soughlaw01.VintShort', WHERE WHAT IT READS IS OF BULK AT MOST 1048576: true; the input reads as it did. -/
def vintShortUptoRow : OpenClaim := { program := "ytnolpbkeheiadaa", sum := "83ea180f3a9abdafff3dd99e7627f0567ca15a41add2bef6d6ef4f86e1db6744", func := "sough/soughlaw01.VintShort", spec := "vintShort", unfollowed := true, recurses := true, apart := false, narrowed := true }
def VintShortUptoSaid : Prop := vintShortUptoRow.holds Try.pinned (OpenSpec.upto vintShortSpec)

/-- 'soughlaw01.VintWhere', WHERE WHAT IT READS IS OF BULK AT MOST 1048576: true; the input reads as it did. -/
def vintWhereUptoRow : OpenClaim := { program := "ytnolpbkeheiadaa", sum := "83ea180f3a9abdafff3dd99e7627f0567ca15a41add2bef6d6ef4f86e1db6744", func := "sough/soughlaw01.VintWhere", spec := "vintWhere", unfollowed := true, recurses := true, apart := false, narrowed := true }
def VintWhereUptoSaid : Prop := vintWhereUptoRow.holds Try.pinned (OpenSpec.upto vintWhereSpec)

/-- 'soughlaw01.VintDigits', WHERE WHAT IT READS IS OF BULK AT MOST 1048576: true; the input reads as it did. -/
def vintDigitsUptoRow : OpenClaim := { program := "ytnolpbkeheiadaa", sum := "83ea180f3a9abdafff3dd99e7627f0567ca15a41add2bef6d6ef4f86e1db6744", func := "sough/soughlaw01.VintDigits", spec := "vintDigits", unfollowed := true, recurses := true, apart := false, narrowed := true }
def VintDigitsUptoSaid : Prop := vintDigitsUptoRow.holds Try.pinned (OpenSpec.upto vintDigitsSpec)

/-- 'soughlaw01.VintMost', WHERE WHAT IT READS IS OF BULK AT MOST 1048576: true; the input reads as it did. -/
def vintMostUptoRow : OpenClaim := { program := "ytnolpbkeheiadaa", sum := "83ea180f3a9abdafff3dd99e7627f0567ca15a41add2bef6d6ef4f86e1db6744", func := "sough/soughlaw01.VintMost", spec := "vintMost", unfollowed := true, recurses := true, apart := false, narrowed := true }
def VintMostUptoSaid : Prop := vintMostUptoRow.holds Try.pinned (OpenSpec.upto vintMostSpec)

end Rows
end Go.Proofs.Ytnolpbkeheiadaa
