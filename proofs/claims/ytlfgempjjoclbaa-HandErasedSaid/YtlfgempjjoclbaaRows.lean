/-
  No cell of these rows narrows 'for every input' (looked for: loops, veiled, ifaces, maps, wideKeys, modest, calm, conditions, laid).
  DERIVED. THE GIVEN ROWS OF THIS SEAT. 8 by the template 'for every input the law returns true; each argument reads behind the call as it read before'; 0 by the template 'total and deterministic' (their statements: YtlfgempjjoclbaaTotals.lean).
  GIVEN WITH THE SEED: the statements are not yours to turn. If you find one false, say at which input.
  Laid BY PROGRAM, IN A SANDBOX (cutbox-rows.mjs): the forced cells as the released guide's own fill.sh prints them over the translation 2bf4941b08871873… (all of the seat's roots in one cut). By AI agents, Wed Nov 11 2026. No macro, syntax, notation, axiom, sorry.
-/
import Derived.Test.YtlfgempjjoclbaaChecked
import GoSem.Claim
import GoSem.ClaimJoined
import GoSem.ClaimMapViews
import Derived.JoinedTies
import Derived.KernelRfl
namespace Go.Proofs.Ytlfgempjjoclbaa
/- THE CELL 'sum', in the pinned program and in every row, IS THE sha256 OF THE DUMP (.gsa) THAT YtlfgempjjoclbaaProg.lean LOADS. Nothing in Lean hashes anything: it is a label: what it is worth is what the hold of that sum in a sandbox is worth. -/
noncomputable def Try.pinned : Pinned := { name := "ytlfgempjjoclbaa", sum := "2bf4941b088718734b7e41cfd2741ce4a38b9d15a81d0989ff09d968d551ddbc", checked := Try.checked }
namespace Rows
def none {H : Type} : Left H := { results := [], args := [] }

/-- 'soughlaw17.HandBinds': WHATEVER THE INPUT: true; the input reads as it did. -/
def handBindsSpec : ChangeSpec := { name := "handBinds", fn := fun _ => fun
  | [d1, d2] => { results := [.lit (.bool true)], args := [d1, d2] }
  | _ => none }
def handBindsRow : OpenClaim := { program := "ytlfgempjjoclbaa", sum := "2bf4941b088718734b7e41cfd2741ce4a38b9d15a81d0989ff09d968d551ddbc", func := "sough/soughlaw17.HandBinds", spec := "handBinds", inPlace := ["internal/bytealg.IndexByteString"], unfollowed := true, recurses := true, plainKeys := false, apart := false }
def HandBindsSaid : Prop := handBindsRow.holds Try.pinned (OpenSpec.ofChange handBindsSpec)

/-- ITS FALSE NEIGHBOUR: 'it returns false'. Refute it at one input. -/
def handBindsWrong : ChangeSpec := { name := "handBinds", fn := fun _ => fun
  | [d1, d2] => { results := [.lit (.bool false)], args := [d1, d2] }
  | _ => none }
def HandBindsWrongFalsely : Prop := handBindsRow.holds Try.pinned (OpenSpec.ofChange handBindsWrong)

/-- 'soughlaw17.HandStranger': WHATEVER THE INPUT: true; the input reads as it did. -/
def handStrangerSpec : ChangeSpec := { name := "handStranger", fn := fun _ => fun
  | [d1, d2] => { results := [.lit (.bool true)], args := [d1, d2] }
  | _ => none }
def handStrangerRow : OpenClaim := { program := "ytlfgempjjoclbaa", sum := "2bf4941b088718734b7e41cfd2741ce4a38b9d15a81d0989ff09d968d551ddbc", func := "sough/soughlaw17.HandStranger", spec := "handStranger", inPlace := ["internal/bytealg.IndexByteString"], unfollowed := true, recurses := true, plainKeys := false, apart := false }
def HandStrangerSaid : Prop := handStrangerRow.holds Try.pinned (OpenSpec.ofChange handStrangerSpec)

/-- ITS FALSE NEIGHBOUR: 'it returns false'. Refute it at one input. -/
def handStrangerWrong : ChangeSpec := { name := "handStranger", fn := fun _ => fun
  | [d1, d2] => { results := [.lit (.bool false)], args := [d1, d2] }
  | _ => none }
def HandStrangerWrongFalsely : Prop := handStrangerRow.holds Try.pinned (OpenSpec.ofChange handStrangerWrong)

/-- 'soughlaw17.HandTurned': WHATEVER THE INPUT: true; the input reads as it did. -/
def handTurnedSpec : ChangeSpec := { name := "handTurned", fn := fun _ => fun
  | [d1, d2, d3] => { results := [.lit (.bool true)], args := [d1, d2, d3] }
  | _ => none }
def handTurnedRow : OpenClaim := { program := "ytlfgempjjoclbaa", sum := "2bf4941b088718734b7e41cfd2741ce4a38b9d15a81d0989ff09d968d551ddbc", func := "sough/soughlaw17.HandTurned", spec := "handTurned", inPlace := ["internal/bytealg.IndexByteString"], unfollowed := true, recurses := true, plainKeys := false, apart := false }
def HandTurnedSaid : Prop := handTurnedRow.holds Try.pinned (OpenSpec.ofChange handTurnedSpec)

/-- ITS FALSE NEIGHBOUR: 'it returns false'. Refute it at one input. -/
def handTurnedWrong : ChangeSpec := { name := "handTurned", fn := fun _ => fun
  | [d1, d2, d3] => { results := [.lit (.bool false)], args := [d1, d2, d3] }
  | _ => none }
def HandTurnedWrongFalsely : Prop := handTurnedRow.holds Try.pinned (OpenSpec.ofChange handTurnedWrong)

/-- 'soughlaw17.HandApart': WHATEVER THE INPUT: true; the input reads as it did. -/
def handApartSpec : ChangeSpec := { name := "handApart", fn := fun _ => fun
  | [d1, d2] => { results := [.lit (.bool true)], args := [d1, d2] }
  | _ => none }
def handApartRow : OpenClaim := { program := "ytlfgempjjoclbaa", sum := "2bf4941b088718734b7e41cfd2741ce4a38b9d15a81d0989ff09d968d551ddbc", func := "sough/soughlaw17.HandApart", spec := "handApart", inPlace := ["internal/bytealg.IndexByteString"], unfollowed := true, recurses := true, plainKeys := false, apart := false }
def HandApartSaid : Prop := handApartRow.holds Try.pinned (OpenSpec.ofChange handApartSpec)

/-- ITS FALSE NEIGHBOUR: 'it returns false'. Refute it at one input. -/
def handApartWrong : ChangeSpec := { name := "handApart", fn := fun _ => fun
  | [d1, d2] => { results := [.lit (.bool false)], args := [d1, d2] }
  | _ => none }
def HandApartWrongFalsely : Prop := handApartRow.holds Try.pinned (OpenSpec.ofChange handApartWrong)

/-- 'soughlaw17.HandEnds': WHATEVER THE INPUT: true; the input reads as it did. -/
def handEndsSpec : ChangeSpec := { name := "handEnds", fn := fun _ => fun
  | [d1, d2] => { results := [.lit (.bool true)], args := [d1, d2] }
  | _ => none }
def handEndsRow : OpenClaim := { program := "ytlfgempjjoclbaa", sum := "2bf4941b088718734b7e41cfd2741ce4a38b9d15a81d0989ff09d968d551ddbc", func := "sough/soughlaw17.HandEnds", spec := "handEnds", inPlace := ["internal/bytealg.IndexByteString"], unfollowed := true, recurses := true, plainKeys := false, apart := false }
def HandEndsSaid : Prop := handEndsRow.holds Try.pinned (OpenSpec.ofChange handEndsSpec)

/-- ITS FALSE NEIGHBOUR: 'it returns false'. Refute it at one input. -/
def handEndsWrong : ChangeSpec := { name := "handEnds", fn := fun _ => fun
  | [d1, d2] => { results := [.lit (.bool false)], args := [d1, d2] }
  | _ => none }
def HandEndsWrongFalsely : Prop := handEndsRow.holds Try.pinned (OpenSpec.ofChange handEndsWrong)

/-- 'soughlaw17.HandMeets': WHATEVER THE INPUT: true; the input reads as it did. -/
def handMeetsSpec : ChangeSpec := { name := "handMeets", fn := fun _ => fun
  | [d1, d2, d3] => { results := [.lit (.bool true)], args := [d1, d2, d3] }
  | _ => none }
def handMeetsRow : OpenClaim := { program := "ytlfgempjjoclbaa", sum := "2bf4941b088718734b7e41cfd2741ce4a38b9d15a81d0989ff09d968d551ddbc", func := "sough/soughlaw17.HandMeets", spec := "handMeets", inPlace := ["internal/bytealg.IndexByteString"], unfollowed := true, recurses := true, plainKeys := false, apart := false }
def HandMeetsSaid : Prop := handMeetsRow.holds Try.pinned (OpenSpec.ofChange handMeetsSpec)

/-- ITS FALSE NEIGHBOUR: 'it returns false'. Refute it at one input. -/
def handMeetsWrong : ChangeSpec := { name := "handMeets", fn := fun _ => fun
  | [d1, d2, d3] => { results := [.lit (.bool false)], args := [d1, d2, d3] }
  | _ => none }
def HandMeetsWrongFalsely : Prop := handMeetsRow.holds Try.pinned (OpenSpec.ofChange handMeetsWrong)

/-- 'soughlaw17.HandHides': WHATEVER THE INPUT: true; the input reads as it did. -/
def handHidesSpec : ChangeSpec := { name := "handHides", fn := fun _ => fun
  | [d1, d2] => { results := [.lit (.bool true)], args := [d1, d2] }
  | _ => none }
def handHidesRow : OpenClaim := { program := "ytlfgempjjoclbaa", sum := "2bf4941b088718734b7e41cfd2741ce4a38b9d15a81d0989ff09d968d551ddbc", func := "sough/soughlaw17.HandHides", spec := "handHides", inPlace := ["internal/bytealg.IndexByteString"], unfollowed := true, recurses := true, plainKeys := false, apart := false }
def HandHidesSaid : Prop := handHidesRow.holds Try.pinned (OpenSpec.ofChange handHidesSpec)

/-- ITS FALSE NEIGHBOUR: 'it returns false'. Refute it at one input. -/
def handHidesWrong : ChangeSpec := { name := "handHides", fn := fun _ => fun
  | [d1, d2] => { results := [.lit (.bool false)], args := [d1, d2] }
  | _ => none }
def HandHidesWrongFalsely : Prop := handHidesRow.holds Try.pinned (OpenSpec.ofChange handHidesWrong)

/-- 'soughlaw17.HandErased': WHATEVER THE INPUT: true; the input reads as it did. -/
def handErasedSpec : ChangeSpec := { name := "handErased", fn := fun _ => fun
  | [d1, d2] => { results := [.lit (.bool true)], args := [d1, d2] }
  | _ => none }
def handErasedRow : OpenClaim := { program := "ytlfgempjjoclbaa", sum := "2bf4941b088718734b7e41cfd2741ce4a38b9d15a81d0989ff09d968d551ddbc", func := "sough/soughlaw17.HandErased", spec := "handErased", inPlace := ["internal/bytealg.IndexByteString"], unfollowed := true, recurses := true, plainKeys := false, apart := false }
def HandErasedSaid : Prop := handErasedRow.holds Try.pinned (OpenSpec.ofChange handErasedSpec)

/-- ITS FALSE NEIGHBOUR: 'it returns false'. Refute it at one input. -/
def handErasedWrong : ChangeSpec := { name := "handErased", fn := fun _ => fun
  | [d1, d2] => { results := [.lit (.bool false)], args := [d1, d2] }
  | _ => none }
def HandErasedWrongFalsely : Prop := handErasedRow.holds Try.pinned (OpenSpec.ofChange handErasedWrong)

/- THE SECOND FORM. 'bulk': how many values and letters a reading holds, each counted each time it is reached (what is shared counts as often as it is met; a slice's spare places count too). A statement '..UptoSaid' is the law's where the arguments, and the package variables that the reading takes, are together of bulk at most 1048576: NARROWER than '..Said'. Prove '..Said' where nothing that the law and all that it calls make is longer than what came in: it says more and counts as full. Else prove '..UptoSaid'. A law counts once. -/
mutual
def uptoBulk {H : Type} : DataW H → Nat
  | .lit (.string bytes) => bytes.length + 1
  | .lit _ => 1
  | .nil => 1
  | .ptr d => uptoBulk d + 1
  | .slice elems spare => uptoBulkAll elems + uptoBulkAll spare + 1
  | .agg parts => uptoBulkAll parts + 1
  | .iface _ d => uptoBulk d + 1
  | .map entries => uptoBulkEntries entries + 1
  | .held _ => 1
def uptoBulkAll {H : Type} : List (DataW H) → Nat
  | [] => 0
  | d :: r => uptoBulk d + uptoBulkAll r
def uptoBulkEntries {H : Type} : List (Lit × DataW H) → Nat
  | [] => 0
  | x :: r => uptoBulkEntry x + uptoBulkEntries r
def uptoBulkEntry {H : Type} : Lit × DataW H → Nat
  | (.string bytes, d) => bytes.length + uptoBulk d + 1
  | (_, d) => uptoBulk d + 1
 end
def uptoSmall : (H : Type) → List (DataW H) → Bool := fun _ ds => decide (uptoBulkAll ds ≤ 1048576)
def OpenSpec.upto (s : _root_.Go.ChangeSpec) : _root_.Go.OpenSpec := { _root_.Go.OpenSpec.ofChange s with cond := some uptoSmall }

/-- 'soughlaw17.HandBinds', WHERE WHAT IT READS IS OF BULK AT MOST 1048576: true; the input reads as it did. -/
def handBindsUptoRow : OpenClaim := { program := "ytlfgempjjoclbaa", sum := "2bf4941b088718734b7e41cfd2741ce4a38b9d15a81d0989ff09d968d551ddbc", func := "sough/soughlaw17.HandBinds", spec := "handBinds", inPlace := ["internal/bytealg.IndexByteString"], unfollowed := true, recurses := true, plainKeys := false, apart := false, narrowed := true }
def HandBindsUptoSaid : Prop := handBindsUptoRow.holds Try.pinned (OpenSpec.upto handBindsSpec)

/-- 'soughlaw17.HandStranger', WHERE WHAT IT READS IS OF BULK AT MOST 1048576: true; the input reads as it did. -/
def handStrangerUptoRow : OpenClaim := { program := "ytlfgempjjoclbaa", sum := "2bf4941b088718734b7e41cfd2741ce4a38b9d15a81d0989ff09d968d551ddbc", func := "sough/soughlaw17.HandStranger", spec := "handStranger", inPlace := ["internal/bytealg.IndexByteString"], unfollowed := true, recurses := true, plainKeys := false, apart := false, narrowed := true }
def HandStrangerUptoSaid : Prop := handStrangerUptoRow.holds Try.pinned (OpenSpec.upto handStrangerSpec)

/-- 'soughlaw17.HandTurned', WHERE WHAT IT READS IS OF BULK AT MOST 1048576: true; the input reads as it did. -/
def handTurnedUptoRow : OpenClaim := { program := "ytlfgempjjoclbaa", sum := "2bf4941b088718734b7e41cfd2741ce4a38b9d15a81d0989ff09d968d551ddbc", func := "sough/soughlaw17.HandTurned", spec := "handTurned", inPlace := ["internal/bytealg.IndexByteString"], unfollowed := true, recurses := true, plainKeys := false, apart := false, narrowed := true }
def HandTurnedUptoSaid : Prop := handTurnedUptoRow.holds Try.pinned (OpenSpec.upto handTurnedSpec)

/-- 'soughlaw17.HandApart', WHERE WHAT IT READS IS OF BULK AT MOST 1048576: true; the input reads as it did. -/
def handApartUptoRow : OpenClaim := { program := "ytlfgempjjoclbaa", sum := "2bf4941b088718734b7e41cfd2741ce4a38b9d15a81d0989ff09d968d551ddbc", func := "sough/soughlaw17.HandApart", spec := "handApart", inPlace := ["internal/bytealg.IndexByteString"], unfollowed := true, recurses := true, plainKeys := false, apart := false, narrowed := true }
def HandApartUptoSaid : Prop := handApartUptoRow.holds Try.pinned (OpenSpec.upto handApartSpec)

/-- 'soughlaw17.HandEnds', WHERE WHAT IT READS IS OF BULK AT MOST 1048576: true; the input reads as it did. -/
def handEndsUptoRow : OpenClaim := { program := "ytlfgempjjoclbaa", sum := "2bf4941b088718734b7e41cfd2741ce4a38b9d15a81d0989ff09d968d551ddbc", func := "sough/soughlaw17.HandEnds", spec := "handEnds", inPlace := ["internal/bytealg.IndexByteString"], unfollowed := true, recurses := true, plainKeys := false, apart := false, narrowed := true }
def HandEndsUptoSaid : Prop := handEndsUptoRow.holds Try.pinned (OpenSpec.upto handEndsSpec)

/-- 'soughlaw17.HandMeets', WHERE WHAT IT READS IS OF BULK AT MOST 1048576: true; the input reads as it did. -/
def handMeetsUptoRow : OpenClaim := { program := "ytlfgempjjoclbaa", sum := "2bf4941b088718734b7e41cfd2741ce4a38b9d15a81d0989ff09d968d551ddbc", func := "sough/soughlaw17.HandMeets", spec := "handMeets", inPlace := ["internal/bytealg.IndexByteString"], unfollowed := true, recurses := true, plainKeys := false, apart := false, narrowed := true }
def HandMeetsUptoSaid : Prop := handMeetsUptoRow.holds Try.pinned (OpenSpec.upto handMeetsSpec)

/-- 'soughlaw17.HandHides', WHERE WHAT IT READS IS OF BULK AT MOST 1048576: true; the input reads as it did. -/
def handHidesUptoRow : OpenClaim := { program := "ytlfgempjjoclbaa", sum := "2bf4941b088718734b7e41cfd2741ce4a38b9d15a81d0989ff09d968d551ddbc", func := "sough/soughlaw17.HandHides", spec := "handHides", inPlace := ["internal/bytealg.IndexByteString"], unfollowed := true, recurses := true, plainKeys := false, apart := false, narrowed := true }
def HandHidesUptoSaid : Prop := handHidesUptoRow.holds Try.pinned (OpenSpec.upto handHidesSpec)

/-- 'soughlaw17.HandErased', WHERE WHAT IT READS IS OF BULK AT MOST 1048576: true; the input reads as it did. -/
def handErasedUptoRow : OpenClaim := { program := "ytlfgempjjoclbaa", sum := "2bf4941b088718734b7e41cfd2741ce4a38b9d15a81d0989ff09d968d551ddbc", func := "sough/soughlaw17.HandErased", spec := "handErased", inPlace := ["internal/bytealg.IndexByteString"], unfollowed := true, recurses := true, plainKeys := false, apart := false, narrowed := true }
def HandErasedUptoSaid : Prop := handErasedUptoRow.holds Try.pinned (OpenSpec.upto handErasedSpec)

end Rows
end Go.Proofs.Ytlfgempjjoclbaa
