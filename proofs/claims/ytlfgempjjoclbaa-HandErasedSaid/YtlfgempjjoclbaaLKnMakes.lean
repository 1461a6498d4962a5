/- The walk of makes (layer 8). -/
import Derived.Test.YtlfgempjjoclbaaLKnApart
import Derived.Laws.EntriesVeiled
namespace Go.Proofs.Ytlfgempjjoclbaa
open Go.RowKit Go.Maps Go.ChangeMaps
def wayOf (k : Nat) : Value := .func (.func k) #[] #[]
def waysC : Array Value := #[wayOf 85, wayOf 86, wayOf 85, wayOf 87, wayOf 88, wayOf 87, wayOf 89, wayOf 90, wayOf 91, wayOf 87, wayOf 92, wayOf 91]
set_option maxRecDepth 100000 in
set_option maxHeartbeats 1600000 in
theorem makes_any (w : World) : Calls Try.prog 71 #[] w fun e w' => e = .returned (.agg waysC) ∧ Below w.heap.size w w' := by
  have HB := Lib.hid ((Below.refl w.heap.size w).alloc (Nat.le_refl _) (.cells waysC 146))
  unfold waysC wayOf
  go_enter Try.func71, Try.ntmps71
  go_wp2_with fail
  exact bodyPost_ret (v := .agg waysC) (by simp [results, Try.results71, go_sem]; rfl) rfl ⟨rfl, HB.out⟩
end Go.Proofs.Ytlfgempjjoclbaa
