/- The walk of HandEnds. (Printed by wip/tools/mkends.py.) -/
import Derived.Test.YtlfgempjjoclbaaLHdEnds0
import Derived.Test.YtlfgempjjoclbaaLHdEnds1
import Derived.Test.YtlfgempjjoclbaaLHdEnds2
namespace Go.Proofs.Ytlfgempjjoclbaa
open Go.RowKit Go.Maps Go.ChangeMaps
theorem handEnds_walk (a b : Int) (W : World) (wa : (Lit.int .u8 a).wf = true) (wb : (Lit.int .u8 b).wf = true) :
    Calls Try.prog 7 #[.int .u8 a, .int .u8 b] W fun e w' => e = .returned (.bool true) ∧ Below W.heap.size W w' := by
  have b0 := bounds_u8 wa
  have b1 := bounds_u8 wb
  obtain ⟨x, rfl⟩ := Int.eq_ofNat_of_zero_le b0.1
  obtain ⟨y, rfl⟩ := Int.eq_ofNat_of_zero_le b1.1
  have h3 : (y : Int) % 3 = 0 ∨ (y : Int) % 3 = 1 ∨ (y : Int) % 3 = 2 := by omega
  rcases h3 with h | h | h
  · exact ends_0 h (by omega) (by omega) W
  · exact ends_1 h (by omega) (by omega) W
  · exact ends_2 h (by omega) (by omega) W

end Go.Proofs.Ytlfgempjjoclbaa
