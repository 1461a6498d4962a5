/- The walk of HandBinds. (Printed by wip/tools/mkbinds.py.) -/
import Derived.Test.YtlfgempjjoclbaaLHdBinds0
import Derived.Test.YtlfgempjjoclbaaLHdBinds1
import Derived.Test.YtlfgempjjoclbaaLHdBinds2
import Derived.Test.YtlfgempjjoclbaaLHdBinds3
import Derived.Test.YtlfgempjjoclbaaLHdBinds4
import Derived.Test.YtlfgempjjoclbaaLHdBinds5
import Derived.Test.YtlfgempjjoclbaaLHdBinds6
import Derived.Test.YtlfgempjjoclbaaLHdBinds7
import Derived.Test.YtlfgempjjoclbaaLHdBinds8
namespace Go.Proofs.Ytlfgempjjoclbaa
open Go.RowKit Go.Maps Go.ChangeMaps
theorem handBinds_walk (a b : Int) (W : World) (wa : (Lit.int .u8 a).wf = true) (wb : (Lit.int .u8 b).wf = true) :
    Calls Try.prog 3 #[.int .u8 a, .int .u8 b] W fun e w' => e = .returned (.bool true) ∧ Below W.heap.size W w' := by
  have b0 := bounds_u8 wa
  have b1 := bounds_u8 wb
  obtain ⟨x, rfl⟩ := Int.eq_ofNat_of_zero_le b0.1
  obtain ⟨y, rfl⟩ := Int.eq_ofNat_of_zero_le b1.1
  have h : (1 : Int) + (y : Int) % 74 = ((1 + y % 74 : Nat) : Int) := by omega
  have h9 : (x : Int) % 9 = 0 ∨ (x : Int) % 9 = 1 ∨ (x : Int) % 9 = 2 ∨ (x : Int) % 9 = 3 ∨ (x : Int) % 9 = 4 ∨ (x : Int) % 9 = 5 ∨ (x : Int) % 9 = 6 ∨ (x : Int) % 9 = 7 ∨ (x : Int) % 9 = 8 := by omega
  rcases h9 with e | e | e | e | e | e | e | e | e
  · exact binds_0 e h (by omega) (by omega) W
  · exact binds_1 e h (by omega) (by omega) W
  · exact binds_2 e h (by omega) (by omega) W
  · exact binds_3 e h (by omega) (by omega) W
  · exact binds_4 e h (by omega) (by omega) W
  · exact binds_5 e h (by omega) (by omega) W
  · exact binds_6 e h (by omega) (by omega) W
  · exact binds_7 e h (by omega) (by omega) W
  · exact binds_8 e h (by omega) (by omega) W
end Go.Proofs.Ytlfgempjjoclbaa
