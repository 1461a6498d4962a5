/- The walk of the law MsFields, at every kind and field. -/
import Derived.Test.YtjoanlhdocoddaaMsFieldsK1
import Derived.Test.YtjoanlhdocoddaaMsFieldsK1J1
import Derived.Test.YtjoanlhdocoddaaMsFieldsK1J2
import Derived.Test.YtjoanlhdocoddaaMsFieldsK1J3
import Derived.Test.YtjoanlhdocoddaaMsFieldsK2J0
import Derived.Test.YtjoanlhdocoddaaMsFieldsK2J1
import Derived.Test.YtjoanlhdocoddaaMsFieldsK2J2
import Derived.Test.YtjoanlhdocoddaaMsFieldsK2J3
import Derived.Test.YtjoanlhdocoddaaMsFieldsK3J0
import Derived.Test.YtjoanlhdocoddaaMsFieldsK3J1
import Derived.Test.YtjoanlhdocoddaaMsFieldsK3J2
import Derived.Test.YtjoanlhdocoddaaMsFieldsK3J3
import Derived.Test.YtjoanlhdocoddaaMsFieldsK4J0
import Derived.Test.YtjoanlhdocoddaaMsFieldsK4J1
import Derived.Test.YtjoanlhdocoddaaMsFieldsK4J2
import Derived.Test.YtjoanlhdocoddaaMsFieldsK4J3
namespace Go.Proofs.Ytjoanlhdocoddaa
open Go.RowKit Go.Maps Go.ChangeMaps

theorem fields_law_any {m : Sough.Msg} {f x : Nat} (hf : f < 256) (hx : x < 65536) (w : World) (hw : m.Wf) :
    Calls Try.prog 7 #[.agg (msgC m), .int .u8 f, .int .u16 x] w fun e w' => e = .returned (.bool true) ∧ Below w.heap.size w w' := by
  cases hra : (cutM m).right
  · exact fields_no rfl hra w hw
  · have hk := Sough.kind_of (Sough.right_spec hra).1
    have h4 : f % 4 = 0 ∨ f % 4 = 1 ∨ f % 4 = 2 ∨ f % 4 = 3 := by omega
    have h1 : (cutM m).v 0 = 1 ∨ (cutM m).v 0 = 2 ∨ (cutM m).v 0 = 3 ∨ (cutM m).v 0 = 4 := by omega
    rcases h1 with h1 | h1 | h1 | h1
    · rcases h4 with h4 | h4 | h4 | h4
      · exact fields_k1 rfl hra h1 h4 hf hx w hw
      · exact fields_k1_1 rfl hra h1 h4 hf hx w hw
      · exact fields_k1_2 rfl hra h1 h4 hf hx w hw
      · exact fields_k1_3 rfl hra h1 h4 hf hx w hw
    · rcases h4 with h4 | h4 | h4 | h4
      · exact fields_k2_0 rfl hra h1 h4 hf hx w hw
      · exact fields_k2_1 rfl hra h1 h4 hf hx w hw
      · exact fields_k2_2 rfl hra h1 h4 hf hx w hw
      · exact fields_k2_3 rfl hra h1 h4 hf hx w hw
    · rcases h4 with h4 | h4 | h4 | h4
      · exact fields_k3_0 rfl hra h1 h4 hf hx w hw
      · exact fields_k3_1 rfl hra h1 h4 hf hx w hw
      · exact fields_k3_2 rfl hra h1 h4 hf hx w hw
      · exact fields_k3_3 rfl hra h1 h4 hf hx w hw
    · rcases h4 with h4 | h4 | h4 | h4
      · exact fields_k4_0 rfl hra h1 h4 hf hx w hw
      · exact fields_k4_1 rfl hra h1 h4 hf hx w hw
      · exact fields_k4_2 rfl hra h1 h4 hf hx w hw
      · exact fields_k4_3 rfl hra h1 h4 hf hx w hw

theorem msgFields_walk (m : Sough.Msg) (f x : Int) (w : World) (hw : m.Wf) (wf : (Lit.int .u8 f).wf = true) (wx : (Lit.int .u16 x).wf = true) :
    Calls Try.prog 7 #[.agg (msgC m), .int .u8 f, .int .u16 x] w fun e w' => e = .returned (.bool true) ∧ Below w.heap.size w w' := by
  have b1 := bounds_u8 wf
  have b2 := bounds_u16 wx
  obtain ⟨f', rfl⟩ := Int.eq_ofNat_of_zero_le (show 0 ≤ f by omega)
  obtain ⟨x', rfl⟩ := Int.eq_ofNat_of_zero_le (show 0 ≤ x by omega)
  exact fields_law_any (by omega) (by omega) w hw

end Go.Proofs.Ytjoanlhdocoddaa
