/- The walks of Right (both packages). -/
import Derived.Test.YtokphknnblpagaaRet
import Derived.Test.YtokphknnblpagaaSpPlain
import Derived.Test.YtokphknnblpagaaRegion
import Derived.Test.YtokphknnblpagaaRows
import Derived.WalkKit
import Derived.Lib.Hide
namespace Go.Proofs.Ytokphknnblpagaa
open Go.RowKit

def fragV (f : Sough.Frag) : Value := .agg #[.int .u64 f.id, .int .i64 f.index, .int .i64 f.count, .string ⟨f.part.toArray⟩]
def fragC (f : Sough.Frag) : Array Value := #[.int .u64 f.id, .int .i64 f.index, .int .i64 f.count, .string ⟨f.part.toArray⟩]
set_option maxRecDepth 100000 in
set_option maxHeartbeats 1600000 in
theorem right_walk (id : Nat) (index count : Int) (part : ByteArray) (w : World) :
    Calls Try.prog 23 #[.agg #[.int .u64 id, .int .i64 index, .int .i64 count, .string part]] w fun e w' => e = .returned (.bool (Sough.Frag.right ⟨id, index, count, part.data.toList⟩)) ∧ Below w.heap.size w w' := by
  go_enter Try.func23, Try.ntmps23
  go_wp2
  all_goals
    go_ret
    exact ⟨ret_bool (by rw [Bool.eq_iff_iff, Sough.right_iff]; simp [Sough.Frag.ok]; omega), (Below.refl _ _).alloc (Nat.le_refl _) _⟩
set_option maxRecDepth 100000 in
set_option maxHeartbeats 1600000 in
theorem rright_walk (id : Nat) (index count : Int) (part : ByteArray) (w : World) :
    Calls Try.prog 25 #[.agg #[.int .u64 id, .int .i64 index, .int .i64 count, .string part]] w fun e w' => e = .returned (.bool (Sough.Frag.right ⟨id, index, count, part.data.toList⟩)) ∧ Below w.heap.size w w' := by
  go_enter Try.func25, Try.ntmps25
  go_wp2
  all_goals
    go_ret
    exact ⟨ret_bool (by rw [Bool.eq_iff_iff, Sough.right_iff]; simp [Sough.Frag.ok]; omega), (Below.refl _ _).alloc (Nat.le_refl _) _⟩

end Go.Proofs.Ytokphknnblpagaa
