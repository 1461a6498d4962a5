/- '==' on messages. -/
import Derived.Test.YtjoanlhdocoddaaMsOnly
import Derived.Laws.StructEq
import Derived.Laws.Tables
import Derived.KernelRfl
namespace Go.Proofs.Ytjoanlhdocoddaa
open Go.RowKit

theorem toList_eq_iff (a b : List UInt8) : ((⟨a.toArray⟩ : ByteArray).toList == (⟨b.toArray⟩ : ByteArray).toList) = decide (a = b) := by
  rw [ByteArray.toList_eq, ByteArray.toList_eq, Bool.eq_iff_iff]
  simp

set_option maxRecDepth 100000 in
set_option maxHeartbeats 1600000 in
theorem eqMsg (m q : Sough.Msg) (w : World) : (Op.equalIn 10000 24 (.agg #[.int .i64 (m.v 0), .int .u64 (m.v 1), .int .u64 (m.v 2), .string ⟨m.offer.toArray⟩, .int .i64 (m.v 4), .int .i64 (m.v 5), .int .i64 (m.v 6), .int .i64 (m.v 7), .int .i64 (m.v 8), .int .i64 (m.v 9), .int .i64 (m.v 10), .int .u64 (m.v 11), .int .u64 (m.v 12)]) (.agg #[.int .i64 (q.v 0), .int .u64 (q.v 1), .int .u64 (q.v 2), .string ⟨q.offer.toArray⟩, .int .i64 (q.v 4), .int .i64 (q.v 5), .int .i64 (q.v 6), .int .i64 (q.v 7), .int .i64 (q.v 8), .int .i64 (q.v 9), .int .i64 (q.v 10), .int .u64 (q.v 11), .int .u64 (q.v 12)])).run Try.prog w = .ok (m.same q) w := by
  have u1 := Try.underlying3
  have a1 := Try.isAgg3
  have z1 := Try.sizeOf3
  have u2 := Try.underlying22
  have a2 := Try.isAgg22
  have z2 := Try.sizeOf22
  have u3 := Try.underlying9
  have a3 := Try.isAgg9
  have z3 := Try.sizeOf9
  have hS : Try.prog.underlying 24 = some (.struct (Try.prog.fieldsOf 24)) := by kernel_rfl
  rw [show (10000 : Nat) = 9999 + 1 from rfl, run_equalIn_agg w 9999 24 _ _ hS (by kernel_rfl)]
  simp only [Program.fieldsOf, Try.underlying24]
  go_simp
  by_cases h0 : m.v 0 = q.v 0
  rotate_left
  · simp [h0, Sough.Msg.same, Sough.cellsN]
  by_cases h1 : m.v 1 = q.v 1
  rotate_left
  · simp [h1, Sough.Msg.same, Sough.cellsN]
  by_cases h2 : m.v 2 = q.v 2
  rotate_left
  · simp [h2, Sough.Msg.same, Sough.cellsN]
  by_cases h3 : m.offer = q.offer
  rotate_left
  · simp [h3, Sough.Msg.same, Sough.cellsN]
  by_cases h4 : m.v 4 = q.v 4
  rotate_left
  · simp [h4, Sough.Msg.same, Sough.cellsN]
  by_cases h5 : m.v 5 = q.v 5
  rotate_left
  · simp [h5, Sough.Msg.same, Sough.cellsN]
  by_cases h6 : m.v 6 = q.v 6
  rotate_left
  · simp [h6, Sough.Msg.same, Sough.cellsN]
  by_cases h7 : m.v 7 = q.v 7
  rotate_left
  · simp [h7, Sough.Msg.same, Sough.cellsN]
  by_cases h8 : m.v 8 = q.v 8
  rotate_left
  · simp [h8, Sough.Msg.same, Sough.cellsN]
  by_cases h9 : m.v 9 = q.v 9
  rotate_left
  · simp [h9, Sough.Msg.same, Sough.cellsN]
  by_cases h10 : m.v 10 = q.v 10
  rotate_left
  · simp [h10, Sough.Msg.same, Sough.cellsN]
  by_cases h11 : m.v 11 = q.v 11
  rotate_left
  · simp [h11, Sough.Msg.same, Sough.cellsN]
  by_cases h12 : m.v 12 = q.v 12
  rotate_left
  · simp [h12, Sough.Msg.same, Sough.cellsN]
  simp [Sough.Msg.same, Sough.cellsN, h0, h1, h2, h3, h4, h5, h6, h7, h8, h9, h10, h11, h12]

end Go.Proofs.Ytjoanlhdocoddaa
