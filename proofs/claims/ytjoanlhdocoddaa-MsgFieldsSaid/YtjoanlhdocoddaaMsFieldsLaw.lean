/- The walk of the law MsgFields. -/
import Derived.Test.YtjoanlhdocoddaaMsBack
import Derived.Test.YtjoanlhdocoddaaMsFieldsPlain
namespace Go.Proofs.Ytjoanlhdocoddaa
open Go.RowKit Go.Maps Go.ChangeMaps


set_option maxRecDepth 100000 in
set_option maxHeartbeats 6400000 in
theorem fields_no {m a : Sough.Msg} {f x : Nat} (ht : a = cutM m) (hra : a.right = false) (w : World) (hw : m.Wf) :
    Calls Try.prog 7 #[.agg (msgC m), .int .u8 f, .int .u16 x] w fun e w' => e = .returned (.bool true) ∧ Below w.heap.size w w' := by
  have hwa := Lib.hid (cut_wf hw)
  rw [← ht] at hwa
  have T1 := Lib.hid ht; have H1 := Lib.hid hw; clear ht hw
  have M0 : Hid (Mem w [(w.heap.size, .cells #[.int .i64 (m.v 0), .int .u64 (m.v 1), .int .u64 (m.v 2), .string ⟨m.offer.toArray⟩, .int .i64 (m.v 4), .int .i64 (m.v 5), .int .i64 (m.v 6), .int .i64 (m.v 7), .int .i64 (m.v 8), .int .i64 (m.v 9), .int .i64 (m.v 10), .int .u64 (m.v 11), .int .u64 (m.v 12)] 24 (0, 0))] (w.alloc (.cells #[.int .i64 (m.v 0), .int .u64 (m.v 1), .int .u64 (m.v 2), .string ⟨m.offer.toArray⟩, .int .i64 (m.v 4), .int .i64 (m.v 5), .int .i64 (m.v 6), .int .i64 (m.v 7), .int .i64 (m.v 8), .int .i64 (m.v 9), .int .i64 (m.v 10), .int .u64 (m.v 11), .int .u64 (m.v 12)] 24))) := Lib.hid ((Mem.start w).alloc _)
  unfold msgC
  go_enter Try.func7, Try.ntmps7
  go_wp2_with fail
  generalize w.alloc (.cells #[.int .i64 (m.v 0), .int .u64 (m.v 1), .int .u64 (m.v 2), .string ⟨m.offer.toArray⟩, .int .i64 (m.v 4), .int .i64 (m.v 5), .int .i64 (m.v 6), .int .i64 (m.v 7), .int .i64 (m.v 8), .int .i64 (m.v 9), .int .i64 (m.v 10), .int .u64 (m.v 11), .int .u64 (m.v 12)] 24) = W0 at *
  refine (cut_to T1.out W0 H1.out).mono ?_
  rintro e w1 ⟨rfl, hb⟩
  have M1 := Lib.hid (M0.out.later hb)
  clear hb M0
  have r := M1.out.rules; simp only [AllCells, CellsAt, Nat.zero_add, Nat.reduceAdd] at r
  have M2 := Lib.hid (Mem.put13 (m := a) M1.out (Nat.le_refl _) (by simp))
  clear M1
  go_wp2_with fail
  change Calls _ _ _ (put13 w1 w.heap.size a) _
  clear r
  generalize put13 w1 w.heap.size a = W1 at *
  refine (right_lit hra hwa.out W1).mono ?_
  rintro e w2 ⟨rfl, hb⟩
  have M3 := Lib.hid (M2.out.later hb)
  clear hb M2
  have ca := cells13 (M3.out.get 0 rfl)
  go_wp2_with fail
  refine (enc_lit (Sough.encode_nil.2 hra) hwa.out w2).mono ?_
  rintro e w3 ⟨rfl, hb⟩
  have M4 := Lib.hid (M3.out.later hb)
  clear hb M3 ca
  go_wp2_with fail
  refine (fixed_walk _).mono ?_
  rintro e w8 ⟨rfl, hb⟩
  have M8 := Lib.hid (M4.out.later hb)
  go_wp2_with fail
  go_ret
  exact ⟨by first | rfl | exact ret_true (by simp), M8.out.bel⟩

end Go.Proofs.Ytjoanlhdocoddaa
