/- The walk of soughref10.Encode at kind 3 (printed by wip/tools/mkre.py). -/
import Derived.Test.YtjoanlhdocoddaaMsREnc
namespace Go.Proofs.Ytjoanlhdocoddaa
open Go.RowKit Go.Maps Go.ChangeMaps

set_option maxRecDepth 100000 in
set_option maxHeartbeats 6400000 in
theorem re3 (m : Sough.Msg) (w : World) (hwf : m.Wf) (hr : (Sough.wk 3 m).right = true) : Calls Try.prog 16 #[.agg (msgC (Sough.wk 3 m))] w fun e w' => e = .returned (.string ⟨(Sough.wk 3 m).bytes.toArray⟩) ∧ Below w.heap.size w w' := by
  obtain ⟨_, hall, _⟩ := Sough.right_spec hr
  have g2 : 1 ≤ m.v 2 ∧ m.v 2 ≤ 4294967296 := of_decide_eq_true (hall (Sough.number 2) (by show _ ∈ Sough.flds 3; decide))
  have g5 : 1 ≤ m.v 5 ∧ m.v 5 ≤ 15 := of_decide_eq_true (hall ⟨5, 1, 15⟩ (by show _ ∈ Sough.flds 3; decide))
  have hby : (Sough.wk 3 m).bytes = Sough.put 3 ++ (Sough.put (m.v 2).toNat ++ (Sough.numsL [m.v 5])) := rfl
  rw [hby]
  have CR := Lib.hid (rr3_lit hr hwf)
  have C2 := Lib.hid (fun w => rput_any (m.v 2) (by omega) (by omega) w)
  have l0 := (Sough.put_len 3).2
  have l2 := (Sough.put_len (m.v 2).toNat).2
  have ln : (Sough.numsL [m.v 5]).length ≤ 10 := Sough.numsL_len _
  have HN : Hid (∀ x ∈ [m.v 5], 0 ≤ x ∧ x < 18446744073709551616) := Lib.hid (by intro x hx; simp at hx; omega)
  clear hby hall hr hwf
  change Calls _ _ #[.agg #[.int .i64 3, .int .u64 (m.v 1), .int .u64 (m.v 2), .string ⟨m.offer.toArray⟩, .int .i64 (m.v 4), .int .i64 (m.v 5), .int .i64 (m.v 6), .int .i64 (m.v 7), .int .i64 (m.v 8), .int .i64 (m.v 9), .int .i64 (m.v 10), .int .u64 (m.v 11), .int .u64 (m.v 12)]] w _
  have M0 : Hid (Mem w [(w.heap.size, .cells #[.int .i64 3, .int .u64 (m.v 1), .int .u64 (m.v 2), .string ⟨m.offer.toArray⟩, .int .i64 (m.v 4), .int .i64 (m.v 5), .int .i64 (m.v 6), .int .i64 (m.v 7), .int .i64 (m.v 8), .int .i64 (m.v 9), .int .i64 (m.v 10), .int .u64 (m.v 11), .int .u64 (m.v 12)] 29 (0, 0))] (w.alloc (.cells #[.int .i64 3, .int .u64 (m.v 1), .int .u64 (m.v 2), .string ⟨m.offer.toArray⟩, .int .i64 (m.v 4), .int .i64 (m.v 5), .int .i64 (m.v 6), .int .i64 (m.v 7), .int .i64 (m.v 8), .int .i64 (m.v 9), .int .i64 (m.v 10), .int .u64 (m.v 11), .int .u64 (m.v 12)] 29))) := Lib.hid ((Mem.start w).alloc _)
  go_enter Try.func16, Try.ntmps16
  go_wp2_with fail
  generalize w.alloc (.cells #[.int .i64 3, .int .u64 (m.v 1), .int .u64 (m.v 2), .string ⟨m.offer.toArray⟩, .int .i64 (m.v 4), .int .i64 (m.v 5), .int .i64 (m.v 6), .int .i64 (m.v 7), .int .i64 (m.v 8), .int .i64 (m.v 9), .int .i64 (m.v 10), .int .u64 (m.v 11), .int .u64 (m.v 12)] 29) = W0 at *
  refine (CR.out _).mono ?_
  rintro e w1 ⟨rfl, hb⟩
  have M1 := Lib.hid (M0.out.later hb)
  clear hb M0
  have r := M1.out.rules; simp only [AllCells, CellsAt, Nat.zero_add, Nat.reduceAdd] at r
  go_wp2_with fail
  refine (nums_at (l := [3]) rfl (by decide) (by simp) rfl _ (heap_alloc_new _ _)).mono ?_
  rintro e w2 ⟨rfl, hb⟩
  have M2 := Lib.hid ((M1.out.alloc (.cells #[.int .i64 3] 3)).later hb)
  clear hb M1 r
  have r := M2.out.rules; simp only [AllCells, CellsAt, Nat.zero_add, Nat.reduceAdd] at r
  have e1 : Sough.numsL [3] = Sough.put 3 := by simp [Sough.numsL]
  rw [e1]
  clear e1
  go_wp2_with fail
  refine (C2.out _).mono ?_
  rintro e w3 ⟨rfl, hb⟩
  have M3 := Lib.hid (M2.out.later hb)
  clear hb M2 r
  have r := M3.out.rules; simp only [AllCells, CellsAt, Nat.zero_add, Nat.reduceAdd] at r
  go_wp2_with fail
  refine (nums_at (l := [m.v 5]) rfl (by simp) HN.out rfl _ (heap_alloc_new _ _)).mono ?_
  rintro e w9 ⟨rfl, hb⟩
  have M9 := Lib.hid ((M3.out.alloc (.cells #[.int .i64 (m.v 5)] 3)).later hb)
  clear hb M3 r
  go_wp2_with fail
  go_ret
  exact ⟨by simp [bytes_append, List.append_assoc], M9.out.bel⟩

end Go.Proofs.Ytjoanlhdocoddaa
