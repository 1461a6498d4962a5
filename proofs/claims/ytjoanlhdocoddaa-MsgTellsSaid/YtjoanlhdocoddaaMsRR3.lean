/- The walks of soughref10.Right at each kind (printed by wip/tools/mkrr.py). -/
import Derived.Test.YtjoanlhdocoddaaMsRRight
import Derived.Test.YtjoanlhdocoddaaMsEqR
namespace Go.Proofs.Ytjoanlhdocoddaa
open Go.RowKit Go.Maps Go.ChangeMaps

set_option maxRecDepth 100000 in
set_option maxHeartbeats 6400000 in
theorem rr3 (m : Sough.Msg) (w : World) (hwf : m.Wf) : Calls Try.prog 13 #[.agg (msgC (Sough.wk 3 m))] w fun e w' => e = .returned (.bool (Sough.wk 3 m).right) ∧ Below w.heap.size w w' := by
  have hr0 := Sough.right_k3 (m := Sough.wk 3 m) rfl
  obtain ⟨R, hR⟩ : ∃ R, (Sough.wk 3 m).right = R := ⟨_, rfl⟩
  rw [hR] at hr0 ⊢
  clear hR
  obtain ⟨x0, h0⟩ : ∃ b, Sough.numB (m.v 2) = b := ⟨_, rfl⟩
  have C0 := Lib.hid fun w => rnumber_any h0 w
  obtain ⟨sb, hsb⟩ : ∃ b, (Sough.wk 3 m).same (Sough.okind 3 (Sough.wk 3 m)) = b := ⟨_, rfl⟩
  have EQ : ∀ w, (Op.equalIn 10000 29 (.agg #[.int .i64 3, .int .u64 (m.v 1), .int .u64 (m.v 2), .string ⟨m.offer.toArray⟩, .int .i64 (m.v 4), .int .i64 (m.v 5), .int .i64 (m.v 6), .int .i64 (m.v 7), .int .i64 (m.v 8), .int .i64 (m.v 9), .int .i64 (m.v 10), .int .u64 (m.v 11), .int .u64 (m.v 12)]) (.agg #[.int .i64 3, .int .u64 0, .int .u64 (m.v 2), .string ⟨#[]⟩, .int .i64 0, .int .i64 (m.v 5), .int .i64 0, .int .i64 0, .int .i64 0, .int .i64 0, .int .i64 0, .int .u64 0, .int .u64 0])).run Try.prog w = .ok sb w := fun w => by rw [← hsb]; exact eqMsgR (Sough.wk 3 m) (Sough.okind 3 (Sough.wk 3 m)) w
  have EQ := Lib.hid EQ
  have EG : Try.prog.eqGuardType Try.prog.depth 29 = false := by kernel_rfl
  have EG := Lib.hid EG
  have HR : Hid (R = (x0 && (decide (1 ≤ m.v 5) && (decide (m.v 5 ≤ 15) && sb)))) := Lib.hid (by rw [hr0, ← hsb, ← h0]; rfl)
  have b0 := hwf.nats 11 (by decide); have b1 := hwf.nats 12 (by decide); have b2 := hwf.ints 4 (by decide); have b3 := hwf.ints 5 (by decide)
  clear hr0 hsb h0
  have hwf := Lib.hid hwf
  change Calls _ _ #[.agg #[.int .i64 3, .int .u64 (m.v 1), .int .u64 (m.v 2), .string ⟨m.offer.toArray⟩, .int .i64 (m.v 4), .int .i64 (m.v 5), .int .i64 (m.v 6), .int .i64 (m.v 7), .int .i64 (m.v 8), .int .i64 (m.v 9), .int .i64 (m.v 10), .int .u64 (m.v 11), .int .u64 (m.v 12)]] w _
  have M0 : Hid (Mem w [(w.heap.size + 1, .cells #[.int .i64 3, .int .u64 0, .int .u64 (m.v 2), .string ⟨#[]⟩, .int .i64 0, .int .i64 (m.v 5), .int .i64 0, .int .i64 0, .int .i64 0, .int .i64 0, .int .i64 0, .int .u64 0, .int .u64 0] 29 (0, 0)), (w.heap.size, .cells #[.int .i64 3, .int .u64 (m.v 1), .int .u64 (m.v 2), .string ⟨m.offer.toArray⟩, .int .i64 (m.v 4), .int .i64 (m.v 5), .int .i64 (m.v 6), .int .i64 (m.v 7), .int .i64 (m.v 8), .int .i64 (m.v 9), .int .i64 (m.v 10), .int .u64 (m.v 11), .int .u64 (m.v 12)] 29 (0, 0))] ((w.alloc (.cells #[.int .i64 3, .int .u64 (m.v 1), .int .u64 (m.v 2), .string ⟨m.offer.toArray⟩, .int .i64 (m.v 4), .int .i64 (m.v 5), .int .i64 (m.v 6), .int .i64 (m.v 7), .int .i64 (m.v 8), .int .i64 (m.v 9), .int .i64 (m.v 10), .int .u64 (m.v 11), .int .u64 (m.v 12)] 29)).alloc (.cells #[.int .i64 3, .int .u64 0, .int .u64 (m.v 2), .string ⟨#[]⟩, .int .i64 0, .int .i64 (m.v 5), .int .i64 0, .int .i64 0, .int .i64 0, .int .i64 0, .int .i64 0, .int .u64 0, .int .u64 0] 29))) := Lib.hid (by have := ((Mem.start w).alloc (.cells #[.int .i64 3, .int .u64 (m.v 1), .int .u64 (m.v 2), .string ⟨m.offer.toArray⟩, .int .i64 (m.v 4), .int .i64 (m.v 5), .int .i64 (m.v 6), .int .i64 (m.v 7), .int .i64 (m.v 8), .int .i64 (m.v 9), .int .i64 (m.v 10), .int .u64 (m.v 11), .int .u64 (m.v 12)] 29)).alloc (.cells #[.int .i64 3, .int .u64 0, .int .u64 (m.v 2), .string ⟨#[]⟩, .int .i64 0, .int .i64 (m.v 5), .int .i64 0, .int .i64 0, .int .i64 0, .int .i64 0, .int .i64 0, .int .u64 0, .int .u64 0] 29); simpa only [World.size_alloc] using this)
  go_enter Try.func13, Try.ntmps13
  go_wp2_with fail
  generalize (w.alloc (.cells #[.int .i64 3, .int .u64 (m.v 1), .int .u64 (m.v 2), .string ⟨m.offer.toArray⟩, .int .i64 (m.v 4), .int .i64 (m.v 5), .int .i64 (m.v 6), .int .i64 (m.v 7), .int .i64 (m.v 8), .int .i64 (m.v 9), .int .i64 (m.v 10), .int .u64 (m.v 11), .int .u64 (m.v 12)] 29)).alloc (.cells #[.int .i64 3, .int .u64 0, .int .u64 (m.v 2), .string ⟨#[]⟩, .int .i64 0, .int .i64 (m.v 5), .int .i64 0, .int .i64 0, .int .i64 0, .int .i64 0, .int .i64 0, .int .u64 0, .int .u64 0] 29) = W0 at *
  refine (C0.out _).mono ?_
  rintro e w1 ⟨rfl, rfl⟩
  have ra := M0.out.rules; simp only [AllCells, CellsAt, Nat.zero_add, Nat.reduceAdd] at ra
  cases x0
  · skip
    have hr : R = false := by rw [HR.out]; simp
    subst hr
    clear HR
    go_wp2_with fail
    go_ret
    exact ⟨rfl, M0.out.bel⟩
  · skip
    by_cases t1 : 1 ≤ m.v 5
    rotate_left
    · skip
      have u1 : m.v 5 < 1 := by omega
      have hr : R = false := by rw [HR.out]; simp [*]
      subst hr
      clear HR
      go_wp2_with fail
      go_ret
      exact ⟨rfl, M0.out.bel⟩
    by_cases t2 : m.v 5 ≤ 15
    rotate_left
    · skip
      have u2 : 15 < m.v 5 := by omega
      have hr : R = false := by rw [HR.out]; simp [*]
      subst hr
      clear HR
      go_wp2_with fail
      go_ret
      exact ⟨rfl, M0.out.bel⟩
    have hr : R = sb := by rw [HR.out]; simp [*]
    subst hr
    have EQ := EQ.out; have EG := EG.out
    go_wp2_with fail
    go_ret
    exact ⟨by first | rfl | exact ret_bool (by simp), M0.out.bel⟩

end Go.Proofs.Ytjoanlhdocoddaa
