/- The walks of soughref10.Right at each kind (printed by wip/tools/mkrr.py). -/
import Derived.Test.YtjoanlhdocoddaaMsRRight
import Derived.Test.YtjoanlhdocoddaaMsEqR
namespace Go.Proofs.Ytjoanlhdocoddaa
open Go.RowKit Go.Maps Go.ChangeMaps

set_option maxRecDepth 100000 in
set_option maxHeartbeats 6400000 in
theorem rr1 (m : Sough.Msg) (w : World) (hwf : m.Wf) : Calls Try.prog 13 #[.agg (msgC (Sough.wk 1 m))] w fun e w' => e = .returned (.bool (Sough.wk 1 m).right) ∧ Below w.heap.size w w' := by
  have hr0 := Sough.right_k1 (m := Sough.wk 1 m) rfl
  obtain ⟨R, hR⟩ : ∃ R, (Sough.wk 1 m).right = R := ⟨_, rfl⟩
  rw [hR] at hr0 ⊢
  clear hR
  obtain ⟨x0, h0⟩ : ∃ b, Sough.numB (m.v 1) = b := ⟨_, rfl⟩
  have C0 := Lib.hid fun w => rnumber_any h0 w
  obtain ⟨x1, h1⟩ : ∃ b, Sough.offerOk m.offer = b := ⟨_, rfl⟩
  have C1 := Lib.hid fun w => roffer_any (s := ⟨m.offer.toArray⟩) rfl h1 w (by rw [mk_size]; have := hwf.text; unfold maxLen; omega)
  obtain ⟨x4, h4⟩ : ∃ b, Sough.nameB (m.v 6) = b := ⟨_, rfl⟩
  have C4 := Lib.hid fun w => rname_any h4 w
  obtain ⟨x5, h5⟩ : ∃ b, Sough.nameB (m.v 7) = b := ⟨_, rfl⟩
  have C5 := Lib.hid fun w => rname_any h5 w
  obtain ⟨x6, h6⟩ : ∃ b, Sough.nameB (m.v 8) = b := ⟨_, rfl⟩
  have C6 := Lib.hid fun w => rname_any h6 w
  obtain ⟨x7, h7⟩ : ∃ b, Sough.nameB (m.v 9) = b := ⟨_, rfl⟩
  have C7 := Lib.hid fun w => rname_any h7 w
  obtain ⟨x8, h8⟩ : ∃ b, Sough.nameB (m.v 10) = b := ⟨_, rfl⟩
  have C8 := Lib.hid fun w => rname_any h8 w
  obtain ⟨sb, hsb⟩ : ∃ b, (Sough.wk 1 m).same (Sough.okind 1 (Sough.wk 1 m)) = b := ⟨_, rfl⟩
  have EQ : ∀ w, (Op.equalIn 10000 29 (.agg #[.int .i64 1, .int .u64 (m.v 1), .int .u64 (m.v 2), .string ⟨m.offer.toArray⟩, .int .i64 (m.v 4), .int .i64 (m.v 5), .int .i64 (m.v 6), .int .i64 (m.v 7), .int .i64 (m.v 8), .int .i64 (m.v 9), .int .i64 (m.v 10), .int .u64 (m.v 11), .int .u64 (m.v 12)]) (.agg #[.int .i64 1, .int .u64 (m.v 1), .int .u64 0, .string ⟨m.offer.toArray⟩, .int .i64 (m.v 4), .int .i64 0, .int .i64 (m.v 6), .int .i64 (m.v 7), .int .i64 (m.v 8), .int .i64 (m.v 9), .int .i64 (m.v 10), .int .u64 0, .int .u64 0])).run Try.prog w = .ok sb w := fun w => by rw [← hsb]; exact eqMsgR (Sough.wk 1 m) (Sough.okind 1 (Sough.wk 1 m)) w
  have EQ := Lib.hid EQ
  have EG : Try.prog.eqGuardType Try.prog.depth 29 = false := by kernel_rfl
  have EG := Lib.hid EG
  have HR : Hid (R = (x0 && (x1 && (decide (0 ≤ m.v 4) && (decide (m.v 4 ≤ 1) && (x4 && (x5 && (x6 && (x7 && (x8 && sb)))))))))) := Lib.hid (by rw [hr0, ← hsb, ← h0, ← h1, ← h4, ← h5, ← h6, ← h7, ← h8]; rfl)
  have b0 := hwf.nats 11 (by decide); have b1 := hwf.nats 12 (by decide); have b2 := hwf.ints 4 (by decide); have b3 := hwf.ints 5 (by decide)
  clear hr0 hsb h0 h1 h4 h5 h6 h7 h8
  have hwf := Lib.hid hwf
  change Calls _ _ #[.agg #[.int .i64 1, .int .u64 (m.v 1), .int .u64 (m.v 2), .string ⟨m.offer.toArray⟩, .int .i64 (m.v 4), .int .i64 (m.v 5), .int .i64 (m.v 6), .int .i64 (m.v 7), .int .i64 (m.v 8), .int .i64 (m.v 9), .int .i64 (m.v 10), .int .u64 (m.v 11), .int .u64 (m.v 12)]] w _
  have M0 : Hid (Mem w [(w.heap.size + 1, .cells #[.int .i64 1, .int .u64 (m.v 1), .int .u64 0, .string ⟨m.offer.toArray⟩, .int .i64 (m.v 4), .int .i64 0, .int .i64 (m.v 6), .int .i64 (m.v 7), .int .i64 (m.v 8), .int .i64 (m.v 9), .int .i64 (m.v 10), .int .u64 0, .int .u64 0] 29 (0, 0)), (w.heap.size, .cells #[.int .i64 1, .int .u64 (m.v 1), .int .u64 (m.v 2), .string ⟨m.offer.toArray⟩, .int .i64 (m.v 4), .int .i64 (m.v 5), .int .i64 (m.v 6), .int .i64 (m.v 7), .int .i64 (m.v 8), .int .i64 (m.v 9), .int .i64 (m.v 10), .int .u64 (m.v 11), .int .u64 (m.v 12)] 29 (0, 0))] ((w.alloc (.cells #[.int .i64 1, .int .u64 (m.v 1), .int .u64 (m.v 2), .string ⟨m.offer.toArray⟩, .int .i64 (m.v 4), .int .i64 (m.v 5), .int .i64 (m.v 6), .int .i64 (m.v 7), .int .i64 (m.v 8), .int .i64 (m.v 9), .int .i64 (m.v 10), .int .u64 (m.v 11), .int .u64 (m.v 12)] 29)).alloc (.cells #[.int .i64 1, .int .u64 (m.v 1), .int .u64 0, .string ⟨m.offer.toArray⟩, .int .i64 (m.v 4), .int .i64 0, .int .i64 (m.v 6), .int .i64 (m.v 7), .int .i64 (m.v 8), .int .i64 (m.v 9), .int .i64 (m.v 10), .int .u64 0, .int .u64 0] 29))) := Lib.hid (by have := ((Mem.start w).alloc (.cells #[.int .i64 1, .int .u64 (m.v 1), .int .u64 (m.v 2), .string ⟨m.offer.toArray⟩, .int .i64 (m.v 4), .int .i64 (m.v 5), .int .i64 (m.v 6), .int .i64 (m.v 7), .int .i64 (m.v 8), .int .i64 (m.v 9), .int .i64 (m.v 10), .int .u64 (m.v 11), .int .u64 (m.v 12)] 29)).alloc (.cells #[.int .i64 1, .int .u64 (m.v 1), .int .u64 0, .string ⟨m.offer.toArray⟩, .int .i64 (m.v 4), .int .i64 0, .int .i64 (m.v 6), .int .i64 (m.v 7), .int .i64 (m.v 8), .int .i64 (m.v 9), .int .i64 (m.v 10), .int .u64 0, .int .u64 0] 29); simpa only [World.size_alloc] using this)
  go_enter Try.func13, Try.ntmps13
  go_wp2_with fail
  generalize (w.alloc (.cells #[.int .i64 1, .int .u64 (m.v 1), .int .u64 (m.v 2), .string ⟨m.offer.toArray⟩, .int .i64 (m.v 4), .int .i64 (m.v 5), .int .i64 (m.v 6), .int .i64 (m.v 7), .int .i64 (m.v 8), .int .i64 (m.v 9), .int .i64 (m.v 10), .int .u64 (m.v 11), .int .u64 (m.v 12)] 29)).alloc (.cells #[.int .i64 1, .int .u64 (m.v 1), .int .u64 0, .string ⟨m.offer.toArray⟩, .int .i64 (m.v 4), .int .i64 0, .int .i64 (m.v 6), .int .i64 (m.v 7), .int .i64 (m.v 8), .int .i64 (m.v 9), .int .i64 (m.v 10), .int .u64 0, .int .u64 0] 29) = W0 at *
  refine (C0.out _).mono ?_
  rintro e w1 ⟨rfl, rfl⟩
  have ra := M0.out.rules; simp only [AllCells, CellsAt, Nat.zero_add, Nat.reduceAdd] at ra
  cases x0
  · skip
    have hr : R = false := by rw [HR.out]; simp
    subst hr
    clear HR
    go_wp2_with fail
    go_ret
    exact ⟨rfl, M0.out.bel⟩
  · skip
    go_wp2_with fail
    refine (C1.out _).mono ?_
    rintro e w2 ⟨rfl, hb⟩
    have M2 := Lib.hid (M0.out.later hb)
    clear hb ra
    have ra := M2.out.rules; simp only [AllCells, CellsAt, Nat.zero_add, Nat.reduceAdd] at ra
    cases x1
    · skip
      have hr : R = false := by rw [HR.out]; simp
      subst hr
      clear HR
      go_wp2_with fail
      go_ret
      exact ⟨rfl, M2.out.bel⟩
    · skip
      by_cases t2 : 0 ≤ m.v 4
      rotate_left
      · skip
        have u2 : m.v 4 < 0 := by omega
        have hr : R = false := by rw [HR.out]; simp [*]
        subst hr
        clear HR
        go_wp2_with fail
        go_ret
        exact ⟨rfl, M2.out.bel⟩
      by_cases t3 : m.v 4 ≤ 1
      rotate_left
      · skip
        have u3 : 1 < m.v 4 := by omega
        have hr : R = false := by rw [HR.out]; simp [*]
        subst hr
        clear HR
        go_wp2_with fail
        go_ret
        exact ⟨rfl, M2.out.bel⟩
      go_wp2_with fail
      refine (C4.out _).mono ?_
      rintro e w5 ⟨rfl, rfl⟩
      cases x4
      · skip
        have hr : R = false := by rw [HR.out]; simp
        subst hr
        clear HR
        go_wp2_with fail
        go_ret
        exact ⟨rfl, M2.out.bel⟩
      · skip
        go_wp2_with fail
        refine (C5.out _).mono ?_
        rintro e w6 ⟨rfl, rfl⟩
        cases x5
        · skip
          have hr : R = false := by rw [HR.out]; simp
          subst hr
          clear HR
          go_wp2_with fail
          go_ret
          exact ⟨rfl, M2.out.bel⟩
        · skip
          go_wp2_with fail
          refine (C6.out _).mono ?_
          rintro e w7 ⟨rfl, rfl⟩
          cases x6
          · skip
            have hr : R = false := by rw [HR.out]; simp
            subst hr
            clear HR
            go_wp2_with fail
            go_ret
            exact ⟨rfl, M2.out.bel⟩
          · skip
            go_wp2_with fail
            refine (C7.out _).mono ?_
            rintro e w8 ⟨rfl, rfl⟩
            cases x7
            · skip
              have hr : R = false := by rw [HR.out]; simp
              subst hr
              clear HR
              go_wp2_with fail
              go_ret
              exact ⟨rfl, M2.out.bel⟩
            · skip
              go_wp2_with fail
              refine (C8.out _).mono ?_
              rintro e w9 ⟨rfl, rfl⟩
              cases x8
              · skip
                have hr : R = false := by rw [HR.out]; simp
                subst hr
                clear HR
                go_wp2_with fail
                go_ret
                exact ⟨rfl, M2.out.bel⟩
              · skip
                have hr : R = sb := by rw [HR.out]; simp [*]
                subst hr
                have EQ := EQ.out; have EG := EG.out
                go_wp2_with fail
                go_ret
                exact ⟨by first | rfl | exact ret_bool (by simp), M2.out.bel⟩

end Go.Proofs.Ytjoanlhdocoddaa
