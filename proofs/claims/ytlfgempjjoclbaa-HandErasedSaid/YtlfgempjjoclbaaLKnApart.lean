/- The walk of apart (layer 8). -/
import Derived.Test.YtlfgempjjoclbaaLKnLearn
namespace Go.Proofs.Ytlfgempjjoclbaa
open Go.RowKit Go.Maps Go.ChangeMaps
theorem Turned.on {S : List Nat} {a b c : World} (h : Turned S a b) (k : Turned S b c) : Turned S a c := h.trans k fun _ hi => .inl hi
section
variable {w : World} {mp lb cb pb kb mb n : Nat} {st : Sough.Store} {f : Sough.Flg} {can : List Bool} {tk : Int} {ta tb tc tn : Nat} {ts : List UInt8}
set_option maxRecDepth 100000 in
set_option maxHeartbeats 1600000 in
theorem apart_pair (h : MindIn w mp lb cb pb kb mb n st f can) (ha : ta < n) (hb : tb < n) :
    Calls Try.prog 72 #[.pointer (some ⟨mp, 0, none⟩), .agg #[.int .i64 (11), .string ⟨ts.toArray⟩, .int .u64 tn, .int .i64 ta, .int .i64 tb, .int .i64 tc]] w fun e w' => e = .returned (.bool (!Sough.cn can ta || !Sough.cn (can.set ta true) tb)) ∧ MindIn w' mp lb cb pb kb mb n st f ((can.set ta true).set tb true) ∧ Turned [cb] w w' := by
  have HM := Lib.hid (h.later ((Below.refl _ w).alloc (Nat.le_refl _) (.cells #[.int .i64 (11), .string ⟨ts.toArray⟩, .int .u64 tn, .int .i64 ta, .int .i64 tb, .int .i64 tc] 76)))
  have HU := Lib.hid (Turned.below (S := [cb]) ((Below.refl _ w).alloc (Nat.le_refl _) (.cells #[.int .i64 (11), .string ⟨ts.toArray⟩, .int .u64 tn, .int .i64 ta, .int .i64 tb, .int .i64 tc] 76)))
  have HT := Lib.hid (heap_alloc_new w (.cells #[.int .i64 (11), .string ⟨ts.toArray⟩, .int .u64 tn, .int .i64 ta, .int .i64 tb, .int .i64 tc] 76))
  have hcb : cb < w.heap.size := lt_of_block h.cans
  have zt := cells_of6 HT.out
  have CA := Lib.hid (learn_any HM.out ha)
  clear h
  obtain ⟨x, hx⟩ : ∃ x, x = Sough.cn can ta := ⟨_, rfl⟩
  obtain ⟨y, hy⟩ : ∃ y, y = Sough.cn (can.set ta true) tb := ⟨_, rfl⟩
  rw [← hx] at CA
  rw [← hx, ← hy]
  have HY := Lib.hid hy
  clear hx hy
  go_enter Try.func72, Try.ntmps72
  go_wp2_with fail
  refine CA.out.mono ?_
  rintro e w1 ⟨rfl, hm1, ht1⟩
  have HM1 := Lib.hid hm1
  have HU1 := Lib.hid (HU.out.on ht1)
  have HT1 := Lib.hid ((ht1.block _ (lt_of_block HT.out) (by simp only [List.mem_singleton]; omega)).trans HT.out)
  clear hm1 ht1 CA zt
  have zt := cells_of6 HT1.out
  have CB := Lib.hid (learn_any HM1.out hb)
  rw [← HY.out] at CB
  go_wp2_with fail
  refine CB.out.mono ?_
  rintro e w2 ⟨rfl, hm2, ht2⟩
  have HM2 := Lib.hid hm2
  have HU2 := Lib.hid (HU1.out.on ht2)
  clear hm2 ht2 CB zt
  cases x <;> cases y
  all_goals
    go_wp2_with fail
    go_ret
    exact ⟨by first | rfl | simp, HM2.out, HU2.out⟩
set_option maxRecDepth 100000 in
set_option maxHeartbeats 1600000 in
theorem apart_seal (h : MindIn w mp lb cb pb kb mb n st f can) (ha : ta < n) (hc : tc < n) (hx : Sough.cn can ta = true) :
    Calls Try.prog 72 #[.pointer (some ⟨mp, 0, none⟩), .agg #[.int .i64 (10), .string ⟨ts.toArray⟩, .int .u64 tn, .int .i64 ta, .int .i64 tb, .int .i64 tc]] w fun e w' => e = .returned (.bool (!Sough.cn can tc)) ∧ MindIn w' mp lb cb pb kb mb n st f (can.set tc true) ∧ Turned [cb] w w' := by
  have HM := Lib.hid (h.later ((Below.refl _ w).alloc (Nat.le_refl _) (.cells #[.int .i64 (10), .string ⟨ts.toArray⟩, .int .u64 tn, .int .i64 ta, .int .i64 tb, .int .i64 tc] 76)))
  have HU := Lib.hid (Turned.below (S := [cb]) ((Below.refl _ w).alloc (Nat.le_refl _) (.cells #[.int .i64 (10), .string ⟨ts.toArray⟩, .int .u64 tn, .int .i64 ta, .int .i64 tb, .int .i64 tc] 76)))
  have HT := Lib.hid (heap_alloc_new w (.cells #[.int .i64 (10), .string ⟨ts.toArray⟩, .int .u64 tn, .int .i64 ta, .int .i64 tb, .int .i64 tc] 76))
  have z1 : ∀ z : Later (w.alloc (.cells #[.int .i64 (10), .string ⟨ts.toArray⟩, .int .u64 tn, .int .i64 ta, .int .i64 tb, .int .i64 tc] 76)), z.world.cell? ⟨cb, ta, none⟩ = some (.bool true) := fun z => by rw [← hx]; exact (HM.out.later z.below).cell ha
  have zm := fun z : Later (w.alloc (.cells #[.int .i64 (10), .string ⟨ts.toArray⟩, .int .u64 tn, .int .i64 ta, .int .i64 tb, .int .i64 tc] 76)) => (HM.out.later z.below).mind.2.1
  have zt := fun z : Later (w.alloc (.cells #[.int .i64 (10), .string ⟨ts.toArray⟩, .int .u64 tn, .int .i64 ta, .int .i64 tb, .int .i64 tc] 76)) => cells_of6 ((z.below.block _ (lt_of_block HT.out)).trans HT.out)
  have zt0 := cells_of6 HT.out
  clear h hx
  obtain ⟨y, hy⟩ : ∃ y, y = Sough.cn can tc := ⟨_, rfl⟩
  rw [← hy]
  have HY := Lib.hid hy
  clear hy
  go_enter Try.func72, Try.ntmps72
  go_wp2_with fail
  refine wp_region_later (by kernel_rfl) (by kernel_rfl) ?_
  iterate 14 go_big_quiet_step (fail)
  refine wpQuiet_nil ?_
  rintro ⟨wq, hbq⟩
  change Exit.then _ _ _ _ wq
  have HM1 := Lib.hid (HM.out.later hbq)
  have HU1 := Lib.hid (HU.out.on (Turned.below hbq))
  have HT1 := Lib.hid ((hbq.block _ (lt_of_block HT.out)).trans HT.out)
  clear z1 zm zt zt0 hbq
  have CB := Lib.hid (learn_any HM1.out hc)
  have zt := cells_of6 HT1.out
  rw [← HY.out] at CB
  go_wp2_with fail
  refine CB.out.mono ?_
  rintro e w2 ⟨rfl, hm2, ht2⟩
  have HM2 := Lib.hid hm2
  have HU2 := Lib.hid (HU1.out.on ht2)
  clear hm2 ht2 CB zt
  go_wp2_with fail
  go_ret
  exact ⟨by first | rfl | simp, HM2.out, HU2.out⟩
set_option maxRecDepth 100000 in
set_option maxHeartbeats 1600000 in
theorem apart_sealNo (h : MindIn w mp lb cb pb kb mb n st f can) (ha : ta < n) (hx : Sough.cn can ta = false) :
    Calls Try.prog 72 #[.pointer (some ⟨mp, 0, none⟩), .agg #[.int .i64 (10), .string ⟨ts.toArray⟩, .int .u64 tn, .int .i64 ta, .int .i64 tb, .int .i64 tc]] w fun e w' => e = .returned (.bool false) ∧ MindIn w' mp lb cb pb kb mb n st f can ∧ Turned [cb] w w' := by
  have HM := Lib.hid (h.later ((Below.refl _ w).alloc (Nat.le_refl _) (.cells #[.int .i64 (10), .string ⟨ts.toArray⟩, .int .u64 tn, .int .i64 ta, .int .i64 tb, .int .i64 tc] 76)))
  have HU := Lib.hid (Turned.below (S := [cb]) ((Below.refl _ w).alloc (Nat.le_refl _) (.cells #[.int .i64 (10), .string ⟨ts.toArray⟩, .int .u64 tn, .int .i64 ta, .int .i64 tb, .int .i64 tc] 76)))
  have HT := Lib.hid (heap_alloc_new w (.cells #[.int .i64 (10), .string ⟨ts.toArray⟩, .int .u64 tn, .int .i64 ta, .int .i64 tb, .int .i64 tc] 76))
  have z1 : ∀ z : Later (w.alloc (.cells #[.int .i64 (10), .string ⟨ts.toArray⟩, .int .u64 tn, .int .i64 ta, .int .i64 tb, .int .i64 tc] 76)), z.world.cell? ⟨cb, ta, none⟩ = some (.bool false) := fun z => by rw [← hx]; exact (HM.out.later z.below).cell ha
  have zm := fun z : Later (w.alloc (.cells #[.int .i64 (10), .string ⟨ts.toArray⟩, .int .u64 tn, .int .i64 ta, .int .i64 tb, .int .i64 tc] 76)) => (HM.out.later z.below).mind.2.1
  have zt := fun z : Later (w.alloc (.cells #[.int .i64 (10), .string ⟨ts.toArray⟩, .int .u64 tn, .int .i64 ta, .int .i64 tb, .int .i64 tc] 76)) => cells_of6 ((z.below.block _ (lt_of_block HT.out)).trans HT.out)
  have zt0 := cells_of6 HT.out
  clear h hx
  go_enter Try.func72, Try.ntmps72
  go_wp2_with fail
  refine wp_region_later (by kernel_rfl) (by kernel_rfl) ?_
  iterate 14 go_big_quiet_step (fail)
  refine wpQuiet_nil ?_
  rintro ⟨wq, hbq⟩
  change Exit.then _ _ _ _ wq
  have HM1 := Lib.hid (HM.out.later hbq)
  have HU1 := Lib.hid (HU.out.on (Turned.below hbq))
  have HT1 := Lib.hid ((hbq.block _ (lt_of_block HT.out)).trans HT.out)
  clear z1 zm zt zt0 hbq
  go_wp2_with fail
  go_ret
  exact ⟨by first | rfl | simp, HM1.out, HU1.out⟩
set_option maxRecDepth 100000 in
set_option maxHeartbeats 1600000 in
theorem apart_no (h : MindIn w mp lb cb pb kb mb n st f can) (h11 : tk ≠ 11) (h10 : tk ≠ 10) :
    Calls Try.prog 72 #[.pointer (some ⟨mp, 0, none⟩), .agg #[.int .i64 tk, .string ⟨ts.toArray⟩, .int .u64 tn, .int .i64 ta, .int .i64 tb, .int .i64 tc]] w fun e w' => e = .returned (.bool false) ∧ MindIn w' mp lb cb pb kb mb n st f can ∧ Turned [cb] w w' := by
  have HM := Lib.hid (h.later ((Below.refl _ w).alloc (Nat.le_refl _) (.cells #[.int .i64 tk, .string ⟨ts.toArray⟩, .int .u64 tn, .int .i64 ta, .int .i64 tb, .int .i64 tc] 76)))
  have HU := Lib.hid (Turned.below (S := [cb]) ((Below.refl _ w).alloc (Nat.le_refl _) (.cells #[.int .i64 tk, .string ⟨ts.toArray⟩, .int .u64 tn, .int .i64 ta, .int .i64 tb, .int .i64 tc] 76)))
  have HT := Lib.hid (heap_alloc_new w (.cells #[.int .i64 tk, .string ⟨ts.toArray⟩, .int .u64 tn, .int .i64 ta, .int .i64 tb, .int .i64 tc] 76))
  have zt := fun z : Later (w.alloc (.cells #[.int .i64 tk, .string ⟨ts.toArray⟩, .int .u64 tn, .int .i64 ta, .int .i64 tb, .int .i64 tc] 76)) => cells_of6 ((z.below.block _ (lt_of_block HT.out)).trans HT.out)
  have zt0 := cells_of6 HT.out
  have b11 : (tk == 11) = false := by simpa using h11
  have b10 : (tk == 10) = false := by simpa using h10
  have d11 : decide (tk = 11) = false := by simpa using h11
  have d10 : decide (tk = 10) = false := by simpa using h10
  clear h
  go_enter Try.func72, Try.ntmps72
  go_wp2_with fail
  refine wp_region_later (by kernel_rfl) (by kernel_rfl) ?_
  iterate 14 go_big_quiet_step (fail)
  refine wpQuiet_nil ?_
  rintro ⟨wq, hbq⟩
  change Exit.then _ _ _ _ wq
  have HM1 := Lib.hid (HM.out.later hbq)
  have HU1 := Lib.hid (HU.out.on (Turned.below hbq))
  have HT1 := Lib.hid ((hbq.block _ (lt_of_block HT.out)).trans HT.out)
  clear zt zt0 hbq
  go_wp2_with fail
  go_ret
  exact ⟨by first | rfl | simp, HM1.out, HU1.out⟩
theorem apart_any (h : MindIn w mp lb cb pb kb mb n st f can) (ha : ta < n) (hb : tb < n) (hc : tc < n) :
    Calls Try.prog 72 #[.pointer (some ⟨mp, 0, none⟩), .agg #[.int .i64 tk, .string ⟨ts.toArray⟩, .int .u64 tn, .int .i64 ta, .int .i64 tb, .int .i64 tc]] w fun e w' => e = .returned (.bool (Sough.apartK can ⟨tk, ts, tn, ta, tb, tc⟩).2) ∧ MindIn w' mp lb cb pb kb mb n st f (Sough.apartK can ⟨tk, ts, tn, ta, tb, tc⟩).1 ∧ Turned [cb] w w' := by
  unfold Sough.apartK
  simp only [Int.toNat_natCast]
  by_cases h11 : tk = 11
  · subst h11
    rw [if_pos rfl]
    exact apart_pair h ha hb
  · rw [if_neg h11]
    by_cases h10 : tk = 10
    · subst h10
      cases hx : Sough.cn can ta with
      | true => rw [if_pos ⟨rfl, rfl⟩]; exact apart_seal h ha hc hx
      | false => rw [if_neg (by simp)]; exact apart_sealNo h ha hx
    · rw [if_neg (by simp [h10])]
      exact apart_no h h11 h10
end
end Go.Proofs.Ytlfgempjjoclbaa
