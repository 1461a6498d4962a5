/- The walks of the ways in which terms are made (layer 8). (Printed by wip/tools/mkkn2.py.) -/
import Derived.Test.YtlfgempjjoclbaaLKnBox
import Derived.Sort.AtCall
namespace Go.Proofs.Ytlfgempjjoclbaa
open Go.RowKit Go.Maps Go.ChangeMaps
section
variable {w : World} {mp lb cb pb kb mb n : Nat} {st : Sough.Store} {f : Sough.Flg} {can : List Bool} {tk tb tc : Int} {tn : Nat} {ts : List UInt8}
set_option maxRecDepth 100000 in
set_option maxHeartbeats 6400000 in
theorem kem_any {ta tb : Nat} (h : MindIn w mp lb cb pb kb mb n st f can) (hbx : BoxAt w mb st n) (ha : ta < n) (hb : tb < n) (hn : n ≤ 1048577) : Calls Try.prog 90 #[.pointer (some ⟨mp, 0, none⟩), .agg #[.int .i64 tk, .string ⟨ts.toArray⟩, .int .u64 tn, .int .i64 ta, .int .i64 tb, .int .i64 tc]] w fun e w' => e = .returned (.bool (Sough.kemK st f can ta tb)) ∧ Below w.heap.size w w' := by
  have hk : Sough.boxTo st n ta tb < n := lastOf_lt st _ n (by omega)
  unfold Sough.kemK
  rw [← h.all]
  have HM := Lib.hid h
  have HM1 := Lib.hid (HM.out.later ((Below.refl _ w).alloc (Nat.le_refl _) (.cells #[.int .i64 tk, .string ⟨ts.toArray⟩, .int .u64 tn, .int .i64 ta, .int .i64 tb, .int .i64 tc] 76)))
  have HT := Lib.hid (heap_alloc_new w (.cells #[.int .i64 tk, .string ⟨ts.toArray⟩, .int .u64 tn, .int .i64 ta, .int .i64 tb, .int .i64 tc] 76))
  have HB1 := Lib.hid ((Below.refl _ w).alloc (Nat.le_refl _) (.cells #[.int .i64 tk, .string ⟨ts.toArray⟩, .int .u64 tn, .int .i64 ta, .int .i64 tb, .int .i64 tc] 76))
  obtain ⟨q, hq⟩ : ∃ q, q = Sough.boxTo st n ta tb := ⟨_, rfl⟩
  rw [← hq] at hk ⊢
  obtain ⟨x, hx⟩ : ∃ x, x = Sough.wrapK st can ta tb := ⟨_, rfl⟩
  obtain ⟨y, hy⟩ : ∃ y, y = Sough.cn can ta := ⟨_, rfl⟩
  obtain ⟨u, hu⟩ : ∃ u, u = Sough.cn can q := ⟨_, rfl⟩
  obtain ⟨d, hd⟩ : ∃ u, u = f.kem := ⟨_, rfl⟩
  rw [← hx, ← hy, ← hu, ← hd]
  have HX := Lib.hid hx; have HY := Lib.hid hy; have HU := Lib.hid hu; have HD := Lib.hid hd; have HQ := Lib.hid hq
  have HBX := Lib.hid (hbx.later ((Below.refl _ w).alloc (Nat.le_refl _) (.cells #[.int .i64 tk, .string ⟨ts.toArray⟩, .int .u64 tn, .int .i64 ta, .int .i64 tb, .int .i64 tc] 76)))
  have lk : ∀ z : Later (w.alloc (.cells #[.int .i64 tk, .string ⟨ts.toArray⟩, .int .u64 tn, .int .i64 ta, .int .i64 tb, .int .i64 tc] 76)), (Instr.lookup 113 (.map (some mb)) (.agg #[.int .i64 ta, .int .i64 tb]) false).run Try.prog z.world = .ok (.int .i64 (q : Int)) z.world := fun z => by rw [HQ.out]; exact (HBX.out.later z.below).look ⟨by omega, by omega⟩ ⟨by omega, by omega⟩
  have z3 : ∀ z : Later (w.alloc (.cells #[.int .i64 tk, .string ⟨ts.toArray⟩, .int .u64 tn, .int .i64 ta, .int .i64 tb, .int .i64 tc] 76)), z.world.cell? ⟨cb, q, none⟩ = some (.bool u) := fun z => by rw [HU.out]; exact (HM1.out.later z.below).cell hk
  have zm := fun z : Later (w.alloc (.cells #[.int .i64 tk, .string ⟨ts.toArray⟩, .int .u64 tn, .int .i64 ta, .int .i64 tb, .int .i64 tc] 76)) => (HM1.out.later z.below).mind
  have zt := fun z : Later (w.alloc (.cells #[.int .i64 tk, .string ⟨ts.toArray⟩, .int .u64 tn, .int .i64 ta, .int .i64 tb, .int .i64 tc] 76)) => cells_of6 ((z.below.block _ (lt_of_block HT.out)).trans HT.out)
  clear h hx hy hu hd hq hbx
  go_enter Try.func90, Try.ntmps90
  go_wp2_with fail
  refine wp_region_later (by kernel_rfl) (by kernel_rfl) ?_
  iterate 17 go_big_quiet_step (fail)
  refine wpQuiet_nil ?_
  rintro ⟨wq, hbq⟩
  change Exit.then _ _ _ _ wq
  have HB := Lib.hid (HB1.out.trans (hbq.mono HB1.out.size))
  have HM2 := Lib.hid (HM1.out.later hbq)
  have HT2 := Lib.hid ((hbq.block _ (lt_of_block HT.out)).trans HT.out)
  clear z3 zm zt lk hbq
  have CB : ∀ z : Later wq, Calls Try.prog 89 #[.pointer (some ⟨mp, 0, none⟩), .agg #[.int .i64 tk, .string ⟨ts.toArray⟩, .int .u64 tn, .int .i64 ta, .int .i64 tb, .int .i64 tc]] z.world fun e w' => e = .returned (.bool x) ∧ Below z.world.heap.size z.world w' := fun z => by rw [HX.out]; exact kwrap_any (HM2.out.later z.below) ha hb
  have z4 : ∀ z : Later wq, z.world.cell? ⟨cb, ta, none⟩ = some (.bool y) := fun z => by rw [HY.out]; exact (HM2.out.later z.below).cell ha
  have z7 : ∀ z : Later wq, z.world.cell? ⟨mp, 6, none⟩ = some (.bool d) := fun z => by rw [HD.out]; exact (HM2.out.later z.below).mind.2.2.2.2.2.2
  have z8 := fun z : Later wq => (HM2.out.later z.below).mind.2.1
  have zt2 := fun z : Later wq => cells_of6 ((z.below.block _ (lt_of_block HT2.out)).trans HT2.out)
  have CB := Lib.hid CB
  clear HX HY HU HD HQ
  go_wp2_with fail
  cases x
  rotate_left
  · refine wp_region_later (by kernel_rfl) (by kernel_rfl) ?_
    iterate 24 go_big_quiet_step ((go_at_call 89; exact Calls.later (CB.out _)))
    refine wpQuiet_nil ?_
    rintro ⟨wr, hbr⟩
    change Exit.then _ _ _ _ wr
    have HC := Lib.hid (HB.out.trans (hbr.mono HB.out.size))
    clear z4 z7 z8 zt2 hbr CB
    go_wp2_with fail
    go_ret
    exact ⟨by first | rfl | simp, HC.out⟩
  cases u
  · refine wp_region_later (by kernel_rfl) (by kernel_rfl) ?_
    iterate 24 go_big_quiet_step ((go_at_call 89; exact Calls.later (CB.out _)))
    refine wpQuiet_nil ?_
    rintro ⟨wr, hbr⟩
    change Exit.then _ _ _ _ wr
    have HC := Lib.hid (HB.out.trans (hbr.mono HB.out.size))
    clear z4 z7 z8 zt2 hbr CB
    go_wp2_with fail
    go_ret
    exact ⟨by first | rfl | simp, HC.out⟩
  cases d
  rotate_left
  · refine wp_region_later (by kernel_rfl) (by kernel_rfl) ?_
    iterate 24 go_big_quiet_step ((go_at_call 89; exact Calls.later (CB.out _)))
    refine wpQuiet_nil ?_
    rintro ⟨wr, hbr⟩
    change Exit.then _ _ _ _ wr
    have HC := Lib.hid (HB.out.trans (hbr.mono HB.out.size))
    clear z4 z7 z8 zt2 hbr CB
    go_wp2_with fail
    go_ret
    exact ⟨by first | rfl | simp, HC.out⟩
  cases y
  · refine wp_region_later (by kernel_rfl) (by kernel_rfl) ?_
    iterate 24 go_big_quiet_step ((go_at_call 89; exact Calls.later (CB.out _)))
    refine wpQuiet_nil ?_
    rintro ⟨wr, hbr⟩
    change Exit.then _ _ _ _ wr
    have HC := Lib.hid (HB.out.trans (hbr.mono HB.out.size))
    clear z4 z7 z8 zt2 hbr CB
    go_wp2_with fail
    go_ret
    exact ⟨by first | rfl | simp, HC.out⟩
  · refine wp_region_later (by kernel_rfl) (by kernel_rfl) ?_
    iterate 24 go_big_quiet_step ((go_at_call 89; exact Calls.later (CB.out _)))
    refine wpQuiet_nil ?_
    rintro ⟨wr, hbr⟩
    change Exit.then _ _ _ _ wr
    have HC := Lib.hid (HB.out.trans (hbr.mono HB.out.size))
    clear z4 z7 z8 zt2 hbr CB
    go_wp2_with fail
    go_ret
    exact ⟨by first | rfl | simp, HC.out⟩
end
end Go.Proofs.Ytlfgempjjoclbaa
