/- The walks of the ways in which terms are made (layer 8). (Printed by wip/tools/mkkn2.py.) -/
import Derived.Test.YtlfgempjjoclbaaLKnWays
import Derived.Sort.AtCall
namespace Go.Proofs.Ytlfgempjjoclbaa
open Go.RowKit Go.Maps Go.ChangeMaps
section
variable {w : World} {mp lb cb pb kb mb n : Nat} {st : Sough.Store} {f : Sough.Flg} {can : List Bool} {tk tb tc : Int} {tn : Nat} {ts : List UInt8}
set_option maxRecDepth 100000 in
set_option maxHeartbeats 6400000 in
theorem share_00 {ta tb : Nat} (h : MindIn w mp lb cb pb kb mb n st f can) (hx : false = Sough.cn can ta) (hy : false = Sough.cn can tb) (ha : ta < n) (hb : tb < n) : Calls Try.prog 88 #[.pointer (some ⟨mp, 0, none⟩), .agg #[.int .i64 tk, .string ⟨ts.toArray⟩, .int .u64 tn, .int .i64 ta, .int .i64 tb, .int .i64 tc]] w fun e w' => e = .returned (.bool (Sough.shareK st f can ta tb)) ∧ Below w.heap.size w w' := by
  have hka : Sough.pubTo st n ta < n := lastOf_lt st _ n (by omega)
  have hkb : Sough.pubTo st n tb < n := lastOf_lt st _ n (by omega)
  unfold Sough.shareK
  rw [← h.all]
  have HM := Lib.hid h
  have HM1 := Lib.hid (HM.out.later ((Below.refl _ w).alloc (Nat.le_refl _) (.cells #[.int .i64 tk, .string ⟨ts.toArray⟩, .int .u64 tn, .int .i64 ta, .int .i64 tb, .int .i64 tc] 76)))
  have HT := Lib.hid (heap_alloc_new w (.cells #[.int .i64 tk, .string ⟨ts.toArray⟩, .int .u64 tn, .int .i64 ta, .int .i64 tb, .int .i64 tc] 76))
  have HB1 := Lib.hid ((Below.refl _ w).alloc (Nat.le_refl _) (.cells #[.int .i64 tk, .string ⟨ts.toArray⟩, .int .u64 tn, .int .i64 ta, .int .i64 tb, .int .i64 tc] 76))
  obtain ⟨qa, hqa⟩ : ∃ q, q = Sough.pubTo st n ta := ⟨_, rfl⟩
  obtain ⟨qb, hqb⟩ : ∃ q, q = Sough.pubTo st n tb := ⟨_, rfl⟩
  rw [← hqa] at hka ⊢
  rw [← hqb] at hkb ⊢
  obtain ⟨oa, hoa⟩ : ∃ u, u = Sough.openK st can ta := ⟨_, rfl⟩
  obtain ⟨ob, hob⟩ : ∃ u, u = Sough.openK st can tb := ⟨_, rfl⟩
  obtain ⟨u, hu⟩ : ∃ u, u = Sough.cn can qa := ⟨_, rfl⟩
  obtain ⟨v, hv⟩ : ∃ u, u = Sough.cn can qb := ⟨_, rfl⟩
  obtain ⟨d, hd⟩ : ∃ u, u = f.dh := ⟨_, rfl⟩
  rw [← hx, ← hy, ← hoa, ← hob, ← hu, ← hv, ← hd]
  have HX := Lib.hid hx; have HY := Lib.hid hy; have HU := Lib.hid hu; have HV := Lib.hid hv; have HD := Lib.hid hd; have HQA := Lib.hid hqa; have HQB := Lib.hid hqb
  have z1 : ∀ z : Later (w.alloc (.cells #[.int .i64 tk, .string ⟨ts.toArray⟩, .int .u64 tn, .int .i64 ta, .int .i64 tb, .int .i64 tc] 76)), z.world.cell? ⟨cb, ta, none⟩ = some (.bool false) := fun z => by rw [HX.out]; exact (HM1.out.later z.below).cell ha
  have z2 : ∀ z : Later (w.alloc (.cells #[.int .i64 tk, .string ⟨ts.toArray⟩, .int .u64 tn, .int .i64 ta, .int .i64 tb, .int .i64 tc] 76)), z.world.cell? ⟨cb, tb, none⟩ = some (.bool false) := fun z => by rw [HY.out]; exact (HM1.out.later z.below).cell hb
  have zm := fun z : Later (w.alloc (.cells #[.int .i64 tk, .string ⟨ts.toArray⟩, .int .u64 tn, .int .i64 ta, .int .i64 tb, .int .i64 tc] 76)) => (HM1.out.later z.below).mind
  have zt := fun z : Later (w.alloc (.cells #[.int .i64 tk, .string ⟨ts.toArray⟩, .int .u64 tn, .int .i64 ta, .int .i64 tb, .int .i64 tc] 76)) => cells_of6 ((z.below.block _ (lt_of_block HT.out)).trans HT.out)
  have CA : ∀ z : Later (w.alloc (.cells #[.int .i64 tk, .string ⟨ts.toArray⟩, .int .u64 tn, .int .i64 ta, .int .i64 tb, .int .i64 tc] 76)), Calls Try.prog 97 #[.pointer (some ⟨mp, 0, none⟩), .int .i64 ta] z.world fun e w' => e = .returned (.bool oa) ∧ Below z.world.heap.size z.world w' := fun z => by rw [hoa]; exact opens_any (HM1.out.later z.below) ha
  have CB : ∀ z : Later (w.alloc (.cells #[.int .i64 tk, .string ⟨ts.toArray⟩, .int .u64 tn, .int .i64 ta, .int .i64 tb, .int .i64 tc] 76)), Calls Try.prog 97 #[.pointer (some ⟨mp, 0, none⟩), .int .i64 tb] z.world fun e w' => e = .returned (.bool ob) ∧ Below z.world.heap.size z.world w' := fun z => by rw [hob]; exact opens_any (HM1.out.later z.below) hb
  have CA := Lib.hid CA; have CB := Lib.hid CB
  clear h hx hy hoa hob hu hv hd hqa hqb
  go_enter Try.func88, Try.ntmps88
  go_wp2_with fail
  refine wp_region_later (by kernel_rfl) (by kernel_rfl) ?_
  iterate 30 go_big_quiet_step ((first | (go_at_call_has 97 tb; exact Calls.later (CB.out _)) | (go_at_call_has 97 ta; exact Calls.later (CA.out _))))
  refine wpQuiet_nil ?_
  rintro ⟨wq, hbq⟩
  change Exit.then _ _ _ _ wq
  have HB := Lib.hid (HB1.out.trans (hbq.mono HB1.out.size))
  clear z1 z2 zm zt CA CB
  have HM2 := Lib.hid (HM1.out.later hbq)
  have HT2 := Lib.hid ((hbq.block _ (lt_of_block HT.out)).trans HT.out)
  clear hbq
  have z3 : ∀ z : Later wq, z.world.cell? ⟨cb, qa, none⟩ = some (.bool u) := fun z => by rw [HU.out]; exact (HM2.out.later z.below).cell hka
  have z4 : ∀ z : Later wq, z.world.cell? ⟨cb, qb, none⟩ = some (.bool v) := fun z => by rw [HV.out]; exact (HM2.out.later z.below).cell hkb
  have z5 : ∀ z : Later wq, z.world.cell? ⟨pb, ta, none⟩ = some (.int .i64 (qa : Int)) := fun z => by rw [HQA.out]; exact (HM2.out.later z.below).pubc ha
  have z6 : ∀ z : Later wq, z.world.cell? ⟨pb, tb, none⟩ = some (.int .i64 (qb : Int)) := fun z => by rw [HQB.out]; exact (HM2.out.later z.below).pubc hb
  have z7 : ∀ z : Later wq, z.world.cell? ⟨mp, 5, none⟩ = some (.bool d) := fun z => by rw [HD.out]; exact (HM2.out.later z.below).mind.2.2.2.2.2.1
  have z8 := fun z : Later wq => (HM2.out.later z.below).mind.2.1
  have z9 := fun z : Later wq => (HM2.out.later z.below).mind.2.2.1
  have zt2 := fun z : Later wq => cells_of6 ((z.below.block _ (lt_of_block HT2.out)).trans HT2.out)
  clear HX HY HU HV HD HQA HQB
  go_wp2_with fail
  cases d
  · refine wp_region_later (by kernel_rfl) (by kernel_rfl) ?_
    iterate 38 go_big_quiet_step (fail)
    refine wpQuiet_nil ?_
    rintro ⟨wr, hbr⟩
    change Exit.then _ _ _ _ wr
    have HC := Lib.hid (HB.out.trans (hbr.mono HB.out.size))
    clear z3 z4 z5 z6 z7 z8 z9 zt2 hbr
    go_wp2_with fail
    go_ret
    exact ⟨by first | rfl | simp, HC.out⟩
  cases u
  · refine wp_region_later (by kernel_rfl) (by kernel_rfl) ?_
    iterate 38 go_big_quiet_step (fail)
    refine wpQuiet_nil ?_
    rintro ⟨wr, hbr⟩
    change Exit.then _ _ _ _ wr
    have HC := Lib.hid (HB.out.trans (hbr.mono HB.out.size))
    clear z3 z4 z5 z6 z7 z8 z9 zt2 hbr
    go_wp2_with fail
    go_ret
    exact ⟨by first | rfl | simp, HC.out⟩
  cases v
  · refine wp_region_later (by kernel_rfl) (by kernel_rfl) ?_
    iterate 38 go_big_quiet_step (fail)
    refine wpQuiet_nil ?_
    rintro ⟨wr, hbr⟩
    change Exit.then _ _ _ _ wr
    have HC := Lib.hid (HB.out.trans (hbr.mono HB.out.size))
    clear z3 z4 z5 z6 z7 z8 z9 zt2 hbr
    go_wp2_with fail
    go_ret
    exact ⟨by first | rfl | simp, HC.out⟩
  · refine wp_region_later (by kernel_rfl) (by kernel_rfl) ?_
    iterate 38 go_big_quiet_step (fail)
    refine wpQuiet_nil ?_
    rintro ⟨wr, hbr⟩
    change Exit.then _ _ _ _ wr
    have HC := Lib.hid (HB.out.trans (hbr.mono HB.out.size))
    clear z3 z4 z5 z6 z7 z8 z9 zt2 hbr
    go_wp2_with fail
    go_ret
    exact ⟨by first | rfl | simp, HC.out⟩
end
end Go.Proofs.Ytlfgempjjoclbaa
