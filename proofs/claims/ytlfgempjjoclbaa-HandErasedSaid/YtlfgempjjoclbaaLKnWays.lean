/- The walks of the ways in which terms are made (layer 8). -/
import Derived.Test.YtlfgempjjoclbaaLKnPlain
import Derived.Test.YtlfgempjjoclbaaG2
namespace Go.Proofs.Ytlfgempjjoclbaa
open Go.RowKit Go.Maps Go.ChangeMaps
structure MindIn (w : World) (mp lb cb pb kb mb n : Nat) (st : Sough.Store) (f : Sough.Flg) (can : List Bool) : Prop where
  box : w.heap[mp]? = some (.cells #[.slice (some ⟨lb, 0, none⟩) n n, .slice (some ⟨cb, 0, none⟩) n n, .slice (some ⟨pb, 0, none⟩) n n, .slice (some ⟨kb, 0, none⟩) n n, .map (some mb), .bool f.dh, .bool f.kem] 115 (0, 0))
  cans : w.heap[cb]? = some (.cells (can.map Value.bool).toArray 4 (0, 0))
  len : can.length = n
  pub : w.heap[pb]? = some (.cells ((List.range n).map fun a => Value.int .i64 ((Sough.pubTo st n a : Nat) : Int)).toArray 3 (0, 0))
  kpub : w.heap[kb]? = some (.cells ((List.range n).map fun a => Value.int .i64 ((Sough.kpubTo st n a : Nat) : Int)).toArray 3 (0, 0))
  all : n = st.l.length + 1
section
variable {w w' : World} {mp lb cb pb kb mb n : Nat} {st : Sough.Store} {f : Sough.Flg} {can : List Bool}
theorem MindIn.later (h : MindIn w mp lb cb pb kb mb n st f can) (hb : Below w.heap.size w w') : MindIn w' mp lb cb pb kb mb n st f can :=
  have k := fun {i : Nat} {o : Obj} (hh : w.heap[i]? = some o) => (hb.block i (lt_of_block hh)).trans hh
  ⟨k h.box, k h.cans, h.len, k h.pub, k h.kpub, h.all⟩
theorem MindIn.mind (h : MindIn w mp lb cb pb kb mb n st f can) : w.cell? ⟨mp, 0, none⟩ = some (.slice (some ⟨lb, 0, none⟩) n n) ∧ w.cell? ⟨mp, 1, none⟩ = some (.slice (some ⟨cb, 0, none⟩) n n) ∧ w.cell? ⟨mp, 2, none⟩ = some (.slice (some ⟨pb, 0, none⟩) n n) ∧ w.cell? ⟨mp, 3, none⟩ = some (.slice (some ⟨kb, 0, none⟩) n n) ∧ w.cell? ⟨mp, 4, none⟩ = some (.map (some mb)) ∧ w.cell? ⟨mp, 5, none⟩ = some (.bool f.dh) ∧ w.cell? ⟨mp, 6, none⟩ = some (.bool f.kem) := by
  simp [World.cell?, h.box]
theorem MindIn.cell (h : MindIn w mp lb cb pb kb mb n st f can) {i : Nat} (hi : i < n) : w.cell? ⟨cb, i, none⟩ = some (.bool (Sough.cn can i)) := by
  have : i < can.length := by rw [h.len]; exact hi
  simp [World.cell?, h.cans, Sough.cn, this]
theorem MindIn.pubc (h : MindIn w mp lb cb pb kb mb n st f can) {i : Nat} (hi : i < n) : w.cell? ⟨pb, i, none⟩ = some (.int .i64 ((Sough.pubTo st n i : Nat) : Int)) := by
  simp [World.cell?, h.pub, hi]
theorem MindIn.kpubc (h : MindIn w mp lb cb pb kb mb n st f can) {i : Nat} (hi : i < n) : w.cell? ⟨kb, i, none⟩ = some (.int .i64 ((Sough.kpubTo st n i : Nat) : Int)) := by
  simp [World.cell?, h.kpub, hi]
end
theorem lastOf_lt (st : Sough.Store) (p : Sough.Term → Bool) : ∀ n, 0 < n → Sough.lastOf st p n < n := by
  intro n
  induction n with
  | zero => intro h; omega
  | succ n ih =>
    intro _
    unfold Sough.lastOf
    split
    · omega
    · rcases Nat.eq_zero_or_pos n with rfl | h
      · unfold Sough.lastOf; omega
      · have := ih h; omega
theorem cells_of6 {W : World} {k : Nat} {T : TypeId} {a b c d e f : Value} (h : W.heap[k]? = some (.cells #[a, b, c, d, e, f] T (0, 0))) : W.cell? ⟨k, 0, none⟩ = some a ∧ W.cell? ⟨k, 1, none⟩ = some b ∧ W.cell? ⟨k, 2, none⟩ = some c ∧ W.cell? ⟨k, 3, none⟩ = some d ∧ W.cell? ⟨k, 4, none⟩ = some e ∧ W.cell? ⟨k, 5, none⟩ = some f := by
  simp [World.cell?, h]
section
variable {w : World} {mp lb cb pb kb mb n : Nat} {st : Sough.Store} {f : Sough.Flg} {can : List Bool} {tk tb tc : Int} {tn : Nat} {ts : List UInt8}
set_option maxRecDepth 100000 in
set_option maxHeartbeats 800000 in
theorem one_any {ta : Nat} (h : MindIn w mp lb cb pb kb mb n st f can) (ha : ta < n) :
    Calls Try.prog 87 #[.pointer (some ⟨mp, 0, none⟩), .agg #[.int .i64 tk, .string ⟨ts.toArray⟩, .int .u64 tn, .int .i64 ta, .int .i64 tb, .int .i64 tc]] w fun e w' => e = .returned (.bool (Sough.cn can ta)) ∧ Below w.heap.size w w' := by
  have HM := Lib.hid h
  have HM1 := Lib.hid (HM.out.later ((Below.refl _ w).alloc (Nat.le_refl _) (.cells #[.int .i64 tk, .string ⟨ts.toArray⟩, .int .u64 tn, .int .i64 ta, .int .i64 tb, .int .i64 tc] 76)))
  have HT := Lib.hid (heap_alloc_new w (.cells #[.int .i64 tk, .string ⟨ts.toArray⟩, .int .u64 tn, .int .i64 ta, .int .i64 tb, .int .i64 tc] 76))
  obtain ⟨x, hx⟩ : ∃ x, x = Sough.cn can ta := ⟨_, rfl⟩
  rw [← hx]
  have z1 : ∀ z : Later (w.alloc (.cells #[.int .i64 tk, .string ⟨ts.toArray⟩, .int .u64 tn, .int .i64 ta, .int .i64 tb, .int .i64 tc] 76)), z.world.cell? ⟨cb, ta, none⟩ = some (.bool x) := fun z => by rw [hx]; exact (HM1.out.later z.below).cell ha
  have zm := fun z : Later (w.alloc (.cells #[.int .i64 tk, .string ⟨ts.toArray⟩, .int .u64 tn, .int .i64 ta, .int .i64 tb, .int .i64 tc] 76)) => (HM1.out.later z.below).mind
  have zt : ∀ z : Later (w.alloc (.cells #[.int .i64 tk, .string ⟨ts.toArray⟩, .int .u64 tn, .int .i64 ta, .int .i64 tb, .int .i64 tc] 76)), _ := fun z => cells_of6 ((z.below.block _ (lt_of_block HT.out)).trans HT.out)
  clear h hx
  go_enter Try.func87, Try.ntmps87
  go_wp2_with fail
  refine wp_region_later (by kernel_rfl) (by kernel_rfl) ?_
  iterate 9 go_big_quiet_step (fail)
  refine wpQuiet_nil ?_
  rintro ⟨wq, hbq⟩
  have HB := Lib.hid (((Below.refl _ w).alloc (Nat.le_refl _) (.cells #[.int .i64 tk, .string ⟨ts.toArray⟩, .int .u64 tn, .int .i64 ta, .int .i64 tb, .int .i64 tc] 76)).trans (hbq.mono (by simp)))
  change Exit.then _ _ _ _ wq
  clear z1 zm zt hbq
  go_wp2_with fail
  go_ret
  exact ⟨rfl, HB.out⟩
-- WAYS
set_option maxRecDepth 100000 in
theorem none_any {ta : Int} : Calls Try.prog 85 #[.pointer (some ⟨mp, 0, none⟩), .agg #[.int .i64 tk, .string ⟨ts.toArray⟩, .int .u64 tn, .int .i64 ta, .int .i64 tb, .int .i64 tc]] w fun e w' => e = .returned (.bool false) ∧ Below w.heap.size w w' := by
  have HB := Lib.hid ((Below.refl w.heap.size w).alloc (Nat.le_refl _) (.cells #[.int .i64 tk, .string ⟨ts.toArray⟩, .int .u64 tn, .int .i64 ta, .int .i64 tb, .int .i64 tc] 76))
  go_enter Try.func85, Try.ntmps85
  go_wp2_with fail
  go_ret
  exact ⟨rfl, HB.out⟩
set_option maxRecDepth 100000 in
theorem text_any {ta : Int} : Calls Try.prog 86 #[.pointer (some ⟨mp, 0, none⟩), .agg #[.int .i64 tk, .string ⟨ts.toArray⟩, .int .u64 tn, .int .i64 ta, .int .i64 tb, .int .i64 tc]] w fun e w' => e = .returned (.bool true) ∧ Below w.heap.size w w' := by
  have HB := Lib.hid ((Below.refl w.heap.size w).alloc (Nat.le_refl _) (.cells #[.int .i64 tk, .string ⟨ts.toArray⟩, .int .u64 tn, .int .i64 ta, .int .i64 tb, .int .i64 tc] 76))
  go_enter Try.func86, Try.ntmps86
  go_wp2_with fail
  go_ret
  exact ⟨rfl, HB.out⟩
set_option maxRecDepth 100000 in
set_option maxHeartbeats 1600000 in
theorem kboth_any {ta tb : Nat} (h : MindIn w mp lb cb pb kb mb n st f can) (ha : ta < n) (hb : tb < n) :
    Calls Try.prog 91 #[.pointer (some ⟨mp, 0, none⟩), .agg #[.int .i64 tk, .string ⟨ts.toArray⟩, .int .u64 tn, .int .i64 ta, .int .i64 tb, .int .i64 tc]] w fun e w' => e = .returned (.bool (Sough.cn can ta && Sough.cn can tb)) ∧ Below w.heap.size w w' := by
  have HM := Lib.hid h
  have HM1 := Lib.hid (HM.out.later ((Below.refl _ w).alloc (Nat.le_refl _) (.cells #[.int .i64 tk, .string ⟨ts.toArray⟩, .int .u64 tn, .int .i64 ta, .int .i64 tb, .int .i64 tc] 76)))
  have HT := Lib.hid (heap_alloc_new w (.cells #[.int .i64 tk, .string ⟨ts.toArray⟩, .int .u64 tn, .int .i64 ta, .int .i64 tb, .int .i64 tc] 76))
  have HB1 := Lib.hid ((Below.refl _ w).alloc (Nat.le_refl _) (.cells #[.int .i64 tk, .string ⟨ts.toArray⟩, .int .u64 tn, .int .i64 ta, .int .i64 tb, .int .i64 tc] 76))
  obtain ⟨x, hx⟩ : ∃ x, x = Sough.cn can ta := ⟨_, rfl⟩
  obtain ⟨y, hy⟩ : ∃ y, y = Sough.cn can tb := ⟨_, rfl⟩
  rw [← hx, ← hy]
  have z1 : ∀ z : Later (w.alloc (.cells #[.int .i64 tk, .string ⟨ts.toArray⟩, .int .u64 tn, .int .i64 ta, .int .i64 tb, .int .i64 tc] 76)), z.world.cell? ⟨cb, ta, none⟩ = some (.bool x) := fun z => by rw [hx]; exact (HM1.out.later z.below).cell ha
  have z2 : ∀ z : Later (w.alloc (.cells #[.int .i64 tk, .string ⟨ts.toArray⟩, .int .u64 tn, .int .i64 ta, .int .i64 tb, .int .i64 tc] 76)), z.world.cell? ⟨cb, tb, none⟩ = some (.bool y) := fun z => by rw [hy]; exact (HM1.out.later z.below).cell hb
  have zm := fun z : Later (w.alloc (.cells #[.int .i64 tk, .string ⟨ts.toArray⟩, .int .u64 tn, .int .i64 ta, .int .i64 tb, .int .i64 tc] 76)) => (HM1.out.later z.below).mind
  have zt := fun z : Later (w.alloc (.cells #[.int .i64 tk, .string ⟨ts.toArray⟩, .int .u64 tn, .int .i64 ta, .int .i64 tb, .int .i64 tc] 76)) => cells_of6 ((z.below.block _ (lt_of_block HT.out)).trans HT.out)
  clear h hx hy
  go_enter Try.func91, Try.ntmps91
  go_wp2_with fail
  cases x <;> cases y
  all_goals
    refine wp_region_later (by kernel_rfl) (by kernel_rfl) ?_
    iterate 19 go_big_quiet_step (fail)
    refine wpQuiet_nil ?_
    rintro ⟨wq, hbq⟩
    change Exit.then _ _ _ _ wq
    have HB := Lib.hid (HB1.out.trans (hbq.mono HB1.out.size))
    clear z1 z2 zm zt hbq
    go_wp2_with fail
    go_ret
    exact ⟨by first | rfl | simp, HB.out⟩
set_option maxRecDepth 100000 in
set_option maxHeartbeats 1600000 in
theorem kwrap_any {ta tb : Nat} (h : MindIn w mp lb cb pb kb mb n st f can) (ha : ta < n) (hb : tb < n) :
    Calls Try.prog 89 #[.pointer (some ⟨mp, 0, none⟩), .agg #[.int .i64 tk, .string ⟨ts.toArray⟩, .int .u64 tn, .int .i64 ta, .int .i64 tb, .int .i64 tc]] w fun e w' => e = .returned (.bool (Sough.wrapK st can ta tb)) ∧ Below w.heap.size w w' := by
  have hk : Sough.kpubTo st n ta < n := lastOf_lt st _ n (by omega)
  unfold Sough.wrapK
  rw [← h.all]
  have HM := Lib.hid h
  have HM1 := Lib.hid (HM.out.later ((Below.refl _ w).alloc (Nat.le_refl _) (.cells #[.int .i64 tk, .string ⟨ts.toArray⟩, .int .u64 tn, .int .i64 ta, .int .i64 tb, .int .i64 tc] 76)))
  have HT := Lib.hid (heap_alloc_new w (.cells #[.int .i64 tk, .string ⟨ts.toArray⟩, .int .u64 tn, .int .i64 ta, .int .i64 tb, .int .i64 tc] 76))
  have HB1 := Lib.hid ((Below.refl _ w).alloc (Nat.le_refl _) (.cells #[.int .i64 tk, .string ⟨ts.toArray⟩, .int .u64 tn, .int .i64 ta, .int .i64 tb, .int .i64 tc] 76))
  obtain ⟨q, hq⟩ : ∃ q, q = Sough.kpubTo st n ta := ⟨_, rfl⟩
  rw [← hq] at hk ⊢
  obtain ⟨x, hx⟩ : ∃ x, x = Sough.cn can ta := ⟨_, rfl⟩
  obtain ⟨y, hy⟩ : ∃ y, y = Sough.cn can tb := ⟨_, rfl⟩
  obtain ⟨u, hu⟩ : ∃ u, u = Sough.cn can q := ⟨_, rfl⟩
  rw [← hx, ← hy, ← hu]
  have z1 : ∀ z : Later (w.alloc (.cells #[.int .i64 tk, .string ⟨ts.toArray⟩, .int .u64 tn, .int .i64 ta, .int .i64 tb, .int .i64 tc] 76)), z.world.cell? ⟨cb, ta, none⟩ = some (.bool x) := fun z => by rw [hx]; exact (HM1.out.later z.below).cell ha
  have z2 : ∀ z : Later (w.alloc (.cells #[.int .i64 tk, .string ⟨ts.toArray⟩, .int .u64 tn, .int .i64 ta, .int .i64 tb, .int .i64 tc] 76)), z.world.cell? ⟨cb, tb, none⟩ = some (.bool y) := fun z => by rw [hy]; exact (HM1.out.later z.below).cell hb
  have z3 : ∀ z : Later (w.alloc (.cells #[.int .i64 tk, .string ⟨ts.toArray⟩, .int .u64 tn, .int .i64 ta, .int .i64 tb, .int .i64 tc] 76)), z.world.cell? ⟨cb, q, none⟩ = some (.bool u) := fun z => by rw [hu]; exact (HM1.out.later z.below).cell hk
  have z4 : ∀ z : Later (w.alloc (.cells #[.int .i64 tk, .string ⟨ts.toArray⟩, .int .u64 tn, .int .i64 ta, .int .i64 tb, .int .i64 tc] 76)), z.world.cell? ⟨kb, ta, none⟩ = some (.int .i64 (q : Int)) := fun z => by rw [hq]; exact (HM1.out.later z.below).kpubc ha
  have zm := fun z : Later (w.alloc (.cells #[.int .i64 tk, .string ⟨ts.toArray⟩, .int .u64 tn, .int .i64 ta, .int .i64 tb, .int .i64 tc] 76)) => (HM1.out.later z.below).mind
  have zt := fun z : Later (w.alloc (.cells #[.int .i64 tk, .string ⟨ts.toArray⟩, .int .u64 tn, .int .i64 ta, .int .i64 tb, .int .i64 tc] 76)) => cells_of6 ((z.below.block _ (lt_of_block HT.out)).trans HT.out)
  clear h hx hy hu hq
  go_enter Try.func89, Try.ntmps89
  go_wp2_with fail
  cases x <;> cases y <;> cases u
  all_goals
    refine wp_region_later (by kernel_rfl) (by kernel_rfl) ?_
    iterate 35 go_big_quiet_step (fail)
    refine wpQuiet_nil ?_
    rintro ⟨wq, hbq⟩
    change Exit.then _ _ _ _ wq
    have HB := Lib.hid (HB1.out.trans (hbq.mono HB1.out.size))
    clear z1 z2 z3 z4 zm zt hbq
    go_wp2_with fail
    go_ret
    exact ⟨by first | rfl | simp, HB.out⟩
set_option maxRecDepth 100000 in
set_option maxHeartbeats 1600000 in
theorem opens_any {ta : Nat} (h : MindIn w mp lb cb pb kb mb n st f can) (ha : ta < n) : Calls Try.prog 97 #[.pointer (some ⟨mp, 0, none⟩), .int .i64 ta] w fun e w' => e = .returned (.bool (Sough.openK st can ta)) ∧ Below w.heap.size w w' := by
  have hk : Sough.pubTo st n ta < n := lastOf_lt st _ n (by omega)
  unfold Sough.openK
  rw [← h.all]
  have HM1 := Lib.hid h
  have HB1 := Lib.hid (Below.refl w.heap.size w)
  obtain ⟨q, hq⟩ : ∃ q, q = Sough.pubTo st n ta := ⟨_, rfl⟩
  rw [← hq] at hk ⊢
  obtain ⟨x, hx⟩ : ∃ x, x = Sough.cn can ta := ⟨_, rfl⟩
  obtain ⟨u, hu⟩ : ∃ u, u = Sough.cn can q := ⟨_, rfl⟩
  rw [← hx, ← hu]
  have z1 : ∀ z : Later w, z.world.cell? ⟨cb, ta, none⟩ = some (.bool x) := fun z => by rw [hx]; exact (HM1.out.later z.below).cell ha
  have z3 : ∀ z : Later w, z.world.cell? ⟨cb, q, none⟩ = some (.bool u) := fun z => by rw [hu]; exact (HM1.out.later z.below).cell hk
  have z4 : ∀ z : Later w, z.world.cell? ⟨pb, ta, none⟩ = some (.int .i64 (q : Int)) := fun z => by rw [hq]; exact (HM1.out.later z.below).pubc ha
  have zm := fun z : Later w => (HM1.out.later z.below).mind
  clear h hx hu hq
  go_enter Try.func97, Try.ntmps97
  go_wp2_with fail
  cases x <;> cases u
  all_goals
    refine wp_region_later (by kernel_rfl) (by kernel_rfl) ?_
    iterate 23 go_big_quiet_step (fail)
    refine wpQuiet_nil ?_
    rintro ⟨wq, hbq⟩
    change Exit.then _ _ _ _ wq
    have HB := Lib.hid (HB1.out.trans (hbq.mono HB1.out.size))
    clear z1 z3 z4 zm hbq
    go_wp2_with fail
    go_ret
    exact ⟨by first | rfl | simp, HB.out⟩
set_option maxRecDepth 100000 in
set_option maxHeartbeats 1600000 in
theorem kseal_any {ta tb tc : Nat} (h : MindIn w mp lb cb pb kb mb n st f can) (ha : ta < n) (hb : tb < n) (hc : tc < n) :
    Calls Try.prog 92 #[.pointer (some ⟨mp, 0, none⟩), .agg #[.int .i64 tk, .string ⟨ts.toArray⟩, .int .u64 tn, .int .i64 ta, .int .i64 tb, .int .i64 tc]] w fun e w' => e = .returned (.bool (Sough.cn can ta && Sough.cn can tb && Sough.cn can tc)) ∧ Below w.heap.size w w' := by
  have HM := Lib.hid h
  have HM1 := Lib.hid (HM.out.later ((Below.refl _ w).alloc (Nat.le_refl _) (.cells #[.int .i64 tk, .string ⟨ts.toArray⟩, .int .u64 tn, .int .i64 ta, .int .i64 tb, .int .i64 tc] 76)))
  have HT := Lib.hid (heap_alloc_new w (.cells #[.int .i64 tk, .string ⟨ts.toArray⟩, .int .u64 tn, .int .i64 ta, .int .i64 tb, .int .i64 tc] 76))
  have HB1 := Lib.hid ((Below.refl _ w).alloc (Nat.le_refl _) (.cells #[.int .i64 tk, .string ⟨ts.toArray⟩, .int .u64 tn, .int .i64 ta, .int .i64 tb, .int .i64 tc] 76))
  obtain ⟨x, hx⟩ : ∃ x, x = (Sough.cn can ta && Sough.cn can tb) := ⟨_, rfl⟩
  obtain ⟨y, hy⟩ : ∃ y, y = Sough.cn can tc := ⟨_, rfl⟩
  rw [← hx, ← hy]
  have z2 : ∀ z : Later (w.alloc (.cells #[.int .i64 tk, .string ⟨ts.toArray⟩, .int .u64 tn, .int .i64 ta, .int .i64 tb, .int .i64 tc] 76)), z.world.cell? ⟨cb, tc, none⟩ = some (.bool y) := fun z => by rw [hy]; exact (HM1.out.later z.below).cell hc
  have zm := fun z : Later (w.alloc (.cells #[.int .i64 tk, .string ⟨ts.toArray⟩, .int .u64 tn, .int .i64 ta, .int .i64 tb, .int .i64 tc] 76)) => (HM1.out.later z.below).mind
  have zt := fun z : Later (w.alloc (.cells #[.int .i64 tk, .string ⟨ts.toArray⟩, .int .u64 tn, .int .i64 ta, .int .i64 tb, .int .i64 tc] 76)) => cells_of6 ((z.below.block _ (lt_of_block HT.out)).trans HT.out)
  have CB : ∀ z : Later (w.alloc (.cells #[.int .i64 tk, .string ⟨ts.toArray⟩, .int .u64 tn, .int .i64 ta, .int .i64 tb, .int .i64 tc] 76)), Calls Try.prog 91 #[.pointer (some ⟨mp, 0, none⟩), .agg #[.int .i64 tk, .string ⟨ts.toArray⟩, .int .u64 tn, .int .i64 ta, .int .i64 tb, .int .i64 tc]] z.world fun e w' => e = .returned (.bool x) ∧ Below z.world.heap.size z.world w' := fun z => by rw [hx]; exact kboth_any (HM1.out.later z.below) ha hb
  clear h hx hy
  go_enter Try.func92, Try.ntmps92
  go_wp2_with fail
  cases x <;> cases y
  all_goals
    refine wp_region_later (by kernel_rfl) (by kernel_rfl) ?_
    iterate 14 go_big_quiet_step ((go_at_call 91; exact Calls.later (CB _)))
    refine wpQuiet_nil ?_
    rintro ⟨wq, hbq⟩
    change Exit.then _ _ _ _ wq
    have HB := Lib.hid (HB1.out.trans (hbq.mono HB1.out.size))
    clear z2 zm zt hbq CB
    go_wp2_with fail
    go_ret
    exact ⟨by first | rfl | simp, HB.out⟩
end
end Go.Proofs.Ytlfgempjjoclbaa
