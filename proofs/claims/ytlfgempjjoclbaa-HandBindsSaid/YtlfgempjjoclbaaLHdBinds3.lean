/- The walk of HandBinds, case 3. (Printed by wip/tools/mkbinds.py.) -/
import Derived.Test.YtlfgempjjoclbaaLHdBindsBase
namespace Go.Proofs.Ytlfgempjjoclbaa
open Go.RowKit Go.Maps Go.ChangeMaps
set_option maxRecDepth 1000000 in
theorem bd_3 : ∀ k < 74, Sough.bdP 3 (k + 1) := by decide +kernel
set_option maxRecDepth 100000 in
set_option maxHeartbeats 6400000 in
theorem binds_3 {a n kk : Nat} (ha : (a : Int) % 9 = 3) (hk : (1 : Int) + (n : Int) % 74 = (kk : Int)) (ha2 : a < 256) (hn2 : n < 256) (W : World) :
    Calls Try.prog 3 #[.int .u8 a, .int .u8 n] W fun e w' => e = .returned (.bool true) ∧ Below W.heap.size W w' := by
  have HKK := Lib.hid (show 1 ≤ kk ∧ kk ≤ 74 by omega)
  go_enter Try.func3, Try.ntmps3
  go_wp2_with fail
  refine (two_any _).mono ?_
  rintro e w1 ⟨p, rfl, g⟩
  have F1 := Lib.hid g
  have F2 := Lib.hid (F1.out.alloc (.cells #[.int .i64 1, .int .i64 2, .int .i64 3, .int .i64 4] 25))
  try simp only [World.size_alloc, size_setCell] at F2
  have F3 := Lib.hid (F2.out.alloc (.cells #[.int .i64 17, .int .i64 18, .int .i64 5, .int .i64 6, .int .i64 15, .int .i64 16, .int .i64 5, .int .i64 6] 29))
  try simp only [World.size_alloc, size_setCell] at F3
  clear g
  obtain ⟨s1, m1, q1, e1, h1⟩ : ∃ s1 m1 q1 e1, Sough.bd1 = (s1, m1, q1, e1) := ⟨_, _, _, _, rfl⟩
  have H1 := Lib.hid h1
  clear h1
  have HC := (begin_at (me := Sough.me0) (pr := Sough.peer0) (m := Sough.reqM 7 [3, 1] 0) (stamp := 5) (d0 := 7) (d1 := 8) (d2 := 9) F3.out (Sough.reqM_wf (by decide) ⟨by decide, by decide⟩ (by decide)) (by decide) ⟨⟨by decide, by decide⟩, ⟨by decide, by decide⟩⟩ ⟨⟨by decide, by decide⟩, ⟨by decide, by decide⟩, ⟨by decide, by decide⟩, ⟨by decide, by decide⟩⟩ ⟨⟨by decide, by decide⟩, ⟨by decide, by decide⟩, ⟨by decide, by decide⟩⟩ (by have h := H1.out; unfold Sough.bd1 at h; exact h) : (Calls Try.prog 12 #[.pointer (some ⟨p, 0, none⟩), .agg #[.int .i64 1, .int .i64 2], .agg #[.int .i64 17, .int .i64 18, .int .i64 5, .int .i64 6], .agg #[.int .i64 0, .int .u64 7, .int .u64 0, .string ⟨#[3, 1]⟩, .int .i64 0, .int .i64 0, .int .i64 0, .int .i64 0, .int .i64 0, .int .i64 0, .int .i64 0, .int .u64 0, .int .u64 0], .int .u64 5, .agg #[.int .i64 7, .int .i64 8, .int .i64 9]] _ _) ∧ m1.Wf ∧ q1.Wf)
  obtain ⟨HC, wm1, wq1⟩ := HC
  have WM1 := Lib.hid wm1
  have WQ1 := Lib.hid wq1
  clear wm1 wq1
  have HC := Lib.hid HC
  have r0 := F1.out.mem.rules; simp only [AllCells, CellsAt, Nat.zero_add, Nat.reduceAdd, talkC] at r0
  have r1 := F2.out.mem.rules; simp only [AllCells, CellsAt, Nat.zero_add, Nat.reduceAdd, talkC] at r1
  have r2 := F3.out.mem.rules; simp only [AllCells, CellsAt, Nat.zero_add, Nat.reduceAdd, talkC] at r2
  go_wp2_with fail
  clear r0 r1 r2
  refine HC.out.mono ?_
  rintro e w2 ⟨rfl, g⟩
  clear HC
  clear F1 F2
  have F4 := Lib.hid g
  have F5 := Lib.hid (F4.out.alloc (.cells #[.int .i64 (m1.v 0), .int .u64 (m1.v 1), .int .u64 (m1.v 2), .string ⟨m1.offer.toArray⟩, .int .i64 (m1.v 4), .int .i64 (m1.v 5), .int .i64 (m1.v 6), .int .i64 (m1.v 7), .int .i64 (m1.v 8), .int .i64 (m1.v 9), .int .i64 (m1.v 10), .int .u64 (m1.v 11), .int .u64 (m1.v 12)] 34))
  try simp only [World.size_alloc, size_setCell] at F5
  have F6 := Lib.hid (F5.out.alloc (.cells #[.int .i64 q1.y.ck, .int .i64 q1.y.k, .int .i64 q1.y.h, .int .u64 q1.y.n, .int .i64 q1.e, .int .i64 q1.ek, .string ⟨q1.offer.toArray⟩] 38))
  try simp only [World.size_alloc, size_setCell] at F6
  clear g
  clear F3
  have F7 := Lib.hid (F6.out.alloc (.cells #[.int .i64 15, .int .i64 16, .int .i64 5, .int .i64 6] 28))
  try simp only [World.size_alloc, size_setCell] at F7
  obtain ⟨s2, o2, e2, h2⟩ : ∃ s2 o2 e2, Sough.bd2 = (s2, o2, e2) := ⟨_, _, _, rfl⟩
  have H2 := Lib.hid h2
  clear h2
  have HC := (open_at (me := Sough.me1) (peers := [Sough.peer1]) (text := [3, 2, 1]) (m := m1) F7.out ⟨⟨by decide, by decide⟩, ⟨by decide, by decide⟩⟩ (.inr ⟨_, 1, _, rfl, Nat.le_refl _, by omega, List.mem_cons_self ..⟩) (by intro q hq; simp only [List.mem_cons, List.not_mem_nil, or_false] at hq; subst hq; exact ⟨⟨by decide, by decide⟩, ⟨by decide, by decide⟩⟩) (by decide) WM1.out (by have h := H2.out; unfold Sough.bd2 at h; simp only [H1.out] at h; exact h) : (Calls Try.prog 13 #[.pointer (some ⟨p, 0, none⟩), .agg #[.int .i64 3, .int .i64 4], .slice (some ⟨w2.heap.size + 1 + 1, 0, none⟩) 1 1, .string ⟨#[3, 2, 1]⟩, .agg #[.int .i64 (m1.v 0), .int .u64 (m1.v 1), .int .u64 (m1.v 2), .string ⟨m1.offer.toArray⟩, .int .i64 (m1.v 4), .int .i64 (m1.v 5), .int .i64 (m1.v 6), .int .i64 (m1.v 7), .int .i64 (m1.v 8), .int .i64 (m1.v 9), .int .i64 (m1.v 10), .int .u64 (m1.v 11), .int .u64 (m1.v 12)]] _ _) ∧ o2.Wf)
  obtain ⟨HC, wo2⟩ := HC
  have WO2 := Lib.hid wo2
  clear wo2
  have HC := Lib.hid HC
  have r0 := F4.out.mem.rules; simp only [AllCells, CellsAt, Nat.zero_add, Nat.reduceAdd, talkC] at r0
  have r1 := F5.out.mem.rules; simp only [AllCells, CellsAt, Nat.zero_add, Nat.reduceAdd, talkC] at r1
  have r2 := F6.out.mem.rules; simp only [AllCells, CellsAt, Nat.zero_add, Nat.reduceAdd, talkC] at r2
  have r3 := F7.out.mem.rules; simp only [AllCells, CellsAt, Nat.zero_add, Nat.reduceAdd, talkC] at r3
  go_wp2_with fail
  clear r0 r1 r2 r3
  refine HC.out.mono ?_
  rintro e w3 ⟨rfl, g⟩
  clear HC
  clear F4 F5 F6
  have F8 := Lib.hid g
  have F9 := Lib.hid (F8.out.alloc (.cells #[.int .i64 o2.y.ck, .int .i64 o2.y.k, .int .i64 o2.y.h, .int .u64 o2.y.n, .int .i64 o2.peer, .int .i64 o2.version, .int .u64 o2.stamp, .int .i64 o2.e, .int .i64 o2.ek, .int .i64 o2.pub] 44))
  try simp only [World.size_alloc, size_setCell] at F9
  clear g
  clear F7
  obtain ⟨s3, y3, u3, e3, h3⟩ : ∃ s3 y3 u3 e3, Sough.bd3 = (s3, y3, u3, e3) := ⟨_, _, _, _, rfl⟩
  have H3 := Lib.hid h3
  clear h3
  have HC := (answer_at (o := o2) (frm := 9) (to := 7) (d0 := 10) (d1 := 11) F9.out WO2.out ⟨by decide, by decide⟩ ⟨⟨by decide, by decide⟩, ⟨by decide, by decide⟩⟩ (by have h := H3.out; unfold Sough.bd3 at h; simp only [H1.out, H2.out] at h; exact h) : (Calls Try.prog 14 #[.pointer (some ⟨p, 0, none⟩), .agg #[.int .i64 o2.y.ck, .int .i64 o2.y.k, .int .i64 o2.y.h, .int .u64 o2.y.n, .int .i64 o2.peer, .int .i64 o2.version, .int .u64 o2.stamp, .int .i64 o2.e, .int .i64 o2.ek, .int .i64 o2.pub], .int .u64 9, .int .u64 7, .agg #[.int .i64 10, .int .i64 11]] _ _) ∧ y3.Wf ∧ u3.Wf)
  obtain ⟨HC, wy3, wu3⟩ := HC
  have WY3 := Lib.hid wy3
  have WU3 := Lib.hid wu3
  clear wy3 wu3
  have HC := Lib.hid HC
  have r0 := F8.out.mem.rules; simp only [AllCells, CellsAt, Nat.zero_add, Nat.reduceAdd, talkC] at r0
  have r1 := F9.out.mem.rules; simp only [AllCells, CellsAt, Nat.zero_add, Nat.reduceAdd, talkC] at r1
  go_wp2_with fail
  clear r0 r1
  refine HC.out.mono ?_
  rintro e w4 ⟨rfl, g⟩
  clear HC
  clear F8
  have F10 := Lib.hid g
  have F11 := Lib.hid (F10.out.alloc (.cells #[.int .i64 (y3.v 0), .int .u64 (y3.v 1), .int .u64 (y3.v 2), .string ⟨y3.offer.toArray⟩, .int .i64 (y3.v 4), .int .i64 (y3.v 5), .int .i64 (y3.v 6), .int .i64 (y3.v 7), .int .i64 (y3.v 8), .int .i64 (y3.v 9), .int .i64 (y3.v 10), .int .u64 (y3.v 11), .int .u64 (y3.v 12)] 34))
  try simp only [World.size_alloc, size_setCell] at F11
  have F12 := Lib.hid (F11.out.alloc (.cells #[.int .i64 u3.h, .int .i64 u3.send, .int .i64 u3.recv, .int .i64 u3.version] 49))
  try simp only [World.size_alloc, size_setCell] at F12
  clear g
  clear F9
  have hfx := Sough.bd_all
  simp only [H1.out, H2.out, H3.out] at hfx
  obtain ⟨f1, f2, f3, f4⟩ := hfx
  subst f1 f2 f3
  have HLN := Lib.hid f4
  clear f4
  have r0 := F10.out.mem.rules; simp only [AllCells, CellsAt, Nat.zero_add, Nat.reduceAdd, talkC] at r0
  have r1 := F11.out.mem.rules; simp only [AllCells, CellsAt, Nat.zero_add, Nat.reduceAdd, talkC] at r1
  have r2 := F12.out.mem.rules; simp only [AllCells, CellsAt, Nat.zero_add, Nat.reduceAdd, talkC] at r2
  go_wp2_with fail
  clear r0 r1 r2
  have HA := Lib.hid (F12.out.get 5 rfl); have HB := Lib.hid (F12.out.get 1 rfl)
  refine wp_facts (n := 174) [] [.val fun _ => .int .u8 (n : Int),
    .val fun _ => .int .i64 (n : Int),
    .val fun _ => .pointer (some ⟨p, 0, none⟩),
    .val fun _ => .int .i64 74,
    .val fun _ => .int .i64 ((n : Int) % 74),
    .val fun _ => .int .i64 (kk : Int),
    .val fun _ => .agg #[.int .i64 (m1.v 0), .int .u64 (m1.v 1), .int .u64 (m1.v 2), .string ⟨m1.offer.toArray⟩, .int .i64 (m1.v 4), .int .i64 (m1.v 5), .int .i64 (m1.v 6), .int .i64 (m1.v 7), .int .i64 (m1.v 8), .int .i64 (m1.v 9), .int .i64 (m1.v 10), .int .u64 (m1.v 11), .int .u64 (m1.v 12)],
    .val fun _ => .agg #[.int .i64 (y3.v 0), .int .u64 (y3.v 1), .int .u64 (y3.v 2), .string ⟨y3.offer.toArray⟩, .int .i64 (y3.v 4), .int .i64 (y3.v 5), .int .i64 (y3.v 6), .int .i64 (y3.v 7), .int .i64 (y3.v 8), .int .i64 (y3.v 9), .int .i64 (y3.v 10), .int .u64 (y3.v 11), .int .u64 (y3.v 12)],
    .blk (fun g => .pointer (some ⟨g, 0, none⟩)) 34 (fun _ => #[.int .i64 0, .int .u64 0, .int .u64 0, .string ⟨#[]⟩, .int .i64 0, .int .i64 0, .int .i64 0, .int .i64 0, .int .i64 0, .int .i64 0, .int .i64 0, .int .u64 0, .int .u64 0]) 11 (fun _ => #[.int .i64 (m1.v 0), .int .u64 (m1.v 1), .int .u64 (m1.v 2), .string ⟨m1.offer.toArray⟩, .int .i64 (m1.v 4), .int .i64 (m1.v 5), .int .i64 (m1.v 6), .int .i64 (m1.v 7), .int .i64 (m1.v 8), .int .i64 (m1.v 9), .int .i64 (m1.v 10), .int .u64 (m1.v 11), .int .u64 (m1.v 12)]),
    .blk (fun g => .pointer (some ⟨g, 0, none⟩)) 34 (fun _ => #[.int .i64 0, .int .u64 0, .int .u64 0, .string ⟨#[]⟩, .int .i64 0, .int .i64 0, .int .i64 0, .int .i64 0, .int .i64 0, .int .i64 0, .int .i64 0, .int .u64 0, .int .u64 0]) 12 (fun _ => #[.int .i64 (y3.v 0), .int .u64 (y3.v 1), .int .u64 (y3.v 2), .string ⟨y3.offer.toArray⟩, .int .i64 (y3.v 4), .int .i64 (y3.v 5), .int .i64 (y3.v 6), .int .i64 (y3.v 7), .int .i64 (y3.v 8), .int .i64 (y3.v 9), .int .i64 (y3.v 10), .int .u64 (y3.v 11), .int .u64 (y3.v 12)]),
    .val fun _ => .int .i64 (kk : Int),
    .sto 8,
    .sto 9] (fun _ => True) (fun _ _ _ _ => True) (by kernel_rfl) (by kernel_rfl) rfl rfl (by simp) trivial (fun _ _ _ _ => trivial) (fun _ _ _ _ _ _ _ => trivial) ?_ ?_
  · refine ⟨?_, ?_, ?_, ?_, ?_, ?_, ?_, ?_, ?_, ?_, ?_, ?_, ?_, trivial⟩
    · refine ⟨fun _ _ _ => rfl, ?_⟩
      intro v x hx hk
      refine .inl ⟨wanted_none rfl, ?_⟩
      simp only [putAll, Act.put, List.setIfInBounds_toArray, List.set_cons_succ, List.set_cons_zero]
      refine val_of_quiet (ops := #[]) rfl ?_
      go_big_quiet_step (fail)
      exact wpQuiet_nil (by first | rfl | simp)
    · refine ⟨fun _ _ _ => rfl, ?_⟩
      intro v x hx hk
      have e0 : v 0 = .int .u8 (n : Int) := hk 0 (by decide)
      refine .inl ⟨wanted_none rfl, ?_⟩
      simp only [putAll, Act.put, List.setIfInBounds_toArray, List.set_cons_succ, List.set_cons_zero, e0]
      refine val_of_quiet (ops := #[]) rfl ?_
      go_big_quiet_step (fail)
      exact wpQuiet_nil (by first | rfl | simp)
    · refine ⟨fun _ _ _ => rfl, ?_⟩
      intro v x hx hk
      refine .inl ⟨wanted_none rfl, ?_⟩
      simp only [putAll, Act.put, List.setIfInBounds_toArray, List.set_cons_succ, List.set_cons_zero]
      refine val_of_quiet (ops := #[]) rfl ?_
      go_big_quiet_step (fail)
      exact wpQuiet_nil (by first | rfl | simp)
    · refine ⟨fun _ _ _ => rfl, ?_⟩
      intro v x hx hk
      have e2 : v 2 = .pointer (some ⟨p, 0, none⟩) := hk 2 (by decide)
      have CL : ∀ z : Later x, Calls Try.prog 15 #[.pointer (some ⟨p, 0, none⟩)] z.world fun e w' => e = .returned (.int .i64 74) ∧ z.world = w' := fun z => by
        have hf := (F12.out.later (hx.toBelow (by simp) (Nat.le_refl _))).later z.below
        obtain ⟨S1, h1, _⟩ := hf.store
        have := len_any _ h1 (Store.Ok.small hf.ok)
        rw [HLN.out] at this
        exact this
      refine .inl ⟨wanted_none rfl, ?_⟩
      simp only [putAll, Act.put, List.setIfInBounds_toArray, List.set_cons_succ, List.set_cons_zero, e2]
      refine val_of_quiet (ops := #[]) rfl ?_
      go_big_quiet_step ((go_at_call 15; exact Calls.later_same (CL _)))
      exact wpQuiet_nil (by first | rfl | simp)
    · refine ⟨fun _ _ _ => rfl, ?_⟩
      intro v x hx hk
      have e1 : v 1 = .int .i64 (n : Int) := hk 1 (by decide)
      have e3 : v 3 = .int .i64 74 := hk 3 (by decide)
      refine .inl ⟨wanted_none rfl, ?_⟩
      simp only [putAll, Act.put, List.setIfInBounds_toArray, List.set_cons_succ, List.set_cons_zero, e1, e3]
      refine val_of_quiet (ops := #[]) rfl ?_
      go_big_quiet_step (fail)
      exact wpQuiet_nil (by first | rfl | simp)
    · refine ⟨fun _ _ _ => rfl, ?_⟩
      intro v x hx hk
      have e4 : v 4 = .int .i64 ((n : Int) % 74) := hk 4 (by decide)
      refine .inl ⟨wanted_none rfl, ?_⟩
      simp only [putAll, Act.put, List.setIfInBounds_toArray, List.set_cons_succ, List.set_cons_zero, e4]
      refine val_of_quiet (ops := #[]) rfl ?_
      go_big_quiet_step (fail)
      exact wpQuiet_nil (by first | rfl | simp)
    · refine ⟨fun _ _ _ => rfl, ?_⟩
      intro v x hx hk
      have y0 := fun z : Later x => cells13 (m := m1) (turned_block hx HA.out (by simp) z)
      refine .inl ⟨wanted_none rfl, ?_⟩
      simp only [putAll, Act.put, List.setIfInBounds_toArray, List.set_cons_succ, List.set_cons_zero]
      refine val_of_quiet (ops := #[]) rfl ?_
      go_big_quiet_step (fail)
      exact wpQuiet_nil (by first | rfl | simp)
    · refine ⟨fun _ _ _ => rfl, ?_⟩
      intro v x hx hk
      have y0 := fun z : Later x => cells13 (m := y3) (turned_block hx HB.out (by simp) z)
      refine .inl ⟨wanted_none rfl, ?_⟩
      simp only [putAll, Act.put, List.setIfInBounds_toArray, List.set_cons_succ, List.set_cons_zero]
      refine val_of_quiet (ops := #[]) rfl ?_
      go_big_quiet_step (fail)
      exact wpQuiet_nil (by first | rfl | simp)
    · refine ⟨fun _ => rfl, fun _ _ _ => rfl, ?_⟩
      intro v x hx hk
      refine ⟨wanted_none rfl, ?_⟩
      simp only [putAll, Act.put, List.setIfInBounds_toArray, List.set_cons_succ, List.set_cons_zero]
      unfold Oper.wp
      go_simp
    · refine ⟨fun _ => rfl, fun _ _ _ => rfl, ?_⟩
      intro v x hx hk
      refine ⟨wanted_none rfl, ?_⟩
      simp only [putAll, Act.put, List.setIfInBounds_toArray, List.set_cons_succ, List.set_cons_zero]
      unfold Oper.wp
      go_simp
    · refine ⟨fun _ _ _ => rfl, ?_⟩
      intro v x hx hk
      have e5 : v 5 = .int .i64 (kk : Int) := hk 5 (by decide)
      refine .inl ⟨wanted_none rfl, ?_⟩
      simp only [putAll, Act.put, List.setIfInBounds_toArray, List.set_cons_succ, List.set_cons_zero, e5]
      refine val_of_quiet (ops := #[]) rfl ?_
      go_big_quiet_step (fail)
      exact wpQuiet_nil (by first | rfl | simp)
    · refine ⟨by decide, rfl, _, _, _, _, rfl, fun _ _ _ => rfl, ?_⟩
      intro v x g hx hk hg hgs hh
      have e6 : v 6 = .agg #[.int .i64 (m1.v 0), .int .u64 (m1.v 1), .int .u64 (m1.v 2), .string ⟨m1.offer.toArray⟩, .int .i64 (m1.v 4), .int .i64 (m1.v 5), .int .i64 (m1.v 6), .int .i64 (m1.v 7), .int .i64 (m1.v 8), .int .i64 (m1.v 9), .int .i64 (m1.v 10), .int .u64 (m1.v 11), .int .u64 (m1.v 12)] := hk 6 (by decide)
      have cc := cells_of hh
      simp only [List.getElem?_cons_zero, CellsAt, Nat.zero_add, Nat.reduceAdd] at cc
      refine ⟨wanted_none rfl, ?_⟩
      simp only [putAll, Act.put, List.setIfInBounds_toArray, List.set_cons_succ, List.set_cons_zero, e6, hg]
      unfold Oper.wp
      go_simp
      exact sto13 hh (.int .i64 (m1.v 0)) (.int .u64 (m1.v 1)) (.int .u64 (m1.v 2)) (.string ⟨m1.offer.toArray⟩) (.int .i64 (m1.v 4)) (.int .i64 (m1.v 5)) (.int .i64 (m1.v 6)) (.int .i64 (m1.v 7)) (.int .i64 (m1.v 8)) (.int .i64 (m1.v 9)) (.int .i64 (m1.v 10)) (.int .u64 (m1.v 11)) (.int .u64 (m1.v 12))
    · refine ⟨by decide, rfl, _, _, _, _, rfl, fun _ _ _ => rfl, ?_⟩
      intro v x g hx hk hg hgs hh
      have e7 : v 7 = .agg #[.int .i64 (y3.v 0), .int .u64 (y3.v 1), .int .u64 (y3.v 2), .string ⟨y3.offer.toArray⟩, .int .i64 (y3.v 4), .int .i64 (y3.v 5), .int .i64 (y3.v 6), .int .i64 (y3.v 7), .int .i64 (y3.v 8), .int .i64 (y3.v 9), .int .i64 (y3.v 10), .int .u64 (y3.v 11), .int .u64 (y3.v 12)] := hk 7 (by decide)
      have cc := cells_of hh
      simp only [List.getElem?_cons_zero, CellsAt, Nat.zero_add, Nat.reduceAdd] at cc
      refine ⟨wanted_none rfl, ?_⟩
      simp only [putAll, Act.put, List.setIfInBounds_toArray, List.set_cons_succ, List.set_cons_zero, e7, hg]
      unfold Oper.wp
      go_simp
      exact sto13 hh (.int .i64 (y3.v 0)) (.int .u64 (y3.v 1)) (.int .u64 (y3.v 2)) (.string ⟨y3.offer.toArray⟩) (.int .i64 (y3.v 4)) (.int .i64 (y3.v 5)) (.int .i64 (y3.v 6)) (.int .i64 (y3.v 7)) (.int .i64 (y3.v 8)) (.int .i64 (y3.v 9)) (.int .i64 (y3.v 10)) (.int .u64 (y3.v 11)) (.int .u64 (y3.v 12))
  · intro v GG x hF
    obtain ⟨e8, g8, _, h8⟩ := hF.blks 8 _ _ _ _ _ rfl rfl
    obtain ⟨e9, g9, _, h9⟩ := hF.blks 9 _ _ _ _ _ rfl rfl
    have hne := hF.apart 8 9 _ _ _ _ _ _ _ _ _ _ rfl rfl rfl rfl (by decide)
    have e10 : v 10 = .int .i64 (kk : Int) := hF.vals 10 _ rfl rfl
    have e0 : v 0 = .int .u8 (n : Int) := hF.vals 0 _ rfl rfl
    have hb := hF.tur.toBelow (B := _) (by simp) (Nat.le_refl _)
    obtain ⟨bx, hbx⟩ : ∃ b, b = GG 8 := ⟨_, rfl⟩
    obtain ⟨by_, hby⟩ : ∃ b, b = GG 9 := ⟨_, rfl⟩
    rw [← hbx] at e8 g8 h8 hne
    rw [← hby] at e9 g9 h9 hne
    have FR : Hid (SF [] W x p s3 ((bx, .cells #[.int .i64 (m1.v 0), .int .u64 (m1.v 1), .int .u64 (m1.v 2), .string ⟨m1.offer.toArray⟩, .int .i64 (m1.v 4), .int .i64 (m1.v 5), .int .i64 (m1.v 6), .int .i64 (m1.v 7), .int .i64 (m1.v 8), .int .i64 (m1.v 9), .int .i64 (m1.v 10), .int .u64 (m1.v 11), .int .u64 (m1.v 12)] 34 (0, 0)) :: (by_, .cells #[.int .i64 (y3.v 0), .int .u64 (y3.v 1), .int .u64 (y3.v 2), .string ⟨y3.offer.toArray⟩, .int .i64 (y3.v 4), .int .i64 (y3.v 5), .int .i64 (y3.v 6), .int .i64 (y3.v 7), .int .i64 (y3.v 8), .int .i64 (y3.v 9), .int .i64 (y3.v 10), .int .u64 (y3.v 11), .int .u64 (y3.v 12)] 34 (0, 0)) :: (w4.heap.size + 1, .cells #[.int .i64 u3.h, .int .i64 u3.send, .int .i64 u3.recv, .int .i64 u3.version] 49 (0, 0)) :: (w4.heap.size, .cells #[.int .i64 (y3.v 0), .int .u64 (y3.v 1), .int .u64 (y3.v 2), .string ⟨y3.offer.toArray⟩, .int .i64 (y3.v 4), .int .i64 (y3.v 5), .int .i64 (y3.v 6), .int .i64 (y3.v 7), .int .i64 (y3.v 8), .int .i64 (y3.v 9), .int .i64 (y3.v 10), .int .u64 (y3.v 11), .int .u64 (y3.v 12)] 34 (0, 0)) :: (w3.heap.size, .cells #[.int .i64 o2.y.ck, .int .i64 o2.y.k, .int .i64 o2.y.h, .int .u64 o2.y.n, .int .i64 o2.peer, .int .i64 o2.version, .int .u64 o2.stamp, .int .i64 o2.e, .int .i64 o2.ek, .int .i64 o2.pub] 44 (0, 0)) :: (w2.heap.size + 1 + 1, .cells #[.int .i64 15, .int .i64 16, .int .i64 5, .int .i64 6] 28 (0, 0)) :: (w2.heap.size + 1, .cells #[.int .i64 q1.y.ck, .int .i64 q1.y.k, .int .i64 q1.y.h, .int .u64 q1.y.n, .int .i64 q1.e, .int .i64 q1.ek, .string ⟨q1.offer.toArray⟩] 38 (0, 0)) :: (w2.heap.size, .cells #[.int .i64 (m1.v 0), .int .u64 (m1.v 1), .int .u64 (m1.v 2), .string ⟨m1.offer.toArray⟩, .int .i64 (m1.v 4), .int .i64 (m1.v 5), .int .i64 (m1.v 6), .int .i64 (m1.v 7), .int .i64 (m1.v 8), .int .i64 (m1.v 9), .int .i64 (m1.v 10), .int .u64 (m1.v 11), .int .u64 (m1.v 12)] 34 (0, 0)) :: (w1.heap.size + 1, .cells #[.int .i64 17, .int .i64 18, .int .i64 5, .int .i64 6, .int .i64 15, .int .i64 16, .int .i64 5, .int .i64 6] 29 (0, 0)) :: (w1.heap.size, .cells #[.int .i64 1, .int .i64 2, .int .i64 3, .int .i64 4] 25 (0, 0)) :: [])) := Lib.hid (F12.out.adds hb (K := [(bx, .cells #[.int .i64 (m1.v 0), .int .u64 (m1.v 1), .int .u64 (m1.v 2), .string ⟨m1.offer.toArray⟩, .int .i64 (m1.v 4), .int .i64 (m1.v 5), .int .i64 (m1.v 6), .int .i64 (m1.v 7), .int .i64 (m1.v 8), .int .i64 (m1.v 9), .int .i64 (m1.v 10), .int .u64 (m1.v 11), .int .u64 (m1.v 12)] 34 (0, 0)), (by_, .cells #[.int .i64 (y3.v 0), .int .u64 (y3.v 1), .int .u64 (y3.v 2), .string ⟨y3.offer.toArray⟩, .int .i64 (y3.v 4), .int .i64 (y3.v 5), .int .i64 (y3.v 6), .int .i64 (y3.v 7), .int .i64 (y3.v 8), .int .i64 (y3.v 9), .int .i64 (y3.v 10), .int .u64 (y3.v 11), .int .u64 (y3.v 12)] 34 (0, 0))]) (by
      intro y hy
      simp only [List.mem_cons, List.not_mem_nil, or_false] at hy
      rcases hy with rfl | rfl
      · exact ⟨h8, g8⟩
      · exact ⟨h9, g9⟩) (by simpa using hne))
    clear hF hb g8 h8 g9 h9 hne hbx hby HA HB
    simp only [putAll, Act.put, List.setIfInBounds_toArray, List.set_cons_succ, List.set_cons_zero, e8, e9, e10]
    obtain ⟨xm, hxm⟩ : ∃ z, z = Sough.bdX 3 kk := ⟨_, rfl⟩
    obtain ⟨ym, hym⟩ : ∃ z, z = Sough.bdY 3 kk := ⟨_, rfl⟩
    have HX0 := Lib.hid hxm; have HY0 := Lib.hid hym
    have FS : Hid (SF [] W (x.setCell ⟨bx, 7, none⟩ (.int .i64 (kk : Int))) p s3 ((bx, .cells #[.int .i64 (m1.v 0), .int .u64 (m1.v 1), .int .u64 (m1.v 2), .string ⟨m1.offer.toArray⟩, .int .i64 (m1.v 4), .int .i64 (m1.v 5), .int .i64 (m1.v 6), .int .i64 (kk : Int), .int .i64 (m1.v 8), .int .i64 (m1.v 9), .int .i64 (m1.v 10), .int .u64 (m1.v 11), .int .u64 (m1.v 12)] 34 (0, 0)) :: (by_, .cells #[.int .i64 (y3.v 0), .int .u64 (y3.v 1), .int .u64 (y3.v 2), .string ⟨y3.offer.toArray⟩, .int .i64 (y3.v 4), .int .i64 (y3.v 5), .int .i64 (y3.v 6), .int .i64 (y3.v 7), .int .i64 (y3.v 8), .int .i64 (y3.v 9), .int .i64 (y3.v 10), .int .u64 (y3.v 11), .int .u64 (y3.v 12)] 34 (0, 0)) :: (w4.heap.size + 1, .cells #[.int .i64 u3.h, .int .i64 u3.send, .int .i64 u3.recv, .int .i64 u3.version] 49 (0, 0)) :: (w4.heap.size, .cells #[.int .i64 (y3.v 0), .int .u64 (y3.v 1), .int .u64 (y3.v 2), .string ⟨y3.offer.toArray⟩, .int .i64 (y3.v 4), .int .i64 (y3.v 5), .int .i64 (y3.v 6), .int .i64 (y3.v 7), .int .i64 (y3.v 8), .int .i64 (y3.v 9), .int .i64 (y3.v 10), .int .u64 (y3.v 11), .int .u64 (y3.v 12)] 34 (0, 0)) :: (w3.heap.size, .cells #[.int .i64 o2.y.ck, .int .i64 o2.y.k, .int .i64 o2.y.h, .int .u64 o2.y.n, .int .i64 o2.peer, .int .i64 o2.version, .int .u64 o2.stamp, .int .i64 o2.e, .int .i64 o2.ek, .int .i64 o2.pub] 44 (0, 0)) :: (w2.heap.size + 1 + 1, .cells #[.int .i64 15, .int .i64 16, .int .i64 5, .int .i64 6] 28 (0, 0)) :: (w2.heap.size + 1, .cells #[.int .i64 q1.y.ck, .int .i64 q1.y.k, .int .i64 q1.y.h, .int .u64 q1.y.n, .int .i64 q1.e, .int .i64 q1.ek, .string ⟨q1.offer.toArray⟩] 38 (0, 0)) :: (w2.heap.size, .cells #[.int .i64 (m1.v 0), .int .u64 (m1.v 1), .int .u64 (m1.v 2), .string ⟨m1.offer.toArray⟩, .int .i64 (m1.v 4), .int .i64 (m1.v 5), .int .i64 (m1.v 6), .int .i64 (m1.v 7), .int .i64 (m1.v 8), .int .i64 (m1.v 9), .int .i64 (m1.v 10), .int .u64 (m1.v 11), .int .u64 (m1.v 12)] 34 (0, 0)) :: (w1.heap.size + 1, .cells #[.int .i64 17, .int .i64 18, .int .i64 5, .int .i64 6, .int .i64 15, .int .i64 16, .int .i64 5, .int .i64 6] 29 (0, 0)) :: (w1.heap.size, .cells #[.int .i64 1, .int .i64 2, .int .i64 3, .int .i64 4] 25 (0, 0)) :: [])) := Lib.hid (FR.out.setMid (A := []) 7 (.int .i64 (kk : Int)))
    have hm1 : Sough.bd1.2.1 = m1 := by rw [H1.out]
    have hy3 : Sough.bd3.2.1 = y3 := by rw [H3.out]
    unfold Sough.bdX Sough.mset at hxm
    unfold Sough.bdY Sough.mset at hym
    simp at hxm hym
    rw [hm1] at hxm
    rw [hy3] at hym
    have hX : (#[.int .i64 (m1.v 0), .int .u64 (m1.v 1), .int .u64 (m1.v 2), .string ⟨m1.offer.toArray⟩, .int .i64 (m1.v 4), .int .i64 (m1.v 5), .int .i64 (m1.v 6), .int .i64 (kk : Int), .int .i64 (m1.v 8), .int .i64 (m1.v 9), .int .i64 (m1.v 10), .int .u64 (m1.v 11), .int .u64 (m1.v 12)] : Array Value) = #[.int .i64 (xm.v 0), .int .u64 (xm.v 1), .int .u64 (xm.v 2), .string ⟨xm.offer.toArray⟩, .int .i64 (xm.v 4), .int .i64 (xm.v 5), .int .i64 (xm.v 6), .int .i64 (xm.v 7), .int .i64 (xm.v 8), .int .i64 (xm.v 9), .int .i64 (xm.v 10), .int .u64 (xm.v 11), .int .u64 (xm.v 12)] := by rw [hxm] <;> simp
    have hY : (#[.int .i64 (y3.v 0), .int .u64 (y3.v 1), .int .u64 (y3.v 2), .string ⟨y3.offer.toArray⟩, .int .i64 (y3.v 4), .int .i64 (y3.v 5), .int .i64 (y3.v 6), .int .i64 (y3.v 7), .int .i64 (y3.v 8), .int .i64 (y3.v 9), .int .i64 (y3.v 10), .int .u64 (y3.v 11), .int .u64 (y3.v 12)] : Array Value) = #[.int .i64 (ym.v 0), .int .u64 (ym.v 1), .int .u64 (ym.v 2), .string ⟨ym.offer.toArray⟩, .int .i64 (ym.v 4), .int .i64 (ym.v 5), .int .i64 (ym.v 6), .int .i64 (ym.v 7), .int .i64 (ym.v 8), .int .i64 (ym.v 9), .int .i64 (ym.v 10), .int .u64 (ym.v 11), .int .u64 (ym.v 12)] := by rw [hym] <;> simp
    have WX : Hid xm.Wf := Lib.hid (by rw [hxm]; exact Sough.mset_wf WM1.out (c := 7) (by omega) ⟨by have := HKK.out; omega, by have := HKK.out; omega⟩)
    have WY9 : Hid ym.Wf := Lib.hid (by rw [hym]; exact WY3.out)
    have FT : Hid (SF [] W (x.setCell ⟨bx, 7, none⟩ (.int .i64 (kk : Int))) p s3 ((bx, .cells #[.int .i64 (xm.v 0), .int .u64 (xm.v 1), .int .u64 (xm.v 2), .string ⟨xm.offer.toArray⟩, .int .i64 (xm.v 4), .int .i64 (xm.v 5), .int .i64 (xm.v 6), .int .i64 (xm.v 7), .int .i64 (xm.v 8), .int .i64 (xm.v 9), .int .i64 (xm.v 10), .int .u64 (xm.v 11), .int .u64 (xm.v 12)] 34 (0, 0)) :: (by_, .cells #[.int .i64 (ym.v 0), .int .u64 (ym.v 1), .int .u64 (ym.v 2), .string ⟨ym.offer.toArray⟩, .int .i64 (ym.v 4), .int .i64 (ym.v 5), .int .i64 (ym.v 6), .int .i64 (ym.v 7), .int .i64 (ym.v 8), .int .i64 (ym.v 9), .int .i64 (ym.v 10), .int .u64 (ym.v 11), .int .u64 (ym.v 12)] 34 (0, 0)) :: (w4.heap.size + 1, .cells #[.int .i64 u3.h, .int .i64 u3.send, .int .i64 u3.recv, .int .i64 u3.version] 49 (0, 0)) :: (w4.heap.size, .cells #[.int .i64 (y3.v 0), .int .u64 (y3.v 1), .int .u64 (y3.v 2), .string ⟨y3.offer.toArray⟩, .int .i64 (y3.v 4), .int .i64 (y3.v 5), .int .i64 (y3.v 6), .int .i64 (y3.v 7), .int .i64 (y3.v 8), .int .i64 (y3.v 9), .int .i64 (y3.v 10), .int .u64 (y3.v 11), .int .u64 (y3.v 12)] 34 (0, 0)) :: (w3.heap.size, .cells #[.int .i64 o2.y.ck, .int .i64 o2.y.k, .int .i64 o2.y.h, .int .u64 o2.y.n, .int .i64 o2.peer, .int .i64 o2.version, .int .u64 o2.stamp, .int .i64 o2.e, .int .i64 o2.ek, .int .i64 o2.pub] 44 (0, 0)) :: (w2.heap.size + 1 + 1, .cells #[.int .i64 15, .int .i64 16, .int .i64 5, .int .i64 6] 28 (0, 0)) :: (w2.heap.size + 1, .cells #[.int .i64 q1.y.ck, .int .i64 q1.y.k, .int .i64 q1.y.h, .int .u64 q1.y.n, .int .i64 q1.e, .int .i64 q1.ek, .string ⟨q1.offer.toArray⟩] 38 (0, 0)) :: (w2.heap.size, .cells #[.int .i64 (m1.v 0), .int .u64 (m1.v 1), .int .u64 (m1.v 2), .string ⟨m1.offer.toArray⟩, .int .i64 (m1.v 4), .int .i64 (m1.v 5), .int .i64 (m1.v 6), .int .i64 (m1.v 7), .int .i64 (m1.v 8), .int .i64 (m1.v 9), .int .i64 (m1.v 10), .int .u64 (m1.v 11), .int .u64 (m1.v 12)] 34 (0, 0)) :: (w1.heap.size + 1, .cells #[.int .i64 17, .int .i64 18, .int .i64 5, .int .i64 6, .int .i64 15, .int .i64 16, .int .i64 5, .int .i64 6] 29 (0, 0)) :: (w1.heap.size, .cells #[.int .i64 1, .int .i64 2, .int .i64 3, .int .i64 4] 25 (0, 0)) :: [])) := by
      rw [← hX, ← hY]
      exact FS
    have HXM := Lib.hid hxm; have HYM := Lib.hid hym
    clear hX hY hxm hym hm1 hy3
    clear FS
    have F13 := Lib.hid (FT.out.alloc (.cells #[.int .i64 15, .int .i64 16, .int .i64 5, .int .i64 6] 28))
    try simp only [World.size_alloc, size_setCell] at F13
    obtain ⟨s4, o4, e4, h4⟩ : ∃ s4 o4 e4, Sough.bd4 3 kk = (s4, o4, e4) := ⟨_, _, _, rfl⟩
    have H4 := Lib.hid h4
    clear h4
    have HC := (open_at (me := Sough.me1) (peers := [Sough.peer1]) (text := [3, 2, 1]) (m := xm) F13.out ⟨⟨by decide, by decide⟩, ⟨by decide, by decide⟩⟩ (.inr ⟨_, 1, _, rfl, Nat.le_refl _, by omega, List.mem_cons_self ..⟩) (by intro q hq; simp only [List.mem_cons, List.not_mem_nil, or_false] at hq; subst hq; exact ⟨⟨by decide, by decide⟩, ⟨by decide, by decide⟩⟩) (by decide) WX.out (by have h := H4.out; unfold Sough.bd4 at h; simp only [H1.out, H2.out, H3.out] at h; rw [← HX0.out] at h; exact h) : (Calls Try.prog 13 #[.pointer (some ⟨p, 0, none⟩), .agg #[.int .i64 3, .int .i64 4], .slice (some ⟨x.heap.size, 0, none⟩) 1 1, .string ⟨#[3, 2, 1]⟩, .agg #[.int .i64 (xm.v 0), .int .u64 (xm.v 1), .int .u64 (xm.v 2), .string ⟨xm.offer.toArray⟩, .int .i64 (xm.v 4), .int .i64 (xm.v 5), .int .i64 (xm.v 6), .int .i64 (xm.v 7), .int .i64 (xm.v 8), .int .i64 (xm.v 9), .int .i64 (xm.v 10), .int .u64 (xm.v 11), .int .u64 (xm.v 12)]] _ _) ∧ o4.Wf)
    obtain ⟨HC, wo4⟩ := HC
    have WO4 := Lib.hid wo4
    clear wo4
    have HC := Lib.hid HC
    have r0 := FR.out.mem.rules; simp only [AllCells, CellsAt, Nat.zero_add, Nat.reduceAdd, talkC] at r0
    have r1 := FT.out.mem.rules; simp only [AllCells, CellsAt, Nat.zero_add, Nat.reduceAdd, talkC] at r1
    have r2 := F13.out.mem.rules; simp only [AllCells, CellsAt, Nat.zero_add, Nat.reduceAdd, talkC] at r2
    go_wp2_with fail
    clear r0 r1 r2
    refine HC.out.mono ?_
    rintro e w5 ⟨rfl, g⟩
    clear HC
    clear FR FT
    have F14 := Lib.hid g
    have F15 := Lib.hid (F14.out.alloc (.cells #[.int .i64 o4.y.ck, .int .i64 o4.y.k, .int .i64 o4.y.h, .int .u64 o4.y.n, .int .i64 o4.peer, .int .i64 o4.version, .int .u64 o4.stamp, .int .i64 o4.e, .int .i64 o4.ek, .int .i64 o4.pub] 44))
    try simp only [World.size_alloc, size_setCell] at F15
    clear g
    clear F13
    obtain ⟨s5, v5, e5, h5⟩ : ∃ s5 v5 e5, Sough.bd5 3 kk = (s5, v5, e5) := ⟨_, _, _, rfl⟩
    have H5 := Lib.hid h5
    clear h5
    have HC := (finish_at (me := Sough.me0) (q := q1) (m := ym) F15.out ⟨by decide, by decide⟩ WQ1.out WY9.out (by have h := H5.out; unfold Sough.bd5 at h; simp only [H1.out, H2.out, H3.out, H4.out] at h; rw [← HY0.out] at h; exact h) : (Calls Try.prog 16 #[.pointer (some ⟨p, 0, none⟩), .agg #[.int .i64 1, .int .i64 2], .agg #[.int .i64 q1.y.ck, .int .i64 q1.y.k, .int .i64 q1.y.h, .int .u64 q1.y.n, .int .i64 q1.e, .int .i64 q1.ek, .string ⟨q1.offer.toArray⟩], .agg #[.int .i64 (ym.v 0), .int .u64 (ym.v 1), .int .u64 (ym.v 2), .string ⟨ym.offer.toArray⟩, .int .i64 (ym.v 4), .int .i64 (ym.v 5), .int .i64 (ym.v 6), .int .i64 (ym.v 7), .int .i64 (ym.v 8), .int .i64 (ym.v 9), .int .i64 (ym.v 10), .int .u64 (ym.v 11), .int .u64 (ym.v 12)]] _ _) ∧ v5.Wf)
    obtain ⟨HC, wz5⟩ := HC
    have WZ5 := Lib.hid wz5
    clear wz5
    have HC := Lib.hid HC
    have r0 := F14.out.mem.rules; simp only [AllCells, CellsAt, Nat.zero_add, Nat.reduceAdd, talkC] at r0
    have r1 := F15.out.mem.rules; simp only [AllCells, CellsAt, Nat.zero_add, Nat.reduceAdd, talkC] at r1
    go_wp2_with fail
    clear r0 r1
    refine HC.out.mono ?_
    rintro e w6 ⟨rfl, g⟩
    clear HC
    clear F14
    have F16 := Lib.hid g
    have F17 := Lib.hid (F16.out.alloc (.cells #[.int .i64 v5.h, .int .i64 v5.send, .int .i64 v5.recv, .int .i64 v5.version] 49))
    try simp only [World.size_alloc, size_setCell] at F17
    clear g
    clear F15
    have F18 := Lib.hid (F17.out.alloc (.cells #[.int .i64 0, .int .i64 0, .int .i64 0, .int .u64 0, .int .i64 0, .int .i64 0, .int .u64 0, .int .i64 0, .int .i64 0, .int .i64 0] 44))
    try simp only [World.size_alloc, size_setCell] at F18
    have F19 := Lib.hid (F18.out.alloc (.cells #[.int .i64 0, .int .i64 0, .int .i64 0, .int .i64 0] 49))
    try simp only [World.size_alloc, size_setCell] at F19
    have hp : Sough.bdP 3 kk := by
      have h := bd_3 (kk - 1) (by have := HKK.out; omega)
      rwa [show kk - 1 + 1 = kk by have := HKK.out; omega] at h
    unfold Sough.bdP at hp
    rw [← HX0.out, ← HY0.out] at hp
    simp only [H1.out, H2.out, H3.out, H4.out, H5.out] at hp
    obtain ⟨p1, p2, p3, p4⟩ := hp
    have EQX := eqMsg xm m1
    have EQY := eqMsg ym y3
    have EG1 : Try.prog.eqGuardType Try.prog.depth 34 = false := by kernel_rfl
    have EG2 : Try.prog.eqGuardType Try.prog.depth 44 = false := by kernel_rfl
    have EG3 : Try.prog.eqGuardType Try.prog.depth 49 = false := by kernel_rfl
    have hs : ym.same y3 = true := by rw [HYM.out]; exact Sough.same_refl _
    obtain rfl := p3.2 hs
    rw [hs] at EQY
    clear p3 p4 hs
    by_cases he : e4 = 0
    · obtain rfl := he
      rw [p1.1 rfl] at EQX
      clear p1 p2
      have r0 := F16.out.mem.rules; simp only [AllCells, CellsAt, Nat.zero_add, Nat.reduceAdd, talkC] at r0
      have r1 := F17.out.mem.rules; simp only [AllCells, CellsAt, Nat.zero_add, Nat.reduceAdd, talkC] at r1
      have r2 := F18.out.mem.rules; simp only [AllCells, CellsAt, Nat.zero_add, Nat.reduceAdd, talkC] at r2
      have r3 := F19.out.mem.rules; simp only [AllCells, CellsAt, Nat.zero_add, Nat.reduceAdd, talkC] at r3
      go_wp2_with fail
      clear r0 r1 r2 r3
      refine (fixed_walk _).mono ?_
      rintro e wF ⟨rfl, hbF⟩
      have FF := Lib.hid (F19.out.later hbF)
      clear hbF
      go_wp2_with fail
      go_ret
      exact ⟨rfl, FF.out.tur.toBelow (by simp) (Nat.le_refl _)⟩
    · have hb : xm.same m1 = false := by
        cases h : xm.same m1 with
        | true => exact absurd (p1.2 h) he
        | false => rfl
      rw [hb] at EQX
      have hz := p2.resolve_left he
      have EQZ : ∀ w, (Op.equalIn 10000 44 (.agg #[.int .i64 o4.y.ck, .int .i64 o4.y.k, .int .i64 o4.y.h, .int .u64 o4.y.n, .int .i64 o4.peer, .int .i64 o4.version, .int .u64 o4.stamp, .int .i64 o4.e, .int .i64 o4.ek, .int .i64 o4.pub]) (.agg #[.int .i64 0, .int .i64 0, .int .i64 0, .int .u64 0, .int .i64 0, .int .i64 0, .int .u64 0, .int .i64 0, .int .i64 0, .int .i64 0])).run Try.prog w = .ok true w := fun w => (eqOpened o4 Sough.zeroO w).trans (by rw [decide_eq_true hz])
      have b1 : ((e4 : Int) == 0) = false := by simp; omega
      clear hb hz p1 p2
      have r0 := F16.out.mem.rules; simp only [AllCells, CellsAt, Nat.zero_add, Nat.reduceAdd, talkC] at r0
      have r1 := F17.out.mem.rules; simp only [AllCells, CellsAt, Nat.zero_add, Nat.reduceAdd, talkC] at r1
      have r2 := F18.out.mem.rules; simp only [AllCells, CellsAt, Nat.zero_add, Nat.reduceAdd, talkC] at r2
      have r3 := F19.out.mem.rules; simp only [AllCells, CellsAt, Nat.zero_add, Nat.reduceAdd, talkC] at r3
      go_wp2_with fail
      clear r0 r1 r2 r3
      refine (fixed_walk _).mono ?_
      rintro e wF ⟨rfl, hbF⟩
      have FF := Lib.hid (F19.out.later hbF)
      clear hbF
      go_wp2_with fail
      go_ret
      exact ⟨rfl, FF.out.tur.toBelow (by simp) (Nat.le_refl _)⟩
end Go.Proofs.Ytlfgempjjoclbaa
