/- Plain law and walk of HandTurned. (Printed by wip/tools/mkturned.py.) -/
import Derived.Test.YtlfgempjjoclbaaG6
namespace Sough
def tnP (n c : Nat) : Peer := if n = 0 then ⟨⟨15, 16⟩, c, 6⟩ else ⟨⟨15, 16⟩, 5, c⟩
def tn1 (k : Nat) := beginR twoS me0 peer0 (reqM 7 [1] k) 5 7 8 9
def tn2 (k n c : Nat) := openR (tn1 k).1 me1 [tnP n c] [1] (tn1 k).2.1
set_option maxRecDepth 100000 in
theorem tn_all : ∀ k < 2, ∀ n < 2, ∀ t < 15, t = 0 ∨ ((tn1 k).2.2.2 = 0 ∧ (if k = n ∧ t ≠ 5 + n then (tn2 k n t).2.2 = 9 ∧ (tn2 k n t).2.1 = zeroO else (tn2 k n t).2.2 = 0 ∧ (tn2 k n t).2.1.stamp = 5 ∧ (tn2 k n t).2.1.pub = 15)) := by decide +kernel
end Sough
namespace Go.Proofs.Ytlfgempjjoclbaa
open Go.RowKit Go.Maps Go.ChangeMaps

set_option maxRecDepth 100000 in
set_option maxHeartbeats 6400000 in
theorem turned_00 {a b c t : Nat} (ha : (a : Int) % 2 = 0) (hb : (b : Int) % 2 = 0) (hc : (1 : Int) + (c : Int) % 14 = (t : Int)) (ht : t < 15) (ht0 : t ≠ 0) (hab : a < 256 ∧ b < 256 ∧ c < 256) (W : World) :
    Calls Try.prog 5 #[.int .u8 a, .int .u8 b, .int .u8 c] W fun e w' => e = .returned (.bool true) ∧ Below W.heap.size W w' := by
  have HT := Lib.hid ht
  obtain ⟨ha1, hb1, hc1⟩ := hab
  have HT0 := Lib.hid ht0
  clear ht ht0
  go_enter Try.func5, Try.ntmps5
  go_wp2_with fail
  refine (two_any _).mono ?_
  rintro e w1 ⟨p, rfl, g⟩
  have F1 := Lib.hid g
  have F2 := Lib.hid (F1.out.alloc (.cells #[.int .i64 1, .int .i64 2, .int .i64 3, .int .i64 4] 25))
  try simp only [World.size_alloc, size_setCell] at F2
  have F3 := Lib.hid (F2.out.alloc (.cells #[.int .i64 17, .int .i64 18, .int .i64 5, .int .i64 6, .int .i64 15, .int .i64 16, .int .i64 5, .int .i64 6] 29))
  try simp only [World.size_alloc, size_setCell] at F3
  clear g
  obtain ⟨s1, m1, q1, e1, h1⟩ : ∃ s1 m1 q1 e1, Sough.tn1 0 = (s1, m1, q1, e1) := ⟨_, _, _, _, rfl⟩
  have H1 := Lib.hid h1
  clear h1
  have HC := (begin_at (me := Sough.me0) (pr := Sough.peer0) (m := Sough.reqM 7 [1] 0) (stamp := 5) (d0 := 7) (d1 := 8) (d2 := 9) F3.out (Sough.reqM_wf (by decide) ⟨by decide, by decide⟩ (by decide)) (by decide) ⟨⟨by decide, by decide⟩, ⟨by decide, by decide⟩⟩ ⟨⟨by decide, by decide⟩, ⟨by decide, by decide⟩, ⟨by decide, by decide⟩, ⟨by decide, by decide⟩⟩ ⟨⟨by decide, by decide⟩, ⟨by decide, by decide⟩, ⟨by decide, by decide⟩⟩ (by have h := H1.out; unfold Sough.tn1 at h; exact h) : (Calls Try.prog 12 #[.pointer (some ⟨p, 0, none⟩), .agg #[.int .i64 1, .int .i64 2], .agg #[.int .i64 17, .int .i64 18, .int .i64 5, .int .i64 6], .agg #[.int .i64 0, .int .u64 7, .int .u64 0, .string ⟨#[1]⟩, .int .i64 0, .int .i64 0, .int .i64 0, .int .i64 0, .int .i64 0, .int .i64 0, .int .i64 0, .int .u64 0, .int .u64 0], .int .u64 5, .agg #[.int .i64 7, .int .i64 8, .int .i64 9]] _ _) ∧ m1.Wf ∧ q1.Wf)
  obtain ⟨HC, wm1, wq1⟩ := HC
  have WM1 := Lib.hid wm1
  have WQ1 := Lib.hid wq1
  clear wm1 wq1
  have HC := Lib.hid HC
  have r0 := F1.out.mem.rules; simp only [AllCells, CellsAt, Nat.zero_add, Nat.reduceAdd, talkC] at r0
  have r1 := F2.out.mem.rules; simp only [AllCells, CellsAt, Nat.zero_add, Nat.reduceAdd, talkC] at r1
  have r2 := F3.out.mem.rules; simp only [AllCells, CellsAt, Nat.zero_add, Nat.reduceAdd, talkC] at r2
  go_wp2_with fail
  clear r0 r1 r2
  refine HC.out.mono ?_
  rintro e w2 ⟨rfl, g⟩
  clear HC
  clear F1 F2
  have F4 := Lib.hid g
  have F5 := Lib.hid (F4.out.alloc (.cells #[.int .i64 (m1.v 0), .int .u64 (m1.v 1), .int .u64 (m1.v 2), .string ⟨m1.offer.toArray⟩, .int .i64 (m1.v 4), .int .i64 (m1.v 5), .int .i64 (m1.v 6), .int .i64 (m1.v 7), .int .i64 (m1.v 8), .int .i64 (m1.v 9), .int .i64 (m1.v 10), .int .u64 (m1.v 11), .int .u64 (m1.v 12)] 34))
  try simp only [World.size_alloc, size_setCell] at F5
  have F6 := Lib.hid (F5.out.alloc (.cells #[.int .i64 q1.y.ck, .int .i64 q1.y.k, .int .i64 q1.y.h, .int .u64 q1.y.n, .int .i64 q1.e, .int .i64 q1.ek, .string ⟨q1.offer.toArray⟩] 38))
  try simp only [World.size_alloc, size_setCell] at F6
  clear g
  clear F3
  have F7 := Lib.hid (F6.out.alloc (.cells #[.int .i64 15, .int .i64 16, .int .i64 5, .int .i64 6] 28))
  try simp only [World.size_alloc, size_setCell] at F7
  have F8 := Lib.hid (F6.out.alloc (.cells #[.int .i64 15, .int .i64 16, .int .i64 (t : Int), .int .i64 6] 28))
  try simp only [World.size_alloc, size_setCell] at F8
  have F9 := Lib.hid (F8.out.alloc (.cells #[.int .i64 15, .int .i64 16, .int .i64 (t : Int), .int .i64 6] 28))
  try simp only [World.size_alloc, size_setCell] at F9
  obtain ⟨s2, o2, e2, h2⟩ : ∃ s2 o2 e2, Sough.tn2 0 0 t = (s2, o2, e2) := ⟨_, _, _, rfl⟩
  have H2 := Lib.hid h2
  clear h2
  have HC := (open_at (me := Sough.me1) (peers := [Sough.tnP 0 t]) (text := [1]) (m := m1) F9.out ⟨⟨by decide, by decide⟩, ⟨by decide, by decide⟩⟩ (.inr ⟨_, 1, _, rfl, Nat.le_refl _, by omega, List.mem_cons_self ..⟩) (by intro q hq; simp only [List.mem_cons, List.not_mem_nil, or_false] at hq; subst hq; unfold Sough.tnP; simp [Sough.Int64]; omega) (by decide) WM1.out (by have h := H2.out; unfold Sough.tn2 at h; simp only [H1.out] at h; exact h) : (Calls Try.prog 13 #[.pointer (some ⟨p, 0, none⟩), .agg #[.int .i64 3, .int .i64 4], .slice (some ⟨w2.heap.size + 1 + 1 + 1, 0, none⟩) 1 1, .string ⟨#[1]⟩, .agg #[.int .i64 (m1.v 0), .int .u64 (m1.v 1), .int .u64 (m1.v 2), .string ⟨m1.offer.toArray⟩, .int .i64 (m1.v 4), .int .i64 (m1.v 5), .int .i64 (m1.v 6), .int .i64 (m1.v 7), .int .i64 (m1.v 8), .int .i64 (m1.v 9), .int .i64 (m1.v 10), .int .u64 (m1.v 11), .int .u64 (m1.v 12)]] _ _) ∧ o2.Wf)
  obtain ⟨HC, wo2⟩ := HC
  have WO2 := Lib.hid wo2
  clear wo2
  have HC := Lib.hid HC
  have r0 := F4.out.mem.rules; simp only [AllCells, CellsAt, Nat.zero_add, Nat.reduceAdd, talkC] at r0
  have r1 := F5.out.mem.rules; simp only [AllCells, CellsAt, Nat.zero_add, Nat.reduceAdd, talkC] at r1
  have r2 := F6.out.mem.rules; simp only [AllCells, CellsAt, Nat.zero_add, Nat.reduceAdd, talkC] at r2
  have r3 := F7.out.mem.rules; simp only [AllCells, CellsAt, Nat.zero_add, Nat.reduceAdd, talkC] at r3
  have r4 := F8.out.mem.rules; simp only [AllCells, CellsAt, Nat.zero_add, Nat.reduceAdd, talkC] at r4
  have r5 := F9.out.mem.rules; simp only [AllCells, CellsAt, Nat.zero_add, Nat.reduceAdd, talkC] at r5
  go_wp2_with fail
  clear r0 r1 r2 r3 r4 r5
  refine HC.out.mono ?_
  rintro e w3 ⟨rfl, g⟩
  clear HC
  clear F4 F5 F6 F7 F8
  have F10 := Lib.hid g
  have F11 := Lib.hid (F10.out.alloc (.cells #[.int .i64 o2.y.ck, .int .i64 o2.y.k, .int .i64 o2.y.h, .int .u64 o2.y.n, .int .i64 o2.peer, .int .i64 o2.version, .int .u64 o2.stamp, .int .i64 o2.e, .int .i64 o2.ek, .int .i64 o2.pub] 44))
  try simp only [World.size_alloc, size_setCell] at F11
  clear g
  clear F9
  have hfx := (Sough.tn_all 0 (by decide) 0 (by decide) t HT.out).resolve_left HT0.out
  simp only [H1.out, H2.out] at hfx
  obtain ⟨f1, hfx⟩ := hfx
  subst f1
  by_cases hc : t = 5
  · simp [hc] at hfx
    have b1 : ((t : Int) != 5) = false := by subst hc; rfl
    obtain ⟨f2, f3, f4⟩ := hfx
    subst f2
    have FX3 := Lib.hid f3; have FX4 := Lib.hid f4
    clear f3 f4
    have r0 := F10.out.mem.rules; simp only [AllCells, CellsAt, Nat.zero_add, Nat.reduceAdd, talkC] at r0
    have r1 := F11.out.mem.rules; simp only [AllCells, CellsAt, Nat.zero_add, Nat.reduceAdd, talkC] at r1
    go_wp2_with fail
    clear r0 r1
    have rq := SF.rulesOf F11.out; simp only [AllCells, CellsAt, Nat.zero_add, Nat.reduceAdd] at rq
    refine wp_region_later (by kernel_rfl) (by kernel_rfl) ?_
    iterate 15 go_big_quiet_step (fail)
    refine wpQuiet_nil ?_
    rintro ⟨wq, hbq⟩
    change Exit.then _ _ _ _ wq
    have F12 := Lib.hid (F11.out.later hbq)
    clear rq hbq
    have f3 := FX3.out; have f4 := FX4.out
    have r0 := F12.out.mem.rules; simp only [AllCells, CellsAt, Nat.zero_add, Nat.reduceAdd, talkC] at r0
    go_wp2_with fail
    clear r0
    refine (fixed_walk _).mono ?_
    rintro e wF ⟨rfl, hbF⟩
    have FF := Lib.hid (F12.out.later hbF)
    clear hbF
    go_wp2_with fail
    go_ret
    exact ⟨rfl, FF.out.tur.toBelow (by simp) (Nat.le_refl _)⟩
  · have hc2 : t ≠ 5 := hc
    simp [hc2] at hfx
    have b1 : ((t : Int) != 5) = true := by simp; omega
    obtain ⟨f2, f3⟩ := hfx
    subst f2
    have EQ : ∀ w, (Op.equalIn 10000 44 (.agg #[.int .i64 o2.y.ck, .int .i64 o2.y.k, .int .i64 o2.y.h, .int .u64 o2.y.n, .int .i64 o2.peer, .int .i64 o2.version, .int .u64 o2.stamp, .int .i64 o2.e, .int .i64 o2.ek, .int .i64 o2.pub]) (.agg #[.int .i64 0, .int .i64 0, .int .i64 0, .int .u64 0, .int .i64 0, .int .i64 0, .int .u64 0, .int .i64 0, .int .i64 0, .int .i64 0])).run Try.prog w = .ok true w := fun w => (eqOpened o2 Sough.zeroO w).trans (by rw [decide_eq_true f3])
    have EG : Try.prog.eqGuardType Try.prog.depth 44 = false := by kernel_rfl
    clear f3
    have r0 := F10.out.mem.rules; simp only [AllCells, CellsAt, Nat.zero_add, Nat.reduceAdd, talkC] at r0
    have r1 := F11.out.mem.rules; simp only [AllCells, CellsAt, Nat.zero_add, Nat.reduceAdd, talkC] at r1
    go_wp2_with fail
    clear r0 r1
    have rq := SF.rulesOf F11.out; simp only [AllCells, CellsAt, Nat.zero_add, Nat.reduceAdd] at rq
    refine wp_region_later (by kernel_rfl) (by kernel_rfl) ?_
    iterate 15 go_big_quiet_step (fail)
    refine wpQuiet_nil ?_
    rintro ⟨wq, hbq⟩
    change Exit.then _ _ _ _ wq
    have F13 := Lib.hid (F11.out.later hbq)
    clear rq hbq
    have r0 := F13.out.mem.rules; simp only [AllCells, CellsAt, Nat.zero_add, Nat.reduceAdd, talkC] at r0
    go_wp2_with fail
    clear r0
    refine (fixed_walk _).mono ?_
    rintro e wF ⟨rfl, hbF⟩
    have FF := Lib.hid (F13.out.later hbF)
    clear hbF
    go_wp2_with fail
    go_ret
    exact ⟨rfl, FF.out.tur.toBelow (by simp) (Nat.le_refl _)⟩

set_option maxRecDepth 100000 in
set_option maxHeartbeats 6400000 in
theorem turned_01 {a b c t : Nat} (ha : (a : Int) % 2 = 0) (hb : (b : Int) % 2 = 1) (hc : (1 : Int) + (c : Int) % 14 = (t : Int)) (ht : t < 15) (ht0 : t ≠ 0) (hab : a < 256 ∧ b < 256 ∧ c < 256) (W : World) :
    Calls Try.prog 5 #[.int .u8 a, .int .u8 b, .int .u8 c] W fun e w' => e = .returned (.bool true) ∧ Below W.heap.size W w' := by
  have HT := Lib.hid ht
  obtain ⟨ha1, hb1, hc1⟩ := hab
  have HT0 := Lib.hid ht0
  clear ht ht0
  go_enter Try.func5, Try.ntmps5
  go_wp2_with fail
  refine (two_any _).mono ?_
  rintro e w1 ⟨p, rfl, g⟩
  have F1 := Lib.hid g
  have F2 := Lib.hid (F1.out.alloc (.cells #[.int .i64 1, .int .i64 2, .int .i64 3, .int .i64 4] 25))
  try simp only [World.size_alloc, size_setCell] at F2
  have F3 := Lib.hid (F2.out.alloc (.cells #[.int .i64 17, .int .i64 18, .int .i64 5, .int .i64 6, .int .i64 15, .int .i64 16, .int .i64 5, .int .i64 6] 29))
  try simp only [World.size_alloc, size_setCell] at F3
  clear g
  obtain ⟨s1, m1, q1, e1, h1⟩ : ∃ s1 m1 q1 e1, Sough.tn1 0 = (s1, m1, q1, e1) := ⟨_, _, _, _, rfl⟩
  have H1 := Lib.hid h1
  clear h1
  have HC := (begin_at (me := Sough.me0) (pr := Sough.peer0) (m := Sough.reqM 7 [1] 0) (stamp := 5) (d0 := 7) (d1 := 8) (d2 := 9) F3.out (Sough.reqM_wf (by decide) ⟨by decide, by decide⟩ (by decide)) (by decide) ⟨⟨by decide, by decide⟩, ⟨by decide, by decide⟩⟩ ⟨⟨by decide, by decide⟩, ⟨by decide, by decide⟩, ⟨by decide, by decide⟩, ⟨by decide, by decide⟩⟩ ⟨⟨by decide, by decide⟩, ⟨by decide, by decide⟩, ⟨by decide, by decide⟩⟩ (by have h := H1.out; unfold Sough.tn1 at h; exact h) : (Calls Try.prog 12 #[.pointer (some ⟨p, 0, none⟩), .agg #[.int .i64 1, .int .i64 2], .agg #[.int .i64 17, .int .i64 18, .int .i64 5, .int .i64 6], .agg #[.int .i64 0, .int .u64 7, .int .u64 0, .string ⟨#[1]⟩, .int .i64 0, .int .i64 0, .int .i64 0, .int .i64 0, .int .i64 0, .int .i64 0, .int .i64 0, .int .u64 0, .int .u64 0], .int .u64 5, .agg #[.int .i64 7, .int .i64 8, .int .i64 9]] _ _) ∧ m1.Wf ∧ q1.Wf)
  obtain ⟨HC, wm1, wq1⟩ := HC
  have WM1 := Lib.hid wm1
  have WQ1 := Lib.hid wq1
  clear wm1 wq1
  have HC := Lib.hid HC
  have r0 := F1.out.mem.rules; simp only [AllCells, CellsAt, Nat.zero_add, Nat.reduceAdd, talkC] at r0
  have r1 := F2.out.mem.rules; simp only [AllCells, CellsAt, Nat.zero_add, Nat.reduceAdd, talkC] at r1
  have r2 := F3.out.mem.rules; simp only [AllCells, CellsAt, Nat.zero_add, Nat.reduceAdd, talkC] at r2
  go_wp2_with fail
  clear r0 r1 r2
  refine HC.out.mono ?_
  rintro e w2 ⟨rfl, g⟩
  clear HC
  clear F1 F2
  have F4 := Lib.hid g
  have F5 := Lib.hid (F4.out.alloc (.cells #[.int .i64 (m1.v 0), .int .u64 (m1.v 1), .int .u64 (m1.v 2), .string ⟨m1.offer.toArray⟩, .int .i64 (m1.v 4), .int .i64 (m1.v 5), .int .i64 (m1.v 6), .int .i64 (m1.v 7), .int .i64 (m1.v 8), .int .i64 (m1.v 9), .int .i64 (m1.v 10), .int .u64 (m1.v 11), .int .u64 (m1.v 12)] 34))
  try simp only [World.size_alloc, size_setCell] at F5
  have F6 := Lib.hid (F5.out.alloc (.cells #[.int .i64 q1.y.ck, .int .i64 q1.y.k, .int .i64 q1.y.h, .int .u64 q1.y.n, .int .i64 q1.e, .int .i64 q1.ek, .string ⟨q1.offer.toArray⟩] 38))
  try simp only [World.size_alloc, size_setCell] at F6
  clear g
  clear F3
  have F7 := Lib.hid (F6.out.alloc (.cells #[.int .i64 15, .int .i64 16, .int .i64 5, .int .i64 6] 28))
  try simp only [World.size_alloc, size_setCell] at F7
  have F8 := Lib.hid (F6.out.alloc (.cells #[.int .i64 15, .int .i64 16, .int .i64 5, .int .i64 (t : Int)] 28))
  try simp only [World.size_alloc, size_setCell] at F8
  have F9 := Lib.hid (F8.out.alloc (.cells #[.int .i64 15, .int .i64 16, .int .i64 5, .int .i64 (t : Int)] 28))
  try simp only [World.size_alloc, size_setCell] at F9
  obtain ⟨s2, o2, e2, h2⟩ : ∃ s2 o2 e2, Sough.tn2 0 1 t = (s2, o2, e2) := ⟨_, _, _, rfl⟩
  have H2 := Lib.hid h2
  clear h2
  have HC := (open_at (me := Sough.me1) (peers := [Sough.tnP 1 t]) (text := [1]) (m := m1) F9.out ⟨⟨by decide, by decide⟩, ⟨by decide, by decide⟩⟩ (.inr ⟨_, 1, _, rfl, Nat.le_refl _, by omega, List.mem_cons_self ..⟩) (by intro q hq; simp only [List.mem_cons, List.not_mem_nil, or_false] at hq; subst hq; unfold Sough.tnP; simp [Sough.Int64]; omega) (by decide) WM1.out (by have h := H2.out; unfold Sough.tn2 at h; simp only [H1.out] at h; exact h) : (Calls Try.prog 13 #[.pointer (some ⟨p, 0, none⟩), .agg #[.int .i64 3, .int .i64 4], .slice (some ⟨w2.heap.size + 1 + 1 + 1, 0, none⟩) 1 1, .string ⟨#[1]⟩, .agg #[.int .i64 (m1.v 0), .int .u64 (m1.v 1), .int .u64 (m1.v 2), .string ⟨m1.offer.toArray⟩, .int .i64 (m1.v 4), .int .i64 (m1.v 5), .int .i64 (m1.v 6), .int .i64 (m1.v 7), .int .i64 (m1.v 8), .int .i64 (m1.v 9), .int .i64 (m1.v 10), .int .u64 (m1.v 11), .int .u64 (m1.v 12)]] _ _) ∧ o2.Wf)
  obtain ⟨HC, wo2⟩ := HC
  have WO2 := Lib.hid wo2
  clear wo2
  have HC := Lib.hid HC
  have r0 := F4.out.mem.rules; simp only [AllCells, CellsAt, Nat.zero_add, Nat.reduceAdd, talkC] at r0
  have r1 := F5.out.mem.rules; simp only [AllCells, CellsAt, Nat.zero_add, Nat.reduceAdd, talkC] at r1
  have r2 := F6.out.mem.rules; simp only [AllCells, CellsAt, Nat.zero_add, Nat.reduceAdd, talkC] at r2
  have r3 := F7.out.mem.rules; simp only [AllCells, CellsAt, Nat.zero_add, Nat.reduceAdd, talkC] at r3
  have r4 := F8.out.mem.rules; simp only [AllCells, CellsAt, Nat.zero_add, Nat.reduceAdd, talkC] at r4
  have r5 := F9.out.mem.rules; simp only [AllCells, CellsAt, Nat.zero_add, Nat.reduceAdd, talkC] at r5
  go_wp2_with fail
  clear r0 r1 r2 r3 r4 r5
  refine HC.out.mono ?_
  rintro e w3 ⟨rfl, g⟩
  clear HC
  clear F4 F5 F6 F7 F8
  have F10 := Lib.hid g
  have F11 := Lib.hid (F10.out.alloc (.cells #[.int .i64 o2.y.ck, .int .i64 o2.y.k, .int .i64 o2.y.h, .int .u64 o2.y.n, .int .i64 o2.peer, .int .i64 o2.version, .int .u64 o2.stamp, .int .i64 o2.e, .int .i64 o2.ek, .int .i64 o2.pub] 44))
  try simp only [World.size_alloc, size_setCell] at F11
  clear g
  clear F9
  have hfx := (Sough.tn_all 0 (by decide) 1 (by decide) t HT.out).resolve_left HT0.out
  simp only [H1.out, H2.out] at hfx
  obtain ⟨f1, hfx⟩ := hfx
  subst f1
  simp at hfx
  obtain ⟨f2, f3, f4⟩ := hfx
  subst f2
  have FX3 := Lib.hid f3; have FX4 := Lib.hid f4
  clear f3 f4
  have r0 := F10.out.mem.rules; simp only [AllCells, CellsAt, Nat.zero_add, Nat.reduceAdd, talkC] at r0
  have r1 := F11.out.mem.rules; simp only [AllCells, CellsAt, Nat.zero_add, Nat.reduceAdd, talkC] at r1
  go_wp2_with fail
  clear r0 r1
  have rq := SF.rulesOf F11.out; simp only [AllCells, CellsAt, Nat.zero_add, Nat.reduceAdd] at rq
  refine wp_region_later (by kernel_rfl) (by kernel_rfl) ?_
  iterate 15 go_big_quiet_step (fail)
  refine wpQuiet_nil ?_
  rintro ⟨wq, hbq⟩
  change Exit.then _ _ _ _ wq
  have F12 := Lib.hid (F11.out.later hbq)
  clear rq hbq
  have f3 := FX3.out; have f4 := FX4.out
  have r0 := F12.out.mem.rules; simp only [AllCells, CellsAt, Nat.zero_add, Nat.reduceAdd, talkC] at r0
  go_wp2_with fail
  clear r0
  refine (fixed_walk _).mono ?_
  rintro e wF ⟨rfl, hbF⟩
  have FF := Lib.hid (F12.out.later hbF)
  clear hbF
  go_wp2_with fail
  go_ret
  exact ⟨rfl, FF.out.tur.toBelow (by simp) (Nat.le_refl _)⟩

set_option maxRecDepth 100000 in
set_option maxHeartbeats 6400000 in
theorem turned_10 {a b c t : Nat} (ha : (a : Int) % 2 = 1) (hb : (b : Int) % 2 = 0) (hc : (1 : Int) + (c : Int) % 14 = (t : Int)) (ht : t < 15) (ht0 : t ≠ 0) (hab : a < 256 ∧ b < 256 ∧ c < 256) (W : World) :
    Calls Try.prog 5 #[.int .u8 a, .int .u8 b, .int .u8 c] W fun e w' => e = .returned (.bool true) ∧ Below W.heap.size W w' := by
  have HT := Lib.hid ht
  obtain ⟨ha1, hb1, hc1⟩ := hab
  have HT0 := Lib.hid ht0
  clear ht ht0
  go_enter Try.func5, Try.ntmps5
  go_wp2_with fail
  refine (two_any _).mono ?_
  rintro e w1 ⟨p, rfl, g⟩
  have F1 := Lib.hid g
  have F2 := Lib.hid (F1.out.alloc (.cells #[.int .i64 1, .int .i64 2, .int .i64 3, .int .i64 4] 25))
  try simp only [World.size_alloc, size_setCell] at F2
  have F3 := Lib.hid (F2.out.alloc (.cells #[.int .i64 17, .int .i64 18, .int .i64 5, .int .i64 6, .int .i64 15, .int .i64 16, .int .i64 5, .int .i64 6] 29))
  try simp only [World.size_alloc, size_setCell] at F3
  clear g
  obtain ⟨s1, m1, q1, e1, h1⟩ : ∃ s1 m1 q1 e1, Sough.tn1 1 = (s1, m1, q1, e1) := ⟨_, _, _, _, rfl⟩
  have H1 := Lib.hid h1
  clear h1
  have HC := (begin_at (me := Sough.me0) (pr := Sough.peer0) (m := Sough.reqM 7 [1] 1) (stamp := 5) (d0 := 7) (d1 := 8) (d2 := 9) F3.out (Sough.reqM_wf (by decide) ⟨by decide, by decide⟩ (by decide)) (by decide) ⟨⟨by decide, by decide⟩, ⟨by decide, by decide⟩⟩ ⟨⟨by decide, by decide⟩, ⟨by decide, by decide⟩, ⟨by decide, by decide⟩, ⟨by decide, by decide⟩⟩ ⟨⟨by decide, by decide⟩, ⟨by decide, by decide⟩, ⟨by decide, by decide⟩⟩ (by have h := H1.out; unfold Sough.tn1 at h; exact h) : (Calls Try.prog 12 #[.pointer (some ⟨p, 0, none⟩), .agg #[.int .i64 1, .int .i64 2], .agg #[.int .i64 17, .int .i64 18, .int .i64 5, .int .i64 6], .agg #[.int .i64 0, .int .u64 7, .int .u64 0, .string ⟨#[1]⟩, .int .i64 1, .int .i64 0, .int .i64 0, .int .i64 0, .int .i64 0, .int .i64 0, .int .i64 0, .int .u64 0, .int .u64 0], .int .u64 5, .agg #[.int .i64 7, .int .i64 8, .int .i64 9]] _ _) ∧ m1.Wf ∧ q1.Wf)
  obtain ⟨HC, wm1, wq1⟩ := HC
  have WM1 := Lib.hid wm1
  have WQ1 := Lib.hid wq1
  clear wm1 wq1
  have HC := Lib.hid HC
  have r0 := F1.out.mem.rules; simp only [AllCells, CellsAt, Nat.zero_add, Nat.reduceAdd, talkC] at r0
  have r1 := F2.out.mem.rules; simp only [AllCells, CellsAt, Nat.zero_add, Nat.reduceAdd, talkC] at r1
  have r2 := F3.out.mem.rules; simp only [AllCells, CellsAt, Nat.zero_add, Nat.reduceAdd, talkC] at r2
  go_wp2_with fail
  clear r0 r1 r2
  refine HC.out.mono ?_
  rintro e w2 ⟨rfl, g⟩
  clear HC
  clear F1 F2
  have F4 := Lib.hid g
  have F5 := Lib.hid (F4.out.alloc (.cells #[.int .i64 (m1.v 0), .int .u64 (m1.v 1), .int .u64 (m1.v 2), .string ⟨m1.offer.toArray⟩, .int .i64 (m1.v 4), .int .i64 (m1.v 5), .int .i64 (m1.v 6), .int .i64 (m1.v 7), .int .i64 (m1.v 8), .int .i64 (m1.v 9), .int .i64 (m1.v 10), .int .u64 (m1.v 11), .int .u64 (m1.v 12)] 34))
  try simp only [World.size_alloc, size_setCell] at F5
  have F6 := Lib.hid (F5.out.alloc (.cells #[.int .i64 q1.y.ck, .int .i64 q1.y.k, .int .i64 q1.y.h, .int .u64 q1.y.n, .int .i64 q1.e, .int .i64 q1.ek, .string ⟨q1.offer.toArray⟩] 38))
  try simp only [World.size_alloc, size_setCell] at F6
  clear g
  clear F3
  have F7 := Lib.hid (F6.out.alloc (.cells #[.int .i64 15, .int .i64 16, .int .i64 5, .int .i64 6] 28))
  try simp only [World.size_alloc, size_setCell] at F7
  have F8 := Lib.hid (F6.out.alloc (.cells #[.int .i64 15, .int .i64 16, .int .i64 (t : Int), .int .i64 6] 28))
  try simp only [World.size_alloc, size_setCell] at F8
  have F9 := Lib.hid (F8.out.alloc (.cells #[.int .i64 15, .int .i64 16, .int .i64 (t : Int), .int .i64 6] 28))
  try simp only [World.size_alloc, size_setCell] at F9
  obtain ⟨s2, o2, e2, h2⟩ : ∃ s2 o2 e2, Sough.tn2 1 0 t = (s2, o2, e2) := ⟨_, _, _, rfl⟩
  have H2 := Lib.hid h2
  clear h2
  have HC := (open_at (me := Sough.me1) (peers := [Sough.tnP 0 t]) (text := [1]) (m := m1) F9.out ⟨⟨by decide, by decide⟩, ⟨by decide, by decide⟩⟩ (.inr ⟨_, 1, _, rfl, Nat.le_refl _, by omega, List.mem_cons_self ..⟩) (by intro q hq; simp only [List.mem_cons, List.not_mem_nil, or_false] at hq; subst hq; unfold Sough.tnP; simp [Sough.Int64]; omega) (by decide) WM1.out (by have h := H2.out; unfold Sough.tn2 at h; simp only [H1.out] at h; exact h) : (Calls Try.prog 13 #[.pointer (some ⟨p, 0, none⟩), .agg #[.int .i64 3, .int .i64 4], .slice (some ⟨w2.heap.size + 1 + 1 + 1, 0, none⟩) 1 1, .string ⟨#[1]⟩, .agg #[.int .i64 (m1.v 0), .int .u64 (m1.v 1), .int .u64 (m1.v 2), .string ⟨m1.offer.toArray⟩, .int .i64 (m1.v 4), .int .i64 (m1.v 5), .int .i64 (m1.v 6), .int .i64 (m1.v 7), .int .i64 (m1.v 8), .int .i64 (m1.v 9), .int .i64 (m1.v 10), .int .u64 (m1.v 11), .int .u64 (m1.v 12)]] _ _) ∧ o2.Wf)
  obtain ⟨HC, wo2⟩ := HC
  have WO2 := Lib.hid wo2
  clear wo2
  have HC := Lib.hid HC
  have r0 := F4.out.mem.rules; simp only [AllCells, CellsAt, Nat.zero_add, Nat.reduceAdd, talkC] at r0
  have r1 := F5.out.mem.rules; simp only [AllCells, CellsAt, Nat.zero_add, Nat.reduceAdd, talkC] at r1
  have r2 := F6.out.mem.rules; simp only [AllCells, CellsAt, Nat.zero_add, Nat.reduceAdd, talkC] at r2
  have r3 := F7.out.mem.rules; simp only [AllCells, CellsAt, Nat.zero_add, Nat.reduceAdd, talkC] at r3
  have r4 := F8.out.mem.rules; simp only [AllCells, CellsAt, Nat.zero_add, Nat.reduceAdd, talkC] at r4
  have r5 := F9.out.mem.rules; simp only [AllCells, CellsAt, Nat.zero_add, Nat.reduceAdd, talkC] at r5
  go_wp2_with fail
  clear r0 r1 r2 r3 r4 r5
  refine HC.out.mono ?_
  rintro e w3 ⟨rfl, g⟩
  clear HC
  clear F4 F5 F6 F7 F8
  have F10 := Lib.hid g
  have F11 := Lib.hid (F10.out.alloc (.cells #[.int .i64 o2.y.ck, .int .i64 o2.y.k, .int .i64 o2.y.h, .int .u64 o2.y.n, .int .i64 o2.peer, .int .i64 o2.version, .int .u64 o2.stamp, .int .i64 o2.e, .int .i64 o2.ek, .int .i64 o2.pub] 44))
  try simp only [World.size_alloc, size_setCell] at F11
  clear g
  clear F9
  have hfx := (Sough.tn_all 1 (by decide) 0 (by decide) t HT.out).resolve_left HT0.out
  simp only [H1.out, H2.out] at hfx
  obtain ⟨f1, hfx⟩ := hfx
  subst f1
  simp at hfx
  obtain ⟨f2, f3, f4⟩ := hfx
  subst f2
  have FX3 := Lib.hid f3; have FX4 := Lib.hid f4
  clear f3 f4
  have r0 := F10.out.mem.rules; simp only [AllCells, CellsAt, Nat.zero_add, Nat.reduceAdd, talkC] at r0
  have r1 := F11.out.mem.rules; simp only [AllCells, CellsAt, Nat.zero_add, Nat.reduceAdd, talkC] at r1
  go_wp2_with fail
  clear r0 r1
  have rq := SF.rulesOf F11.out; simp only [AllCells, CellsAt, Nat.zero_add, Nat.reduceAdd] at rq
  refine wp_region_later (by kernel_rfl) (by kernel_rfl) ?_
  iterate 15 go_big_quiet_step (fail)
  refine wpQuiet_nil ?_
  rintro ⟨wq, hbq⟩
  change Exit.then _ _ _ _ wq
  have F12 := Lib.hid (F11.out.later hbq)
  clear rq hbq
  have f3 := FX3.out; have f4 := FX4.out
  have r0 := F12.out.mem.rules; simp only [AllCells, CellsAt, Nat.zero_add, Nat.reduceAdd, talkC] at r0
  go_wp2_with fail
  clear r0
  refine (fixed_walk _).mono ?_
  rintro e wF ⟨rfl, hbF⟩
  have FF := Lib.hid (F12.out.later hbF)
  clear hbF
  go_wp2_with fail
  go_ret
  exact ⟨rfl, FF.out.tur.toBelow (by simp) (Nat.le_refl _)⟩

set_option maxRecDepth 100000 in
set_option maxHeartbeats 6400000 in
theorem turned_11 {a b c t : Nat} (ha : (a : Int) % 2 = 1) (hb : (b : Int) % 2 = 1) (hc : (1 : Int) + (c : Int) % 14 = (t : Int)) (ht : t < 15) (ht0 : t ≠ 0) (hab : a < 256 ∧ b < 256 ∧ c < 256) (W : World) :
    Calls Try.prog 5 #[.int .u8 a, .int .u8 b, .int .u8 c] W fun e w' => e = .returned (.bool true) ∧ Below W.heap.size W w' := by
  have HT := Lib.hid ht
  obtain ⟨ha1, hb1, hc1⟩ := hab
  have HT0 := Lib.hid ht0
  clear ht ht0
  go_enter Try.func5, Try.ntmps5
  go_wp2_with fail
  refine (two_any _).mono ?_
  rintro e w1 ⟨p, rfl, g⟩
  have F1 := Lib.hid g
  have F2 := Lib.hid (F1.out.alloc (.cells #[.int .i64 1, .int .i64 2, .int .i64 3, .int .i64 4] 25))
  try simp only [World.size_alloc, size_setCell] at F2
  have F3 := Lib.hid (F2.out.alloc (.cells #[.int .i64 17, .int .i64 18, .int .i64 5, .int .i64 6, .int .i64 15, .int .i64 16, .int .i64 5, .int .i64 6] 29))
  try simp only [World.size_alloc, size_setCell] at F3
  clear g
  obtain ⟨s1, m1, q1, e1, h1⟩ : ∃ s1 m1 q1 e1, Sough.tn1 1 = (s1, m1, q1, e1) := ⟨_, _, _, _, rfl⟩
  have H1 := Lib.hid h1
  clear h1
  have HC := (begin_at (me := Sough.me0) (pr := Sough.peer0) (m := Sough.reqM 7 [1] 1) (stamp := 5) (d0 := 7) (d1 := 8) (d2 := 9) F3.out (Sough.reqM_wf (by decide) ⟨by decide, by decide⟩ (by decide)) (by decide) ⟨⟨by decide, by decide⟩, ⟨by decide, by decide⟩⟩ ⟨⟨by decide, by decide⟩, ⟨by decide, by decide⟩, ⟨by decide, by decide⟩, ⟨by decide, by decide⟩⟩ ⟨⟨by decide, by decide⟩, ⟨by decide, by decide⟩, ⟨by decide, by decide⟩⟩ (by have h := H1.out; unfold Sough.tn1 at h; exact h) : (Calls Try.prog 12 #[.pointer (some ⟨p, 0, none⟩), .agg #[.int .i64 1, .int .i64 2], .agg #[.int .i64 17, .int .i64 18, .int .i64 5, .int .i64 6], .agg #[.int .i64 0, .int .u64 7, .int .u64 0, .string ⟨#[1]⟩, .int .i64 1, .int .i64 0, .int .i64 0, .int .i64 0, .int .i64 0, .int .i64 0, .int .i64 0, .int .u64 0, .int .u64 0], .int .u64 5, .agg #[.int .i64 7, .int .i64 8, .int .i64 9]] _ _) ∧ m1.Wf ∧ q1.Wf)
  obtain ⟨HC, wm1, wq1⟩ := HC
  have WM1 := Lib.hid wm1
  have WQ1 := Lib.hid wq1
  clear wm1 wq1
  have HC := Lib.hid HC
  have r0 := F1.out.mem.rules; simp only [AllCells, CellsAt, Nat.zero_add, Nat.reduceAdd, talkC] at r0
  have r1 := F2.out.mem.rules; simp only [AllCells, CellsAt, Nat.zero_add, Nat.reduceAdd, talkC] at r1
  have r2 := F3.out.mem.rules; simp only [AllCells, CellsAt, Nat.zero_add, Nat.reduceAdd, talkC] at r2
  go_wp2_with fail
  clear r0 r1 r2
  refine HC.out.mono ?_
  rintro e w2 ⟨rfl, g⟩
  clear HC
  clear F1 F2
  have F4 := Lib.hid g
  have F5 := Lib.hid (F4.out.alloc (.cells #[.int .i64 (m1.v 0), .int .u64 (m1.v 1), .int .u64 (m1.v 2), .string ⟨m1.offer.toArray⟩, .int .i64 (m1.v 4), .int .i64 (m1.v 5), .int .i64 (m1.v 6), .int .i64 (m1.v 7), .int .i64 (m1.v 8), .int .i64 (m1.v 9), .int .i64 (m1.v 10), .int .u64 (m1.v 11), .int .u64 (m1.v 12)] 34))
  try simp only [World.size_alloc, size_setCell] at F5
  have F6 := Lib.hid (F5.out.alloc (.cells #[.int .i64 q1.y.ck, .int .i64 q1.y.k, .int .i64 q1.y.h, .int .u64 q1.y.n, .int .i64 q1.e, .int .i64 q1.ek, .string ⟨q1.offer.toArray⟩] 38))
  try simp only [World.size_alloc, size_setCell] at F6
  clear g
  clear F3
  have F7 := Lib.hid (F6.out.alloc (.cells #[.int .i64 15, .int .i64 16, .int .i64 5, .int .i64 6] 28))
  try simp only [World.size_alloc, size_setCell] at F7
  have F8 := Lib.hid (F6.out.alloc (.cells #[.int .i64 15, .int .i64 16, .int .i64 5, .int .i64 (t : Int)] 28))
  try simp only [World.size_alloc, size_setCell] at F8
  have F9 := Lib.hid (F8.out.alloc (.cells #[.int .i64 15, .int .i64 16, .int .i64 5, .int .i64 (t : Int)] 28))
  try simp only [World.size_alloc, size_setCell] at F9
  obtain ⟨s2, o2, e2, h2⟩ : ∃ s2 o2 e2, Sough.tn2 1 1 t = (s2, o2, e2) := ⟨_, _, _, rfl⟩
  have H2 := Lib.hid h2
  clear h2
  have HC := (open_at (me := Sough.me1) (peers := [Sough.tnP 1 t]) (text := [1]) (m := m1) F9.out ⟨⟨by decide, by decide⟩, ⟨by decide, by decide⟩⟩ (.inr ⟨_, 1, _, rfl, Nat.le_refl _, by omega, List.mem_cons_self ..⟩) (by intro q hq; simp only [List.mem_cons, List.not_mem_nil, or_false] at hq; subst hq; unfold Sough.tnP; simp [Sough.Int64]; omega) (by decide) WM1.out (by have h := H2.out; unfold Sough.tn2 at h; simp only [H1.out] at h; exact h) : (Calls Try.prog 13 #[.pointer (some ⟨p, 0, none⟩), .agg #[.int .i64 3, .int .i64 4], .slice (some ⟨w2.heap.size + 1 + 1 + 1, 0, none⟩) 1 1, .string ⟨#[1]⟩, .agg #[.int .i64 (m1.v 0), .int .u64 (m1.v 1), .int .u64 (m1.v 2), .string ⟨m1.offer.toArray⟩, .int .i64 (m1.v 4), .int .i64 (m1.v 5), .int .i64 (m1.v 6), .int .i64 (m1.v 7), .int .i64 (m1.v 8), .int .i64 (m1.v 9), .int .i64 (m1.v 10), .int .u64 (m1.v 11), .int .u64 (m1.v 12)]] _ _) ∧ o2.Wf)
  obtain ⟨HC, wo2⟩ := HC
  have WO2 := Lib.hid wo2
  clear wo2
  have HC := Lib.hid HC
  have r0 := F4.out.mem.rules; simp only [AllCells, CellsAt, Nat.zero_add, Nat.reduceAdd, talkC] at r0
  have r1 := F5.out.mem.rules; simp only [AllCells, CellsAt, Nat.zero_add, Nat.reduceAdd, talkC] at r1
  have r2 := F6.out.mem.rules; simp only [AllCells, CellsAt, Nat.zero_add, Nat.reduceAdd, talkC] at r2
  have r3 := F7.out.mem.rules; simp only [AllCells, CellsAt, Nat.zero_add, Nat.reduceAdd, talkC] at r3
  have r4 := F8.out.mem.rules; simp only [AllCells, CellsAt, Nat.zero_add, Nat.reduceAdd, talkC] at r4
  have r5 := F9.out.mem.rules; simp only [AllCells, CellsAt, Nat.zero_add, Nat.reduceAdd, talkC] at r5
  go_wp2_with fail
  clear r0 r1 r2 r3 r4 r5
  refine HC.out.mono ?_
  rintro e w3 ⟨rfl, g⟩
  clear HC
  clear F4 F5 F6 F7 F8
  have F10 := Lib.hid g
  have F11 := Lib.hid (F10.out.alloc (.cells #[.int .i64 o2.y.ck, .int .i64 o2.y.k, .int .i64 o2.y.h, .int .u64 o2.y.n, .int .i64 o2.peer, .int .i64 o2.version, .int .u64 o2.stamp, .int .i64 o2.e, .int .i64 o2.ek, .int .i64 o2.pub] 44))
  try simp only [World.size_alloc, size_setCell] at F11
  clear g
  clear F9
  have hfx := (Sough.tn_all 1 (by decide) 1 (by decide) t HT.out).resolve_left HT0.out
  simp only [H1.out, H2.out] at hfx
  obtain ⟨f1, hfx⟩ := hfx
  subst f1
  by_cases hc : t = 6
  · simp [hc] at hfx
    have b1 : ((t : Int) != 6) = false := by subst hc; rfl
    obtain ⟨f2, f3, f4⟩ := hfx
    subst f2
    have FX3 := Lib.hid f3; have FX4 := Lib.hid f4
    clear f3 f4
    have r0 := F10.out.mem.rules; simp only [AllCells, CellsAt, Nat.zero_add, Nat.reduceAdd, talkC] at r0
    have r1 := F11.out.mem.rules; simp only [AllCells, CellsAt, Nat.zero_add, Nat.reduceAdd, talkC] at r1
    go_wp2_with fail
    clear r0 r1
    have rq := SF.rulesOf F11.out; simp only [AllCells, CellsAt, Nat.zero_add, Nat.reduceAdd] at rq
    refine wp_region_later (by kernel_rfl) (by kernel_rfl) ?_
    iterate 15 go_big_quiet_step (fail)
    refine wpQuiet_nil ?_
    rintro ⟨wq, hbq⟩
    change Exit.then _ _ _ _ wq
    have F12 := Lib.hid (F11.out.later hbq)
    clear rq hbq
    have f3 := FX3.out; have f4 := FX4.out
    have r0 := F12.out.mem.rules; simp only [AllCells, CellsAt, Nat.zero_add, Nat.reduceAdd, talkC] at r0
    go_wp2_with fail
    clear r0
    refine (fixed_walk _).mono ?_
    rintro e wF ⟨rfl, hbF⟩
    have FF := Lib.hid (F12.out.later hbF)
    clear hbF
    go_wp2_with fail
    go_ret
    exact ⟨rfl, FF.out.tur.toBelow (by simp) (Nat.le_refl _)⟩
  · have hc2 : t ≠ 6 := hc
    simp [hc2] at hfx
    have b1 : ((t : Int) != 6) = true := by simp; omega
    obtain ⟨f2, f3⟩ := hfx
    subst f2
    have EQ : ∀ w, (Op.equalIn 10000 44 (.agg #[.int .i64 o2.y.ck, .int .i64 o2.y.k, .int .i64 o2.y.h, .int .u64 o2.y.n, .int .i64 o2.peer, .int .i64 o2.version, .int .u64 o2.stamp, .int .i64 o2.e, .int .i64 o2.ek, .int .i64 o2.pub]) (.agg #[.int .i64 0, .int .i64 0, .int .i64 0, .int .u64 0, .int .i64 0, .int .i64 0, .int .u64 0, .int .i64 0, .int .i64 0, .int .i64 0])).run Try.prog w = .ok true w := fun w => (eqOpened o2 Sough.zeroO w).trans (by rw [decide_eq_true f3])
    have EG : Try.prog.eqGuardType Try.prog.depth 44 = false := by kernel_rfl
    clear f3
    have r0 := F10.out.mem.rules; simp only [AllCells, CellsAt, Nat.zero_add, Nat.reduceAdd, talkC] at r0
    have r1 := F11.out.mem.rules; simp only [AllCells, CellsAt, Nat.zero_add, Nat.reduceAdd, talkC] at r1
    go_wp2_with fail
    clear r0 r1
    have rq := SF.rulesOf F11.out; simp only [AllCells, CellsAt, Nat.zero_add, Nat.reduceAdd] at rq
    refine wp_region_later (by kernel_rfl) (by kernel_rfl) ?_
    iterate 15 go_big_quiet_step (fail)
    refine wpQuiet_nil ?_
    rintro ⟨wq, hbq⟩
    change Exit.then _ _ _ _ wq
    have F13 := Lib.hid (F11.out.later hbq)
    clear rq hbq
    have r0 := F13.out.mem.rules; simp only [AllCells, CellsAt, Nat.zero_add, Nat.reduceAdd, talkC] at r0
    go_wp2_with fail
    clear r0
    refine (fixed_walk _).mono ?_
    rintro e wF ⟨rfl, hbF⟩
    have FF := Lib.hid (F13.out.later hbF)
    clear hbF
    go_wp2_with fail
    go_ret
    exact ⟨rfl, FF.out.tur.toBelow (by simp) (Nat.le_refl _)⟩

theorem handTurned_walk (a b c : Int) (W : World) (wa : (Lit.int .u8 a).wf = true) (wb : (Lit.int .u8 b).wf = true) (wc : (Lit.int .u8 c).wf = true) :
    Calls Try.prog 5 #[.int .u8 a, .int .u8 b, .int .u8 c] W fun e w' => e = .returned (.bool true) ∧ Below W.heap.size W w' := by
  have b0 := bounds_u8 wa
  have b1 := bounds_u8 wb
  have b2 := bounds_u8 wc
  obtain ⟨x, rfl⟩ := Int.eq_ofNat_of_zero_le b0.1
  obtain ⟨y, rfl⟩ := Int.eq_ofNat_of_zero_le b1.1
  obtain ⟨z, rfl⟩ := Int.eq_ofNat_of_zero_le b2.1
  have h : (1 : Int) + (z : Int) % 14 = ((1 + z % 14 : Nat) : Int) := by omega
  rcases Nat.mod_two_eq_zero_or_one x with hx | hx <;> rcases Nat.mod_two_eq_zero_or_one y with hy | hy
  · exact turned_00 (by omega) (by omega) h (by omega) (by omega) (by omega) W
  · exact turned_01 (by omega) (by omega) h (by omega) (by omega) (by omega) W
  · exact turned_10 (by omega) (by omega) h (by omega) (by omega) (by omega) W
  · exact turned_11 (by omega) (by omega) h (by omega) (by omega) (by omega) W

end Go.Proofs.Ytlfgempjjoclbaa
