/- The walk of HandEnds, draw 1. (Printed by wip/tools/mkends.py.) -/
import Derived.Test.YtlfgempjjoclbaaLHdEndsPlain
namespace Go.Proofs.Ytlfgempjjoclbaa
open Go.RowKit Go.Maps Go.ChangeMaps

set_option maxRecDepth 100000 in
set_option maxHeartbeats 6400000 in
theorem ends_1 {n b : Nat} (hb : (b : Int) % 3 = 1) (hn : n < 256) (hb2 : b < 256) (W : World) :
    Calls Try.prog 7 #[.int .u8 n, .int .u8 b] W fun e w' => e = .returned (.bool true) ∧ Below W.heap.size W w' := by
  have HFX := Lib.hid (Sough.en_all (o := 1) (by omega) hn)
  have HN := Lib.hid (show n < 18446744073709551616 by omega)
  go_enter Try.func7, Try.ntmps7
  go_wp2_with fail
  refine (two_any _).mono ?_
  rintro e w1 ⟨p, rfl, g⟩
  have F1 := Lib.hid g
  have F2 := Lib.hid (F1.out.alloc (.cells #[.int .i64 1, .int .i64 2, .int .i64 3, .int .i64 4] 25))
  try simp only [World.size_alloc, size_setCell] at F2
  have F3 := Lib.hid (F2.out.alloc (.cells #[.int .i64 17, .int .i64 18, .int .i64 5, .int .i64 6, .int .i64 15, .int .i64 16, .int .i64 5, .int .i64 6] 29))
  try simp only [World.size_alloc, size_setCell] at F3
  clear g
  obtain ⟨s1, m1, q1, e1, h1⟩ : ∃ s1 m1 q1 e1, Sough.en1 n = (s1, m1, q1, e1) := ⟨_, _, _, _, rfl⟩
  have H1 := Lib.hid h1
  clear h1
  have HC := (begin_at (me := Sough.me0) (pr := Sough.peer0) (m := Sough.reqM 7 [2, 1] 0) (stamp := n) (d0 := 7) (d1 := 8) (d2 := 9) F3.out (Sough.reqM_wf (by decide) ⟨by decide, by decide⟩ (by decide)) HN.out ⟨⟨by decide, by decide⟩, ⟨by decide, by decide⟩⟩ ⟨⟨by decide, by decide⟩, ⟨by decide, by decide⟩, ⟨by decide, by decide⟩, ⟨by decide, by decide⟩⟩ ⟨⟨by decide, by decide⟩, ⟨by decide, by decide⟩, ⟨by decide, by decide⟩⟩ (by have h := H1.out; unfold Sough.en1 at h; exact h) : (Calls Try.prog 12 #[.pointer (some ⟨p, 0, none⟩), .agg #[.int .i64 1, .int .i64 2], .agg #[.int .i64 17, .int .i64 18, .int .i64 5, .int .i64 6], .agg #[.int .i64 0, .int .u64 7, .int .u64 0, .string ⟨#[2, 1]⟩, .int .i64 0, .int .i64 0, .int .i64 0, .int .i64 0, .int .i64 0, .int .i64 0, .int .i64 0, .int .u64 0, .int .u64 0], .int .u64 (n : Int), .agg #[.int .i64 7, .int .i64 8, .int .i64 9]] _ _) ∧ m1.Wf ∧ q1.Wf)
  obtain ⟨HC, wm1, wq1⟩ := HC
  have WM1 := Lib.hid wm1
  have WQ1 := Lib.hid wq1
  clear wm1 wq1
  have HC := Lib.hid HC
  have r0 := F1.out.mem.rules; simp only [AllCells, CellsAt, Nat.zero_add, Nat.reduceAdd, talkC] at r0
  have r1 := F2.out.mem.rules; simp only [AllCells, CellsAt, Nat.zero_add, Nat.reduceAdd, talkC] at r1
  have r2 := F3.out.mem.rules; simp only [AllCells, CellsAt, Nat.zero_add, Nat.reduceAdd, talkC] at r2
  go_wp2_with fail
  clear r0 r1 r2
  refine HC.out.mono ?_
  rintro e w2 ⟨rfl, g⟩
  clear HC
  clear F1 F2
  have F4 := Lib.hid g
  have F5 := Lib.hid (F4.out.alloc (.cells #[.int .i64 (m1.v 0), .int .u64 (m1.v 1), .int .u64 (m1.v 2), .string ⟨m1.offer.toArray⟩, .int .i64 (m1.v 4), .int .i64 (m1.v 5), .int .i64 (m1.v 6), .int .i64 (m1.v 7), .int .i64 (m1.v 8), .int .i64 (m1.v 9), .int .i64 (m1.v 10), .int .u64 (m1.v 11), .int .u64 (m1.v 12)] 34))
  try simp only [World.size_alloc, size_setCell] at F5
  have F6 := Lib.hid (F5.out.alloc (.cells #[.int .i64 q1.y.ck, .int .i64 q1.y.k, .int .i64 q1.y.h, .int .u64 q1.y.n, .int .i64 q1.e, .int .i64 q1.ek, .string ⟨q1.offer.toArray⟩] 38))
  try simp only [World.size_alloc, size_setCell] at F6
  clear g
  clear F3
  have F7 := Lib.hid (F6.out.alloc (.cells #[.int .i64 12, .int .i64 13, .int .i64 14] 42))
  try simp only [World.size_alloc, size_setCell] at F7
  have F8 := Lib.hid (F6.out.alloc (.cells #[.int .i64 12, .int .i64 8, .int .i64 14] 42))
  try simp only [World.size_alloc, size_setCell] at F8
  obtain ⟨s2, m2, q2, e2, h2⟩ : ∃ s2 m2 q2 e2, Sough.en2 n 1 = (s2, m2, q2, e2) := ⟨_, _, _, _, rfl⟩
  have H2 := Lib.hid h2
  clear h2
  have HC := (begin_at (me := Sough.me0) (pr := Sough.peer0) (m := Sough.reqM 8 [2, 1] 0) (stamp := n) (d0 := 12) (d1 := 8) (d2 := 14) F8.out (Sough.reqM_wf (by decide) ⟨by decide, by decide⟩ (by decide)) HN.out ⟨⟨by decide, by decide⟩, ⟨by decide, by decide⟩⟩ ⟨⟨by decide, by decide⟩, ⟨by decide, by decide⟩, ⟨by decide, by decide⟩, ⟨by decide, by decide⟩⟩ ⟨⟨by decide, by decide⟩, ⟨by decide, by decide⟩, ⟨by decide, by decide⟩⟩ (by have h := H2.out; unfold Sough.en2 at h; simp only [H1.out] at h; exact h) : (Calls Try.prog 12 #[.pointer (some ⟨p, 0, none⟩), .agg #[.int .i64 1, .int .i64 2], .agg #[.int .i64 17, .int .i64 18, .int .i64 5, .int .i64 6], .agg #[.int .i64 0, .int .u64 8, .int .u64 0, .string ⟨#[2, 1]⟩, .int .i64 0, .int .i64 0, .int .i64 0, .int .i64 0, .int .i64 0, .int .i64 0, .int .i64 0, .int .u64 0, .int .u64 0], .int .u64 (n : Int), .agg #[.int .i64 12, .int .i64 8, .int .i64 14]] _ _) ∧ m2.Wf ∧ q2.Wf)
  obtain ⟨HC, wm2, wq2⟩ := HC
  have WM2 := Lib.hid wm2
  have WQ2 := Lib.hid wq2
  clear wm2 wq2
  have HC := Lib.hid HC
  have r0 := F4.out.mem.rules; simp only [AllCells, CellsAt, Nat.zero_add, Nat.reduceAdd, talkC] at r0
  have r1 := F5.out.mem.rules; simp only [AllCells, CellsAt, Nat.zero_add, Nat.reduceAdd, talkC] at r1
  have r2 := F6.out.mem.rules; simp only [AllCells, CellsAt, Nat.zero_add, Nat.reduceAdd, talkC] at r2
  have r3 := F7.out.mem.rules; simp only [AllCells, CellsAt, Nat.zero_add, Nat.reduceAdd, talkC] at r3
  have r4 := F8.out.mem.rules; simp only [AllCells, CellsAt, Nat.zero_add, Nat.reduceAdd, talkC] at r4
  go_wp2_with fail
  clear r0 r1 r2 r3 r4
  refine HC.out.mono ?_
  rintro e w3 ⟨rfl, g⟩
  clear HC
  clear F4 F5 F6 F7
  have F9 := Lib.hid g
  have F10 := Lib.hid (F9.out.alloc (.cells #[.int .i64 (m2.v 0), .int .u64 (m2.v 1), .int .u64 (m2.v 2), .string ⟨m2.offer.toArray⟩, .int .i64 (m2.v 4), .int .i64 (m2.v 5), .int .i64 (m2.v 6), .int .i64 (m2.v 7), .int .i64 (m2.v 8), .int .i64 (m2.v 9), .int .i64 (m2.v 10), .int .u64 (m2.v 11), .int .u64 (m2.v 12)] 34))
  try simp only [World.size_alloc, size_setCell] at F10
  have F11 := Lib.hid (F10.out.alloc (.cells #[.int .i64 q2.y.ck, .int .i64 q2.y.k, .int .i64 q2.y.h, .int .u64 q2.y.n, .int .i64 q2.e, .int .i64 q2.ek, .string ⟨q2.offer.toArray⟩] 38))
  try simp only [World.size_alloc, size_setCell] at F11
  clear g
  clear F8
  have F12 := Lib.hid (F11.out.alloc (.cells #[.int .i64 15, .int .i64 16, .int .i64 5, .int .i64 6] 28))
  try simp only [World.size_alloc, size_setCell] at F12
  obtain ⟨s3, o3, e3, h3⟩ : ∃ s3 o3 e3, Sough.en3 n 1 = (s3, o3, e3) := ⟨_, _, _, rfl⟩
  have H3 := Lib.hid h3
  clear h3
  have HC := (open_at (me := Sough.me1) (peers := [Sough.peer1]) (text := [1]) (m := m1) F12.out ⟨⟨by decide, by decide⟩, ⟨by decide, by decide⟩⟩ (.inr ⟨_, 1, _, rfl, Nat.le_refl _, by omega, List.mem_cons_self ..⟩) (by intro q hq; simp only [List.mem_cons, List.not_mem_nil, or_false] at hq; subst hq; exact ⟨⟨by decide, by decide⟩, ⟨by decide, by decide⟩⟩) (by decide) WM1.out (by have h := H3.out; unfold Sough.en3 at h; simp only [H1.out, H2.out] at h; exact h) : (Calls Try.prog 13 #[.pointer (some ⟨p, 0, none⟩), .agg #[.int .i64 3, .int .i64 4], .slice (some ⟨w3.heap.size + 1 + 1, 0, none⟩) 1 1, .string ⟨#[1]⟩, .agg #[.int .i64 (m1.v 0), .int .u64 (m1.v 1), .int .u64 (m1.v 2), .string ⟨m1.offer.toArray⟩, .int .i64 (m1.v 4), .int .i64 (m1.v 5), .int .i64 (m1.v 6), .int .i64 (m1.v 7), .int .i64 (m1.v 8), .int .i64 (m1.v 9), .int .i64 (m1.v 10), .int .u64 (m1.v 11), .int .u64 (m1.v 12)]] _ _) ∧ o3.Wf)
  obtain ⟨HC, wo3⟩ := HC
  have WO3 := Lib.hid wo3
  clear wo3
  have HC := Lib.hid HC
  have r0 := F9.out.mem.rules; simp only [AllCells, CellsAt, Nat.zero_add, Nat.reduceAdd, talkC] at r0
  have r1 := F10.out.mem.rules; simp only [AllCells, CellsAt, Nat.zero_add, Nat.reduceAdd, talkC] at r1
  have r2 := F11.out.mem.rules; simp only [AllCells, CellsAt, Nat.zero_add, Nat.reduceAdd, talkC] at r2
  have r3 := F12.out.mem.rules; simp only [AllCells, CellsAt, Nat.zero_add, Nat.reduceAdd, talkC] at r3
  go_wp2_with fail
  clear r0 r1 r2 r3
  refine HC.out.mono ?_
  rintro e w4 ⟨rfl, g⟩
  clear HC
  clear F9 F10 F11
  have F13 := Lib.hid g
  have F14 := Lib.hid (F13.out.alloc (.cells #[.int .i64 o3.y.ck, .int .i64 o3.y.k, .int .i64 o3.y.h, .int .u64 o3.y.n, .int .i64 o3.peer, .int .i64 o3.version, .int .u64 o3.stamp, .int .i64 o3.e, .int .i64 o3.ek, .int .i64 o3.pub] 44))
  try simp only [World.size_alloc, size_setCell] at F14
  clear g
  clear F12
  obtain ⟨s4, y4, u4, e4, h4⟩ : ∃ s4 y4 u4 e4, Sough.en4 n 1 = (s4, y4, u4, e4) := ⟨_, _, _, _, rfl⟩
  have H4 := Lib.hid h4
  clear h4
  have HC := (answer_at (o := o3) (frm := 9) (to := 7) (d0 := 10) (d1 := 11) F14.out WO3.out ⟨by decide, by decide⟩ ⟨⟨by decide, by decide⟩, ⟨by decide, by decide⟩⟩ (by have h := H4.out; unfold Sough.en4 at h; simp only [H1.out, H2.out, H3.out] at h; exact h) : (Calls Try.prog 14 #[.pointer (some ⟨p, 0, none⟩), .agg #[.int .i64 o3.y.ck, .int .i64 o3.y.k, .int .i64 o3.y.h, .int .u64 o3.y.n, .int .i64 o3.peer, .int .i64 o3.version, .int .u64 o3.stamp, .int .i64 o3.e, .int .i64 o3.ek, .int .i64 o3.pub], .int .u64 9, .int .u64 7, .agg #[.int .i64 10, .int .i64 11]] _ _) ∧ y4.Wf ∧ u4.Wf)
  obtain ⟨HC, wy4, wu4⟩ := HC
  have WY4 := Lib.hid wy4
  have WU4 := Lib.hid wu4
  clear wy4 wu4
  have HC := Lib.hid HC
  have r0 := F13.out.mem.rules; simp only [AllCells, CellsAt, Nat.zero_add, Nat.reduceAdd, talkC] at r0
  have r1 := F14.out.mem.rules; simp only [AllCells, CellsAt, Nat.zero_add, Nat.reduceAdd, talkC] at r1
  go_wp2_with fail
  clear r0 r1
  refine HC.out.mono ?_
  rintro e w5 ⟨rfl, g⟩
  clear HC
  clear F13
  have F15 := Lib.hid g
  have F16 := Lib.hid (F15.out.alloc (.cells #[.int .i64 (y4.v 0), .int .u64 (y4.v 1), .int .u64 (y4.v 2), .string ⟨y4.offer.toArray⟩, .int .i64 (y4.v 4), .int .i64 (y4.v 5), .int .i64 (y4.v 6), .int .i64 (y4.v 7), .int .i64 (y4.v 8), .int .i64 (y4.v 9), .int .i64 (y4.v 10), .int .u64 (y4.v 11), .int .u64 (y4.v 12)] 34))
  try simp only [World.size_alloc, size_setCell] at F16
  have F17 := Lib.hid (F16.out.alloc (.cells #[.int .i64 u4.h, .int .i64 u4.send, .int .i64 u4.recv, .int .i64 u4.version] 49))
  try simp only [World.size_alloc, size_setCell] at F17
  clear g
  clear F14
  obtain ⟨s5, v5, e5, h5⟩ : ∃ s5 v5 e5, Sough.en5 n 1 = (s5, v5, e5) := ⟨_, _, _, rfl⟩
  have H5 := Lib.hid h5
  clear h5
  have HC := (finish_at (me := Sough.me0) (q := q1) (m := y4) F17.out ⟨by decide, by decide⟩ WQ1.out WY4.out (by have h := H5.out; unfold Sough.en5 at h; simp only [H1.out, H2.out, H3.out, H4.out] at h; exact h) : (Calls Try.prog 16 #[.pointer (some ⟨p, 0, none⟩), .agg #[.int .i64 1, .int .i64 2], .agg #[.int .i64 q1.y.ck, .int .i64 q1.y.k, .int .i64 q1.y.h, .int .u64 q1.y.n, .int .i64 q1.e, .int .i64 q1.ek, .string ⟨q1.offer.toArray⟩], .agg #[.int .i64 (y4.v 0), .int .u64 (y4.v 1), .int .u64 (y4.v 2), .string ⟨y4.offer.toArray⟩, .int .i64 (y4.v 4), .int .i64 (y4.v 5), .int .i64 (y4.v 6), .int .i64 (y4.v 7), .int .i64 (y4.v 8), .int .i64 (y4.v 9), .int .i64 (y4.v 10), .int .u64 (y4.v 11), .int .u64 (y4.v 12)]] _ _) ∧ v5.Wf)
  obtain ⟨HC, wz5⟩ := HC
  have WZ5 := Lib.hid wz5
  clear wz5
  have HC := Lib.hid HC
  have r0 := F15.out.mem.rules; simp only [AllCells, CellsAt, Nat.zero_add, Nat.reduceAdd, talkC] at r0
  have r1 := F16.out.mem.rules; simp only [AllCells, CellsAt, Nat.zero_add, Nat.reduceAdd, talkC] at r1
  have r2 := F17.out.mem.rules; simp only [AllCells, CellsAt, Nat.zero_add, Nat.reduceAdd, talkC] at r2
  go_wp2_with fail
  clear r0 r1 r2
  refine HC.out.mono ?_
  rintro e w6 ⟨rfl, g⟩
  clear HC
  clear F15 F16
  have F18 := Lib.hid g
  have F19 := Lib.hid (F18.out.alloc (.cells #[.int .i64 v5.h, .int .i64 v5.send, .int .i64 v5.recv, .int .i64 v5.version] 49))
  try simp only [World.size_alloc, size_setCell] at F19
  clear g
  clear F17
  obtain ⟨s6, v6, e6, h6⟩ : ∃ s6 v6 e6, Sough.en6 n 1 = (s6, v6, e6) := ⟨_, _, _, rfl⟩
  have H6 := Lib.hid h6
  clear h6
  have HC := (finish_at (me := Sough.me0) (q := q1) (m := y4) F19.out ⟨by decide, by decide⟩ WQ1.out WY4.out (by have h := H6.out; unfold Sough.en6 at h; simp only [H1.out, H2.out, H3.out, H4.out, H5.out] at h; exact h) : (Calls Try.prog 16 #[.pointer (some ⟨p, 0, none⟩), .agg #[.int .i64 1, .int .i64 2], .agg #[.int .i64 q1.y.ck, .int .i64 q1.y.k, .int .i64 q1.y.h, .int .u64 q1.y.n, .int .i64 q1.e, .int .i64 q1.ek, .string ⟨q1.offer.toArray⟩], .agg #[.int .i64 (y4.v 0), .int .u64 (y4.v 1), .int .u64 (y4.v 2), .string ⟨y4.offer.toArray⟩, .int .i64 (y4.v 4), .int .i64 (y4.v 5), .int .i64 (y4.v 6), .int .i64 (y4.v 7), .int .i64 (y4.v 8), .int .i64 (y4.v 9), .int .i64 (y4.v 10), .int .u64 (y4.v 11), .int .u64 (y4.v 12)]] _ _) ∧ v6.Wf)
  obtain ⟨HC, wz6⟩ := HC
  have WZ6 := Lib.hid wz6
  clear wz6
  have HC := Lib.hid HC
  have r0 := F18.out.mem.rules; simp only [AllCells, CellsAt, Nat.zero_add, Nat.reduceAdd, talkC] at r0
  have r1 := F19.out.mem.rules; simp only [AllCells, CellsAt, Nat.zero_add, Nat.reduceAdd, talkC] at r1
  go_wp2_with fail
  clear r0 r1
  refine HC.out.mono ?_
  rintro e w7 ⟨rfl, g⟩
  clear HC
  clear F18
  have F20 := Lib.hid g
  have F21 := Lib.hid (F20.out.alloc (.cells #[.int .i64 v6.h, .int .i64 v6.send, .int .i64 v6.recv, .int .i64 v6.version] 49))
  try simp only [World.size_alloc, size_setCell] at F21
  clear g
  clear F19
  obtain ⟨s7, v7, e7, h7⟩ : ∃ s7 v7 e7, Sough.en7 n 1 = (s7, v7, e7) := ⟨_, _, _, rfl⟩
  have H7 := Lib.hid h7
  clear h7
  have HC := (finish_at (me := Sough.me0) (q := q2) (m := y4) F21.out ⟨by decide, by decide⟩ WQ2.out WY4.out (by have h := H7.out; unfold Sough.en7 at h; simp only [H1.out, H2.out, H3.out, H4.out, H5.out, H6.out] at h; exact h) : (Calls Try.prog 16 #[.pointer (some ⟨p, 0, none⟩), .agg #[.int .i64 1, .int .i64 2], .agg #[.int .i64 q2.y.ck, .int .i64 q2.y.k, .int .i64 q2.y.h, .int .u64 q2.y.n, .int .i64 q2.e, .int .i64 q2.ek, .string ⟨q2.offer.toArray⟩], .agg #[.int .i64 (y4.v 0), .int .u64 (y4.v 1), .int .u64 (y4.v 2), .string ⟨y4.offer.toArray⟩, .int .i64 (y4.v 4), .int .i64 (y4.v 5), .int .i64 (y4.v 6), .int .i64 (y4.v 7), .int .i64 (y4.v 8), .int .i64 (y4.v 9), .int .i64 (y4.v 10), .int .u64 (y4.v 11), .int .u64 (y4.v 12)]] _ _) ∧ v7.Wf)
  obtain ⟨HC, wz7⟩ := HC
  have WZ7 := Lib.hid wz7
  clear wz7
  have HC := Lib.hid HC
  have r0 := F20.out.mem.rules; simp only [AllCells, CellsAt, Nat.zero_add, Nat.reduceAdd, talkC] at r0
  have r1 := F21.out.mem.rules; simp only [AllCells, CellsAt, Nat.zero_add, Nat.reduceAdd, talkC] at r1
  go_wp2_with fail
  clear r0 r1
  refine HC.out.mono ?_
  rintro e w8 ⟨rfl, g⟩
  clear HC
  clear F20
  have F22 := Lib.hid g
  have F23 := Lib.hid (F22.out.alloc (.cells #[.int .i64 v7.h, .int .i64 v7.send, .int .i64 v7.recv, .int .i64 v7.version] 49))
  try simp only [World.size_alloc, size_setCell] at F23
  clear g
  clear F21
  obtain ⟨s8, v8, e8, h8⟩ : ∃ s8 v8 e8, Sough.en8 n 1 = (s8, v8, e8) := ⟨_, _, _, rfl⟩
  have H8 := Lib.hid h8
  clear h8
  have HC := (finish_at (me := Sough.me0) (q := q1) (m := m1) F23.out ⟨by decide, by decide⟩ WQ1.out WM1.out (by have h := H8.out; unfold Sough.en8 at h; simp only [H1.out, H2.out, H3.out, H4.out, H5.out, H6.out, H7.out] at h; exact h) : (Calls Try.prog 16 #[.pointer (some ⟨p, 0, none⟩), .agg #[.int .i64 1, .int .i64 2], .agg #[.int .i64 q1.y.ck, .int .i64 q1.y.k, .int .i64 q1.y.h, .int .u64 q1.y.n, .int .i64 q1.e, .int .i64 q1.ek, .string ⟨q1.offer.toArray⟩], .agg #[.int .i64 (m1.v 0), .int .u64 (m1.v 1), .int .u64 (m1.v 2), .string ⟨m1.offer.toArray⟩, .int .i64 (m1.v 4), .int .i64 (m1.v 5), .int .i64 (m1.v 6), .int .i64 (m1.v 7), .int .i64 (m1.v 8), .int .i64 (m1.v 9), .int .i64 (m1.v 10), .int .u64 (m1.v 11), .int .u64 (m1.v 12)]] _ _) ∧ v8.Wf)
  obtain ⟨HC, wz8⟩ := HC
  have WZ8 := Lib.hid wz8
  clear wz8
  have HC := Lib.hid HC
  have r0 := F22.out.mem.rules; simp only [AllCells, CellsAt, Nat.zero_add, Nat.reduceAdd, talkC] at r0
  have r1 := F23.out.mem.rules; simp only [AllCells, CellsAt, Nat.zero_add, Nat.reduceAdd, talkC] at r1
  go_wp2_with fail
  clear r0 r1
  refine HC.out.mono ?_
  rintro e w9 ⟨rfl, g⟩
  clear HC
  clear F22
  have F24 := Lib.hid g
  have F25 := Lib.hid (F24.out.alloc (.cells #[.int .i64 v8.h, .int .i64 v8.send, .int .i64 v8.recv, .int .i64 v8.version] 49))
  try simp only [World.size_alloc, size_setCell] at F25
  clear g
  clear F23
  obtain ⟨s9, v9, e9, h9⟩ : ∃ s9 v9 e9, Sough.en9 n 1 = (s9, v9, e9) := ⟨_, _, _, rfl⟩
  have H9 := Lib.hid h9
  clear h9
  have HC := (finish_at (me := Sough.me1) (q := q1) (m := y4) F25.out ⟨by decide, by decide⟩ WQ1.out WY4.out (by have h := H9.out; unfold Sough.en9 at h; simp only [H1.out, H2.out, H3.out, H4.out, H5.out, H6.out, H7.out, H8.out] at h; exact h) : (Calls Try.prog 16 #[.pointer (some ⟨p, 0, none⟩), .agg #[.int .i64 3, .int .i64 4], .agg #[.int .i64 q1.y.ck, .int .i64 q1.y.k, .int .i64 q1.y.h, .int .u64 q1.y.n, .int .i64 q1.e, .int .i64 q1.ek, .string ⟨q1.offer.toArray⟩], .agg #[.int .i64 (y4.v 0), .int .u64 (y4.v 1), .int .u64 (y4.v 2), .string ⟨y4.offer.toArray⟩, .int .i64 (y4.v 4), .int .i64 (y4.v 5), .int .i64 (y4.v 6), .int .i64 (y4.v 7), .int .i64 (y4.v 8), .int .i64 (y4.v 9), .int .i64 (y4.v 10), .int .u64 (y4.v 11), .int .u64 (y4.v 12)]] _ _) ∧ v9.Wf)
  obtain ⟨HC, wz9⟩ := HC
  have WZ9 := Lib.hid wz9
  clear wz9
  have HC := Lib.hid HC
  have r0 := F24.out.mem.rules; simp only [AllCells, CellsAt, Nat.zero_add, Nat.reduceAdd, talkC] at r0
  have r1 := F25.out.mem.rules; simp only [AllCells, CellsAt, Nat.zero_add, Nat.reduceAdd, talkC] at r1
  go_wp2_with fail
  clear r0 r1
  refine HC.out.mono ?_
  rintro e w10 ⟨rfl, g⟩
  clear HC
  clear F24
  have F26 := Lib.hid g
  have F27 := Lib.hid (F26.out.alloc (.cells #[.int .i64 v9.h, .int .i64 v9.send, .int .i64 v9.recv, .int .i64 v9.version] 49))
  try simp only [World.size_alloc, size_setCell] at F27
  clear g
  clear F25
  have hfx := HFX.out
  unfold Sough.enP at hfx
  simp only [H1.out, H2.out, H3.out, H4.out, H5.out, H6.out, H7.out, H8.out, H9.out] at hfx
  obtain ⟨f1, f2, f3, f4, f5, f6, f7, f8, f9, f10, f11, f12⟩ := hfx
  subst f1 f2 f3 f4 f5 f6 f11
  have EQ1 : ∀ w, (Op.equalIn 10000 49 (.agg #[.int .i64 v5.h, .int .i64 v5.send, .int .i64 v5.recv, .int .i64 v5.version]) (.agg #[.int .i64 v6.h, .int .i64 v6.send, .int .i64 v6.recv, .int .i64 v6.version])).run Try.prog w = .ok true w := fun w => (eqSesn v5 v6 w).trans (by rw [decide_eq_true f7])
  have EQ2 : ∀ w, (Op.equalIn 10000 49 (.agg #[.int .i64 v7.h, .int .i64 v7.send, .int .i64 v7.recv, .int .i64 v7.version]) (.agg #[.int .i64 0, .int .i64 0, .int .i64 0, .int .i64 0])).run Try.prog w = .ok true w := fun w => (eqSesn v7 Sough.zeroS w).trans (by rw [decide_eq_true f10])
  have EG : Try.prog.eqGuardType Try.prog.depth 49 = false := by kernel_rfl
  have b1 : (v5.h == u4.h) = true := by rw [f8]; simp
  have b2 : ((e7 : Int) != 0) = true := by simp; omega
  have b3 : ((e9 : Int) != 0) = true := by simp; omega
  clear f7 f8 f9 f10 f12
  have r0 := F26.out.mem.rules; simp only [AllCells, CellsAt, Nat.zero_add, Nat.reduceAdd, talkC] at r0
  have r1 := F27.out.mem.rules; simp only [AllCells, CellsAt, Nat.zero_add, Nat.reduceAdd, talkC] at r1
  go_wp2_with fail
  clear r0 r1
  refine (fixed_walk _).mono ?_
  rintro e wF ⟨rfl, hbF⟩
  have FF := Lib.hid (F27.out.later hbF)
  clear hbF
  go_wp2_with fail
  go_ret
  exact ⟨rfl, FF.out.tur.toBelow (by simp) (Nat.le_refl _)⟩

end Go.Proofs.Ytlfgempjjoclbaa
