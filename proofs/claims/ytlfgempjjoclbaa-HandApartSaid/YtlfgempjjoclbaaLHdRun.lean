/- The walk of soughlaw17.run. (Printed by wip/tools/mkapart.py.) -/
import Derived.Test.YtlfgempjjoclbaaG6
namespace Sough
def rnA : Nat → Int × Int × Int
  | 0 => (7, 8, 9)
  | 1 => (12, 13, 14)
  | 2 => (7, 8, 9)
  | _ => (12, 13, 14)
def rnB : Nat → Int × Int
  | 0 => (10, 11)
  | 1 => (10, 11)
  | 2 => (12, 13)
  | _ => (8, 9)
def rn1 (st : Store) (w : Nat) := beginR st me0 peer0 (reqM 7 [1] 0) 5 (rnA w).1 (rnA w).2.1 (rnA w).2.2
def rn2 (st : Store) (w : Nat) := openR (rn1 st w).1 me1 [peer1] [1] (rn1 st w).2.1
def rn3 (st : Store) (w : Nat) := answerR (rn2 st w).1 (rn2 st w).2.1 9 7 (rnB w).1 (rnB w).2
def rn4 (st : Store) (w : Nat) := finishR (rn3 st w).1 me0 (rn1 st w).2.2.1 (rn3 st w).2.1
end Sough
namespace Go.Proofs.Ytlfgempjjoclbaa
open Go.RowKit Go.Maps Go.ChangeMaps

set_option maxRecDepth 100000 in
set_option maxHeartbeats 3200000 in
theorem run_0 {S : List Nat} {w0 W : World} {p : Nat} {st : Sough.Store} {L : List (Nat × Obj)} (h : SF S w0 W p st L) (f1 : (Sough.rn1 st 0).2.2.2 = 0) (f2 : (Sough.rn2 st 0).2.2 = 0) (f3 : (Sough.rn3 st 0).2.2.2 = 0) :
    Calls Try.prog 18 #[.pointer (some ⟨p, 0, none⟩), .agg #[.int .i64 1, .int .i64 2, .int .i64 3, .int .i64 4], .agg #[.int .i64 17, .int .i64 18, .int .i64 5, .int .i64 6, .int .i64 15, .int .i64 16, .int .i64 5, .int .i64 6], .int .i64 0] W fun e w' => e = .returned (.tuple #[.agg #[.int .i64 (Sough.rn4 st 0).2.1.h, .int .i64 (Sough.rn4 st 0).2.1.send, .int .i64 (Sough.rn4 st 0).2.1.recv, .int .i64 (Sough.rn4 st 0).2.1.version], .int .i64 ((Sough.rn4 st 0).2.2 : Nat)]) ∧ SF S w0 w' p (Sough.rn4 st 0).1 L := by
  have FX1 := Lib.hid f1; have FX2 := Lib.hid f2; have FX3 := Lib.hid f3
  clear f1 f2 f3
  have hb : bits .and .i64 0 3 = 0 := by decide
  have g := h
  clear h
  have F1 := Lib.hid g
  have F2 := Lib.hid (F1.out.alloc (.cells #[.int .i64 1, .int .i64 2, .int .i64 3, .int .i64 4] 25))
  try simp only [World.size_alloc, size_setCell] at F2
  have F3 := Lib.hid (F2.out.alloc (.cells #[.int .i64 17, .int .i64 18, .int .i64 5, .int .i64 6, .int .i64 15, .int .i64 16, .int .i64 5, .int .i64 6] 29))
  try simp only [World.size_alloc, size_setCell] at F3
  have F4 := Lib.hid (F3.out.alloc (.cells #[.int .i64 0, .int .i64 0, .int .i64 0, .int .i64 0] 49))
  try simp only [World.size_alloc, size_setCell] at F4
  have F5 := Lib.hid (F4.out.alloc (.cells #[.int .i64 7, .int .i64 8, .int .i64 9, .int .i64 12, .int .i64 13, .int .i64 14, .int .i64 7, .int .i64 8, .int .i64 9, .int .i64 12, .int .i64 13, .int .i64 14] 42))
  try simp only [World.size_alloc, size_setCell] at F5
  have F6 := Lib.hid (F5.out.alloc (.cells #[.int .i64 7, .int .i64 8, .int .i64 9] 42))
  try simp only [World.size_alloc, size_setCell] at F6
  have F7 := Lib.hid (F6.out.alloc (.cells #[.int .i64 10, .int .i64 11, .int .i64 10, .int .i64 11, .int .i64 12, .int .i64 13, .int .i64 8, .int .i64 9] 26))
  try simp only [World.size_alloc, size_setCell] at F7
  have F8 := Lib.hid (F7.out.alloc (.cells #[.int .i64 10, .int .i64 11] 26))
  try simp only [World.size_alloc, size_setCell] at F8
  clear g
  go_enter Try.func18, Try.ntmps18
  obtain ⟨s1, m1, q1, e1, h1⟩ : ∃ s1 m1 q1 e1, Sough.rn1 st 0 = (s1, m1, q1, e1) := ⟨_, _, _, _, rfl⟩
  have H1 := Lib.hid h1
  clear h1
  have HC := (begin_at (me := Sough.me0) (pr := Sough.peer0) (m := Sough.reqM 7 [1] 0) (stamp := 5) (d0 := 7) (d1 := 8) (d2 := 9) F8.out (Sough.reqM_wf (by decide) ⟨by decide, by decide⟩ (by decide)) (by decide) ⟨⟨by decide, by decide⟩, ⟨by decide, by decide⟩⟩ ⟨⟨by decide, by decide⟩, ⟨by decide, by decide⟩, ⟨by decide, by decide⟩, ⟨by decide, by decide⟩⟩ ⟨⟨by decide, by decide⟩, ⟨by decide, by decide⟩, ⟨by decide, by decide⟩⟩ (by have h := H1.out; unfold Sough.rn1 at h; exact h) : (Calls Try.prog 12 #[.pointer (some ⟨p, 0, none⟩), .agg #[.int .i64 1, .int .i64 2], .agg #[.int .i64 17, .int .i64 18, .int .i64 5, .int .i64 6], .agg #[.int .i64 0, .int .u64 7, .int .u64 0, .string ⟨#[1]⟩, .int .i64 0, .int .i64 0, .int .i64 0, .int .i64 0, .int .i64 0, .int .i64 0, .int .i64 0, .int .u64 0, .int .u64 0], .int .u64 5, .agg #[.int .i64 7, .int .i64 8, .int .i64 9]] _ _) ∧ m1.Wf ∧ q1.Wf)
  obtain ⟨HC, wm1, wq1⟩ := HC
  have WM1 := Lib.hid wm1
  have WQ1 := Lib.hid wq1
  clear wm1 wq1
  have HC := Lib.hid HC
  have r0 := F2.out.mem.rules; simp only [AllCells, CellsAt, Nat.zero_add, Nat.reduceAdd, talkC] at r0
  have r1 := F3.out.mem.rules; simp only [AllCells, CellsAt, Nat.zero_add, Nat.reduceAdd, talkC] at r1
  have r2 := F4.out.mem.rules; simp only [AllCells, CellsAt, Nat.zero_add, Nat.reduceAdd, talkC] at r2
  have r3 := F5.out.mem.rules; simp only [AllCells, CellsAt, Nat.zero_add, Nat.reduceAdd, talkC] at r3
  have r4 := F6.out.mem.rules; simp only [AllCells, CellsAt, Nat.zero_add, Nat.reduceAdd, talkC] at r4
  have r5 := F7.out.mem.rules; simp only [AllCells, CellsAt, Nat.zero_add, Nat.reduceAdd, talkC] at r5
  have r6 := F8.out.mem.rules; simp only [AllCells, CellsAt, Nat.zero_add, Nat.reduceAdd, talkC] at r6
  go_wp2_with fail
  clear r0 r1 r2 r3 r4 r5 r6
  refine HC.out.mono ?_
  rintro e w2 ⟨rfl, g⟩
  clear HC
  clear F2 F3 F4 F5 F6 F7
  have F9 := Lib.hid g
  have F10 := Lib.hid (F9.out.alloc (.cells #[.int .i64 (m1.v 0), .int .u64 (m1.v 1), .int .u64 (m1.v 2), .string ⟨m1.offer.toArray⟩, .int .i64 (m1.v 4), .int .i64 (m1.v 5), .int .i64 (m1.v 6), .int .i64 (m1.v 7), .int .i64 (m1.v 8), .int .i64 (m1.v 9), .int .i64 (m1.v 10), .int .u64 (m1.v 11), .int .u64 (m1.v 12)] 34))
  try simp only [World.size_alloc, size_setCell] at F10
  have F11 := Lib.hid (F10.out.alloc (.cells #[.int .i64 q1.y.ck, .int .i64 q1.y.k, .int .i64 q1.y.h, .int .u64 q1.y.n, .int .i64 q1.e, .int .i64 q1.ek, .string ⟨q1.offer.toArray⟩] 38))
  try simp only [World.size_alloc, size_setCell] at F11
  clear g
  clear F8
  have f1 := FX1.out
  rw [H1.out] at f1
  subst f1
  have F12 := Lib.hid (F11.out.alloc (.cells #[.int .i64 15, .int .i64 16, .int .i64 5, .int .i64 6] 28))
  try simp only [World.size_alloc, size_setCell] at F12
  obtain ⟨s2, o2, e2, h2⟩ : ∃ s2 o2 e2, Sough.rn2 st 0 = (s2, o2, e2) := ⟨_, _, _, rfl⟩
  have H2 := Lib.hid h2
  clear h2
  have HC := (open_at (me := Sough.me1) (peers := [Sough.peer1]) (text := [1]) (m := m1) F12.out ⟨⟨by decide, by decide⟩, ⟨by decide, by decide⟩⟩ (.inr ⟨_, 1, _, rfl, Nat.le_refl _, by omega, List.mem_cons_self ..⟩) (by intro q hq; simp only [List.mem_cons, List.not_mem_nil, or_false] at hq; subst hq; exact ⟨⟨by decide, by decide⟩, ⟨by decide, by decide⟩⟩) (by decide) WM1.out (by have h := H2.out; unfold Sough.rn2 at h; simp only [H1.out] at h; exact h) : (Calls Try.prog 13 #[.pointer (some ⟨p, 0, none⟩), .agg #[.int .i64 3, .int .i64 4], .slice (some ⟨w2.heap.size + 1 + 1, 0, none⟩) 1 1, .string ⟨#[1]⟩, .agg #[.int .i64 (m1.v 0), .int .u64 (m1.v 1), .int .u64 (m1.v 2), .string ⟨m1.offer.toArray⟩, .int .i64 (m1.v 4), .int .i64 (m1.v 5), .int .i64 (m1.v 6), .int .i64 (m1.v 7), .int .i64 (m1.v 8), .int .i64 (m1.v 9), .int .i64 (m1.v 10), .int .u64 (m1.v 11), .int .u64 (m1.v 12)]] _ _) ∧ o2.Wf)
  obtain ⟨HC, wo2⟩ := HC
  have WO2 := Lib.hid wo2
  clear wo2
  have HC := Lib.hid HC
  have r0 := F9.out.mem.rules; simp only [AllCells, CellsAt, Nat.zero_add, Nat.reduceAdd, talkC] at r0
  have r1 := F10.out.mem.rules; simp only [AllCells, CellsAt, Nat.zero_add, Nat.reduceAdd, talkC] at r1
  have r2 := F11.out.mem.rules; simp only [AllCells, CellsAt, Nat.zero_add, Nat.reduceAdd, talkC] at r2
  have r3 := F12.out.mem.rules; simp only [AllCells, CellsAt, Nat.zero_add, Nat.reduceAdd, talkC] at r3
  go_wp2_with fail
  clear r0 r1 r2 r3
  refine HC.out.mono ?_
  rintro e w3 ⟨rfl, g⟩
  clear HC
  clear F9 F10 F11
  have F13 := Lib.hid g
  have F14 := Lib.hid (F13.out.alloc (.cells #[.int .i64 o2.y.ck, .int .i64 o2.y.k, .int .i64 o2.y.h, .int .u64 o2.y.n, .int .i64 o2.peer, .int .i64 o2.version, .int .u64 o2.stamp, .int .i64 o2.e, .int .i64 o2.ek, .int .i64 o2.pub] 44))
  try simp only [World.size_alloc, size_setCell] at F14
  clear g
  clear F12
  have f2 := FX2.out
  rw [H2.out] at f2
  subst f2
  obtain ⟨s3, y3, u3, e3, h3⟩ : ∃ s3 y3 u3 e3, Sough.rn3 st 0 = (s3, y3, u3, e3) := ⟨_, _, _, _, rfl⟩
  have H3 := Lib.hid h3
  clear h3
  have HC := (answer_at (o := o2) (frm := 9) (to := 7) (d0 := 10) (d1 := 11) F14.out WO2.out ⟨by decide, by decide⟩ ⟨⟨by decide, by decide⟩, ⟨by decide, by decide⟩⟩ (by have h := H3.out; unfold Sough.rn3 at h; simp only [H1.out, H2.out] at h; exact h) : (Calls Try.prog 14 #[.pointer (some ⟨p, 0, none⟩), .agg #[.int .i64 o2.y.ck, .int .i64 o2.y.k, .int .i64 o2.y.h, .int .u64 o2.y.n, .int .i64 o2.peer, .int .i64 o2.version, .int .u64 o2.stamp, .int .i64 o2.e, .int .i64 o2.ek, .int .i64 o2.pub], .int .u64 9, .int .u64 7, .agg #[.int .i64 10, .int .i64 11]] _ _) ∧ y3.Wf ∧ u3.Wf)
  obtain ⟨HC, wy3, wu3⟩ := HC
  have WY3 := Lib.hid wy3
  have WU3 := Lib.hid wu3
  clear wy3 wu3
  have HC := Lib.hid HC
  have r0 := F13.out.mem.rules; simp only [AllCells, CellsAt, Nat.zero_add, Nat.reduceAdd, talkC] at r0
  have r1 := F14.out.mem.rules; simp only [AllCells, CellsAt, Nat.zero_add, Nat.reduceAdd, talkC] at r1
  go_wp2_with fail
  clear r0 r1
  refine HC.out.mono ?_
  rintro e w4 ⟨rfl, g⟩
  clear HC
  clear F13
  have F15 := Lib.hid g
  have F16 := Lib.hid (F15.out.alloc (.cells #[.int .i64 (y3.v 0), .int .u64 (y3.v 1), .int .u64 (y3.v 2), .string ⟨y3.offer.toArray⟩, .int .i64 (y3.v 4), .int .i64 (y3.v 5), .int .i64 (y3.v 6), .int .i64 (y3.v 7), .int .i64 (y3.v 8), .int .i64 (y3.v 9), .int .i64 (y3.v 10), .int .u64 (y3.v 11), .int .u64 (y3.v 12)] 34))
  try simp only [World.size_alloc, size_setCell] at F16
  have F17 := Lib.hid (F16.out.alloc (.cells #[.int .i64 u3.h, .int .i64 u3.send, .int .i64 u3.recv, .int .i64 u3.version] 49))
  try simp only [World.size_alloc, size_setCell] at F17
  clear g
  clear F14
  have f3 := FX3.out
  rw [H3.out] at f3
  subst f3
  obtain ⟨s4, z4, e4, h4⟩ : ∃ s4 z4 e4, Sough.rn4 st 0 = (s4, z4, e4) := ⟨_, _, _, rfl⟩
  have H4 := Lib.hid h4
  clear h4
  have HC := (finish_at (me := Sough.me0) (q := q1) (m := y3) F17.out ⟨by decide, by decide⟩ WQ1.out WY3.out (by have h := H4.out; unfold Sough.rn4 at h; simp only [H1.out, H2.out, H3.out] at h; exact h) : (Calls Try.prog 16 #[.pointer (some ⟨p, 0, none⟩), .agg #[.int .i64 1, .int .i64 2], .agg #[.int .i64 q1.y.ck, .int .i64 q1.y.k, .int .i64 q1.y.h, .int .u64 q1.y.n, .int .i64 q1.e, .int .i64 q1.ek, .string ⟨q1.offer.toArray⟩], .agg #[.int .i64 (y3.v 0), .int .u64 (y3.v 1), .int .u64 (y3.v 2), .string ⟨y3.offer.toArray⟩, .int .i64 (y3.v 4), .int .i64 (y3.v 5), .int .i64 (y3.v 6), .int .i64 (y3.v 7), .int .i64 (y3.v 8), .int .i64 (y3.v 9), .int .i64 (y3.v 10), .int .u64 (y3.v 11), .int .u64 (y3.v 12)]] _ _) ∧ z4.Wf)
  obtain ⟨HC, wz4⟩ := HC
  have WZ4 := Lib.hid wz4
  clear wz4
  have HC := Lib.hid HC
  have r0 := F15.out.mem.rules; simp only [AllCells, CellsAt, Nat.zero_add, Nat.reduceAdd, talkC] at r0
  have r1 := F16.out.mem.rules; simp only [AllCells, CellsAt, Nat.zero_add, Nat.reduceAdd, talkC] at r1
  have r2 := F17.out.mem.rules; simp only [AllCells, CellsAt, Nat.zero_add, Nat.reduceAdd, talkC] at r2
  go_wp2_with fail
  clear r0 r1 r2
  refine HC.out.mono ?_
  rintro e w5 ⟨rfl, g⟩
  clear HC
  clear F15 F16
  have F18 := Lib.hid g
  clear g
  clear F17
  have r0 := F18.out.mem.rules; simp only [AllCells, CellsAt, Nat.zero_add, Nat.reduceAdd, talkC] at r0
  go_wp2_with fail
  clear r0
  have FZ := Lib.hid (SF.setMid (A := [_, _, _, _, _, _, _, _, _, _]) (SF.setMid (A := [_, _, _, _, _, _, _, _, _, _]) (SF.setMid (A := [_, _, _, _, _, _, _, _, _, _]) (SF.setMid (A := [_, _, _, _, _, _, _, _, _, _]) (F18.out) 0 (.int .i64 z4.h)) 1 (.int .i64 z4.send)) 2 (.int .i64 z4.recv)) 3 (.int .i64 z4.version))
  simp only [List.setIfInBounds_toArray, List.set_cons_succ, List.set_cons_zero] at FZ
  have g0 := FZ.out.get 10 rfl
  have hr := H4.out
  refine bodyPost_ret (v := .tuple #[.agg #[.int .i64 z4.h, .int .i64 z4.send, .int .i64 z4.recv, .int .i64 z4.version], .int .i64 (e4 : Int)]) (by simp [results, Try.results18, go_sem, World.cell?, g0]) rfl ⟨by rw [hr], by rw [hr]; exact FZ.out.sub (by repeat (first | with_reducible exact List.Sublist.refl _ | with_reducible refine List.Sublist.cons_cons _ ?_ | refine List.Sublist.cons _ ?_))⟩

set_option maxRecDepth 100000 in
set_option maxHeartbeats 3200000 in
theorem run_1 {S : List Nat} {w0 W : World} {p : Nat} {st : Sough.Store} {L : List (Nat × Obj)} (h : SF S w0 W p st L) (f1 : (Sough.rn1 st 1).2.2.2 = 0) (f2 : (Sough.rn2 st 1).2.2 = 0) (f3 : (Sough.rn3 st 1).2.2.2 = 0) :
    Calls Try.prog 18 #[.pointer (some ⟨p, 0, none⟩), .agg #[.int .i64 1, .int .i64 2, .int .i64 3, .int .i64 4], .agg #[.int .i64 17, .int .i64 18, .int .i64 5, .int .i64 6, .int .i64 15, .int .i64 16, .int .i64 5, .int .i64 6], .int .i64 1] W fun e w' => e = .returned (.tuple #[.agg #[.int .i64 (Sough.rn4 st 1).2.1.h, .int .i64 (Sough.rn4 st 1).2.1.send, .int .i64 (Sough.rn4 st 1).2.1.recv, .int .i64 (Sough.rn4 st 1).2.1.version], .int .i64 ((Sough.rn4 st 1).2.2 : Nat)]) ∧ SF S w0 w' p (Sough.rn4 st 1).1 L := by
  have FX1 := Lib.hid f1; have FX2 := Lib.hid f2; have FX3 := Lib.hid f3
  clear f1 f2 f3
  have hb : bits .and .i64 1 3 = 1 := by decide
  have g := h
  clear h
  have F1 := Lib.hid g
  have F2 := Lib.hid (F1.out.alloc (.cells #[.int .i64 1, .int .i64 2, .int .i64 3, .int .i64 4] 25))
  try simp only [World.size_alloc, size_setCell] at F2
  have F3 := Lib.hid (F2.out.alloc (.cells #[.int .i64 17, .int .i64 18, .int .i64 5, .int .i64 6, .int .i64 15, .int .i64 16, .int .i64 5, .int .i64 6] 29))
  try simp only [World.size_alloc, size_setCell] at F3
  have F4 := Lib.hid (F3.out.alloc (.cells #[.int .i64 0, .int .i64 0, .int .i64 0, .int .i64 0] 49))
  try simp only [World.size_alloc, size_setCell] at F4
  have F5 := Lib.hid (F4.out.alloc (.cells #[.int .i64 7, .int .i64 8, .int .i64 9, .int .i64 12, .int .i64 13, .int .i64 14, .int .i64 7, .int .i64 8, .int .i64 9, .int .i64 12, .int .i64 13, .int .i64 14] 42))
  try simp only [World.size_alloc, size_setCell] at F5
  have F6 := Lib.hid (F5.out.alloc (.cells #[.int .i64 12, .int .i64 13, .int .i64 14] 42))
  try simp only [World.size_alloc, size_setCell] at F6
  have F7 := Lib.hid (F6.out.alloc (.cells #[.int .i64 10, .int .i64 11, .int .i64 10, .int .i64 11, .int .i64 12, .int .i64 13, .int .i64 8, .int .i64 9] 26))
  try simp only [World.size_alloc, size_setCell] at F7
  have F8 := Lib.hid (F7.out.alloc (.cells #[.int .i64 10, .int .i64 11] 26))
  try simp only [World.size_alloc, size_setCell] at F8
  clear g
  go_enter Try.func18, Try.ntmps18
  obtain ⟨s1, m1, q1, e1, h1⟩ : ∃ s1 m1 q1 e1, Sough.rn1 st 1 = (s1, m1, q1, e1) := ⟨_, _, _, _, rfl⟩
  have H1 := Lib.hid h1
  clear h1
  have HC := (begin_at (me := Sough.me0) (pr := Sough.peer0) (m := Sough.reqM 7 [1] 0) (stamp := 5) (d0 := 12) (d1 := 13) (d2 := 14) F8.out (Sough.reqM_wf (by decide) ⟨by decide, by decide⟩ (by decide)) (by decide) ⟨⟨by decide, by decide⟩, ⟨by decide, by decide⟩⟩ ⟨⟨by decide, by decide⟩, ⟨by decide, by decide⟩, ⟨by decide, by decide⟩, ⟨by decide, by decide⟩⟩ ⟨⟨by decide, by decide⟩, ⟨by decide, by decide⟩, ⟨by decide, by decide⟩⟩ (by have h := H1.out; unfold Sough.rn1 at h; exact h) : (Calls Try.prog 12 #[.pointer (some ⟨p, 0, none⟩), .agg #[.int .i64 1, .int .i64 2], .agg #[.int .i64 17, .int .i64 18, .int .i64 5, .int .i64 6], .agg #[.int .i64 0, .int .u64 7, .int .u64 0, .string ⟨#[1]⟩, .int .i64 0, .int .i64 0, .int .i64 0, .int .i64 0, .int .i64 0, .int .i64 0, .int .i64 0, .int .u64 0, .int .u64 0], .int .u64 5, .agg #[.int .i64 12, .int .i64 13, .int .i64 14]] _ _) ∧ m1.Wf ∧ q1.Wf)
  obtain ⟨HC, wm1, wq1⟩ := HC
  have WM1 := Lib.hid wm1
  have WQ1 := Lib.hid wq1
  clear wm1 wq1
  have HC := Lib.hid HC
  have r0 := F2.out.mem.rules; simp only [AllCells, CellsAt, Nat.zero_add, Nat.reduceAdd, talkC] at r0
  have r1 := F3.out.mem.rules; simp only [AllCells, CellsAt, Nat.zero_add, Nat.reduceAdd, talkC] at r1
  have r2 := F4.out.mem.rules; simp only [AllCells, CellsAt, Nat.zero_add, Nat.reduceAdd, talkC] at r2
  have r3 := F5.out.mem.rules; simp only [AllCells, CellsAt, Nat.zero_add, Nat.reduceAdd, talkC] at r3
  have r4 := F6.out.mem.rules; simp only [AllCells, CellsAt, Nat.zero_add, Nat.reduceAdd, talkC] at r4
  have r5 := F7.out.mem.rules; simp only [AllCells, CellsAt, Nat.zero_add, Nat.reduceAdd, talkC] at r5
  have r6 := F8.out.mem.rules; simp only [AllCells, CellsAt, Nat.zero_add, Nat.reduceAdd, talkC] at r6
  go_wp2_with fail
  clear r0 r1 r2 r3 r4 r5 r6
  refine HC.out.mono ?_
  rintro e w2 ⟨rfl, g⟩
  clear HC
  clear F2 F3 F4 F5 F6 F7
  have F9 := Lib.hid g
  have F10 := Lib.hid (F9.out.alloc (.cells #[.int .i64 (m1.v 0), .int .u64 (m1.v 1), .int .u64 (m1.v 2), .string ⟨m1.offer.toArray⟩, .int .i64 (m1.v 4), .int .i64 (m1.v 5), .int .i64 (m1.v 6), .int .i64 (m1.v 7), .int .i64 (m1.v 8), .int .i64 (m1.v 9), .int .i64 (m1.v 10), .int .u64 (m1.v 11), .int .u64 (m1.v 12)] 34))
  try simp only [World.size_alloc, size_setCell] at F10
  have F11 := Lib.hid (F10.out.alloc (.cells #[.int .i64 q1.y.ck, .int .i64 q1.y.k, .int .i64 q1.y.h, .int .u64 q1.y.n, .int .i64 q1.e, .int .i64 q1.ek, .string ⟨q1.offer.toArray⟩] 38))
  try simp only [World.size_alloc, size_setCell] at F11
  clear g
  clear F8
  have f1 := FX1.out
  rw [H1.out] at f1
  subst f1
  have F12 := Lib.hid (F11.out.alloc (.cells #[.int .i64 15, .int .i64 16, .int .i64 5, .int .i64 6] 28))
  try simp only [World.size_alloc, size_setCell] at F12
  obtain ⟨s2, o2, e2, h2⟩ : ∃ s2 o2 e2, Sough.rn2 st 1 = (s2, o2, e2) := ⟨_, _, _, rfl⟩
  have H2 := Lib.hid h2
  clear h2
  have HC := (open_at (me := Sough.me1) (peers := [Sough.peer1]) (text := [1]) (m := m1) F12.out ⟨⟨by decide, by decide⟩, ⟨by decide, by decide⟩⟩ (.inr ⟨_, 1, _, rfl, Nat.le_refl _, by omega, List.mem_cons_self ..⟩) (by intro q hq; simp only [List.mem_cons, List.not_mem_nil, or_false] at hq; subst hq; exact ⟨⟨by decide, by decide⟩, ⟨by decide, by decide⟩⟩) (by decide) WM1.out (by have h := H2.out; unfold Sough.rn2 at h; simp only [H1.out] at h; exact h) : (Calls Try.prog 13 #[.pointer (some ⟨p, 0, none⟩), .agg #[.int .i64 3, .int .i64 4], .slice (some ⟨w2.heap.size + 1 + 1, 0, none⟩) 1 1, .string ⟨#[1]⟩, .agg #[.int .i64 (m1.v 0), .int .u64 (m1.v 1), .int .u64 (m1.v 2), .string ⟨m1.offer.toArray⟩, .int .i64 (m1.v 4), .int .i64 (m1.v 5), .int .i64 (m1.v 6), .int .i64 (m1.v 7), .int .i64 (m1.v 8), .int .i64 (m1.v 9), .int .i64 (m1.v 10), .int .u64 (m1.v 11), .int .u64 (m1.v 12)]] _ _) ∧ o2.Wf)
  obtain ⟨HC, wo2⟩ := HC
  have WO2 := Lib.hid wo2
  clear wo2
  have HC := Lib.hid HC
  have r0 := F9.out.mem.rules; simp only [AllCells, CellsAt, Nat.zero_add, Nat.reduceAdd, talkC] at r0
  have r1 := F10.out.mem.rules; simp only [AllCells, CellsAt, Nat.zero_add, Nat.reduceAdd, talkC] at r1
  have r2 := F11.out.mem.rules; simp only [AllCells, CellsAt, Nat.zero_add, Nat.reduceAdd, talkC] at r2
  have r3 := F12.out.mem.rules; simp only [AllCells, CellsAt, Nat.zero_add, Nat.reduceAdd, talkC] at r3
  go_wp2_with fail
  clear r0 r1 r2 r3
  refine HC.out.mono ?_
  rintro e w3 ⟨rfl, g⟩
  clear HC
  clear F9 F10 F11
  have F13 := Lib.hid g
  have F14 := Lib.hid (F13.out.alloc (.cells #[.int .i64 o2.y.ck, .int .i64 o2.y.k, .int .i64 o2.y.h, .int .u64 o2.y.n, .int .i64 o2.peer, .int .i64 o2.version, .int .u64 o2.stamp, .int .i64 o2.e, .int .i64 o2.ek, .int .i64 o2.pub] 44))
  try simp only [World.size_alloc, size_setCell] at F14
  clear g
  clear F12
  have f2 := FX2.out
  rw [H2.out] at f2
  subst f2
  obtain ⟨s3, y3, u3, e3, h3⟩ : ∃ s3 y3 u3 e3, Sough.rn3 st 1 = (s3, y3, u3, e3) := ⟨_, _, _, _, rfl⟩
  have H3 := Lib.hid h3
  clear h3
  have HC := (answer_at (o := o2) (frm := 9) (to := 7) (d0 := 10) (d1 := 11) F14.out WO2.out ⟨by decide, by decide⟩ ⟨⟨by decide, by decide⟩, ⟨by decide, by decide⟩⟩ (by have h := H3.out; unfold Sough.rn3 at h; simp only [H1.out, H2.out] at h; exact h) : (Calls Try.prog 14 #[.pointer (some ⟨p, 0, none⟩), .agg #[.int .i64 o2.y.ck, .int .i64 o2.y.k, .int .i64 o2.y.h, .int .u64 o2.y.n, .int .i64 o2.peer, .int .i64 o2.version, .int .u64 o2.stamp, .int .i64 o2.e, .int .i64 o2.ek, .int .i64 o2.pub], .int .u64 9, .int .u64 7, .agg #[.int .i64 10, .int .i64 11]] _ _) ∧ y3.Wf ∧ u3.Wf)
  obtain ⟨HC, wy3, wu3⟩ := HC
  have WY3 := Lib.hid wy3
  have WU3 := Lib.hid wu3
  clear wy3 wu3
  have HC := Lib.hid HC
  have r0 := F13.out.mem.rules; simp only [AllCells, CellsAt, Nat.zero_add, Nat.reduceAdd, talkC] at r0
  have r1 := F14.out.mem.rules; simp only [AllCells, CellsAt, Nat.zero_add, Nat.reduceAdd, talkC] at r1
  go_wp2_with fail
  clear r0 r1
  refine HC.out.mono ?_
  rintro e w4 ⟨rfl, g⟩
  clear HC
  clear F13
  have F15 := Lib.hid g
  have F16 := Lib.hid (F15.out.alloc (.cells #[.int .i64 (y3.v 0), .int .u64 (y3.v 1), .int .u64 (y3.v 2), .string ⟨y3.offer.toArray⟩, .int .i64 (y3.v 4), .int .i64 (y3.v 5), .int .i64 (y3.v 6), .int .i64 (y3.v 7), .int .i64 (y3.v 8), .int .i64 (y3.v 9), .int .i64 (y3.v 10), .int .u64 (y3.v 11), .int .u64 (y3.v 12)] 34))
  try simp only [World.size_alloc, size_setCell] at F16
  have F17 := Lib.hid (F16.out.alloc (.cells #[.int .i64 u3.h, .int .i64 u3.send, .int .i64 u3.recv, .int .i64 u3.version] 49))
  try simp only [World.size_alloc, size_setCell] at F17
  clear g
  clear F14
  have f3 := FX3.out
  rw [H3.out] at f3
  subst f3
  obtain ⟨s4, z4, e4, h4⟩ : ∃ s4 z4 e4, Sough.rn4 st 1 = (s4, z4, e4) := ⟨_, _, _, rfl⟩
  have H4 := Lib.hid h4
  clear h4
  have HC := (finish_at (me := Sough.me0) (q := q1) (m := y3) F17.out ⟨by decide, by decide⟩ WQ1.out WY3.out (by have h := H4.out; unfold Sough.rn4 at h; simp only [H1.out, H2.out, H3.out] at h; exact h) : (Calls Try.prog 16 #[.pointer (some ⟨p, 0, none⟩), .agg #[.int .i64 1, .int .i64 2], .agg #[.int .i64 q1.y.ck, .int .i64 q1.y.k, .int .i64 q1.y.h, .int .u64 q1.y.n, .int .i64 q1.e, .int .i64 q1.ek, .string ⟨q1.offer.toArray⟩], .agg #[.int .i64 (y3.v 0), .int .u64 (y3.v 1), .int .u64 (y3.v 2), .string ⟨y3.offer.toArray⟩, .int .i64 (y3.v 4), .int .i64 (y3.v 5), .int .i64 (y3.v 6), .int .i64 (y3.v 7), .int .i64 (y3.v 8), .int .i64 (y3.v 9), .int .i64 (y3.v 10), .int .u64 (y3.v 11), .int .u64 (y3.v 12)]] _ _) ∧ z4.Wf)
  obtain ⟨HC, wz4⟩ := HC
  have WZ4 := Lib.hid wz4
  clear wz4
  have HC := Lib.hid HC
  have r0 := F15.out.mem.rules; simp only [AllCells, CellsAt, Nat.zero_add, Nat.reduceAdd, talkC] at r0
  have r1 := F16.out.mem.rules; simp only [AllCells, CellsAt, Nat.zero_add, Nat.reduceAdd, talkC] at r1
  have r2 := F17.out.mem.rules; simp only [AllCells, CellsAt, Nat.zero_add, Nat.reduceAdd, talkC] at r2
  go_wp2_with fail
  clear r0 r1 r2
  refine HC.out.mono ?_
  rintro e w5 ⟨rfl, g⟩
  clear HC
  clear F15 F16
  have F18 := Lib.hid g
  clear g
  clear F17
  have r0 := F18.out.mem.rules; simp only [AllCells, CellsAt, Nat.zero_add, Nat.reduceAdd, talkC] at r0
  go_wp2_with fail
  clear r0
  have FZ := Lib.hid (SF.setMid (A := [_, _, _, _, _, _, _, _, _, _]) (SF.setMid (A := [_, _, _, _, _, _, _, _, _, _]) (SF.setMid (A := [_, _, _, _, _, _, _, _, _, _]) (SF.setMid (A := [_, _, _, _, _, _, _, _, _, _]) (F18.out) 0 (.int .i64 z4.h)) 1 (.int .i64 z4.send)) 2 (.int .i64 z4.recv)) 3 (.int .i64 z4.version))
  simp only [List.setIfInBounds_toArray, List.set_cons_succ, List.set_cons_zero] at FZ
  have g0 := FZ.out.get 10 rfl
  have hr := H4.out
  refine bodyPost_ret (v := .tuple #[.agg #[.int .i64 z4.h, .int .i64 z4.send, .int .i64 z4.recv, .int .i64 z4.version], .int .i64 (e4 : Int)]) (by simp [results, Try.results18, go_sem, World.cell?, g0]) rfl ⟨by rw [hr], by rw [hr]; exact FZ.out.sub (by repeat (first | with_reducible exact List.Sublist.refl _ | with_reducible refine List.Sublist.cons_cons _ ?_ | refine List.Sublist.cons _ ?_))⟩

set_option maxRecDepth 100000 in
set_option maxHeartbeats 3200000 in
theorem run_2 {S : List Nat} {w0 W : World} {p : Nat} {st : Sough.Store} {L : List (Nat × Obj)} (h : SF S w0 W p st L) (f1 : (Sough.rn1 st 2).2.2.2 = 0) (f2 : (Sough.rn2 st 2).2.2 = 0) (f3 : (Sough.rn3 st 2).2.2.2 = 0) :
    Calls Try.prog 18 #[.pointer (some ⟨p, 0, none⟩), .agg #[.int .i64 1, .int .i64 2, .int .i64 3, .int .i64 4], .agg #[.int .i64 17, .int .i64 18, .int .i64 5, .int .i64 6, .int .i64 15, .int .i64 16, .int .i64 5, .int .i64 6], .int .i64 2] W fun e w' => e = .returned (.tuple #[.agg #[.int .i64 (Sough.rn4 st 2).2.1.h, .int .i64 (Sough.rn4 st 2).2.1.send, .int .i64 (Sough.rn4 st 2).2.1.recv, .int .i64 (Sough.rn4 st 2).2.1.version], .int .i64 ((Sough.rn4 st 2).2.2 : Nat)]) ∧ SF S w0 w' p (Sough.rn4 st 2).1 L := by
  have FX1 := Lib.hid f1; have FX2 := Lib.hid f2; have FX3 := Lib.hid f3
  clear f1 f2 f3
  have hb : bits .and .i64 2 3 = 2 := by decide
  have g := h
  clear h
  have F1 := Lib.hid g
  have F2 := Lib.hid (F1.out.alloc (.cells #[.int .i64 1, .int .i64 2, .int .i64 3, .int .i64 4] 25))
  try simp only [World.size_alloc, size_setCell] at F2
  have F3 := Lib.hid (F2.out.alloc (.cells #[.int .i64 17, .int .i64 18, .int .i64 5, .int .i64 6, .int .i64 15, .int .i64 16, .int .i64 5, .int .i64 6] 29))
  try simp only [World.size_alloc, size_setCell] at F3
  have F4 := Lib.hid (F3.out.alloc (.cells #[.int .i64 0, .int .i64 0, .int .i64 0, .int .i64 0] 49))
  try simp only [World.size_alloc, size_setCell] at F4
  have F5 := Lib.hid (F4.out.alloc (.cells #[.int .i64 7, .int .i64 8, .int .i64 9, .int .i64 12, .int .i64 13, .int .i64 14, .int .i64 7, .int .i64 8, .int .i64 9, .int .i64 12, .int .i64 13, .int .i64 14] 42))
  try simp only [World.size_alloc, size_setCell] at F5
  have F6 := Lib.hid (F5.out.alloc (.cells #[.int .i64 7, .int .i64 8, .int .i64 9] 42))
  try simp only [World.size_alloc, size_setCell] at F6
  have F7 := Lib.hid (F6.out.alloc (.cells #[.int .i64 10, .int .i64 11, .int .i64 10, .int .i64 11, .int .i64 12, .int .i64 13, .int .i64 8, .int .i64 9] 26))
  try simp only [World.size_alloc, size_setCell] at F7
  have F8 := Lib.hid (F7.out.alloc (.cells #[.int .i64 12, .int .i64 13] 26))
  try simp only [World.size_alloc, size_setCell] at F8
  clear g
  go_enter Try.func18, Try.ntmps18
  obtain ⟨s1, m1, q1, e1, h1⟩ : ∃ s1 m1 q1 e1, Sough.rn1 st 2 = (s1, m1, q1, e1) := ⟨_, _, _, _, rfl⟩
  have H1 := Lib.hid h1
  clear h1
  have HC := (begin_at (me := Sough.me0) (pr := Sough.peer0) (m := Sough.reqM 7 [1] 0) (stamp := 5) (d0 := 7) (d1 := 8) (d2 := 9) F8.out (Sough.reqM_wf (by decide) ⟨by decide, by decide⟩ (by decide)) (by decide) ⟨⟨by decide, by decide⟩, ⟨by decide, by decide⟩⟩ ⟨⟨by decide, by decide⟩, ⟨by decide, by decide⟩, ⟨by decide, by decide⟩, ⟨by decide, by decide⟩⟩ ⟨⟨by decide, by decide⟩, ⟨by decide, by decide⟩, ⟨by decide, by decide⟩⟩ (by have h := H1.out; unfold Sough.rn1 at h; exact h) : (Calls Try.prog 12 #[.pointer (some ⟨p, 0, none⟩), .agg #[.int .i64 1, .int .i64 2], .agg #[.int .i64 17, .int .i64 18, .int .i64 5, .int .i64 6], .agg #[.int .i64 0, .int .u64 7, .int .u64 0, .string ⟨#[1]⟩, .int .i64 0, .int .i64 0, .int .i64 0, .int .i64 0, .int .i64 0, .int .i64 0, .int .i64 0, .int .u64 0, .int .u64 0], .int .u64 5, .agg #[.int .i64 7, .int .i64 8, .int .i64 9]] _ _) ∧ m1.Wf ∧ q1.Wf)
  obtain ⟨HC, wm1, wq1⟩ := HC
  have WM1 := Lib.hid wm1
  have WQ1 := Lib.hid wq1
  clear wm1 wq1
  have HC := Lib.hid HC
  have r0 := F2.out.mem.rules; simp only [AllCells, CellsAt, Nat.zero_add, Nat.reduceAdd, talkC] at r0
  have r1 := F3.out.mem.rules; simp only [AllCells, CellsAt, Nat.zero_add, Nat.reduceAdd, talkC] at r1
  have r2 := F4.out.mem.rules; simp only [AllCells, CellsAt, Nat.zero_add, Nat.reduceAdd, talkC] at r2
  have r3 := F5.out.mem.rules; simp only [AllCells, CellsAt, Nat.zero_add, Nat.reduceAdd, talkC] at r3
  have r4 := F6.out.mem.rules; simp only [AllCells, CellsAt, Nat.zero_add, Nat.reduceAdd, talkC] at r4
  have r5 := F7.out.mem.rules; simp only [AllCells, CellsAt, Nat.zero_add, Nat.reduceAdd, talkC] at r5
  have r6 := F8.out.mem.rules; simp only [AllCells, CellsAt, Nat.zero_add, Nat.reduceAdd, talkC] at r6
  go_wp2_with fail
  clear r0 r1 r2 r3 r4 r5 r6
  refine HC.out.mono ?_
  rintro e w2 ⟨rfl, g⟩
  clear HC
  clear F2 F3 F4 F5 F6 F7
  have F9 := Lib.hid g
  have F10 := Lib.hid (F9.out.alloc (.cells #[.int .i64 (m1.v 0), .int .u64 (m1.v 1), .int .u64 (m1.v 2), .string ⟨m1.offer.toArray⟩, .int .i64 (m1.v 4), .int .i64 (m1.v 5), .int .i64 (m1.v 6), .int .i64 (m1.v 7), .int .i64 (m1.v 8), .int .i64 (m1.v 9), .int .i64 (m1.v 10), .int .u64 (m1.v 11), .int .u64 (m1.v 12)] 34))
  try simp only [World.size_alloc, size_setCell] at F10
  have F11 := Lib.hid (F10.out.alloc (.cells #[.int .i64 q1.y.ck, .int .i64 q1.y.k, .int .i64 q1.y.h, .int .u64 q1.y.n, .int .i64 q1.e, .int .i64 q1.ek, .string ⟨q1.offer.toArray⟩] 38))
  try simp only [World.size_alloc, size_setCell] at F11
  clear g
  clear F8
  have f1 := FX1.out
  rw [H1.out] at f1
  subst f1
  have F12 := Lib.hid (F11.out.alloc (.cells #[.int .i64 15, .int .i64 16, .int .i64 5, .int .i64 6] 28))
  try simp only [World.size_alloc, size_setCell] at F12
  obtain ⟨s2, o2, e2, h2⟩ : ∃ s2 o2 e2, Sough.rn2 st 2 = (s2, o2, e2) := ⟨_, _, _, rfl⟩
  have H2 := Lib.hid h2
  clear h2
  have HC := (open_at (me := Sough.me1) (peers := [Sough.peer1]) (text := [1]) (m := m1) F12.out ⟨⟨by decide, by decide⟩, ⟨by decide, by decide⟩⟩ (.inr ⟨_, 1, _, rfl, Nat.le_refl _, by omega, List.mem_cons_self ..⟩) (by intro q hq; simp only [List.mem_cons, List.not_mem_nil, or_false] at hq; subst hq; exact ⟨⟨by decide, by decide⟩, ⟨by decide, by decide⟩⟩) (by decide) WM1.out (by have h := H2.out; unfold Sough.rn2 at h; simp only [H1.out] at h; exact h) : (Calls Try.prog 13 #[.pointer (some ⟨p, 0, none⟩), .agg #[.int .i64 3, .int .i64 4], .slice (some ⟨w2.heap.size + 1 + 1, 0, none⟩) 1 1, .string ⟨#[1]⟩, .agg #[.int .i64 (m1.v 0), .int .u64 (m1.v 1), .int .u64 (m1.v 2), .string ⟨m1.offer.toArray⟩, .int .i64 (m1.v 4), .int .i64 (m1.v 5), .int .i64 (m1.v 6), .int .i64 (m1.v 7), .int .i64 (m1.v 8), .int .i64 (m1.v 9), .int .i64 (m1.v 10), .int .u64 (m1.v 11), .int .u64 (m1.v 12)]] _ _) ∧ o2.Wf)
  obtain ⟨HC, wo2⟩ := HC
  have WO2 := Lib.hid wo2
  clear wo2
  have HC := Lib.hid HC
  have r0 := F9.out.mem.rules; simp only [AllCells, CellsAt, Nat.zero_add, Nat.reduceAdd, talkC] at r0
  have r1 := F10.out.mem.rules; simp only [AllCells, CellsAt, Nat.zero_add, Nat.reduceAdd, talkC] at r1
  have r2 := F11.out.mem.rules; simp only [AllCells, CellsAt, Nat.zero_add, Nat.reduceAdd, talkC] at r2
  have r3 := F12.out.mem.rules; simp only [AllCells, CellsAt, Nat.zero_add, Nat.reduceAdd, talkC] at r3
  go_wp2_with fail
  clear r0 r1 r2 r3
  refine HC.out.mono ?_
  rintro e w3 ⟨rfl, g⟩
  clear HC
  clear F9 F10 F11
  have F13 := Lib.hid g
  have F14 := Lib.hid (F13.out.alloc (.cells #[.int .i64 o2.y.ck, .int .i64 o2.y.k, .int .i64 o2.y.h, .int .u64 o2.y.n, .int .i64 o2.peer, .int .i64 o2.version, .int .u64 o2.stamp, .int .i64 o2.e, .int .i64 o2.ek, .int .i64 o2.pub] 44))
  try simp only [World.size_alloc, size_setCell] at F14
  clear g
  clear F12
  have f2 := FX2.out
  rw [H2.out] at f2
  subst f2
  obtain ⟨s3, y3, u3, e3, h3⟩ : ∃ s3 y3 u3 e3, Sough.rn3 st 2 = (s3, y3, u3, e3) := ⟨_, _, _, _, rfl⟩
  have H3 := Lib.hid h3
  clear h3
  have HC := (answer_at (o := o2) (frm := 9) (to := 7) (d0 := 12) (d1 := 13) F14.out WO2.out ⟨by decide, by decide⟩ ⟨⟨by decide, by decide⟩, ⟨by decide, by decide⟩⟩ (by have h := H3.out; unfold Sough.rn3 at h; simp only [H1.out, H2.out] at h; exact h) : (Calls Try.prog 14 #[.pointer (some ⟨p, 0, none⟩), .agg #[.int .i64 o2.y.ck, .int .i64 o2.y.k, .int .i64 o2.y.h, .int .u64 o2.y.n, .int .i64 o2.peer, .int .i64 o2.version, .int .u64 o2.stamp, .int .i64 o2.e, .int .i64 o2.ek, .int .i64 o2.pub], .int .u64 9, .int .u64 7, .agg #[.int .i64 12, .int .i64 13]] _ _) ∧ y3.Wf ∧ u3.Wf)
  obtain ⟨HC, wy3, wu3⟩ := HC
  have WY3 := Lib.hid wy3
  have WU3 := Lib.hid wu3
  clear wy3 wu3
  have HC := Lib.hid HC
  have r0 := F13.out.mem.rules; simp only [AllCells, CellsAt, Nat.zero_add, Nat.reduceAdd, talkC] at r0
  have r1 := F14.out.mem.rules; simp only [AllCells, CellsAt, Nat.zero_add, Nat.reduceAdd, talkC] at r1
  go_wp2_with fail
  clear r0 r1
  refine HC.out.mono ?_
  rintro e w4 ⟨rfl, g⟩
  clear HC
  clear F13
  have F15 := Lib.hid g
  have F16 := Lib.hid (F15.out.alloc (.cells #[.int .i64 (y3.v 0), .int .u64 (y3.v 1), .int .u64 (y3.v 2), .string ⟨y3.offer.toArray⟩, .int .i64 (y3.v 4), .int .i64 (y3.v 5), .int .i64 (y3.v 6), .int .i64 (y3.v 7), .int .i64 (y3.v 8), .int .i64 (y3.v 9), .int .i64 (y3.v 10), .int .u64 (y3.v 11), .int .u64 (y3.v 12)] 34))
  try simp only [World.size_alloc, size_setCell] at F16
  have F17 := Lib.hid (F16.out.alloc (.cells #[.int .i64 u3.h, .int .i64 u3.send, .int .i64 u3.recv, .int .i64 u3.version] 49))
  try simp only [World.size_alloc, size_setCell] at F17
  clear g
  clear F14
  have f3 := FX3.out
  rw [H3.out] at f3
  subst f3
  obtain ⟨s4, z4, e4, h4⟩ : ∃ s4 z4 e4, Sough.rn4 st 2 = (s4, z4, e4) := ⟨_, _, _, rfl⟩
  have H4 := Lib.hid h4
  clear h4
  have HC := (finish_at (me := Sough.me0) (q := q1) (m := y3) F17.out ⟨by decide, by decide⟩ WQ1.out WY3.out (by have h := H4.out; unfold Sough.rn4 at h; simp only [H1.out, H2.out, H3.out] at h; exact h) : (Calls Try.prog 16 #[.pointer (some ⟨p, 0, none⟩), .agg #[.int .i64 1, .int .i64 2], .agg #[.int .i64 q1.y.ck, .int .i64 q1.y.k, .int .i64 q1.y.h, .int .u64 q1.y.n, .int .i64 q1.e, .int .i64 q1.ek, .string ⟨q1.offer.toArray⟩], .agg #[.int .i64 (y3.v 0), .int .u64 (y3.v 1), .int .u64 (y3.v 2), .string ⟨y3.offer.toArray⟩, .int .i64 (y3.v 4), .int .i64 (y3.v 5), .int .i64 (y3.v 6), .int .i64 (y3.v 7), .int .i64 (y3.v 8), .int .i64 (y3.v 9), .int .i64 (y3.v 10), .int .u64 (y3.v 11), .int .u64 (y3.v 12)]] _ _) ∧ z4.Wf)
  obtain ⟨HC, wz4⟩ := HC
  have WZ4 := Lib.hid wz4
  clear wz4
  have HC := Lib.hid HC
  have r0 := F15.out.mem.rules; simp only [AllCells, CellsAt, Nat.zero_add, Nat.reduceAdd, talkC] at r0
  have r1 := F16.out.mem.rules; simp only [AllCells, CellsAt, Nat.zero_add, Nat.reduceAdd, talkC] at r1
  have r2 := F17.out.mem.rules; simp only [AllCells, CellsAt, Nat.zero_add, Nat.reduceAdd, talkC] at r2
  go_wp2_with fail
  clear r0 r1 r2
  refine HC.out.mono ?_
  rintro e w5 ⟨rfl, g⟩
  clear HC
  clear F15 F16
  have F18 := Lib.hid g
  clear g
  clear F17
  have r0 := F18.out.mem.rules; simp only [AllCells, CellsAt, Nat.zero_add, Nat.reduceAdd, talkC] at r0
  go_wp2_with fail
  clear r0
  have FZ := Lib.hid (SF.setMid (A := [_, _, _, _, _, _, _, _, _, _]) (SF.setMid (A := [_, _, _, _, _, _, _, _, _, _]) (SF.setMid (A := [_, _, _, _, _, _, _, _, _, _]) (SF.setMid (A := [_, _, _, _, _, _, _, _, _, _]) (F18.out) 0 (.int .i64 z4.h)) 1 (.int .i64 z4.send)) 2 (.int .i64 z4.recv)) 3 (.int .i64 z4.version))
  simp only [List.setIfInBounds_toArray, List.set_cons_succ, List.set_cons_zero] at FZ
  have g0 := FZ.out.get 10 rfl
  have hr := H4.out
  refine bodyPost_ret (v := .tuple #[.agg #[.int .i64 z4.h, .int .i64 z4.send, .int .i64 z4.recv, .int .i64 z4.version], .int .i64 (e4 : Int)]) (by simp [results, Try.results18, go_sem, World.cell?, g0]) rfl ⟨by rw [hr], by rw [hr]; exact FZ.out.sub (by repeat (first | with_reducible exact List.Sublist.refl _ | with_reducible refine List.Sublist.cons_cons _ ?_ | refine List.Sublist.cons _ ?_))⟩

set_option maxRecDepth 100000 in
set_option maxHeartbeats 3200000 in
theorem run_3 {S : List Nat} {w0 W : World} {p : Nat} {st : Sough.Store} {L : List (Nat × Obj)} (h : SF S w0 W p st L) (f1 : (Sough.rn1 st 3).2.2.2 = 0) (f2 : (Sough.rn2 st 3).2.2 = 0) (f3 : (Sough.rn3 st 3).2.2.2 = 0) :
    Calls Try.prog 18 #[.pointer (some ⟨p, 0, none⟩), .agg #[.int .i64 1, .int .i64 2, .int .i64 3, .int .i64 4], .agg #[.int .i64 17, .int .i64 18, .int .i64 5, .int .i64 6, .int .i64 15, .int .i64 16, .int .i64 5, .int .i64 6], .int .i64 3] W fun e w' => e = .returned (.tuple #[.agg #[.int .i64 (Sough.rn4 st 3).2.1.h, .int .i64 (Sough.rn4 st 3).2.1.send, .int .i64 (Sough.rn4 st 3).2.1.recv, .int .i64 (Sough.rn4 st 3).2.1.version], .int .i64 ((Sough.rn4 st 3).2.2 : Nat)]) ∧ SF S w0 w' p (Sough.rn4 st 3).1 L := by
  have FX1 := Lib.hid f1; have FX2 := Lib.hid f2; have FX3 := Lib.hid f3
  clear f1 f2 f3
  have hb : bits .and .i64 3 3 = 3 := by decide
  have g := h
  clear h
  have F1 := Lib.hid g
  have F2 := Lib.hid (F1.out.alloc (.cells #[.int .i64 1, .int .i64 2, .int .i64 3, .int .i64 4] 25))
  try simp only [World.size_alloc, size_setCell] at F2
  have F3 := Lib.hid (F2.out.alloc (.cells #[.int .i64 17, .int .i64 18, .int .i64 5, .int .i64 6, .int .i64 15, .int .i64 16, .int .i64 5, .int .i64 6] 29))
  try simp only [World.size_alloc, size_setCell] at F3
  have F4 := Lib.hid (F3.out.alloc (.cells #[.int .i64 0, .int .i64 0, .int .i64 0, .int .i64 0] 49))
  try simp only [World.size_alloc, size_setCell] at F4
  have F5 := Lib.hid (F4.out.alloc (.cells #[.int .i64 7, .int .i64 8, .int .i64 9, .int .i64 12, .int .i64 13, .int .i64 14, .int .i64 7, .int .i64 8, .int .i64 9, .int .i64 12, .int .i64 13, .int .i64 14] 42))
  try simp only [World.size_alloc, size_setCell] at F5
  have F6 := Lib.hid (F5.out.alloc (.cells #[.int .i64 12, .int .i64 13, .int .i64 14] 42))
  try simp only [World.size_alloc, size_setCell] at F6
  have F7 := Lib.hid (F6.out.alloc (.cells #[.int .i64 10, .int .i64 11, .int .i64 10, .int .i64 11, .int .i64 12, .int .i64 13, .int .i64 8, .int .i64 9] 26))
  try simp only [World.size_alloc, size_setCell] at F7
  have F8 := Lib.hid (F7.out.alloc (.cells #[.int .i64 8, .int .i64 9] 26))
  try simp only [World.size_alloc, size_setCell] at F8
  clear g
  go_enter Try.func18, Try.ntmps18
  obtain ⟨s1, m1, q1, e1, h1⟩ : ∃ s1 m1 q1 e1, Sough.rn1 st 3 = (s1, m1, q1, e1) := ⟨_, _, _, _, rfl⟩
  have H1 := Lib.hid h1
  clear h1
  have HC := (begin_at (me := Sough.me0) (pr := Sough.peer0) (m := Sough.reqM 7 [1] 0) (stamp := 5) (d0 := 12) (d1 := 13) (d2 := 14) F8.out (Sough.reqM_wf (by decide) ⟨by decide, by decide⟩ (by decide)) (by decide) ⟨⟨by decide, by decide⟩, ⟨by decide, by decide⟩⟩ ⟨⟨by decide, by decide⟩, ⟨by decide, by decide⟩, ⟨by decide, by decide⟩, ⟨by decide, by decide⟩⟩ ⟨⟨by decide, by decide⟩, ⟨by decide, by decide⟩, ⟨by decide, by decide⟩⟩ (by have h := H1.out; unfold Sough.rn1 at h; exact h) : (Calls Try.prog 12 #[.pointer (some ⟨p, 0, none⟩), .agg #[.int .i64 1, .int .i64 2], .agg #[.int .i64 17, .int .i64 18, .int .i64 5, .int .i64 6], .agg #[.int .i64 0, .int .u64 7, .int .u64 0, .string ⟨#[1]⟩, .int .i64 0, .int .i64 0, .int .i64 0, .int .i64 0, .int .i64 0, .int .i64 0, .int .i64 0, .int .u64 0, .int .u64 0], .int .u64 5, .agg #[.int .i64 12, .int .i64 13, .int .i64 14]] _ _) ∧ m1.Wf ∧ q1.Wf)
  obtain ⟨HC, wm1, wq1⟩ := HC
  have WM1 := Lib.hid wm1
  have WQ1 := Lib.hid wq1
  clear wm1 wq1
  have HC := Lib.hid HC
  have r0 := F2.out.mem.rules; simp only [AllCells, CellsAt, Nat.zero_add, Nat.reduceAdd, talkC] at r0
  have r1 := F3.out.mem.rules; simp only [AllCells, CellsAt, Nat.zero_add, Nat.reduceAdd, talkC] at r1
  have r2 := F4.out.mem.rules; simp only [AllCells, CellsAt, Nat.zero_add, Nat.reduceAdd, talkC] at r2
  have r3 := F5.out.mem.rules; simp only [AllCells, CellsAt, Nat.zero_add, Nat.reduceAdd, talkC] at r3
  have r4 := F6.out.mem.rules; simp only [AllCells, CellsAt, Nat.zero_add, Nat.reduceAdd, talkC] at r4
  have r5 := F7.out.mem.rules; simp only [AllCells, CellsAt, Nat.zero_add, Nat.reduceAdd, talkC] at r5
  have r6 := F8.out.mem.rules; simp only [AllCells, CellsAt, Nat.zero_add, Nat.reduceAdd, talkC] at r6
  go_wp2_with fail
  clear r0 r1 r2 r3 r4 r5 r6
  refine HC.out.mono ?_
  rintro e w2 ⟨rfl, g⟩
  clear HC
  clear F2 F3 F4 F5 F6 F7
  have F9 := Lib.hid g
  have F10 := Lib.hid (F9.out.alloc (.cells #[.int .i64 (m1.v 0), .int .u64 (m1.v 1), .int .u64 (m1.v 2), .string ⟨m1.offer.toArray⟩, .int .i64 (m1.v 4), .int .i64 (m1.v 5), .int .i64 (m1.v 6), .int .i64 (m1.v 7), .int .i64 (m1.v 8), .int .i64 (m1.v 9), .int .i64 (m1.v 10), .int .u64 (m1.v 11), .int .u64 (m1.v 12)] 34))
  try simp only [World.size_alloc, size_setCell] at F10
  have F11 := Lib.hid (F10.out.alloc (.cells #[.int .i64 q1.y.ck, .int .i64 q1.y.k, .int .i64 q1.y.h, .int .u64 q1.y.n, .int .i64 q1.e, .int .i64 q1.ek, .string ⟨q1.offer.toArray⟩] 38))
  try simp only [World.size_alloc, size_setCell] at F11
  clear g
  clear F8
  have f1 := FX1.out
  rw [H1.out] at f1
  subst f1
  have F12 := Lib.hid (F11.out.alloc (.cells #[.int .i64 15, .int .i64 16, .int .i64 5, .int .i64 6] 28))
  try simp only [World.size_alloc, size_setCell] at F12
  obtain ⟨s2, o2, e2, h2⟩ : ∃ s2 o2 e2, Sough.rn2 st 3 = (s2, o2, e2) := ⟨_, _, _, rfl⟩
  have H2 := Lib.hid h2
  clear h2
  have HC := (open_at (me := Sough.me1) (peers := [Sough.peer1]) (text := [1]) (m := m1) F12.out ⟨⟨by decide, by decide⟩, ⟨by decide, by decide⟩⟩ (.inr ⟨_, 1, _, rfl, Nat.le_refl _, by omega, List.mem_cons_self ..⟩) (by intro q hq; simp only [List.mem_cons, List.not_mem_nil, or_false] at hq; subst hq; exact ⟨⟨by decide, by decide⟩, ⟨by decide, by decide⟩⟩) (by decide) WM1.out (by have h := H2.out; unfold Sough.rn2 at h; simp only [H1.out] at h; exact h) : (Calls Try.prog 13 #[.pointer (some ⟨p, 0, none⟩), .agg #[.int .i64 3, .int .i64 4], .slice (some ⟨w2.heap.size + 1 + 1, 0, none⟩) 1 1, .string ⟨#[1]⟩, .agg #[.int .i64 (m1.v 0), .int .u64 (m1.v 1), .int .u64 (m1.v 2), .string ⟨m1.offer.toArray⟩, .int .i64 (m1.v 4), .int .i64 (m1.v 5), .int .i64 (m1.v 6), .int .i64 (m1.v 7), .int .i64 (m1.v 8), .int .i64 (m1.v 9), .int .i64 (m1.v 10), .int .u64 (m1.v 11), .int .u64 (m1.v 12)]] _ _) ∧ o2.Wf)
  obtain ⟨HC, wo2⟩ := HC
  have WO2 := Lib.hid wo2
  clear wo2
  have HC := Lib.hid HC
  have r0 := F9.out.mem.rules; simp only [AllCells, CellsAt, Nat.zero_add, Nat.reduceAdd, talkC] at r0
  have r1 := F10.out.mem.rules; simp only [AllCells, CellsAt, Nat.zero_add, Nat.reduceAdd, talkC] at r1
  have r2 := F11.out.mem.rules; simp only [AllCells, CellsAt, Nat.zero_add, Nat.reduceAdd, talkC] at r2
  have r3 := F12.out.mem.rules; simp only [AllCells, CellsAt, Nat.zero_add, Nat.reduceAdd, talkC] at r3
  go_wp2_with fail
  clear r0 r1 r2 r3
  refine HC.out.mono ?_
  rintro e w3 ⟨rfl, g⟩
  clear HC
  clear F9 F10 F11
  have F13 := Lib.hid g
  have F14 := Lib.hid (F13.out.alloc (.cells #[.int .i64 o2.y.ck, .int .i64 o2.y.k, .int .i64 o2.y.h, .int .u64 o2.y.n, .int .i64 o2.peer, .int .i64 o2.version, .int .u64 o2.stamp, .int .i64 o2.e, .int .i64 o2.ek, .int .i64 o2.pub] 44))
  try simp only [World.size_alloc, size_setCell] at F14
  clear g
  clear F12
  have f2 := FX2.out
  rw [H2.out] at f2
  subst f2
  obtain ⟨s3, y3, u3, e3, h3⟩ : ∃ s3 y3 u3 e3, Sough.rn3 st 3 = (s3, y3, u3, e3) := ⟨_, _, _, _, rfl⟩
  have H3 := Lib.hid h3
  clear h3
  have HC := (answer_at (o := o2) (frm := 9) (to := 7) (d0 := 8) (d1 := 9) F14.out WO2.out ⟨by decide, by decide⟩ ⟨⟨by decide, by decide⟩, ⟨by decide, by decide⟩⟩ (by have h := H3.out; unfold Sough.rn3 at h; simp only [H1.out, H2.out] at h; exact h) : (Calls Try.prog 14 #[.pointer (some ⟨p, 0, none⟩), .agg #[.int .i64 o2.y.ck, .int .i64 o2.y.k, .int .i64 o2.y.h, .int .u64 o2.y.n, .int .i64 o2.peer, .int .i64 o2.version, .int .u64 o2.stamp, .int .i64 o2.e, .int .i64 o2.ek, .int .i64 o2.pub], .int .u64 9, .int .u64 7, .agg #[.int .i64 8, .int .i64 9]] _ _) ∧ y3.Wf ∧ u3.Wf)
  obtain ⟨HC, wy3, wu3⟩ := HC
  have WY3 := Lib.hid wy3
  have WU3 := Lib.hid wu3
  clear wy3 wu3
  have HC := Lib.hid HC
  have r0 := F13.out.mem.rules; simp only [AllCells, CellsAt, Nat.zero_add, Nat.reduceAdd, talkC] at r0
  have r1 := F14.out.mem.rules; simp only [AllCells, CellsAt, Nat.zero_add, Nat.reduceAdd, talkC] at r1
  go_wp2_with fail
  clear r0 r1
  refine HC.out.mono ?_
  rintro e w4 ⟨rfl, g⟩
  clear HC
  clear F13
  have F15 := Lib.hid g
  have F16 := Lib.hid (F15.out.alloc (.cells #[.int .i64 (y3.v 0), .int .u64 (y3.v 1), .int .u64 (y3.v 2), .string ⟨y3.offer.toArray⟩, .int .i64 (y3.v 4), .int .i64 (y3.v 5), .int .i64 (y3.v 6), .int .i64 (y3.v 7), .int .i64 (y3.v 8), .int .i64 (y3.v 9), .int .i64 (y3.v 10), .int .u64 (y3.v 11), .int .u64 (y3.v 12)] 34))
  try simp only [World.size_alloc, size_setCell] at F16
  have F17 := Lib.hid (F16.out.alloc (.cells #[.int .i64 u3.h, .int .i64 u3.send, .int .i64 u3.recv, .int .i64 u3.version] 49))
  try simp only [World.size_alloc, size_setCell] at F17
  clear g
  clear F14
  have f3 := FX3.out
  rw [H3.out] at f3
  subst f3
  obtain ⟨s4, z4, e4, h4⟩ : ∃ s4 z4 e4, Sough.rn4 st 3 = (s4, z4, e4) := ⟨_, _, _, rfl⟩
  have H4 := Lib.hid h4
  clear h4
  have HC := (finish_at (me := Sough.me0) (q := q1) (m := y3) F17.out ⟨by decide, by decide⟩ WQ1.out WY3.out (by have h := H4.out; unfold Sough.rn4 at h; simp only [H1.out, H2.out, H3.out] at h; exact h) : (Calls Try.prog 16 #[.pointer (some ⟨p, 0, none⟩), .agg #[.int .i64 1, .int .i64 2], .agg #[.int .i64 q1.y.ck, .int .i64 q1.y.k, .int .i64 q1.y.h, .int .u64 q1.y.n, .int .i64 q1.e, .int .i64 q1.ek, .string ⟨q1.offer.toArray⟩], .agg #[.int .i64 (y3.v 0), .int .u64 (y3.v 1), .int .u64 (y3.v 2), .string ⟨y3.offer.toArray⟩, .int .i64 (y3.v 4), .int .i64 (y3.v 5), .int .i64 (y3.v 6), .int .i64 (y3.v 7), .int .i64 (y3.v 8), .int .i64 (y3.v 9), .int .i64 (y3.v 10), .int .u64 (y3.v 11), .int .u64 (y3.v 12)]] _ _) ∧ z4.Wf)
  obtain ⟨HC, wz4⟩ := HC
  have WZ4 := Lib.hid wz4
  clear wz4
  have HC := Lib.hid HC
  have r0 := F15.out.mem.rules; simp only [AllCells, CellsAt, Nat.zero_add, Nat.reduceAdd, talkC] at r0
  have r1 := F16.out.mem.rules; simp only [AllCells, CellsAt, Nat.zero_add, Nat.reduceAdd, talkC] at r1
  have r2 := F17.out.mem.rules; simp only [AllCells, CellsAt, Nat.zero_add, Nat.reduceAdd, talkC] at r2
  go_wp2_with fail
  clear r0 r1 r2
  refine HC.out.mono ?_
  rintro e w5 ⟨rfl, g⟩
  clear HC
  clear F15 F16
  have F18 := Lib.hid g
  clear g
  clear F17
  have r0 := F18.out.mem.rules; simp only [AllCells, CellsAt, Nat.zero_add, Nat.reduceAdd, talkC] at r0
  go_wp2_with fail
  clear r0
  have FZ := Lib.hid (SF.setMid (A := [_, _, _, _, _, _, _, _, _, _]) (SF.setMid (A := [_, _, _, _, _, _, _, _, _, _]) (SF.setMid (A := [_, _, _, _, _, _, _, _, _, _]) (SF.setMid (A := [_, _, _, _, _, _, _, _, _, _]) (F18.out) 0 (.int .i64 z4.h)) 1 (.int .i64 z4.send)) 2 (.int .i64 z4.recv)) 3 (.int .i64 z4.version))
  simp only [List.setIfInBounds_toArray, List.set_cons_succ, List.set_cons_zero] at FZ
  have g0 := FZ.out.get 10 rfl
  have hr := H4.out
  refine bodyPost_ret (v := .tuple #[.agg #[.int .i64 z4.h, .int .i64 z4.send, .int .i64 z4.recv, .int .i64 z4.version], .int .i64 (e4 : Int)]) (by simp [results, Try.results18, go_sem, World.cell?, g0]) rfl ⟨by rw [hr], by rw [hr]; exact FZ.out.sub (by repeat (first | with_reducible exact List.Sublist.refl _ | with_reducible refine List.Sublist.cons_cons _ ?_ | refine List.Sublist.cons _ ?_))⟩

theorem run_at {S : List Nat} {w0 W : World} {p k : Nat} {st : Sough.Store} {L : List (Nat × Obj)} (h : SF S w0 W p st L) (hk : k < 4) (f : (Sough.rn1 st k).2.2.2 = 0 ∧ (Sough.rn2 st k).2.2 = 0 ∧ (Sough.rn3 st k).2.2.2 = 0) :
    Calls Try.prog 18 #[.pointer (some ⟨p, 0, none⟩), .agg #[.int .i64 1, .int .i64 2, .int .i64 3, .int .i64 4], .agg #[.int .i64 17, .int .i64 18, .int .i64 5, .int .i64 6, .int .i64 15, .int .i64 16, .int .i64 5, .int .i64 6], .int .i64 (k : Int)] W fun e w' => e = .returned (.tuple #[.agg #[.int .i64 (Sough.rn4 st k).2.1.h, .int .i64 (Sough.rn4 st k).2.1.send, .int .i64 (Sough.rn4 st k).2.1.recv, .int .i64 (Sough.rn4 st k).2.1.version], .int .i64 ((Sough.rn4 st k).2.2 : Nat)]) ∧ SF S w0 w' p (Sough.rn4 st k).1 L := by
  have h4 : k = 0 ∨ k = 1 ∨ k = 2 ∨ k = 3 := by omega
  rcases h4 with rfl | rfl | rfl | rfl
  · rw [show ((0 : Nat) : Int) = 0 from rfl]; exact run_0 h f.1 f.2.1 f.2.2
  · rw [show ((1 : Nat) : Int) = 1 from rfl]; exact run_1 h f.1 f.2.1 f.2.2
  · rw [show ((2 : Nat) : Int) = 2 from rfl]; exact run_2 h f.1 f.2.1 f.2.2
  · rw [show ((3 : Nat) : Int) = 3 from rfl]; exact run_3 h f.1 f.2.1 f.2.2

end Go.Proofs.Ytlfgempjjoclbaa
