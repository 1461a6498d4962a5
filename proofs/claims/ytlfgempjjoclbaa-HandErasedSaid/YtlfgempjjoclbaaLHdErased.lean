/- The walk of HandErased. (Printed by wip/tools/mkerased.py.) -/
import Derived.Test.YtlfgempjjoclbaaLHdHidesAll
import Derived.Test.YtlfgempjjoclbaaLHdHeard
namespace Go.Proofs.Ytlfgempjjoclbaa
open Go.RowKit Go.Maps Go.ChangeMaps
set_option maxRecDepth 100000 in
set_option maxHeartbeats 6400000 in
theorem erased_kn {a k n : Nat} (ha : (a : Int) % 2 = (k : Int)) (hk : k < 2) (hn : n < 256) (ha2 : a < 256) (W : World) :
    Calls Try.prog 10 #[.int .u8 a, .int .u8 n] W fun e w' => e = .returned (.bool true) ∧ Below W.heap.size W w' := by
  have HFX := Lib.hid (Sough.hd_all hk hn)
  have HN := Lib.hid hn
  have HKI := Lib.hid (show Sough.Int64 (k : Int) from ⟨by omega, by omega⟩)
  clear hk
  go_enter Try.func10, Try.ntmps10
  go_wp2_with fail
  refine (two_any _).mono ?_
  rintro e w1 ⟨p, rfl, g⟩
  have F1 := Lib.hid g
  have F2 := Lib.hid (F1.out.alloc (.cells #[.int .i64 1, .int .i64 2, .int .i64 3, .int .i64 4] 25))
  try simp only [World.size_alloc, size_setCell] at F2
  have F3 := Lib.hid (F2.out.alloc (.cells #[.int .i64 17, .int .i64 18, .int .i64 5, .int .i64 6, .int .i64 15, .int .i64 16, .int .i64 5, .int .i64 6] 29))
  try simp only [World.size_alloc, size_setCell] at F3
  clear g
  obtain ⟨s1, m1, q1, e1, h1⟩ : ∃ s1 m1 q1 e1, Sough.hd1 k n = (s1, m1, q1, e1) := ⟨_, _, _, _, rfl⟩
  have H1 := Lib.hid h1
  clear h1
  have HC := (begin_at (me := Sough.me0) (pr := Sough.peer0) (m := Sough.reqM 7 [1] k) (stamp := n) (d0 := 7) (d1 := 8) (d2 := 9) F3.out (Sough.reqM_wf (by decide) HKI.out (by decide)) (by have := HN.out; omega) ⟨⟨by decide, by decide⟩, ⟨by decide, by decide⟩⟩ ⟨⟨by decide, by decide⟩, ⟨by decide, by decide⟩, ⟨by decide, by decide⟩, ⟨by decide, by decide⟩⟩ ⟨⟨by decide, by decide⟩, ⟨by decide, by decide⟩, ⟨by decide, by decide⟩⟩ (by have h := H1.out; unfold Sough.hd1 at h; exact h) : (Calls Try.prog 12 #[.pointer (some ⟨p, 0, none⟩), .agg #[.int .i64 1, .int .i64 2], .agg #[.int .i64 17, .int .i64 18, .int .i64 5, .int .i64 6], .agg #[.int .i64 0, .int .u64 7, .int .u64 0, .string ⟨#[1]⟩, .int .i64 (k : Int), .int .i64 0, .int .i64 0, .int .i64 0, .int .i64 0, .int .i64 0, .int .i64 0, .int .u64 0, .int .u64 0], .int .u64 (n : Int), .agg #[.int .i64 7, .int .i64 8, .int .i64 9]] _ _) ∧ m1.Wf ∧ q1.Wf)
  obtain ⟨HC, wm1, wq1⟩ := HC
  have WM1 := Lib.hid wm1
  have WQ1 := Lib.hid wq1
  clear wm1 wq1
  have HC := Lib.hid HC
  have r0 := F1.out.mem.rules; simp only [AllCells, CellsAt, Nat.zero_add, Nat.reduceAdd, talkC] at r0
  have r1 := F2.out.mem.rules; simp only [AllCells, CellsAt, Nat.zero_add, Nat.reduceAdd, talkC] at r1
  have r2 := F3.out.mem.rules; simp only [AllCells, CellsAt, Nat.zero_add, Nat.reduceAdd, talkC] at r2
  go_wp2_with fail
  clear r0 r1 r2
  refine HC.out.mono ?_
  rintro e w2 ⟨rfl, g⟩
  clear HC
  clear F1 F2
  have F4 := Lib.hid g
  have F5 := Lib.hid (F4.out.alloc (.cells #[.int .i64 (m1.v 0), .int .u64 (m1.v 1), .int .u64 (m1.v 2), .string ⟨m1.offer.toArray⟩, .int .i64 (m1.v 4), .int .i64 (m1.v 5), .int .i64 (m1.v 6), .int .i64 (m1.v 7), .int .i64 (m1.v 8), .int .i64 (m1.v 9), .int .i64 (m1.v 10), .int .u64 (m1.v 11), .int .u64 (m1.v 12)] 34))
  try simp only [World.size_alloc, size_setCell] at F5
  have F6 := Lib.hid (F5.out.alloc (.cells #[.int .i64 q1.y.ck, .int .i64 q1.y.k, .int .i64 q1.y.h, .int .u64 q1.y.n, .int .i64 q1.e, .int .i64 q1.ek, .string ⟨q1.offer.toArray⟩] 38))
  try simp only [World.size_alloc, size_setCell] at F6
  clear g
  clear F3
  have F7 := Lib.hid (F6.out.alloc (.cells #[.int .i64 15, .int .i64 16, .int .i64 5, .int .i64 6] 28))
  try simp only [World.size_alloc, size_setCell] at F7
  obtain ⟨s2, o2, e2, h2⟩ : ∃ s2 o2 e2, Sough.hd2 k n = (s2, o2, e2) := ⟨_, _, _, rfl⟩
  have H2 := Lib.hid h2
  clear h2
  have HC := (open_at (me := Sough.me1) (peers := [Sough.peer1]) (text := [1]) (m := m1) F7.out ⟨⟨by decide, by decide⟩, ⟨by decide, by decide⟩⟩ (.inr ⟨_, 1, _, rfl, Nat.le_refl _, by omega, List.mem_cons_self ..⟩) (by intro q hq; simp only [List.mem_cons, List.not_mem_nil, or_false] at hq; subst hq; exact ⟨⟨by decide, by decide⟩, ⟨by decide, by decide⟩⟩) (by decide) WM1.out (by have h := H2.out; unfold Sough.hd2 at h; simp only [H1.out] at h; exact h) : (Calls Try.prog 13 #[.pointer (some ⟨p, 0, none⟩), .agg #[.int .i64 3, .int .i64 4], .slice (some ⟨w2.heap.size + 1 + 1, 0, none⟩) 1 1, .string ⟨#[1]⟩, .agg #[.int .i64 (m1.v 0), .int .u64 (m1.v 1), .int .u64 (m1.v 2), .string ⟨m1.offer.toArray⟩, .int .i64 (m1.v 4), .int .i64 (m1.v 5), .int .i64 (m1.v 6), .int .i64 (m1.v 7), .int .i64 (m1.v 8), .int .i64 (m1.v 9), .int .i64 (m1.v 10), .int .u64 (m1.v 11), .int .u64 (m1.v 12)]] _ _) ∧ o2.Wf)
  obtain ⟨HC, wo2⟩ := HC
  have WO2 := Lib.hid wo2
  clear wo2
  have HC := Lib.hid HC
  have r0 := F4.out.mem.rules; simp only [AllCells, CellsAt, Nat.zero_add, Nat.reduceAdd, talkC] at r0
  have r1 := F5.out.mem.rules; simp only [AllCells, CellsAt, Nat.zero_add, Nat.reduceAdd, talkC] at r1
  have r2 := F6.out.mem.rules; simp only [AllCells, CellsAt, Nat.zero_add, Nat.reduceAdd, talkC] at r2
  have r3 := F7.out.mem.rules; simp only [AllCells, CellsAt, Nat.zero_add, Nat.reduceAdd, talkC] at r3
  go_wp2_with fail
  clear r0 r1 r2 r3
  refine HC.out.mono ?_
  rintro e w3 ⟨rfl, g⟩
  clear HC
  clear F4 F5 F6
  have F8 := Lib.hid g
  have F9 := Lib.hid (F8.out.alloc (.cells #[.int .i64 o2.y.ck, .int .i64 o2.y.k, .int .i64 o2.y.h, .int .u64 o2.y.n, .int .i64 o2.peer, .int .i64 o2.version, .int .u64 o2.stamp, .int .i64 o2.e, .int .i64 o2.ek, .int .i64 o2.pub] 44))
  try simp only [World.size_alloc, size_setCell] at F9
  clear g
  clear F7
  obtain ⟨s3, m3, u3, e3, h3⟩ : ∃ s3 m3 u3 e3, Sough.hd3 k n = (s3, m3, u3, e3) := ⟨_, _, _, _, rfl⟩
  have H3 := Lib.hid h3
  clear h3
  have HC := (answer_at (o := o2) (frm := 9) (to := 7) (d0 := 10) (d1 := 11) F9.out WO2.out ⟨by decide, by decide⟩ ⟨⟨by decide, by decide⟩, ⟨by decide, by decide⟩⟩ (by have h := H3.out; unfold Sough.hd3 at h; simp only [H1.out, H2.out] at h; exact h) : (Calls Try.prog 14 #[.pointer (some ⟨p, 0, none⟩), .agg #[.int .i64 o2.y.ck, .int .i64 o2.y.k, .int .i64 o2.y.h, .int .u64 o2.y.n, .int .i64 o2.peer, .int .i64 o2.version, .int .u64 o2.stamp, .int .i64 o2.e, .int .i64 o2.ek, .int .i64 o2.pub], .int .u64 9, .int .u64 7, .agg #[.int .i64 10, .int .i64 11]] _ _) ∧ m3.Wf ∧ u3.Wf)
  obtain ⟨HC, wy3, wu3⟩ := HC
  have WY3 := Lib.hid wy3
  have WU3 := Lib.hid wu3
  clear wy3 wu3
  have HC := Lib.hid HC
  have r0 := F8.out.mem.rules; simp only [AllCells, CellsAt, Nat.zero_add, Nat.reduceAdd, talkC] at r0
  have r1 := F9.out.mem.rules; simp only [AllCells, CellsAt, Nat.zero_add, Nat.reduceAdd, talkC] at r1
  go_wp2_with fail
  clear r0 r1
  refine HC.out.mono ?_
  rintro e w4 ⟨rfl, g⟩
  clear HC
  clear F8
  have F10 := Lib.hid g
  have F11 := Lib.hid (F10.out.alloc (.cells #[.int .i64 (m3.v 0), .int .u64 (m3.v 1), .int .u64 (m3.v 2), .string ⟨m3.offer.toArray⟩, .int .i64 (m3.v 4), .int .i64 (m3.v 5), .int .i64 (m3.v 6), .int .i64 (m3.v 7), .int .i64 (m3.v 8), .int .i64 (m3.v 9), .int .i64 (m3.v 10), .int .u64 (m3.v 11), .int .u64 (m3.v 12)] 34))
  try simp only [World.size_alloc, size_setCell] at F11
  have F12 := Lib.hid (F11.out.alloc (.cells #[.int .i64 u3.h, .int .i64 u3.send, .int .i64 u3.recv, .int .i64 u3.version] 49))
  try simp only [World.size_alloc, size_setCell] at F12
  clear g
  clear F9
  obtain ⟨s4, z4, e4, h4⟩ : ∃ s4 z4 e4, Sough.hd4 k n = (s4, z4, e4) := ⟨_, _, _, rfl⟩
  have H4 := Lib.hid h4
  clear h4
  have HC := (finish_at (me := Sough.me0) (q := q1) (m := m3) F12.out ⟨by decide, by decide⟩ WQ1.out WY3.out (by have h := H4.out; unfold Sough.hd4 at h; simp only [H1.out, H2.out, H3.out] at h; exact h) : (Calls Try.prog 16 #[.pointer (some ⟨p, 0, none⟩), .agg #[.int .i64 1, .int .i64 2], .agg #[.int .i64 q1.y.ck, .int .i64 q1.y.k, .int .i64 q1.y.h, .int .u64 q1.y.n, .int .i64 q1.e, .int .i64 q1.ek, .string ⟨q1.offer.toArray⟩], .agg #[.int .i64 (m3.v 0), .int .u64 (m3.v 1), .int .u64 (m3.v 2), .string ⟨m3.offer.toArray⟩, .int .i64 (m3.v 4), .int .i64 (m3.v 5), .int .i64 (m3.v 6), .int .i64 (m3.v 7), .int .i64 (m3.v 8), .int .i64 (m3.v 9), .int .i64 (m3.v 10), .int .u64 (m3.v 11), .int .u64 (m3.v 12)]] _ _) ∧ z4.Wf)
  obtain ⟨HC, wz4⟩ := HC
  have WZ4 := Lib.hid wz4
  clear wz4
  have HC := Lib.hid HC
  have r0 := F10.out.mem.rules; simp only [AllCells, CellsAt, Nat.zero_add, Nat.reduceAdd, talkC] at r0
  have r1 := F11.out.mem.rules; simp only [AllCells, CellsAt, Nat.zero_add, Nat.reduceAdd, talkC] at r1
  have r2 := F12.out.mem.rules; simp only [AllCells, CellsAt, Nat.zero_add, Nat.reduceAdd, talkC] at r2
  go_wp2_with fail
  clear r0 r1 r2
  refine HC.out.mono ?_
  rintro e w5 ⟨rfl, g⟩
  clear HC
  clear F10 F11
  have F13 := Lib.hid g
  have F14 := Lib.hid (F13.out.alloc (.cells #[.int .i64 z4.h, .int .i64 z4.send, .int .i64 z4.recv, .int .i64 z4.version] 49))
  try simp only [World.size_alloc, size_setCell] at F14
  clear g
  clear F12
  obtain ⟨hok, _, _, her⟩ := HFX.out
  unfold Sough.hdOk at hok
  unfold Sough.hdE at her
  simp only [H1.out, H2.out, H3.out, H4.out] at hok her
  obtain ⟨f1, f2, f3, f4, f5, f6⟩ := hok
  subst f1 f2 f3 f4
  have HER := Lib.hid her; have F5 := Lib.hid f5; have F6 := Lib.hid f6
  clear her f5 f6
  have r0 := F13.out.mem.rules; simp only [AllCells, CellsAt, Nat.zero_add, Nat.reduceAdd, talkC] at r0
  have r1 := F14.out.mem.rules; simp only [AllCells, CellsAt, Nat.zero_add, Nat.reduceAdd, talkC] at r1
  go_wp2_with fail
  clear r0 r1
  obtain ⟨wz, hwz⟩ : ∃ w, w = w5.alloc (.cells #[.int .i64 z4.h, .int .i64 z4.send, .int .i64 z4.recv, .int .i64 z4.version] 49) := ⟨_, rfl⟩
  rw [← hwz] at F14 ⊢
  have hw5 : w5.heap.size < wz.heap.size := by rw [hwz, World.size_alloc]; omega
  clear hwz F13
  obtain ⟨iI, hinfI, hzI, hsI, hbI⟩ := intInfo
  have HM1 := Lib.hid (F14.out.get 6 rfl); have HM3 := Lib.hid (F14.out.get 2 rfl)
  obtain ⟨la, hla⟩ : ∃ l, l = Sough.namesL m1 := ⟨_, rfl⟩
  obtain ⟨lb, hlb⟩ : ∃ l, l = Sough.namesL m3 := ⟨_, rfl⟩
  have HLA : Hid (la.length = 5 ∧ la ≠ []) := Lib.hid (by rw [hla]; unfold Sough.namesL; rw [if_pos F5.out]; simp)
  have HLB : Hid (lb.length = 3 ∧ lb ≠ []) := Lib.hid (by rw [hlb]; unfold Sough.namesL; rw [if_neg (by rw [F6.out]; decide), if_pos F6.out]; simp)
  have CN1 := Lib.hid (names_any m1); have CN3 := Lib.hid (names_any m3)
  rw [← hla] at CN1; rw [← hlb] at CN3
  have HLL := Lib.hid (And.intro hla hlb)
  clear hla hlb
  refine wp_facts (n := 165) [] [.val fun _ => .agg #[.int .i64 (m1.v 0), .int .u64 (m1.v 1), .int .u64 (m1.v 2), .string ⟨m1.offer.toArray⟩, .int .i64 (m1.v 4), .int .i64 (m1.v 5), .int .i64 (m1.v 6), .int .i64 (m1.v 7), .int .i64 (m1.v 8), .int .i64 (m1.v 9), .int .i64 (m1.v 10), .int .u64 (m1.v 11), .int .u64 (m1.v 12)], .res, .val fun _ => .agg #[.int .i64 (m3.v 0), .int .u64 (m3.v 1), .int .u64 (m3.v 2), .string ⟨m3.offer.toArray⟩, .int .i64 (m3.v 4), .int .i64 (m3.v 5), .int .i64 (m3.v 6), .int .i64 (m3.v 7), .int .i64 (m3.v 8), .int .i64 (m3.v 9), .int .i64 (m3.v 10), .int .u64 (m3.v 11), .int .u64 (m3.v 12)], .res, .res, .val fun v => v 4] (fun _ => True) (HeardP wz.heap.size la lb) (by kernel_rfl) (by kernel_rfl) rfl rfl (by simp) trivial (fun _ _ _ _ => trivial) HeardP.keep ?_ ?_
  · refine ⟨?_, ?_, ?_, ?_, ?_, ?_, trivial⟩
    · refine ⟨fun _ _ _ => rfl, ?_⟩
      intro v x hx hk
      have y0 := fun z : Later x => cells13 (m := m1) (turned_block hx HM1.out (by simp) z)
      refine .inl ⟨wanted_none rfl, ?_⟩
      simp only [putAll, Act.put, List.setIfInBounds_toArray, List.set_cons_succ, List.set_cons_zero]
      refine val_of_quiet (ops := #[]) rfl ?_
      go_big_quiet_step (fail)
      exact wpQuiet_nil (by first | rfl | simp)
    · skip
      intro v x hx hk
      have e0 : v 0 = .agg #[.int .i64 (m1.v 0), .int .u64 (m1.v 1), .int .u64 (m1.v 2), .string ⟨m1.offer.toArray⟩, .int .i64 (m1.v 4), .int .i64 (m1.v 5), .int .i64 (m1.v 6), .int .i64 (m1.v 7), .int .i64 (m1.v 8), .int .i64 (m1.v 9), .int .i64 (m1.v 10), .int .u64 (m1.v 11), .int .u64 (m1.v 12)] := hk 0 (by decide)
      refine ⟨wanted_none rfl, ?_⟩
      refine res_of ?_
      simp only [putAll, Act.put, List.setIfInBounds_toArray, List.set_cons_succ, List.set_cons_zero, e0]
      unfold Oper.wp
      go_simp
      refine (CN1.out _).mono ?_
      rintro e y ⟨hb, h⟩
      rcases h with ⟨hl, rfl⟩ | ⟨_, g, rfl, hg1, hg2⟩
      · exact absurd hl HLA.out.2
      · exact resK_mk rfl hb (FP := [g]) ⟨g, rfl, rfl, hg2⟩ (by have := lt_of_block hg2; simp; omega)
    · refine ⟨fun _ _ _ => rfl, ?_⟩
      intro v x hx hk
      have y0 := fun z : Later x => cells13 (m := m3) (turned_block hx HM3.out (by simp) z)
      refine .inl ⟨wanted_none rfl, ?_⟩
      simp only [putAll, Act.put, List.setIfInBounds_toArray, List.set_cons_succ, List.set_cons_zero]
      refine val_of_quiet (ops := #[]) rfl ?_
      go_big_quiet_step (fail)
      exact wpQuiet_nil (by first | rfl | simp)
    · skip
      intro v x hx hk
      have e2 : v 2 = .agg #[.int .i64 (m3.v 0), .int .u64 (m3.v 1), .int .u64 (m3.v 2), .string ⟨m3.offer.toArray⟩, .int .i64 (m3.v 4), .int .i64 (m3.v 5), .int .i64 (m3.v 6), .int .i64 (m3.v 7), .int .i64 (m3.v 8), .int .i64 (m3.v 9), .int .i64 (m3.v 10), .int .u64 (m3.v 11), .int .u64 (m3.v 12)] := hk 2 (by decide)
      refine ⟨wanted_none rfl, ?_⟩
      refine res_of ?_
      simp only [putAll, Act.put, List.setIfInBounds_toArray, List.set_cons_succ, List.set_cons_zero, e2]
      unfold Oper.wp
      go_simp
      refine (CN3.out _).mono ?_
      rintro e y ⟨hb, h⟩
      rcases h with ⟨hl, rfl⟩ | ⟨_, g, rfl, hg1, hg2⟩
      · exact absurd hl HLB.out.2
      · exact resK_mk rfl hb (FP := [g]) ⟨g, rfl, rfl, hg2⟩ (by have := lt_of_block hg2; simp; omega)
    · skip
      intro v x hx hk
      obtain ⟨FP1, hp1⟩ := hk 1 (by decide)
      obtain ⟨FP3, hp3⟩ := hk 3 (by decide)
      obtain ⟨g1, e1, -, hg1⟩ : RowL la (v 1) FP1 x := hp1
      obtain ⟨g3, e3, -, hg3⟩ : RowL lb (v 3) FP3 x := hp3
      refine ⟨wanted_none rfl, ?_⟩
      simp only [putAll, Act.put, List.setIfInBounds_toArray, List.set_cons_succ, List.set_cons_zero, e1, e3]
      have hla5 := HLA.out.1; have hlb3 := HLB.out.1
      exact oper_append_ints hx.size rfl _ _ rfl rfl rfl hg1 hg3 (by omega) (by omega)
    · refine ⟨fun v v' h => h 4 (by decide), ?_⟩
      intro v x hx hk
      obtain ⟨FP4, hp4⟩ := hk 4 (by decide)
      obtain ⟨-, g4, c4, e4, -⟩ : RowX wz.heap.size (la ++ lb) (v 4) FP4 x := hp4
      refine .inl ⟨wanted_none rfl, ?_⟩
      simp only [putAll, Act.put, List.setIfInBounds_toArray, List.set_cons_succ, List.set_cons_zero, e4]
      refine val_of_quiet (ops := #[]) rfl ?_
      go_big_quiet_step (fail)
      exact wpQuiet_nil (by first | rfl | simp)
  intro v GG x hF
  obtain ⟨FP, hp4, -⟩ := hF.post 4 (.inr rfl) rfl
  obtain ⟨hown, g4, c4, e4, -⟩ : RowX wz.heap.size (la ++ lb) (v 4) FP x := hp4
  have e5 := hF.vals 5 _ rfl rfl
  rw [e4] at e5 hown
  have hbel := hF.tur.toBelow (B := wz.heap.size) (by simp) (Nat.le_refl _)
  clear hF HM1 HM3 CN1 CN3
  simp only [putAll, Act.put, List.setIfInBounds_toArray, List.set_cons_succ, List.set_cons_zero, e5, e4, Nat.zero_add, Nat.reduceAdd]
  clear e4 e5
  generalize v 0 = zq0
  generalize v 1 = zq1
  generalize v 2 = zq2
  generalize v 3 = zq3
  clear v GG
  have h8 : (la ++ lb).length = 8 := by rw [List.length_append, HLA.out.1, HLB.out.1]
  rw [h8] at hown
  simp only [h8]
  clear h8
  have FX := Lib.hid (F14.out.later hbel)
  have r0 := FX.out.mem.rules; simp only [AllCells, CellsAt, Nat.zero_add, Nat.reduceAdd, talkC] at r0
  go_wp2_with (at_builtin; refine wpList_append_own _ rfl _ _ 61 rfl wz.heap.size 3 iI (.int .i64 0) 1 8 Try.underlying61 hinfI hzI hsI hbI rfl (by decide) _ _ _ rfl (hown.alloc _) ⟨x.heap.size, 0, none⟩ 10 10 [.int .i64 1, .int .i64 2, .int .i64 3, .int .i64 4, .int .i64 5, .int .i64 6, .int .i64 17, .int .i64 18, .int .i64 15, .int .i64 16] rfl rfl ?c1 ?c2 ?c3 ?c4 ?c5 ?_)
  case c1 =>
    intro j u hj
    simp only [Addr.add_lit, Nat.zero_add, World.cell?, heap_alloc_new]
    simpa using hj
  case c2 => intro u hu; simp at hu; rcases hu with rfl | rfl | rfl | rfl | rfl | rfl | rfl | rfl | rfl | rfl <;> rfl
  case c3 => unfold maxLen; omega
  case c4 => omega
  case c5 => have := hbel.size; simp; omega
  intro v' w6 hown' hgrow' _
  have hb6 := hbel.trans (app_below hbel.size hown hgrow')
  have hl12 : 18 = (la ++ lb ++ [1, 2, 3, 4, 5, 6, 17, 18, 15, 16]).length := by simp [HLA.out.1, HLB.out.1]
  have hown2 : w6.ownsRow wz.heap.size 3 1 v' 18 ((la ++ lb ++ [1, 2, 3, 4, 5, 6, 17, 18, 15, 16]).map (Value.int .i64)) := by simpa using hown'
  obtain ⟨g6, c6, rfl, hg6, _⟩ := own_form hown2 (by decide)
  have HI6 := Lib.hid (RowX.ints hown2 hl12)
  have HL12 := Lib.hid hl12
  have HO6 := Lib.hid hown2
  have F15 := Lib.hid (F14.out.later hb6)
  have HBW6 := Lib.hid hb6
  clear hown hown' hown2 hgrow' hb6 hbel FX r0 hl12
  have r0 := F15.out.mem.rules; simp only [AllCells, CellsAt, Nat.zero_add, Nat.reduceAdd, talkC] at r0
  obtain ⟨dh, hdh⟩ : ∃ x, (bits BinOp.and IntKind.u8 (n : Int) 1 == 1) = x := ⟨_, rfl⟩
  obtain ⟨km, hkm⟩ : ∃ x, (bits BinOp.and IntKind.u8 (n : Int) 2 == 2) = x := ⟨_, rfl⟩
  have F16 := Lib.hid (F15.out.alloc (.cells #[.bool dh, .bool km] 69))
  try simp only [World.size_alloc, size_setCell] at F16
  have r1 := F16.out.mem.rules; simp only [AllCells, CellsAt, Nat.zero_add, Nat.reduceAdd, talkC] at r1
  go_wp2_with fail
  clear r0 r1 hdh hkm
  have HI7 := Lib.hid (HI6.out.later ((Below.refl _ w6).alloc (Nat.le_refl _) (.cells #[.bool dh, .bool km] 69)))
  have HO7 := Lib.hid (HO6.out.alloc (.cells #[.bool dh, .bool km] 69))
  have HBZ := Lib.hid (show wz.heap.size ≤ w6.heap.size + 1 from by have := own_lt HO6.out; omega)
  obtain ⟨wb, hwb⟩ : ∃ w, w = w6.alloc (.cells #[.bool dh, .bool km] 69) := ⟨_, rfl⟩
  have hsz : wb.heap.size = w6.heap.size + 1 := by rw [hwb, World.size_alloc]
  rw [← hwb] at F16 HI7 HO7 ⊢
  rw [← hsz] at HBZ
  have HBW := Lib.hid (HBW6.out.trans (show Below wz.heap.size w6 wb from by rw [hwb]; exact (Below.refl _ w6).alloc HBW6.out.size _))
  clear hwb F15 HI6 HO6 HBW6
  have HE2 := Lib.hid (HER.out dh km)
  have hhl : Sough.heardE m1 m3 = la ++ lb ++ [1, 2, 3, 4, 5, 6, 17, 18, 15, 16] := by unfold Sough.heardE; rw [HLL.out.1, HLL.out.2]
  rw [hhl] at HE2
  obtain ⟨hl, hhl2⟩ : ∃ l, l = la ++ lb ++ [1, 2, 3, 4, 5, 6, 17, 18, 15, 16] := ⟨_, rfl⟩
  rw [← hhl2] at HE2 HL12 HI7 HO7
  have HC1 := Lib.hid (Sough.er_can HE2.out (x := u3.send) (by simp))
  have HC2 := Lib.hid (Sough.er_can HE2.out (x := z4.send) (by simp))
  clear hhl hhl2 HER HE2
  cases dh <;> cases km
  · skip
    have CK := Lib.hid (F16.out.can0 (cap := c6) (f := ⟨false, false⟩) (x := u3.send) (v := false) HI7.out HL12.out (by decide) HC1.out)
    refine CK.out.mono ?_
    rintro e w7 ⟨rfl, hb⟩
    clear CK
    have F17 := Lib.hid (F16.out.later hb)
    have HI8 := Lib.hid (HI7.out.later hb)
    clear hb F16 HI7
    have CK := Lib.hid (F17.out.can0 (cap := c6) (f := ⟨false, false⟩) (x := z4.send) (v := false) HI8.out HL12.out (by decide) HC2.out)
    have r0 := F17.out.mem.rules; simp only [AllCells, CellsAt, Nat.zero_add, Nat.reduceAdd, talkC] at r0
    go_wp2_with fail
    clear r0
    refine CK.out.mono ?_
    rintro e w8 ⟨rfl, hb⟩
    clear CK
    have F18 := Lib.hid (F17.out.later hb)
    clear hb HI8 F17
    have r0 := F18.out.mem.rules; simp only [AllCells, CellsAt, Nat.zero_add, Nat.reduceAdd, talkC] at r0
    go_wp2_with fail
    clear r0
    refine (fixed_walk _).mono ?_
    rintro e wF ⟨rfl, hbF⟩
    have FF := Lib.hid (F18.out.later hbF)
    clear hbF
    go_wp2_with fail
    go_ret
    exact ⟨rfl, FF.out.tur.toBelow (by simp) (Nat.le_refl _)⟩
  · skip
    have CK := Lib.hid (F16.out.can0 (cap := c6) (f := ⟨false, true⟩) (x := u3.send) (v := false) HI7.out HL12.out (by decide) HC1.out)
    refine CK.out.mono ?_
    rintro e w7 ⟨rfl, hb⟩
    clear CK
    have F19 := Lib.hid (F16.out.later hb)
    have HI8 := Lib.hid (HI7.out.later hb)
    clear hb F16 HI7
    have CK := Lib.hid (F19.out.can0 (cap := c6) (f := ⟨false, true⟩) (x := z4.send) (v := false) HI8.out HL12.out (by decide) HC2.out)
    have r0 := F19.out.mem.rules; simp only [AllCells, CellsAt, Nat.zero_add, Nat.reduceAdd, talkC] at r0
    go_wp2_with fail
    clear r0
    refine CK.out.mono ?_
    rintro e w8 ⟨rfl, hb⟩
    clear CK
    have F20 := Lib.hid (F19.out.later hb)
    clear hb HI8 F19
    have r0 := F20.out.mem.rules; simp only [AllCells, CellsAt, Nat.zero_add, Nat.reduceAdd, talkC] at r0
    go_wp2_with fail
    clear r0
    refine (fixed_walk _).mono ?_
    rintro e wF ⟨rfl, hbF⟩
    have FF := Lib.hid (F20.out.later hbF)
    clear hbF
    go_wp2_with fail
    go_ret
    exact ⟨rfl, FF.out.tur.toBelow (by simp) (Nat.le_refl _)⟩
  · skip
    have CK := Lib.hid (F16.out.can0 (cap := c6) (f := ⟨true, false⟩) (x := u3.send) (v := false) HI7.out HL12.out (by decide) HC1.out)
    refine CK.out.mono ?_
    rintro e w7 ⟨rfl, hb⟩
    clear CK
    have F21 := Lib.hid (F16.out.later hb)
    have HI8 := Lib.hid (HI7.out.later hb)
    clear hb F16 HI7
    have CK := Lib.hid (F21.out.can0 (cap := c6) (f := ⟨true, false⟩) (x := z4.send) (v := false) HI8.out HL12.out (by decide) HC2.out)
    have r0 := F21.out.mem.rules; simp only [AllCells, CellsAt, Nat.zero_add, Nat.reduceAdd, talkC] at r0
    go_wp2_with fail
    clear r0
    refine CK.out.mono ?_
    rintro e w8 ⟨rfl, hb⟩
    clear CK
    have F22 := Lib.hid (F21.out.later hb)
    clear hb HI8 F21
    have r0 := F22.out.mem.rules; simp only [AllCells, CellsAt, Nat.zero_add, Nat.reduceAdd, talkC] at r0
    go_wp2_with fail
    clear r0
    refine (fixed_walk _).mono ?_
    rintro e wF ⟨rfl, hbF⟩
    have FF := Lib.hid (F22.out.later hbF)
    clear hbF
    go_wp2_with fail
    go_ret
    exact ⟨rfl, FF.out.tur.toBelow (by simp) (Nat.le_refl _)⟩
  · skip
    have CK := Lib.hid (F16.out.can0 (cap := c6) (f := ⟨true, true⟩) (x := u3.send) (v := true) HI7.out HL12.out (by decide) HC1.out)
    refine CK.out.mono ?_
    rintro e w7 ⟨rfl, hb⟩
    clear CK
    have F23 := Lib.hid (F16.out.later hb)
    have HI8 := Lib.hid (HI7.out.later hb)
    clear hb F16 HI7
    have CK := Lib.hid (F23.out.can0 (cap := c6) (f := ⟨true, true⟩) (x := z4.send) (v := true) HI8.out HL12.out (by decide) HC2.out)
    have r0 := F23.out.mem.rules; simp only [AllCells, CellsAt, Nat.zero_add, Nat.reduceAdd, talkC] at r0
    go_wp2_with fail
    clear r0
    refine CK.out.mono ?_
    rintro e w8 ⟨rfl, hb⟩
    clear CK
    have F24 := Lib.hid (F23.out.later hb)
    clear hb HI8 F23
    have r0 := F24.out.mem.rules; simp only [AllCells, CellsAt, Nat.zero_add, Nat.reduceAdd, talkC] at r0
    go_wp2_with fail
    clear r0
    refine (fixed_walk _).mono ?_
    rintro e wF ⟨rfl, hbF⟩
    have FF := Lib.hid (F24.out.later hbF)
    clear hbF
    go_wp2_with fail
    go_ret
    exact ⟨rfl, FF.out.tur.toBelow (by simp) (Nat.le_refl _)⟩
theorem handErased_walk (a b : Int) (W : World) (wa : (Lit.int .u8 a).wf = true) (wb : (Lit.int .u8 b).wf = true) :
    Calls Try.prog 10 #[.int .u8 a, .int .u8 b] W fun e w' => e = .returned (.bool true) ∧ Below W.heap.size W w' := by
  have b0 := bounds_u8 wa
  have b1 := bounds_u8 wb
  obtain ⟨x, rfl⟩ := Int.eq_ofNat_of_zero_le b0.1
  obtain ⟨y, rfl⟩ := Int.eq_ofNat_of_zero_le b1.1
  exact erased_kn (k := x % 2) (by omega) (by omega) (by omega) (by omega) W
end Go.Proofs.Ytlfgempjjoclbaa
