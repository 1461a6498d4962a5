/- The walk of MsgFields at kind 3, field % 4 = 2. -/
import Derived.Test.YtjoanlhdocoddaaMsFieldsAlt
namespace Go.Proofs.Ytjoanlhdocoddaa
open Go.RowKit Go.Maps Go.ChangeMaps

set_option maxRecDepth 100000 in
set_option maxHeartbeats 6400000 in
theorem fields_k3_2 {m a : Sough.Msg} {f x : Nat} (ht : a = cutM m) (hra : a.right = true) (hk : a.v 0 = 3) (hj : f % 4 = 2) (hf : f < 256) (hx : x < 65536) (w : World) (hw : m.Wf) :
    Calls Try.prog 7 #[.agg (msgC m), .int .u8 f, .int .u16 x] w fun e w' => e = .returned (.bool true) ∧ Below w.heap.size w w' := by
  have HK := Lib.hid hk
  clear hk
  have hwa := Lib.hid (cut_wf hw)
  rw [← ht] at hwa
  have T1 := Lib.hid ht; have H1 := Lib.hid hw; clear ht hw
  have M0 : Hid (Mem w [(w.heap.size, .cells #[.int .i64 (m.v 0), .int .u64 (m.v 1), .int .u64 (m.v 2), .string ⟨m.offer.toArray⟩, .int .i64 (m.v 4), .int .i64 (m.v 5), .int .i64 (m.v 6), .int .i64 (m.v 7), .int .i64 (m.v 8), .int .i64 (m.v 9), .int .i64 (m.v 10), .int .u64 (m.v 11), .int .u64 (m.v 12)] 24 (0, 0))] (w.alloc (.cells #[.int .i64 (m.v 0), .int .u64 (m.v 1), .int .u64 (m.v 2), .string ⟨m.offer.toArray⟩, .int .i64 (m.v 4), .int .i64 (m.v 5), .int .i64 (m.v 6), .int .i64 (m.v 7), .int .i64 (m.v 8), .int .i64 (m.v 9), .int .i64 (m.v 10), .int .u64 (m.v 11), .int .u64 (m.v 12)] 24))) := Lib.hid ((Mem.start w).alloc _)
  unfold msgC
  go_enter Try.func7, Try.ntmps7
  go_wp2_with fail
  generalize w.alloc (.cells #[.int .i64 (m.v 0), .int .u64 (m.v 1), .int .u64 (m.v 2), .string ⟨m.offer.toArray⟩, .int .i64 (m.v 4), .int .i64 (m.v 5), .int .i64 (m.v 6), .int .i64 (m.v 7), .int .i64 (m.v 8), .int .i64 (m.v 9), .int .i64 (m.v 10), .int .u64 (m.v 11), .int .u64 (m.v 12)] 24) = W0 at *
  refine (cut_to T1.out W0 H1.out).mono ?_
  rintro e w1 ⟨rfl, hb⟩
  have M1 := Lib.hid (M0.out.later hb)
  clear hb M0
  have r := M1.out.rules; simp only [AllCells, CellsAt, Nat.zero_add, Nat.reduceAdd] at r
  have M2 := Lib.hid (Mem.put13 (m := a) M1.out (Nat.le_refl _) (by simp))
  clear M1
  go_wp2_with fail
  change Calls _ _ _ (put13 w1 w.heap.size a) _
  clear r
  generalize put13 w1 w.heap.size a = W1 at *
  refine (right_lit hra hwa.out W1).mono ?_
  rintro e w2 ⟨rfl, hb⟩
  have M3 := Lib.hid (M2.out.later hb)
  clear hb M2
  have ca := cells13 (M3.out.get 0 rfl)
  have hk := HK.out
  have hlt := M3.out.lt 0 rfl
  have j1 : (f : Int) % 4 = 2 := by omega
  have l1 : w.heap.size < w2.heap.size + 1 := by omega
  have l2 : w.heap.size < w2.heap.size + 2 := by omega
  have l3 : w.heap.size < w2.heap.size + 3 := by omega
  have l4 : w.heap.size < w2.heap.size + 4 := by omega
  have l5 : w.heap.size < w2.heap.size + 5 := by omega
  have m2 : w.heap.size < w2.heap.size + 1 + 1 := by omega
  have m3 : w.heap.size < w2.heap.size + 1 + 1 + 1 := by omega
  have m4 : w.heap.size < w2.heap.size + 1 + 1 + 1 + 1 := by omega
  have m5 : w.heap.size < w2.heap.size + 1 + 1 + 1 + 1 + 1 := by omega
  go_wp2_with fail
  refine (names_any (rn3 a) _).mono ?_
  rintro e w5 ⟨hb, h⟩
  have M5 := Lib.hid ((((((((M3.out.alloc _).alloc _).alloc _).alloc _).alloc _).alloc _)).later hb)
  clear l1 l2 l3 l4 l5 m2 m3 m4 m5 hb ca
  simp only [World.size_alloc] at M5
  have hnm : namesL (rn3 a) = [] := rfl
  rw [hnm] at h
  rcases h with ⟨_, rfl⟩ | ⟨h, _⟩
  rotate_left
  · exact absurd rfl h
  have M6 := M5
  clear M5 hnm M3
  go_wp2_with fail
  go_loopw [10, 12] (fun isv iv wr => LookR w _ 0 0 isv iv wr ∧ isv = .bool true) (fun _ iv _ => 0 - (intOf iv).toNat)
  case atStart => exact ⟨⟨0, true, Nat.zero_le _, rfl, rfl, by omega, M6.out⟩, rfl⟩
  case round =>
    obtain ⟨⟨i, b, hi, rfl, rfl, hb, hM⟩, hbt⟩ := hrel
    obtain rfl : i = 0 := by omega
    obtain rfl : b = true := by simpa using hbt
    have M7 := Lib.hid hM
    clear hM M6 hb hbt hk
    · skip
      have ra := cells13 (m := alt3 a 0 0 1 0) (M7.out.get 5 rfl)
      go_wp2_with fail
      have wb := hwa.out
      have wa : (alt3 a 0 0 1 0).Wf := ⟨fun k hk => by have := wb.ints k hk; simp only [alt3]; (repeat' split) <;> omega, fun k hk => by have := wb.nats k hk; simp only [alt3]; (repeat' split) <;> omega, wb.text⟩
      have ar : (alt3 a 0 0 1 0).right = false := Sough.alien (c := 8) (by decide) (by decide) (by show Sough.hasF (Sough.flds 3) 8 = false; decide) (by show (1 : Int) ≠ 0; decide)
      have hk := HK.out
      have br : (rn3 a).right = true := Sough.same_right (a := a) (by rw [Sough.same_iff]; exact ⟨fun k hk' => by simp only [rn3]; (repeat' split) <;> simp_all, rfl⟩) hra
      have wr' : (rn3 a).Wf := ⟨fun k hk => by have := wb.ints k hk; simp only [rn3]; (repeat' split) <;> omega, fun k hk => by have := wb.nats k hk; simp only [rn3]; (repeat' split) <;> omega, wb.text⟩
      refine (right_lit ar wa wr).mono ?_
      rintro e w6 ⟨rfl, hb⟩
      have M8 := Lib.hid (M7.out.later hb)
      clear hb M7 ra hk
      have ra := cells13 (m := alt3 a 0 0 1 0) (M8.out.get 5 rfl)
      go_wp2_with fail
      refine (enc_lit (Sough.encode_nil.2 ar) wa w6).mono ?_
      rintro e w7 ⟨rfl, hb⟩
      have M9 := Lib.hid (M8.out.later hb)
      clear hb M8 ra
      have ra := cells13 (m := rn3 a) (M9.out.get 0 rfl)
      go_wp2_with fail
      refine (right_lit br wr' w7).mono ?_
      rintro e w8 ⟨rfl, hb⟩
      have M10 := Lib.hid (M9.out.later hb)
      clear hb M9 ra
      have ra := cells13 (m := a) (M10.out.get 6 rfl)
      go_wp2_with fail
      refine (names_any a w8).mono ?_
      rintro e w9 ⟨hb, h⟩
      have hnl : namesL a = [] := by unfold namesL; rw [HK.out]; rfl
      rw [hnl] at h
      rcases h with ⟨_, rfl⟩ | ⟨h, _⟩
      rotate_left
      · exact absurd rfl h
      have M11 := Lib.hid (M10.out.later hb)
      clear hb M10 ra hnl
      go_wp2_with fail
      refine (fixed_walk _).mono ?_
      rintro e w10 ⟨rfl, hb⟩
      have M12 := Lib.hid (M11.out.later hb)
      go_wp2_with fail
      go_ret
      exact ⟨by first | rfl | exact ret_true (by simp), M12.out.bel⟩


end Go.Proofs.Ytjoanlhdocoddaa
