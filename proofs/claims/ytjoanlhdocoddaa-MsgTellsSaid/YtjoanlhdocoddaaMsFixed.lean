/- The walk of soughlaw10.fixed. -/
import Derived.Test.YtjoanlhdocoddaaMsSame
namespace Go.Proofs.Ytjoanlhdocoddaa
open Go.RowKit Go.Maps Go.ChangeMaps


set_option maxRecDepth 100000 in
set_option maxHeartbeats 3200000 in
theorem fixed_walk (w : World) : Calls Try.prog 20 #[] w fun e w' => e = .returned (.bool true) ∧ Below w.heap.size w w' := by
  have M0 : Hid (Mem w [(w.heap.size + 1, .cells #[.int .i64 (Sough.iM.v 0), .int .u64 (Sough.iM.v 1), .int .u64 (Sough.iM.v 2), .string ⟨Sough.iM.offer.toArray⟩, .int .i64 (Sough.iM.v 4), .int .i64 (Sough.iM.v 5), .int .i64 (Sough.iM.v 6), .int .i64 (Sough.iM.v 7), .int .i64 (Sough.iM.v 8), .int .i64 (Sough.iM.v 9), .int .i64 (Sough.iM.v 10), .int .u64 (Sough.iM.v 11), .int .u64 (Sough.iM.v 12)] 24 (0, 0)), (w.heap.size, .cells #[.int .i64 (Sough.dM.v 0), .int .u64 (Sough.dM.v 1), .int .u64 (Sough.dM.v 2), .string ⟨Sough.dM.offer.toArray⟩, .int .i64 (Sough.dM.v 4), .int .i64 (Sough.dM.v 5), .int .i64 (Sough.dM.v 6), .int .i64 (Sough.dM.v 7), .int .i64 (Sough.dM.v 8), .int .i64 (Sough.dM.v 9), .int .i64 (Sough.dM.v 10), .int .u64 (Sough.dM.v 11), .int .u64 (Sough.dM.v 12)] 24 (0, 0))] ((w.alloc (.cells #[.int .i64 (Sough.dM.v 0), .int .u64 (Sough.dM.v 1), .int .u64 (Sough.dM.v 2), .string ⟨Sough.dM.offer.toArray⟩, .int .i64 (Sough.dM.v 4), .int .i64 (Sough.dM.v 5), .int .i64 (Sough.dM.v 6), .int .i64 (Sough.dM.v 7), .int .i64 (Sough.dM.v 8), .int .i64 (Sough.dM.v 9), .int .i64 (Sough.dM.v 10), .int .u64 (Sough.dM.v 11), .int .u64 (Sough.dM.v 12)] 24)).alloc (.cells #[.int .i64 (Sough.iM.v 0), .int .u64 (Sough.iM.v 1), .int .u64 (Sough.iM.v 2), .string ⟨Sough.iM.offer.toArray⟩, .int .i64 (Sough.iM.v 4), .int .i64 (Sough.iM.v 5), .int .i64 (Sough.iM.v 6), .int .i64 (Sough.iM.v 7), .int .i64 (Sough.iM.v 8), .int .i64 (Sough.iM.v 9), .int .i64 (Sough.iM.v 10), .int .u64 (Sough.iM.v 11), .int .u64 (Sough.iM.v 12)] 24))) := Lib.hid (by
    have := ((Mem.start w).alloc (.cells #[.int .i64 (Sough.dM.v 0), .int .u64 (Sough.dM.v 1), .int .u64 (Sough.dM.v 2), .string ⟨Sough.dM.offer.toArray⟩, .int .i64 (Sough.dM.v 4), .int .i64 (Sough.dM.v 5), .int .i64 (Sough.dM.v 6), .int .i64 (Sough.dM.v 7), .int .i64 (Sough.dM.v 8), .int .i64 (Sough.dM.v 9), .int .i64 (Sough.dM.v 10), .int .u64 (Sough.dM.v 11), .int .u64 (Sough.dM.v 12)] 24)).alloc (.cells #[.int .i64 (Sough.iM.v 0), .int .u64 (Sough.iM.v 1), .int .u64 (Sough.iM.v 2), .string ⟨Sough.iM.offer.toArray⟩, .int .i64 (Sough.iM.v 4), .int .i64 (Sough.iM.v 5), .int .i64 (Sough.iM.v 6), .int .i64 (Sough.iM.v 7), .int .i64 (Sough.iM.v 8), .int .i64 (Sough.iM.v 9), .int .i64 (Sough.iM.v 10), .int .u64 (Sough.iM.v 11), .int .u64 (Sough.iM.v 12)] 24)
    simp only [World.size_alloc] at this
    exact this)
  go_enter Try.func20, Try.ntmps20
  go_wp2_with fail
  refine (enc_as Sough.enc_i _ Sough.iM_wf).mono ?_
  rintro e w1 ⟨rfl, hb⟩
  have M1 := Lib.hid (M0.out.later hb)
  clear hb M0
  go_wp2_with fail
  refine (dec_lit (l := [4, 5, 0, 2, 130, 44]) (m := Sough.dM) (er := 0) dec1.1 dec1.2 w1 (by simp)).mono ?_
  rintro e w2 ⟨rfl, hb⟩
  have M2 := Lib.hid ((M1.out.later hb).alloc (.cells #[.int .i64 (Sough.dM.v 0), .int .u64 (Sough.dM.v 1), .int .u64 (Sough.dM.v 2), .string ⟨Sough.dM.offer.toArray⟩, .int .i64 (Sough.dM.v 4), .int .i64 (Sough.dM.v 5), .int .i64 (Sough.dM.v 6), .int .i64 (Sough.dM.v 7), .int .i64 (Sough.dM.v 8), .int .i64 (Sough.dM.v 9), .int .i64 (Sough.dM.v 10), .int .u64 (Sough.dM.v 11), .int .u64 (Sough.dM.v 12)] 24))
  clear hb M1
  go_wp2_with fail
  generalize w2.alloc _ = w3 at *
  refine (dec_lit (l := [1, 7, 2, 2, 1, 1, 1, 2, 3, 4, 5]) (m := Sough.iM) (er := 0) dec2.1 dec2.2 w3 (by simp)).mono ?_
  rintro e w4 ⟨rfl, hb⟩
  have M3 := Lib.hid ((M2.out.later hb).alloc (.cells #[.int .i64 (Sough.iM.v 0), .int .u64 (Sough.iM.v 1), .int .u64 (Sough.iM.v 2), .string ⟨Sough.iM.offer.toArray⟩, .int .i64 (Sough.iM.v 4), .int .i64 (Sough.iM.v 5), .int .i64 (Sough.iM.v 6), .int .i64 (Sough.iM.v 7), .int .i64 (Sough.iM.v 8), .int .i64 (Sough.iM.v 9), .int .i64 (Sough.iM.v 10), .int .u64 (Sough.iM.v 11), .int .u64 (Sough.iM.v 12)] 24))
  clear hb M2
  go_wp2_with fail
  generalize w4.alloc _ = w5 at *
  refine (dec_lit (l := [1, 7, 2, 2, 1, 1, 1, 2, 3, 4, 5, 120]) (m := Sough.zeroMsg) (er := 3) dec3.1 dec3.2 w5 (by simp)).mono ?_
  rintro e w6 ⟨rfl, hb⟩
  have M4 := Lib.hid ((M3.out.later hb).alloc (.cells #[.int .i64 (Sough.zeroMsg.v 0), .int .u64 (Sough.zeroMsg.v 1), .int .u64 (Sough.zeroMsg.v 2), .string ⟨Sough.zeroMsg.offer.toArray⟩, .int .i64 (Sough.zeroMsg.v 4), .int .i64 (Sough.zeroMsg.v 5), .int .i64 (Sough.zeroMsg.v 6), .int .i64 (Sough.zeroMsg.v 7), .int .i64 (Sough.zeroMsg.v 8), .int .i64 (Sough.zeroMsg.v 9), .int .i64 (Sough.zeroMsg.v 10), .int .u64 (Sough.zeroMsg.v 11), .int .u64 (Sough.zeroMsg.v 12)] 24))
  clear hb M3
  go_wp2_with fail
  generalize w6.alloc _ = w7 at *
  refine (dec_lit (l := [5]) (m := Sough.zeroMsg) (er := 3) dec4.1 dec4.2 w7 (by simp)).mono ?_
  rintro e w8 ⟨rfl, hb⟩
  have M5 := Lib.hid ((M4.out.later hb).alloc (.cells #[.int .i64 (Sough.zeroMsg.v 0), .int .u64 (Sough.zeroMsg.v 1), .int .u64 (Sough.zeroMsg.v 2), .string ⟨Sough.zeroMsg.offer.toArray⟩, .int .i64 (Sough.zeroMsg.v 4), .int .i64 (Sough.zeroMsg.v 5), .int .i64 (Sough.zeroMsg.v 6), .int .i64 (Sough.zeroMsg.v 7), .int .i64 (Sough.zeroMsg.v 8), .int .i64 (Sough.zeroMsg.v 9), .int .i64 (Sough.zeroMsg.v 10), .int .u64 (Sough.zeroMsg.v 11), .int .u64 (Sough.zeroMsg.v 12)] 24))
  clear hb M4
  go_wp2_with fail
  generalize w8.alloc _ = w9 at *
  refine (dec_lit (l := [4, 5]) (m := Sough.zeroMsg) (er := 2) dec5.1 dec5.2 w9 (by simp)).mono ?_
  rintro e w10 ⟨rfl, hb⟩
  have M6 := Lib.hid ((M5.out.later hb).alloc (.cells #[.int .i64 (Sough.zeroMsg.v 0), .int .u64 (Sough.zeroMsg.v 1), .int .u64 (Sough.zeroMsg.v 2), .string ⟨Sough.zeroMsg.offer.toArray⟩, .int .i64 (Sough.zeroMsg.v 4), .int .i64 (Sough.zeroMsg.v 5), .int .i64 (Sough.zeroMsg.v 6), .int .i64 (Sough.zeroMsg.v 7), .int .i64 (Sough.zeroMsg.v 8), .int .i64 (Sough.zeroMsg.v 9), .int .i64 (Sough.zeroMsg.v 10), .int .u64 (Sough.zeroMsg.v 11), .int .u64 (Sough.zeroMsg.v 12)] 24))
  clear hb M5
  go_wp2_with fail
  generalize w10.alloc _ = w11 at *
  refine (dec_lit (l := [3, 5, 0]) (m := Sough.zeroMsg) (er := 3) dec6.1 dec6.2 w11 (by simp)).mono ?_
  rintro e w12 ⟨rfl, hb⟩
  have M7 : Hid (Mem w _ (w12.alloc (.cells #[.int .i64 (Sough.zeroMsg.v 0), .int .u64 (Sough.zeroMsg.v 1), .int .u64 (Sough.zeroMsg.v 2), .string ⟨Sough.zeroMsg.offer.toArray⟩, .int .i64 (Sough.zeroMsg.v 4), .int .i64 (Sough.zeroMsg.v 5), .int .i64 (Sough.zeroMsg.v 6), .int .i64 (Sough.zeroMsg.v 7), .int .i64 (Sough.zeroMsg.v 8), .int .i64 (Sough.zeroMsg.v 9), .int .i64 (Sough.zeroMsg.v 10), .int .u64 (Sough.zeroMsg.v 11), .int .u64 (Sough.zeroMsg.v 12)] 24))) := Lib.hid ((M6.out.later hb).alloc _)
  clear hb M6
  have rd := cells13 (M7.out.get 7 rfl)
  have ri := cells13 (M7.out.get 6 rfl)
  have ra := cells13 (M7.out.get 5 rfl)
  have rb := cells13 (M7.out.get 4 rfl)
  have E1 := eqMsg Sough.dM Sough.dM
  have E2 := eqMsg Sough.iM Sough.iM
  rw [show Sough.dM.same Sough.dM = true by decide +kernel] at E1
  rw [show Sough.iM.same Sough.iM = true by decide +kernel] at E2
  have EG : Try.prog.eqGuardType Try.prog.depth 24 = false := by kernel_rfl
  go_wp2_with fail
  clear rd ri ra rb
  generalize w12.alloc _ = w13 at *
  refine (enc_as Sough.enc_d w13 Sough.dM_wf).mono ?_
  rintro e w14 ⟨rfl, hb⟩
  have M8 := Lib.hid (M7.out.later hb)
  clear hb M7
  have rd := cells13 (M8.out.get 7 rfl)
  have ri := cells13 (M8.out.get 6 rfl)
  have ra := cells13 (M8.out.get 5 rfl)
  have rb := cells13 (M8.out.get 4 rfl)
  go_wp2_with fail
  refine (right_as Sough.right_d w14 Sough.dM_wf).mono ?_
  rintro e w15 ⟨rfl, hb⟩
  have M9 := Lib.hid (M8.out.later hb)
  clear hb M8 rd ri ra rb E1 E2 EG
  go_wp2_with fail
  refine (right_as Sough.right_z w15 Sough.zero_wf).mono ?_
  rintro e w16 ⟨rfl, hb⟩
  have M10 := Lib.hid (M9.out.later hb)
  clear hb M9
  go_wp2_with fail
  refine (right_as Sough.right_d1 w16 Sough.dM1_wf).mono ?_
  rintro e w17 ⟨rfl, hb⟩
  have M11 := Lib.hid (M10.out.later hb)
  clear hb M10
  have ri := cells13 (M11.out.get 6 rfl)
  go_wp2_with fail
  refine (names_any Sough.iM w17).mono ?_
  rintro e w18 ⟨hb, h⟩
  have hnm : namesL Sough.iM = [1, 2, 3, 4, 5] := by decide +kernel
  rw [hnm] at h
  rcases h with ⟨h, _⟩ | ⟨_, g, rfl, hg1, hg2⟩
  · exact absurd h (by simp)
  have M12 := Lib.hid ((M11.out.later hb).with hg2)
  clear hb M11 ri hg2 hg1 hnm
  go_wp2_with fail
  have M13 : Hid (Mem w _ (w18.alloc (.cells #[.int .i64 1, .int .i64 2, .int .i64 3, .int .i64 4, .int .i64 5] 3))) := Lib.hid (M12.out.alloc _)
  clear M12
  generalize w18.alloc _ = w19 at *
  refine (same_some (l := [1, 2, 3, 4, 5]) (by simp) w19 (M13.out.get 1 rfl) (M13.out.get 0 rfl)).mono ?_
  rintro e w20 ⟨rfl, hb⟩
  have M14 := Lib.hid (M13.out.later hb)
  clear hb M13
  go_wp2_with fail
  go_ret
  exact ⟨rfl, M14.out.bel⟩
end Go.Proofs.Ytjoanlhdocoddaa
