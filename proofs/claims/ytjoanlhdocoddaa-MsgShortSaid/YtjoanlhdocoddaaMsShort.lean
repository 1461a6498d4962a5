/- The walk of the law MsgShort. -/
import Derived.Test.YtjoanlhdocoddaaMsBack
import Derived.Test.YtjoanlhdocoddaaMsShortPlain
namespace Go.Proofs.Ytjoanlhdocoddaa
open Go.RowKit Go.Maps Go.ChangeMaps


set_option maxRecDepth 100000 in
set_option maxHeartbeats 6400000 in
theorem short_no {m a : Sough.Msg} {c : Nat} {x : UInt8} {la : List UInt8} (ht : a = cutM m) (ea : a.encode = la) (qa : la.isEmpty = true) (w : World) (hw : m.Wf) :
    Calls Try.prog 5 #[.agg (msgC m), .int .u8 c, .int .u8 (x.toNat : Int)] w fun e w' => e = .returned (.bool true) ∧ Below w.heap.size w w' := by
  have hwa := Lib.hid (cut_wf hw)
  rw [← ht] at hwa
  have T1 := Lib.hid ht; have H1 := Lib.hid hw; clear ht hw
  have EA := Lib.hid ea
  have ra := right_enc ea
  rw [qa] at ra
  have RA := Lib.hid ra
  clear ea ra
  have M0 : Hid (Mem w [(w.heap.size, .cells #[.int .i64 (m.v 0), .int .u64 (m.v 1), .int .u64 (m.v 2), .string ⟨m.offer.toArray⟩, .int .i64 (m.v 4), .int .i64 (m.v 5), .int .i64 (m.v 6), .int .i64 (m.v 7), .int .i64 (m.v 8), .int .i64 (m.v 9), .int .i64 (m.v 10), .int .u64 (m.v 11), .int .u64 (m.v 12)] 24 (0, 0))] (w.alloc (.cells #[.int .i64 (m.v 0), .int .u64 (m.v 1), .int .u64 (m.v 2), .string ⟨m.offer.toArray⟩, .int .i64 (m.v 4), .int .i64 (m.v 5), .int .i64 (m.v 6), .int .i64 (m.v 7), .int .i64 (m.v 8), .int .i64 (m.v 9), .int .i64 (m.v 10), .int .u64 (m.v 11), .int .u64 (m.v 12)] 24))) := Lib.hid ((Mem.start w).alloc _)
  unfold msgC
  go_enter Try.func5, Try.ntmps5
  go_wp2_with fail
  generalize w.alloc (.cells #[.int .i64 (m.v 0), .int .u64 (m.v 1), .int .u64 (m.v 2), .string ⟨m.offer.toArray⟩, .int .i64 (m.v 4), .int .i64 (m.v 5), .int .i64 (m.v 6), .int .i64 (m.v 7), .int .i64 (m.v 8), .int .i64 (m.v 9), .int .i64 (m.v 10), .int .u64 (m.v 11), .int .u64 (m.v 12)] 24) = W0 at *
  refine (cut_to T1.out W0 H1.out).mono ?_
  rintro e w1 ⟨rfl, hb⟩
  have M1 := Lib.hid (M0.out.later hb)
  clear hb M0
  have r := M1.out.rules; simp only [AllCells, CellsAt, Nat.zero_add, Nat.reduceAdd] at r
  have M2 := Lib.hid (Mem.put13 (m := a) M1.out (Nat.le_refl _) (by simp))
  clear M1
  go_wp2_with fail
  change Calls _ _ _ (put13 w1 w.heap.size a) _
  clear r
  generalize put13 w1 w.heap.size a = W1 at *
  refine (enc_lit EA.out hwa.out W1).mono ?_
  rintro e w2 ⟨rfl, hb⟩
  have M3 := Lib.hid (M2.out.later hb)
  clear hb M2
  have ca := cells13 (M3.out.get 0 rfl)
  go_wp2_with fail
  refine (right_lit RA.out hwa.out w2).mono ?_
  rintro e w3 ⟨rfl, hb⟩
  have M4 := Lib.hid (M3.out.later hb)
  clear hb M3 ca
  go_wp2_with fail
  refine (fixed_walk _).mono ?_
  rintro e w8 ⟨rfl, hb⟩
  have M8 := Lib.hid (M4.out.later hb)
  go_wp2_with fail
  go_ret
  exact ⟨by first | rfl | exact ret_true (by simp), M8.out.bel⟩

set_option maxRecDepth 100000 in
set_option maxHeartbeats 6400000 in
theorem short_yes {m a : Sough.Msg} {c : Nat} {x : UInt8} {la : List UInt8} (ht : a = cutM m) (ea : a.encode = la) (qa : la.isEmpty = false) (hc : c < 256) (w : World) (hw : m.Wf) :
    Calls Try.prog 5 #[.agg (msgC m), .int .u8 c, .int .u8 (x.toNat : Int)] w fun e w' => e = .returned (.bool true) ∧ Below w.heap.size w w' := by
  have hra : a.right = true := by rw [right_enc ea, qa]; rfl
  have hba : a.bytes = la := by rw [← ea]; unfold Sough.Msg.encode; rw [if_pos hra]
  have hl1 := enc_size ea
  have hl0 : 0 < la.length := by cases la with | nil => cases qa | cons y l => simp
  have hr : 0 ≤ (c : Int) % (la.length : Int) ∧ (c : Int) % (la.length : Int) ≤ (la.length : Int) :=
    ⟨Int.emod_nonneg _ (by omega), Int.le_of_lt (Int.emod_lt_of_pos _ (by omega))⟩
  have hd1 : Sough.decodeM ((⟨la.toArray⟩ : ByteArray).extract 0 (c % la.length)).data.toList = (Sough.zeroMsg, 2) := by
    have h := extract_eq ⟨la.toArray⟩ 0 (c % la.length)
    rw [Nat.zero_add] at h
    rw [h]
    have := Sough.dec_short hra (k := c % la.length) (by rw [hba]; exact Nat.mod_lt c hl0)
    rw [hba] at this
    simpa using this
  have hd2 : Sough.decodeM ((⟨la.toArray⟩ : ByteArray) ++ ⟨[x].toArray⟩).data.toList = (Sough.zeroMsg, 3) := by
    have := Sough.dec_more hra x
    rw [hba] at this
    simpa using this
  have hE1 : ((⟨la.toArray⟩ : ByteArray).extract 0 (c % la.length)).size ≤ maxLen := by unfold maxLen; simp; omega
  have hE2 : ((⟨la.toArray⟩ : ByteArray) ++ ⟨[x].toArray⟩).size ≤ maxLen := by rw [bytes_append]; exact mk_le (by simp; omega)
  have CD1 := Lib.hid fun w => dec_to (q := Sough.zeroMsg) (er := 2) (by rw [hd1]) (by rw [hd1]) w hE1
  have CD2 := Lib.hid fun w => dec_to (q := Sough.zeroMsg) (er := 3) (by rw [hd2]) (by rw [hd2]) w hE2
  have hx := x.toNat_lt
  clear hra hba hd1 hd2 hE1 hE2
  have hwa := Lib.hid (cut_wf hw)
  rw [← ht] at hwa
  have T1 := Lib.hid ht; have H1 := Lib.hid hw; clear ht hw
  have EA := Lib.hid ea
  have ra := right_enc ea
  rw [qa] at ra
  have RA := Lib.hid ra
  clear ea ra
  have M0 : Hid (Mem w [(w.heap.size, .cells #[.int .i64 (m.v 0), .int .u64 (m.v 1), .int .u64 (m.v 2), .string ⟨m.offer.toArray⟩, .int .i64 (m.v 4), .int .i64 (m.v 5), .int .i64 (m.v 6), .int .i64 (m.v 7), .int .i64 (m.v 8), .int .i64 (m.v 9), .int .i64 (m.v 10), .int .u64 (m.v 11), .int .u64 (m.v 12)] 24 (0, 0))] (w.alloc (.cells #[.int .i64 (m.v 0), .int .u64 (m.v 1), .int .u64 (m.v 2), .string ⟨m.offer.toArray⟩, .int .i64 (m.v 4), .int .i64 (m.v 5), .int .i64 (m.v 6), .int .i64 (m.v 7), .int .i64 (m.v 8), .int .i64 (m.v 9), .int .i64 (m.v 10), .int .u64 (m.v 11), .int .u64 (m.v 12)] 24))) := Lib.hid ((Mem.start w).alloc _)
  unfold msgC
  go_enter Try.func5, Try.ntmps5
  go_wp2_with fail
  generalize w.alloc (.cells #[.int .i64 (m.v 0), .int .u64 (m.v 1), .int .u64 (m.v 2), .string ⟨m.offer.toArray⟩, .int .i64 (m.v 4), .int .i64 (m.v 5), .int .i64 (m.v 6), .int .i64 (m.v 7), .int .i64 (m.v 8), .int .i64 (m.v 9), .int .i64 (m.v 10), .int .u64 (m.v 11), .int .u64 (m.v 12)] 24) = W0 at *
  refine (cut_to T1.out W0 H1.out).mono ?_
  rintro e w1 ⟨rfl, hb⟩
  have M1 := Lib.hid (M0.out.later hb)
  clear hb M0
  have r := M1.out.rules; simp only [AllCells, CellsAt, Nat.zero_add, Nat.reduceAdd] at r
  have M2 := Lib.hid (Mem.put13 (m := a) M1.out (Nat.le_refl _) (by simp))
  clear M1
  go_wp2_with fail
  change Calls _ _ _ (put13 w1 w.heap.size a) _
  clear r
  generalize put13 w1 w.heap.size a = W1 at *
  refine (enc_lit EA.out hwa.out W1).mono ?_
  rintro e w2 ⟨rfl, hb⟩
  have M3 := Lib.hid (M2.out.later hb)
  clear hb M2
  have ca := cells13 (M3.out.get 0 rfl)
  clear ca RA
  go_wp2_with fail
  refine (CD1.out w2).mono ?_
  rintro e w4 ⟨rfl, hb⟩
  have M4 := Lib.hid (((M3.out.later hb).alloc (.cells #[.int .i64 (Sough.zeroMsg.v 0), .int .u64 (Sough.zeroMsg.v 1), .int .u64 (Sough.zeroMsg.v 2), .string ⟨Sough.zeroMsg.offer.toArray⟩, .int .i64 (Sough.zeroMsg.v 4), .int .i64 (Sough.zeroMsg.v 5), .int .i64 (Sough.zeroMsg.v 6), .int .i64 (Sough.zeroMsg.v 7), .int .i64 (Sough.zeroMsg.v 8), .int .i64 (Sough.zeroMsg.v 9), .int .i64 (Sough.zeroMsg.v 10), .int .u64 (Sough.zeroMsg.v 11), .int .u64 (Sough.zeroMsg.v 12)] 24)).alloc (.cells #[.int .u8 (x.toNat : Int)] 5))
  clear hb M3 CD1
  have hconv : (convert 43 9 (.slice (some ⟨w4.heap.size + 1, 0, none⟩) 1 1)).run Try.prog ((w4.alloc (.cells #[.int .i64 (Sough.zeroMsg.v 0), .int .u64 (Sough.zeroMsg.v 1), .int .u64 (Sough.zeroMsg.v 2), .string ⟨Sough.zeroMsg.offer.toArray⟩, .int .i64 (Sough.zeroMsg.v 4), .int .i64 (Sough.zeroMsg.v 5), .int .i64 (Sough.zeroMsg.v 6), .int .i64 (Sough.zeroMsg.v 7), .int .i64 (Sough.zeroMsg.v 8), .int .i64 (Sough.zeroMsg.v 9), .int .i64 (Sough.zeroMsg.v 10), .int .u64 (Sough.zeroMsg.v 11), .int .u64 (Sough.zeroMsg.v 12)] 24)).alloc (.cells #[.int .u8 (x.toNat : Int)] 5)) = .ok (.string ⟨[x].toArray⟩) ((w4.alloc (.cells #[.int .i64 (Sough.zeroMsg.v 0), .int .u64 (Sough.zeroMsg.v 1), .int .u64 (Sough.zeroMsg.v 2), .string ⟨Sough.zeroMsg.offer.toArray⟩, .int .i64 (Sough.zeroMsg.v 4), .int .i64 (Sough.zeroMsg.v 5), .int .i64 (Sough.zeroMsg.v 6), .int .i64 (Sough.zeroMsg.v 7), .int .i64 (Sough.zeroMsg.v 8), .int .i64 (Sough.zeroMsg.v 9), .int .i64 (Sough.zeroMsg.v 10), .int .u64 (Sough.zeroMsg.v 11), .int .u64 (Sough.zeroMsg.v 12)] 24)).alloc (.cells #[.int .u8 (x.toNat : Int)] 5)) :=
    run_convert_bytes_back (P := Try.prog) _ 43 9 5 ⟨w4.heap.size + 1, 0, none⟩ 1 [x] Try.underlying43 Try.underlying5 Try.underlying9 (fun j hj => by
      obtain rfl : j = 0 := by simp at hj; omega
      have h := names_new w4 (.cells #[.int .i64 (Sough.zeroMsg.v 0), .int .u64 (Sough.zeroMsg.v 1), .int .u64 (Sough.zeroMsg.v 2), .string ⟨Sough.zeroMsg.offer.toArray⟩, .int .i64 (Sough.zeroMsg.v 4), .int .i64 (Sough.zeroMsg.v 5), .int .i64 (Sough.zeroMsg.v 6), .int .i64 (Sough.zeroMsg.v 7), .int .i64 (Sough.zeroMsg.v 8), .int .i64 (Sough.zeroMsg.v 9), .int .i64 (Sough.zeroMsg.v 10), .int .u64 (Sough.zeroMsg.v 11), .int .u64 (Sough.zeroMsg.v 12)] 24) (.cells #[.int .u8 (x.toNat : Int)] 5)
      show World.cell? _ ⟨w4.heap.size + 1, 0, none⟩ = _
      simp only [World.cell?, h]
      rfl)
  go_wp2_with fail
  clear hconv
  generalize (w4.alloc (.cells #[.int .i64 (Sough.zeroMsg.v 0), .int .u64 (Sough.zeroMsg.v 1), .int .u64 (Sough.zeroMsg.v 2), .string ⟨Sough.zeroMsg.offer.toArray⟩, .int .i64 (Sough.zeroMsg.v 4), .int .i64 (Sough.zeroMsg.v 5), .int .i64 (Sough.zeroMsg.v 6), .int .i64 (Sough.zeroMsg.v 7), .int .i64 (Sough.zeroMsg.v 8), .int .i64 (Sough.zeroMsg.v 9), .int .i64 (Sough.zeroMsg.v 10), .int .u64 (Sough.zeroMsg.v 11), .int .u64 (Sough.zeroMsg.v 12)] 24)).alloc (.cells #[.int .u8 (x.toNat : Int)] 5) = W4 at *
  refine (CD2.out W4).mono ?_
  rintro e w6 ⟨rfl, hb⟩
  have M6 := Lib.hid ((M4.out.later hb).alloc (.cells #[.int .i64 (Sough.zeroMsg.v 0), .int .u64 (Sough.zeroMsg.v 1), .int .u64 (Sough.zeroMsg.v 2), .string ⟨Sough.zeroMsg.offer.toArray⟩, .int .i64 (Sough.zeroMsg.v 4), .int .i64 (Sough.zeroMsg.v 5), .int .i64 (Sough.zeroMsg.v 6), .int .i64 (Sough.zeroMsg.v 7), .int .i64 (Sough.zeroMsg.v 8), .int .i64 (Sough.zeroMsg.v 9), .int .i64 (Sough.zeroMsg.v 10), .int .u64 (Sough.zeroMsg.v 11), .int .u64 (Sough.zeroMsg.v 12)] 24))
  clear hb M4 CD2
  have EQ : ∀ w, (Op.equalIn 10000 24 (.agg #[.int .i64 (Sough.zeroMsg.v 0), .int .u64 (Sough.zeroMsg.v 1), .int .u64 (Sough.zeroMsg.v 2), .string ⟨Sough.zeroMsg.offer.toArray⟩, .int .i64 (Sough.zeroMsg.v 4), .int .i64 (Sough.zeroMsg.v 5), .int .i64 (Sough.zeroMsg.v 6), .int .i64 (Sough.zeroMsg.v 7), .int .i64 (Sough.zeroMsg.v 8), .int .i64 (Sough.zeroMsg.v 9), .int .i64 (Sough.zeroMsg.v 10), .int .u64 (Sough.zeroMsg.v 11), .int .u64 (Sough.zeroMsg.v 12)]) (.agg #[.int .i64 0, .int .u64 0, .int .u64 0, .string ⟨#[]⟩, .int .i64 0, .int .i64 0, .int .i64 0, .int .i64 0, .int .i64 0, .int .i64 0, .int .i64 0, .int .u64 0, .int .u64 0])).run Try.prog w = .ok true w := fun w => eqMsg Sough.zeroMsg Sough.zeroMsg w
  have EG : Try.prog.eqGuardType Try.prog.depth 24 = false := by kernel_rfl
  have r1 := cells13 (M6.out.get 0 rfl)
  have r2 := cells13 (M6.out.get 2 rfl)
  go_wp2_with fail
  clear r1 r2 EQ EG
  generalize w6.alloc _ = W6 at *
  refine (fixed_walk _).mono ?_
  rintro e w8 ⟨rfl, hb⟩
  have M8 := Lib.hid (M6.out.later hb)
  go_wp2_with fail
  go_ret
  exact ⟨by first | rfl | exact ret_true (by simp), M8.out.bel⟩

/-- As the frame wants it. -/
theorem msgShort_walk (m : Sough.Msg) (c x : Int) (w : World) (hw : m.Wf) (wc : (Lit.int .u8 c).wf = true) (wx : (Lit.int .u8 x).wf = true) :
    Calls Try.prog 5 #[.agg (msgC m), .int .u8 c, .int .u8 x] w fun e w' => e = .returned (.bool true) ∧ Below w.heap.size w w' := by
  have hc := bounds_u8 wc
  have hx := bounds_u8 wx
  obtain ⟨c, rfl⟩ := Int.eq_ofNat_of_zero_le hc.1
  obtain ⟨x, rfl⟩ : ∃ b : UInt8, x = (b.toNat : Int) := ⟨UInt8.ofNat x.toNat, by rw [Sough.u8_of _ (by omega)]; omega⟩
  cases h : (cutM m).encode.isEmpty
  · exact short_yes rfl rfl h (by omega) w hw
  · exact short_no rfl rfl h w hw

end Go.Proofs.Ytjoanlhdocoddaa
