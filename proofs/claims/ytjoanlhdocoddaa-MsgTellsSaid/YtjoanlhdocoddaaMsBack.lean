/- The walk of the law MsgBack. -/
import Derived.Test.YtjoanlhdocoddaaMsApart
import Derived.Test.YtjoanlhdocoddaaMsBackPlain
namespace Go.Proofs.Ytjoanlhdocoddaa
open Go.RowKit Go.Maps Go.ChangeMaps

theorem dec_to {s : ByteArray} {q : Sough.Msg} {er : Nat} (hq : (Sough.decodeM s.data.toList).1 = q) (he : (Sough.decodeM s.data.toList).2 = er) (w : World) (hs : s.size ≤ maxLen) :
    Calls Try.prog 10 #[.string s] w fun e w' => e = .returned (.tuple #[.agg #[.int .i64 (q.v 0), .int .u64 (q.v 1), .int .u64 (q.v 2), .string ⟨q.offer.toArray⟩, .int .i64 (q.v 4), .int .i64 (q.v 5), .int .i64 (q.v 6), .int .i64 (q.v 7), .int .i64 (q.v 8), .int .i64 (q.v 9), .int .i64 (q.v 10), .int .u64 (q.v 11), .int .u64 (q.v 12)], .int .i64 er]) ∧ Below w.heap.size w w' := by
  subst hq he
  exact dec_as rfl w hs
theorem enc_str {q : Sough.Msg} {s : ByteArray} (h : q.encode = s.data.toList) (hwf : q.Wf) (w : World) : Calls Try.prog 15 #[.agg #[.int .i64 (q.v 0), .int .u64 (q.v 1), .int .u64 (q.v 2), .string ⟨q.offer.toArray⟩, .int .i64 (q.v 4), .int .i64 (q.v 5), .int .i64 (q.v 6), .int .i64 (q.v 7), .int .i64 (q.v 8), .int .i64 (q.v 9), .int .i64 (q.v 10), .int .u64 (q.v 11), .int .u64 (q.v 12)]] w fun e w' => e = .returned (.string s) ∧ Below w.heap.size w w' := by
  have := enc_lit h hwf w
  rwa [bytes_toArray] at this



set_option maxRecDepth 100000 in
set_option maxHeartbeats 6400000 in
theorem back_no {m a : Sough.Msg} {s s1 : ByteArray} {la : List UInt8} (ht : a = cutM m) (ea : a.encode = la) (qa : la.isEmpty = true) (hx : s.extract 0 (min (s.size : Int) 200).toNat = s1) (w : World) (hw : m.Wf) (hs : s.size ≤ maxLen) :
    Calls Try.prog 4 #[.agg (msgC m), .string s] w fun e w' => e = .returned (.bool true) ∧ Below w.heap.size w w' := by
  have hsm : s.size ≤ 9223372036854775807 := hs
  clear hs
  have hwa := Lib.hid (cut_wf hw)
  rw [← ht] at hwa
  have T1 := Lib.hid ht; have H1 := Lib.hid hw; clear ht hw
  have EA := Lib.hid ea
  have ra := right_enc ea
  rw [qa] at ra
  have RA := Lib.hid ra
  clear ea ra
  have hs1 : s1.size ≤ 200 := by rw [← hx]; simp; omega
  have DI := Lib.hid fun h => Sough.dec_inv (s := s1.data.toList) h
  have DB := Lib.hid fun h => Sough.dec_bad (s := s1.data.toList) h
  have DW := Lib.hid (Sough.dec_wf s1.data.toList)
  obtain ⟨q, hq⟩ : ∃ q, (Sough.decodeM s1.data.toList).1 = q := ⟨_, rfl⟩
  obtain ⟨er, her⟩ : ∃ er, (Sough.decodeM s1.data.toList).2 = er := ⟨_, rfl⟩
  have CD := Lib.hid fun w => dec_to hq her w (show s1.size ≤ maxLen by unfold maxLen; omega)
  rw [hq, her] at DI
  rw [hq, her] at DB
  rw [hq] at DW
  clear hq her
  have M0 : Hid (Mem w [(w.heap.size, .cells #[.int .i64 (m.v 0), .int .u64 (m.v 1), .int .u64 (m.v 2), .string ⟨m.offer.toArray⟩, .int .i64 (m.v 4), .int .i64 (m.v 5), .int .i64 (m.v 6), .int .i64 (m.v 7), .int .i64 (m.v 8), .int .i64 (m.v 9), .int .i64 (m.v 10), .int .u64 (m.v 11), .int .u64 (m.v 12)] 24 (0, 0))] (w.alloc (.cells #[.int .i64 (m.v 0), .int .u64 (m.v 1), .int .u64 (m.v 2), .string ⟨m.offer.toArray⟩, .int .i64 (m.v 4), .int .i64 (m.v 5), .int .i64 (m.v 6), .int .i64 (m.v 7), .int .i64 (m.v 8), .int .i64 (m.v 9), .int .i64 (m.v 10), .int .u64 (m.v 11), .int .u64 (m.v 12)] 24))) := Lib.hid ((Mem.start w).alloc _)
  unfold msgC
  go_enter Try.func4, Try.ntmps4
  go_wp2_with fail
  generalize w.alloc (.cells #[.int .i64 (m.v 0), .int .u64 (m.v 1), .int .u64 (m.v 2), .string ⟨m.offer.toArray⟩, .int .i64 (m.v 4), .int .i64 (m.v 5), .int .i64 (m.v 6), .int .i64 (m.v 7), .int .i64 (m.v 8), .int .i64 (m.v 9), .int .i64 (m.v 10), .int .u64 (m.v 11), .int .u64 (m.v 12)] 24) = W0 at *
  refine (cut_to T1.out W0 H1.out).mono ?_
  rintro e w1 ⟨rfl, hb⟩
  have M1 := Lib.hid (M0.out.later hb)
  clear hb M0
  have r := M1.out.rules; simp only [AllCells, CellsAt, Nat.zero_add, Nat.reduceAdd] at r
  have M2 := Lib.hid (Mem.put13 (m := a) M1.out (Nat.le_refl _) (by simp))
  clear M1
  go_wp2_with fail
  change Calls _ _ _ (put13 w1 w.heap.size a) _
  clear r
  generalize put13 w1 w.heap.size a = W1 at *
  refine (enc_lit EA.out hwa.out W1).mono ?_
  rintro e w2 ⟨rfl, hb⟩
  have M3 := Lib.hid (M2.out.later hb)
  clear hb M2
  have ca := cells13 (M3.out.get 0 rfl)
  go_wp2_with fail
  refine (right_lit RA.out hwa.out w2).mono ?_
  rintro e w3 ⟨rfl, hb⟩
  have M4 := Lib.hid (M3.out.later hb)
  clear hb M3 ca
  go_wp2_with fail
  refine (CD.out w3).mono ?_
  rintro e w5 ⟨rfl, hb⟩
  have M5 := Lib.hid ((M4.out.later hb).alloc (.cells #[.int .i64 (q.v 0), .int .u64 (q.v 1), .int .u64 (q.v 2), .string ⟨q.offer.toArray⟩, .int .i64 (q.v 4), .int .i64 (q.v 5), .int .i64 (q.v 6), .int .i64 (q.v 7), .int .i64 (q.v 8), .int .i64 (q.v 9), .int .i64 (q.v 10), .int .u64 (q.v 11), .int .u64 (q.v 12)] 24))
  clear hb M4 CD
  by_cases her : er = 0
  · skip
    obtain ⟨hr, hb⟩ := DI.out her
    subst her
    have he : q.encode = s1.data.toList := by unfold Sough.Msg.encode; rw [if_pos hr]; exact hb
    have HR := Lib.hid hr; have HE := Lib.hid he
    clear hr hb he DI DB
    have rx := cells13 (M5.out.get 0 rfl)
    go_wp2_with fail
    clear rx
    generalize w5.alloc _ = W5 at *
    refine (right_lit HR.out DW.out W5).mono ?_
    rintro e w6 ⟨rfl, hb⟩
    have M6 := Lib.hid (M5.out.later hb)
    clear hb M5
    have rx := cells13 (M6.out.get 0 rfl)
    go_wp2_with fail
    refine (enc_str HE.out DW.out w6).mono ?_
    rintro e w7 ⟨rfl, hb⟩
    have M7 := Lib.hid (M6.out.later hb)
    clear hb M6 rx
    go_wp2_with fail
    refine (fixed_walk _).mono ?_
    rintro e w8 ⟨rfl, hb⟩
    have M8 := Lib.hid (M7.out.later hb)
    go_wp2_with fail
    go_ret
    exact ⟨by first | rfl | exact ret_true (by simp), M8.out.bel⟩
  · skip
    have hqz := DB.out her
    subst hqz
    have EQ : ∀ w, (Op.equalIn 10000 24 (.agg #[.int .i64 (Sough.zeroMsg.v 0), .int .u64 (Sough.zeroMsg.v 1), .int .u64 (Sough.zeroMsg.v 2), .string ⟨Sough.zeroMsg.offer.toArray⟩, .int .i64 (Sough.zeroMsg.v 4), .int .i64 (Sough.zeroMsg.v 5), .int .i64 (Sough.zeroMsg.v 6), .int .i64 (Sough.zeroMsg.v 7), .int .i64 (Sough.zeroMsg.v 8), .int .i64 (Sough.zeroMsg.v 9), .int .i64 (Sough.zeroMsg.v 10), .int .u64 (Sough.zeroMsg.v 11), .int .u64 (Sough.zeroMsg.v 12)]) (.agg #[.int .i64 0, .int .u64 0, .int .u64 0, .string ⟨#[]⟩, .int .i64 0, .int .i64 0, .int .i64 0, .int .i64 0, .int .i64 0, .int .i64 0, .int .i64 0, .int .u64 0, .int .u64 0])).run Try.prog w = .ok true w := fun w => eqMsg Sough.zeroMsg Sough.zeroMsg w
    have EG : Try.prog.eqGuardType Try.prog.depth 24 = false := by kernel_rfl
    have rx := cells13 (M5.out.get 0 rfl)
    go_wp2_with fail
    clear rx EQ EG
    generalize w5.alloc _ = W5 at *
    refine (fixed_walk _).mono ?_
    rintro e w8 ⟨rfl, hb⟩
    have M8 := Lib.hid (M5.out.later hb)
    go_wp2_with fail
    go_ret
    exact ⟨by first | rfl | exact ret_true (by simp), M8.out.bel⟩

set_option maxRecDepth 100000 in
set_option maxHeartbeats 6400000 in
theorem back_yes {m a : Sough.Msg} {s s1 : ByteArray} {la : List UInt8} (ht : a = cutM m) (ea : a.encode = la) (qa : la.isEmpty = false) (hx : s.extract 0 (min (s.size : Int) 200).toNat = s1) (w : World) (hw : m.Wf) (hs : s.size ≤ maxLen) :
    Calls Try.prog 4 #[.agg (msgC m), .string s] w fun e w' => e = .returned (.bool true) ∧ Below w.heap.size w w' := by
  have hsm : s.size ≤ 9223372036854775807 := hs
  clear hs
  have hra : a.right = true := by rw [right_enc ea, qa]; rfl
  have hba : a.bytes = la := by rw [← ea]; unfold Sough.Msg.encode; rw [if_pos hra]
  have hdb := Sough.dec_bytes hra
  rw [hba] at hdb
  have HDB := Lib.hid hdb
  have hl1 := enc_size ea
  clear hra hba hdb
  have hwa := Lib.hid (cut_wf hw)
  rw [← ht] at hwa
  have T1 := Lib.hid ht; have H1 := Lib.hid hw; clear ht hw
  have EA := Lib.hid ea
  have ra := right_enc ea
  rw [qa] at ra
  have RA := Lib.hid ra
  clear ea ra
  have hs1 : s1.size ≤ 200 := by rw [← hx]; simp; omega
  have DI := Lib.hid fun h => Sough.dec_inv (s := s1.data.toList) h
  have DB := Lib.hid fun h => Sough.dec_bad (s := s1.data.toList) h
  have DW := Lib.hid (Sough.dec_wf s1.data.toList)
  obtain ⟨q, hq⟩ : ∃ q, (Sough.decodeM s1.data.toList).1 = q := ⟨_, rfl⟩
  obtain ⟨er, her⟩ : ∃ er, (Sough.decodeM s1.data.toList).2 = er := ⟨_, rfl⟩
  have CD := Lib.hid fun w => dec_to hq her w (show s1.size ≤ maxLen by unfold maxLen; omega)
  rw [hq, her] at DI
  rw [hq, her] at DB
  rw [hq] at DW
  clear hq her
  have M0 : Hid (Mem w [(w.heap.size, .cells #[.int .i64 (m.v 0), .int .u64 (m.v 1), .int .u64 (m.v 2), .string ⟨m.offer.toArray⟩, .int .i64 (m.v 4), .int .i64 (m.v 5), .int .i64 (m.v 6), .int .i64 (m.v 7), .int .i64 (m.v 8), .int .i64 (m.v 9), .int .i64 (m.v 10), .int .u64 (m.v 11), .int .u64 (m.v 12)] 24 (0, 0))] (w.alloc (.cells #[.int .i64 (m.v 0), .int .u64 (m.v 1), .int .u64 (m.v 2), .string ⟨m.offer.toArray⟩, .int .i64 (m.v 4), .int .i64 (m.v 5), .int .i64 (m.v 6), .int .i64 (m.v 7), .int .i64 (m.v 8), .int .i64 (m.v 9), .int .i64 (m.v 10), .int .u64 (m.v 11), .int .u64 (m.v 12)] 24))) := Lib.hid ((Mem.start w).alloc _)
  unfold msgC
  go_enter Try.func4, Try.ntmps4
  go_wp2_with fail
  generalize w.alloc (.cells #[.int .i64 (m.v 0), .int .u64 (m.v 1), .int .u64 (m.v 2), .string ⟨m.offer.toArray⟩, .int .i64 (m.v 4), .int .i64 (m.v 5), .int .i64 (m.v 6), .int .i64 (m.v 7), .int .i64 (m.v 8), .int .i64 (m.v 9), .int .i64 (m.v 10), .int .u64 (m.v 11), .int .u64 (m.v 12)] 24) = W0 at *
  refine (cut_to T1.out W0 H1.out).mono ?_
  rintro e w1 ⟨rfl, hb⟩
  have M1 := Lib.hid (M0.out.later hb)
  clear hb M0
  have r := M1.out.rules; simp only [AllCells, CellsAt, Nat.zero_add, Nat.reduceAdd] at r
  have M2 := Lib.hid (Mem.put13 (m := a) M1.out (Nat.le_refl _) (by simp))
  clear M1
  go_wp2_with fail
  change Calls _ _ _ (put13 w1 w.heap.size a) _
  clear r
  generalize put13 w1 w.heap.size a = W1 at *
  refine (enc_lit EA.out hwa.out W1).mono ?_
  rintro e w2 ⟨rfl, hb⟩
  have M3 := Lib.hid (M2.out.later hb)
  clear hb M2
  have ca := cells13 (M3.out.get 0 rfl)
  go_wp2_with fail
  refine (right_lit RA.out hwa.out w2).mono ?_
  rintro e w3 ⟨rfl, hb⟩
  have M4 := Lib.hid (M3.out.later hb)
  clear hb M3 ca
  go_wp2_with fail
  refine (dec_lit (l := la) (m := a) (er := 0) HDB.out.1 HDB.out.2 w3 (by omega)).mono ?_
  rintro e w4 ⟨rfl, hb⟩
  have M4' := Lib.hid ((M4.out.later hb).alloc (.cells #[.int .i64 (a.v 0), .int .u64 (a.v 1), .int .u64 (a.v 2), .string ⟨a.offer.toArray⟩, .int .i64 (a.v 4), .int .i64 (a.v 5), .int .i64 (a.v 6), .int .i64 (a.v 7), .int .i64 (a.v 8), .int .i64 (a.v 9), .int .i64 (a.v 10), .int .u64 (a.v 11), .int .u64 (a.v 12)] 24))
  clear hb M4
  have ra := cells13 (M4'.out.get 0 rfl)
  have rb := cells13 (M4'.out.get 1 rfl)
  have EQ := eqMsg a a
  rw [show a.same a = true by rw [Sough.same_iff]; exact ⟨fun _ _ => rfl, rfl⟩] at EQ
  have EG : Try.prog.eqGuardType Try.prog.depth 24 = false := by kernel_rfl
  go_wp2_with fail
  clear ra rb EQ EG
  generalize w4.alloc _ = W4 at *
  refine (CD.out W4).mono ?_
  rintro e w5 ⟨rfl, hb⟩
  have M5 := Lib.hid ((M4'.out.later hb).alloc (.cells #[.int .i64 (q.v 0), .int .u64 (q.v 1), .int .u64 (q.v 2), .string ⟨q.offer.toArray⟩, .int .i64 (q.v 4), .int .i64 (q.v 5), .int .i64 (q.v 6), .int .i64 (q.v 7), .int .i64 (q.v 8), .int .i64 (q.v 9), .int .i64 (q.v 10), .int .u64 (q.v 11), .int .u64 (q.v 12)] 24))
  clear hb M4' CD
  by_cases her : er = 0
  · skip
    obtain ⟨hr, hb⟩ := DI.out her
    subst her
    have he : q.encode = s1.data.toList := by unfold Sough.Msg.encode; rw [if_pos hr]; exact hb
    have HR := Lib.hid hr; have HE := Lib.hid he
    clear hr hb he DI DB
    have rx := cells13 (M5.out.get 0 rfl)
    go_wp2_with fail
    clear rx
    generalize w5.alloc _ = W5 at *
    refine (right_lit HR.out DW.out W5).mono ?_
    rintro e w6 ⟨rfl, hb⟩
    have M6 := Lib.hid (M5.out.later hb)
    clear hb M5
    have rx := cells13 (M6.out.get 0 rfl)
    go_wp2_with fail
    refine (enc_str HE.out DW.out w6).mono ?_
    rintro e w7 ⟨rfl, hb⟩
    have M7 := Lib.hid (M6.out.later hb)
    clear hb M6 rx
    go_wp2_with fail
    refine (fixed_walk _).mono ?_
    rintro e w8 ⟨rfl, hb⟩
    have M8 := Lib.hid (M7.out.later hb)
    go_wp2_with fail
    go_ret
    exact ⟨by first | rfl | exact ret_true (by simp), M8.out.bel⟩
  · skip
    have hqz := DB.out her
    subst hqz
    have EQ : ∀ w, (Op.equalIn 10000 24 (.agg #[.int .i64 (Sough.zeroMsg.v 0), .int .u64 (Sough.zeroMsg.v 1), .int .u64 (Sough.zeroMsg.v 2), .string ⟨Sough.zeroMsg.offer.toArray⟩, .int .i64 (Sough.zeroMsg.v 4), .int .i64 (Sough.zeroMsg.v 5), .int .i64 (Sough.zeroMsg.v 6), .int .i64 (Sough.zeroMsg.v 7), .int .i64 (Sough.zeroMsg.v 8), .int .i64 (Sough.zeroMsg.v 9), .int .i64 (Sough.zeroMsg.v 10), .int .u64 (Sough.zeroMsg.v 11), .int .u64 (Sough.zeroMsg.v 12)]) (.agg #[.int .i64 0, .int .u64 0, .int .u64 0, .string ⟨#[]⟩, .int .i64 0, .int .i64 0, .int .i64 0, .int .i64 0, .int .i64 0, .int .i64 0, .int .i64 0, .int .u64 0, .int .u64 0])).run Try.prog w = .ok true w := fun w => eqMsg Sough.zeroMsg Sough.zeroMsg w
    have EG : Try.prog.eqGuardType Try.prog.depth 24 = false := by kernel_rfl
    have rx := cells13 (M5.out.get 0 rfl)
    go_wp2_with fail
    clear rx EQ EG
    generalize w5.alloc _ = W5 at *
    refine (fixed_walk _).mono ?_
    rintro e w8 ⟨rfl, hb⟩
    have M8 := Lib.hid (M5.out.later hb)
    go_wp2_with fail
    go_ret
    exact ⟨by first | rfl | exact ret_true (by simp), M8.out.bel⟩

/-- As the frame wants it. -/
theorem msgBack_walk (m : Sough.Msg) (s : ByteArray) (w : World) (hw : m.Wf) (hs : s.size ≤ maxLen) :
    Calls Try.prog 4 #[.agg (msgC m), .string s] w fun e w' => e = .returned (.bool true) ∧ Below w.heap.size w w' := by
  cases h : (cutM m).encode.isEmpty
  · exact back_yes rfl rfl h rfl w hw hs
  · exact back_no rfl rfl h rfl w hw hs

end Go.Proofs.Ytjoanlhdocoddaa
