/- The walk of the law MsgData. -/
import Derived.Test.YtjoanlhdocoddaaMsBack
namespace Sough
/-- A Data. -/
def datM (t e n c : Int) : Msg := ⟨fun k => if k = 0 then 4 else if k = 2 then t else if k = 11 then e else if k = 12 then n else if k = 9 then c else 0, []⟩
theorem dat_right (t e n c : Int) : (datM t e n c).right = true ↔ (1 ≤ t ∧ t ≤ 4294967296) ∧ (0 ≤ e ∧ e ≤ 1000) ∧ (0 ≤ n ∧ n ≤ 255) ∧ 1 ≤ c ∧ c ≤ 1048576 := by
  unfold Msg.right Msg.same
  simp [flds, flds4, fldOk, number, name, datM, cellsN, onlyL, hasF]
theorem dat_wf {t e n c : Int} (ht : 0 ≤ t ∧ t < 18446744073709551616) (he : 0 ≤ e ∧ e < 18446744073709551616) (hn : 0 ≤ n ∧ n < 18446744073709551616) (hc : -9223372036854775808 ≤ c ∧ c ≤ 9223372036854775807) : (datM t e n c).Wf := by
  refine ⟨fun k hk => ?_, fun k hk => ?_, by simp [datM]⟩
  · simp only [List.mem_cons, List.not_mem_nil, or_false] at hk
    rcases hk with rfl | rfl | rfl | rfl | rfl | rfl | rfl | rfl <;> simp [datM] <;> omega
  · simp only [List.mem_cons, List.not_mem_nil, or_false] at hk
    rcases hk with rfl | rfl | rfl | rfl <;> simp [datM] <;> omega
theorem dat_head (t e n c : Int) : ∃ r, (datM t e n c).bytes = 4 :: r := ⟨(flds ((datM t e n c).v 0)).flatMap (fldBytes (datM t e n c)), by
  unfold Msg.bytes
  rw [show ((datM t e n c).v 0).toNat = 4 from rfl, show put 4 = [4] by decide +kernel]
  rfl⟩
theorem dec_nil : (decodeM []).1 = zeroMsg ∧ (decodeM []).2 = 2 := ⟨dec_bad (by decide +kernel), by decide +kernel⟩
end Sough
namespace Go.Proofs.Ytjoanlhdocoddaa
open Go.RowKit Go.Maps Go.ChangeMaps


set_option maxRecDepth 100000 in
set_option maxHeartbeats 6400000 in
theorem data_no {t e n c : Int} (w : World) (hwf : (Sough.datM t e n c).Wf) (hno : (Sough.datM t e n c).right = false) (he : 0 ≤ e) (hn : 0 ≤ n) :
    Calls Try.prog 8 #[.agg #[.int .u64 t, .int .u64 e, .int .u64 n], .int .i64 c] w fun e w' => e = .returned (.bool true) ∧ Below w.heap.size w w' := by
  have hn0 : ¬ ((1 ≤ t ∧ t ≤ 4294967296) ∧ (e ≤ 1000) ∧ (n < 256) ∧ 1 ≤ c ∧ c ≤ 1048576) := fun h => by
    have := (Sough.dat_right t e n c).2 (by omega)
    rw [hno] at this; cases this
  have CE := Lib.hid fun w => enc_lit (Sough.encode_nil.2 hno) hwf w
  have CR := Lib.hid fun w => right_lit hno hwf w
  have CD := Lib.hid fun w => dec_to (s := ⟨#[]⟩) (q := Sough.zeroMsg) (er := 2) Sough.dec_nil.1 Sough.dec_nil.2 w (by decide)
  clear hwf hno
  have M0 : Hid (Mem w [(w.heap.size, .cells #[.int .u64 t, .int .u64 e, .int .u64 n] 50 (0, 0))] (w.alloc (.cells #[.int .u64 t, .int .u64 e, .int .u64 n] 50))) := Lib.hid ((Mem.start w).alloc _)
  go_enter Try.func8, Try.ntmps8
  go_wp2_with fail
  generalize w.alloc (.cells #[.int .u64 t, .int .u64 e, .int .u64 n] 50) = W0 at *
  have r := M0.out.rulesL; simp only [AllCells, CellsAt, Nat.zero_add, Nat.reduceAdd] at r
  refine wp_region_later (by kernel_rfl) (by kernel_rfl) ?_
  repeat go_big_quiet_step (fail)
  refine wpQuiet_nil ?_
  rintro ⟨w1, hb1⟩
  change Exit.then _ _ _ _ w1
  have M1 := Lib.hid ((M0.out.later hb1).alloc (.cells #[.int .i64 ((Sough.datM t e n c).v 0), .int .u64 ((Sough.datM t e n c).v 1), .int .u64 ((Sough.datM t e n c).v 2), .string ⟨(Sough.datM t e n c).offer.toArray⟩, .int .i64 ((Sough.datM t e n c).v 4), .int .i64 ((Sough.datM t e n c).v 5), .int .i64 ((Sough.datM t e n c).v 6), .int .i64 ((Sough.datM t e n c).v 7), .int .i64 ((Sough.datM t e n c).v 8), .int .i64 ((Sough.datM t e n c).v 9), .int .i64 ((Sough.datM t e n c).v 10), .int .u64 ((Sough.datM t e n c).v 11), .int .u64 ((Sough.datM t e n c).v 12)] 24))
  clear r hb1 M0
  go_wp2_with fail
  all_goals first
    | (exfalso; omega)
    | (refine (CE.out _).mono ?_
       rintro e w2 ⟨rfl, hb⟩
       have M2 := Lib.hid (M1.out.later hb)
       clear hb M1 CE
       go_wp2_with fail
       refine (CD.out w2).mono ?_
       rintro e w3 ⟨rfl, hb⟩
       have M3 := Lib.hid ((M2.out.later hb).alloc (.cells #[.int .i64 (Sough.zeroMsg.v 0), .int .u64 (Sough.zeroMsg.v 1), .int .u64 (Sough.zeroMsg.v 2), .string ⟨Sough.zeroMsg.offer.toArray⟩, .int .i64 (Sough.zeroMsg.v 4), .int .i64 (Sough.zeroMsg.v 5), .int .i64 (Sough.zeroMsg.v 6), .int .i64 (Sough.zeroMsg.v 7), .int .i64 (Sough.zeroMsg.v 8), .int .i64 (Sough.zeroMsg.v 9), .int .i64 (Sough.zeroMsg.v 10), .int .u64 (Sough.zeroMsg.v 11), .int .u64 (Sough.zeroMsg.v 12)] 24))
       clear hb M2 CD
       have r1 := cells13 (M3.out.get 1 rfl)
       go_wp2_with fail
       clear r1
       generalize w3.alloc _ = W3 at *
       refine (CR.out W3).mono ?_
       rintro e w4 ⟨rfl, hb⟩
       have M4 := Lib.hid (M3.out.later hb)
       clear hb M3 CR
       go_wp2_with fail
       refine (fixed_walk _).mono ?_
       rintro e w8 ⟨rfl, hb⟩
       have M8 := Lib.hid (M4.out.later hb)
       go_wp2_with fail
       go_ret
       exact ⟨by first | rfl | exact ret_true (by simp), M8.out.bel⟩)

set_option maxRecDepth 100000 in
set_option maxHeartbeats 6400000 in
theorem data_yes {t e n c : Int} {la : List UInt8} (w : World) (hwf : (Sough.datM t e n c).Wf) (hyes : (Sough.datM t e n c).right = true) (hla : (Sough.datM t e n c).bytes = la) :
    Calls Try.prog 8 #[.agg #[.int .u64 t, .int .u64 e, .int .u64 n], .int .i64 c] w fun e w' => e = .returned (.bool true) ∧ Below w.heap.size w w' := by
  obtain ⟨⟨h1, h2⟩, ⟨h3, h4⟩, ⟨h5, h6⟩, h7, h8⟩ := (Sough.dat_right t e n c).1 hyes
  have h9 : n < 256 := by omega
  have hen : (Sough.datM t e n c).encode = la := by unfold Sough.Msg.encode; rw [if_pos hyes, hla]
  have CE := Lib.hid fun w => enc_lit hen hwf w
  have CR := Lib.hid fun w => right_lit hyes hwf w
  have hdb := Sough.dec_bytes hyes
  rw [hla] at hdb
  have hl1 := Sough.bytes_len hyes
  rw [hla] at hl1
  have CD := Lib.hid fun w => dec_lit (l := la) (m := Sough.datM t e n c) (er := 0) hdb.1 hdb.2 w (by omega)
  obtain ⟨r0, hr0⟩ := Sough.dat_head t e n c
  have hl0 : 1 ≤ la.length := by rw [← hla, hr0]; simp
  have hx4 : ((⟨la.toArray⟩ : ByteArray).extract 0 1).toList = [4] := by rw [extract_toList, ← hla, hr0]; rfl
  have qa : la.isEmpty = false := by rw [← hla, hr0]; rfl
  clear hwf hyes hla hen hdb hr0
  have M0 : Hid (Mem w [(w.heap.size, .cells #[.int .u64 t, .int .u64 e, .int .u64 n] 50 (0, 0))] (w.alloc (.cells #[.int .u64 t, .int .u64 e, .int .u64 n] 50))) := Lib.hid ((Mem.start w).alloc _)
  go_enter Try.func8, Try.ntmps8
  go_wp2_with fail
  generalize w.alloc (.cells #[.int .u64 t, .int .u64 e, .int .u64 n] 50) = W0 at *
  have r := M0.out.rulesL; simp only [AllCells, CellsAt, Nat.zero_add, Nat.reduceAdd] at r
  refine wp_region_later (by kernel_rfl) (by kernel_rfl) ?_
  repeat go_big_quiet_step (fail)
  refine wpQuiet_nil ?_
  rintro ⟨w1, hb1⟩
  change Exit.then _ _ _ _ w1
  have M1 := Lib.hid ((M0.out.later hb1).alloc (.cells #[.int .i64 ((Sough.datM t e n c).v 0), .int .u64 ((Sough.datM t e n c).v 1), .int .u64 ((Sough.datM t e n c).v 2), .string ⟨(Sough.datM t e n c).offer.toArray⟩, .int .i64 ((Sough.datM t e n c).v 4), .int .i64 ((Sough.datM t e n c).v 5), .int .i64 ((Sough.datM t e n c).v 6), .int .i64 ((Sough.datM t e n c).v 7), .int .i64 ((Sough.datM t e n c).v 8), .int .i64 ((Sough.datM t e n c).v 9), .int .i64 ((Sough.datM t e n c).v 10), .int .u64 ((Sough.datM t e n c).v 11), .int .u64 ((Sough.datM t e n c).v 12)] 24))
  clear r hb1 M0
  go_wp2_with fail
  refine (CE.out _).mono ?_
  rintro e w2 ⟨rfl, hb⟩
  have M2 := Lib.hid (M1.out.later hb)
  clear hb M1 CE
  go_wp2_with fail
  refine (CD.out w2).mono ?_
  rintro e w3 ⟨rfl, hb⟩
  have M3 := Lib.hid ((M2.out.later hb).alloc (.cells #[.int .i64 ((Sough.datM t e n c).v 0), .int .u64 ((Sough.datM t e n c).v 1), .int .u64 ((Sough.datM t e n c).v 2), .string ⟨(Sough.datM t e n c).offer.toArray⟩, .int .i64 ((Sough.datM t e n c).v 4), .int .i64 ((Sough.datM t e n c).v 5), .int .i64 ((Sough.datM t e n c).v 6), .int .i64 ((Sough.datM t e n c).v 7), .int .i64 ((Sough.datM t e n c).v 8), .int .i64 ((Sough.datM t e n c).v 9), .int .i64 ((Sough.datM t e n c).v 10), .int .u64 ((Sough.datM t e n c).v 11), .int .u64 ((Sough.datM t e n c).v 12)] 24))
  clear hb M2 CD
  have r1 := cells13 (M3.out.get 1 rfl)
  go_wp2_with fail
  clear r1
  generalize w3.alloc _ = W3 at *
  refine (CR.out W3).mono ?_
  rintro e w4 ⟨rfl, hb⟩
  have M4 := Lib.hid (M3.out.later hb)
  clear hb M3 CR
  have r1 := cells13 (M4.out.get 1 rfl)
  have r2 := cells13 (M4.out.get 0 rfl)
  have EQ := eqMsg (Sough.datM t e n c) (Sough.datM t e n c)
  rw [show (Sough.datM t e n c).same (Sough.datM t e n c) = true by rw [Sough.same_iff]; exact ⟨fun _ _ => rfl, rfl⟩] at EQ
  have EG : Try.prog.eqGuardType Try.prog.depth 24 = false := by kernel_rfl
  go_wp2_with fail
  refine (fixed_walk _).mono ?_
  rintro e w8 ⟨rfl, hb⟩
  have M8 := Lib.hid (M4.out.later hb)
  clear r1 r2 EQ EG
  go_wp2_with fail
  go_ret
  exact ⟨by first | rfl | exact ret_true (by simp), M8.out.bel⟩

/-- As the frame wants it. -/
theorem msgData_walk (t e n c : Int) (w : World) (wt : (Lit.int .u64 t).wf = true) (we : (Lit.int .u64 e).wf = true) (wn : (Lit.int .u64 n).wf = true) (wc : (Lit.int .i64 c).wf = true) :
    Calls Try.prog 8 #[.agg #[.int .u64 t, .int .u64 e, .int .u64 n], .int .i64 c] w fun e w' => e = .returned (.bool true) ∧ Below w.heap.size w w' := by
  have b1 := bounds_u64 wt; have b2 := bounds_u64 we; have b3 := bounds_u64 wn; have b4 := bounds_i64 wc
  have hwf := Sough.dat_wf (t := t) (e := e) (n := n) (c := c) (by omega) (by omega) (by omega) (by omega)
  cases h : (Sough.datM t e n c).right
  · exact data_no w hwf h b2.1 b3.1
  · exact data_yes w hwf h rfl

end Go.Proofs.Ytjoanlhdocoddaa
