/- The walk of soughref10.Decode at kinds 1, 2 (printed by wip/tools/mkrd.py). -/
import Derived.Test.YtjoanlhdocoddaaMsRDec
namespace Go.Proofs.Ytjoanlhdocoddaa
open Go.RowKit Go.Maps Go.ChangeMaps

set_option maxRecDepth 100000 in
set_option maxHeartbeats 6400000 in
theorem rd1 {s : List UInt8} {p0 : Nat} {x : Sough.Msg × Sough.Rd} {res : Sough.Msg × Nat} (w : World) (hs : s.length ≤ 4096) (hg : Sough.get s 0 = (1, p0, 0)) (hx : Sough.rchain s (Sough.kindMsg 1, ⟨p0, 0⟩) (Sough.flds 1) = x)
    (hres : (if x.2.er ≠ 0 then (Sough.zeroMsg, x.2.er) else if x.2.k ≠ s.length ∨ x.1.right = false then (Sough.zeroMsg, 3) else (x.1, 0)) = res) (hwf : x.1.Wf) :
    Calls Try.prog 11 #[.string ⟨s.toArray⟩] w (DecTo w res) := by
  have hsz : (⟨s.toArray⟩ : ByteArray).size ≤ maxLen := by rw [mk_size]; unfold maxLen; omega
  have CG := Lib.hid (fun w => rget_as (s := ⟨s.toArray⟩) (k := 0) hg w hsz)
  have hp0 := (get_bounds hg).1
  obtain ⟨r0, hr0⟩ : ∃ r0 : Sough.Rd, r0 = ⟨p0, 0⟩ := ⟨_, rfl⟩
  rcases h1 : Sough.rnum s r0 with ⟨n1, r1⟩
  rcases h2 : Sough.roff s r1 with ⟨t, r2⟩
  rcases h3 : Sough.rnum s r2 with ⟨n3, r3⟩
  rcases h4 : Sough.rnum s r3 with ⟨n4, r4⟩
  rcases h5 : Sough.rnum s r4 with ⟨n5, r5⟩
  rcases h6 : Sough.rnum s r5 with ⟨n6, r6⟩
  rcases h7 : Sough.rnum s r6 with ⟨n7, r7⟩
  rcases h8 : Sough.rnum s r7 with ⟨n8, r8⟩
  have hx1 : (Sough.rchain s (Sough.kindMsg 1, r0) (Sough.flds 1)).2 = r8 ∧ msgC (Sough.rchain s (Sough.kindMsg 1, r0) (Sough.flds 1)).1 = #[.int .i64 1, .int .u64 n1, .int .u64 0, .string ⟨(t).toArray⟩, .int .i64 n3, .int .i64 0, .int .i64 n4, .int .i64 n5, .int .i64 n6, .int .i64 n7, .int .i64 n8, .int .u64 0, .int .u64 0] := by
    show (Sough.rchain s (Sough.kindMsg 1, r0) Sough.flds1).2 = r8 ∧ msgC (Sough.rchain s (Sough.kindMsg 1, r0) Sough.flds1).1 = _
    simp [Sough.rchain, Sough.flds1, Sough.rstep, Sough.number, Sough.name, Sough.setV, Sough.kindMsg, msgC, h1, h2, h3, h4, h5, h6, h7, h8]
  rw [← hr0] at hx
  rw [hx] at hx1
  obtain ⟨hx2, hx3⟩ := hx1
  have b1 := rnum_le h1
  have b3 := rnum_le h3
  have b4 := rnum_le h4
  have b5 := rnum_le h5
  have b6 := rnum_le h6
  have b7 := rnum_le h7
  have b8 := rnum_le h8
  have H1 := Lib.hid h1
  have H2 := Lib.hid h2
  have H3 := Lib.hid h3
  have H4 := Lib.hid h4
  have H5 := Lib.hid h5
  have H6 := Lib.hid h6
  have H7 := Lib.hid h7
  have H8 := Lib.hid h8
  clear h1 h2 h3 h4 h5 h6 h7 h8 hx hg
  obtain ⟨m, q⟩ := x
  simp only at hx2 hx3 hres hwf
  subst hx2
  have HL := Lib.hid hx3; have HW := Lib.hid hwf; have HRES := Lib.hid hres; have HR0 := Lib.hid hr0
  clear hx3 hwf hres
  have k0 : r0.k ≤ s.length := by rw [hr0]; simpa using hp0
  have hs5 : s.length ≤ 5000 := by omega
  clear hr0 hsz
  have M0 : Hid (Mem w [(w.heap.size, .cells (msgC Sough.zeroMsg) 29 (0, 0))] (w.alloc (.cells #[.int .i64 0, .int .u64 0, .int .u64 0, .string ⟨#[]⟩, .int .i64 0, .int .i64 0, .int .i64 0, .int .i64 0, .int .i64 0, .int .i64 0, .int .i64 0, .int .u64 0, .int .u64 0] 29))) := Lib.hid ((Mem.start w).alloc _)
  go_enter Try.func11, Try.ntmps11
  go_wp2_with fail
  generalize w.alloc (.cells #[.int .i64 0, .int .u64 0, .int .u64 0, .string ⟨#[]⟩, .int .i64 0, .int .i64 0, .int .i64 0, .int .i64 0, .int .i64 0, .int .i64 0, .int .i64 0, .int .u64 0, .int .u64 0] 29) = W at *
  refine (CG.out W).mono ?_
  rintro e w1 ⟨rfl, hb1⟩
  have M1 := Lib.hid (M0.out.later hb1)
  have hlt1 := M1.out.lt 0 rfl
  clear hb1 M0 CG
  go_wp2_with fail
  have M2 : Hid (Mem w [(w1.heap.size + 1, .cells #[.int .i64 1, .int .u64 0, .int .u64 0, .string ⟨#[]⟩, .int .i64 0, .int .i64 0, .int .i64 0, .int .i64 0, .int .i64 0, .int .i64 0, .int .i64 0, .int .u64 0, .int .u64 0] 29 (0, 0)), (w1.heap.size, .cells (rdC s r0) 65 (0, 0)), (w.heap.size, .cells (msgC Sough.zeroMsg) 29 (0, 0))] ((w1.alloc (.cells #[.string ⟨s.toArray⟩, .int .i64 p0, .int .i64 0] 65)).alloc (.cells #[.int .i64 1, .int .u64 0, .int .u64 0, .string ⟨#[]⟩, .int .i64 0, .int .i64 0, .int .i64 0, .int .i64 0, .int .i64 0, .int .i64 0, .int .i64 0, .int .u64 0, .int .u64 0] 29))) := Lib.hid (by
    have := (M1.out.alloc (.cells #[.string ⟨s.toArray⟩, .int .i64 p0, .int .i64 0] 65)).alloc (.cells #[.int .i64 1, .int .u64 0, .int .u64 0, .string ⟨#[]⟩, .int .i64 0, .int .i64 0, .int .i64 0, .int .i64 0, .int .i64 0, .int .i64 0, .int .i64 0, .int .u64 0, .int .u64 0] 29)
    rw [HR0.out]
    simp only [World.size_alloc] at this
    exact this)
  generalize (w1.alloc (.cells #[.string ⟨s.toArray⟩, .int .i64 p0, .int .i64 0] 65)).alloc (.cells #[.int .i64 1, .int .u64 0, .int .u64 0, .string ⟨#[]⟩, .int .i64 0, .int .i64 0, .int .i64 0, .int .i64 0, .int .i64 0, .int .i64 0, .int .i64 0, .int .u64 0, .int .u64 0] 29) = W2 at *
  obtain ⟨rb, hrb⟩ : ∃ rb, rb = w1.heap.size := ⟨_, rfl⟩
  obtain ⟨mb, hmb⟩ : ∃ mb, mb = w1.heap.size + 1 := ⟨_, rfl⟩
  rw [← hmb, ← hrb] at M2
  rw [← hmb, ← hrb]
  have HN1 : Hid (mb ≠ rb ∧ w.heap.size ≠ rb ∧ w.heap.size ≤ rb) := Lib.hid (by omega)
  have HN2 : Hid (rb ≠ mb ∧ w.heap.size ≠ mb ∧ w.heap.size ≤ mb) := Lib.hid (by omega)
  clear hrb hmb hlt1 M1
  refine (rnum_any H1.out W2 (M2.out.get 1 rfl) hs5 k0).mono ?_
  rintro e v1 ⟨rfl, k1, hh, ht⟩
  have N1 := Lib.hid (rd_step M2.out HN1.out hh ht)
  clear hh ht M2
  have r := N1.out.rules; simp only [AllCells, CellsAt, Nat.zero_add, Nat.reduceAdd] at r
  have Q1 := Lib.hid (rd_set N1.out HN2.out 1 (.int .u64 n1) (mc' := #[.int .i64 1, .int .u64 n1, .int .u64 0, .string ⟨#[]⟩, .int .i64 0, .int .i64 0, .int .i64 0, .int .i64 0, .int .i64 0, .int .i64 0, .int .i64 0, .int .u64 0, .int .u64 0]) rfl)
  go_wp2_with fail
  clear r N1
  generalize v1.setCell _ _ = W3 at *
  refine (roff_any H2.out W3 (Q1.out.get 1 rfl) hs5 k1).mono ?_
  rintro e v2 ⟨rfl, k2, hh, ht⟩
  have N2 := Lib.hid (rd_step Q1.out HN1.out hh ht)
  clear hh ht Q1
  have r := N2.out.rules; simp only [AllCells, CellsAt, Nat.zero_add, Nat.reduceAdd] at r
  have Q2 := Lib.hid (rd_set N2.out HN2.out 3 (.string ⟨t.toArray⟩) (mc' := #[.int .i64 1, .int .u64 n1, .int .u64 0, .string ⟨(t).toArray⟩, .int .i64 0, .int .i64 0, .int .i64 0, .int .i64 0, .int .i64 0, .int .i64 0, .int .i64 0, .int .u64 0, .int .u64 0]) rfl)
  go_wp2_with fail
  clear r N2
  generalize v2.setCell _ _ = W4 at *
  refine (rnum_any H3.out W4 (Q2.out.get 1 rfl) hs5 k2).mono ?_
  rintro e v3 ⟨rfl, k3, hh, ht⟩
  have N3 := Lib.hid (rd_step Q2.out HN1.out hh ht)
  clear hh ht Q2
  have r := N3.out.rules; simp only [AllCells, CellsAt, Nat.zero_add, Nat.reduceAdd] at r
  have Q3 := Lib.hid (rd_set N3.out HN2.out 4 (.int .i64 n3) (mc' := #[.int .i64 1, .int .u64 n1, .int .u64 0, .string ⟨(t).toArray⟩, .int .i64 n3, .int .i64 0, .int .i64 0, .int .i64 0, .int .i64 0, .int .i64 0, .int .i64 0, .int .u64 0, .int .u64 0]) rfl)
  go_wp2_with fail
  clear r N3
  generalize v3.setCell _ _ = W5 at *
  refine (rnum_any H4.out W5 (Q3.out.get 1 rfl) hs5 k3).mono ?_
  rintro e v4 ⟨rfl, k4, hh, ht⟩
  have N4 := Lib.hid (rd_step Q3.out HN1.out hh ht)
  clear hh ht Q3
  have r := N4.out.rules; simp only [AllCells, CellsAt, Nat.zero_add, Nat.reduceAdd] at r
  have Q4 := Lib.hid (rd_set N4.out HN2.out 6 (.int .i64 n4) (mc' := #[.int .i64 1, .int .u64 n1, .int .u64 0, .string ⟨(t).toArray⟩, .int .i64 n3, .int .i64 0, .int .i64 n4, .int .i64 0, .int .i64 0, .int .i64 0, .int .i64 0, .int .u64 0, .int .u64 0]) rfl)
  go_wp2_with fail
  clear r N4
  generalize v4.setCell _ _ = W6 at *
  refine (rnum_any H5.out W6 (Q4.out.get 1 rfl) hs5 k4).mono ?_
  rintro e v5 ⟨rfl, k5, hh, ht⟩
  have N5 := Lib.hid (rd_step Q4.out HN1.out hh ht)
  clear hh ht Q4
  have r := N5.out.rules; simp only [AllCells, CellsAt, Nat.zero_add, Nat.reduceAdd] at r
  have Q5 := Lib.hid (rd_set N5.out HN2.out 7 (.int .i64 n5) (mc' := #[.int .i64 1, .int .u64 n1, .int .u64 0, .string ⟨(t).toArray⟩, .int .i64 n3, .int .i64 0, .int .i64 n4, .int .i64 n5, .int .i64 0, .int .i64 0, .int .i64 0, .int .u64 0, .int .u64 0]) rfl)
  go_wp2_with fail
  clear r N5
  generalize v5.setCell _ _ = W7 at *
  refine (rnum_any H6.out W7 (Q5.out.get 1 rfl) hs5 k5).mono ?_
  rintro e v6 ⟨rfl, k6, hh, ht⟩
  have N6 := Lib.hid (rd_step Q5.out HN1.out hh ht)
  clear hh ht Q5
  have r := N6.out.rules; simp only [AllCells, CellsAt, Nat.zero_add, Nat.reduceAdd] at r
  have Q6 := Lib.hid (rd_set N6.out HN2.out 8 (.int .i64 n6) (mc' := #[.int .i64 1, .int .u64 n1, .int .u64 0, .string ⟨(t).toArray⟩, .int .i64 n3, .int .i64 0, .int .i64 n4, .int .i64 n5, .int .i64 n6, .int .i64 0, .int .i64 0, .int .u64 0, .int .u64 0]) rfl)
  go_wp2_with fail
  clear r N6
  generalize v6.setCell _ _ = W8 at *
  refine (rnum_any H7.out W8 (Q6.out.get 1 rfl) hs5 k6).mono ?_
  rintro e v7 ⟨rfl, k7, hh, ht⟩
  have N7 := Lib.hid (rd_step Q6.out HN1.out hh ht)
  clear hh ht Q6
  have r := N7.out.rules; simp only [AllCells, CellsAt, Nat.zero_add, Nat.reduceAdd] at r
  have Q7 := Lib.hid (rd_set N7.out HN2.out 9 (.int .i64 n7) (mc' := #[.int .i64 1, .int .u64 n1, .int .u64 0, .string ⟨(t).toArray⟩, .int .i64 n3, .int .i64 0, .int .i64 n4, .int .i64 n5, .int .i64 n6, .int .i64 n7, .int .i64 0, .int .u64 0, .int .u64 0]) rfl)
  go_wp2_with fail
  clear r N7
  generalize v7.setCell _ _ = W9 at *
  refine (rnum_any H8.out W9 (Q7.out.get 1 rfl) hs5 k7).mono ?_
  rintro e v8 ⟨rfl, k8, hh, ht⟩
  have N8 := Lib.hid (rd_step Q7.out HN1.out hh ht)
  clear hh ht Q7
  have r := N8.out.rules; simp only [AllCells, CellsAt, Nat.zero_add, Nat.reduceAdd] at r
  have Q8 := Lib.hid (rd_set N8.out HN2.out 10 (.int .i64 n8) (mc' := #[.int .i64 1, .int .u64 n1, .int .u64 0, .string ⟨(t).toArray⟩, .int .i64 n3, .int .i64 0, .int .i64 n4, .int .i64 n5, .int .i64 n6, .int .i64 n7, .int .i64 n8, .int .u64 0, .int .u64 0]) rfl)
  go_upto_region 31 with fail
  clear r N8
  generalize v8.setCell _ _ = WE at *
  obtain ⟨⟨q0, q1, q2⟩, _, _⟩ := cells3r (Q8.out.get 1 rfl)
  by_cases hE : q.er = 0
  rotate_left
  · have b2 : ((q.er : Int) != 0) = true := by simpa using hE
    have hr : res = (Sough.zeroMsg, q.er) := by rw [← HRES.out, if_pos hE]
    subst hr
    clear HRES hE
    have hz : WE.heap[w.heap.size]? = some (.cells (msgC Sough.zeroMsg) 29 (0, 0)) := Q8.out.get 2 rfl
    have MZ : Hid (Mem w [(w.heap.size, .cells #[.int .i64 0, .int .u64 0, .int .u64 0, .string ⟨#[]⟩, .int .i64 0, .int .i64 0, .int .i64 0, .int .i64 0, .int .i64 0, .int .i64 0, .int .i64 0, .int .u64 0, .int .u64 0] 29 (0, 0))] WE) := Lib.hid ((Mem.with ⟨Q8.out.bel, fun _ h => absurd h (by simp)⟩ hz))
    have rz := MZ.out.rules; simp only [AllCells, CellsAt, Nat.zero_add, Nat.reduceAdd] at rz
    have HBL := Lib.hid (put13_below (m := Sough.zeroMsg) Q8.out.bel (Nat.le_refl w.heap.size))
    have HZ := Lib.hid (cells13 (put13_heap (m := Sough.zeroMsg) hz))
    clear hz MZ
    have hn1 := HN1.out.2.1
    have hn2 := Ne.symm hn1
    go_wp2_with fail
    go_region
    clear rz
    all_goals
      go_wp2_with fail
      change bodyPost _ _ _ _ _ (put13 WE w.heap.size Sough.zeroMsg).drew
      generalize put13 WE w.heap.size Sough.zeroMsg = WW at *
      have rz := HZ.out
      refine bodyPost_ret (v := .tuple #[.agg #[.int .i64 0, .int .u64 0, .int .u64 0, .string ⟨#[]⟩, .int .i64 0, .int .i64 0, .int .i64 0, .int .i64 0, .int .i64 0, .int .i64 0, .int .i64 0, .int .u64 0, .int .u64 0], .int .i64 (q.er : Nat)]) (by simp [results, Try.results11, go_sem, rz, Sough.zeroMsg]) rfl ?_
      exact ⟨rfl, HBL.out.drew⟩
  · have HE := Lib.hid hE
    have b2 : ((q.er : Int) != 0) = false := by simpa using hE
    clear hE
    by_cases hK : q.k = s.length
    rotate_left
    · have b3 : ((q.k : Int) != (s.length : Int)) = true := by have : (q.k : Int) ≠ s.length := by omega
                                                               simpa using this
      have hr : res = (Sough.zeroMsg, 3) := by rw [← HRES.out, if_neg (by simpa using HE.out), if_pos (.inl hK)]
      subst hr
      clear HRES hK
      have hz : WE.heap[w.heap.size]? = some (.cells (msgC Sough.zeroMsg) 29 (0, 0)) := Q8.out.get 2 rfl
      have MZ : Hid (Mem w [(w.heap.size, .cells #[.int .i64 0, .int .u64 0, .int .u64 0, .string ⟨#[]⟩, .int .i64 0, .int .i64 0, .int .i64 0, .int .i64 0, .int .i64 0, .int .i64 0, .int .i64 0, .int .u64 0, .int .u64 0] 29 (0, 0))] WE) := Lib.hid ((Mem.with ⟨Q8.out.bel, fun _ h => absurd h (by simp)⟩ hz))
      have rz := MZ.out.rules; simp only [AllCells, CellsAt, Nat.zero_add, Nat.reduceAdd] at rz
      have HBL := Lib.hid (put13_below (m := Sough.zeroMsg) Q8.out.bel (Nat.le_refl w.heap.size))
      have HZ := Lib.hid (cells13 (put13_heap (m := Sough.zeroMsg) hz))
      clear hz MZ
      go_wp2_with fail
      change bodyPost _ _ _ _ _ (put13 WE w.heap.size Sough.zeroMsg)
      clear rz
      generalize put13 WE w.heap.size Sough.zeroMsg = WW at *
      have rz := HZ.out
      refine bodyPost_ret (v := .tuple #[.agg #[.int .i64 0, .int .u64 0, .int .u64 0, .string ⟨#[]⟩, .int .i64 0, .int .i64 0, .int .i64 0, .int .i64 0, .int .i64 0, .int .i64 0, .int .i64 0, .int .u64 0, .int .u64 0], .int .i64 (3 : Nat)]) (by simp [results, Try.results11, go_sem, rz, Sough.zeroMsg]) rfl ?_
      exact ⟨rfl, HBL.out⟩
    · have b3 : ((q.k : Int) != (s.length : Int)) = false := by rw [hK]; simp
      rcases hrr : m.right with _ | _
      · have hr : res = (Sough.zeroMsg, 3) := by rw [← HRES.out, if_neg (by simpa using HE.out), if_pos (.inr hrr)]
        subst hr
        have CQ := Lib.hid (rright_any hrr WE HW.out)
        rw [HL.out] at CQ
        clear HRES hK hrr
        have r := Q8.out.rules; simp only [AllCells, CellsAt, Nat.zero_add, Nat.reduceAdd] at r
        go_wp2_with fail
        refine CQ.out.mono ?_
        rintro e w6 ⟨rfl, hb6⟩
        have M6 := Lib.hid (Q8.out.later hb6)
        clear hb6 CQ r q0 q1 q2
        have hz : w6.heap[w.heap.size]? = some (.cells (msgC Sough.zeroMsg) 29 (0, 0)) := M6.out.get 2 rfl
        have MZ : Hid (Mem w [(w.heap.size, .cells #[.int .i64 0, .int .u64 0, .int .u64 0, .string ⟨#[]⟩, .int .i64 0, .int .i64 0, .int .i64 0, .int .i64 0, .int .i64 0, .int .i64 0, .int .i64 0, .int .u64 0, .int .u64 0] 29 (0, 0))] w6) := Lib.hid ((Mem.with ⟨M6.out.bel, fun _ h => absurd h (by simp)⟩ hz))
        have rz := MZ.out.rules; simp only [AllCells, CellsAt, Nat.zero_add, Nat.reduceAdd] at rz
        have HBL := Lib.hid (put13_below (m := Sough.zeroMsg) M6.out.bel (Nat.le_refl w.heap.size))
        have HZ := Lib.hid (cells13 (put13_heap (m := Sough.zeroMsg) hz))
        clear hz MZ
        go_wp2_with fail
        change bodyPost _ _ _ _ _ (put13 w6 w.heap.size Sough.zeroMsg)
        clear rz
        generalize put13 w6 w.heap.size Sough.zeroMsg = WW at *
        have rz := HZ.out
        refine bodyPost_ret (v := .tuple #[.agg #[.int .i64 0, .int .u64 0, .int .u64 0, .string ⟨#[]⟩, .int .i64 0, .int .i64 0, .int .i64 0, .int .i64 0, .int .i64 0, .int .i64 0, .int .i64 0, .int .u64 0, .int .u64 0], .int .i64 (3 : Nat)]) (by simp [results, Try.results11, go_sem, rz, Sough.zeroMsg]) rfl ?_
        exact ⟨rfl, HBL.out⟩
      · have hr : res = (m, 0) := by rw [← HRES.out, if_neg (by simpa using HE.out), if_neg (by rw [hrr]; simp [hK])]
        subst hr
        have CQ := Lib.hid (rright_any hrr WE HW.out)
        rw [HL.out] at CQ
        clear HRES hK hrr
        have r := Q8.out.rules; simp only [AllCells, CellsAt, Nat.zero_add, Nat.reduceAdd] at r
        go_wp2_with fail
        refine CQ.out.mono ?_
        rintro e w6 ⟨rfl, hb6⟩
        have M6 := Lib.hid (Q8.out.later hb6)
        clear hb6 CQ r q0 q1 q2
        have hz : w6.heap[w.heap.size]? = some (.cells (msgC Sough.zeroMsg) 29 (0, 0)) := M6.out.get 2 rfl
        have MZ : Hid (Mem w [(w.heap.size, .cells #[.int .i64 0, .int .u64 0, .int .u64 0, .string ⟨#[]⟩, .int .i64 0, .int .i64 0, .int .i64 0, .int .i64 0, .int .i64 0, .int .i64 0, .int .i64 0, .int .u64 0, .int .u64 0] 29 (0, 0))] w6) := Lib.hid ((Mem.with ⟨M6.out.bel, fun _ h => absurd h (by simp)⟩ hz))
        have rz := MZ.out.rules; simp only [AllCells, CellsAt, Nat.zero_add, Nat.reduceAdd] at rz
        have hm0 : w6.heap[mb]? = some (.cells #[.int .i64 1, .int .u64 n1, .int .u64 0, .string ⟨(t).toArray⟩, .int .i64 n3, .int .i64 0, .int .i64 n4, .int .i64 n5, .int .i64 n6, .int .i64 n7, .int .i64 n8, .int .u64 0, .int .u64 0] 29 (0, 0)) := M6.out.get 0 rfl
        have MM : Hid (Mem w [(mb, .cells #[.int .i64 1, .int .u64 n1, .int .u64 0, .string ⟨(t).toArray⟩, .int .i64 n3, .int .i64 0, .int .i64 n4, .int .i64 n5, .int .i64 n6, .int .i64 n7, .int .i64 n8, .int .u64 0, .int .u64 0] 29 (0, 0))] w6) := Lib.hid ((Mem.with ⟨M6.out.bel, fun _ h => absurd h (by simp)⟩ hm0))
        have rx := MM.out.rules; simp only [AllCells, CellsAt, Nat.zero_add, Nat.reduceAdd] at rx
        have HBL := Lib.hid (put13_below (m := m) M6.out.bel (Nat.le_refl w.heap.size))
        have HZ := put13_heap (m := m) hz
        change _ = some (Obj.cells (msgC m) _ _) at HZ
        rw [HL.out] at HZ
        have HZ := Lib.hid HZ
        have HP : Hid (put13 w6 w.heap.size m = put13L w6 w.heap.size #[.int .i64 1, .int .u64 n1, .int .u64 0, .string ⟨(t).toArray⟩, .int .i64 n3, .int .i64 0, .int .i64 n4, .int .i64 n5, .int .i64 n6, .int .i64 n7, .int .i64 n8, .int .u64 0, .int .u64 0]) := Lib.hid (by rw [← HL.out]; rfl)
        clear hz MZ hm0 MM
        go_wp2_with fail
        change bodyPost _ _ _ _ _ (put13L w6 w.heap.size #[.int .i64 1, .int .u64 n1, .int .u64 0, .string ⟨(t).toArray⟩, .int .i64 n3, .int .i64 0, .int .i64 n4, .int .i64 n5, .int .i64 n6, .int .i64 n7, .int .i64 n8, .int .u64 0, .int .u64 0])
        rw [← HP.out]
        clear rz rx
        generalize put13 w6 w.heap.size m = WW at *
        have rz := HZ.out
        have rz : WW.heap[w.heap.size]? = _ := rz
        refine bodyPost_ret (v := .tuple #[.agg #[.int .i64 1, .int .u64 n1, .int .u64 0, .string ⟨(t).toArray⟩, .int .i64 n3, .int .i64 0, .int .i64 n4, .int .i64 n5, .int .i64 n6, .int .i64 n7, .int .i64 n8, .int .u64 0, .int .u64 0], .int .i64 0]) (by simp [results, Try.results11, go_sem, World.cell?, rz]) rfl ?_
        exact ⟨by rw [HL.out]; rfl, HBL.out⟩

set_option maxRecDepth 100000 in
set_option maxHeartbeats 6400000 in
theorem rd2 {s : List UInt8} {p0 : Nat} {x : Sough.Msg × Sough.Rd} {res : Sough.Msg × Nat} (w : World) (hs : s.length ≤ 4096) (hg : Sough.get s 0 = (2, p0, 0)) (hx : Sough.rchain s (Sough.kindMsg 2, ⟨p0, 0⟩) (Sough.flds 2) = x)
    (hres : (if x.2.er ≠ 0 then (Sough.zeroMsg, x.2.er) else if x.2.k ≠ s.length ∨ x.1.right = false then (Sough.zeroMsg, 3) else (x.1, 0)) = res) (hwf : x.1.Wf) :
    Calls Try.prog 11 #[.string ⟨s.toArray⟩] w (DecTo w res) := by
  have hsz : (⟨s.toArray⟩ : ByteArray).size ≤ maxLen := by rw [mk_size]; unfold maxLen; omega
  have CG := Lib.hid (fun w => rget_as (s := ⟨s.toArray⟩) (k := 0) hg w hsz)
  have hp0 := (get_bounds hg).1
  obtain ⟨r0, hr0⟩ : ∃ r0 : Sough.Rd, r0 = ⟨p0, 0⟩ := ⟨_, rfl⟩
  rcases h1 : Sough.rnum s r0 with ⟨n1, r1⟩
  rcases h2 : Sough.rnum s r1 with ⟨n2, r2⟩
  rcases h3 : Sough.rnum s r2 with ⟨n3, r3⟩
  rcases h4 : Sough.rnum s r3 with ⟨n4, r4⟩
  rcases h5 : Sough.rnum s r4 with ⟨n5, r5⟩
  have hx1 : (Sough.rchain s (Sough.kindMsg 2, r0) (Sough.flds 2)).2 = r5 ∧ msgC (Sough.rchain s (Sough.kindMsg 2, r0) (Sough.flds 2)).1 = #[.int .i64 2, .int .u64 n1, .int .u64 n2, .string ⟨#[]⟩, .int .i64 0, .int .i64 0, .int .i64 n3, .int .i64 0, .int .i64 n4, .int .i64 n5, .int .i64 0, .int .u64 0, .int .u64 0] := by
    show (Sough.rchain s (Sough.kindMsg 2, r0) Sough.flds2).2 = r5 ∧ msgC (Sough.rchain s (Sough.kindMsg 2, r0) Sough.flds2).1 = _
    simp [Sough.rchain, Sough.flds2, Sough.rstep, Sough.number, Sough.name, Sough.setV, Sough.kindMsg, msgC, h1, h2, h3, h4, h5]
  rw [← hr0] at hx
  rw [hx] at hx1
  obtain ⟨hx2, hx3⟩ := hx1
  have b1 := rnum_le h1
  have b2 := rnum_le h2
  have b3 := rnum_le h3
  have b4 := rnum_le h4
  have b5 := rnum_le h5
  have H1 := Lib.hid h1
  have H2 := Lib.hid h2
  have H3 := Lib.hid h3
  have H4 := Lib.hid h4
  have H5 := Lib.hid h5
  clear h1 h2 h3 h4 h5 hx hg
  obtain ⟨m, q⟩ := x
  simp only at hx2 hx3 hres hwf
  subst hx2
  have HL := Lib.hid hx3; have HW := Lib.hid hwf; have HRES := Lib.hid hres; have HR0 := Lib.hid hr0
  clear hx3 hwf hres
  have k0 : r0.k ≤ s.length := by rw [hr0]; simpa using hp0
  have hs5 : s.length ≤ 5000 := by omega
  clear hr0 hsz
  have M0 : Hid (Mem w [(w.heap.size, .cells (msgC Sough.zeroMsg) 29 (0, 0))] (w.alloc (.cells #[.int .i64 0, .int .u64 0, .int .u64 0, .string ⟨#[]⟩, .int .i64 0, .int .i64 0, .int .i64 0, .int .i64 0, .int .i64 0, .int .i64 0, .int .i64 0, .int .u64 0, .int .u64 0] 29))) := Lib.hid ((Mem.start w).alloc _)
  go_enter Try.func11, Try.ntmps11
  go_wp2_with fail
  generalize w.alloc (.cells #[.int .i64 0, .int .u64 0, .int .u64 0, .string ⟨#[]⟩, .int .i64 0, .int .i64 0, .int .i64 0, .int .i64 0, .int .i64 0, .int .i64 0, .int .i64 0, .int .u64 0, .int .u64 0] 29) = W at *
  refine (CG.out W).mono ?_
  rintro e w1 ⟨rfl, hb1⟩
  have M1 := Lib.hid (M0.out.later hb1)
  have hlt1 := M1.out.lt 0 rfl
  clear hb1 M0 CG
  go_wp2_with fail
  have M2 : Hid (Mem w [(w1.heap.size + 1, .cells #[.int .i64 2, .int .u64 0, .int .u64 0, .string ⟨#[]⟩, .int .i64 0, .int .i64 0, .int .i64 0, .int .i64 0, .int .i64 0, .int .i64 0, .int .i64 0, .int .u64 0, .int .u64 0] 29 (0, 0)), (w1.heap.size, .cells (rdC s r0) 65 (0, 0)), (w.heap.size, .cells (msgC Sough.zeroMsg) 29 (0, 0))] ((w1.alloc (.cells #[.string ⟨s.toArray⟩, .int .i64 p0, .int .i64 0] 65)).alloc (.cells #[.int .i64 2, .int .u64 0, .int .u64 0, .string ⟨#[]⟩, .int .i64 0, .int .i64 0, .int .i64 0, .int .i64 0, .int .i64 0, .int .i64 0, .int .i64 0, .int .u64 0, .int .u64 0] 29))) := Lib.hid (by
    have := (M1.out.alloc (.cells #[.string ⟨s.toArray⟩, .int .i64 p0, .int .i64 0] 65)).alloc (.cells #[.int .i64 2, .int .u64 0, .int .u64 0, .string ⟨#[]⟩, .int .i64 0, .int .i64 0, .int .i64 0, .int .i64 0, .int .i64 0, .int .i64 0, .int .i64 0, .int .u64 0, .int .u64 0] 29)
    rw [HR0.out]
    simp only [World.size_alloc] at this
    exact this)
  generalize (w1.alloc (.cells #[.string ⟨s.toArray⟩, .int .i64 p0, .int .i64 0] 65)).alloc (.cells #[.int .i64 2, .int .u64 0, .int .u64 0, .string ⟨#[]⟩, .int .i64 0, .int .i64 0, .int .i64 0, .int .i64 0, .int .i64 0, .int .i64 0, .int .i64 0, .int .u64 0, .int .u64 0] 29) = W2 at *
  obtain ⟨rb, hrb⟩ : ∃ rb, rb = w1.heap.size := ⟨_, rfl⟩
  obtain ⟨mb, hmb⟩ : ∃ mb, mb = w1.heap.size + 1 := ⟨_, rfl⟩
  rw [← hmb, ← hrb] at M2
  rw [← hmb, ← hrb]
  have HN1 : Hid (mb ≠ rb ∧ w.heap.size ≠ rb ∧ w.heap.size ≤ rb) := Lib.hid (by omega)
  have HN2 : Hid (rb ≠ mb ∧ w.heap.size ≠ mb ∧ w.heap.size ≤ mb) := Lib.hid (by omega)
  clear hrb hmb hlt1 M1
  refine (rnum_any H1.out W2 (M2.out.get 1 rfl) hs5 k0).mono ?_
  rintro e v1 ⟨rfl, k1, hh, ht⟩
  have N1 := Lib.hid (rd_step M2.out HN1.out hh ht)
  clear hh ht M2
  have r := N1.out.rules; simp only [AllCells, CellsAt, Nat.zero_add, Nat.reduceAdd] at r
  have Q1 := Lib.hid (rd_set N1.out HN2.out 1 (.int .u64 n1) (mc' := #[.int .i64 2, .int .u64 n1, .int .u64 0, .string ⟨#[]⟩, .int .i64 0, .int .i64 0, .int .i64 0, .int .i64 0, .int .i64 0, .int .i64 0, .int .i64 0, .int .u64 0, .int .u64 0]) rfl)
  go_wp2_with fail
  clear r N1
  generalize v1.setCell _ _ = W3 at *
  refine (rnum_any H2.out W3 (Q1.out.get 1 rfl) hs5 k1).mono ?_
  rintro e v2 ⟨rfl, k2, hh, ht⟩
  have N2 := Lib.hid (rd_step Q1.out HN1.out hh ht)
  clear hh ht Q1
  have r := N2.out.rules; simp only [AllCells, CellsAt, Nat.zero_add, Nat.reduceAdd] at r
  have Q2 := Lib.hid (rd_set N2.out HN2.out 2 (.int .u64 n2) (mc' := #[.int .i64 2, .int .u64 n1, .int .u64 n2, .string ⟨#[]⟩, .int .i64 0, .int .i64 0, .int .i64 0, .int .i64 0, .int .i64 0, .int .i64 0, .int .i64 0, .int .u64 0, .int .u64 0]) rfl)
  go_wp2_with fail
  clear r N2
  generalize v2.setCell _ _ = W4 at *
  refine (rnum_any H3.out W4 (Q2.out.get 1 rfl) hs5 k2).mono ?_
  rintro e v3 ⟨rfl, k3, hh, ht⟩
  have N3 := Lib.hid (rd_step Q2.out HN1.out hh ht)
  clear hh ht Q2
  have r := N3.out.rules; simp only [AllCells, CellsAt, Nat.zero_add, Nat.reduceAdd] at r
  have Q3 := Lib.hid (rd_set N3.out HN2.out 6 (.int .i64 n3) (mc' := #[.int .i64 2, .int .u64 n1, .int .u64 n2, .string ⟨#[]⟩, .int .i64 0, .int .i64 0, .int .i64 n3, .int .i64 0, .int .i64 0, .int .i64 0, .int .i64 0, .int .u64 0, .int .u64 0]) rfl)
  go_wp2_with fail
  clear r N3
  generalize v3.setCell _ _ = W5 at *
  refine (rnum_any H4.out W5 (Q3.out.get 1 rfl) hs5 k3).mono ?_
  rintro e v4 ⟨rfl, k4, hh, ht⟩
  have N4 := Lib.hid (rd_step Q3.out HN1.out hh ht)
  clear hh ht Q3
  have r := N4.out.rules; simp only [AllCells, CellsAt, Nat.zero_add, Nat.reduceAdd] at r
  have Q4 := Lib.hid (rd_set N4.out HN2.out 8 (.int .i64 n4) (mc' := #[.int .i64 2, .int .u64 n1, .int .u64 n2, .string ⟨#[]⟩, .int .i64 0, .int .i64 0, .int .i64 n3, .int .i64 0, .int .i64 n4, .int .i64 0, .int .i64 0, .int .u64 0, .int .u64 0]) rfl)
  go_wp2_with fail
  clear r N4
  generalize v4.setCell _ _ = W6 at *
  refine (rnum_any H5.out W6 (Q4.out.get 1 rfl) hs5 k4).mono ?_
  rintro e v5 ⟨rfl, k5, hh, ht⟩
  have N5 := Lib.hid (rd_step Q4.out HN1.out hh ht)
  clear hh ht Q4
  have r := N5.out.rules; simp only [AllCells, CellsAt, Nat.zero_add, Nat.reduceAdd] at r
  have Q5 := Lib.hid (rd_set N5.out HN2.out 9 (.int .i64 n5) (mc' := #[.int .i64 2, .int .u64 n1, .int .u64 n2, .string ⟨#[]⟩, .int .i64 0, .int .i64 0, .int .i64 n3, .int .i64 0, .int .i64 n4, .int .i64 n5, .int .i64 0, .int .u64 0, .int .u64 0]) rfl)
  go_upto_region 31 with fail
  clear r N5
  generalize v5.setCell _ _ = WE at *
  obtain ⟨⟨q0, q1, q2⟩, _, _⟩ := cells3r (Q5.out.get 1 rfl)
  by_cases hE : q.er = 0
  rotate_left
  · have b2 : ((q.er : Int) != 0) = true := by simpa using hE
    have hr : res = (Sough.zeroMsg, q.er) := by rw [← HRES.out, if_pos hE]
    subst hr
    clear HRES hE
    have hz : WE.heap[w.heap.size]? = some (.cells (msgC Sough.zeroMsg) 29 (0, 0)) := Q5.out.get 2 rfl
    have MZ : Hid (Mem w [(w.heap.size, .cells #[.int .i64 0, .int .u64 0, .int .u64 0, .string ⟨#[]⟩, .int .i64 0, .int .i64 0, .int .i64 0, .int .i64 0, .int .i64 0, .int .i64 0, .int .i64 0, .int .u64 0, .int .u64 0] 29 (0, 0))] WE) := Lib.hid ((Mem.with ⟨Q5.out.bel, fun _ h => absurd h (by simp)⟩ hz))
    have rz := MZ.out.rules; simp only [AllCells, CellsAt, Nat.zero_add, Nat.reduceAdd] at rz
    have HBL := Lib.hid (put13_below (m := Sough.zeroMsg) Q5.out.bel (Nat.le_refl w.heap.size))
    have HZ := Lib.hid (cells13 (put13_heap (m := Sough.zeroMsg) hz))
    clear hz MZ
    have hn1 := HN1.out.2.1
    have hn2 := Ne.symm hn1
    go_wp2_with fail
    go_region
    clear rz
    all_goals
      go_wp2_with fail
      change bodyPost _ _ _ _ _ (put13 WE w.heap.size Sough.zeroMsg).drew
      generalize put13 WE w.heap.size Sough.zeroMsg = WW at *
      have rz := HZ.out
      refine bodyPost_ret (v := .tuple #[.agg #[.int .i64 0, .int .u64 0, .int .u64 0, .string ⟨#[]⟩, .int .i64 0, .int .i64 0, .int .i64 0, .int .i64 0, .int .i64 0, .int .i64 0, .int .i64 0, .int .u64 0, .int .u64 0], .int .i64 (q.er : Nat)]) (by simp [results, Try.results11, go_sem, rz, Sough.zeroMsg]) rfl ?_
      exact ⟨rfl, HBL.out.drew⟩
  · have HE := Lib.hid hE
    have b2 : ((q.er : Int) != 0) = false := by simpa using hE
    clear hE
    by_cases hK : q.k = s.length
    rotate_left
    · have b3 : ((q.k : Int) != (s.length : Int)) = true := by have : (q.k : Int) ≠ s.length := by omega
                                                               simpa using this
      have hr : res = (Sough.zeroMsg, 3) := by rw [← HRES.out, if_neg (by simpa using HE.out), if_pos (.inl hK)]
      subst hr
      clear HRES hK
      have hz : WE.heap[w.heap.size]? = some (.cells (msgC Sough.zeroMsg) 29 (0, 0)) := Q5.out.get 2 rfl
      have MZ : Hid (Mem w [(w.heap.size, .cells #[.int .i64 0, .int .u64 0, .int .u64 0, .string ⟨#[]⟩, .int .i64 0, .int .i64 0, .int .i64 0, .int .i64 0, .int .i64 0, .int .i64 0, .int .i64 0, .int .u64 0, .int .u64 0] 29 (0, 0))] WE) := Lib.hid ((Mem.with ⟨Q5.out.bel, fun _ h => absurd h (by simp)⟩ hz))
      have rz := MZ.out.rules; simp only [AllCells, CellsAt, Nat.zero_add, Nat.reduceAdd] at rz
      have HBL := Lib.hid (put13_below (m := Sough.zeroMsg) Q5.out.bel (Nat.le_refl w.heap.size))
      have HZ := Lib.hid (cells13 (put13_heap (m := Sough.zeroMsg) hz))
      clear hz MZ
      go_wp2_with fail
      change bodyPost _ _ _ _ _ (put13 WE w.heap.size Sough.zeroMsg)
      clear rz
      generalize put13 WE w.heap.size Sough.zeroMsg = WW at *
      have rz := HZ.out
      refine bodyPost_ret (v := .tuple #[.agg #[.int .i64 0, .int .u64 0, .int .u64 0, .string ⟨#[]⟩, .int .i64 0, .int .i64 0, .int .i64 0, .int .i64 0, .int .i64 0, .int .i64 0, .int .i64 0, .int .u64 0, .int .u64 0], .int .i64 (3 : Nat)]) (by simp [results, Try.results11, go_sem, rz, Sough.zeroMsg]) rfl ?_
      exact ⟨rfl, HBL.out⟩
    · have b3 : ((q.k : Int) != (s.length : Int)) = false := by rw [hK]; simp
      rcases hrr : m.right with _ | _
      · have hr : res = (Sough.zeroMsg, 3) := by rw [← HRES.out, if_neg (by simpa using HE.out), if_pos (.inr hrr)]
        subst hr
        have CQ := Lib.hid (rright_any hrr WE HW.out)
        rw [HL.out] at CQ
        clear HRES hK hrr
        have r := Q5.out.rules; simp only [AllCells, CellsAt, Nat.zero_add, Nat.reduceAdd] at r
        go_wp2_with fail
        refine CQ.out.mono ?_
        rintro e w6 ⟨rfl, hb6⟩
        have M6 := Lib.hid (Q5.out.later hb6)
        clear hb6 CQ r q0 q1 q2
        have hz : w6.heap[w.heap.size]? = some (.cells (msgC Sough.zeroMsg) 29 (0, 0)) := M6.out.get 2 rfl
        have MZ : Hid (Mem w [(w.heap.size, .cells #[.int .i64 0, .int .u64 0, .int .u64 0, .string ⟨#[]⟩, .int .i64 0, .int .i64 0, .int .i64 0, .int .i64 0, .int .i64 0, .int .i64 0, .int .i64 0, .int .u64 0, .int .u64 0] 29 (0, 0))] w6) := Lib.hid ((Mem.with ⟨M6.out.bel, fun _ h => absurd h (by simp)⟩ hz))
        have rz := MZ.out.rules; simp only [AllCells, CellsAt, Nat.zero_add, Nat.reduceAdd] at rz
        have HBL := Lib.hid (put13_below (m := Sough.zeroMsg) M6.out.bel (Nat.le_refl w.heap.size))
        have HZ := Lib.hid (cells13 (put13_heap (m := Sough.zeroMsg) hz))
        clear hz MZ
        go_wp2_with fail
        change bodyPost _ _ _ _ _ (put13 w6 w.heap.size Sough.zeroMsg)
        clear rz
        generalize put13 w6 w.heap.size Sough.zeroMsg = WW at *
        have rz := HZ.out
        refine bodyPost_ret (v := .tuple #[.agg #[.int .i64 0, .int .u64 0, .int .u64 0, .string ⟨#[]⟩, .int .i64 0, .int .i64 0, .int .i64 0, .int .i64 0, .int .i64 0, .int .i64 0, .int .i64 0, .int .u64 0, .int .u64 0], .int .i64 (3 : Nat)]) (by simp [results, Try.results11, go_sem, rz, Sough.zeroMsg]) rfl ?_
        exact ⟨rfl, HBL.out⟩
      · have hr : res = (m, 0) := by rw [← HRES.out, if_neg (by simpa using HE.out), if_neg (by rw [hrr]; simp [hK])]
        subst hr
        have CQ := Lib.hid (rright_any hrr WE HW.out)
        rw [HL.out] at CQ
        clear HRES hK hrr
        have r := Q5.out.rules; simp only [AllCells, CellsAt, Nat.zero_add, Nat.reduceAdd] at r
        go_wp2_with fail
        refine CQ.out.mono ?_
        rintro e w6 ⟨rfl, hb6⟩
        have M6 := Lib.hid (Q5.out.later hb6)
        clear hb6 CQ r q0 q1 q2
        have hz : w6.heap[w.heap.size]? = some (.cells (msgC Sough.zeroMsg) 29 (0, 0)) := M6.out.get 2 rfl
        have MZ : Hid (Mem w [(w.heap.size, .cells #[.int .i64 0, .int .u64 0, .int .u64 0, .string ⟨#[]⟩, .int .i64 0, .int .i64 0, .int .i64 0, .int .i64 0, .int .i64 0, .int .i64 0, .int .i64 0, .int .u64 0, .int .u64 0] 29 (0, 0))] w6) := Lib.hid ((Mem.with ⟨M6.out.bel, fun _ h => absurd h (by simp)⟩ hz))
        have rz := MZ.out.rules; simp only [AllCells, CellsAt, Nat.zero_add, Nat.reduceAdd] at rz
        have hm0 : w6.heap[mb]? = some (.cells #[.int .i64 2, .int .u64 n1, .int .u64 n2, .string ⟨#[]⟩, .int .i64 0, .int .i64 0, .int .i64 n3, .int .i64 0, .int .i64 n4, .int .i64 n5, .int .i64 0, .int .u64 0, .int .u64 0] 29 (0, 0)) := M6.out.get 0 rfl
        have MM : Hid (Mem w [(mb, .cells #[.int .i64 2, .int .u64 n1, .int .u64 n2, .string ⟨#[]⟩, .int .i64 0, .int .i64 0, .int .i64 n3, .int .i64 0, .int .i64 n4, .int .i64 n5, .int .i64 0, .int .u64 0, .int .u64 0] 29 (0, 0))] w6) := Lib.hid ((Mem.with ⟨M6.out.bel, fun _ h => absurd h (by simp)⟩ hm0))
        have rx := MM.out.rules; simp only [AllCells, CellsAt, Nat.zero_add, Nat.reduceAdd] at rx
        have HBL := Lib.hid (put13_below (m := m) M6.out.bel (Nat.le_refl w.heap.size))
        have HZ := put13_heap (m := m) hz
        change _ = some (Obj.cells (msgC m) _ _) at HZ
        rw [HL.out] at HZ
        have HZ := Lib.hid HZ
        have HP : Hid (put13 w6 w.heap.size m = put13L w6 w.heap.size #[.int .i64 2, .int .u64 n1, .int .u64 n2, .string ⟨#[]⟩, .int .i64 0, .int .i64 0, .int .i64 n3, .int .i64 0, .int .i64 n4, .int .i64 n5, .int .i64 0, .int .u64 0, .int .u64 0]) := Lib.hid (by rw [← HL.out]; rfl)
        clear hz MZ hm0 MM
        go_wp2_with fail
        change bodyPost _ _ _ _ _ (put13L w6 w.heap.size #[.int .i64 2, .int .u64 n1, .int .u64 n2, .string ⟨#[]⟩, .int .i64 0, .int .i64 0, .int .i64 n3, .int .i64 0, .int .i64 n4, .int .i64 n5, .int .i64 0, .int .u64 0, .int .u64 0])
        rw [← HP.out]
        clear rz rx
        generalize put13 w6 w.heap.size m = WW at *
        have rz := HZ.out
        have rz : WW.heap[w.heap.size]? = _ := rz
        refine bodyPost_ret (v := .tuple #[.agg #[.int .i64 2, .int .u64 n1, .int .u64 n2, .string ⟨#[]⟩, .int .i64 0, .int .i64 0, .int .i64 n3, .int .i64 0, .int .i64 n4, .int .i64 n5, .int .i64 0, .int .u64 0, .int .u64 0], .int .i64 0]) (by simp [results, Try.results11, go_sem, World.cell?, rz]) rfl ?_
        exact ⟨by rw [HL.out]; rfl, HBL.out⟩

end Go.Proofs.Ytjoanlhdocoddaa
