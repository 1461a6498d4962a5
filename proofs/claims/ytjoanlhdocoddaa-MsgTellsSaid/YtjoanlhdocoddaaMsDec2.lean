/- The walk of msg.Decode: the fields. -/
import Derived.Test.YtjoanlhdocoddaaMsDec
namespace Go.Proofs.Ytjoanlhdocoddaa
open Go.RowKit Go.Maps Go.ChangeMaps

theorem fldC5 (b : Nat) (f : Sough.Fld) : ∃ (x0 x1 : Int) (c2 c3 c4 : Option Addr), fldC b f = [.int .u64 x0, .int .u64 x1, .pointer c2, .pointer c3, .pointer c4] := by
  unfold fldC
  split
  · exact ⟨_, _, _, _, _, rfl⟩
  · split <;> exact ⟨_, _, _, _, _, rfl⟩
theorem kind_msg (n : Nat) : msgC (Sough.kindMsg n) = #[.int .i64 (n : Int), .int .u64 0, .int .u64 0, .string ⟨#[]⟩, .int .i64 0, .int .i64 0, .int .i64 0, .int .i64 0, .int .i64 0, .int .i64 0, .int .i64 0, .int .u64 0, .int .u64 0] := rfl

set_option maxRecDepth 100000 in
set_option maxHeartbeats 6400000 in
theorem dec_main {s : ByteArray} {n p0 : Nat} (w : World) (hs : s.size ≤ 4096) (hg : Sough.get s.data.toList 0 = (n, p0, 0)) (hn1 : 1 ≤ n) (hn2 : n < 5) {r0 : Sough.Msg × Nat × Nat} {q : Sough.Msg × Nat} (hr0 : Sough.readAll s.data.toList (Sough.kindMsg n) p0 (Sough.flds n) = r0)
    (hq : (if r0.2.2 ≠ 0 then (Sough.zeroMsg, r0.2.2) else if r0.2.1 < s.size ∨ r0.1.right = false then (Sough.zeroMsg, 3) else (r0.1, 0)) = q) :
    Calls Try.prog 10 #[.string s] w (DecTo w q) := by
  have hsm : s.size ≤ maxLen := by unfold maxLen; omega
  have CT := Lib.hid fun w => get_as hg w hsm
  have HSM := Lib.hid hsm
  have hne : Sough.flds n ≠ [] := by
    have : n = 1 ∨ n = 2 ∨ n = 3 ∨ n = 4 := by omega
    rcases this with rfl | rfl | rfl | rfl <;> decide
  have HNE := Lib.hid hne
  have hwk := Sough.Wf.kind (k := n) (by omega)
  have HWK := Lib.hid hwk; have HR0 := Lib.hid hr0; have HQ := Lib.hid hq
  have hk : (Lit.int .i64 (n : Int)).wf = true := WalkArith.wf_i64 (by omega)
  have HK := Lib.hid hk
  have hn8 := Sough.flds_len n
  obtain ⟨l, hl⟩ : ∃ l, l = Sough.flds (n : Int) := ⟨_, rfl⟩
  have HL := Lib.hid hl
  rw [← hl] at HNE HR0 hn8
  have hwn : IntKind.i64.wrap (n : Int) = n := by rw [IntKind.wrap_i64]; omega
  have M0 : Hid (Mem w [(w.heap.size, .cells (msgC Sough.zeroMsg) 24 (0, 0))] (w.alloc (.cells #[.int .i64 0, .int .u64 0, .int .u64 0, .string ⟨#[]⟩, .int .i64 0, .int .i64 0, .int .i64 0, .int .i64 0, .int .i64 0, .int .i64 0, .int .i64 0, .int .u64 0, .int .u64 0] 24))) := Lib.hid ((Mem.start w).alloc _)
  clear hg hsm hne hwk hr0 hq hk hl
  go_enter Try.func10, Try.ntmps10
  go_wp2_with fail
  generalize w.alloc (.cells #[.int .i64 0, .int .u64 0, .int .u64 0, .string ⟨#[]⟩, .int .i64 0, .int .i64 0, .int .i64 0, .int .i64 0, .int .i64 0, .int .i64 0, .int .i64 0, .int .u64 0, .int .u64 0] 24) = W at *
  refine (CT.out W).mono ?_
  rintro e w1 ⟨rfl, hb1⟩
  have M1 := Lib.hid (M0.out.later hb1)
  clear hb1 M0 CT
  go_wp2_with fail
  have M2 : Hid (Mem w [(w1.heap.size, .cells (msgC (Sough.kindMsg n)) 24 (0, 0)), (w.heap.size, .cells (msgC Sough.zeroMsg) 24 (0, 0))] (w1.alloc (.cells #[.int .i64 (n : Int), .int .u64 0, .int .u64 0, .string ⟨#[]⟩, .int .i64 0, .int .i64 0, .int .i64 0, .int .i64 0, .int .i64 0, .int .i64 0, .int .i64 0, .int .u64 0, .int .u64 0] 24))) := Lib.hid (M1.out.alloc _)
  have hlt1 := M1.out.lt 0 rfl
  generalize w1.alloc (.cells #[.int .i64 (n : Int), .int .u64 0, .int .u64 0, .string ⟨#[]⟩, .int .i64 0, .int .i64 0, .int .i64 0, .int .i64 0, .int .i64 0, .int .i64 0, .int .i64 0, .int .u64 0, .int .u64 0] 24) = W2 at *
  obtain ⟨b, hb⟩ : ∃ b, b = w1.heap.size := ⟨_, rfl⟩
  rw [← hb] at M2 hlt1 ⊢
  clear M1 hb
  refine (fields_as (m := Sough.kindMsg n) (k := n) W2 rfl (M2.out.get 0 rfl) HK.out).mono ?_
  rintro e w2 ⟨hb2, h2⟩
  rw [← HL.out] at h2
  rcases h2 with ⟨h2, _⟩ | ⟨_, gm, rfl, hgm1, hgm2⟩
  · exact absurd h2 HNE.out
  have hl1 := M2.out.lt 0 rfl; have hl2 := M2.out.lt 1 rfl
  have M3 : Hid (Mem w [(b, .cells (msgC (Sough.kindMsg n)) 24 (0, 0)), (gm, .cells (rowC b l) 60 (0, 0)), (w.heap.size, .cells (msgC Sough.zeroMsg) 24 (0, 0))] w2) := Lib.hid (((M2.out.later hb2).with hgm2).sub fun x hx => by
      simp only [List.mem_cons, List.not_mem_nil, or_false] at hx ⊢
      rcases hx with rfl | rfl | rfl
      · exact .inr (.inl rfl)
      · exact .inl rfl
      · exact .inr (.inr rfl))
  have hd1 : gm ≠ b := by omega
  have hd2 : w.heap.size ≠ b := by omega
  have hge : w.heap.size ≤ b := by omega
  have HD : Hid (gm ≠ b ∧ w.heap.size ≠ b ∧ w.heap.size ≤ b) := Lib.hid ⟨hd1, hd2, hge⟩
  clear hb2 hgm1 hgm2 M2 hl1 hl2 hlt1 hd1 hd2 hge
  obtain ⟨N, hN⟩ : ∃ N, N = l.length := ⟨_, rfl⟩
  have HN := Lib.hid hN
  rw [← hN]
  rw [← hN] at hn8
  clear hN hwn hn1 hn2
  go_wp2_with fail
  go_loopw [5, 6, 38] (fun pv ev iv wr => DecR w s.data.toList l r0 b gm pv ev iv wr) (fun _ _ iv _ => N - (intOf iv).toNat)
  case atStart => exact ⟨0, p0, Sough.kindMsg n, Nat.zero_le _, rfl, rfl, rfl, HWK.out, HR0.out, M3.out⟩
  case round =>
    obtain ⟨i, p, m, hi, rfl, rfl, rfl, hwf, hra, hM⟩ := hrel
    rw [← HN.out] at hi
    have M4 := Lib.hid hM; have HWF := Lib.hid hwf; have HRA := Lib.hid hra
    clear hM M3 hwf hra
    by_cases hlt : i < N
    · have hfl : i < l.length := by rw [← HN.out]; exact hlt
      obtain ⟨f, hf⟩ : ∃ f, f = l.getD i ⟨0, 0, 0⟩ := ⟨_, rfl⟩
      have hfe : f = l[i] := by rw [hf, List.getD_eq_getElem?_getD, List.getElem?_eq_getElem hfl]; rfl
      have hmem : f ∈ Sough.flds (n : Int) := by rw [← HL.out, hfe]; exact List.getElem_mem hfl
      have HMEM := Lib.hid hmem
      have hra := HRA.out
      rw [Sough.readAll_drop hfl, ← hfe] at hra
      have HWR := Lib.hid (Sough.Wf.read (f := f) (s := s.data.toList) (k := p) HWF.out)
      obtain ⟨x0, x1, c2, c3, c4, em⟩ := fldC5 b f
      have rm := row_cells (M4.out.get 1 rfl) hfl (by rw [← hf]; exact em)
      have M5 : Hid (Mem w _ (wr.alloc (.cells #[.int .u64 x0, .int .u64 x1, .pointer c2, .pointer c3, .pointer c4] 60))) := Lib.hid (M4.out.later ((Below.refl _ _).alloc (Nat.le_refl _) _))
      have CR := read_as (f := f) (k := p) (s := s) M5.out HD.out.2.2 (fun x hx => by
        simp only [List.mem_cons, List.not_mem_nil, or_false] at hx
        rcases hx with rfl | rfl
        · exact HD.out.1
        · exact HD.out.2.1) HMEM.out HSM.out
      rw [em] at CR
      have CR' := Lib.hid CR
      generalize hr : Sough.readF s.data.toList m p f = r at *
      obtain ⟨m', p', er'⟩ := r
      have HRA' := Lib.hid hra
      clear hf hfe hmem em hfl hra CR hr M5
      go_wp2_with fail
      generalize wr.alloc (.cells #[.int .u64 x0, .int .u64 x1, .pointer c2, .pointer c3, .pointer c4] 60) = W at *
      refine CR'.out.mono ?_
      rintro e w5 ⟨rfl, hM5⟩
      have M6 := Lib.hid hM5
      clear hM5 CR' rm
      by_cases he : er' = 0
      · subst he
        have hra := HRA'.out
        rw [if_pos rfl] at hra
        have HRB := Lib.hid hra
        clear hra
        go_wp2_with fail
        go_roundw
        case rel => exact ⟨i + 1, p', m', by rw [← HN.out]; omega, rfl, rfl, rfl, HWR.out, HRB.out, M6.out⟩
        case measure => simp [intOf]; omega
      · have hra := HRA'.out
        rw [if_neg he] at hra
        have hq := HQ.out
        subst hra
        rw [if_pos he] at hq
        subst hq
        have HE := Lib.hid he
        have hz : w5.heap[w.heap.size]? = some (.cells (msgC Sough.zeroMsg) 24 (0, 0)) := M6.out.get 2 rfl
        have MZ : Hid (Mem w [(w.heap.size, .cells #[.int .i64 0, .int .u64 0, .int .u64 0, .string ⟨#[]⟩, .int .i64 0, .int .i64 0, .int .i64 0, .int .i64 0, .int .i64 0, .int .i64 0, .int .i64 0, .int .u64 0, .int .u64 0] 24 (0, 0))] w5) := Lib.hid ((Mem.with ⟨M6.out.bel, fun _ h => absurd h (by simp)⟩ hz))
        have rz := MZ.out.rules; simp only [AllCells, CellsAt, Nat.zero_add, Nat.reduceAdd] at rz
        have HBL := Lib.hid (put13_below (m := Sough.zeroMsg) M6.out.bel (Nat.le_refl w.heap.size))
        have HZ := Lib.hid (cells13 (put13_heap (m := Sough.zeroMsg) hz))
        clear hz MZ
        go_wp2_with fail
        change bodyPost _ _ _ _ _ (put13 w5 w.heap.size Sough.zeroMsg)
        clear rz
        generalize put13 w5 w.heap.size Sough.zeroMsg = WW at *
        have rz := HZ.out
        refine bodyPost_ret (v := .tuple #[.agg #[.int .i64 0, .int .u64 0, .int .u64 0, .string ⟨#[]⟩, .int .i64 0, .int .i64 0, .int .i64 0, .int .i64 0, .int .i64 0, .int .i64 0, .int .i64 0, .int .u64 0, .int .u64 0], .int .i64 (er' : Nat)]) (by simp [results, Try.results10, go_sem, rz, Sough.zeroMsg]) rfl ?_
        exact ⟨rfl, HBL.out⟩
    · obtain rfl : i = N := by omega
      have hra := HRA.out
      rw [HN.out, List.drop_length] at hra
      have hq := HQ.out
      subst hra
      simp only [Sough.readAll, ne_eq, not_true_eq_false, if_false] at hq
      have hpl : ((p : Int) < (s.size : Int)) = (p < s.size) := by simp
      by_cases hp : p < s.size
      · simp only [hp, true_or, if_true] at hq
        subst hq
        have hz : wr.heap[w.heap.size]? = some (.cells (msgC Sough.zeroMsg) 24 (0, 0)) := M4.out.get 2 rfl
        have MZ : Hid (Mem w [(w.heap.size, .cells #[.int .i64 0, .int .u64 0, .int .u64 0, .string ⟨#[]⟩, .int .i64 0, .int .i64 0, .int .i64 0, .int .i64 0, .int .i64 0, .int .i64 0, .int .i64 0, .int .u64 0, .int .u64 0] 24 (0, 0))] wr) := Lib.hid ((Mem.with ⟨M4.out.bel, fun _ h => absurd h (by simp)⟩ hz))
        have rz := MZ.out.rules; simp only [AllCells, CellsAt, Nat.zero_add, Nat.reduceAdd] at rz
        have HBL := Lib.hid (put13_below (m := Sough.zeroMsg) M4.out.bel (Nat.le_refl w.heap.size))
        have HZ := Lib.hid (cells13 (put13_heap (m := Sough.zeroMsg) hz))
        clear hz MZ
        go_wp2_with fail
        change bodyPost _ _ _ _ _ (put13 wr w.heap.size Sough.zeroMsg)
        clear rz
        generalize put13 wr w.heap.size Sough.zeroMsg = WW at *
        have rz := HZ.out
        refine bodyPost_ret (v := .tuple #[.agg #[.int .i64 0, .int .u64 0, .int .u64 0, .string ⟨#[]⟩, .int .i64 0, .int .i64 0, .int .i64 0, .int .i64 0, .int .i64 0, .int .i64 0, .int .i64 0, .int .u64 0, .int .u64 0], .int .i64 (3 : Nat)]) (by simp [results, Try.results10, go_sem, rz, Sough.zeroMsg]) rfl ?_
        exact ⟨rfl, HBL.out⟩
      · have rx := cells13 (M4.out.get 0 rfl)
        obtain ⟨rb, hrb⟩ : ∃ rb, m.right = rb := ⟨_, rfl⟩
        have CQ := right_as hrb wr HWF.out
        unfold msgC at CQ
        have CQ' := Lib.hid CQ
        clear CQ
        go_wp2_with fail
        refine CQ'.out.mono ?_
        rintro e w6 ⟨rfl, hb6⟩
        have M6 := Lib.hid (M4.out.later hb6)
        clear hb6 CQ' rx
        cases rb
        · simp only [hrb, or_true, if_true] at hq
          subst hq
          clear hrb
          have hz : w6.heap[w.heap.size]? = some (.cells (msgC Sough.zeroMsg) 24 (0, 0)) := M6.out.get 2 rfl
          have MZ : Hid (Mem w [(w.heap.size, .cells #[.int .i64 0, .int .u64 0, .int .u64 0, .string ⟨#[]⟩, .int .i64 0, .int .i64 0, .int .i64 0, .int .i64 0, .int .i64 0, .int .i64 0, .int .i64 0, .int .u64 0, .int .u64 0] 24 (0, 0))] w6) := Lib.hid ((Mem.with ⟨M6.out.bel, fun _ h => absurd h (by simp)⟩ hz))
          have rz := MZ.out.rules; simp only [AllCells, CellsAt, Nat.zero_add, Nat.reduceAdd] at rz
          have HBL := Lib.hid (put13_below (m := Sough.zeroMsg) M6.out.bel (Nat.le_refl w.heap.size))
          have HZ := Lib.hid (cells13 (put13_heap (m := Sough.zeroMsg) hz))
          clear hz MZ
          go_wp2_with fail
          change bodyPost _ _ _ _ _ (put13 w6 w.heap.size Sough.zeroMsg)
          clear rz
          generalize put13 w6 w.heap.size Sough.zeroMsg = WW at *
          have rz := HZ.out
          refine bodyPost_ret (v := .tuple #[.agg #[.int .i64 0, .int .u64 0, .int .u64 0, .string ⟨#[]⟩, .int .i64 0, .int .i64 0, .int .i64 0, .int .i64 0, .int .i64 0, .int .i64 0, .int .i64 0, .int .u64 0, .int .u64 0], .int .i64 (3 : Nat)]) (by simp [results, Try.results10, go_sem, rz, Sough.zeroMsg]) rfl ?_
          exact ⟨rfl, HBL.out⟩
        · simp only [hp, hrb, Bool.true_eq_false, or_self, if_false] at hq
          subst hq
          clear hrb
          have rx := cells13 (M6.out.get 0 rfl)
          have hz : w6.heap[w.heap.size]? = some (.cells (msgC Sough.zeroMsg) 24 (0, 0)) := M6.out.get 2 rfl
          have MZ : Hid (Mem w [(w.heap.size, .cells #[.int .i64 0, .int .u64 0, .int .u64 0, .string ⟨#[]⟩, .int .i64 0, .int .i64 0, .int .i64 0, .int .i64 0, .int .i64 0, .int .i64 0, .int .i64 0, .int .u64 0, .int .u64 0] 24 (0, 0))] w6) := Lib.hid ((Mem.with ⟨M6.out.bel, fun _ h => absurd h (by simp)⟩ hz))
          have rz := MZ.out.rules; simp only [AllCells, CellsAt, Nat.zero_add, Nat.reduceAdd] at rz
          have HBL := Lib.hid (put13_below (m := m) M6.out.bel (Nat.le_refl w.heap.size))
          have HZ := Lib.hid (cells13 (put13_heap (m := m) hz))
          clear hz MZ
          go_wp2_with fail
          change bodyPost _ _ _ _ _ (put13 w6 w.heap.size m)
          clear rz rx
          generalize put13 w6 w.heap.size m = WW at *
          have rz := HZ.out
          refine bodyPost_ret (v := .tuple #[.agg #[.int .i64 (m.v 0), .int .u64 (m.v 1), .int .u64 (m.v 2), .string ⟨m.offer.toArray⟩, .int .i64 (m.v 4), .int .i64 (m.v 5), .int .i64 (m.v 6), .int .i64 (m.v 7), .int .i64 (m.v 8), .int .i64 (m.v 9), .int .i64 (m.v 10), .int .u64 (m.v 11), .int .u64 (m.v 12)], .int .i64 0]) (by simp [results, Try.results10, go_sem, rz]) rfl ?_
          exact ⟨rfl, HBL.out⟩

theorem dec_as {s : ByteArray} {r : Sough.Msg × Nat} (hr : Sough.decodeM s.data.toList = r) (w : World) (hs : s.size ≤ maxLen) : Calls Try.prog 10 #[.string s] w (DecTo w r) := by
  subst hr
  by_cases h : 4096 < s.size ∨ (Sough.get s.data.toList 0).2.2 ≠ 0 ∨ (Sough.get s.data.toList 0).1 < 1 ∨ 5 ≤ (Sough.get s.data.toList 0).1
  · exact dec_early w hs h
  · have hsz : s.data.toList.length = s.size := by simp
    have h1 : ¬ 4096 < s.size := fun x => h (.inl x)
    have h2 : (Sough.get s.data.toList 0).2.2 = 0 := Decidable.byContradiction fun x => h (.inr (.inl x))
    have h3 : ¬ (Sough.get s.data.toList 0).1 < 1 := fun x => h (.inr (.inr (.inl x)))
    have h4 : ¬ 5 ≤ (Sough.get s.data.toList 0).1 := fun x => h (.inr (.inr (.inr x)))
    refine dec_main (n := (Sough.get s.data.toList 0).1) (p0 := (Sough.get s.data.toList 0).2.1) w (by omega) (by rw [← h2]) (by omega) (by omega) rfl ?_
    symm
    unfold Sough.decodeM
    rw [if_neg (show ¬ 4096 < s.data.toList.length by omega), if_neg (show ¬ (Sough.get s.data.toList 0).2.2 ≠ 0 by rw [h2]; simp), if_neg (show ¬ ((Sough.get s.data.toList 0).1 < 1 ∨ 5 ≤ (Sough.get s.data.toList 0).1) by omega), hsz]

end Go.Proofs.Ytjoanlhdocoddaa
