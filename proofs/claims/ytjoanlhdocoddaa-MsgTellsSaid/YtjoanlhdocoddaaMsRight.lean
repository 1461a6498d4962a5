/- The walk of msg.Right. -/
import Derived.Test.YtjoanlhdocoddaaMsEq
import Derived.Test.YtjoanlhdocoddaaRegion
namespace Go.Proofs.Ytjoanlhdocoddaa
open Go.RowKit Go.Maps Go.ChangeMaps

theorem fldOk_num {m : Sough.Msg} {f : Sough.Fld} {k : Int} (hwf : m.Wf) (hf : f ∈ Sough.flds k) (h3 : f.c ≠ 3) : ∃ y : Nat, IntKind.u64.wrap (m.v f.c) = y ∧ y < 18446744073709551616 ∧ Sough.fldOk m f = (decide (f.lo ≤ y) && decide (y ≤ f.hi)) := by
  have hc := hwf.cell hf h3
  have hb := Sough.fld_bounds hf
  have hw : IntKind.u64.wrap (m.v f.c) = (m.v f.c) % 18446744073709551616 := IntKind.wrap_u64 _
  refine ⟨((m.v f.c) % 18446744073709551616).toNat, by omega, by omega, ?_⟩
  unfold Sough.fldOk
  rw [if_neg h3, Bool.eq_iff_iff]
  simp only [decide_eq_true_eq, Bool.and_eq_true]
  cases hu : Sough.u64cell f.c
  · have := hc.2 hu
    omega
  · have := hc.1 hu
    omega

/-- So many fields are right. -/
def RightR (w : World) (m : Sough.Msg) (bm gm : Nat) (iv : Value) (wr : World) : Prop :=
  ∃ i : Nat, i ≤ (Sough.flds (m.v 0)).length ∧ iv = .int .i64 i ∧ ((Sough.flds (m.v 0)).take i).all (Sough.fldOk m) = true ∧ Mem w [(gm, .cells (rowC bm (Sough.flds (m.v 0))) 60 (0, 0)), (bm, .cells (msgC m) 24 (0, 0))] wr

theorem right_false {m : Sough.Msg} {f : Sough.Fld} (hf : f ∈ Sough.flds (m.v 0)) (h : Sough.fldOk m f = false) : m.right = false := by
  unfold Sough.Msg.right
  have : (Sough.flds (m.v 0)).all (Sough.fldOk m) = false := by
    rw [List.all_eq_false]
    exact ⟨f, hf, by rw [h]; simp⟩
  rw [this]; simp


set_option maxRecDepth 100000 in
set_option maxHeartbeats 3200000 in
theorem right_some {m : Sough.Msg} (w : World) (hwf : m.Wf) (hne : Sough.flds (m.v 0) ≠ []) :
    Calls Try.prog 12 #[.agg (msgC m)] w fun e w' => e = .returned (.bool m.right) ∧ Below w.heap.size w w' := by
  have HWF := Lib.hid hwf; have HNE := Lib.hid hne
  have hk : (Lit.int .i64 (m.v 0)).wf = true := WalkArith.wf_i64 (hwf.ints 0 (by simp))
  have HK := Lib.hid hk
  have M0 : Hid (Mem w [(w.heap.size, .cells (msgC m) 24 (0, 0))] (w.alloc (.cells #[.int .i64 (m.v 0), .int .u64 (m.v 1), .int .u64 (m.v 2), .string ⟨m.offer.toArray⟩, .int .i64 (m.v 4), .int .i64 (m.v 5), .int .i64 (m.v 6), .int .i64 (m.v 7), .int .i64 (m.v 8), .int .i64 (m.v 9), .int .i64 (m.v 10), .int .u64 (m.v 11), .int .u64 (m.v 12)] 24))) := Lib.hid ((Mem.start w).alloc _)
  have hn8 := Sough.flds_len (m.v 0)
  clear hwf hk hne
  obtain ⟨res, hres⟩ : ∃ res, res = m.right := ⟨_, rfl⟩
  have HRES := Lib.hid hres
  rw [← hres]
  clear hres
  unfold msgC
  go_enter Try.func12, Try.ntmps12
  go_wp2_with fail
  generalize w.alloc (.cells #[.int .i64 (m.v 0), .int .u64 (m.v 1), .int .u64 (m.v 2), .string ⟨m.offer.toArray⟩, .int .i64 (m.v 4), .int .i64 (m.v 5), .int .i64 (m.v 6), .int .i64 (m.v 7), .int .i64 (m.v 8), .int .i64 (m.v 9), .int .i64 (m.v 10), .int .u64 (m.v 11), .int .u64 (m.v 12)] 24) = W1 at *
  refine (fields_any (m := m) W1 (M0.out.get 0 rfl) HK.out).mono ?_
  rintro e w2 ⟨hb2, h2⟩
  rcases h2 with ⟨h2, _⟩ | ⟨_, gm, rfl, hgm1, hgm2⟩
  · exact absurd h2 HNE.out
  have hl1 := M0.out.lt 0 rfl
  have M2 : Hid (Mem w [(gm, .cells (rowC w.heap.size (Sough.flds (m.v 0))) 60 (0, 0)), (w.heap.size, .cells (msgC m) 24 (0, 0))] w2) := Lib.hid ((M0.out.later hb2).with hgm2)
  clear hb2 hgm1 hgm2 M0 hl1
  obtain ⟨n, hn⟩ : ∃ n, n = (Sough.flds (m.v 0)).length := ⟨_, rfl⟩
  have HN := Lib.hid hn
  rw [← hn]
  rw [← hn] at hn8
  clear hn
  go_wp2_with fail
  go_loopw [9] (fun iv wr => RightR w m w.heap.size gm iv wr) (fun iv _ => n - (intOf iv).toNat)
  case atStart => exact ⟨0, Nat.zero_le _, rfl, rfl, M2.out⟩
  case round =>
    obtain ⟨i, hi, rfl, hok, hM⟩ := hrel
    rw [← HN.out] at hi
    have M3 := Lib.hid hM; have HOK := Lib.hid hok
    clear hM M2 hok
    by_cases hlt : i < n
    · have hfl : i < (Sough.flds (m.v 0)).length := by rw [← HN.out]; exact hlt
      obtain ⟨f, hf⟩ : ∃ f, f = (Sough.flds (m.v 0)).getD i ⟨0, 0, 0⟩ := ⟨_, rfl⟩
      have hfe : f = (Sough.flds (m.v 0))[i] := by rw [hf, List.getD_eq_getElem?_getD, List.getElem?_eq_getElem hfl]; rfl
      have hmem : f ∈ Sough.flds (m.v 0) := by rw [hfe]; exact List.getElem_mem hfl
      have htake : (Sough.flds (m.v 0)).take (i + 1) = (Sough.flds (m.v 0)).take i ++ [f] := by rw [List.take_succ_eq_append_getElem hfl, hfe]
      have HF := Lib.hid hf; have HMEM := Lib.hid hmem; have HT := Lib.hid htake
      have hnext : ∀ wr', Sough.fldOk m f = true → Mem w _ wr' → RightR w m w.heap.size gm (.int .i64 (i + 1 : Nat)) wr' := fun wr' ho hM => ⟨i + 1, by rw [← HN.out]; omega, rfl, by rw [HT.out, List.all_append, HOK.out]; simp [ho], hM⟩
      have HNEXT := Lib.hid hnext
      clear hnext
      by_cases h3 : f.c = 3
      · have em : fldC w.heap.size ((Sough.flds (m.v 0)).getD i ⟨0, 0, 0⟩) = [.int .u64 0, .int .u64 0, .pointer none, .pointer none, .pointer (some ⟨w.heap.size, 3, none⟩)] := by rw [← hf]; unfold fldC; rw [if_pos h3]
        have rm := row_cells (M3.out.get 0 rfl) hfl em
        have H3 := Lib.hid h3
        clear hf hfe hmem htake em h3 hfl
        have mt := msg_text (M3.out.get 1 rfl)
        have hbl := M3.out.lt 1 rfl
        have mt' : (wr.alloc (.cells #[.int .u64 0, .int .u64 0, .pointer none, .pointer none, .pointer (some ⟨w.heap.size, 3, none⟩)] 60)).cell? ⟨w.heap.size, 3, none⟩ = _ := (((Below.refl wr.heap.size wr).alloc (Nat.le_refl _) (.cells #[.int .u64 0, .int .u64 0, .pointer none, .pointer none, .pointer (some ⟨w.heap.size, 3, none⟩)] 60)).cell (p := ⟨w.heap.size, 3, none⟩) hbl).trans mt
        clear mt hbl
        go_wp2_with fail
        have M4 : Hid (Mem w _ (wr.alloc (.cells #[.int .u64 0, .int .u64 0, .pointer none, .pointer none, .pointer (some ⟨w.heap.size, 3, none⟩)] 60))) := Lib.hid (M3.out.later ((Below.refl _ _).alloc (Nat.le_refl _) _))
        clear rm mt'
        generalize wr.alloc (.cells #[.int .u64 0, .int .u64 0, .pointer none, .pointer none, .pointer (some ⟨w.heap.size, 3, none⟩)] 60) = W at *
        obtain ⟨b, hb⟩ : ∃ b, Sough.offerOk m.offer = b := ⟨_, rfl⟩
        have hfo : Sough.fldOk m f = b := by unfold Sough.fldOk; rw [if_pos H3.out]; exact hb
        refine (offer_any (l := m.offer) rfl hb W (show (⟨m.offer.toArray⟩ : ByteArray).size ≤ maxLen from HWF.out.text)).mono ?_
        rintro e w3 ⟨rfl, rfl⟩
        cases b
        · have hrf : res = false := HRES.out.trans (right_false HMEM.out hfo)
          clear hfo hb
          go_wp2_with fail
          go_ret
          exact ⟨ret_bool hrf.symm, M4.out.bel⟩
        · have HNX := Lib.hid (HNEXT.out _ hfo M4.out)
          clear hfo hb
          go_wp2_with fail
          go_roundw
          case rel => exact HNX.out
          case measure => simp [intOf]; omega
      · obtain ⟨y, hy1, hy2, hy3⟩ := fldOk_num HWF.out hmem h3
        obtain ⟨c2, c3, em⟩ : ∃ c2 c3, fldC w.heap.size f = [.int .u64 f.lo, .int .u64 f.hi, .pointer c2, .pointer c3, .pointer none] := by unfold fldC; rw [if_neg h3]; split <;> exact ⟨_, _, rfl⟩
        have rm := row_cells (M3.out.get 0 rfl) hfl (by rw [← hf]; exact em)
        have H3 := Lib.hid h3; have HEM := Lib.hid em
        have HXC := Lib.hid (HWF.out.cell hmem h3)
        have HY := Lib.hid hy1
        have hlo := Sough.fld_bounds hmem
        obtain ⟨lo, hlo'⟩ : ∃ x, x = f.lo := ⟨_, rfl⟩
        obtain ⟨hi', hhi'⟩ : ∃ x, x = f.hi := ⟨_, rfl⟩
        rw [← hlo', ← hhi'] at hy3
        have hb1 : lo ≤ 1 := by omega
        have hb2 : hi' ≤ 4294967296 := by omega
        have HLO := Lib.hid hlo'; have HHI := Lib.hid hhi'
        rw [← hlo', ← hhi'] at rm
        clear hf hfe hmem htake em h3 hfl hy1 hlo hlo' hhi'
        go_wp2_with fail
        have M4 : Hid (Mem w _ (wr.alloc (.cells #[.int .u64 lo, .int .u64 hi', .pointer c2, .pointer c3, .pointer none] 60))) := Lib.hid (M3.out.later ((Below.refl _ _).alloc (Nat.le_refl _) _))
        have bx := heap_alloc_new wr (.cells #[.int .u64 lo, .int .u64 hi', .pointer c2, .pointer c3, .pointer none] 60)
        clear rm
        generalize wr.alloc (.cells #[.int .u64 lo, .int .u64 hi', .pointer c2, .pointer c3, .pointer none] 60) = W at *
        have rf := fun x : Later W => cells5 ((x.below.block _ (lt_of_block bx)).trans bx)
        have CG : Hid (∀ x : Later W, Calls Try.prog 28 #[.agg #[.int .u64 lo, .int .u64 hi', .pointer c2, .pointer c3, .pointer none]] x.world fun e w' => e = .returned (.int .u64 y) ∧ Below x.world.heap.size x.world w') := Lib.hid fun x => by
          have := get_num (b := w.heap.size) (f := f) (x := m.v f.c) x.world H3.out (msg_cell ((M4.out.later x.below).get 1 rfl) HMEM.out H3.out) (fun hu => HXC.out.1 hu)
          rw [HEM.out, HY.out] at this
          rw [HLO.out, HHI.out]
          exact this
        clear bx
        by_cases g1 : y < lo
        · have d1 : decide (y < lo) = true := decide_eq_true g1
          have hrf : res = false := HRES.out.trans (right_false HMEM.out (by rw [hy3, decide_eq_false (show ¬ lo ≤ y by omega)]; rfl))
          clear hy3
          refine wp_region_later (by kernel_rfl) (by kernel_rfl) ?_
          repeat go_big_quiet_step (exact Calls.later (CG.out _))
          refine wpQuiet_nil ?_
          rintro ⟨w3, hb3⟩
          change Exit.then _ _ _ _ w3
          have M5 := Lib.hid (M4.out.later hb3)
          clear hb3
          clear rf
          go_wp2_with fail
          go_ret
          exact ⟨ret_bool hrf.symm, M5.out.bel⟩
        · have d1 : decide (y < lo) = false := decide_eq_false g1
          by_cases g2 : hi' < y
          · have d2 : decide (hi' < y) = true := decide_eq_true g2
            have hrf : res = false := HRES.out.trans (right_false HMEM.out (by rw [hy3, decide_eq_false (show ¬ y ≤ hi' by omega), Bool.and_false]))
            clear hy3
            refine wp_region_later (by kernel_rfl) (by kernel_rfl) ?_
            repeat go_big_quiet_step (exact Calls.later (CG.out _))
            refine wpQuiet_nil ?_
            rintro ⟨w3, hb3⟩
            change Exit.then _ _ _ _ w3
            have M5 := Lib.hid (M4.out.later hb3)
            clear hb3
            clear rf
            go_wp2_with fail
            go_ret
            exact ⟨ret_bool hrf.symm, M5.out.bel⟩
          · have d2 : decide (hi' < y) = false := decide_eq_false g2
            have ho : Sough.fldOk m f = true := by rw [hy3, decide_eq_true (show lo ≤ y by omega), decide_eq_true (show y ≤ hi' by omega)]; rfl
            have HO := Lib.hid ho
            clear hy3 ho
            refine wp_region_later (by kernel_rfl) (by kernel_rfl) ?_
            repeat go_big_quiet_step (exact Calls.later (CG.out _))
            refine wpQuiet_nil ?_
            rintro ⟨w3, hb3⟩
            change Exit.then _ _ _ _ w3
            have M5 := Lib.hid (M4.out.later hb3)
            clear hb3
            clear rf
            have HNX := Lib.hid (HNEXT.out _ HO.out M5.out)
            go_wp2_with fail
            go_roundw
            case rel => exact HNX.out
            case measure => simp [intOf]; omega
    · obtain rfl : i = n := by omega
      rw [HN.out, List.take_length] at HOK
      have hall := HOK.out
      have hr : ∀ f ∈ Sough.flds (m.v 0), f.c ≠ 3 → 0 ≤ m.v f.c ∧ m.v f.c < 9223372036854775808 := fun f hf h3 => by
        have := List.all_eq_true.1 hall f hf
        unfold Sough.fldOk at this
        rw [if_neg h3, decide_eq_true_eq] at this
        have hb := Sough.fld_bounds hf
        omega
      have hme : res = m.same (Sough.onlyL m (Sough.flds (m.v 0))) := by
        rw [HRES.out]
        unfold Sough.Msg.right
        rw [hall]
        have : (Sough.flds (m.v 0)).isEmpty = false := by simpa using HNE.out
        rw [this]; rfl
      have CO : Hid (∀ x : Later wr, Calls Try.prog 29 #[.agg #[.int .i64 (m.v 0), .int .u64 (m.v 1), .int .u64 (m.v 2), .string ⟨m.offer.toArray⟩, .int .i64 (m.v 4), .int .i64 (m.v 5), .int .i64 (m.v 6), .int .i64 (m.v 7), .int .i64 (m.v 8), .int .i64 (m.v 9), .int .i64 (m.v 10), .int .u64 (m.v 11), .int .u64 (m.v 12)]] x.world fun e w' => e = .returned (.agg (msgC (Sough.onlyL m (Sough.flds (m.v 0))))) ∧ Below x.world.heap.size x.world w') := Lib.hid fun x => only_any x.world HWF.out HNE.out hr
      clear hall hr
      obtain ⟨q, hq⟩ : ∃ q, q = Sough.onlyL m (Sough.flds (m.v 0)) := ⟨_, rfl⟩
      rw [← hq] at CO hme
      have HME := Lib.hid hme
      clear hq hme
      have rx := fun x : Later wr => cells13 ((M3.out.later x.below).get 1 rfl)
      unfold msgC at CO
      have EQ := eqMsg m q
      have EG : Try.prog.eqGuardType Try.prog.depth 24 = false := by kernel_rfl
      go_wp2_with fail
      refine wp_region_later (by kernel_rfl) (by kernel_rfl) ?_
      repeat go_big_quiet_step (exact Calls.later (CO.out _))
      refine wpQuiet_nil ?_
      rintro ⟨w3, hb3⟩
      change Exit.then _ _ _ _ w3
      rw [← HME.out]
      have HB := Lib.hid (M3.out.bel.trans (hb3.mono M3.out.bel.size))
      clear rx hb3 EQ EG M3
      go_wp2_with fail
      go_ret
      exact ⟨rfl, HB.out⟩

set_option maxRecDepth 100000 in
set_option maxHeartbeats 1600000 in
theorem right_none {m : Sough.Msg} (w : World) (hwf : m.Wf) (hne : Sough.flds (m.v 0) = []) :
    Calls Try.prog 12 #[.agg (msgC m)] w fun e w' => e = .returned (.bool false) ∧ Below w.heap.size w w' := by
  have HNE := Lib.hid hne
  have hk : (Lit.int .i64 (m.v 0)).wf = true := WalkArith.wf_i64 (hwf.ints 0 (by simp))
  have HK := Lib.hid hk
  have M0 : Hid (Mem w [(w.heap.size, .cells (msgC m) 24 (0, 0))] (w.alloc (.cells #[.int .i64 (m.v 0), .int .u64 (m.v 1), .int .u64 (m.v 2), .string ⟨m.offer.toArray⟩, .int .i64 (m.v 4), .int .i64 (m.v 5), .int .i64 (m.v 6), .int .i64 (m.v 7), .int .i64 (m.v 8), .int .i64 (m.v 9), .int .i64 (m.v 10), .int .u64 (m.v 11), .int .u64 (m.v 12)] 24))) := Lib.hid ((Mem.start w).alloc _)
  clear hwf hk hne
  unfold msgC
  go_enter Try.func12, Try.ntmps12
  go_wp2_with fail
  generalize w.alloc (.cells #[.int .i64 (m.v 0), .int .u64 (m.v 1), .int .u64 (m.v 2), .string ⟨m.offer.toArray⟩, .int .i64 (m.v 4), .int .i64 (m.v 5), .int .i64 (m.v 6), .int .i64 (m.v 7), .int .i64 (m.v 8), .int .i64 (m.v 9), .int .i64 (m.v 10), .int .u64 (m.v 11), .int .u64 (m.v 12)] 24) = W1 at *
  refine (fields_any (m := m) W1 (M0.out.get 0 rfl) HK.out).mono ?_
  rintro e w2 ⟨hb2, h2⟩
  rcases h2 with ⟨_, rfl⟩ | ⟨h2, _⟩
  case inr => exact absurd HNE.out h2
  have HB : Hid (Below w.heap.size w w2) := Lib.hid (M0.out.later hb2).bel
  clear hb2 M0
  go_wp2_with fail
  go_loopw [9] (fun iv wr => iv = .int .i64 0 ∧ wr = w2) (fun _ _ => 0)
  case atStart => exact ⟨rfl, rfl⟩
  case round =>
    obtain ⟨rfl, rfl⟩ := hrel
    go_wp2_with fail
    refine wp_region_later (by kernel_rfl) (by kernel_rfl) ?_
    repeat go_big_quiet_step (fail)
    refine wpQuiet_nil ?_
    rintro ⟨w3, hb3⟩
    change Exit.then _ _ _ _ w3
    have HB3 := Lib.hid (HB.out.trans (hb3.mono HB.out.size))
    clear hb3
    go_wp2_with fail
    go_ret
    exact ⟨rfl, HB3.out⟩

theorem right_as {m : Sough.Msg} {b : Bool} (hb : m.right = b) (w : World) (hwf : m.Wf) : Calls Try.prog 12 #[.agg (msgC m)] w fun e w' => e = .returned (.bool b) ∧ Below w.heap.size w w' := by
  subst hb
  by_cases hne : Sough.flds (m.v 0) = []
  · have : m.right = false := by unfold Sough.Msg.right; rw [hne]; rfl
    rw [this]
    exact right_none w hwf hne
  · exact right_some w hwf hne

end Go.Proofs.Ytjoanlhdocoddaa
