/- The walk of all (layer 8). -/
import Derived.Test.YtlfgempjjoclbaaLKnWay
import Derived.Test.YtlfgempjjoclbaaG2
namespace Go.Proofs.Ytlfgempjjoclbaa
open Go.RowKit Go.Maps Go.ChangeMaps
theorem Exit.fwd_normal {P : Program} {l : Nat} {rest : Code} {Q : Exit → Act → World → Prop} {a : Act} {w : World} (h : Q .normal a w) : Exit.fwd P l rest Q .normal a w := h
def termsC (st : Sough.Store) (n : Nat) : List Value := ((List.range n).map fun (i : Nat) => st.at i).flatMap termC
structure AllR (w0 : World) (mp lb cb pb kb mb n wb : Nat) (st : Sough.Store) (f : Sough.Flg) (can : List Bool) (wr : World) : Prop where
  mind : MindIn wr mp lb cb pb kb mb n st f can
  box : BoxAt wr mb st n
  lst : wr.heap[lb]? = some (.cells (termsC st n).toArray 76 (0, 0))
  ways : wr.heap[wb]? = some (.cells waysC 146 (0, 0))
  tur : Turned [cb] w0 wr
section
variable {w0 w w' : World} {mp lb cb pb kb mb n wb : Nat} {st : Sough.Store} {f : Sough.Flg} {can can' : List Bool}
theorem AllR.turned (h : AllR w0 mp lb cb pb kb mb n wb st f can w) (ht : Turned [cb] w w') (hm : MindIn w' mp lb cb pb kb mb n st f can') : AllR w0 mp lb cb pb kb mb n wb st f can' w' := by
  have n1 : lb ≠ cb := by rintro rfl; have := h.lst.symm.trans h.mind.cans; simp at this
  have n2 : wb ≠ cb := by rintro rfl; have := h.ways.symm.trans h.mind.cans; simp at this
  have k := fun {i : Nat} {o : Obj} (hn : i ≠ cb) (hh : w.heap[i]? = some o) => (ht.block i (lt_of_block hh) (by simpa using hn)).trans hh
  exact ⟨hm, h.box.turned ht h.mind.cans, k n1 h.lst, k n2 h.ways, h.tur.on ht⟩
theorem AllR.later (h : AllR w0 mp lb cb pb kb mb n wb st f can w) (hb : Below w.heap.size w w') : AllR w0 mp lb cb pb kb mb n wb st f can w' := h.turned (Turned.below hb) (h.mind.later hb)
theorem AllR.term (h : AllR w0 mp lb cb pb kb mb n wb st f can w) {i : Nat} (hi : i < n) (j : Nat) (hj : j < 6) (v : Value) (hv : (termC (st.at i))[j]? = some v) : w.cell? ⟨lb, i * 6 + j, none⟩ = some v := by
  have h1 : (termsC st n)[i * 6 + j]? = some v := by
    unfold termsC
    rw [flat6 i j hj _ (by simpa using hi)]
    simpa using hv
  have h2 := h.lst
  simp [World.cell?, h2, h1]
theorem AllR.set (h : AllR w0 mp lb cb pb kb mb n wb st f can w) {x : Nat} : AllR w0 mp lb cb pb kb mb n wb st f (can.set x true) (w.setCell ⟨cb, x, none⟩ (.bool true)) :=
  have ht : Turned [cb] w (w.setCell ⟨cb, x, none⟩ (.bool true)) := Turned.setCell (a := ⟨cb, x, none⟩) (by simp) _
  h.turned ht (h.mind.turned ht h.mind.set (by simp [h.mind.len]))
def lackOf (w : World) (cb : Nat) : Nat := match w.heap[cb]? with
  | some (.cells cs _ _) => cs.toList.countP fun v => match v with | .bool false => true | _ => false
  | _ => 0
theorem AllR.lack (h : AllR w0 mp lb cb pb kb mb n wb st f can w) : lackOf w cb = can.count false := by
  unfold lackOf
  rw [h.mind.cans]
  simp only
  rw [List.countP_map]
  unfold List.count
  refine List.countP_congr ?_
  intro b _
  cases b <;> simp
def AllO (w0 : World) (mp lb cb pb kb mb n wb : Nat) (st : Sough.Store) (f : Sough.Flg) (fin : List Bool) (wr : World) : Prop :=
  ∃ can, AllR w0 mp lb cb pb kb mb n wb st f can wr ∧ Sough.allK st f (can.count false + 1) can = fin
def AllI (w0 : World) (mp lb cb pb kb mb n wb : Nat) (st : Sough.Store) (f : Sough.Flg) (fin : List Bool × Bool) (mv iv : Value) (wr : World) : Prop :=
  ∃ (i : Nat) (can : List Bool) (more : Bool), iv = .int .i64 i ∧ mv = .bool more ∧ 1 ≤ i ∧ i ≤ n ∧ AllR w0 mp lb cb pb kb mb n wb st f can wr ∧ Sough.roundK st f (n - i) i can more = fin
set_option maxRecDepth 100000 in
set_option maxHeartbeats 1600000 in
theorem all_any (h : MindIn w mp lb cb pb kb mb n st f can) (hbx : BoxAt w mb st n) (hls : w.heap[lb]? = some (.cells (termsC st n).toArray 76 (0, 0))) (hok : st.Ok) : Calls Try.prog 50 #[.pointer (some ⟨mp, 0, none⟩)] w fun e w' => e = .returned (.tuple #[]) ∧ MindIn w' mp lb cb pb kb mb n st f (Sough.allK st f (n + 1) can) ∧ Turned [cb] w w' := by
  have CM := Lib.hid makes_any
  have HM := Lib.hid h; have HBX := Lib.hid hbx; have HLS := Lib.hid hls
  have HN : Hid (n = st.l.length + 1 ∧ n ≤ 1048577) := Lib.hid ⟨h.all, by have := h.all; have := hok.most; have := hok.len; omega⟩
  have HOK := Lib.hid hok
  clear h hbx hls hok
  go_enter Try.func50, Try.ntmps50
  refine wp_scope_forward 0 rfl ?_
  go_wp2_with fail
  refine (CM.out _).mono ?_
  rintro e w1 ⟨rfl, hb1⟩
  have HB1 := Lib.hid hb1
  clear hb1
  have HMW := Lib.hid (HM.out.later HB1.out)
  have HBW := Lib.hid (HBX.out.later HB1.out)
  have HLW := Lib.hid ((HB1.out.block _ (lt_of_block HLS.out)).trans HLS.out)
  have HB2 := Lib.hid (((Below.refl _ w1).alloc (Nat.le_refl _) (.cells waysC 146)))
  have HW2 := Lib.hid (heap_alloc_new w1 (.cells waysC 146))
  have HA : Hid (AllO w mp lb cb pb kb mb n w1.heap.size st f (Sough.allK st f (n + 1) can) (w1.alloc (.cells waysC 146))) := Lib.hid ⟨can, ⟨HMW.out.later HB2.out, HBW.out.later HB2.out, (HB2.out.block _ (lt_of_block HLW.out)).trans HLW.out, HW2.out, (Turned.below HB1.out).on (Turned.below HB2.out)⟩, Sough.allK_fuel (fun i => (Sough.names_at HOK.out i).1) _ _ _ (HM.out.len.trans HN.out.1) (by omega) (by have := List.count_le_length (l := can) (a := false); have := HM.out.len; omega)⟩
  generalize hwb : w1.heap.size = wb at HA HW2
  unfold waysC wayOf at HA
  unfold waysC wayOf
  go_wp2_with fail
  go_step3
  generalize (w1.alloc _) = w2 at HA
  go_wp2_with fail
  clear hwb HW2 HB2 HLW HBW HMW CM
  go_loopw [3] (fun _ wr => AllO w mp lb cb pb kb mb n wb st f (Sough.allK st f (n + 1) can) wr) (fun _ wr => lackOf wr cb)
  case atStart => exact HA.out
  case round =>
    obtain ⟨c0, hA, hfin⟩ := hrel
    have HA0 := Lib.hid hA
    have HF0 := Lib.hid hfin
    have HW0 : Hid (lackOf wr cb = c0.count false) := Lib.hid hA.lack
    clear hA hfin
    go_wp2_with fail
    obtain ⟨R, hRR⟩ : ∃ R, Sough.roundK st f (n - 1) 1 c0 false = R := ⟨_, rfl⟩
    have HI : Hid (AllI w mp lb cb pb kb mb n wb st f R (.bool false) (.int .i64 1) wr) := Lib.hid ⟨1, c0, false, rfl, rfl, Nat.le_refl _, by have := HN.out.1; omega, HA0.out, hRR⟩
    have HRR := Lib.hid hRR
    clear hRR
    go_loopw [3, 4] (fun mv iv wr => AllI w mp lb cb pb kb mb n wb st f R mv iv wr) (fun _ iv _ => n - (intOf iv).toNat)
    case atStart => exact HI.out
    case round =>
      obtain ⟨i, c1, more, rfl, rfl, h1, h2, hA, hR⟩ := hrel
      have hn9 := HN.out.2
      by_cases hlt : i < n
      · obtain ⟨tk, ta, tb, tc, tn, ts, ht, ha, hb, hc, hk⟩ := Sough.term_at HOK.out i
        rw [← HN.out.1] at ha hb hc
        obtain ⟨hk1, hk2⟩ := hk ⟨h1, by have := HN.out.1; omega⟩
        have HTT := Lib.hid ht
        have HA1 := Lib.hid hA
        have HR1 := Lib.hid hR
        have hcell := fun (j : Nat) (hj : j < 6) (v : Value) (hv : (termC (st.at i))[j]? = some v) => hA.term hlt j hj v hv
        rw [ht] at hcell
        have r0 := hcell 0 (by omega) _ rfl
        have r1 := hcell 1 (by omega) _ rfl
        have r2 := hcell 2 (by omega) _ rfl
        have r3 := hcell 3 (by omega) _ rfl
        have r4 := hcell 4 (by omega) _ rfl
        have r5 := hcell 5 (by omega) _ rfl
        simp only [Nat.add_zero] at r0
        have zm0 := hA.mind.mind
        have hmp := lt_of_block hA.mind.box
        have hlb := lt_of_block hA.lst
        clear hcell hA hR ht hk
        go_wp2_with fail
        have HA2 := Lib.hid (HA1.out.later ((Below.refl _ wr).alloc (Nat.le_refl _) (.cells #[.int .i64 tk, .string ⟨ts.toArray⟩, .int .u64 tn, .int .i64 ta, .int .i64 tb, .int .i64 tc] 76)))
        have HT2 := Lib.hid (heap_alloc_new wr (.cells #[.int .i64 tk, .string ⟨ts.toArray⟩, .int .u64 tn, .int .i64 ta, .int .i64 tb, .int .i64 tc] 76))
        clear r0 r1 r2 r3 r4 r5 zm0
        have zm := fun z : Later (wr.alloc (.cells #[.int .i64 tk, .string ⟨ts.toArray⟩, .int .u64 tn, .int .i64 ta, .int .i64 tb, .int .i64 tc] 76)) => (HA2.out.mind.later z.below).mind.2.1
        have zt := fun z : Later (wr.alloc (.cells #[.int .i64 tk, .string ⟨ts.toArray⟩, .int .u64 tn, .int .i64 ta, .int .i64 tb, .int .i64 tc] 76)) => cells_of6 ((z.below.block _ (lt_of_block HT2.out)).trans HT2.out)
        obtain ⟨fn, hfn, hcf, CW0⟩ := way_any (mp := mp) (lb := lb) (cb := cb) (pb := pb) (kb := kb) (mb := mb) (st := st) (f := f) (can := c1) (ts := ts) (tn := tn) hn9 ha hb hc hk1 hk2
        have zw : ∀ z : Later (wr.alloc (.cells #[.int .i64 tk, .string ⟨ts.toArray⟩, .int .u64 tn, .int .i64 ta, .int .i64 tb, .int .i64 tc] 76)), z.world.cell? ⟨wb, tk, none⟩ = some (.func (.func fn) #[] #[]) := fun z => by
          have h2 := (z.below.block _ (lt_of_block HA2.out.ways)).trans HA2.out.ways
          simp [World.cell?, h2, hfn, wayOf]
        obtain ⟨v, hv⟩ : ∃ v, Sough.wayK st f c1 (st.at i) = v := ⟨_, rfl⟩
        have HV := Lib.hid hv
        rw [HTT.out] at hv
        have CW : ∀ z : Later (wr.alloc (.cells #[.int .i64 tk, .string ⟨ts.toArray⟩, .int .u64 tn, .int .i64 ta, .int .i64 tb, .int .i64 tc] 76)), Calls Try.prog fn #[.pointer (some ⟨mp, 0, none⟩), .agg #[.int .i64 tk, .string ⟨ts.toArray⟩, .int .u64 tn, .int .i64 ta, .int .i64 tb, .int .i64 tc]] z.world fun e w' => e = .returned (.bool v) ∧ Below z.world.heap.size z.world w' := fun z => by rw [← hv]; exact CW0 z.world (HA2.out.later z.below).mind (HA2.out.later z.below).box
        have CW := Lib.hid CW
        have HCF := Lib.hid hcf
        clear hv CW0 hfn hcf
        obtain ⟨c, hc0⟩ : ∃ c, Sough.cn c1 i = c := ⟨_, rfl⟩
        have z1 : ∀ z : Later (wr.alloc (.cells #[.int .i64 tk, .string ⟨ts.toArray⟩, .int .u64 tn, .int .i64 ta, .int .i64 tb, .int .i64 tc] 76)), z.world.cell? ⟨cb, i, none⟩ = some (.bool c) := fun z => by rw [← hc0]; exact (HA2.out.later z.below).mind.cell hlt
        have HC := Lib.hid hc0
        clear hc0
        cases c
        · refine wp_region_later (by kernel_rfl) (by kernel_rfl) ?_
          iterate 15 go_big_quiet_step (fail)
          go_big_quiet_step ((rw [HCF.out]; exact ⟨rfl, Calls.later (CW.out _)⟩))
          go_big_quiet_step (fail)
          refine wpQuiet_nil ?_
          rintro ⟨wq, hbq⟩
          change Exit.then _ _ _ _ wq
          have HA3 := Lib.hid (HA2.out.later hbq)
          have HT3 := Lib.hid ((hbq.block _ (lt_of_block HT2.out)).trans HT2.out)
          clear z1 zw zt zm hbq CW
          have zm := HA3.out.mind.mind.2.1
          have zt := cells_of6 HT3.out
          have z1 : wq.cell? ⟨cb, i, none⟩ = some (.bool false) := by rw [← HC.out]; exact HA3.out.mind.cell hlt
          have zf : wq.frozen? ⟨cb, i, none⟩ = false := by simp [World.frozen?, HA3.out.mind.cans]
          have hcb := lt_of_block HA3.out.mind.cans
          cases v
          · have HST : Sough.stepK st f c1 i = (c1, false) := Sough.stepK_no HC.out HV.out
            have HR : Hid (AllI w mp lb cb pb kb mb n wb st f R (.bool (more)) (.int .i64 ((i : Int) + 1)) _) := Lib.hid ⟨i + 1, _, more, by push_cast; rfl, rfl, by omega, by omega, HA3.out, by have := Sough.roundK_step hlt HR1.out HST; simpa using this⟩
            clear HST
            go_wp2_with fail
            go_roundw
            case rel => exact HR.out
            case measure => simp [intOf]; omega
          · have HA5 := Lib.hid (HA3.out.set (x := i))
            have hw5 : wr.heap.size ≠ cb := by rintro e; have := HT3.out; rw [e, HA3.out.mind.cans] at this; simp at this
            have HT5 := Lib.hid ((Below.heap_setCell wq ⟨cb, i, none⟩ (.bool true) wr.heap.size hw5).trans HT3.out)
            have hlen5 : i < c1.length := by rw [HA3.out.mind.len]; exact hlt
            have zm5 := HA5.out.mind.mind.2.1
            have zt5 := cells_of6 HT5.out
            have z15 : (wq.setCell ⟨cb, i, none⟩ (.bool true)).cell? ⟨cb, i, none⟩ = some (.bool true) := by have := HA5.out.mind.cell hlt; rw [Sough.cn_set hlen5] at this; exact this
            clear zt
            have CP := Lib.hid (apart_any (tk := tk) (tn := tn) (ts := ts) HA5.out.mind ha hb hc)
            obtain ⟨b, hb'⟩ : ∃ b, (Sough.apartK (c1.set i true) ⟨tk, ts, tn, ta, tb, tc⟩).2 = b := ⟨_, rfl⟩
            have HB' := Lib.hid hb'
            rw [hb'] at CP
            clear hb'
            go_wp2_with fail
            refine CP.out.mono ?_
            rintro e w3 ⟨rfl, hm3, ht3⟩
            have HA4 := Lib.hid (HA5.out.turned ht3 hm3)
            clear hm3 ht3 CP
            cases b
            all_goals
              have HST : Sough.stepK st f c1 i = ((Sough.apartK (c1.set i true) ⟨tk, ts, tn, ta, tb, tc⟩).1, true) := by rw [Sough.stepK_way HC.out HV.out hlen5, HTT.out]
              have HR : Hid (AllI w mp lb cb pb kb mb n wb st f R (.bool (true)) (.int .i64 ((i : Int) + 1)) _) := Lib.hid ⟨i + 1, _, true, by push_cast; rfl, rfl, by omega, by omega, HA4.out, by have := Sough.roundK_step hlt HR1.out HST; simpa using this⟩
              clear HST
              go_wp2_with fail
              go_roundw
              case rel => exact HR.out
              case measure => simp [intOf]; omega
        · refine wp_region_later (by kernel_rfl) (by kernel_rfl) ?_
          iterate 17 go_big_quiet_step (fail)
          refine wpQuiet_nil ?_
          rintro ⟨wq, hbq⟩
          change Exit.then _ _ _ _ wq
          have HA3 := Lib.hid (HA2.out.later hbq)
          have HT3 := Lib.hid ((hbq.block _ (lt_of_block HT2.out)).trans HT2.out)
          clear z1 zw zt zm hbq CW
          have zm := HA3.out.mind.mind.2.1
          have zt := cells_of6 HT3.out
          have z1 : wq.cell? ⟨cb, i, none⟩ = some (.bool true) := by rw [← HC.out]; exact HA3.out.mind.cell hlt
          have zf : wq.frozen? ⟨cb, i, none⟩ = false := by simp [World.frozen?, HA3.out.mind.cans]
          have hcb := lt_of_block HA3.out.mind.cans
          go_wp2_with fail
          have CP := Lib.hid (apart_any (tk := tk) (tn := tn) (ts := ts) HA3.out.mind ha hb hc)
          obtain ⟨b, hb'⟩ : ∃ b, (Sough.apartK c1 ⟨tk, ts, tn, ta, tb, tc⟩).2 = b := ⟨_, rfl⟩
          have HB' := Lib.hid hb'
          rw [hb'] at CP
          clear hb'
          go_wp2_with fail
          refine CP.out.mono ?_
          rintro e w3 ⟨rfl, hm3, ht3⟩
          have HA4 := Lib.hid (HA3.out.turned ht3 hm3)
          clear hm3 ht3 CP
          cases b
          · have HST : Sough.stepK st f c1 i = ((Sough.apartK c1 ⟨tk, ts, tn, ta, tb, tc⟩).1, false) := by rw [Sough.stepK_known HC.out, HTT.out]; exact Prod.ext rfl HB'.out
            have HR : Hid (AllI w mp lb cb pb kb mb n wb st f R (.bool (more)) (.int .i64 ((i : Int) + 1)) _) := Lib.hid ⟨i + 1, _, more, by push_cast; rfl, rfl, by omega, by omega, HA4.out, by have := Sough.roundK_step hlt HR1.out HST; simpa using this⟩
            clear HST
            go_wp2_with fail
            go_roundw
            case rel => exact HR.out
            case measure => simp [intOf]; omega
          · have HST : Sough.stepK st f c1 i = ((Sough.apartK c1 ⟨tk, ts, tn, ta, tb, tc⟩).1, true) := by rw [Sough.stepK_known HC.out, HTT.out]; exact Prod.ext rfl HB'.out
            have HR : Hid (AllI w mp lb cb pb kb mb n wb st f R (.bool (true)) (.int .i64 ((i : Int) + 1)) _) := Lib.hid ⟨i + 1, _, true, by push_cast; rfl, rfl, by omega, by omega, HA4.out, by have := Sough.roundK_step hlt HR1.out HST; simpa using this⟩
            clear HST
            go_wp2_with fail
            go_roundw
            case rel => exact HR.out
            case measure => simp [intOf]; omega
      · obtain rfl : i = n := by omega
        rw [Nat.sub_self] at hR
        have hr : Sough.roundK st f st.l.length 1 c0 false = (c1, more) := by
          have e : i - 1 = st.l.length := by have := HN.out.1; omega
          rw [← e, HRR.out, ← hR]; rfl
        have HFR := Lib.hid hr
        have HA3 := Lib.hid hA
        have zm0 := hA.mind.mind
        clear hA hR hr
        cases more
        · have HE : Hid (MindIn wr mp lb cb pb kb mb i st f (Sough.allK st f (i + 1) can)) := Lib.hid (by
            rw [← HF0.out, Sough.allK_end HFR.out]; exact HA3.out.mind)
          go_wp2_with fail
          refine Exit.fwd_normal ?_
          go_end0
          exact ⟨rfl, HE.out, HA3.out.tur⟩
        · have HL := Lib.hid (Sough.less_round (f := f) (fun j => (Sough.names_at HOK.out j).1) st.l.length 1 c0 false (by rw [HA0.out.mind.len]; exact HN.out.1) (by omega))
          rw [HFR.out] at HL
          have hlt2 : c1.count false < c0.count false := by
            rcases HL.out.2.2 rfl with h | h
            · cases h
            · exact h
          have HO : Hid (AllO w mp lb cb pb kb mb i wb st f (Sough.allK st f (i + 1) can) wr) := Lib.hid ⟨c1, HA3.out, by
            rw [← HF0.out, Sough.allK_more HFR.out]
            exact Sough.allK_fuel (fun j => (Sough.names_at HOK.out j).1) _ _ _ (HA3.out.mind.len.trans HN.out.1) (by omega) hlt2⟩
          have HLW : Hid (lackOf wr cb = c1.count false) := Lib.hid HA3.out.lack
          go_wp2_with fail
          go_roundw
          case rel => exact HO.out
          case measure => rw [HW0.out, HLW.out]; exact hlt2
end
end Go.Proofs.Ytlfgempjjoclbaa
