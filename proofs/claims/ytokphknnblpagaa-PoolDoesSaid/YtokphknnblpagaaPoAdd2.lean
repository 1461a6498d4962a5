/- The walk of (*pool.Pool).Add: a message that is known. -/
import Derived.Test.YtokphknnblpagaaPoAdd
namespace Go.Proofs.Ytokphknnblpagaa
open Go.RowKit Go.Maps Go.ChangeMaps





set_option maxRecDepth 100000 in
set_option maxHeartbeats 3200000 in
theorem add_form {p now : Nat} {st : Sough.Pool} {S : List Nat} {f : Sough.Frag} {m : Sough.PMsg} (w : World) (h : PoolAt w p st S) (hok : st.Ok) (hnow : now < 18446744073709551616) (hf : f.ok) (hc : ¬ f.count = 1) (hn : (st.expire now).find f.id = some m)
    (hbad : (m.count : Int) ≠ f.count) :
    Calls Try.prog 14 #[.pointer (some ⟨p, 0, none⟩), .agg #[.int .u64 f.id, .int .i64 f.index, .int .i64 f.count, .string ⟨f.part.toArray⟩], .int .u64 now] w (AddTo w p S (st.expire now, [], false, 3)) := by
  have hr : f.right = true := (Sough.right_iff f).2 hf
  have HP := Lib.hid h; have HOK := Lib.hid hok; have HF := Lib.hid hf; have HC := Lib.hid hc; have HN := Lib.hid hn; have HBAD := Lib.hid hbad
  clear h hf hok hc hn hbad
  go_enter Try.func14, Try.ntmps14
  go_wp2_with fail
  have HB := Lib.hid ((Mem.start w).alloc (.cells #[.int .u64 f.id, .int .i64 f.index, .int .i64 f.count, .string ⟨f.part.toArray⟩] 35))
  generalize w.alloc (.cells #[.int .u64 f.id, .int .i64 f.index, .int .i64 f.count, .string ⟨f.part.toArray⟩] 35) = W1 at *
  refine (right_as hr _).mono ?_; rintro e w1 ⟨rfl, hb1⟩
  have HB1 := Lib.hid (HB.out.later hb1)
  clear hb1 HB
  have ec : (f.count == (1 : Int)) = false := by have := HC.out; simp; omega
  obtain ⟨mb0, A0, D0, hc0, ho0, rfl⟩ := HP.out.later HB1.out.bel
  have CE := Lib.hid (expire_any w1 hc0 ho0 HOK.out hnow)
  have hk1 := HB1.out.get 0 rfl
  have HT1 := Lib.hid (Turned.below (S := blocksOf p mb0 A0 st.l) HB1.out.bel)
  have HLT := Lib.hid HP.out.lt
  have HK1 := Lib.hid hk1
  obtain ⟨k, hk⟩ : ∃ k, k = w.heap.size := ⟨_, rfl⟩
  have HK := Lib.hid hk
  rw [← hk] at HK1 ⊢
  clear hc0 ho0 hk1 hk HB1
  go_wp2_with fail
  refine CE.out.mono ?_
  rintro e w2 ⟨rfl, S2, ⟨mb, A, D, hc2, ho2, rfl⟩, hsub2, ht2⟩
  have HF2 : Hid (AF w w2 p mb k (st.expire now) A D (blocksOf p mb0 A0 st.l) f) := Lib.hid ⟨hc2, ho2, (ht2.block k (lt_of_block HK1.out) (fun h => by have := HLT.out k h; rw [HK.out] at this; omega)).trans HK1.out, HT1.out.trans ht2 (fun i hi => .inl hi), hsub2, by rw [HK.out]; exact Nat.le_refl _, HLT.out⟩
  clear hc2 ho2 hsub2 ht2 CE HK1 HT1
  have r := HF2.out.now
  clear hr
  have hqo := HOK.out.expire now
  generalize hq : st.expire now = q at *
  have HQO := Lib.hid hqo
  obtain ⟨hm, hid⟩ := Sough.find_some HN.out
  have hmo := hqo.each m hm
  have HM := Lib.hid hm; have HID := Lib.hid hid; have HMO := Lib.hid hmo
  obtain ⟨i, hi⟩ : ∃ i : Nat, f.index = i := ⟨f.index.toNat, by have := HF.out.2.2.2.2.1; omega⟩
  have hi16 : i < 16 := by have := HF.out.2.2.2.2.2.1; have := HF.out.2.2.2.1; omega
  have HI := Lib.hid hi
  have hin : f.index.toNat = i := by omega
  have HIN := Lib.hid hin
  have e4 : f.id < 18446744073709551616 := by have := HF.out.2.1; omega
  have lk : ∀ x : Later w2, (Instr.lookup 58 (.map (some mb)) (.int .u64 f.id) true).run Try.prog x.world = .ok (.tuple #[.pointer (some ⟨(A m.id).1, 0, none⟩), .bool true]) x.world := fun x => by
    have := look_msg_ok (HF2.out.later x.below).own (HF2.out.later x.below).core.maps e4 (List.mem_map.2 ⟨m, HM.out, by rw [HID.out]⟩) true
    simp only [if_true, ← HID.out] at this ⊢
    exact this
  have rr := HF2.out.rules
  have hq1 : q.held ≤ 100000 := by have := hqo.held; have := hqo.r1; omega
  have hq2 : f.part.length ≤ 1000 := HF.out.2.2.2.2.2.2.2
  have HQ := Lib.hid hq
  clear hq hqo hm hid hmo hi hin
  go_wp2_with fail
  refine wp_region_later (by kernel_rfl) (by kernel_rfl) ?_
  repeat go_big_quiet_step (fail)
  refine wpQuiet_nil ?_
  rintro ⟨w3, hb3⟩
  change Exit.then _ _ _ _ w3
  have HF3 := Lib.hid (HF2.out.later hb3)
  clear hb3 HF2
  clear lk rr r
  have r := HF3.out.rules
  have r' := HF3.out.msg HM.out
  have lk : ∀ x : Later w3, (Instr.lookup 65 (.map (some (A m.id).2)) (.int .i64 f.index) true).run Try.prog x.world = .ok (.tuple #[.string ⟨(Sough.partAt m.parts i).toArray⟩, .bool (m.parts.any fun p => p.1 == i)]) x.world := fun x => by
    obtain ⟨DP, hop, hMP⟩ := ((HF3.out.later x.below).core.msgs m HM.out).parts
    rw [HI.out]
    exact look_part_ok hop hMP (by omega) HMO.out.keys
  go_wp2_with fail
  refine wp_region_later (by kernel_rfl) (by kernel_rfl) ?_
  repeat go_big_quiet_step (fail)
  refine wpQuiet_nil ?_
  rintro ⟨w4, hb3⟩
  change Exit.then _ _ _ _ w4
  have HF4 := Lib.hid (HF3.out.later hb3)
  clear hb3 HF3
  clear lk r r'
  have r := HF4.out.rules
  have r' := HF4.out.msg HM.out
  go_wp2_with fail
  have hb : ((m.count : Int) != f.count) = true := by have := HBAD.out; simp; omega
  refine wp_region_later (by kernel_rfl) (by kernel_rfl) ?_
  repeat go_big_quiet_step (fail)
  refine wpQuiet_nil ?_
  rintro ⟨w5, hb3⟩
  change Exit.then _ _ _ _ w5
  have HF5 := Lib.hid (HF4.out.later hb3)
  clear hb3 HF4
  have HA := Lib.hid (HF5.out.done (t := []) (b := false) (er := 3))
  clear r r'
  go_wp2_with fail
  go_ret3
  exact HA.out

set_option maxRecDepth 100000 in
set_option maxHeartbeats 3200000 in
theorem add_twice {p now : Nat} {st : Sough.Pool} {S : List Nat} {f : Sough.Frag} {m : Sough.PMsg} (w : World) (h : PoolAt w p st S) (hok : st.Ok) (hnow : now < 18446744073709551616) (hf : f.ok) (hc : ¬ f.count = 1) (hn : (st.expire now).find f.id = some m)
    (hgood : (m.count : Int) = f.count) (htw : (m.parts.any fun p => p.1 == f.index.toNat) = true) :
    Calls Try.prog 14 #[.pointer (some ⟨p, 0, none⟩), .agg #[.int .u64 f.id, .int .i64 f.index, .int .i64 f.count, .string ⟨f.part.toArray⟩], .int .u64 now] w (AddTo w p S (st.expire now, [], false, 6)) := by
  have hr : f.right = true := (Sough.right_iff f).2 hf
  have HP := Lib.hid h; have HOK := Lib.hid hok; have HF := Lib.hid hf; have HC := Lib.hid hc; have HN := Lib.hid hn; have HGOOD := Lib.hid hgood; have HTW := Lib.hid htw
  clear h hf hok hc hn hgood htw
  go_enter Try.func14, Try.ntmps14
  go_wp2_with fail
  have HB := Lib.hid ((Mem.start w).alloc (.cells #[.int .u64 f.id, .int .i64 f.index, .int .i64 f.count, .string ⟨f.part.toArray⟩] 35))
  generalize w.alloc (.cells #[.int .u64 f.id, .int .i64 f.index, .int .i64 f.count, .string ⟨f.part.toArray⟩] 35) = W1 at *
  refine (right_as hr _).mono ?_; rintro e w1 ⟨rfl, hb1⟩
  have HB1 := Lib.hid (HB.out.later hb1)
  clear hb1 HB
  have ec : (f.count == (1 : Int)) = false := by have := HC.out; simp; omega
  obtain ⟨mb0, A0, D0, hc0, ho0, rfl⟩ := HP.out.later HB1.out.bel
  have CE := Lib.hid (expire_any w1 hc0 ho0 HOK.out hnow)
  have hk1 := HB1.out.get 0 rfl
  have HT1 := Lib.hid (Turned.below (S := blocksOf p mb0 A0 st.l) HB1.out.bel)
  have HLT := Lib.hid HP.out.lt
  have HK1 := Lib.hid hk1
  obtain ⟨k, hk⟩ : ∃ k, k = w.heap.size := ⟨_, rfl⟩
  have HK := Lib.hid hk
  rw [← hk] at HK1 ⊢
  clear hc0 ho0 hk1 hk HB1
  go_wp2_with fail
  refine CE.out.mono ?_
  rintro e w2 ⟨rfl, S2, ⟨mb, A, D, hc2, ho2, rfl⟩, hsub2, ht2⟩
  have HF2 : Hid (AF w w2 p mb k (st.expire now) A D (blocksOf p mb0 A0 st.l) f) := Lib.hid ⟨hc2, ho2, (ht2.block k (lt_of_block HK1.out) (fun h => by have := HLT.out k h; rw [HK.out] at this; omega)).trans HK1.out, HT1.out.trans ht2 (fun i hi => .inl hi), hsub2, by rw [HK.out]; exact Nat.le_refl _, HLT.out⟩
  clear hc2 ho2 hsub2 ht2 CE HK1 HT1
  have r := HF2.out.now
  clear hr
  have hqo := HOK.out.expire now
  generalize hq : st.expire now = q at *
  have HQO := Lib.hid hqo
  obtain ⟨hm, hid⟩ := Sough.find_some HN.out
  have hmo := hqo.each m hm
  have HM := Lib.hid hm; have HID := Lib.hid hid; have HMO := Lib.hid hmo
  obtain ⟨i, hi⟩ : ∃ i : Nat, f.index = i := ⟨f.index.toNat, by have := HF.out.2.2.2.2.1; omega⟩
  have hi16 : i < 16 := by have := HF.out.2.2.2.2.2.1; have := HF.out.2.2.2.1; omega
  have HI := Lib.hid hi
  have hin : f.index.toNat = i := by omega
  have HIN := Lib.hid hin
  have e4 : f.id < 18446744073709551616 := by have := HF.out.2.1; omega
  have lk : ∀ x : Later w2, (Instr.lookup 58 (.map (some mb)) (.int .u64 f.id) true).run Try.prog x.world = .ok (.tuple #[.pointer (some ⟨(A m.id).1, 0, none⟩), .bool true]) x.world := fun x => by
    have := look_msg_ok (HF2.out.later x.below).own (HF2.out.later x.below).core.maps e4 (List.mem_map.2 ⟨m, HM.out, by rw [HID.out]⟩) true
    simp only [if_true, ← HID.out] at this ⊢
    exact this
  have rr := HF2.out.rules
  have hq1 : q.held ≤ 100000 := by have := hqo.held; have := hqo.r1; omega
  have hq2 : f.part.length ≤ 1000 := HF.out.2.2.2.2.2.2.2
  have HQ := Lib.hid hq
  clear hq hqo hm hid hmo hi hin
  go_wp2_with fail
  refine wp_region_later (by kernel_rfl) (by kernel_rfl) ?_
  repeat go_big_quiet_step (fail)
  refine wpQuiet_nil ?_
  rintro ⟨w3, hb3⟩
  change Exit.then _ _ _ _ w3
  have HF3 := Lib.hid (HF2.out.later hb3)
  clear hb3 HF2
  clear lk rr r
  have r := HF3.out.rules
  have r' := HF3.out.msg HM.out
  have lk : ∀ x : Later w3, (Instr.lookup 65 (.map (some (A m.id).2)) (.int .i64 f.index) true).run Try.prog x.world = .ok (.tuple #[.string ⟨(Sough.partAt m.parts i).toArray⟩, .bool (m.parts.any fun p => p.1 == i)]) x.world := fun x => by
    obtain ⟨DP, hop, hMP⟩ := ((HF3.out.later x.below).core.msgs m HM.out).parts
    rw [HI.out]
    exact look_part_ok hop hMP (by omega) HMO.out.keys
  go_wp2_with fail
  refine wp_region_later (by kernel_rfl) (by kernel_rfl) ?_
  repeat go_big_quiet_step (fail)
  refine wpQuiet_nil ?_
  rintro ⟨w4, hb3⟩
  change Exit.then _ _ _ _ w4
  have HF4 := Lib.hid (HF3.out.later hb3)
  clear hb3 HF3
  clear lk r r'
  have r := HF4.out.rules
  have r' := HF4.out.msg HM.out
  go_wp2_with fail
  have hb : ((m.count : Int) != f.count) = false := by have := HGOOD.out; simp; omega
  have ht : (m.parts.any fun p => p.1 == i) = true := by rw [← HIN.out]; exact HTW.out
  rw [ht]
  refine wp_region_later (by kernel_rfl) (by kernel_rfl) ?_
  repeat go_big_quiet_step (fail)
  refine wpQuiet_nil ?_
  rintro ⟨w5, hb3⟩
  change Exit.then _ _ _ _ w5
  have HF5 := Lib.hid (HF4.out.later hb3)
  clear hb3 HF4
  have HA := Lib.hid (HF5.out.done (t := []) (b := false) (er := 6))
  clear r r'
  go_wp2_with fail
  go_ret3
  exact HA.out


set_option maxRecDepth 100000 in
set_option maxHeartbeats 3200000 in
theorem add_full2 {p now : Nat} {st : Sough.Pool} {S : List Nat} {f : Sough.Frag} {m : Sough.PMsg} (w : World) (h : PoolAt w p st S) (hok : st.Ok) (hnow : now < 18446744073709551616) (hf : f.ok) (hc : ¬ f.count = 1) (hn : (st.expire now).find f.id = some m)
    (hgood : (m.count : Int) = f.count) (htw : (m.parts.any fun p => p.1 == f.index.toNat) = false) (hfull : (st.expire now).room < (st.expire now).held + f.part.length) :
    Calls Try.prog 14 #[.pointer (some ⟨p, 0, none⟩), .agg #[.int .u64 f.id, .int .i64 f.index, .int .i64 f.count, .string ⟨f.part.toArray⟩], .int .u64 now] w (AddTo w p S (st.expire now, [], false, 8)) := by
  have hr : f.right = true := (Sough.right_iff f).2 hf
  have HP := Lib.hid h; have HOK := Lib.hid hok; have HF := Lib.hid hf; have HC := Lib.hid hc; have HN := Lib.hid hn; have HGOOD := Lib.hid hgood; have HTW := Lib.hid htw; have HFU := Lib.hid hfull
  clear h hf hok hc hn hgood htw hfull
  go_enter Try.func14, Try.ntmps14
  go_wp2_with fail
  have HB := Lib.hid ((Mem.start w).alloc (.cells #[.int .u64 f.id, .int .i64 f.index, .int .i64 f.count, .string ⟨f.part.toArray⟩] 35))
  generalize w.alloc (.cells #[.int .u64 f.id, .int .i64 f.index, .int .i64 f.count, .string ⟨f.part.toArray⟩] 35) = W1 at *
  refine (right_as hr _).mono ?_; rintro e w1 ⟨rfl, hb1⟩
  have HB1 := Lib.hid (HB.out.later hb1)
  clear hb1 HB
  have ec : (f.count == (1 : Int)) = false := by have := HC.out; simp; omega
  obtain ⟨mb0, A0, D0, hc0, ho0, rfl⟩ := HP.out.later HB1.out.bel
  have CE := Lib.hid (expire_any w1 hc0 ho0 HOK.out hnow)
  have hk1 := HB1.out.get 0 rfl
  have HT1 := Lib.hid (Turned.below (S := blocksOf p mb0 A0 st.l) HB1.out.bel)
  have HLT := Lib.hid HP.out.lt
  have HK1 := Lib.hid hk1
  obtain ⟨k, hk⟩ : ∃ k, k = w.heap.size := ⟨_, rfl⟩
  have HK := Lib.hid hk
  rw [← hk] at HK1 ⊢
  clear hc0 ho0 hk1 hk HB1
  go_wp2_with fail
  refine CE.out.mono ?_
  rintro e w2 ⟨rfl, S2, ⟨mb, A, D, hc2, ho2, rfl⟩, hsub2, ht2⟩
  have HF2 : Hid (AF w w2 p mb k (st.expire now) A D (blocksOf p mb0 A0 st.l) f) := Lib.hid ⟨hc2, ho2, (ht2.block k (lt_of_block HK1.out) (fun h => by have := HLT.out k h; rw [HK.out] at this; omega)).trans HK1.out, HT1.out.trans ht2 (fun i hi => .inl hi), hsub2, by rw [HK.out]; exact Nat.le_refl _, HLT.out⟩
  clear hc2 ho2 hsub2 ht2 CE HK1 HT1
  have r := HF2.out.now
  clear hr
  have hqo := HOK.out.expire now
  generalize hq : st.expire now = q at *
  have HQO := Lib.hid hqo
  obtain ⟨hm, hid⟩ := Sough.find_some HN.out
  have hmo := hqo.each m hm
  have HM := Lib.hid hm; have HID := Lib.hid hid; have HMO := Lib.hid hmo
  obtain ⟨i, hi⟩ : ∃ i : Nat, f.index = i := ⟨f.index.toNat, by have := HF.out.2.2.2.2.1; omega⟩
  have hi16 : i < 16 := by have := HF.out.2.2.2.2.2.1; have := HF.out.2.2.2.1; omega
  have HI := Lib.hid hi
  have hin : f.index.toNat = i := by omega
  have HIN := Lib.hid hin
  have e4 : f.id < 18446744073709551616 := by have := HF.out.2.1; omega
  have lk : ∀ x : Later w2, (Instr.lookup 58 (.map (some mb)) (.int .u64 f.id) true).run Try.prog x.world = .ok (.tuple #[.pointer (some ⟨(A m.id).1, 0, none⟩), .bool true]) x.world := fun x => by
    have := look_msg_ok (HF2.out.later x.below).own (HF2.out.later x.below).core.maps e4 (List.mem_map.2 ⟨m, HM.out, by rw [HID.out]⟩) true
    simp only [if_true, ← HID.out] at this ⊢
    exact this
  have rr := HF2.out.rules
  have hq1 : q.held ≤ 100000 := by have := hqo.held; have := hqo.r1; omega
  have hq2 : f.part.length ≤ 1000 := HF.out.2.2.2.2.2.2.2
  have HQ := Lib.hid hq
  clear hq hqo hm hid hmo hi hin
  go_wp2_with fail
  refine wp_region_later (by kernel_rfl) (by kernel_rfl) ?_
  repeat go_big_quiet_step (fail)
  refine wpQuiet_nil ?_
  rintro ⟨w3, hb3⟩
  change Exit.then _ _ _ _ w3
  have HF3 := Lib.hid (HF2.out.later hb3)
  clear hb3 HF2
  clear lk rr r
  have r := HF3.out.rules
  have r' := HF3.out.msg HM.out
  have lk : ∀ x : Later w3, (Instr.lookup 65 (.map (some (A m.id).2)) (.int .i64 f.index) true).run Try.prog x.world = .ok (.tuple #[.string ⟨(Sough.partAt m.parts i).toArray⟩, .bool (m.parts.any fun p => p.1 == i)]) x.world := fun x => by
    obtain ⟨DP, hop, hMP⟩ := ((HF3.out.later x.below).core.msgs m HM.out).parts
    rw [HI.out]
    exact look_part_ok hop hMP (by omega) HMO.out.keys
  go_wp2_with fail
  refine wp_region_later (by kernel_rfl) (by kernel_rfl) ?_
  repeat go_big_quiet_step (fail)
  refine wpQuiet_nil ?_
  rintro ⟨w4, hb3⟩
  change Exit.then _ _ _ _ w4
  have HF4 := Lib.hid (HF3.out.later hb3)
  clear hb3 HF3
  clear lk r r'
  have r := HF4.out.rules
  have r' := HF4.out.msg HM.out
  go_wp2_with fail
  have hb : ((m.count : Int) != f.count) = false := by have := HGOOD.out; simp; omega
  have ht : (m.parts.any fun p => p.1 == i) = false := by rw [← HIN.out]; exact HTW.out
  rw [ht]
  refine wp_region_later (by kernel_rfl) (by kernel_rfl) ?_
  repeat go_big_quiet_step (fail)
  refine wpQuiet_nil ?_
  rintro ⟨w5, hb3⟩
  change Exit.then _ _ _ _ w5
  have HF5 := Lib.hid (HF4.out.later hb3)
  clear hb3 HF4
  clear r r' hb
  go_wp2_with fail
  have r := HF5.out.rules
  have hwr : IntKind.i64.wrap ((q.held : Int) + f.part.length) = (q.held : Int) + f.part.length := IntWalk.i64_in _ (by omega)
  have d2 : decide ((q.room : Int) < (q.held : Int) + f.part.length) = true := by have := HFU.out; simp; omega
  refine wp_region_later (by kernel_rfl) (by kernel_rfl) ?_
  repeat go_big_quiet_step (fail)
  refine wpQuiet_nil ?_
  rintro ⟨w6, hb3⟩
  change Exit.then _ _ _ _ w6
  have HF6 := Lib.hid (HF5.out.later hb3)
  clear hb3 HF5
  have HA := Lib.hid (HF6.out.done (t := []) (b := false) (er := 8))
  clear r
  go_wp2_with fail
  go_ret3
  exact HA.out

end Go.Proofs.Ytokphknnblpagaa
