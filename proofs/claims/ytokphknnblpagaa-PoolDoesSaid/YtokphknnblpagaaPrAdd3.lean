/- The walk of soughref13.Pool's Add: a part of a message that is begun; what is wrong with it. -/
import Derived.Test.YtokphknnblpagaaPrAdd2
namespace Sough
theorem at_iff {l l1 l2 : List PMsg} {m : PMsg} (hl : l = l1 ++ m :: l2) (hn : (l.map (·.id)).Nodup) (i : Nat) (hi : i < l.length) : l[i].id = m.id ↔ i = l1.length := by
  have hc : l1.length < l.length := by rw [hl]; simp
  have e : l[l1.length]'hc = m := by simp [hl]
  have h1 : (l.map (·.id))[i]'(by simpa using hi) = l[i].id := by simp
  have h2 : (l.map (·.id))[l1.length]'(by simpa using hc) = m.id := by simp [e]
  rw [← h1, ← h2]
  exact List.getElem_inj hn
end Sough
namespace Go.Proofs.Ytokphknnblpagaa
open Go.RowKit Go.Maps Go.ChangeMaps

section
variable {w0 w w' : World} {b0 r k : Nat} {q : Sough.Pool} {lv : Value} {A : Nat → Nat × Nat} {f : Sough.Frag} {m : Sough.PMsg}
theorem RAF.part (h : RAF w0 w b0 r k q lv A f) (hm : m ∈ q.l) {ga : Nat} (hg : (A m.id).1 = ga) {j : Nat} (hj : j < m.parts.length) : ∀ x : Later w, x.world.cell? ⟨ga, j * 4 + 1, none⟩ = some (.int .i64 (m.parts[j].1 : Nat)) ∧ x.world.cell? ⟨ga, j * 4 + 2, none⟩ = some (.int .i64 m.count) := fun x => by
  have := (h.later x.below).core.part hm hj
  rw [hg] at this
  exact ⟨this.2.1, this.2.2.1⟩
theorem RAF.at {g n cap c ga ca : Nat} {l1 l2 : List Sough.PMsg} (h : RAF w0 w b0 r k q (.slice (some ⟨g, 0, none⟩) n cap) A f) (hn : q.l.length = n) (hl : q.l = l1 ++ m :: l2) (hc : l1.length = c) (hg : (A m.id).1 = ga) (hca : (A m.id).2 = ca) :
    ∀ x : Later w, x.world.cell? ⟨g, c * 2, none⟩ = some (.slice (some ⟨ga, 0, none⟩) m.parts.length ca) := fun x => by
  have hi : c < q.l.length := by rw [hl, ← hc]; simp
  have := ((h.later x.below).core.msg hn hi).1
  have e : q.l[c]'hi = m := by subst hc; simp [hl]
  rw [e, hg, hca] at this
  exact this
end

def RTwR (w0 : World) (b0 r k : Nat) (q : Sough.Pool) (lv : Value) (A : Nat → Nat × Nat) (f : Sough.Frag) (m : Sough.PMsg) (iv : Value) (wr : World) : Prop :=
  ∃ j : Nat, j ≤ m.parts.length ∧ iv = .int .i64 j ∧ (∀ i (hi : i < m.parts.length), i < j → m.parts[i].1 ≠ f.index.toNat) ∧ RAF w0 wr b0 r k q lv A f


set_option maxRecDepth 100000 in
set_option maxHeartbeats 3200000 in
theorem radd_form {b0 r now : Nat} {st : Sough.Pool} {f : Sough.Frag} {m : Sough.PMsg} (w : World) (h : RefAt w b0 r st) (hok : st.Ok) (hnow : now < 18446744073709551616) (hf : f.ok) (hc : ¬ f.count = 1) (hn : (st.expire now).find f.id = some m)
    (hbad : (m.count : Int) ≠ f.count) :
    Calls Try.prog 15 #[.pointer (some ⟨r, 0, none⟩), .agg #[.int .u64 f.id, .int .i64 f.index, .int .i64 f.count, .string ⟨f.part.toArray⟩], .int .u64 now] w (RAddTo w b0 r (st.expire now, [], false, 3)) := by
  have HBAD := Lib.hid hbad
  clear hbad
  have hr : f.right = true := (Sough.right_iff f).2 hf
  have HP := Lib.hid h; have HOK := Lib.hid hok; have HF := Lib.hid hf; have HC := Lib.hid hc
  obtain ⟨hmem, hid⟩ := Sough.find_some hn
  obtain ⟨l1, l2, hl⟩ := List.append_of_mem hmem
  obtain ⟨c, hcc⟩ : ∃ c, l1.length = c := ⟨_, rfl⟩
  have HID : Hid (∀ (i : Nat) (hi : i < (st.expire now).l.length), ((st.expire now).l[i].id = f.id ↔ i = c)) := Lib.hid fun i hi => by rw [← hid, ← hcc]; exact Sough.at_iff hl (hok.expire now).ids i hi
  have HL := Lib.hid hl; have HMEM := Lib.hid hmem; have HMID := Lib.hid hid; have HCC := Lib.hid hcc
  clear h hf hok hc hn hl hmem hid hcc
  go_enter Try.func15, Try.ntmps15
  go_wp2_with fail
  have HB := Lib.hid ((Mem.start w).alloc (.cells #[.int .u64 f.id, .int .i64 f.index, .int .i64 f.count, .string ⟨f.part.toArray⟩] 40))
  generalize w.alloc (.cells #[.int .u64 f.id, .int .i64 f.index, .int .i64 f.count, .string ⟨f.part.toArray⟩] 40) = W1 at *
  refine (rright_as hr _).mono ?_; rintro e w1 ⟨rfl, hb1⟩
  have HB1 := Lib.hid (HB.out.later hb1)
  clear hb1 HB
  have ec : (f.count == (1 : Int)) = false := by have := HC.out; simp; omega
  obtain ⟨lv0, A, hc0⟩ := HP.out.later HB1.out.bel
  have CE := Lib.hid (rexpire_any w1 hc0 HOK.out hnow)
  have hk1 := HB1.out.get 0 rfl
  have HT1 := Lib.hid (RTurned.below (b0 := b0) HB1.out.bel)
  have HC0 := Lib.hid hc0
  obtain ⟨lv00, A00, hc00⟩ := HP.out
  have HLT := Lib.hid hc00.lt
  have HK1 := Lib.hid hk1
  obtain ⟨k, hk⟩ : ∃ k, k = w.heap.size := ⟨_, rfl⟩
  have HK := Lib.hid hk
  rw [← hk] at HK1 ⊢
  clear hc0 hk1 hk HB1 hc00
  go_wp2_with fail
  refine CE.out.mono ?_
  rintro e w2 ⟨rfl, lv, hc2, ht2⟩
  have HF2 : Hid (RAF w w2 b0 r k (st.expire now) lv A f) := Lib.hid ⟨hc2, (ht2.block k (lt_of_block HK1.out) (fun h => by have := HLT.out; rw [← HK.out] at this; simp at h; omega)).trans HK1.out, HT1.out.trans (RTurned.of ht2 (fun i hi => by simp only [List.mem_singleton] at hi; subst hi; exact ⟨HC0.out.low, _, _, HC0.out.box, .inl rfl⟩)), by rw [HK.out]; exact Nat.le_refl _⟩
  clear hc2 ht2 CE HK1 HT1 HC0
  have ru := HF2.out.now
  clear hr
  generalize hq : st.expire now = q at *
  obtain ⟨a, cap, rfl⟩ := HF2.out.core.shape
  obtain ⟨n, hn⟩ : ∃ n, q.l.length = n := ⟨_, rfl⟩
  have HN := Lib.hid hn
  rw [hn] at HF2 ru
  have hqok : q.Ok := by rw [← hq]; exact HOK.out.expire now
  have hq1 : q.held ≤ 100000 := by have := hqok.held; have := hqok.r1; omega
  have hq3 : n ≤ 16 := by have := hqok.len; have := hqok.s1; omega
  have hq2 : f.part.length ≤ 1000 := HF.out.2.2.2.2.2.2.2
  have hq4 : q.slots ≤ 16 := hqok.s1
  have hq5 : q.room ≤ 65536 := hqok.r1
  have HQO := Lib.hid hqok
  have HQ := Lib.hid hq
  clear hq hn hqok
  go_wp2_with fail
  go_loopw [9, 10] (fun av iv wr => RFindR w b0 r k q (.slice a n cap) A f c n av iv wr) (fun _ iv _ => n - (intOf iv).toNat)
  case atStart => exact ⟨0, Nat.zero_le _, rfl, by rw [atOf_zero], HF2.out⟩
  obtain ⟨i, hi, rfl, rfl, hF⟩ := hrel
  have HFR := Lib.hid hF
  clear hF HF2
  have ru := HFR.out.now
  by_cases hlt : i < n
  · have hil : i < q.l.length := by rw [HN.out]; exact hlt
    obtain ⟨g, cap', e, _, _⟩ := HFR.out.core.head (by omega)
    rw [HN.out] at e
    injection e with e1 e2 e3
    subst e1 e3
    obtain ⟨m, hm⟩ : ∃ m : Sough.PMsg, q.l[i]'hil = m := ⟨_, rfl⟩
    have hmem : m ∈ q.l := hm ▸ List.getElem_mem hil
    have hmo := HQO.out.each m hmem
    obtain ⟨ga, hga⟩ : ∃ ga, (A m.id).1 = ga := ⟨_, rfl⟩
    obtain ⟨ca, hca⟩ : ∃ ca, (A m.id).2 = ca := ⟨_, rfl⟩
    have hcm : ∀ x : Later wr, x.world.cell? ⟨g, i * 2, none⟩ = some (.slice (some ⟨ga, 0, none⟩) m.parts.length ca) ∧ x.world.cell? ⟨ga, 0, none⟩ = some (.int .u64 m.id) := fun x => by
      have h1 := ((HFR.out.later x.below).core.msg HN.out hil).1
      have h2 := ((HFR.out.later x.below).core.part hmem (k := 0) (by have := hmo.some; omega)).1
      simp only [hm, hga, hca, Nat.zero_mul] at h1 h2
      exact ⟨h1, h2⟩
    have hp1 := hmo.some
    have hp2 : m.parts.length ≤ 16 := by have := hmo.few; have := hmo.c2; omega
    have hid : m.id = f.id ↔ i = c := by rw [← hm]; exact HID.out i hil
    have HFI := Lib.hid hid
    clear hmem hmo hga hca hm hil hid
    have rr := HFR.out.rules
    by_cases he : m.id = f.id
    · have hic : i = c := HFI.out.1 he
      have d1 : ((m.id : Int) == f.id) = true := by simp; omega
      have hat : atOf c (i + 1) = i := by rw [← hic]; exact atOf_hit i
      have HAT := Lib.hid hat
      clear he hic hat
      go_wp2_with fail
      refine wp_region_later (by kernel_rfl) (by kernel_rfl) ?_
      repeat go_big_quiet_step (fail)
      refine wpQuiet_nil ?_
      rintro ⟨w3, hb3⟩
      change Exit.then _ _ _ _ w3
      have HF3 := Lib.hid (HFR.out.later hb3)
      clear hb3 HFR
      clear hcm rr ru
      go_wp2_with fail
      go_roundw
      case rel => exact ⟨i + 1, hlt, by go_num, by rw [HAT.out], HF3.out⟩
      case measure => simp [intOf]; omega
    · have hic : i ≠ c := fun e => he (HFI.out.2 e)
      have d1 : ((m.id : Int) == f.id) = false := by simp; omega
      have hat := atOf_miss hic
      have HAT := Lib.hid hat
      clear he hic hat
      go_wp2_with fail
      refine wp_region_later (by kernel_rfl) (by kernel_rfl) ?_
      repeat go_big_quiet_step (fail)
      refine wpQuiet_nil ?_
      rintro ⟨w3, hb3⟩
      change Exit.then _ _ _ _ w3
      have HF3 := Lib.hid (HFR.out.later hb3)
      clear hb3 HFR
      clear hcm rr ru
      go_wp2_with fail
      go_roundw
      case rel => exact ⟨i + 1, hlt, by go_num, by rw [HAT.out], HF3.out⟩
      case measure => simp [intOf]; omega
  obtain rfl : i = n := by omega
  clear hlt hi
  have hci : c < i := by rw [← HN.out, HL.out, ← HCC.out]; simp
  have hat := atOf_some hci
  rw [hat]; clear hat
  go_wp2_with fail
  refine (rheld_any wr HFR.out.core HQO.out).mono ?_
  rintro e w4 ⟨rfl, rfl⟩
  rw [HN.out]
  obtain ⟨g, cap', e, hcap', hmax'⟩ := HFR.out.core.head (by rw [HN.out]; omega)
  rw [HN.out] at e hcap'
  injection e with e1 e2 e3
  subst e1 e3
  have hmo := HQO.out.each m HMEM.out
  have hp1 := hmo.some
  have hp2 : m.parts.length ≤ 16 := by have := hmo.few; have := hmo.c2; omega
  have HMO := Lib.hid hmo
  obtain ⟨ga, hga⟩ : ∃ ga, (A m.id).1 = ga := ⟨_, rfl⟩
  obtain ⟨ca, hca⟩ : ∃ ca, (A m.id).2 = ca := ⟨_, rfl⟩
  have HGA := Lib.hid hga; have HCA := Lib.hid hca
  have hcm := HFR.out.at HN.out HL.out HCC.out hga hca
  have hcm0 := hcm ⟨wr, Below.refl _ _⟩
  have hct : ∀ x : Later wr, x.world.cell? ⟨ga, 2, none⟩ = some (.int .i64 m.count) := fun x => by
    have := (HFR.out.part HMEM.out hga (j := 0) (by omega) x).2
    simpa using this
  have rr := HFR.out.rules
  clear hmo hga hca hcm
  go_wp2_with fail
  have hb : ((m.count : Int) != f.count) = true := by have := HBAD.out; simpa using this
  refine wp_region_later (by kernel_rfl) (by kernel_rfl) ?_
  repeat go_big_quiet_step (fail)
  refine wpQuiet_nil ?_
  rintro ⟨w5, hb3⟩
  change Exit.then _ _ _ _ w5
  have HF5 := Lib.hid (HFR.out.later hb3)
  clear hb3 HFR
  have HA := Lib.hid (HF5.out.done (t := []) (b := false) (er := 3))
  clear rr ru hct hcm0 hb
  go_wp2_with fail
  go_ret3
  exact HA.out


set_option maxRecDepth 100000 in
set_option maxHeartbeats 3200000 in
theorem radd_twice {b0 r now : Nat} {st : Sough.Pool} {f : Sough.Frag} {m : Sough.PMsg} (w : World) (h : RefAt w b0 r st) (hok : st.Ok) (hnow : now < 18446744073709551616) (hf : f.ok) (hc : ¬ f.count = 1) (hn : (st.expire now).find f.id = some m)
    (hgood : (m.count : Int) = f.count) (htw : (m.parts.any fun p => p.1 == f.index.toNat) = true) :
    Calls Try.prog 15 #[.pointer (some ⟨r, 0, none⟩), .agg #[.int .u64 f.id, .int .i64 f.index, .int .i64 f.count, .string ⟨f.part.toArray⟩], .int .u64 now] w (RAddTo w b0 r (st.expire now, [], false, 6)) := by
  have HGOOD := Lib.hid hgood; have HTW := Lib.hid htw
  clear hgood htw
  have hr : f.right = true := (Sough.right_iff f).2 hf
  have HP := Lib.hid h; have HOK := Lib.hid hok; have HF := Lib.hid hf; have HC := Lib.hid hc
  obtain ⟨hmem, hid⟩ := Sough.find_some hn
  obtain ⟨l1, l2, hl⟩ := List.append_of_mem hmem
  obtain ⟨c, hcc⟩ : ∃ c, l1.length = c := ⟨_, rfl⟩
  have HID : Hid (∀ (i : Nat) (hi : i < (st.expire now).l.length), ((st.expire now).l[i].id = f.id ↔ i = c)) := Lib.hid fun i hi => by rw [← hid, ← hcc]; exact Sough.at_iff hl (hok.expire now).ids i hi
  have HL := Lib.hid hl; have HMEM := Lib.hid hmem; have HMID := Lib.hid hid; have HCC := Lib.hid hcc
  clear h hf hok hc hn hl hmem hid hcc
  go_enter Try.func15, Try.ntmps15
  go_wp2_with fail
  have HB := Lib.hid ((Mem.start w).alloc (.cells #[.int .u64 f.id, .int .i64 f.index, .int .i64 f.count, .string ⟨f.part.toArray⟩] 40))
  generalize w.alloc (.cells #[.int .u64 f.id, .int .i64 f.index, .int .i64 f.count, .string ⟨f.part.toArray⟩] 40) = W1 at *
  refine (rright_as hr _).mono ?_; rintro e w1 ⟨rfl, hb1⟩
  have HB1 := Lib.hid (HB.out.later hb1)
  clear hb1 HB
  have ec : (f.count == (1 : Int)) = false := by have := HC.out; simp; omega
  obtain ⟨lv0, A, hc0⟩ := HP.out.later HB1.out.bel
  have CE := Lib.hid (rexpire_any w1 hc0 HOK.out hnow)
  have hk1 := HB1.out.get 0 rfl
  have HT1 := Lib.hid (RTurned.below (b0 := b0) HB1.out.bel)
  have HC0 := Lib.hid hc0
  obtain ⟨lv00, A00, hc00⟩ := HP.out
  have HLT := Lib.hid hc00.lt
  have HK1 := Lib.hid hk1
  obtain ⟨k, hk⟩ : ∃ k, k = w.heap.size := ⟨_, rfl⟩
  have HK := Lib.hid hk
  rw [← hk] at HK1 ⊢
  clear hc0 hk1 hk HB1 hc00
  go_wp2_with fail
  refine CE.out.mono ?_
  rintro e w2 ⟨rfl, lv, hc2, ht2⟩
  have HF2 : Hid (RAF w w2 b0 r k (st.expire now) lv A f) := Lib.hid ⟨hc2, (ht2.block k (lt_of_block HK1.out) (fun h => by have := HLT.out; rw [← HK.out] at this; simp at h; omega)).trans HK1.out, HT1.out.trans (RTurned.of ht2 (fun i hi => by simp only [List.mem_singleton] at hi; subst hi; exact ⟨HC0.out.low, _, _, HC0.out.box, .inl rfl⟩)), by rw [HK.out]; exact Nat.le_refl _⟩
  clear hc2 ht2 CE HK1 HT1 HC0
  have ru := HF2.out.now
  clear hr
  generalize hq : st.expire now = q at *
  obtain ⟨a, cap, rfl⟩ := HF2.out.core.shape
  obtain ⟨n, hn⟩ : ∃ n, q.l.length = n := ⟨_, rfl⟩
  have HN := Lib.hid hn
  rw [hn] at HF2 ru
  have hqok : q.Ok := by rw [← hq]; exact HOK.out.expire now
  have hq1 : q.held ≤ 100000 := by have := hqok.held; have := hqok.r1; omega
  have hq3 : n ≤ 16 := by have := hqok.len; have := hqok.s1; omega
  have hq2 : f.part.length ≤ 1000 := HF.out.2.2.2.2.2.2.2
  have hq4 : q.slots ≤ 16 := hqok.s1
  have hq5 : q.room ≤ 65536 := hqok.r1
  have HQO := Lib.hid hqok
  have HQ := Lib.hid hq
  clear hq hn hqok
  go_wp2_with fail
  go_loopw [9, 10] (fun av iv wr => RFindR w b0 r k q (.slice a n cap) A f c n av iv wr) (fun _ iv _ => n - (intOf iv).toNat)
  case atStart => exact ⟨0, Nat.zero_le _, rfl, by rw [atOf_zero], HF2.out⟩
  obtain ⟨i, hi, rfl, rfl, hF⟩ := hrel
  have HFR := Lib.hid hF
  clear hF HF2
  have ru := HFR.out.now
  by_cases hlt : i < n
  · have hil : i < q.l.length := by rw [HN.out]; exact hlt
    obtain ⟨g, cap', e, _, _⟩ := HFR.out.core.head (by omega)
    rw [HN.out] at e
    injection e with e1 e2 e3
    subst e1 e3
    obtain ⟨m, hm⟩ : ∃ m : Sough.PMsg, q.l[i]'hil = m := ⟨_, rfl⟩
    have hmem : m ∈ q.l := hm ▸ List.getElem_mem hil
    have hmo := HQO.out.each m hmem
    obtain ⟨ga, hga⟩ : ∃ ga, (A m.id).1 = ga := ⟨_, rfl⟩
    obtain ⟨ca, hca⟩ : ∃ ca, (A m.id).2 = ca := ⟨_, rfl⟩
    have hcm : ∀ x : Later wr, x.world.cell? ⟨g, i * 2, none⟩ = some (.slice (some ⟨ga, 0, none⟩) m.parts.length ca) ∧ x.world.cell? ⟨ga, 0, none⟩ = some (.int .u64 m.id) := fun x => by
      have h1 := ((HFR.out.later x.below).core.msg HN.out hil).1
      have h2 := ((HFR.out.later x.below).core.part hmem (k := 0) (by have := hmo.some; omega)).1
      simp only [hm, hga, hca, Nat.zero_mul] at h1 h2
      exact ⟨h1, h2⟩
    have hp1 := hmo.some
    have hp2 : m.parts.length ≤ 16 := by have := hmo.few; have := hmo.c2; omega
    have hid : m.id = f.id ↔ i = c := by rw [← hm]; exact HID.out i hil
    have HFI := Lib.hid hid
    clear hmem hmo hga hca hm hil hid
    have rr := HFR.out.rules
    by_cases he : m.id = f.id
    · have hic : i = c := HFI.out.1 he
      have d1 : ((m.id : Int) == f.id) = true := by simp; omega
      have hat : atOf c (i + 1) = i := by rw [← hic]; exact atOf_hit i
      have HAT := Lib.hid hat
      clear he hic hat
      go_wp2_with fail
      refine wp_region_later (by kernel_rfl) (by kernel_rfl) ?_
      repeat go_big_quiet_step (fail)
      refine wpQuiet_nil ?_
      rintro ⟨w3, hb3⟩
      change Exit.then _ _ _ _ w3
      have HF3 := Lib.hid (HFR.out.later hb3)
      clear hb3 HFR
      clear hcm rr ru
      go_wp2_with fail
      go_roundw
      case rel => exact ⟨i + 1, hlt, by go_num, by rw [HAT.out], HF3.out⟩
      case measure => simp [intOf]; omega
    · have hic : i ≠ c := fun e => he (HFI.out.2 e)
      have d1 : ((m.id : Int) == f.id) = false := by simp; omega
      have hat := atOf_miss hic
      have HAT := Lib.hid hat
      clear he hic hat
      go_wp2_with fail
      refine wp_region_later (by kernel_rfl) (by kernel_rfl) ?_
      repeat go_big_quiet_step (fail)
      refine wpQuiet_nil ?_
      rintro ⟨w3, hb3⟩
      change Exit.then _ _ _ _ w3
      have HF3 := Lib.hid (HFR.out.later hb3)
      clear hb3 HFR
      clear hcm rr ru
      go_wp2_with fail
      go_roundw
      case rel => exact ⟨i + 1, hlt, by go_num, by rw [HAT.out], HF3.out⟩
      case measure => simp [intOf]; omega
  obtain rfl : i = n := by omega
  clear hlt hi
  have hci : c < i := by rw [← HN.out, HL.out, ← HCC.out]; simp
  have hat := atOf_some hci
  rw [hat]; clear hat
  go_wp2_with fail
  refine (rheld_any wr HFR.out.core HQO.out).mono ?_
  rintro e w4 ⟨rfl, rfl⟩
  rw [HN.out]
  obtain ⟨g, cap', e, hcap', hmax'⟩ := HFR.out.core.head (by rw [HN.out]; omega)
  rw [HN.out] at e hcap'
  injection e with e1 e2 e3
  subst e1 e3
  have hmo := HQO.out.each m HMEM.out
  have hp1 := hmo.some
  have hp2 : m.parts.length ≤ 16 := by have := hmo.few; have := hmo.c2; omega
  have HMO := Lib.hid hmo
  obtain ⟨ga, hga⟩ : ∃ ga, (A m.id).1 = ga := ⟨_, rfl⟩
  obtain ⟨ca, hca⟩ : ∃ ca, (A m.id).2 = ca := ⟨_, rfl⟩
  have HGA := Lib.hid hga; have HCA := Lib.hid hca
  have hcm := HFR.out.at HN.out HL.out HCC.out hga hca
  have hcm0 := hcm ⟨wr, Below.refl _ _⟩
  have hct : ∀ x : Later wr, x.world.cell? ⟨ga, 2, none⟩ = some (.int .i64 m.count) := fun x => by
    have := (HFR.out.part HMEM.out hga (j := 0) (by omega) x).2
    simpa using this
  have rr := HFR.out.rules
  clear hmo hga hca hcm
  go_wp2_with fail
  have hb : ((m.count : Int) != f.count) = false := by have := HGOOD.out; simp; omega
  refine wp_region_later (by kernel_rfl) (by kernel_rfl) ?_
  repeat go_big_quiet_step (fail)
  refine wpQuiet_nil ?_
  rintro ⟨w5, hb3⟩
  change Exit.then _ _ _ _ w5
  have HF5 := Lib.hid (HFR.out.later hb3)
  clear hb3 HFR
  clear rr ru hct hcm0 hb
  go_wp2_with fail
  go_loopw [14] (fun iv wr => RTwR w b0 r k q (.slice (some ⟨g, 0, none⟩) i cap) A f m iv wr) (fun iv _ => m.parts.length - (intOf iv).toNat)
  case atStart => exact ⟨0, Nat.zero_le _, rfl, fun _ _ h => absurd h (Nat.not_lt_zero _), HF5.out⟩
  obtain ⟨j, hj, rfl, hno, hF⟩ := hrel
  have HFT := Lib.hid hF; have HNOT := Lib.hid hno
  clear hF hno HF5
  by_cases hlt : j < m.parts.length
  · have hpt : ∀ x : Later wr, x.world.cell? ⟨ga, j * 4 + 1, none⟩ = some (.int .i64 (m.parts[j]'hlt).1) := fun x => (HFT.out.part HMEM.out HGA.out hlt x).1
    have rr := HFT.out.rules
    have hix : 0 ≤ f.index := HF.out.2.2.2.2.1
    by_cases he : (m.parts[j]'hlt).1 = f.index.toNat
    · have d1 : (((m.parts[j]'hlt).1 : Int) == f.index) = true := by simp; omega
      clear he hix
      go_wp2_with fail
      refine wp_region_later (by kernel_rfl) (by kernel_rfl) ?_
      repeat go_big_quiet_step (fail)
      refine wpQuiet_nil ?_
      rintro ⟨w6, hb3⟩
      change Exit.then _ _ _ _ w6
      have HF6 := Lib.hid (HFT.out.later hb3)
      clear hb3 HFT
      have HA := Lib.hid (HF6.out.done (t := []) (b := false) (er := 6))
      clear rr hpt d1
      go_wp2_with fail
      go_ret3
      exact HA.out
    · have d1 : (((m.parts[j]'hlt).1 : Int) == f.index) = false := by simp; omega
      have HNX : Hid (∀ i (hi : i < m.parts.length), i < j + 1 → m.parts[i].1 ≠ f.index.toNat) := Lib.hid fun i hi h => by
        by_cases e : i = j
        · subst e; exact he
        · exact HNOT.out i hi (by omega)
      clear he hix
      go_wp2_with fail
      refine wp_region_later (by kernel_rfl) (by kernel_rfl) ?_
      repeat go_big_quiet_step (fail)
      refine wpQuiet_nil ?_
      rintro ⟨w6, hb3⟩
      change Exit.then _ _ _ _ w6
      have HF6 := Lib.hid (HFT.out.later hb3)
      clear hb3 HFT
      clear rr hpt d1
      go_wp2_with fail
      go_roundw
      case rel => exact ⟨j + 1, hlt, by go_num, HNX.out, HF6.out⟩
      case measure => simp [intOf]; omega
  · exfalso
    obtain ⟨p, hp, hpe⟩ := List.any_eq_true.1 HTW.out
    obtain ⟨i', hi', e⟩ := List.mem_iff_getElem.1 hp
    exact HNOT.out i' hi' (by omega) (by rw [e]; simpa using hpe)


set_option maxRecDepth 100000 in
set_option maxHeartbeats 3200000 in
theorem radd_full2 {b0 r now : Nat} {st : Sough.Pool} {f : Sough.Frag} {m : Sough.PMsg} (w : World) (h : RefAt w b0 r st) (hok : st.Ok) (hnow : now < 18446744073709551616) (hf : f.ok) (hc : ¬ f.count = 1) (hn : (st.expire now).find f.id = some m)
    (hgood : (m.count : Int) = f.count) (htw : (m.parts.any fun p => p.1 == f.index.toNat) = false) (hfull : (st.expire now).room < (st.expire now).held + f.part.length) :
    Calls Try.prog 15 #[.pointer (some ⟨r, 0, none⟩), .agg #[.int .u64 f.id, .int .i64 f.index, .int .i64 f.count, .string ⟨f.part.toArray⟩], .int .u64 now] w (RAddTo w b0 r (st.expire now, [], false, 8)) := by
  have HGOOD := Lib.hid hgood; have HTW := Lib.hid htw; have HFU := Lib.hid hfull
  clear hgood htw hfull
  have hr : f.right = true := (Sough.right_iff f).2 hf
  have HP := Lib.hid h; have HOK := Lib.hid hok; have HF := Lib.hid hf; have HC := Lib.hid hc
  obtain ⟨hmem, hid⟩ := Sough.find_some hn
  obtain ⟨l1, l2, hl⟩ := List.append_of_mem hmem
  obtain ⟨c, hcc⟩ : ∃ c, l1.length = c := ⟨_, rfl⟩
  have HID : Hid (∀ (i : Nat) (hi : i < (st.expire now).l.length), ((st.expire now).l[i].id = f.id ↔ i = c)) := Lib.hid fun i hi => by rw [← hid, ← hcc]; exact Sough.at_iff hl (hok.expire now).ids i hi
  have HL := Lib.hid hl; have HMEM := Lib.hid hmem; have HMID := Lib.hid hid; have HCC := Lib.hid hcc
  clear h hf hok hc hn hl hmem hid hcc
  go_enter Try.func15, Try.ntmps15
  go_wp2_with fail
  have HB := Lib.hid ((Mem.start w).alloc (.cells #[.int .u64 f.id, .int .i64 f.index, .int .i64 f.count, .string ⟨f.part.toArray⟩] 40))
  generalize w.alloc (.cells #[.int .u64 f.id, .int .i64 f.index, .int .i64 f.count, .string ⟨f.part.toArray⟩] 40) = W1 at *
  refine (rright_as hr _).mono ?_; rintro e w1 ⟨rfl, hb1⟩
  have HB1 := Lib.hid (HB.out.later hb1)
  clear hb1 HB
  have ec : (f.count == (1 : Int)) = false := by have := HC.out; simp; omega
  obtain ⟨lv0, A, hc0⟩ := HP.out.later HB1.out.bel
  have CE := Lib.hid (rexpire_any w1 hc0 HOK.out hnow)
  have hk1 := HB1.out.get 0 rfl
  have HT1 := Lib.hid (RTurned.below (b0 := b0) HB1.out.bel)
  have HC0 := Lib.hid hc0
  obtain ⟨lv00, A00, hc00⟩ := HP.out
  have HLT := Lib.hid hc00.lt
  have HK1 := Lib.hid hk1
  obtain ⟨k, hk⟩ : ∃ k, k = w.heap.size := ⟨_, rfl⟩
  have HK := Lib.hid hk
  rw [← hk] at HK1 ⊢
  clear hc0 hk1 hk HB1 hc00
  go_wp2_with fail
  refine CE.out.mono ?_
  rintro e w2 ⟨rfl, lv, hc2, ht2⟩
  have HF2 : Hid (RAF w w2 b0 r k (st.expire now) lv A f) := Lib.hid ⟨hc2, (ht2.block k (lt_of_block HK1.out) (fun h => by have := HLT.out; rw [← HK.out] at this; simp at h; omega)).trans HK1.out, HT1.out.trans (RTurned.of ht2 (fun i hi => by simp only [List.mem_singleton] at hi; subst hi; exact ⟨HC0.out.low, _, _, HC0.out.box, .inl rfl⟩)), by rw [HK.out]; exact Nat.le_refl _⟩
  clear hc2 ht2 CE HK1 HT1 HC0
  have ru := HF2.out.now
  clear hr
  generalize hq : st.expire now = q at *
  obtain ⟨a, cap, rfl⟩ := HF2.out.core.shape
  obtain ⟨n, hn⟩ : ∃ n, q.l.length = n := ⟨_, rfl⟩
  have HN := Lib.hid hn
  rw [hn] at HF2 ru
  have hqok : q.Ok := by rw [← hq]; exact HOK.out.expire now
  have hq1 : q.held ≤ 100000 := by have := hqok.held; have := hqok.r1; omega
  have hq3 : n ≤ 16 := by have := hqok.len; have := hqok.s1; omega
  have hq2 : f.part.length ≤ 1000 := HF.out.2.2.2.2.2.2.2
  have hq4 : q.slots ≤ 16 := hqok.s1
  have hq5 : q.room ≤ 65536 := hqok.r1
  have HQO := Lib.hid hqok
  have HQ := Lib.hid hq
  clear hq hn hqok
  go_wp2_with fail
  go_loopw [9, 10] (fun av iv wr => RFindR w b0 r k q (.slice a n cap) A f c n av iv wr) (fun _ iv _ => n - (intOf iv).toNat)
  case atStart => exact ⟨0, Nat.zero_le _, rfl, by rw [atOf_zero], HF2.out⟩
  obtain ⟨i, hi, rfl, rfl, hF⟩ := hrel
  have HFR := Lib.hid hF
  clear hF HF2
  have ru := HFR.out.now
  by_cases hlt : i < n
  · have hil : i < q.l.length := by rw [HN.out]; exact hlt
    obtain ⟨g, cap', e, _, _⟩ := HFR.out.core.head (by omega)
    rw [HN.out] at e
    injection e with e1 e2 e3
    subst e1 e3
    obtain ⟨m, hm⟩ : ∃ m : Sough.PMsg, q.l[i]'hil = m := ⟨_, rfl⟩
    have hmem : m ∈ q.l := hm ▸ List.getElem_mem hil
    have hmo := HQO.out.each m hmem
    obtain ⟨ga, hga⟩ : ∃ ga, (A m.id).1 = ga := ⟨_, rfl⟩
    obtain ⟨ca, hca⟩ : ∃ ca, (A m.id).2 = ca := ⟨_, rfl⟩
    have hcm : ∀ x : Later wr, x.world.cell? ⟨g, i * 2, none⟩ = some (.slice (some ⟨ga, 0, none⟩) m.parts.length ca) ∧ x.world.cell? ⟨ga, 0, none⟩ = some (.int .u64 m.id) := fun x => by
      have h1 := ((HFR.out.later x.below).core.msg HN.out hil).1
      have h2 := ((HFR.out.later x.below).core.part hmem (k := 0) (by have := hmo.some; omega)).1
      simp only [hm, hga, hca, Nat.zero_mul] at h1 h2
      exact ⟨h1, h2⟩
    have hp1 := hmo.some
    have hp2 : m.parts.length ≤ 16 := by have := hmo.few; have := hmo.c2; omega
    have hid : m.id = f.id ↔ i = c := by rw [← hm]; exact HID.out i hil
    have HFI := Lib.hid hid
    clear hmem hmo hga hca hm hil hid
    have rr := HFR.out.rules
    by_cases he : m.id = f.id
    · have hic : i = c := HFI.out.1 he
      have d1 : ((m.id : Int) == f.id) = true := by simp; omega
      have hat : atOf c (i + 1) = i := by rw [← hic]; exact atOf_hit i
      have HAT := Lib.hid hat
      clear he hic hat
      go_wp2_with fail
      refine wp_region_later (by kernel_rfl) (by kernel_rfl) ?_
      repeat go_big_quiet_step (fail)
      refine wpQuiet_nil ?_
      rintro ⟨w3, hb3⟩
      change Exit.then _ _ _ _ w3
      have HF3 := Lib.hid (HFR.out.later hb3)
      clear hb3 HFR
      clear hcm rr ru
      go_wp2_with fail
      go_roundw
      case rel => exact ⟨i + 1, hlt, by go_num, by rw [HAT.out], HF3.out⟩
      case measure => simp [intOf]; omega
    · have hic : i ≠ c := fun e => he (HFI.out.2 e)
      have d1 : ((m.id : Int) == f.id) = false := by simp; omega
      have hat := atOf_miss hic
      have HAT := Lib.hid hat
      clear he hic hat
      go_wp2_with fail
      refine wp_region_later (by kernel_rfl) (by kernel_rfl) ?_
      repeat go_big_quiet_step (fail)
      refine wpQuiet_nil ?_
      rintro ⟨w3, hb3⟩
      change Exit.then _ _ _ _ w3
      have HF3 := Lib.hid (HFR.out.later hb3)
      clear hb3 HFR
      clear hcm rr ru
      go_wp2_with fail
      go_roundw
      case rel => exact ⟨i + 1, hlt, by go_num, by rw [HAT.out], HF3.out⟩
      case measure => simp [intOf]; omega
  obtain rfl : i = n := by omega
  clear hlt hi
  have hci : c < i := by rw [← HN.out, HL.out, ← HCC.out]; simp
  have hat := atOf_some hci
  rw [hat]; clear hat
  go_wp2_with fail
  refine (rheld_any wr HFR.out.core HQO.out).mono ?_
  rintro e w4 ⟨rfl, rfl⟩
  rw [HN.out]
  obtain ⟨g, cap', e, hcap', hmax'⟩ := HFR.out.core.head (by rw [HN.out]; omega)
  rw [HN.out] at e hcap'
  injection e with e1 e2 e3
  subst e1 e3
  have hmo := HQO.out.each m HMEM.out
  have hp1 := hmo.some
  have hp2 : m.parts.length ≤ 16 := by have := hmo.few; have := hmo.c2; omega
  have HMO := Lib.hid hmo
  obtain ⟨ga, hga⟩ : ∃ ga, (A m.id).1 = ga := ⟨_, rfl⟩
  obtain ⟨ca, hca⟩ : ∃ ca, (A m.id).2 = ca := ⟨_, rfl⟩
  have HGA := Lib.hid hga; have HCA := Lib.hid hca
  have hcm := HFR.out.at HN.out HL.out HCC.out hga hca
  have hcm0 := hcm ⟨wr, Below.refl _ _⟩
  have hct : ∀ x : Later wr, x.world.cell? ⟨ga, 2, none⟩ = some (.int .i64 m.count) := fun x => by
    have := (HFR.out.part HMEM.out hga (j := 0) (by omega) x).2
    simpa using this
  have rr := HFR.out.rules
  clear hmo hga hca hcm
  go_wp2_with fail
  have hb : ((m.count : Int) != f.count) = false := by have := HGOOD.out; simp; omega
  refine wp_region_later (by kernel_rfl) (by kernel_rfl) ?_
  repeat go_big_quiet_step (fail)
  refine wpQuiet_nil ?_
  rintro ⟨w5, hb3⟩
  change Exit.then _ _ _ _ w5
  have HF5 := Lib.hid (HFR.out.later hb3)
  clear hb3 HFR
  clear rr ru hct hcm0 hb
  go_wp2_with fail
  go_loopw [14] (fun iv wr => RTwR w b0 r k q (.slice (some ⟨g, 0, none⟩) i cap) A f m iv wr) (fun iv _ => m.parts.length - (intOf iv).toNat)
  case atStart => exact ⟨0, Nat.zero_le _, rfl, fun _ _ h => absurd h (Nat.not_lt_zero _), HF5.out⟩
  obtain ⟨j, hj, rfl, hno, hF⟩ := hrel
  have HFT := Lib.hid hF; have HNOT := Lib.hid hno
  clear hF hno HF5
  by_cases hlt : j < m.parts.length
  · have hpt : ∀ x : Later wr, x.world.cell? ⟨ga, j * 4 + 1, none⟩ = some (.int .i64 (m.parts[j]'hlt).1) := fun x => (HFT.out.part HMEM.out HGA.out hlt x).1
    have rr := HFT.out.rules
    have hix : 0 ≤ f.index := HF.out.2.2.2.2.1
    have he : (m.parts[j]'hlt).1 ≠ f.index.toNat := by
      have := List.any_eq_false.1 HTW.out _ (List.getElem_mem hlt)
      simpa using this
    have d1 : (((m.parts[j]'hlt).1 : Int) == f.index) = false := by simp; omega
    have HNX : Hid (∀ i (hi : i < m.parts.length), i < j + 1 → m.parts[i].1 ≠ f.index.toNat) := Lib.hid fun i hi h => by
      by_cases e : i = j
      · subst e; exact he
      · exact HNOT.out i hi (by omega)
    clear he hix
    go_wp2_with fail
    refine wp_region_later (by kernel_rfl) (by kernel_rfl) ?_
    repeat go_big_quiet_step (fail)
    refine wpQuiet_nil ?_
    rintro ⟨w6, hb3⟩
    change Exit.then _ _ _ _ w6
    have HF6 := Lib.hid (HFT.out.later hb3)
    clear hb3 HFT
    clear rr hpt d1
    go_wp2_with fail
    go_roundw
    case rel => exact ⟨j + 1, hlt, by go_num, HNX.out, HF6.out⟩
    case measure => simp [intOf]; omega
  obtain rfl : j = m.parts.length := by omega
  clear hlt hj HNOT
  have rr := HFT.out.rules
  have hwr : IntKind.i64.wrap ((q.held : Int) + f.part.length) = (q.held : Int) + f.part.length := IntWalk.i64_in _ (by omega)
  go_wp2_with fail
  have d2 : decide ((q.room : Int) < (q.held : Int) + f.part.length) = true := by have := HFU.out; simp; omega
  refine wp_region_later (by kernel_rfl) (by kernel_rfl) ?_
  repeat go_big_quiet_step (fail)
  refine wpQuiet_nil ?_
  rintro ⟨w6, hb3⟩
  change Exit.then _ _ _ _ w6
  have HF6 := Lib.hid (HFT.out.later hb3)
  clear hb3 HFT
  have HA := Lib.hid (HF6.out.done (t := []) (b := false) (er := 8))
  clear rr d2 hwr
  go_wp2_with fail
  go_ret3
  exact HA.out

end Go.Proofs.Ytokphknnblpagaa
