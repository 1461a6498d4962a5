/- The walk of soughref13.Pool's Add: what is wrong, what is whole at once, what is begun. -/
import Derived.Test.YtokphknnblpagaaPrExpire
import Derived.Deep.RegionHeld3
import Derived.Deep.AppendLies
namespace Go.Proofs.Ytokphknnblpagaa
open Go.RowKit Go.Maps Go.ChangeMaps

def RAddTo (w : World) (b0 r : Nat) (res : Sough.Pool × List UInt8 × Bool × Nat) (e : Ending) (w' : World) : Prop :=
  e = .returned (.tuple #[.string ⟨res.2.1.toArray⟩, .bool res.2.2.1, .int .i64 res.2.2.2]) ∧ RefAt w' b0 r res.1 ∧ RTurned b0 w w'

/-- The call under way. -/
structure RAF (w0 w : World) (b0 r k : Nat) (q : Sough.Pool) (lv : Value) (A : Nat → Nat × Nat) (f : Sough.Frag) : Prop where
  core : RCore w b0 r lv q A
  box : w.heap[k]? = some (.cells #[.int .u64 f.id, .int .i64 f.index, .int .i64 f.count, .string ⟨f.part.toArray⟩] 40 (0, 0))
  turned : RTurned b0 w0 w
  new : w0.heap.size ≤ k

section
variable {w0 w w' : World} {b0 r k : Nat} {q : Sough.Pool} {lv : Value} {A : Nat → Nat × Nat} {f : Sough.Frag}
theorem RAF.later (h : RAF w0 w b0 r k q lv A f) (hb : Below w.heap.size w w') : RAF w0 w' b0 r k q lv A f :=
  ⟨h.core.later hb, (hb.block k (lt_of_block h.box)).trans h.box, h.turned.trans (RTurned.below hb), h.new⟩
theorem RAF.rules (h : RAF w0 w b0 r k q lv A f) : ∀ x : Later w, x.world.cell? ⟨r, 0, none⟩ = some lv ∧ x.world.cell? ⟨r, 1, none⟩ = some (.int .i64 q.slots) ∧ x.world.cell? ⟨r, 2, none⟩ = some (.int .i64 q.room) ∧
    x.world.cell? ⟨k, 0, none⟩ = some (.int .u64 f.id) ∧ x.world.cell? ⟨k, 1, none⟩ = some (.int .i64 f.index) ∧ x.world.cell? ⟨k, 2, none⟩ = some (.int .i64 f.count) ∧ x.world.cell? ⟨k, 3, none⟩ = some (.string ⟨f.part.toArray⟩) := fun x => by
  have h1 := cells3 (h.later x.below).core.box
  have h2 := cells4 (h.later x.below).box
  exact ⟨h1.1, h1.2.1, h1.2.2, h2.1, h2.2.1, h2.2.2.1, h2.2.2.2.1⟩
theorem RAF.now (h : RAF w0 w b0 r k q lv A f) : w.cell? ⟨r, 0, none⟩ = some lv ∧ w.cell? ⟨r, 1, none⟩ = some (.int .i64 q.slots) ∧ w.cell? ⟨r, 2, none⟩ = some (.int .i64 q.room) ∧
    w.cell? ⟨k, 0, none⟩ = some (.int .u64 f.id) ∧ w.cell? ⟨k, 1, none⟩ = some (.int .i64 f.index) ∧ w.cell? ⟨k, 2, none⟩ = some (.int .i64 f.count) ∧ w.cell? ⟨k, 3, none⟩ = some (.string ⟨f.part.toArray⟩) := h.rules ⟨w, Below.refl _ _⟩
theorem RAF.done (h : RAF w0 w b0 r k q lv A f) {t : List UInt8} {b : Bool} {er : Nat} : RAddTo w0 b0 r (q, t, b, er) (.returned (.tuple #[.string ⟨t.toArray⟩, .bool b, .int .i64 er])) w := ⟨rfl, ⟨lv, A, h.core⟩, h.turned⟩
end


set_option maxRecDepth 100000 in
set_option maxHeartbeats 1600000 in
theorem radd_bad {b0 r now : Nat} {st : Sough.Pool} {f : Sough.Frag} (w : World) (h : RefAt w b0 r st) (hf : ¬ f.ok) :
    Calls Try.prog 15 #[.pointer (some ⟨r, 0, none⟩), .agg #[.int .u64 f.id, .int .i64 f.index, .int .i64 f.count, .string ⟨f.part.toArray⟩], .int .u64 now] w (RAddTo w b0 r (st, [], false, 1)) := by
  have hr : f.right = false := by rw [Bool.eq_false_iff]; exact fun h => hf ((Sough.right_iff f).1 h)
  have HP := Lib.hid h
  clear h hf
  go_enter Try.func15, Try.ntmps15
  go_wp2_with fail
  have HB := Lib.hid ((Mem.start w).alloc (.cells #[.int .u64 f.id, .int .i64 f.index, .int .i64 f.count, .string ⟨f.part.toArray⟩] 40))
  generalize w.alloc (.cells #[.int .u64 f.id, .int .i64 f.index, .int .i64 f.count, .string ⟨f.part.toArray⟩] 40) = W1 at *
  refine (rright_as hr _).mono ?_; rintro e w1 ⟨rfl, hb1⟩
  have HB1 := Lib.hid (HB.out.later hb1)
  clear hb1 HB
  have HA : Hid (RAddTo w b0 r (st, [], false, 1) (.returned (.tuple #[.string ⟨#[]⟩, .bool false, .int .i64 1])) w1) := Lib.hid ⟨rfl, HP.out.later HB1.out.bel, RTurned.below HB1.out.bel⟩
  go_wp2_with fail
  go_ret3
  exact HA.out


set_option maxRecDepth 100000 in
set_option maxHeartbeats 1600000 in
theorem radd_one {b0 r now : Nat} {st : Sough.Pool} {f : Sough.Frag} (w : World) (h : RefAt w b0 r st) (hok : st.Ok) (hnow : now < 18446744073709551616) (hf : f.ok) (hc : f.count = 1) :
    Calls Try.prog 15 #[.pointer (some ⟨r, 0, none⟩), .agg #[.int .u64 f.id, .int .i64 f.index, .int .i64 f.count, .string ⟨f.part.toArray⟩], .int .u64 now] w (RAddTo w b0 r (st.expire now, f.part, true, 0)) := by
  have hr : f.right = true := (Sough.right_iff f).2 hf
  have HP := Lib.hid h; have HOK := Lib.hid hok; have HF := Lib.hid hf; have HC := Lib.hid hc
  clear h hf hok hc
  go_enter Try.func15, Try.ntmps15
  go_wp2_with fail
  have HB := Lib.hid ((Mem.start w).alloc (.cells #[.int .u64 f.id, .int .i64 f.index, .int .i64 f.count, .string ⟨f.part.toArray⟩] 40))
  generalize w.alloc (.cells #[.int .u64 f.id, .int .i64 f.index, .int .i64 f.count, .string ⟨f.part.toArray⟩] 40) = W1 at *
  refine (rright_as hr _).mono ?_; rintro e w1 ⟨rfl, hb1⟩
  have HB1 := Lib.hid (HB.out.later hb1)
  clear hb1 HB
  obtain ⟨lv0, A, hc0⟩ := HP.out.later HB1.out.bel
  have CE := Lib.hid (rexpire_any w1 hc0 HOK.out hnow)
  have hk1 := HB1.out.get 0 rfl
  have HT1 := Lib.hid (RTurned.below (b0 := b0) HB1.out.bel)
  have HC0 := Lib.hid hc0
  obtain ⟨lv00, A00, hc00⟩ := HP.out
  have HLT := Lib.hid hc00.lt
  have HK1 := Lib.hid hk1
  obtain ⟨k, hk⟩ : ∃ k, k = w.heap.size := ⟨_, rfl⟩
  have HK := Lib.hid hk
  rw [← hk] at HK1 ⊢
  clear hc0 hk1 hk HB1 hc00
  go_wp2_with fail
  refine CE.out.mono ?_
  rintro e w2 ⟨rfl, lv, hc2, ht2⟩
  have HF2 : Hid (RAF w w2 b0 r k (st.expire now) lv A f) := Lib.hid ⟨hc2, (ht2.block k (lt_of_block HK1.out) (fun h => by have := HLT.out; rw [← HK.out] at this; simp at h; omega)).trans HK1.out, HT1.out.trans (RTurned.of ht2 (fun i hi => by simp only [List.mem_singleton] at hi; subst hi; exact ⟨HC0.out.low, _, _, HC0.out.box, .inl rfl⟩)), by rw [HK.out]; exact Nat.le_refl _⟩
  clear hc2 ht2 CE HK1 HT1 HC0
  have ru := HF2.out.now
  have HA := Lib.hid (HF2.out.done (t := f.part) (b := true) (er := 0))
  rw [HC.out] at ru
  go_wp2_with fail
  go_ret3
  exact HA.out

/-- The number of the one that is looked for, as far as it was come to. -/
def atOf (c i : Nat) : Int := if c < i then c else -1
theorem atOf_zero (c : Nat) : atOf c 0 = -1 := by simp [atOf]
theorem atOf_hit (i : Nat) : atOf i (i + 1) = i := by simp [atOf]
theorem atOf_miss {c i : Nat} (h : i ≠ c) : atOf c (i + 1) = atOf c i := by
  unfold atOf
  by_cases e : c < i
  · rw [if_pos e, if_pos (by omega)]
  · rw [if_neg e, if_neg (by omega)]
theorem atOf_none {c : Nat} : atOf c c = -1 := by simp [atOf]
theorem atOf_some {c n : Nat} (h : c < n) : atOf c n = c := by simp [atOf, h]
def RFindR (w0 : World) (b0 r k : Nat) (q : Sough.Pool) (lv : Value) (A : Nat → Nat × Nat) (f : Sough.Frag) (c n : Nat) (av iv : Value) (wr : World) : Prop :=
  ∃ i : Nat, i ≤ n ∧ iv = .int .i64 i ∧ av = .int .i64 (atOf c i) ∧ RAF w0 wr b0 r k q lv A f




set_option maxRecDepth 100000 in
set_option maxHeartbeats 3200000 in
theorem radd_full {b0 r now : Nat} {st : Sough.Pool} {f : Sough.Frag} (w : World) (h : RefAt w b0 r st) (hok : st.Ok) (hnow : now < 18446744073709551616) (hf : f.ok) (hc : ¬ f.count = 1) (hn : (st.expire now).find f.id = none)
    (hfull : (st.expire now).slots ≤ (st.expire now).l.length ∨ (st.expire now).room < (st.expire now).held + f.part.length) :
    Calls Try.prog 15 #[.pointer (some ⟨r, 0, none⟩), .agg #[.int .u64 f.id, .int .i64 f.index, .int .i64 f.count, .string ⟨f.part.toArray⟩], .int .u64 now] w (RAddTo w b0 r (st.expire now, [], false, 8)) := by
  have hr : f.right = true := (Sough.right_iff f).2 hf
  have HP := Lib.hid h; have HOK := Lib.hid hok; have HF := Lib.hid hf; have HC := Lib.hid hc; have HFU := Lib.hid hfull
  obtain ⟨c, hcc⟩ : ∃ c, c = (st.expire now).l.length := ⟨_, rfl⟩
  have HID : Hid (∀ (i : Nat) (hi : i < (st.expire now).l.length), ((st.expire now).l[i].id = f.id ↔ i = c)) := Lib.hid fun i hi => ⟨fun e => absurd e (Sough.find_none hn _ (List.getElem_mem hi)), fun e => by omega⟩
  have HCC := Lib.hid hcc
  clear h hf hok hc hn hfull hcc
  go_enter Try.func15, Try.ntmps15
  go_wp2_with fail
  have HB := Lib.hid ((Mem.start w).alloc (.cells #[.int .u64 f.id, .int .i64 f.index, .int .i64 f.count, .string ⟨f.part.toArray⟩] 40))
  generalize w.alloc (.cells #[.int .u64 f.id, .int .i64 f.index, .int .i64 f.count, .string ⟨f.part.toArray⟩] 40) = W1 at *
  refine (rright_as hr _).mono ?_; rintro e w1 ⟨rfl, hb1⟩
  have HB1 := Lib.hid (HB.out.later hb1)
  clear hb1 HB
  have ec : (f.count == (1 : Int)) = false := by have := HC.out; simp; omega
  obtain ⟨lv0, A, hc0⟩ := HP.out.later HB1.out.bel
  have CE := Lib.hid (rexpire_any w1 hc0 HOK.out hnow)
  have hk1 := HB1.out.get 0 rfl
  have HT1 := Lib.hid (RTurned.below (b0 := b0) HB1.out.bel)
  have HC0 := Lib.hid hc0
  obtain ⟨lv00, A00, hc00⟩ := HP.out
  have HLT := Lib.hid hc00.lt
  have HK1 := Lib.hid hk1
  obtain ⟨k, hk⟩ : ∃ k, k = w.heap.size := ⟨_, rfl⟩
  have HK := Lib.hid hk
  rw [← hk] at HK1 ⊢
  clear hc0 hk1 hk HB1 hc00
  go_wp2_with fail
  refine CE.out.mono ?_
  rintro e w2 ⟨rfl, lv, hc2, ht2⟩
  have HF2 : Hid (RAF w w2 b0 r k (st.expire now) lv A f) := Lib.hid ⟨hc2, (ht2.block k (lt_of_block HK1.out) (fun h => by have := HLT.out; rw [← HK.out] at this; simp at h; omega)).trans HK1.out, HT1.out.trans (RTurned.of ht2 (fun i hi => by simp only [List.mem_singleton] at hi; subst hi; exact ⟨HC0.out.low, _, _, HC0.out.box, .inl rfl⟩)), by rw [HK.out]; exact Nat.le_refl _⟩
  clear hc2 ht2 CE HK1 HT1 HC0
  have ru := HF2.out.now
  clear hr
  generalize hq : st.expire now = q at *
  obtain ⟨a, cap, rfl⟩ := HF2.out.core.shape
  obtain ⟨n, hn⟩ : ∃ n, q.l.length = n := ⟨_, rfl⟩
  have HN := Lib.hid hn
  rw [hn] at HF2 ru
  have hqok : q.Ok := by rw [← hq]; exact HOK.out.expire now
  have hq1 : q.held ≤ 100000 := by have := hqok.held; have := hqok.r1; omega
  have hq3 : n ≤ 16 := by have := hqok.len; have := hqok.s1; omega
  have hq2 : f.part.length ≤ 1000 := HF.out.2.2.2.2.2.2.2
  have hq4 : q.slots ≤ 16 := hqok.s1
  have hq5 : q.room ≤ 65536 := hqok.r1
  have HQO := Lib.hid hqok
  have HQ := Lib.hid hq
  clear hq hn hqok
  go_wp2_with fail
  go_loopw [9, 10] (fun av iv wr => RFindR w b0 r k q (.slice a n cap) A f c n av iv wr) (fun _ iv _ => n - (intOf iv).toNat)
  case atStart => exact ⟨0, Nat.zero_le _, rfl, by rw [atOf_zero], HF2.out⟩
  obtain ⟨i, hi, rfl, rfl, hF⟩ := hrel
  have HFR := Lib.hid hF
  clear hF HF2
  have ru := HFR.out.now
  by_cases hlt : i < n
  · have hil : i < q.l.length := by rw [HN.out]; exact hlt
    obtain ⟨g, cap', e, _, _⟩ := HFR.out.core.head (by omega)
    rw [HN.out] at e
    injection e with e1 e2 e3
    subst e1 e3
    obtain ⟨m, hm⟩ : ∃ m : Sough.PMsg, q.l[i]'hil = m := ⟨_, rfl⟩
    have hmem : m ∈ q.l := hm ▸ List.getElem_mem hil
    have hmo := HQO.out.each m hmem
    obtain ⟨ga, hga⟩ : ∃ ga, (A m.id).1 = ga := ⟨_, rfl⟩
    obtain ⟨ca, hca⟩ : ∃ ca, (A m.id).2 = ca := ⟨_, rfl⟩
    have hcm : ∀ x : Later wr, x.world.cell? ⟨g, i * 2, none⟩ = some (.slice (some ⟨ga, 0, none⟩) m.parts.length ca) ∧ x.world.cell? ⟨ga, 0, none⟩ = some (.int .u64 m.id) := fun x => by
      have h1 := ((HFR.out.later x.below).core.msg HN.out hil).1
      have h2 := ((HFR.out.later x.below).core.part hmem (k := 0) (by have := hmo.some; omega)).1
      simp only [hm, hga, hca, Nat.zero_mul] at h1 h2
      exact ⟨h1, h2⟩
    have hp1 := hmo.some
    have hp2 : m.parts.length ≤ 16 := by have := hmo.few; have := hmo.c2; omega
    have hid : m.id = f.id ↔ i = c := by rw [← hm]; exact HID.out i hil
    have HFI := Lib.hid hid
    clear hmem hmo hga hca hm hil hid
    have rr := HFR.out.rules
    by_cases he : m.id = f.id
    · have hic : i = c := HFI.out.1 he
      have d1 : ((m.id : Int) == f.id) = true := by simp; omega
      have hat : atOf c (i + 1) = i := by rw [← hic]; exact atOf_hit i
      have HAT := Lib.hid hat
      clear he hic hat
      go_wp2_with fail
      refine wp_region_later (by kernel_rfl) (by kernel_rfl) ?_
      repeat go_big_quiet_step (fail)
      refine wpQuiet_nil ?_
      rintro ⟨w3, hb3⟩
      change Exit.then _ _ _ _ w3
      have HF3 := Lib.hid (HFR.out.later hb3)
      clear hb3 HFR
      clear hcm rr ru
      go_wp2_with fail
      go_roundw
      case rel => exact ⟨i + 1, hlt, by go_num, by rw [HAT.out], HF3.out⟩
      case measure => simp [intOf]; omega
    · have hic : i ≠ c := fun e => he (HFI.out.2 e)
      have d1 : ((m.id : Int) == f.id) = false := by simp; omega
      have hat := atOf_miss hic
      have HAT := Lib.hid hat
      clear he hic hat
      go_wp2_with fail
      refine wp_region_later (by kernel_rfl) (by kernel_rfl) ?_
      repeat go_big_quiet_step (fail)
      refine wpQuiet_nil ?_
      rintro ⟨w3, hb3⟩
      change Exit.then _ _ _ _ w3
      have HF3 := Lib.hid (HFR.out.later hb3)
      clear hb3 HFR
      clear hcm rr ru
      go_wp2_with fail
      go_roundw
      case rel => exact ⟨i + 1, hlt, by go_num, by rw [HAT.out], HF3.out⟩
      case measure => simp [intOf]; omega
  obtain rfl : i = n := by omega
  clear hlt hi
  have hat : atOf c i = -1 := by rw [HCC.out, HN.out]; exact atOf_none
  rw [hat]
  clear hat
  go_wp2_with fail
  refine (rheld_any wr HFR.out.core HQO.out).mono ?_
  rintro e w4 ⟨rfl, rfl⟩
  rw [HN.out]
  have rr := HFR.out.rules
  clear ru
  have hwr : IntKind.i64.wrap ((q.held : Int) + f.part.length) = (q.held : Int) + f.part.length := IntWalk.i64_in _ (by omega)
  go_wp2_with fail
  by_cases h1 : q.slots ≤ i
  · have d1 : decide ((q.slots : Int) ≤ i) = true := by simp; omega
    have d1' : decide (q.slots ≤ i) = true := by simp; omega
    clear h1
    refine wp_region_later (by kernel_rfl) (by kernel_rfl) ?_
    repeat go_big_quiet_step (fail)
    refine wpQuiet_nil ?_
    rintro ⟨w5, hb3⟩
    change Exit.then _ _ _ _ w5
    have HF5 := Lib.hid (HFR.out.later hb3)
    clear hb3 HFR
    have HA := Lib.hid (HF5.out.done (t := []) (b := false) (er := 8))
    clear rr
    go_wp2_with fail
    go_ret3
    exact HA.out
  · have h2 : q.room < q.held + f.part.length := by have := HFU.out; have := HN.out; omega
    have d1 : decide ((q.slots : Int) ≤ i) = false := by simp; omega
    have d1' : decide (q.slots ≤ i) = false := by simp; omega
    have d2 : decide ((q.room : Int) < (q.held : Int) + f.part.length) = true := by simp; omega
    clear h1
    refine wp_region_later (by kernel_rfl) (by kernel_rfl) ?_
    repeat go_big_quiet_step (fail)
    refine wpQuiet_nil ?_
    rintro ⟨w5, hb3⟩
    change Exit.then _ _ _ _ w5
    have HF5 := Lib.hid (HFR.out.later hb3)
    clear hb3 HFR
    have HA := Lib.hid (HF5.out.done (t := []) (b := false) (er := 8))
    clear rr
    go_wp2_with fail
    go_ret3
    exact HA.out

end Go.Proofs.Ytokphknnblpagaa
