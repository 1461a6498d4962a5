/- The walk of soughref13.Pool's Add: a message is begun. -/
import Derived.Test.YtokphknnblpagaaPrAdd
import Derived.Deep.RegionHeld3
import Derived.Deep.AppendLies
import Derived.Deep.RegionLaw
namespace Go.Proofs.Ytokphknnblpagaa
open Go.RowKit Go.Maps Go.ChangeMaps

theorem begun_frags {f : Sough.Frag} (hf : f.ok) (now : Nat) : Sough.fragsOf ⟨f.id, f.count.toNat, now, [(f.index.toNat, f.part)]⟩ = [f] := by
  obtain ⟨k1, k2, k3, k4, k5, k6, k7, k8⟩ := hf
  have e1 : ((f.index.toNat : Nat) : Int) = f.index := by omega
  have e2 : ((f.count.toNat : Nat) : Int) = f.count := by omega
  simp only [Sough.fragsOf, List.map_cons, List.map_nil, e1, e2]
theorem withA_row {A : Nat → Nat × Nat} {id a b : Nat} {l : List Sough.PMsg} (h : ∀ m ∈ l, m.id ≠ id) : l.flatMap (rmsgC (withA A id a b)) = l.flatMap (rmsgC A) := by
  induction l with
  | nil => rfl
  | cons x l ih =>
    rw [List.flatMap_cons, List.flatMap_cons, ih fun m hm => h m (List.mem_cons_of_mem _ hm)]
    have hx := h x (List.mem_cons_self ..)
    simp [rmsgC, withA, hx]

theorem RAF.begin {w0 w5 w6 : World} {b0 r k n cap gg cap2 now : Nat} {a : Option Addr} {q : Sough.Pool} {A : Nat → Nat × Nat} {f : Sough.Frag} {Y : Obj} (h : RAF w0 w5 b0 r k q (.slice a n cap) A f) (hn : q.l.length = n) (hno : ∀ m ∈ q.l, m.id ≠ f.id) (hf : f.ok)
    (hown : w6.ownsRow b0 71 2 (.slice (some ⟨gg, 0, none⟩) (n + 1) cap2) (n + 1) (q.l.flatMap (rmsgC A) ++ [.slice (some ⟨w5.heap.size, 0, none⟩) 1 1, .int .u64 now]))
    (hgrow : ((w5.alloc (.cells #[.int .u64 f.id, .int .i64 f.index, .int .i64 f.count, .string ⟨f.part.toArray⟩] 40)).alloc Y).drew.grownBy w6 (Value.slice a n cap).ownBlock) :
    RAddTo w0 b0 r (q.begin ⟨f.id, f.count.toNat, now, [(f.index.toNat, f.part)]⟩, [], false, 0) (.returned (.tuple #[.string ⟨#[]⟩, .bool false, .int .i64 0])) (w6.setCell ⟨r, 0, none⟩ (.slice (some ⟨gg, 0, none⟩) (n + 1) cap2)) := by
  have hr := h.core.lt
  have hrow := h.core.row
  rw [hn] at hrow
  have hs : w5.heap.size + 2 ≤ w6.heap.size := by have := hgrow.size; simp at this; omega
  -- the row's own block
  have hv : ∀ g cur T, w5.heap[g]? = some (Obj.cells cur T (0, 0)) → T ≠ TM → (Value.slice a n cap).ownBlock ≠ some g := fun g cur T hg hT e => by
    rcases hrow.2 with ⟨h1, _⟩ | ⟨g', cap', cur', hv, _, h1, _⟩
    · cases h1; simp [Value.ownBlock] at e
    · cases hv
      simp only [Value.ownBlock, Option.some.injEq] at e
      subst e
      exact type_ne hg h1 hT
  have old : ∀ i, i < w5.heap.size → (Value.slice a n cap).ownBlock ≠ some i → w6.heap[i]? = w5.heap[i]? := fun i hi hne =>
    (hgrow.block i (by simp; omega) (Ne.symm hne)).trans ((Below.heap_alloc _ _ _ (by rw [World.size_alloc]; omega)).trans (Below.heap_alloc _ _ _ hi))
  have old2 : ∀ i, i ≠ r → (w6.setCell ⟨r, 0, none⟩ (.slice (some ⟨gg, 0, none⟩) (n + 1) cap2)).heap[i]? = w6.heap[i]? := fun i hi => Below.heap_setCell _ _ _ _ hi
  have hr6 := (old r hr (hv r _ _ h.core.box (by decide))).trans h.core.box
  have hnew : w6.heap[w5.heap.size]? = some (.cells #[.int .u64 f.id, .int .i64 f.index, .int .i64 f.count, .string ⟨f.part.toArray⟩] TF (0, 0)) := by
    refine (hgrow.block _ (by simp; omega) ?_).trans ((Below.heap_alloc _ _ _ (by simp)).trans (heap_alloc_new _ _))
    intro e
    have := (hrow.lt _ e.symm).2
    omega
  refine ⟨rfl, ⟨.slice (some ⟨gg, 0, none⟩) (n + 1) cap2, withA A f.id w5.heap.size 1, box_set hr6, ?_, fun m hm => ?_, h.core.low⟩, h.turned.trans ⟨?_, ?_, ?_, ?_, fun i hi => ?_⟩⟩
  · have hk := own_kept (w' := w6.setCell ⟨r, 0, none⟩ (.slice (some ⟨gg, 0, none⟩) (n + 1) cap2)) hown fun g' cur hg' => old2 g' fun e => by
      subst e
      exact type_ne hr6 hg' (by decide)
    show World.ownsRow _ b0 TM 2 _ (q.l ++ [_]).length ((q.l ++ [_]).flatMap _)
    rw [List.flatMap_append, withA_row hno, List.length_append, hn]
    have e1 : [(Sough.PMsg.mk f.id f.count.toNat now [(f.index.toNat, f.part)])].flatMap (rmsgC (withA A f.id w5.heap.size 1)) = [.slice (some ⟨w5.heap.size, 0, none⟩) 1 1, .int .u64 now] := by simp [rmsgC, withA]
    rw [e1]
    exact hk
  · rcases List.mem_append.1 hm with hm | hm
    · have ew : withA A f.id w5.heap.size 1 m.id = A m.id := by simp [withA, hno m hm]
      rw [ew]
      refine own_kept (h.core.parts m hm) fun g cur hg => ?_
      rw [old2 g fun e => by subst e; exact type_ne h.core.box hg (by decide)]
      exact old g (lt_of_block hg) (hv g _ _ hg (by decide))
    · simp only [List.mem_singleton] at hm
      subst hm
      rw [begun_frags hf]
      have ew : withA A f.id w5.heap.size 1 f.id = (w5.heap.size, 1) := by simp [withA]
      simp only [ew]
      have hb : b0 ≤ w5.heap.size := by have := h.core.low; omega
      exact ⟨rfl, .inr ⟨w5.heap.size, 1, _, rfl, hb, (old2 _ (by omega)).trans hnew, Nat.le_refl _, by unfold maxLen; omega, rfl, rfl⟩⟩
  · exact hgrow.os
  · exact hgrow.tape
  · exact hgrow.output
  · show _ ≤ (w6.heap.modify _ _).size; simp; omega
  · by_cases e : i = r
    · subst e; exact .inr ⟨h.core.low, _, _, h.core.box, .inl rfl⟩
    · rw [old2 i e]
      by_cases e2 : (Value.slice a n cap).ownBlock = some i
      · rcases hrow.2 with ⟨h1, _⟩ | ⟨g', cap', cur', hv', hb', h1, _⟩
        · cases h1; simp [Value.ownBlock] at e2
        · cases hv'
          simp only [Value.ownBlock, Option.some.injEq] at e2
          subst e2
          exact .inr ⟨hb', _, _, h1, .inr rfl⟩
      · exact .inl (old i hi e2)

set_option maxRecDepth 100000 in
set_option maxHeartbeats 3200000 in
theorem radd_begin {b0 r now : Nat} {st : Sough.Pool} {f : Sough.Frag} (w : World) (h : RefAt w b0 r st) (hok : st.Ok) (hnow : now < 18446744073709551616) (hf : f.ok) (hc : ¬ f.count = 1) (hn : (st.expire now).find f.id = none)
    (hfull : ¬ ((st.expire now).slots ≤ (st.expire now).l.length ∨ (st.expire now).room < (st.expire now).held + f.part.length)) :
    Calls Try.prog 15 #[.pointer (some ⟨r, 0, none⟩), .agg #[.int .u64 f.id, .int .i64 f.index, .int .i64 f.count, .string ⟨f.part.toArray⟩], .int .u64 now] w (RAddTo w b0 r ((st.expire now).begin ⟨f.id, f.count.toNat, now, [(f.index.toNat, f.part)]⟩, [], false, 0)) := by
  have hr : f.right = true := (Sough.right_iff f).2 hf
  have HP := Lib.hid h; have HOK := Lib.hid hok; have HF := Lib.hid hf; have HC := Lib.hid hc; have HFU := Lib.hid hfull
  obtain ⟨c, hcc⟩ : ∃ c, c = (st.expire now).l.length := ⟨_, rfl⟩
  have hnone := Sough.find_none hn
  have HID : Hid (∀ (i : Nat) (hi : i < (st.expire now).l.length), ((st.expire now).l[i].id = f.id ↔ i = c)) := Lib.hid fun i hi => ⟨fun e => absurd e (hnone _ (List.getElem_mem hi)), fun e => by omega⟩
  have HCC := Lib.hid hcc
  have HNO := Lib.hid hnone
  clear h hf hok hc hn hfull hcc hnone
  go_enter Try.func15, Try.ntmps15
  go_wp2_with fail
  have HB := Lib.hid ((Mem.start w).alloc (.cells #[.int .u64 f.id, .int .i64 f.index, .int .i64 f.count, .string ⟨f.part.toArray⟩] 40))
  generalize w.alloc (.cells #[.int .u64 f.id, .int .i64 f.index, .int .i64 f.count, .string ⟨f.part.toArray⟩] 40) = W1 at *
  refine (rright_as hr _).mono ?_; rintro e w1 ⟨rfl, hb1⟩
  have HB1 := Lib.hid (HB.out.later hb1)
  clear hb1 HB
  have ec : (f.count == (1 : Int)) = false := by have := HC.out; simp; omega
  obtain ⟨lv0, A, hc0⟩ := HP.out.later HB1.out.bel
  have CE := Lib.hid (rexpire_any w1 hc0 HOK.out hnow)
  have hk1 := HB1.out.get 0 rfl
  have HT1 := Lib.hid (RTurned.below (b0 := b0) HB1.out.bel)
  have HC0 := Lib.hid hc0
  obtain ⟨lv00, A00, hc00⟩ := HP.out
  have HLT := Lib.hid hc00.lt
  have HK1 := Lib.hid hk1
  obtain ⟨k, hk⟩ : ∃ k, k = w.heap.size := ⟨_, rfl⟩
  have HK := Lib.hid hk
  rw [← hk] at HK1 ⊢
  clear hc0 hk1 hk HB1 hc00
  go_wp2_with fail
  refine CE.out.mono ?_
  rintro e w2 ⟨rfl, lv, hc2, ht2⟩
  have HF2 : Hid (RAF w w2 b0 r k (st.expire now) lv A f) := Lib.hid ⟨hc2, (ht2.block k (lt_of_block HK1.out) (fun h => by have := HLT.out; rw [← HK.out] at this; simp at h; omega)).trans HK1.out, HT1.out.trans (RTurned.of ht2 (fun i hi => by simp only [List.mem_singleton] at hi; subst hi; exact ⟨HC0.out.low, _, _, HC0.out.box, .inl rfl⟩)), by rw [HK.out]; exact Nat.le_refl _⟩
  clear hc2 ht2 CE HK1 HT1 HC0
  have ru := HF2.out.now
  clear hr
  generalize hq : st.expire now = q at *
  obtain ⟨a, cap, rfl⟩ := HF2.out.core.shape
  obtain ⟨n, hn⟩ : ∃ n, q.l.length = n := ⟨_, rfl⟩
  have HN := Lib.hid hn
  rw [hn] at HF2 ru
  have hqok : q.Ok := by rw [← hq]; exact HOK.out.expire now
  have hq1 : q.held ≤ 100000 := by have := hqok.held; have := hqok.r1; omega
  have hq3 : n ≤ 16 := by have := hqok.len; have := hqok.s1; omega
  have hq2 : f.part.length ≤ 1000 := HF.out.2.2.2.2.2.2.2
  have hq4 : q.slots ≤ 16 := hqok.s1
  have hq5 : q.room ≤ 65536 := hqok.r1
  have HQO := Lib.hid hqok
  have HQ := Lib.hid hq
  clear hq hn hqok
  go_wp2_with fail
  go_loopw [9, 10] (fun av iv wr => RFindR w b0 r k q (.slice a n cap) A f c n av iv wr) (fun _ iv _ => n - (intOf iv).toNat)
  case atStart => exact ⟨0, Nat.zero_le _, rfl, by rw [atOf_zero], HF2.out⟩
  obtain ⟨i, hi, rfl, rfl, hF⟩ := hrel
  have HFR := Lib.hid hF
  clear hF HF2
  have ru := HFR.out.now
  by_cases hlt : i < n
  · have hil : i < q.l.length := by rw [HN.out]; exact hlt
    obtain ⟨g, cap', e, _, _⟩ := HFR.out.core.head (by omega)
    rw [HN.out] at e
    injection e with e1 e2 e3
    subst e1 e3
    obtain ⟨m, hm⟩ : ∃ m : Sough.PMsg, q.l[i]'hil = m := ⟨_, rfl⟩
    have hmem : m ∈ q.l := hm ▸ List.getElem_mem hil
    have hmo := HQO.out.each m hmem
    obtain ⟨ga, hga⟩ : ∃ ga, (A m.id).1 = ga := ⟨_, rfl⟩
    obtain ⟨ca, hca⟩ : ∃ ca, (A m.id).2 = ca := ⟨_, rfl⟩
    have hcm : ∀ x : Later wr, x.world.cell? ⟨g, i * 2, none⟩ = some (.slice (some ⟨ga, 0, none⟩) m.parts.length ca) ∧ x.world.cell? ⟨ga, 0, none⟩ = some (.int .u64 m.id) := fun x => by
      have h1 := ((HFR.out.later x.below).core.msg HN.out hil).1
      have h2 := ((HFR.out.later x.below).core.part hmem (k := 0) (by have := hmo.some; omega)).1
      simp only [hm, hga, hca, Nat.zero_mul] at h1 h2
      exact ⟨h1, h2⟩
    have hp1 := hmo.some
    have hp2 : m.parts.length ≤ 16 := by have := hmo.few; have := hmo.c2; omega
    have hid : m.id = f.id ↔ i = c := by rw [← hm]; exact HID.out i hil
    have HFI := Lib.hid hid
    clear hmem hmo hga hca hm hil hid
    have rr := HFR.out.rules
    by_cases he : m.id = f.id
    · have hic : i = c := HFI.out.1 he
      have d1 : ((m.id : Int) == f.id) = true := by simp; omega
      have hat : atOf c (i + 1) = i := by rw [← hic]; exact atOf_hit i
      have HAT := Lib.hid hat
      clear he hic hat
      go_wp2_with fail
      refine wp_region_later (by kernel_rfl) (by kernel_rfl) ?_
      repeat go_big_quiet_step (fail)
      refine wpQuiet_nil ?_
      rintro ⟨w3, hb3⟩
      change Exit.then _ _ _ _ w3
      have HF3 := Lib.hid (HFR.out.later hb3)
      clear hb3 HFR
      clear hcm rr ru
      go_wp2_with fail
      go_roundw
      case rel => exact ⟨i + 1, hlt, by go_num, by rw [HAT.out], HF3.out⟩
      case measure => simp [intOf]; omega
    · have hic : i ≠ c := fun e => he (HFI.out.2 e)
      have d1 : ((m.id : Int) == f.id) = false := by simp; omega
      have hat := atOf_miss hic
      have HAT := Lib.hid hat
      clear he hic hat
      go_wp2_with fail
      refine wp_region_later (by kernel_rfl) (by kernel_rfl) ?_
      repeat go_big_quiet_step (fail)
      refine wpQuiet_nil ?_
      rintro ⟨w3, hb3⟩
      change Exit.then _ _ _ _ w3
      have HF3 := Lib.hid (HFR.out.later hb3)
      clear hb3 HFR
      clear hcm rr ru
      go_wp2_with fail
      go_roundw
      case rel => exact ⟨i + 1, hlt, by go_num, by rw [HAT.out], HF3.out⟩
      case measure => simp [intOf]; omega
  obtain rfl : i = n := by omega
  clear hlt hi
  have hat : atOf c i = -1 := by rw [HCC.out, HN.out]; exact atOf_none
  rw [hat]
  clear hat
  go_wp2_with fail
  refine (rheld_any wr HFR.out.core HQO.out).mono ?_
  rintro e w4 ⟨rfl, rfl⟩
  rw [HN.out]
  have rr := HFR.out.rules
  clear ru
  have hwr : IntKind.i64.wrap ((q.held : Int) + f.part.length) = (q.held : Int) + f.part.length := IntWalk.i64_in _ (by omega)
  go_wp2_with fail
  have d1 : decide ((q.slots : Int) ≤ i) = false := by have := HFU.out; have := HN.out; simp; omega
  have d1' : decide (q.slots ≤ i) = false := by have := HFU.out; have := HN.out; simp; omega
  have d2 : decide ((q.room : Int) < (q.held : Int) + f.part.length) = false := by have := HFU.out; simp; omega
  refine wp_region_later (by kernel_rfl) (by kernel_rfl) ?_
  repeat go_big_quiet_step (fail)
  refine wpQuiet_nil ?_
  rintro ⟨w5, hb3⟩
  change Exit.then _ _ _ _ w5
  have HF5 := Lib.hid (HFR.out.later hb3)
  clear hb3 HFR
  clear rr d1 d1' d2 hwr
  go_wp2_with fail
  obtain ⟨u0, u1, u2, k0, k1, k2, k3⟩ := HF5.out.now
  have f0 : w5.frozen? ⟨r, 0, none⟩ = false := by simp [World.frozen?, HF5.out.core.box]
  have hlr := HF5.out.core.lt
  have hlk := lt_of_block HF5.out.box
  have hrow := HF5.out.core.row
  rw [HN.out] at hrow
  have hvr : (Value.slice a i cap).ownBlock ≠ some r := fun e => by
    rcases hrow.2 with ⟨h1, _⟩ | ⟨g', cap', cur, hv, _, h1, _⟩
    · cases h1; simp [Value.ownBlock] at e
    · cases hv
      simp only [Value.ownBlock, Option.some.injEq] at e
      subst e
      exact type_ne HF5.out.core.box h1 (by decide)
  have hvk : (Value.slice a i cap).ownBlock ≠ some k := fun e => by
    rcases hrow.2 with ⟨h1, _⟩ | ⟨g', cap', cur, hv, _, h1, _⟩
    · cases h1; simp [Value.ownBlock] at e
    · cases hv
      simp only [Value.ownBlock, Option.some.injEq] at e
      subst e
      exact type_ne HF5.out.box h1 (by decide)
  have hkr : k ≠ r := fun e => by
    have h1 := HF5.out.core.box
    rw [← e] at h1
    exact type_ne HF5.out.box h1 (by decide)
  have hza : ∀ o o', ((w5.alloc o).alloc o').drew.heap[r]? = w5.heap[r]? := fun o o' => (Below.heap_alloc _ _ _ (by rw [World.size_alloc]; omega)).trans (Below.heap_alloc _ _ _ hlr)
  have hlow := HF5.out.core.low
  obtain ⟨i0, hi0, hz0, hz1, hz2⟩ := info_parts infoRMsg
  go_region_law
    ((refine step_append_lies _ (by rfl) _ _ _ (by rfl) b0 71 i0 _ 2 32 Try.underlying61 hi0 hz0 hz1 hz2 rfl (by omega) (.slice a i cap) i _ (by rfl) (((hrow.alloc _).alloc _).drew)
        ⟨w5.heap.size + 1, 0, none⟩ 1 1 [.slice (some ⟨w5.heap.size, 0, none⟩) 1 1, .int .u64 now] (by rfl) (by rfl) (World.news_of_block (cs := #[.slice (some ⟨w5.heap.size, 0, none⟩) 1 1, .int .u64 now]) (t := 71) (fr := (0, 0)) (by have e := heap_alloc_new (w5.alloc (.cells #[.int .u64 f.id, .int .i64 f.index, .int .i64 f.count, .string ⟨f.part.toArray⟩] 40)) (.cells #[.slice (some ⟨w5.heap.size, 0, none⟩) 1 1, .int .u64 now] 71); rw [World.size_alloc] at e; exact e)) (by simp [Value.oneCell'])
        (by omega) (by unfold maxLen; omega) (by omega) (by simp; omega) (w5.heap.size + 1 + 1) (by simp) ?_; intro gg cap2 w6 hown6 hgrow hat6 hlt6; have hr6 : w6.heap[r]? = w5.heap[r]? := (hgrow.block r (by simp; omega) (Ne.symm hvr)).trans (hza _ _); have u6 : w6.cell? ⟨r, 0, none⟩ = some (.slice a i cap) := (World.cell?_of_block (w := w5) hr6).trans u0; have f6 : w6.frozen? ⟨r, 0, none⟩ = false := (World.frozen?_of_block (w := w5) hr6).trans f0))
  all_goals
    change Exit.then _ _ _ _ (w6.setCell ⟨r, 0, none⟩ _)
    have HA := Lib.hid (HF5.out.begin (now := now) HN.out HNO.out HF.out hown6 hgrow)
    clear hown6 hgrow u6 f6 hr6 hat6 hlt6 u0 u1 u2 k0 k1 k2 k3 f0 hrow hza
    go_wp2_with fail
    go_ret3
    exact HA.out

end Go.Proofs.Ytokphknnblpagaa
