/- The walk of soughref13.Pool's Add: a part that is put to a message; the last one. -/
import Derived.Test.YtokphknnblpagaaPrAdd3
namespace Go.Proofs.Ytokphknnblpagaa
open Go.RowKit Go.Maps Go.ChangeMaps

theorem frag_of_push {m : Sough.PMsg} {f : Sough.Frag} (hf : f.ok) (hid : m.id = f.id) (hgood : (m.count : Int) = f.count) : Sough.fragsOf (m.push f.index.toNat f.part) = Sough.fragsOf m ++ [f] := by
  obtain ⟨k1, k2, k3, k4, k5, k6, k7, k8⟩ := hf
  have e1 : ((f.index.toNat : Nat) : Int) = f.index := by omega
  rw [Sough.fragsOf_push, e1, hid, hgood]

theorem withA_set {A : Nat → Nat × Nat} {l1 l2 : List Sough.PMsg} {m m' : Sough.PMsg} {a b : Nat} (hn : ((l1 ++ m :: l2).map (·.id)).Nodup) (hid : m'.id = m.id) (hsi : m'.since = m.since) :
    ((l1 ++ m :: l2).flatMap (rmsgC A)).set (l1.length * 2) (.slice (some ⟨a, 0, none⟩) m'.parts.length b) = (l1 ++ m' :: l2).flatMap (rmsgC (withA A m.id a b)) := by
  rw [List.map_append, List.map_cons, List.nodup_append, List.nodup_cons] at hn
  obtain ⟨_, ⟨h2, _⟩, h4⟩ := hn
  have n1 : ∀ x ∈ l1, x.id ≠ m.id := fun x hx => h4 x.id (List.mem_map_of_mem hx) m.id (List.mem_cons_self ..)
  have n2 : ∀ x ∈ l2, x.id ≠ m.id := fun x hx e => h2 (e ▸ List.mem_map_of_mem hx)
  rw [List.flatMap_append, List.flatMap_append, List.flatMap_cons, List.flatMap_cons, withA_row n1, withA_row n2]
  have hlen := len2 (rmsgC A) (fun _ => rfl) l1
  rw [List.set_append_right _ _ (by omega), hlen, Nat.sub_self]
  simp [rmsgC, withA, hid, hsi]

theorem RAF.put {w0 w8 : World} {b0 r k n np cap g c ga' ca' : Nat} {q : Sough.Pool} {A : Nat → Nat × Nat} {f : Sough.Frag} {m : Sough.PMsg} {l1 l2 : List Sough.PMsg} (h : RAF w0 w8 b0 r k q (.slice (some ⟨g, 0, none⟩) n cap) A f) (hn : q.l.length = n)
    (hl : q.l = l1 ++ m :: l2) (hc : l1.length = c) (hq : q.Ok) (hid : m.id = f.id) (hgood : (m.count : Int) = f.count) (hf : f.ok) (hnp : m.parts.length = np)
    (hown : w8.ownsRow b0 40 4 (.slice (some ⟨ga', 0, none⟩) (np + 1) ca') (np + 1) ((Sough.fragsOf m).flatMap fragCells ++ fragCells f)) :
    RAddTo w0 b0 r (q.put f.id f.index.toNat f.part, [], false, 0) (.returned (.tuple #[.string ⟨#[]⟩, .bool false, .int .i64 0])) (w8.setCell ⟨g, c * 2, none⟩ (.slice (some ⟨ga', 0, none⟩) (np + 1) ca')) := by
  have hids := hq.ids
  have hput : (q.put f.id f.index.toNat f.part).l = l1 ++ m.push f.index.toNat f.part :: l2 := by
    rw [← hid]
    show q.l.map _ = _
    rw [hl] at hids ⊢
    exact Sough.put_at hids _ _
  have hrow := h.core.row
  rw [hn] at hrow
  obtain ⟨cur, hg0⟩ : ∃ cur, w8.heap[g]? = some (.cells cur TM (0, 0)) := by
    rcases hrow.2 with ⟨h1, _⟩ | ⟨g', cap', cur', hv, _, h1, _⟩
    · cases h1
    · cases hv; exact ⟨_, h1⟩
  have hgb : b0 ≤ g := (hrow.lt g rfl).1
  have old : ∀ i, i ≠ g → (w8.setCell ⟨g, c * 2, none⟩ (.slice (some ⟨ga', 0, none⟩) (np + 1) ca')).heap[i]? = w8.heap[i]? := fun i hi => Below.heap_setCell _ _ _ _ hi
  have st := (hrow.stored (c * 2) (.slice (some ⟨ga', 0, none⟩) (np + 1) ca')).1
  refine ⟨rfl, ⟨.slice (some ⟨g, 0, none⟩) n cap, withA A m.id ga' ca', ?_, ?_, fun x hx => ?_, h.core.low⟩, h.turned.trans ⟨rfl, rfl, rfl, by simp [World.setCell], fun i hi => ?_⟩⟩
  · exact (old r fun e => by subst e; exact type_ne h.core.box hg0 (by decide)).trans h.core.box
  · rw [hput]
    have e1 := withA_set (A := A) (a := ga') (b := ca') (l1 := l1) (l2 := l2) (m := m) (m' := m.push f.index.toNat f.part) (by rw [← hl]; exact hids) rfl rfl
    have e2 : (m.push f.index.toNat f.part).parts.length = np + 1 := by simp [Sough.PMsg.push, hnp]
    rw [e2, hc, ← hl] at e1
    rw [← e1]
    have e3 : (l1 ++ m.push f.index.toNat f.part :: l2).length = n := by rw [← hn, hl]; simp
    rw [e3]
    exact st
  · rw [hput] at hx
    have hpp : x = m.push f.index.toNat f.part ∨ (x ∈ q.l ∧ x.id ≠ m.id) := by
      rw [hl]
      rw [hl, List.map_append, List.map_cons, List.nodup_append, List.nodup_cons] at hids
      obtain ⟨_, ⟨h2, _⟩, h4⟩ := hids
      rcases List.mem_append.1 hx with hx | hx
      · exact .inr ⟨List.mem_append_left _ hx, h4 x.id (List.mem_map_of_mem hx) m.id (List.mem_cons_self ..)⟩
      · rcases List.mem_cons.1 hx with hx | hx
        · exact .inl hx
        · exact .inr ⟨List.mem_append_right _ (List.mem_cons_of_mem _ hx), fun e => h2 (e ▸ List.mem_map_of_mem hx)⟩
    rcases hpp with rfl | ⟨hx, hne⟩
    · have ew : withA A m.id ga' ca' (m.push f.index.toNat f.part).id = (ga', ca') := by simp [withA, Sough.PMsg.push]
      have e2 : (m.push f.index.toNat f.part).parts.length = np + 1 := by simp [Sough.PMsg.push, hnp]
      rw [ew, e2, frag_of_push hf hid hgood, List.flatMap_append]
      simp only [List.flatMap_cons, List.flatMap_nil, List.append_nil]
      exact own_kept hown fun g' cur' hg' => old g' fun e => by subst e; exact type_ne hg0 hg' (by decide)
    · have ew : withA A m.id ga' ca' x.id = A x.id := by simp [withA, hne]
      rw [ew]
      exact own_kept (h.core.parts x hx) fun g' cur' hg' => old g' fun e => by subst e; exact type_ne hg0 hg' (by decide)
  · by_cases e : i = g
    · subst e; exact .inr ⟨hgb, _, _, hg0, .inr rfl⟩
    · exact .inl (old i e)


set_option maxRecDepth 100000 in
set_option maxHeartbeats 3200000 in
theorem radd_put {b0 r now : Nat} {st : Sough.Pool} {f : Sough.Frag} {m : Sough.PMsg} (w : World) (h : RefAt w b0 r st) (hok : st.Ok) (hnow : now < 18446744073709551616) (hf : f.ok) (hc : ¬ f.count = 1) (hn : (st.expire now).find f.id = some m)
    (hgood : (m.count : Int) = f.count) (htw : (m.parts.any fun p => p.1 == f.index.toNat) = false) (hfull : ¬ (st.expire now).room < (st.expire now).held + f.part.length) (hfew : m.parts.length + 1 ≠ m.count) :
    Calls Try.prog 15 #[.pointer (some ⟨r, 0, none⟩), .agg #[.int .u64 f.id, .int .i64 f.index, .int .i64 f.count, .string ⟨f.part.toArray⟩], .int .u64 now] w (RAddTo w b0 r ((st.expire now).put f.id f.index.toNat f.part, [], false, 0)) := by
  have HGOOD := Lib.hid hgood; have HTW := Lib.hid htw; have HFU := Lib.hid hfull; have HFEW := Lib.hid hfew
  clear hgood htw hfull hfew
  have hr : f.right = true := (Sough.right_iff f).2 hf
  have HP := Lib.hid h; have HOK := Lib.hid hok; have HF := Lib.hid hf; have HC := Lib.hid hc
  obtain ⟨hmem, hid⟩ := Sough.find_some hn
  obtain ⟨l1, l2, hl⟩ := List.append_of_mem hmem
  obtain ⟨c, hcc⟩ : ∃ c, l1.length = c := ⟨_, rfl⟩
  have HID : Hid (∀ (i : Nat) (hi : i < (st.expire now).l.length), ((st.expire now).l[i].id = f.id ↔ i = c)) := Lib.hid fun i hi => by rw [← hid, ← hcc]; exact Sough.at_iff hl (hok.expire now).ids i hi
  have HL := Lib.hid hl; have HMEM := Lib.hid hmem; have HMID := Lib.hid hid; have HCC := Lib.hid hcc
  clear h hf hok hc hn hl hmem hid hcc
  go_enter Try.func15, Try.ntmps15
  go_wp2_with fail
  have HB := Lib.hid ((Mem.start w).alloc (.cells #[.int .u64 f.id, .int .i64 f.index, .int .i64 f.count, .string ⟨f.part.toArray⟩] 40))
  generalize w.alloc (.cells #[.int .u64 f.id, .int .i64 f.index, .int .i64 f.count, .string ⟨f.part.toArray⟩] 40) = W1 at *
  refine (rright_as hr _).mono ?_; rintro e w1 ⟨rfl, hb1⟩
  have HB1 := Lib.hid (HB.out.later hb1)
  clear hb1 HB
  have ec : (f.count == (1 : Int)) = false := by have := HC.out; simp; omega
  obtain ⟨lv0, A, hc0⟩ := HP.out.later HB1.out.bel
  have CE := Lib.hid (rexpire_any w1 hc0 HOK.out hnow)
  have hk1 := HB1.out.get 0 rfl
  have HT1 := Lib.hid (RTurned.below (b0 := b0) HB1.out.bel)
  have HC0 := Lib.hid hc0
  obtain ⟨lv00, A00, hc00⟩ := HP.out
  have HLT := Lib.hid hc00.lt
  have HK1 := Lib.hid hk1
  obtain ⟨k, hk⟩ : ∃ k, k = w.heap.size := ⟨_, rfl⟩
  have HK := Lib.hid hk
  rw [← hk] at HK1 ⊢
  clear hc0 hk1 hk HB1 hc00
  go_wp2_with fail
  refine CE.out.mono ?_
  rintro e w2 ⟨rfl, lv, hc2, ht2⟩
  have HF2 : Hid (RAF w w2 b0 r k (st.expire now) lv A f) := Lib.hid ⟨hc2, (ht2.block k (lt_of_block HK1.out) (fun h => by have := HLT.out; rw [← HK.out] at this; simp at h; omega)).trans HK1.out, HT1.out.trans (RTurned.of ht2 (fun i hi => by simp only [List.mem_singleton] at hi; subst hi; exact ⟨HC0.out.low, _, _, HC0.out.box, .inl rfl⟩)), by rw [HK.out]; exact Nat.le_refl _⟩
  clear hc2 ht2 CE HK1 HT1 HC0
  have ru := HF2.out.now
  clear hr
  generalize hq : st.expire now = q at *
  obtain ⟨a, cap, rfl⟩ := HF2.out.core.shape
  obtain ⟨n, hn⟩ : ∃ n, q.l.length = n := ⟨_, rfl⟩
  have HN := Lib.hid hn
  rw [hn] at HF2 ru
  have hqok : q.Ok := by rw [← hq]; exact HOK.out.expire now
  have hq1 : q.held ≤ 100000 := by have := hqok.held; have := hqok.r1; omega
  have hq3 : n ≤ 16 := by have := hqok.len; have := hqok.s1; omega
  have hq2 : f.part.length ≤ 1000 := HF.out.2.2.2.2.2.2.2
  have hq4 : q.slots ≤ 16 := hqok.s1
  have hq5 : q.room ≤ 65536 := hqok.r1
  have HQO := Lib.hid hqok
  have HQ := Lib.hid hq
  clear hq hn hqok
  go_wp2_with fail
  go_loopw [9, 10] (fun av iv wr => RFindR w b0 r k q (.slice a n cap) A f c n av iv wr) (fun _ iv _ => n - (intOf iv).toNat)
  case atStart => exact ⟨0, Nat.zero_le _, rfl, by rw [atOf_zero], HF2.out⟩
  obtain ⟨i, hi, rfl, rfl, hF⟩ := hrel
  have HFR := Lib.hid hF
  clear hF HF2
  have ru := HFR.out.now
  by_cases hlt : i < n
  · have hil : i < q.l.length := by rw [HN.out]; exact hlt
    obtain ⟨g, cap', e, _, _⟩ := HFR.out.core.head (by omega)
    rw [HN.out] at e
    injection e with e1 e2 e3
    subst e1 e3
    obtain ⟨m, hm⟩ : ∃ m : Sough.PMsg, q.l[i]'hil = m := ⟨_, rfl⟩
    have hmem : m ∈ q.l := hm ▸ List.getElem_mem hil
    have hmo := HQO.out.each m hmem
    obtain ⟨ga, hga⟩ : ∃ ga, (A m.id).1 = ga := ⟨_, rfl⟩
    obtain ⟨ca, hca⟩ : ∃ ca, (A m.id).2 = ca := ⟨_, rfl⟩
    have hcm : ∀ x : Later wr, x.world.cell? ⟨g, i * 2, none⟩ = some (.slice (some ⟨ga, 0, none⟩) m.parts.length ca) ∧ x.world.cell? ⟨ga, 0, none⟩ = some (.int .u64 m.id) := fun x => by
      have h1 := ((HFR.out.later x.below).core.msg HN.out hil).1
      have h2 := ((HFR.out.later x.below).core.part hmem (k := 0) (by have := hmo.some; omega)).1
      simp only [hm, hga, hca, Nat.zero_mul] at h1 h2
      exact ⟨h1, h2⟩
    have hp1 := hmo.some
    have hp2 : m.parts.length ≤ 16 := by have := hmo.few; have := hmo.c2; omega
    have hid : m.id = f.id ↔ i = c := by rw [← hm]; exact HID.out i hil
    have HFI := Lib.hid hid
    clear hmem hmo hga hca hm hil hid
    have rr := HFR.out.rules
    by_cases he : m.id = f.id
    · have hic : i = c := HFI.out.1 he
      have d1 : ((m.id : Int) == f.id) = true := by simp; omega
      have hat : atOf c (i + 1) = i := by rw [← hic]; exact atOf_hit i
      have HAT := Lib.hid hat
      clear he hic hat
      go_wp2_with fail
      refine wp_region_later (by kernel_rfl) (by kernel_rfl) ?_
      repeat go_big_quiet_step (fail)
      refine wpQuiet_nil ?_
      rintro ⟨w3, hb3⟩
      change Exit.then _ _ _ _ w3
      have HF3 := Lib.hid (HFR.out.later hb3)
      clear hb3 HFR
      clear hcm rr ru
      go_wp2_with fail
      go_roundw
      case rel => exact ⟨i + 1, hlt, by go_num, by rw [HAT.out], HF3.out⟩
      case measure => simp [intOf]; omega
    · have hic : i ≠ c := fun e => he (HFI.out.2 e)
      have d1 : ((m.id : Int) == f.id) = false := by simp; omega
      have hat := atOf_miss hic
      have HAT := Lib.hid hat
      clear he hic hat
      go_wp2_with fail
      refine wp_region_later (by kernel_rfl) (by kernel_rfl) ?_
      repeat go_big_quiet_step (fail)
      refine wpQuiet_nil ?_
      rintro ⟨w3, hb3⟩
      change Exit.then _ _ _ _ w3
      have HF3 := Lib.hid (HFR.out.later hb3)
      clear hb3 HFR
      clear hcm rr ru
      go_wp2_with fail
      go_roundw
      case rel => exact ⟨i + 1, hlt, by go_num, by rw [HAT.out], HF3.out⟩
      case measure => simp [intOf]; omega
  obtain rfl : i = n := by omega
  clear hlt hi
  have hci : c < i := by rw [← HN.out, HL.out, ← HCC.out]; simp
  have hat := atOf_some hci
  rw [hat]; clear hat
  go_wp2_with fail
  refine (rheld_any wr HFR.out.core HQO.out).mono ?_
  rintro e w4 ⟨rfl, rfl⟩
  rw [HN.out]
  obtain ⟨g, cap', e, hcap', hmax'⟩ := HFR.out.core.head (by rw [HN.out]; omega)
  rw [HN.out] at e hcap'
  injection e with e1 e2 e3
  subst e1 e3
  have hmo := HQO.out.each m HMEM.out
  have hp1 := hmo.some
  have hp2 : m.parts.length ≤ 16 := by have := hmo.few; have := hmo.c2; omega
  have HMO := Lib.hid hmo
  obtain ⟨ga, hga⟩ : ∃ ga, (A m.id).1 = ga := ⟨_, rfl⟩
  obtain ⟨ca, hca⟩ : ∃ ca, (A m.id).2 = ca := ⟨_, rfl⟩
  have HGA := Lib.hid hga; have HCA := Lib.hid hca
  have hcm := HFR.out.at HN.out HL.out HCC.out hga hca
  have hcm0 := hcm ⟨wr, Below.refl _ _⟩
  have hct : ∀ x : Later wr, x.world.cell? ⟨ga, 2, none⟩ = some (.int .i64 m.count) := fun x => by
    have := (HFR.out.part HMEM.out hga (j := 0) (by omega) x).2
    simpa using this
  have rr := HFR.out.rules
  clear hmo hga hca hcm
  go_wp2_with fail
  have hb : ((m.count : Int) != f.count) = false := by have := HGOOD.out; simp; omega
  refine wp_region_later (by kernel_rfl) (by kernel_rfl) ?_
  repeat go_big_quiet_step (fail)
  refine wpQuiet_nil ?_
  rintro ⟨w5, hb3⟩
  change Exit.then _ _ _ _ w5
  have HF5 := Lib.hid (HFR.out.later hb3)
  clear hb3 HFR
  clear rr ru hct hcm0 hb
  go_wp2_with fail
  go_loopw [14] (fun iv wr => RTwR w b0 r k q (.slice (some ⟨g, 0, none⟩) i cap) A f m iv wr) (fun iv _ => m.parts.length - (intOf iv).toNat)
  case atStart => exact ⟨0, Nat.zero_le _, rfl, fun _ _ h => absurd h (Nat.not_lt_zero _), HF5.out⟩
  obtain ⟨j, hj, rfl, hno, hF⟩ := hrel
  have HFT := Lib.hid hF; have HNOT := Lib.hid hno
  clear hF hno HF5
  by_cases hlt : j < m.parts.length
  · have hpt : ∀ x : Later wr, x.world.cell? ⟨ga, j * 4 + 1, none⟩ = some (.int .i64 (m.parts[j]'hlt).1) := fun x => (HFT.out.part HMEM.out HGA.out hlt x).1
    have rr := HFT.out.rules
    have hix : 0 ≤ f.index := HF.out.2.2.2.2.1
    have he : (m.parts[j]'hlt).1 ≠ f.index.toNat := by
      have := List.any_eq_false.1 HTW.out _ (List.getElem_mem hlt)
      simpa using this
    have d1 : (((m.parts[j]'hlt).1 : Int) == f.index) = false := by simp; omega
    have HNX : Hid (∀ i (hi : i < m.parts.length), i < j + 1 → m.parts[i].1 ≠ f.index.toNat) := Lib.hid fun i hi h => by
      by_cases e : i = j
      · subst e; exact he
      · exact HNOT.out i hi (by omega)
    clear he hix
    go_wp2_with fail
    refine wp_region_later (by kernel_rfl) (by kernel_rfl) ?_
    repeat go_big_quiet_step (fail)
    refine wpQuiet_nil ?_
    rintro ⟨w6, hb3⟩
    change Exit.then _ _ _ _ w6
    have HF6 := Lib.hid (HFT.out.later hb3)
    clear hb3 HFT
    clear rr hpt d1
    go_wp2_with fail
    go_roundw
    case rel => exact ⟨j + 1, hlt, by go_num, HNX.out, HF6.out⟩
    case measure => simp [intOf]; omega
  obtain rfl : j = m.parts.length := by omega
  clear hlt hj HNOT
  have rr := HFT.out.rules
  have hwr : IntKind.i64.wrap ((q.held : Int) + f.part.length) = (q.held : Int) + f.part.length := IntWalk.i64_in _ (by omega)
  go_wp2_with fail
  have d2 : decide ((q.room : Int) < (q.held : Int) + f.part.length) = false := by have := HFU.out; simp; omega
  refine wp_region_later (by kernel_rfl) (by kernel_rfl) ?_
  repeat go_big_quiet_step (fail)
  refine wpQuiet_nil ?_
  rintro ⟨w6, hb3⟩
  change Exit.then _ _ _ _ w6
  have HF6 := Lib.hid (HFT.out.later hb3)
  clear hb3 HFT
  clear rr d2 hwr
  have HB6 : Hid (b0 ≤ w6.heap.size) := Lib.hid (by have := HF6.out.core.low; have := HF6.out.core.lt; omega)
  obtain ⟨j0, hj0, hy0, hy1, hy2⟩ := info_parts infoRFrag13
  obtain ⟨np, hnp⟩ : ∃ np, m.parts.length = np := ⟨_, rfl⟩
  have HNP := Lib.hid hnp
  rw [hnp] at hp1 hp2 ⊢
  have hpo := HF6.out.core.parts m HMEM.out
  rw [HGA.out, HCA.out, hnp] at hpo
  have hgal := (hpo.lt ga rfl).2
  have HPO := Lib.hid hpo
  have ru := HF6.out.now
  have hf4 : ((Sough.fragsOf m).flatMap fragCells).length = np * 4 := hpo.1
  have one4 : ∀ u ∈ (Sough.fragsOf m).flatMap fragCells, u.oneCell' = true := fun u hu => by
    obtain ⟨x, _, hx⟩ := List.mem_flatMap.1 hu
    exact frag_one x u hx
  clear hnp hpo
  go_wp2_with (at_builtin; refine wpList_append_own _ rfl _ _ 69 rfl w6.heap.size 40 j0 _ 4 40 Try.underlying69 hj0 hy0 hy1 hy2 rfl (by decide) _ _ _ rfl (World.ownsRow_made w6 #[] 0 (Nat.le_refl _) (Nat.zero_le _) rfl) ⟨ga, 0, none⟩ np ca ((Sough.fragsOf m).flatMap fragCells) rfl hf4 ?c1 one4 ?c3 ?c4 ?c5 ?_)
  case c1 =>
    intro j' u hj'
    rw [show (⟨ga, 0, none⟩ : Addr).add j' = ⟨ga, 0 + j', none⟩ from Go.WideShapes.add_plain _ _ _, Nat.zero_add]
    exact (World.cell?_of_block (w := w6) (Below.heap_alloc _ _ _ hgal)).trans (own_cell HPO.out hj')
  case c3 => unfold maxLen; omega
  case c4 => omega
  case c5 => simp
  intro v7 w7 hown7 hgrow7 _
  try simp only [Nat.zero_add, List.nil_append] at hown7
  have hb7 : Below w6.heap.size w6 w7 := ((Below.refl _ w6).alloc (Nat.le_refl _) _).grown hgrow7 (by simp) (fun r' e => by cases e; exact Nat.le_refl _)
  have HF7 := Lib.hid (HF6.out.later hb7)
  have HS7 := Lib.hid hb7.size
  obtain ⟨a7, c7, rfl⟩ := own_shape hown7
  have HB7 := Lib.hid hb7
  clear hb7 hgrow7 ru HPO
  have ru := HF7.out.now
  go_wp2_with (at_builtin; refine wpList_append_own _ rfl _ _ 69 rfl w6.heap.size 40 j0 _ 4 40 Try.underlying69 hj0 hy0 hy1 hy2 rfl (by decide) _ _ _ rfl (hown7.alloc _) ⟨w7.heap.size, 0, none⟩ 1 1 (fragCells f) rfl rfl (own_cells w7 40 f) (frag_one f) (by unfold maxLen; omega) (by omega) (by have := HS7.out; simp; omega) ?_)
  intro v8 w8 hown8 hgrow8 _
  have hb8 : Below w6.heap.size w6 w8 := HB7.out.trans (((Below.refl w6.heap.size w7).alloc HS7.out _).grown hgrow8 (by have := HS7.out; simp; omega) (fun r' e => (hown7.lt r' e).1))
  have HF8 := Lib.hid (HF6.out.later hb8)
  have HS8 := Lib.hid hb8.size
  obtain ⟨g8, c8, e8, _, _⟩ := own_head hown8 (Nat.succ_pos _)
  subst e8
  have HOWN := Lib.hid hown8
  clear hown7 hgrow8 hb8 hown8 ru HF7 HF6 HB7 HS7 hgal
  have ru := HF8.out.now
  have d3 : decide ((np : Int) + 1 < f.count) = true := by
    have h1 := HFEW.out; have h2 := HMO.out.few; have h3 := HGOOD.out; have h4 := HNP.out
    simp; omega
  have d3' : ((np : Int) + 1 < f.count) := by simpa using d3
  have hcm := HF8.out.at HN.out HL.out HCC.out HGA.out HCA.out ⟨w8, Below.refl _ _⟩
  have hrow := HF8.out.core.row
  rw [HN.out] at hrow
  have fz : w8.frozen? ⟨g, c * 2, none⟩ = false := hrow.frozenAt _
  have HA := Lib.hid (HF8.out.put HN.out HL.out HCC.out HQO.out HMID.out HGOOD.out HF.out HNP.out (own_base HOWN.out (base' := b0) HB6.out))
  clear hrow
  go_wp2_with fail
  go_ret3
  exact HA.out

set_option maxRecDepth 100000 in
set_option maxHeartbeats 3200000 in
theorem radd_whole {b0 r now : Nat} {st : Sough.Pool} {f : Sough.Frag} {m : Sough.PMsg} {t : List UInt8} {res : Sough.Pool × List UInt8 × Bool × Nat} (w : World) (h : RefAt w b0 r st) (hok : st.Ok) (hnow : now < 18446744073709551616) (hf : f.ok) (hc : ¬ f.count = 1) (hn : (st.expire now).find f.id = some m)
    (hgood : (m.count : Int) = f.count) (htw : (m.parts.any fun p => p.1 == f.index.toNat) = false) (hfull : ¬ (st.expire now).room < (st.expire now).held + f.part.length) (hfew : m.parts.length + 1 = m.count) (htt : Sough.whole (m.push f.index.toNat f.part).parts m.count = t)
    (hrr : (if 4096 < t.length then ((st.expire now).without f.id, [], false, 4) else ((st.expire now).without f.id, t, true, 0)) = res) :
    Calls Try.prog 15 #[.pointer (some ⟨r, 0, none⟩), .agg #[.int .u64 f.id, .int .i64 f.index, .int .i64 f.count, .string ⟨f.part.toArray⟩], .int .u64 now] w (RAddTo w b0 r res) := by
  have HGOOD := Lib.hid hgood; have HTW := Lib.hid htw; have HFU := Lib.hid hfull; have HFEW := Lib.hid hfew; have HTT := Lib.hid htt; have HRR := Lib.hid hrr
  clear hgood htw hfull hfew htt hrr
  have hr : f.right = true := (Sough.right_iff f).2 hf
  have HP := Lib.hid h; have HOK := Lib.hid hok; have HF := Lib.hid hf; have HC := Lib.hid hc
  obtain ⟨hmem, hid⟩ := Sough.find_some hn
  obtain ⟨l1, l2, hl⟩ := List.append_of_mem hmem
  obtain ⟨c, hcc⟩ : ∃ c, l1.length = c := ⟨_, rfl⟩
  have HID : Hid (∀ (i : Nat) (hi : i < (st.expire now).l.length), ((st.expire now).l[i].id = f.id ↔ i = c)) := Lib.hid fun i hi => by rw [← hid, ← hcc]; exact Sough.at_iff hl (hok.expire now).ids i hi
  have HL := Lib.hid hl; have HMEM := Lib.hid hmem; have HMID := Lib.hid hid; have HCC := Lib.hid hcc
  clear h hf hok hc hn hl hmem hid hcc
  go_enter Try.func15, Try.ntmps15
  go_wp2_with fail
  have HB := Lib.hid ((Mem.start w).alloc (.cells #[.int .u64 f.id, .int .i64 f.index, .int .i64 f.count, .string ⟨f.part.toArray⟩] 40))
  generalize w.alloc (.cells #[.int .u64 f.id, .int .i64 f.index, .int .i64 f.count, .string ⟨f.part.toArray⟩] 40) = W1 at *
  refine (rright_as hr _).mono ?_; rintro e w1 ⟨rfl, hb1⟩
  have HB1 := Lib.hid (HB.out.later hb1)
  clear hb1 HB
  have ec : (f.count == (1 : Int)) = false := by have := HC.out; simp; omega
  obtain ⟨lv0, A, hc0⟩ := HP.out.later HB1.out.bel
  have CE := Lib.hid (rexpire_any w1 hc0 HOK.out hnow)
  have hk1 := HB1.out.get 0 rfl
  have HT1 := Lib.hid (RTurned.below (b0 := b0) HB1.out.bel)
  have HC0 := Lib.hid hc0
  obtain ⟨lv00, A00, hc00⟩ := HP.out
  have HLT := Lib.hid hc00.lt
  have HK1 := Lib.hid hk1
  obtain ⟨k, hk⟩ : ∃ k, k = w.heap.size := ⟨_, rfl⟩
  have HK := Lib.hid hk
  rw [← hk] at HK1 ⊢
  clear hc0 hk1 hk HB1 hc00
  go_wp2_with fail
  refine CE.out.mono ?_
  rintro e w2 ⟨rfl, lv, hc2, ht2⟩
  have HF2 : Hid (RAF w w2 b0 r k (st.expire now) lv A f) := Lib.hid ⟨hc2, (ht2.block k (lt_of_block HK1.out) (fun h => by have := HLT.out; rw [← HK.out] at this; simp at h; omega)).trans HK1.out, HT1.out.trans (RTurned.of ht2 (fun i hi => by simp only [List.mem_singleton] at hi; subst hi; exact ⟨HC0.out.low, _, _, HC0.out.box, .inl rfl⟩)), by rw [HK.out]; exact Nat.le_refl _⟩
  clear hc2 ht2 CE HK1 HT1 HC0
  have ru := HF2.out.now
  clear hr
  generalize hq : st.expire now = q at *
  obtain ⟨a, cap, rfl⟩ := HF2.out.core.shape
  obtain ⟨n, hn⟩ : ∃ n, q.l.length = n := ⟨_, rfl⟩
  have HN := Lib.hid hn
  rw [hn] at HF2 ru
  have hqok : q.Ok := by rw [← hq]; exact HOK.out.expire now
  have hq1 : q.held ≤ 100000 := by have := hqok.held; have := hqok.r1; omega
  have hq3 : n ≤ 16 := by have := hqok.len; have := hqok.s1; omega
  have hq2 : f.part.length ≤ 1000 := HF.out.2.2.2.2.2.2.2
  have hq4 : q.slots ≤ 16 := hqok.s1
  have hq5 : q.room ≤ 65536 := hqok.r1
  have HQO := Lib.hid hqok
  have HQ := Lib.hid hq
  clear hq hn hqok
  go_wp2_with fail
  go_loopw [9, 10] (fun av iv wr => RFindR w b0 r k q (.slice a n cap) A f c n av iv wr) (fun _ iv _ => n - (intOf iv).toNat)
  case atStart => exact ⟨0, Nat.zero_le _, rfl, by rw [atOf_zero], HF2.out⟩
  obtain ⟨i, hi, rfl, rfl, hF⟩ := hrel
  have HFR := Lib.hid hF
  clear hF HF2
  have ru := HFR.out.now
  by_cases hlt : i < n
  · have hil : i < q.l.length := by rw [HN.out]; exact hlt
    obtain ⟨g, cap', e, _, _⟩ := HFR.out.core.head (by omega)
    rw [HN.out] at e
    injection e with e1 e2 e3
    subst e1 e3
    obtain ⟨m, hm⟩ : ∃ m : Sough.PMsg, q.l[i]'hil = m := ⟨_, rfl⟩
    have hmem : m ∈ q.l := hm ▸ List.getElem_mem hil
    have hmo := HQO.out.each m hmem
    obtain ⟨ga, hga⟩ : ∃ ga, (A m.id).1 = ga := ⟨_, rfl⟩
    obtain ⟨ca, hca⟩ : ∃ ca, (A m.id).2 = ca := ⟨_, rfl⟩
    have hcm : ∀ x : Later wr, x.world.cell? ⟨g, i * 2, none⟩ = some (.slice (some ⟨ga, 0, none⟩) m.parts.length ca) ∧ x.world.cell? ⟨ga, 0, none⟩ = some (.int .u64 m.id) := fun x => by
      have h1 := ((HFR.out.later x.below).core.msg HN.out hil).1
      have h2 := ((HFR.out.later x.below).core.part hmem (k := 0) (by have := hmo.some; omega)).1
      simp only [hm, hga, hca, Nat.zero_mul] at h1 h2
      exact ⟨h1, h2⟩
    have hp1 := hmo.some
    have hp2 : m.parts.length ≤ 16 := by have := hmo.few; have := hmo.c2; omega
    have hid : m.id = f.id ↔ i = c := by rw [← hm]; exact HID.out i hil
    have HFI := Lib.hid hid
    clear hmem hmo hga hca hm hil hid
    have rr := HFR.out.rules
    by_cases he : m.id = f.id
    · have hic : i = c := HFI.out.1 he
      have d1 : ((m.id : Int) == f.id) = true := by simp; omega
      have hat : atOf c (i + 1) = i := by rw [← hic]; exact atOf_hit i
      have HAT := Lib.hid hat
      clear he hic hat
      go_wp2_with fail
      refine wp_region_later (by kernel_rfl) (by kernel_rfl) ?_
      repeat go_big_quiet_step (fail)
      refine wpQuiet_nil ?_
      rintro ⟨w3, hb3⟩
      change Exit.then _ _ _ _ w3
      have HF3 := Lib.hid (HFR.out.later hb3)
      clear hb3 HFR
      clear hcm rr ru
      go_wp2_with fail
      go_roundw
      case rel => exact ⟨i + 1, hlt, by go_num, by rw [HAT.out], HF3.out⟩
      case measure => simp [intOf]; omega
    · have hic : i ≠ c := fun e => he (HFI.out.2 e)
      have d1 : ((m.id : Int) == f.id) = false := by simp; omega
      have hat := atOf_miss hic
      have HAT := Lib.hid hat
      clear he hic hat
      go_wp2_with fail
      refine wp_region_later (by kernel_rfl) (by kernel_rfl) ?_
      repeat go_big_quiet_step (fail)
      refine wpQuiet_nil ?_
      rintro ⟨w3, hb3⟩
      change Exit.then _ _ _ _ w3
      have HF3 := Lib.hid (HFR.out.later hb3)
      clear hb3 HFR
      clear hcm rr ru
      go_wp2_with fail
      go_roundw
      case rel => exact ⟨i + 1, hlt, by go_num, by rw [HAT.out], HF3.out⟩
      case measure => simp [intOf]; omega
  obtain rfl : i = n := by omega
  clear hlt hi
  have hci : c < i := by rw [← HN.out, HL.out, ← HCC.out]; simp
  have hat := atOf_some hci
  rw [hat]; clear hat
  go_wp2_with fail
  refine (rheld_any wr HFR.out.core HQO.out).mono ?_
  rintro e w4 ⟨rfl, rfl⟩
  rw [HN.out]
  obtain ⟨g, cap', e, hcap', hmax'⟩ := HFR.out.core.head (by rw [HN.out]; omega)
  rw [HN.out] at e hcap'
  injection e with e1 e2 e3
  subst e1 e3
  have hmo := HQO.out.each m HMEM.out
  have hp1 := hmo.some
  have hp2 : m.parts.length ≤ 16 := by have := hmo.few; have := hmo.c2; omega
  have HMO := Lib.hid hmo
  obtain ⟨ga, hga⟩ : ∃ ga, (A m.id).1 = ga := ⟨_, rfl⟩
  obtain ⟨ca, hca⟩ : ∃ ca, (A m.id).2 = ca := ⟨_, rfl⟩
  have HGA := Lib.hid hga; have HCA := Lib.hid hca
  have hcm := HFR.out.at HN.out HL.out HCC.out hga hca
  have hcm0 := hcm ⟨wr, Below.refl _ _⟩
  have hct : ∀ x : Later wr, x.world.cell? ⟨ga, 2, none⟩ = some (.int .i64 m.count) := fun x => by
    have := (HFR.out.part HMEM.out hga (j := 0) (by omega) x).2
    simpa using this
  have rr := HFR.out.rules
  clear hmo hga hca hcm
  go_wp2_with fail
  have hb : ((m.count : Int) != f.count) = false := by have := HGOOD.out; simp; omega
  refine wp_region_later (by kernel_rfl) (by kernel_rfl) ?_
  repeat go_big_quiet_step (fail)
  refine wpQuiet_nil ?_
  rintro ⟨w5, hb3⟩
  change Exit.then _ _ _ _ w5
  have HF5 := Lib.hid (HFR.out.later hb3)
  clear hb3 HFR
  clear rr ru hct hcm0 hb
  go_wp2_with fail
  go_loopw [14] (fun iv wr => RTwR w b0 r k q (.slice (some ⟨g, 0, none⟩) i cap) A f m iv wr) (fun iv _ => m.parts.length - (intOf iv).toNat)
  case atStart => exact ⟨0, Nat.zero_le _, rfl, fun _ _ h => absurd h (Nat.not_lt_zero _), HF5.out⟩
  obtain ⟨j, hj, rfl, hno, hF⟩ := hrel
  have HFT := Lib.hid hF; have HNOT := Lib.hid hno
  clear hF hno HF5
  by_cases hlt : j < m.parts.length
  · have hpt : ∀ x : Later wr, x.world.cell? ⟨ga, j * 4 + 1, none⟩ = some (.int .i64 (m.parts[j]'hlt).1) := fun x => (HFT.out.part HMEM.out HGA.out hlt x).1
    have rr := HFT.out.rules
    have hix : 0 ≤ f.index := HF.out.2.2.2.2.1
    have he : (m.parts[j]'hlt).1 ≠ f.index.toNat := by
      have := List.any_eq_false.1 HTW.out _ (List.getElem_mem hlt)
      simpa using this
    have d1 : (((m.parts[j]'hlt).1 : Int) == f.index) = false := by simp; omega
    have HNX : Hid (∀ i (hi : i < m.parts.length), i < j + 1 → m.parts[i].1 ≠ f.index.toNat) := Lib.hid fun i hi h => by
      by_cases e : i = j
      · subst e; exact he
      · exact HNOT.out i hi (by omega)
    clear he hix
    go_wp2_with fail
    refine wp_region_later (by kernel_rfl) (by kernel_rfl) ?_
    repeat go_big_quiet_step (fail)
    refine wpQuiet_nil ?_
    rintro ⟨w6, hb3⟩
    change Exit.then _ _ _ _ w6
    have HF6 := Lib.hid (HFT.out.later hb3)
    clear hb3 HFT
    clear rr hpt d1
    go_wp2_with fail
    go_roundw
    case rel => exact ⟨j + 1, hlt, by go_num, HNX.out, HF6.out⟩
    case measure => simp [intOf]; omega
  obtain rfl : j = m.parts.length := by omega
  clear hlt hj HNOT
  have rr := HFT.out.rules
  have hwr : IntKind.i64.wrap ((q.held : Int) + f.part.length) = (q.held : Int) + f.part.length := IntWalk.i64_in _ (by omega)
  go_wp2_with fail
  have d2 : decide ((q.room : Int) < (q.held : Int) + f.part.length) = false := by have := HFU.out; simp; omega
  refine wp_region_later (by kernel_rfl) (by kernel_rfl) ?_
  repeat go_big_quiet_step (fail)
  refine wpQuiet_nil ?_
  rintro ⟨w6, hb3⟩
  change Exit.then _ _ _ _ w6
  have HF6 := Lib.hid (HFT.out.later hb3)
  clear hb3 HFT
  clear rr d2 hwr
  have HB6 : Hid (b0 ≤ w6.heap.size) := Lib.hid (by have := HF6.out.core.low; have := HF6.out.core.lt; omega)
  obtain ⟨j0, hj0, hy0, hy1, hy2⟩ := info_parts infoRFrag13
  obtain ⟨np, hnp⟩ : ∃ np, m.parts.length = np := ⟨_, rfl⟩
  have HNP := Lib.hid hnp
  rw [hnp] at hp1 hp2 ⊢
  have hpo := HF6.out.core.parts m HMEM.out
  rw [HGA.out, HCA.out, hnp] at hpo
  have hgal := (hpo.lt ga rfl).2
  have HPO := Lib.hid hpo
  have ru := HF6.out.now
  have hf4 : ((Sough.fragsOf m).flatMap fragCells).length = np * 4 := hpo.1
  have one4 : ∀ u ∈ (Sough.fragsOf m).flatMap fragCells, u.oneCell' = true := fun u hu => by
    obtain ⟨x, _, hx⟩ := List.mem_flatMap.1 hu
    exact frag_one x u hx
  clear hnp hpo
  go_wp2_with (at_builtin; refine wpList_append_own _ rfl _ _ 69 rfl w6.heap.size 40 j0 _ 4 40 Try.underlying69 hj0 hy0 hy1 hy2 rfl (by decide) _ _ _ rfl (World.ownsRow_made w6 #[] 0 (Nat.le_refl _) (Nat.zero_le _) rfl) ⟨ga, 0, none⟩ np ca ((Sough.fragsOf m).flatMap fragCells) rfl hf4 ?c1 one4 ?c3 ?c4 ?c5 ?_)
  case c1 =>
    intro j' u hj'
    rw [show (⟨ga, 0, none⟩ : Addr).add j' = ⟨ga, 0 + j', none⟩ from Go.WideShapes.add_plain _ _ _, Nat.zero_add]
    exact (World.cell?_of_block (w := w6) (Below.heap_alloc _ _ _ hgal)).trans (own_cell HPO.out hj')
  case c3 => unfold maxLen; omega
  case c4 => omega
  case c5 => simp
  intro v7 w7 hown7 hgrow7 _
  try simp only [Nat.zero_add, List.nil_append] at hown7
  have hb7 : Below w6.heap.size w6 w7 := ((Below.refl _ w6).alloc (Nat.le_refl _) _).grown hgrow7 (by simp) (fun r' e => by cases e; exact Nat.le_refl _)
  have HF7 := Lib.hid (HF6.out.later hb7)
  have HS7 := Lib.hid hb7.size
  obtain ⟨a7, c7, rfl⟩ := own_shape hown7
  have HB7 := Lib.hid hb7
  clear hb7 hgrow7 ru HPO
  have ru := HF7.out.now
  go_wp2_with (at_builtin; refine wpList_append_own _ rfl _ _ 69 rfl w6.heap.size 40 j0 _ 4 40 Try.underlying69 hj0 hy0 hy1 hy2 rfl (by decide) _ _ _ rfl (hown7.alloc _) ⟨w7.heap.size, 0, none⟩ 1 1 (fragCells f) rfl rfl (own_cells w7 40 f) (frag_one f) (by unfold maxLen; omega) (by omega) (by have := HS7.out; simp; omega) ?_)
  intro v8 w8 hown8 hgrow8 _
  have hb8 : Below w6.heap.size w6 w8 := HB7.out.trans (((Below.refl w6.heap.size w7).alloc HS7.out _).grown hgrow8 (by have := HS7.out; simp; omega) (fun r' e => (hown7.lt r' e).1))
  have HF8 := Lib.hid (HF6.out.later hb8)
  have HS8 := Lib.hid hb8.size
  obtain ⟨g8, c8, e8, _, _⟩ := own_head hown8 (Nat.succ_pos _)
  subst e8
  have HOWN := Lib.hid hown8
  clear hown7 hgrow8 hb8 hown8 ru HF7 HF6 HB7 HS7 hgal
  have ru := HF8.out.now
  have d3 : decide ((np : Int) + 1 < f.count) = false := by
    have h1 := HFEW.out; have h3 := HGOOD.out; have h4 := HNP.out
    simp; omega
  have d3' : ¬ ((np : Int) + 1 < f.count) := by simpa using d3
  have hn16 : np + 1 ≤ 16 := by have := HFEW.out; have := HNP.out; have := HMO.out.c2; omega
  have CW := rwithout_any w8 HF8.out.core HL.out (by rw [HN.out]; omega)
  rw [HCC.out] at CW
  have CW := Lib.hid CW
  obtain ⟨m', hm'⟩ : ∃ m', m' = m.push f.index.toNat f.part := ⟨_, rfl⟩
  have hlen' : m'.parts.length = np + 1 := by rw [hm', ← HNP.out]; simp [Sough.PMsg.push]
  have hkeys : (m'.parts.map (·.1)).Nodup := by rw [hm']; exact Sough.push_keys HMO.out HTW.out
  have hfr : Sough.fragsOf m' = Sough.fragsOf m ++ [f] := by rw [hm']; exact frag_of_push HF.out HMID.out HGOOD.out
  have heach : ∀ p ∈ m'.parts, p.1 < 16 ∧ p.2.length ≤ 1000 := by
    rw [hm']
    intro p hp
    simp only [Sough.PMsg.push, List.mem_append, List.mem_singleton] at hp
    rcases hp with hp | rfl
    · have := HMO.out.each p hp; have := HMO.out.c2; omega
    · obtain ⟨k1, k2, k3, k4, k5, k6, k7, k8⟩ := HF.out
      exact ⟨by show f.index.toNat < 16; omega, k8⟩
  have htt : Sough.gathered m'.parts (np + 1) = t := by
    rw [Sough.gathered_whole hkeys, hm', ← HNP.out, HFEW.out]; exact HTT.out
  have htl : t.length ≤ 256000 := by
    rw [← htt]
    have := Sough.gathered_len (fun p h => (heach p h).2) (np + 1)
    have h1 : 1000 * m'.parts.length * (np + 1) ≤ 1000 * 16 * 16 := Nat.mul_le_mul (Nat.mul_le_mul_left _ (by omega)) (by omega)
    omega
  have hwo : (⟨q.slots, q.room, l1 ++ l2⟩ : Sough.Pool) = q.without f.id := by
    have hids := HQO.out.ids
    rw [← HMID.out]
    show _ = Sough.Pool.mk q.slots q.room (q.l.filter _)
    rw [HL.out] at hids ⊢
    rw [Sough.without_at hids]
  have HWO := Lib.hid hwo; have HFR2 := Lib.hid hfr; have HEACH := Lib.hid heach; have HT2 := Lib.hid htt; have HLEN2 := Lib.hid hlen'
  clear hm' hlen' hkeys hfr heach htt hwo
  go_wp2_with fail
  refine CW.out.mono ?_
  rintro e w9 ⟨rfl, lv9, hc9, ht9⟩
  have how9 := own_kept HOWN.out fun g' cur' hg' => ht9.block g' (lt_of_block hg') fun e => by
    simp only [List.mem_singleton] at e
    subst e
    exact type_ne HF8.out.core.box hg' (by decide)
  have hrow' : (Sough.fragsOf m').flatMap fragCells = (Sough.fragsOf m).flatMap fragCells ++ fragCells f := by rw [HFR2.out, List.flatMap_append]; simp
  rw [← hrow'] at how9
  have CJ := rjoin_any w9 how9 HLEN2.out (by omega) HEACH.out
  rw [HT2.out] at CJ
  have CJ := Lib.hid CJ
  have HEND : Hid (RefAt w9 b0 r (q.without f.id) ∧ RTurned b0 w w9) := by
    rw [HWO.out] at hc9
    refine Lib.hid ⟨⟨lv9, A, hc9⟩, HF8.out.turned.trans (RTurned.of ht9 fun i' hi' => ?_)⟩
    simp only [List.mem_singleton] at hi'
    subst hi'
    exact ⟨HF8.out.core.low, _, _, HF8.out.core.box, .inl rfl⟩
  clear hc9 ht9 how9 hrow' d3 d3' ru
  go_wp2_with fail
  refine CJ.out.mono ?_
  rintro e w10 ⟨rfl, rfl⟩
  by_cases hbig : 4096 < t.length
  · have HR : Hid ((q.without f.id, [], false, 4) = res) := by have := HRR.out; rw [if_pos hbig] at this; exact Lib.hid this
    go_wp2_with fail
    go_ret3
    rw [← HR.out]
    exact ⟨rfl, HEND.out⟩
  · have HR : Hid ((q.without f.id, t, true, 0) = res) := by have := HRR.out; rw [if_neg hbig] at this; exact Lib.hid this
    go_wp2_with fail
    go_ret3
    rw [← HR.out]
    exact ⟨rfl, HEND.out⟩

theorem radd_as {b0 r now : Nat} {st : Sough.Pool} {f : Sough.Frag} {res : Sough.Pool × List UInt8 × Bool × Nat} (hr : st.add f now = res) (w : World) (h : RefAt w b0 r st) (hok : st.Ok) (hnow : now < 18446744073709551616) :
    Calls Try.prog 15 #[.pointer (some ⟨r, 0, none⟩), .agg #[.int .u64 f.id, .int .i64 f.index, .int .i64 f.count, .string ⟨f.part.toArray⟩], .int .u64 now] w (RAddTo w b0 r res) := by
  subst hr
  unfold Sough.Pool.add
  by_cases hf : f.ok
  · rw [if_neg (fun h => h hf)]
    by_cases hc : f.count = 1
    · rw [if_pos hc]; exact radd_one w h hok hnow hf hc
    · rw [if_neg hc]
      unfold Sough.Pool.step
      cases hn : (st.expire now).find f.id with
      | none =>
        simp only
        split
        · rename_i hfull; exact radd_full w h hok hnow hf hc hn hfull
        · rename_i hfull; exact radd_begin w h hok hnow hf hc hn hfull
      | some m =>
        simp only
        split
        · rename_i h1; exact radd_form w h hok hnow hf hc hn h1
        · rename_i h1
          have h1' : (m.count : Int) = f.count := by simpa using h1
          split
          · rename_i h2; exact radd_twice w h hok hnow hf hc hn h1' h2
          · rename_i h2
            have h2' := Bool.eq_false_iff.2 h2
            split
            · rename_i h3; exact radd_full2 w h hok hnow hf hc hn h1' h2' h3
            · rename_i h3
              split
              · rename_i h4; exact radd_put w h hok hnow hf hc hn h1' h2' h3 h4
              · rename_i h4
                exact radd_whole w h hok hnow hf hc hn h1' h2' h3 (by simpa using h4) rfl rfl
  · rw [if_pos hf]; exact radd_bad w h hf

end Go.Proofs.Ytokphknnblpagaa
