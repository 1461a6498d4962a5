/- The walk of (*pool.Pool).Add: a part that is put to a message; the last one. -/
import Derived.Test.YtokphknnblpagaaPoAdd2
import Derived.LoopTactic
namespace Sough
theorem put_without (q : Pool) (id i : Nat) (s : List UInt8) : (q.put id i s).without id = q.without id := by
  unfold Pool.without Pool.put
  congr 1
  simp only
  rw [List.filter_map]
  have : (q.l.filter ((fun m : PMsg => !(m.id == id)) ∘ fun m => if (m.id == id) = true then m.push i s else m)) = q.l.filter fun m => !(m.id == id) := by
    apply List.filter_congr
    intro m _
    simp only [Function.comp]
    split <;> rfl
  rw [this]
  conv => rhs; rw [← List.map_id (q.l.filter _)]
  apply List.map_congr_left
  intro m hm
  have : (m.id == id) = false := by simpa using (List.mem_filter.1 hm).2
  simp [this]
theorem push_keys {m : PMsg} (h : m.Ok) {i : Nat} {s : List UInt8} (hno : (m.parts.any fun p => p.1 == i) = false) : ((m.push i s).parts.map (·.1)).Nodup := by
  simp only [PMsg.push, List.map_append, List.map_cons, List.map_nil]
  rw [List.nodup_append]
  refine ⟨h.keys, by simp, ?_⟩
  rintro a ha b hb e
  simp only [List.mem_singleton] at hb
  subst hb e
  obtain ⟨p, hp, e⟩ := List.mem_map.1 ha
  have := List.any_eq_false.1 hno p hp
  simp [e] at this
theorem whole_succ (l : List (Nat × List UInt8)) (k : Nat) : whole l (k + 1) = whole l k ++ partAt l k := by
  unfold whole
  rw [List.range_succ, List.flatMap_append]
  simp
theorem partAt_le {l : List (Nat × List UInt8)} {B : Nat} (h : ∀ p ∈ l, p.2.length ≤ B) (i : Nat) : (partAt l i).length ≤ B := by
  unfold partAt
  cases hf : l.find? fun p => p.1 == i with
  | none => simp
  | some p => exact h p (List.mem_of_find?_eq_some hf)
theorem whole_le {l : List (Nat × List UInt8)} {B : Nat} (h : ∀ p ∈ l, p.2.length ≤ B) : ∀ k, (whole l k).length ≤ B * k
  | 0 => by simp [whole]
  | k + 1 => by
    rw [whole_succ, List.length_append, Nat.mul_succ]
    have := whole_le h k
    have := partAt_le h k
    omega
end Sough
namespace Go.Proofs.Ytokphknnblpagaa
open Go.RowKit Go.Maps Go.ChangeMaps


set_option maxRecDepth 100000 in
set_option maxHeartbeats 3200000 in
theorem add_put {p now : Nat} {st : Sough.Pool} {S : List Nat} {f : Sough.Frag} {m : Sough.PMsg} (w : World) (h : PoolAt w p st S) (hok : st.Ok) (hnow : now < 18446744073709551616) (hf : f.ok) (hc : ¬ f.count = 1) (hn : (st.expire now).find f.id = some m)
    (hgood : (m.count : Int) = f.count) (htw : (m.parts.any fun p => p.1 == f.index.toNat) = false) (hfull : ¬ (st.expire now).room < (st.expire now).held + f.part.length) (hfew : m.parts.length + 1 ≠ m.count) :
    Calls Try.prog 14 #[.pointer (some ⟨p, 0, none⟩), .agg #[.int .u64 f.id, .int .i64 f.index, .int .i64 f.count, .string ⟨f.part.toArray⟩], .int .u64 now] w (AddTo w p S ((st.expire now).put f.id f.index.toNat f.part, [], false, 0)) := by
  have hr : f.right = true := (Sough.right_iff f).2 hf
  have HP := Lib.hid h; have HOK := Lib.hid hok; have HF := Lib.hid hf; have HC := Lib.hid hc; have HN := Lib.hid hn; have HGOOD := Lib.hid hgood; have HTW := Lib.hid htw; have HFU := Lib.hid hfull; have HFEW := Lib.hid hfew
  clear h hf hok hc hn hgood htw hfull hfew
  go_enter Try.func14, Try.ntmps14
  go_wp2_with fail
  have HB := Lib.hid ((Mem.start w).alloc (.cells #[.int .u64 f.id, .int .i64 f.index, .int .i64 f.count, .string ⟨f.part.toArray⟩] 35))
  generalize w.alloc (.cells #[.int .u64 f.id, .int .i64 f.index, .int .i64 f.count, .string ⟨f.part.toArray⟩] 35) = W1 at *
  refine (right_as hr _).mono ?_; rintro e w1 ⟨rfl, hb1⟩
  have HB1 := Lib.hid (HB.out.later hb1)
  clear hb1 HB
  have ec : (f.count == (1 : Int)) = false := by have := HC.out; simp; omega
  obtain ⟨mb0, A0, D0, hc0, ho0, rfl⟩ := HP.out.later HB1.out.bel
  have CE := Lib.hid (expire_any w1 hc0 ho0 HOK.out hnow)
  have hk1 := HB1.out.get 0 rfl
  have HT1 := Lib.hid (Turned.below (S := blocksOf p mb0 A0 st.l) HB1.out.bel)
  have HLT := Lib.hid HP.out.lt
  have HK1 := Lib.hid hk1
  obtain ⟨k, hk⟩ : ∃ k, k = w.heap.size := ⟨_, rfl⟩
  have HK := Lib.hid hk
  rw [← hk] at HK1 ⊢
  clear hc0 ho0 hk1 hk HB1
  go_wp2_with fail
  refine CE.out.mono ?_
  rintro e w2 ⟨rfl, S2, ⟨mb, A, D, hc2, ho2, rfl⟩, hsub2, ht2⟩
  have HF2 : Hid (AF w w2 p mb k (st.expire now) A D (blocksOf p mb0 A0 st.l) f) := Lib.hid ⟨hc2, ho2, (ht2.block k (lt_of_block HK1.out) (fun h => by have := HLT.out k h; rw [HK.out] at this; omega)).trans HK1.out, HT1.out.trans ht2 (fun i hi => .inl hi), hsub2, by rw [HK.out]; exact Nat.le_refl _, HLT.out⟩
  clear hc2 ho2 hsub2 ht2 CE HK1 HT1
  have r := HF2.out.now
  clear hr
  have hqo := HOK.out.expire now
  generalize hq : st.expire now = q at *
  have HQO := Lib.hid hqo
  obtain ⟨hm, hid⟩ := Sough.find_some HN.out
  have hmo := hqo.each m hm
  have HM := Lib.hid hm; have HID := Lib.hid hid; have HMO := Lib.hid hmo
  obtain ⟨i, hi⟩ : ∃ i : Nat, f.index = i := ⟨f.index.toNat, by have := HF.out.2.2.2.2.1; omega⟩
  have hi16 : i < 16 := by have := HF.out.2.2.2.2.2.1; have := HF.out.2.2.2.1; omega
  have HI := Lib.hid hi
  have hin : f.index.toNat = i := by omega
  have HIN := Lib.hid hin
  have e4 : f.id < 18446744073709551616 := by have := HF.out.2.1; omega
  have lk : ∀ x : Later w2, (Instr.lookup 58 (.map (some mb)) (.int .u64 f.id) true).run Try.prog x.world = .ok (.tuple #[.pointer (some ⟨(A m.id).1, 0, none⟩), .bool true]) x.world := fun x => by
    have := look_msg_ok (HF2.out.later x.below).own (HF2.out.later x.below).core.maps e4 (List.mem_map.2 ⟨m, HM.out, by rw [HID.out]⟩) true
    simp only [if_true, ← HID.out] at this ⊢
    exact this
  have rr := HF2.out.rules
  have hq1 : q.held ≤ 100000 := by have := hqo.held; have := hqo.r1; omega
  have hq2 : f.part.length ≤ 1000 := HF.out.2.2.2.2.2.2.2
  have HQ := Lib.hid hq
  clear hq hqo hm hid hmo hi hin
  go_wp2_with fail
  refine wp_region_later (by kernel_rfl) (by kernel_rfl) ?_
  repeat go_big_quiet_step (fail)
  refine wpQuiet_nil ?_
  rintro ⟨w3, hb3⟩
  change Exit.then _ _ _ _ w3
  have HF3 := Lib.hid (HF2.out.later hb3)
  clear hb3 HF2
  clear lk rr r
  have r := HF3.out.rules
  have r' := HF3.out.msg HM.out
  have lk : ∀ x : Later w3, (Instr.lookup 65 (.map (some (A m.id).2)) (.int .i64 f.index) true).run Try.prog x.world = .ok (.tuple #[.string ⟨(Sough.partAt m.parts i).toArray⟩, .bool (m.parts.any fun p => p.1 == i)]) x.world := fun x => by
    obtain ⟨DP, hop, hMP⟩ := ((HF3.out.later x.below).core.msgs m HM.out).parts
    rw [HI.out]
    exact look_part_ok hop hMP (by omega) HMO.out.keys
  go_wp2_with fail
  refine wp_region_later (by kernel_rfl) (by kernel_rfl) ?_
  repeat go_big_quiet_step (fail)
  refine wpQuiet_nil ?_
  rintro ⟨w4, hb3⟩
  change Exit.then _ _ _ _ w4
  have HF4 := Lib.hid (HF3.out.later hb3)
  clear hb3 HF3
  clear lk r r'
  have r := HF4.out.rules
  have r' := HF4.out.msg HM.out
  go_wp2_with fail
  have hb : ((m.count : Int) != f.count) = false := by have := HGOOD.out; simp; omega
  have ht : (m.parts.any fun p => p.1 == i) = false := by rw [← HIN.out]; exact HTW.out
  rw [ht]
  refine wp_region_later (by kernel_rfl) (by kernel_rfl) ?_
  repeat go_big_quiet_step (fail)
  refine wpQuiet_nil ?_
  rintro ⟨w5, hb3⟩
  change Exit.then _ _ _ _ w5
  have HF5 := Lib.hid (HF4.out.later hb3)
  clear hb3 HF4
  clear r r' hb
  go_wp2_with fail
  have r := HF5.out.rules
  have hwr : IntKind.i64.wrap ((q.held : Int) + f.part.length) = (q.held : Int) + f.part.length := IntWalk.i64_in _ (by omega)
  have d2 : decide ((q.room : Int) < (q.held : Int) + f.part.length) = false := by have := HFU.out; simp; omega
  refine wp_region_later (by kernel_rfl) (by kernel_rfl) ?_
  repeat go_big_quiet_step (fail)
  refine wpQuiet_nil ?_
  rintro ⟨w6, hb3⟩
  change Exit.then _ _ _ _ w6
  have HF6 := Lib.hid (HF5.out.later hb3)
  clear hb3 HF5
  clear r hwr d2
  have hmb := HF6.out.core.msgs m HM.out
  obtain ⟨DP, hop, hMP⟩ := hmb.parts
  have hbn := blocks_ne HF6.out.core.apart
  have n := hbn.2 m HM.out
  have hc16 := HMO.out.c2
  have hfw := HMO.out.few
  have CP := Lib.hid (put_as (cnt0 := m.count) (cf := f.count) (s := f.part) (id := f.id) (held := q.held) HI.out w6 HF6.out.core.box hmb.box hop hMP ht (by omega) (by omega) (by omega) (by omega) (by omega) (by omega) hq1)
  have HNB := Lib.hid hbn
  have r := HF6.out.now
  clear hmb hop hMP hbn n
  go_wp2_with fail
  refine CP.out.mono ?_
  rintro e w7 ⟨rfl, hp7, hP7, ht7⟩
  have hcore7 := HF6.out.core.put HQO.out HM.out (ht7.mono (fun j e => by simpa using e)) hp7 hP7
  have hown7 := HF6.out.own.same (ht7.block mb HF6.out.own.lt (by have := HNB.out.1; have := (HNB.out.2 m HM.out).2.2.2.1; simp; omega))
  have hk7 := (ht7.block k (lt_of_block HF6.out.box) (by
    have h1 := HF6.out.new
    have h2 := HF6.out.old
    have h3 := HF6.out.sub
    have h4 := h2 _ (h3 p (by simp [blocksOf]))
    have h5 := h2 _ (h3 _ (mem_blocks HM.out).2)
    simp; omega)).trans HF6.out.box
  have HT7 : Hid (Turned (blocksOf p mb0 A0 st.l) w w7) := Lib.hid (HF6.out.turned.trans ht7 (fun j e => by
    simp only [List.mem_cons, List.not_mem_nil, or_false] at e
    rcases e with rfl | rfl
    · exact .inl (HF6.out.sub _ (by simp [blocksOf]))
    · exact .inl (HF6.out.sub _ (mem_blocks HM.out).2)))
  have HP7 := Lib.hid hP7; have HC7 := Lib.hid hcore7; have HO7 := Lib.hid hown7; have HK7 := Lib.hid hk7; have HT := Lib.hid ht
  clear hp7 hP7 ht7 hcore7 hown7 hk7 r CP ht
  have hd : decide (m.parts.length + 1 = m.count) = false := by have := HFEW.out; simp; omega
  rw [hd]
  have HA : Hid (AddTo w p (blocksOf p mb0 A0 st.l) (q.put f.id f.index.toNat f.part, [], false, 0) (.returned (.tuple #[.string ⟨#[]⟩, .bool false, .int .i64 0])) w7) := by
    have e := blocks_put (p := p) (mb := mb) (A := A) (q := q) (id := m.id) (i := i) (s := f.part)
    rw [HIN.out, ← HID.out]
    refine Lib.hid ⟨rfl, _, ⟨mb, A, D, HC7.out, ?_, rfl⟩, fun j hj => ?_, HT7.out⟩
    · rw [show (q.put m.id i f.part).l.length = q.l.length by simp [Sough.Pool.put]]; exact HO7.out
    · rw [e] at hj; exact .inl (HF6.out.sub j hj)
  clear hd
  go_wp2_with fail
  go_ret3
  exact HA.out

/-- Putting the parts together, one behind the other. -/
def WholeR (l : List (Nat × List UInt8)) (n : Nat) (sv iv : Value) : Prop := ∃ k : Nat, k ≤ n ∧ sv = .string ⟨(Sough.whole l k).toArray⟩ ∧ iv = .int .i64 k
theorem bapp (a b : List UInt8) : (⟨a.toArray⟩ : ByteArray) ++ ⟨b.toArray⟩ = ⟨(a ++ b).toArray⟩ := by
  apply ByteArray.ext; simp

set_option maxRecDepth 100000 in
set_option maxHeartbeats 3200000 in
theorem add_whole {p now : Nat} {st : Sough.Pool} {S : List Nat} {f : Sough.Frag} {m : Sough.PMsg} {t : List UInt8} {r : Sough.Pool × List UInt8 × Bool × Nat} (w : World) (h : PoolAt w p st S) (hok : st.Ok) (hnow : now < 18446744073709551616) (hf : f.ok) (hc : ¬ f.count = 1) (hn : (st.expire now).find f.id = some m)
    (hgood : (m.count : Int) = f.count) (htw : (m.parts.any fun p => p.1 == f.index.toNat) = false) (hfull : ¬ (st.expire now).room < (st.expire now).held + f.part.length) (hfew : m.parts.length + 1 = m.count) (htt : Sough.whole (m.push f.index.toNat f.part).parts m.count = t)
    (hrr : (if 4096 < t.length then ((st.expire now).without f.id, [], false, 4) else ((st.expire now).without f.id, t, true, 0)) = r) :
    Calls Try.prog 14 #[.pointer (some ⟨p, 0, none⟩), .agg #[.int .u64 f.id, .int .i64 f.index, .int .i64 f.count, .string ⟨f.part.toArray⟩], .int .u64 now] w (AddTo w p S r) := by
  have hr : f.right = true := (Sough.right_iff f).2 hf
  have HP := Lib.hid h; have HOK := Lib.hid hok; have HF := Lib.hid hf; have HC := Lib.hid hc; have HN := Lib.hid hn; have HGOOD := Lib.hid hgood; have HTW := Lib.hid htw; have HFU := Lib.hid hfull; have HFEW := Lib.hid hfew; have HTT := Lib.hid htt; have HRR := Lib.hid hrr
  clear h hf hok hc hn hgood htw hfull hfew htt hrr
  go_enter Try.func14, Try.ntmps14
  go_wp2_with fail
  have HB := Lib.hid ((Mem.start w).alloc (.cells #[.int .u64 f.id, .int .i64 f.index, .int .i64 f.count, .string ⟨f.part.toArray⟩] 35))
  generalize w.alloc (.cells #[.int .u64 f.id, .int .i64 f.index, .int .i64 f.count, .string ⟨f.part.toArray⟩] 35) = W1 at *
  refine (right_as hr _).mono ?_; rintro e w1 ⟨rfl, hb1⟩
  have HB1 := Lib.hid (HB.out.later hb1)
  clear hb1 HB
  have ec : (f.count == (1 : Int)) = false := by have := HC.out; simp; omega
  obtain ⟨mb0, A0, D0, hc0, ho0, rfl⟩ := HP.out.later HB1.out.bel
  have CE := Lib.hid (expire_any w1 hc0 ho0 HOK.out hnow)
  have hk1 := HB1.out.get 0 rfl
  have HT1 := Lib.hid (Turned.below (S := blocksOf p mb0 A0 st.l) HB1.out.bel)
  have HLT := Lib.hid HP.out.lt
  have HK1 := Lib.hid hk1
  obtain ⟨k, hk⟩ : ∃ k, k = w.heap.size := ⟨_, rfl⟩
  have HK := Lib.hid hk
  rw [← hk] at HK1 ⊢
  clear hc0 ho0 hk1 hk HB1
  go_wp2_with fail
  refine CE.out.mono ?_
  rintro e w2 ⟨rfl, S2, ⟨mb, A, D, hc2, ho2, rfl⟩, hsub2, ht2⟩
  have HF2 : Hid (AF w w2 p mb k (st.expire now) A D (blocksOf p mb0 A0 st.l) f) := Lib.hid ⟨hc2, ho2, (ht2.block k (lt_of_block HK1.out) (fun h => by have := HLT.out k h; rw [HK.out] at this; omega)).trans HK1.out, HT1.out.trans ht2 (fun i hi => .inl hi), hsub2, by rw [HK.out]; exact Nat.le_refl _, HLT.out⟩
  clear hc2 ho2 hsub2 ht2 CE HK1 HT1
  have r := HF2.out.now
  clear hr
  have hqo := HOK.out.expire now
  generalize hq : st.expire now = q at *
  have HQO := Lib.hid hqo
  obtain ⟨hm, hid⟩ := Sough.find_some HN.out
  have hmo := hqo.each m hm
  have HM := Lib.hid hm; have HID := Lib.hid hid; have HMO := Lib.hid hmo
  obtain ⟨i, hi⟩ : ∃ i : Nat, f.index = i := ⟨f.index.toNat, by have := HF.out.2.2.2.2.1; omega⟩
  have hi16 : i < 16 := by have := HF.out.2.2.2.2.2.1; have := HF.out.2.2.2.1; omega
  have HI := Lib.hid hi
  have hin : f.index.toNat = i := by omega
  have HIN := Lib.hid hin
  have e4 : f.id < 18446744073709551616 := by have := HF.out.2.1; omega
  have lk : ∀ x : Later w2, (Instr.lookup 58 (.map (some mb)) (.int .u64 f.id) true).run Try.prog x.world = .ok (.tuple #[.pointer (some ⟨(A m.id).1, 0, none⟩), .bool true]) x.world := fun x => by
    have := look_msg_ok (HF2.out.later x.below).own (HF2.out.later x.below).core.maps e4 (List.mem_map.2 ⟨m, HM.out, by rw [HID.out]⟩) true
    simp only [if_true, ← HID.out] at this ⊢
    exact this
  have rr := HF2.out.rules
  have hq1 : q.held ≤ 100000 := by have := hqo.held; have := hqo.r1; omega
  have hq2 : f.part.length ≤ 1000 := HF.out.2.2.2.2.2.2.2
  have HQ := Lib.hid hq
  clear hq hqo hm hid hmo hi hin
  go_wp2_with fail
  refine wp_region_later (by kernel_rfl) (by kernel_rfl) ?_
  repeat go_big_quiet_step (fail)
  refine wpQuiet_nil ?_
  rintro ⟨w3, hb3⟩
  change Exit.then _ _ _ _ w3
  have HF3 := Lib.hid (HF2.out.later hb3)
  clear hb3 HF2
  clear lk rr r
  have r := HF3.out.rules
  have r' := HF3.out.msg HM.out
  have lk : ∀ x : Later w3, (Instr.lookup 65 (.map (some (A m.id).2)) (.int .i64 f.index) true).run Try.prog x.world = .ok (.tuple #[.string ⟨(Sough.partAt m.parts i).toArray⟩, .bool (m.parts.any fun p => p.1 == i)]) x.world := fun x => by
    obtain ⟨DP, hop, hMP⟩ := ((HF3.out.later x.below).core.msgs m HM.out).parts
    rw [HI.out]
    exact look_part_ok hop hMP (by omega) HMO.out.keys
  go_wp2_with fail
  refine wp_region_later (by kernel_rfl) (by kernel_rfl) ?_
  repeat go_big_quiet_step (fail)
  refine wpQuiet_nil ?_
  rintro ⟨w4, hb3⟩
  change Exit.then _ _ _ _ w4
  have HF4 := Lib.hid (HF3.out.later hb3)
  clear hb3 HF3
  clear lk r r'
  have r := HF4.out.rules
  have r' := HF4.out.msg HM.out
  go_wp2_with fail
  have hb : ((m.count : Int) != f.count) = false := by have := HGOOD.out; simp; omega
  have ht : (m.parts.any fun p => p.1 == i) = false := by rw [← HIN.out]; exact HTW.out
  rw [ht]
  refine wp_region_later (by kernel_rfl) (by kernel_rfl) ?_
  repeat go_big_quiet_step (fail)
  refine wpQuiet_nil ?_
  rintro ⟨w5, hb3⟩
  change Exit.then _ _ _ _ w5
  have HF5 := Lib.hid (HF4.out.later hb3)
  clear hb3 HF4
  clear r r' hb
  go_wp2_with fail
  have r := HF5.out.rules
  have hwr : IntKind.i64.wrap ((q.held : Int) + f.part.length) = (q.held : Int) + f.part.length := IntWalk.i64_in _ (by omega)
  have d2 : decide ((q.room : Int) < (q.held : Int) + f.part.length) = false := by have := HFU.out; simp; omega
  refine wp_region_later (by kernel_rfl) (by kernel_rfl) ?_
  repeat go_big_quiet_step (fail)
  refine wpQuiet_nil ?_
  rintro ⟨w6, hb3⟩
  change Exit.then _ _ _ _ w6
  have HF6 := Lib.hid (HF5.out.later hb3)
  clear hb3 HF5
  clear r hwr d2
  have hmb := HF6.out.core.msgs m HM.out
  obtain ⟨DP, hop, hMP⟩ := hmb.parts
  have hbn := blocks_ne HF6.out.core.apart
  have n := hbn.2 m HM.out
  have hc16 := HMO.out.c2
  have hfw := HMO.out.few
  have CP := Lib.hid (put_as (cnt0 := m.count) (cf := f.count) (s := f.part) (id := f.id) (held := q.held) HI.out w6 HF6.out.core.box hmb.box hop hMP ht (by omega) (by omega) (by omega) (by omega) (by omega) (by omega) hq1)
  have HNB := Lib.hid hbn
  have r := HF6.out.now
  clear hmb hop hMP hbn n
  go_wp2_with fail
  refine CP.out.mono ?_
  rintro e w7 ⟨rfl, hp7, hP7, ht7⟩
  have hcore7 := HF6.out.core.put HQO.out HM.out (ht7.mono (fun j e => by simpa using e)) hp7 hP7
  have hown7 := HF6.out.own.same (ht7.block mb HF6.out.own.lt (by have := HNB.out.1; have := (HNB.out.2 m HM.out).2.2.2.1; simp; omega))
  have hk7 := (ht7.block k (lt_of_block HF6.out.box) (by
    have h1 := HF6.out.new
    have h2 := HF6.out.old
    have h3 := HF6.out.sub
    have h4 := h2 _ (h3 p (by simp [blocksOf]))
    have h5 := h2 _ (h3 _ (mem_blocks HM.out).2)
    simp; omega)).trans HF6.out.box
  have HT7 : Hid (Turned (blocksOf p mb0 A0 st.l) w w7) := Lib.hid (HF6.out.turned.trans ht7 (fun j e => by
    simp only [List.mem_cons, List.not_mem_nil, or_false] at e
    rcases e with rfl | rfl
    · exact .inl (HF6.out.sub _ (by simp [blocksOf]))
    · exact .inl (HF6.out.sub _ (mem_blocks HM.out).2)))
  have HP7 := Lib.hid hP7; have HC7 := Lib.hid hcore7; have HO7 := Lib.hid hown7; have HK7 := Lib.hid hk7; have HT := Lib.hid ht
  clear hp7 hP7 ht7 hcore7 hown7 hk7 r CP ht
  have hd : decide (m.parts.length + 1 = m.count) = true := by have := HFEW.out; simp; omega
  rw [hd]
  -- the message as it stands now, whole
  obtain ⟨m', hm'⟩ : ∃ m', m' = m.push i f.part := ⟨_, rfl⟩
  have hmem : m' ∈ (q.put m.id i f.part).l := by
    simp only [Sough.Pool.put, List.mem_map]
    exact ⟨m, HM.out, by simp [hm']⟩
  have hid' : m'.id = m.id := by rw [hm']; rfl
  have hparts : m'.parts = m.parts ++ [(i, f.part)] := by rw [hm']; rfl
  have hcnt : m'.count = m.count := by rw [hm']; rfl
  have hms := HC7.out.msgs m' hmem
  obtain ⟨DP, hop, hMP⟩ := hms.parts
  have hkeys : (m'.parts.map (·.1)).Nodup := by rw [hm']; exact Sough.push_keys HMO.out HT.out
  have hids : ((q.put m.id i f.part).l.map (·.id)).Nodup := by rw [Sough.put_ids]; exact HQO.out.ids
  have hheld : (q.put m.id i f.part).held = q.held + f.part.length := Sough.put_held HQO.out (Sough.find_of_mem HQO.out HM.out)
  have hwh := Sough.without_held HQO.out HM.out
  have hwo := Sough.put_without q m.id i f.part
  have hin' : (f.id, (A m'.id).1) ∈ (q.put m.id i f.part).l.map fun m => (m.id, (A m.id).1) := List.mem_map.2 ⟨m', hmem, by rw [hid', HID.out]⟩
  have n7 := blocks_ne HC7.out.apart
  have CF := Lib.hid (forget_any (rest := (q.without m.id).held) w7 HC7.out.box hms.box hop hMP hkeys HO7.out HC7.out.maps e4 hin' (by have := n7.2 m' hmem; omega) n7.1 (by rw [hheld]; omega)
    (by rw [hheld, hparts, Sough.psum_snoc]; unfold Sough.PMsg.bytes at hwh; omega))
  have HPB := Lib.hid hms; have HKEYS := Lib.hid hkeys; have HIDS := Lib.hid hids; have HWO := Lib.hid hwo; have HN7 := Lib.hid n7; have HMEM := Lib.hid hmem; have HID' := Lib.hid hid'; have HPARTS := Lib.hid hparts; have HCNT := Lib.hid hcnt
  have r := (cells4 HK7.out).1
  clear hop hMP hms hkeys hids hheld hwh hwo hin' n7 hmem hid' hparts hcnt hd
  have HM' := Lib.hid hm'
  clear hm'
  go_wp2_with fail
  refine CF.out.mono ?_
  rintro e w8 ⟨rfl, w9, ht9, hb9, ty, hrun⟩
  have hpm : mb ≠ p := Ne.symm HN7.out.1
  obtain ⟨w8', hrun', hown8, hmt8⟩ := (HO7.out.same (ht9.block mb HO7.out.lt (by simp; exact hpm))).drop lawU Try.underlying58 (keyOfU e4) ty
  have e88 : w8' = w8 := by rw [hrun] at hrun'; injection hrun' with _ e; exact e.symm
  subst e88
  have hcore8 : PoolCore w8' p mb ((q.put m.id i f.part).without f.id) A (D.del (keyU f.id)) := HC7.out.without HIDS.out ht9 (by rw [← HID.out, HWO.out]; exact hb9) hmt8
  have ht8 : Turned [p, mb] w7 w8' := (ht9.mono (fun j e => by simp at e; simp [e])).trans (Turned.grown (S := [mb]) hmt8.grown (fun j e => .inl (by cases e; simp))) (fun j e => .inl (by simp at e; simp [e]))
  have n7 := HN7.out.2 m' HMEM.out
  have hms8 : MsgAt w8' (A m'.id).1 (A m'.id).2 m' := HPB.out.same (ht8.block _ (lt_of_block HPB.out.box) (by simp; omega)) (ht8.block _ HPB.out.parts.lt (by simp; omega))
  have HT8 : Hid (Turned (blocksOf p mb0 A0 st.l) w w8') := Lib.hid (HT7.out.trans ht8 (fun j e => by
    simp only [List.mem_cons, List.not_mem_nil, or_false] at e
    rcases e with rfl | rfl
    · exact .inl (HF6.out.sub _ (by simp [blocksOf]))
    · exact .inl (HF6.out.sub _ (by simp [blocksOf]))))
  have HEND : Hid (∃ S', PoolAt w8' p (q.without f.id) S' ∧ (∀ j ∈ S', j ∈ blocksOf p mb0 A0 st.l ∨ w.heap.size ≤ j)) := by
    have e0 : (q.put m.id i f.part).without f.id = q.without f.id := by rw [← HID.out]; exact HWO.out
    rw [e0] at hcore8
    have hz := hown8.tight
    rw [hcore8.maps.size, List.length_map] at hz
    refine Lib.hid ⟨_, ⟨mb, A, _, hcore8, hz, rfl⟩, fun j hj => .inl (HF6.out.sub j ((blocks_sub p mb A q.l _).subset hj))⟩
  obtain ⟨DP, hop, hMP⟩ := hms8.parts
  have c8 := cells3 hms8.box
  rw [HCNT.out, HID'.out] at c8
  rw [HID'.out] at hop
  have hlen : ∀ x ∈ m'.parts, x.2.length ≤ 1000 := by
    rw [HPARTS.out]
    intro x hx
    rcases List.mem_append.1 hx with hx | hx
    · exact (HMO.out.each x hx).2.2
    · simp only [List.mem_singleton] at hx; subst hx; exact hq2
  have HOP := Lib.hid hop; have HMP := Lib.hid hMP; have HLEN := Lib.hid hlen
  have HTW' : Hid (Sough.whole m'.parts m.count = t) := by have := HTT.out; rw [HIN.out] at this; rw [HM'.out]; exact Lib.hid this
  obtain ⟨a, ha⟩ : ∃ a, a = (A m.id).1 := ⟨_, rfl⟩
  obtain ⟨b, hb⟩ : ∃ b, b = (A m.id).2 := ⟨_, rfl⟩
  clear hrun hrun' hown8 hmt8 hcore8 ht8 ht9 hb9 n7 hms8 hop hMP hlen r hpm ha hb
  go_wp2_with fail
  go_loop [13, 114] (fun sv iv => WholeR m'.parts m.count sv iv) (fun _ iv => m.count - (intOf iv).toNat)
  case atStart => exact ⟨0, Nat.zero_le _, rfl, rfl⟩
  case round =>
    obtain ⟨k, hk, rfl, rfl⟩ := hrel
    by_cases hlt : k < m.count
    · have lk := look_part HOP.out HMP.out (i := k) (by omega) HKEYS.out
      have hl1 := Sough.whole_le HLEN.out k
      have hl2 := Sough.partAt_le HLEN.out k
      have HS := Lib.hid (Sough.whole_succ m'.parts k)
      have hl3 : (Sough.whole m'.parts k).length ≤ 16000 := by have : 1000 * k ≤ 1000 * 16 := Nat.mul_le_mul_left _ (by omega); omega
      clear hl1
      go_wp2_with fail
      go_round
      case rel => exact ⟨k + 1, by omega, by rw [bapp, HS.out], by go_num⟩
      case measure => simp [intOf]; omega
    · obtain rfl : k = m.count := by omega
      rw [HTW'.out]
      have hl1 := Sough.whole_le HLEN.out m.count
      rw [HTW'.out] at hl1
      have hl3 : t.length ≤ 16000 := by have : 1000 * m.count ≤ 1000 * 16 := Nat.mul_le_mul_left _ (by omega); omega
      clear hl1
      by_cases hbig : 4096 < t.length
      · have HR : Hid ((q.without f.id, [], false, 4) = r) := by have := HRR.out; rw [if_pos hbig] at this; exact Lib.hid this
        go_wp2_with fail
        go_ret3
        obtain ⟨S', h1, h2⟩ := HEND.out
        rw [← HR.out]
        exact ⟨rfl, S', h1, h2, HT8.out⟩
      · have HR : Hid ((q.without f.id, t, true, 0) = r) := by have := HRR.out; rw [if_neg hbig] at this; exact Lib.hid this
        go_wp2_with fail
        go_ret3
        obtain ⟨S', h1, h2⟩ := HEND.out
        rw [← HR.out]
        exact ⟨rfl, S', h1, h2, HT8.out⟩

theorem add_as {p now : Nat} {st : Sough.Pool} {S : List Nat} {f : Sough.Frag} {r : Sough.Pool × List UInt8 × Bool × Nat} (hr : st.add f now = r) (w : World) (h : PoolAt w p st S) (hok : st.Ok) (hnow : now < 18446744073709551616) :
    Calls Try.prog 14 #[.pointer (some ⟨p, 0, none⟩), .agg #[.int .u64 f.id, .int .i64 f.index, .int .i64 f.count, .string ⟨f.part.toArray⟩], .int .u64 now] w (AddTo w p S r) := by
  subst hr
  unfold Sough.Pool.add
  by_cases hf : f.ok
  · rw [if_neg (fun h => h hf)]
    by_cases hc : f.count = 1
    · rw [if_pos hc]; exact add_one w h hok hnow hf hc
    · rw [if_neg hc]
      unfold Sough.Pool.step
      cases hn : (st.expire now).find f.id with
      | none =>
        simp only
        split
        · rename_i hfull; exact add_full w h hok hnow hf hc hn hfull
        · rename_i hfull; exact add_begin w h hok hnow hf hc hn hfull
      | some m =>
        simp only
        split
        · rename_i h1; exact add_form w h hok hnow hf hc hn h1
        · rename_i h1
          have h1' : (m.count : Int) = f.count := by simpa using h1
          split
          · rename_i h2; exact add_twice w h hok hnow hf hc hn h1' h2
          · rename_i h2
            have h2' := Bool.eq_false_iff.2 h2
            split
            · rename_i h3; exact add_full2 w h hok hnow hf hc hn h1' h2' h3
            · rename_i h3
              split
              · rename_i h4; exact add_put w h hok hnow hf hc hn h1' h2' h3 h4
              · rename_i h4
                exact add_whole w h hok hnow hf hc hn h1' h2' h3 (by simpa using h4) rfl rfl
  · rw [if_pos hf]; exact add_bad w h hf

end Go.Proofs.Ytokphknnblpagaa
