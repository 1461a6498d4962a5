/- The walk of (*pool.Pool).Add. -/
import Derived.Test.YtokphknnblpagaaPoBegin
namespace Go.Proofs.Ytokphknnblpagaa
open Go.RowKit Go.Maps Go.ChangeMaps

/-- What adding a part leaves. -/
def AddTo (w : World) (p : Nat) (S : List Nat) (r : Sough.Pool × List UInt8 × Bool × Nat) (e : Ending) (w' : World) : Prop :=
  e = .returned (.tuple #[.string ⟨r.2.1.toArray⟩, .bool r.2.2.1, .int .i64 r.2.2.2]) ∧ ∃ S', PoolAt w' p r.1 S' ∧ (∀ i ∈ S', i ∈ S ∨ w.heap.size ≤ i) ∧ Turned S w w'

/-- The call under way: the pool, the part's box. -/
structure AF (w0 w : World) (p mb k : Nat) (q : Sough.Pool) (A : Nat → Nat × Nat) (D : DataW Unit) (S0 : List Nat) (f : Sough.Frag) : Prop where
  core : PoolCore w p mb q A D
  own : w.ownsMap Try.prog 32 ptrElem mb q.l.length D
  box : w.heap[k]? = some (.cells #[.int .u64 f.id, .int .i64 f.index, .int .i64 f.count, .string ⟨f.part.toArray⟩] 35 (0, 0))
  turned : Turned S0 w0 w
  sub : ∀ i ∈ blocksOf p mb A q.l, i ∈ S0
  new : w0.heap.size ≤ k
  old : ∀ i ∈ S0, i < w0.heap.size

section
variable {w0 w w' : World} {p mb k : Nat} {q : Sough.Pool} {A : Nat → Nat × Nat} {D : DataW Unit} {S0 : List Nat} {f : Sough.Frag}
theorem AF.later (h : AF w0 w p mb k q A D S0 f) (hb : Below w.heap.size w w') : AF w0 w' p mb k q A D S0 f :=
  ⟨h.core.same fun i hi _ => hb.block i (h.core.lt h.own.lt i hi), h.own.same (hb.block mb h.own.lt), (hb.block k (lt_of_block h.box)).trans h.box, h.turned.trans (Turned.below (S := []) hb) (fun j e => absurd e (by simp)), h.sub, h.new, h.old⟩
theorem AF.rules (h : AF w0 w p mb k q A D S0 f) : ∀ x : Later w, x.world.cell? ⟨p, 0, none⟩ = some (.map (some mb)) ∧ x.world.cell? ⟨p, 1, none⟩ = some (.int .i64 q.slots) ∧ x.world.cell? ⟨p, 2, none⟩ = some (.int .i64 q.room) ∧ x.world.cell? ⟨p, 3, none⟩ = some (.int .i64 q.held) ∧
    x.world.cell? ⟨k, 0, none⟩ = some (.int .u64 f.id) ∧ x.world.cell? ⟨k, 1, none⟩ = some (.int .i64 f.index) ∧ x.world.cell? ⟨k, 2, none⟩ = some (.int .i64 f.count) ∧ x.world.cell? ⟨k, 3, none⟩ = some (.string ⟨f.part.toArray⟩) := fun x => by
  have h1 := cells4 (h.later x.below).core.box
  have h2 := cells4 (h.later x.below).box
  exact ⟨h1.1, h1.2.1, h1.2.2.1, h1.2.2.2.1, h2.1, h2.2.1, h2.2.2.1, h2.2.2.2.1⟩
theorem AF.now (h : AF w0 w p mb k q A D S0 f) : w.cell? ⟨p, 0, none⟩ = some (.map (some mb)) ∧ w.cell? ⟨p, 1, none⟩ = some (.int .i64 q.slots) ∧ w.cell? ⟨p, 2, none⟩ = some (.int .i64 q.room) ∧ w.cell? ⟨p, 3, none⟩ = some (.int .i64 q.held) ∧
    w.cell? ⟨k, 0, none⟩ = some (.int .u64 f.id) ∧ w.cell? ⟨k, 1, none⟩ = some (.int .i64 f.index) ∧ w.cell? ⟨k, 2, none⟩ = some (.int .i64 f.count) ∧ w.cell? ⟨k, 3, none⟩ = some (.string ⟨f.part.toArray⟩) := h.rules ⟨w, Below.refl _ _⟩
theorem AF.msg (h : AF w0 w p mb k q A D S0 f) {m : Sough.PMsg} (hm : m ∈ q.l) : ∀ x : Later w, x.world.cell? ⟨(A m.id).1, 0, none⟩ = some (.int .i64 m.count) ∧ x.world.cell? ⟨(A m.id).1, 1, none⟩ = some (.map (some (A m.id).2)) := fun x => by
  have h1 := cells3 ((h.later x.below).core.msgs m hm).box
  exact ⟨h1.1, h1.2.1⟩
theorem AF.done (h : AF w0 w p mb k q A D S0 f) {t : List UInt8} {b : Bool} {er : Nat} : AddTo w0 p S0 (q, t, b, er) (.returned (.tuple #[.string ⟨t.toArray⟩, .bool b, .int .i64 er])) w :=
  ⟨rfl, _, ⟨mb, A, D, h.core, h.own, rfl⟩, fun i hi => .inl (h.sub i hi), h.turned⟩
end


set_option maxRecDepth 100000 in
set_option maxHeartbeats 1600000 in
theorem add_bad {p now : Nat} {st : Sough.Pool} {S : List Nat} {f : Sough.Frag} (w : World) (h : PoolAt w p st S) (hf : ¬ f.ok) :
    Calls Try.prog 14 #[.pointer (some ⟨p, 0, none⟩), .agg #[.int .u64 f.id, .int .i64 f.index, .int .i64 f.count, .string ⟨f.part.toArray⟩], .int .u64 now] w (AddTo w p S (st, [], false, 1)) := by
  have hr : f.right = false := by rw [Bool.eq_false_iff]; exact fun h => hf ((Sough.right_iff f).1 h)
  have HP := Lib.hid h
  clear h hf
  go_enter Try.func14, Try.ntmps14
  go_wp2_with fail
  have HB := Lib.hid ((Mem.start w).alloc (.cells #[.int .u64 f.id, .int .i64 f.index, .int .i64 f.count, .string ⟨f.part.toArray⟩] 35))
  generalize w.alloc (.cells #[.int .u64 f.id, .int .i64 f.index, .int .i64 f.count, .string ⟨f.part.toArray⟩] 35) = W1 at *
  refine (right_as hr _).mono ?_; rintro e w1 ⟨rfl, hb1⟩
  have HB1 := Lib.hid (HB.out.later hb1)
  clear hb1 HB
  have HA : Hid (AddTo w p S (st, [], false, 1) (.returned (.tuple #[.string ⟨#[]⟩, .bool false, .int .i64 1])) w1) := Lib.hid ⟨rfl, S, HP.out.later HB1.out.bel, fun i hi => .inl hi, Turned.below HB1.out.bel⟩
  go_wp2_with fail
  go_ret3
  exact HA.out


set_option maxRecDepth 100000 in
set_option maxHeartbeats 1600000 in
theorem add_one {p now : Nat} {st : Sough.Pool} {S : List Nat} {f : Sough.Frag} (w : World) (h : PoolAt w p st S) (hok : st.Ok) (hnow : now < 18446744073709551616) (hf : f.ok) (hc : f.count = 1) :
    Calls Try.prog 14 #[.pointer (some ⟨p, 0, none⟩), .agg #[.int .u64 f.id, .int .i64 f.index, .int .i64 f.count, .string ⟨f.part.toArray⟩], .int .u64 now] w (AddTo w p S (st.expire now, f.part, true, 0)) := by
  have hr : f.right = true := (Sough.right_iff f).2 hf
  have HP := Lib.hid h; have HOK := Lib.hid hok; have HF := Lib.hid hf; have HC := Lib.hid hc
  clear h hf hok hc
  go_enter Try.func14, Try.ntmps14
  go_wp2_with fail
  have HB := Lib.hid ((Mem.start w).alloc (.cells #[.int .u64 f.id, .int .i64 f.index, .int .i64 f.count, .string ⟨f.part.toArray⟩] 35))
  generalize w.alloc (.cells #[.int .u64 f.id, .int .i64 f.index, .int .i64 f.count, .string ⟨f.part.toArray⟩] 35) = W1 at *
  refine (right_as hr _).mono ?_; rintro e w1 ⟨rfl, hb1⟩
  have HB1 := Lib.hid (HB.out.later hb1)
  clear hb1 HB
  obtain ⟨mb0, A0, D0, hc0, ho0, rfl⟩ := HP.out.later HB1.out.bel
  have CE := Lib.hid (expire_any w1 hc0 ho0 HOK.out hnow)
  have hk1 := HB1.out.get 0 rfl
  have HT1 := Lib.hid (Turned.below (S := blocksOf p mb0 A0 st.l) HB1.out.bel)
  have HLT := Lib.hid HP.out.lt
  have HK1 := Lib.hid hk1
  obtain ⟨k, hk⟩ : ∃ k, k = w.heap.size := ⟨_, rfl⟩
  have HK := Lib.hid hk
  rw [← hk] at HK1 ⊢
  clear hc0 ho0 hk1 hk HB1
  go_wp2_with fail
  refine CE.out.mono ?_
  rintro e w2 ⟨rfl, S2, ⟨mb, A, D, hc2, ho2, rfl⟩, hsub2, ht2⟩
  have HF2 : Hid (AF w w2 p mb k (st.expire now) A D (blocksOf p mb0 A0 st.l) f) := Lib.hid ⟨hc2, ho2, (ht2.block k (lt_of_block HK1.out) (fun h => by have := HLT.out k h; rw [HK.out] at this; omega)).trans HK1.out, HT1.out.trans ht2 (fun i hi => .inl hi), hsub2, by rw [HK.out]; exact Nat.le_refl _, HLT.out⟩
  clear hc2 ho2 hsub2 ht2 CE HK1 HT1
  have r := HF2.out.now
  have HA := Lib.hid (HF2.out.done (t := f.part) (b := true) (er := 0))
  rw [HC.out] at r
  go_wp2_with fail
  go_ret3
  exact HA.out



set_option maxRecDepth 100000 in
set_option maxHeartbeats 3200000 in
theorem add_full {p now : Nat} {st : Sough.Pool} {S : List Nat} {f : Sough.Frag} (w : World) (h : PoolAt w p st S) (hok : st.Ok) (hnow : now < 18446744073709551616) (hf : f.ok) (hc : ¬ f.count = 1) (hn : (st.expire now).find f.id = none)
    (hfull : (st.expire now).slots ≤ (st.expire now).l.length ∨ (st.expire now).room < (st.expire now).held + f.part.length) :
    Calls Try.prog 14 #[.pointer (some ⟨p, 0, none⟩), .agg #[.int .u64 f.id, .int .i64 f.index, .int .i64 f.count, .string ⟨f.part.toArray⟩], .int .u64 now] w (AddTo w p S (st.expire now, [], false, 8)) := by
  have hr : f.right = true := (Sough.right_iff f).2 hf
  have HP := Lib.hid h; have HOK := Lib.hid hok; have HF := Lib.hid hf; have HC := Lib.hid hc; have HN := Lib.hid hn; have HFU := Lib.hid hfull
  clear h hf hok hc hn hfull
  go_enter Try.func14, Try.ntmps14
  go_wp2_with fail
  have HB := Lib.hid ((Mem.start w).alloc (.cells #[.int .u64 f.id, .int .i64 f.index, .int .i64 f.count, .string ⟨f.part.toArray⟩] 35))
  generalize w.alloc (.cells #[.int .u64 f.id, .int .i64 f.index, .int .i64 f.count, .string ⟨f.part.toArray⟩] 35) = W1 at *
  refine (right_as hr _).mono ?_; rintro e w1 ⟨rfl, hb1⟩
  have HB1 := Lib.hid (HB.out.later hb1)
  clear hb1 HB
  have ec : (f.count == (1 : Int)) = false := by have := HC.out; simp; omega
  obtain ⟨mb0, A0, D0, hc0, ho0, rfl⟩ := HP.out.later HB1.out.bel
  have CE := Lib.hid (expire_any w1 hc0 ho0 HOK.out hnow)
  have hk1 := HB1.out.get 0 rfl
  have HT1 := Lib.hid (Turned.below (S := blocksOf p mb0 A0 st.l) HB1.out.bel)
  have HLT := Lib.hid HP.out.lt
  have HK1 := Lib.hid hk1
  obtain ⟨k, hk⟩ : ∃ k, k = w.heap.size := ⟨_, rfl⟩
  have HK := Lib.hid hk
  rw [← hk] at HK1 ⊢
  clear hc0 ho0 hk1 hk HB1
  go_wp2_with fail
  refine CE.out.mono ?_
  rintro e w2 ⟨rfl, S2, ⟨mb, A, D, hc2, ho2, rfl⟩, hsub2, ht2⟩
  have HF2 : Hid (AF w w2 p mb k (st.expire now) A D (blocksOf p mb0 A0 st.l) f) := Lib.hid ⟨hc2, ho2, (ht2.block k (lt_of_block HK1.out) (fun h => by have := HLT.out k h; rw [HK.out] at this; omega)).trans HK1.out, HT1.out.trans ht2 (fun i hi => .inl hi), hsub2, by rw [HK.out]; exact Nat.le_refl _, HLT.out⟩
  clear hc2 ho2 hsub2 ht2 CE HK1 HT1
  have r := HF2.out.now
  clear hr
  generalize hq : st.expire now = q at *
  have e4 : f.id < 18446744073709551616 := by have := HF.out.2.1; omega
  have lk : ∀ x : Later w2, (Instr.lookup 58 (.map (some mb)) (.int .u64 f.id) true).run Try.prog x.world = .ok (.tuple #[.pointer none, .bool false]) x.world := fun x =>
    look_msg_no (HF2.out.later x.below).own (HF2.out.later x.below).core.maps e4 (fun y hy => by obtain ⟨m, hm, rfl⟩ := List.mem_map.1 hy; exact Sough.find_none HN.out m hm)
  have rr := HF2.out.rules
  have hq1 : q.held ≤ 100000 := by have h := HOK.out.expire now; rw [hq] at h; have := h.held; have := h.r1; omega
  have hq2 : f.part.length ≤ 1000 := HF.out.2.2.2.2.2.2.2
  have HQ := Lib.hid hq
  clear hq
  go_wp2_with fail
  refine wp_region_later (by kernel_rfl) (by kernel_rfl) ?_
  repeat go_big_quiet_step (fail)
  refine wpQuiet_nil ?_
  rintro ⟨w3, hb3⟩
  change Exit.then _ _ _ _ w3
  have HF3 := Lib.hid (HF2.out.later hb3)
  clear hb3 HF2
  clear lk rr r
  have r := HF3.out.rules
  have hln : ∀ x : Later w3, (Builtin.len_ #[58] 3 #[.map (some mb)]).run Try.prog x.world = .ok (.int .i64 q.l.length) x.world := fun x => by
    have := len_msgs (HF3.out.later x.below).own (HF3.out.later x.below).core.maps
    rw [List.length_map] at this
    exact this
  go_wp2_with fail
  have hwr : IntKind.i64.wrap ((q.held : Int) + f.part.length) = (q.held : Int) + f.part.length := IntWalk.i64_in _ (by omega)
  by_cases h1 : q.slots ≤ q.l.length
  · have d1 : decide ((q.slots : Int) ≤ q.l.length) = true := by simp; omega
    have d1' : decide (q.slots ≤ q.l.length) = true := by simp; omega
    clear h1
    refine wp_region_later (by kernel_rfl) (by kernel_rfl) ?_
    repeat go_big_quiet_step (fail)
    refine wpQuiet_nil ?_
    rintro ⟨w4, hb3⟩
    change Exit.then _ _ _ _ w4
    have HF4 := Lib.hid (HF3.out.later hb3)
    clear hb3 HF3
    have HA := Lib.hid (HF4.out.done (t := []) (b := false) (er := 8))
    clear r hln
    go_wp2_with fail
    go_ret3
    exact HA.out
  · have h2 : q.room < q.held + f.part.length := by have := HFU.out; omega
    have d1 : decide ((q.slots : Int) ≤ q.l.length) = false := by simp; omega
    have d1' : decide (q.slots ≤ q.l.length) = false := by simp; omega
    have d2 : decide ((q.room : Int) < (q.held : Int) + f.part.length) = true := by simp; omega
    clear h1
    refine wp_region_later (by kernel_rfl) (by kernel_rfl) ?_
    repeat go_big_quiet_step (fail)
    refine wpQuiet_nil ?_
    rintro ⟨w4, hb3⟩
    change Exit.then _ _ _ _ w4
    have HF4 := Lib.hid (HF3.out.later hb3)
    clear hb3 HF3
    have HA := Lib.hid (HF4.out.done (t := []) (b := false) (er := 8))
    clear r hln
    go_wp2_with fail
    go_ret3
    exact HA.out

theorem put_as {p mb a b slots room cnt0 since i id held : Nat} {ix cf : Int} {D : DataW Unit} {l : List (Nat × List UInt8)} {s : List UInt8} (hix : ix = i) (w : World)
    (hp : w.heap[p]? = some (.cells (pcells mb slots room held) 60 (0, 0))) (ha : w.heap[a]? = some (.cells #[.int .i64 cnt0, .map (some b), .int .u64 since] 67 (0, 0)))
    (ho : w.ownsMap Try.prog 3 (plainElem (H := Unit) Try.prog 9) b l.length D) (hM : MapsTo keyI mkS D l) (hno : (l.any fun q => q.1 == i) = false)
    (hpa : p ≠ a) (hpb : p ≠ b) (hab : a ≠ b) (hi : i < 1000) (hl : l.length < 1000) (hs : s.length ≤ 100000) (hh : held ≤ 100000) :
    Calls Try.prog 24 #[.pointer (some ⟨p, 0, none⟩), .pointer (some ⟨a, 0, none⟩), .agg #[.int .u64 id, .int .i64 ix, .int .i64 cf, .string ⟨s.toArray⟩]] w (PutTo w p b mb slots room held cnt0 i l s) := by
  subst hix; exact put_any w hp ha ho hM hno hpa hpb hab hi hl hs hh

set_option maxRecDepth 100000 in
set_option maxHeartbeats 3200000 in
theorem add_begin {p now : Nat} {st : Sough.Pool} {S : List Nat} {f : Sough.Frag} (w : World) (h : PoolAt w p st S) (hok : st.Ok) (hnow : now < 18446744073709551616) (hf : f.ok) (hc : ¬ f.count = 1) (hn : (st.expire now).find f.id = none)
    (hfull : ¬ ((st.expire now).slots ≤ (st.expire now).l.length ∨ (st.expire now).room < (st.expire now).held + f.part.length)) :
    Calls Try.prog 14 #[.pointer (some ⟨p, 0, none⟩), .agg #[.int .u64 f.id, .int .i64 f.index, .int .i64 f.count, .string ⟨f.part.toArray⟩], .int .u64 now] w (AddTo w p S ((st.expire now).begin ⟨f.id, f.count.toNat, now, [(f.index.toNat, f.part)]⟩, [], false, 0)) := by
  have hr : f.right = true := (Sough.right_iff f).2 hf
  have hmm := @run_makeMap Try.prog
  have HP := Lib.hid h; have HOK := Lib.hid hok; have HF := Lib.hid hf; have HC := Lib.hid hc; have HN := Lib.hid hn; have HFU := Lib.hid hfull
  clear h hf hok hc hn hfull
  go_enter Try.func14, Try.ntmps14
  go_wp2_with fail
  have HB := Lib.hid ((Mem.start w).alloc (.cells #[.int .u64 f.id, .int .i64 f.index, .int .i64 f.count, .string ⟨f.part.toArray⟩] 35))
  generalize w.alloc (.cells #[.int .u64 f.id, .int .i64 f.index, .int .i64 f.count, .string ⟨f.part.toArray⟩] 35) = W1 at *
  refine (right_as hr _).mono ?_; rintro e w1 ⟨rfl, hb1⟩
  have HB1 := Lib.hid (HB.out.later hb1)
  clear hb1 HB
  have ec : (f.count == (1 : Int)) = false := by have := HC.out; simp; omega
  obtain ⟨mb0, A0, D0, hc0, ho0, rfl⟩ := HP.out.later HB1.out.bel
  have CE := Lib.hid (expire_any w1 hc0 ho0 HOK.out hnow)
  have hk1 := HB1.out.get 0 rfl
  have HT1 := Lib.hid (Turned.below (S := blocksOf p mb0 A0 st.l) HB1.out.bel)
  have HLT := Lib.hid HP.out.lt
  have HK1 := Lib.hid hk1
  obtain ⟨k, hk⟩ : ∃ k, k = w.heap.size := ⟨_, rfl⟩
  have HK := Lib.hid hk
  rw [← hk] at HK1 ⊢
  clear hc0 ho0 hk1 hk HB1
  go_wp2_with fail
  refine CE.out.mono ?_
  rintro e w2 ⟨rfl, S2, ⟨mb, A, D, hc2, ho2, rfl⟩, hsub2, ht2⟩
  have HF2 : Hid (AF w w2 p mb k (st.expire now) A D (blocksOf p mb0 A0 st.l) f) := Lib.hid ⟨hc2, ho2, (ht2.block k (lt_of_block HK1.out) (fun h => by have := HLT.out k h; rw [HK.out] at this; omega)).trans HK1.out, HT1.out.trans ht2 (fun i hi => .inl hi), hsub2, by rw [HK.out]; exact Nat.le_refl _, HLT.out⟩
  clear hc2 ho2 hsub2 ht2 CE HK1 HT1
  have r := HF2.out.now
  clear hr
  generalize hq : st.expire now = q at *
  have e4 : f.id < 18446744073709551616 := by have := HF.out.2.1; omega
  have lk : ∀ x : Later w2, (Instr.lookup 58 (.map (some mb)) (.int .u64 f.id) true).run Try.prog x.world = .ok (.tuple #[.pointer none, .bool false]) x.world := fun x =>
    look_msg_no (HF2.out.later x.below).own (HF2.out.later x.below).core.maps e4 (fun y hy => by obtain ⟨m, hm, rfl⟩ := List.mem_map.1 hy; exact Sough.find_none HN.out m hm)
  have rr := HF2.out.rules
  have hq1 : q.held ≤ 100000 := by have h := HOK.out.expire now; rw [hq] at h; have := h.held; have := h.r1; omega
  have hq3 : q.l.length ≤ 16 := by have h := HOK.out.expire now; rw [hq] at h; have := h.len; have := h.s1; omega
  have hq2 : f.part.length ≤ 1000 := HF.out.2.2.2.2.2.2.2
  have HQ := Lib.hid hq
  clear hq
  go_wp2_with fail
  refine wp_region_later (by kernel_rfl) (by kernel_rfl) ?_
  repeat go_big_quiet_step (fail)
  refine wpQuiet_nil ?_
  rintro ⟨w3, hb3⟩
  change Exit.then _ _ _ _ w3
  have HF3 := Lib.hid (HF2.out.later hb3)
  clear hb3 HF2
  clear lk rr r
  have r := HF3.out.rules
  have hln : ∀ x : Later w3, (Builtin.len_ #[58] 3 #[.map (some mb)]).run Try.prog x.world = .ok (.int .i64 q.l.length) x.world := fun x => by
    have := len_msgs (HF3.out.later x.below).own (HF3.out.later x.below).core.maps
    rw [List.length_map] at this
    exact this
  go_wp2_with fail
  have hwr : IntKind.i64.wrap ((q.held : Int) + f.part.length) = (q.held : Int) + f.part.length := IntWalk.i64_in _ (by omega)
  have d1 : decide ((q.slots : Int) ≤ q.l.length) = false := by have := HFU.out; simp; omega
  have d1' : decide (q.slots ≤ q.l.length) = false := by have := HFU.out; simp; omega
  have d2 : decide ((q.room : Int) < (q.held : Int) + f.part.length) = false := by have := HFU.out; simp; omega
  refine wp_region_later (by kernel_rfl) (by kernel_rfl) ?_
  repeat go_big_quiet_step (fail)
  refine wpQuiet_nil ?_
  rintro ⟨w4, hb3⟩
  change Exit.then _ _ _ _ w4
  have HF4 := Lib.hid (HF3.out.later hb3)
  clear hb3 HF3
  clear r hln hwr d1 d1' d2
  have r := HF4.out.now
  have hW5 : Below w4.heap.size w4 ((w4.alloc (.map #[] 0)).alloc (.cells #[.int .i64 f.count, .map (some w4.heap.size), .int .u64 now] 67)) := ((Below.refl _ _).alloc (Nat.le_refl _) _).alloc (by simp) _
  have hm5 : PartsAt ((w4.alloc (.map #[] 0)).alloc (.cells #[.int .i64 f.count, .map (some w4.heap.size), .int .u64 now] 67)) w4.heap.size [] := ⟨.map [], (World.ownsMap_made w4 Try.prog 3 (plainElem (H := Unit) Try.prog 9)).alloc _, MapsTo.start⟩
  have hb5 : ((w4.alloc (.map #[] 0)).alloc (.cells #[.int .i64 f.count, .map (some w4.heap.size), .int .u64 now] 67)).heap[w4.heap.size + 1]? = some (.cells #[.int .i64 f.count, .map (some w4.heap.size), .int .u64 now] 67 (0, 0)) := by
    have := heap_alloc_new (w4.alloc (.map #[] 0)) (.cells #[.int .i64 f.count, .map (some w4.heap.size), .int .u64 now] 67)
    rw [World.size_alloc] at this
    exact this
  have HF5 := Lib.hid (HF4.out.later hW5)
  have HM5 := Lib.hid hm5; have HB5 := Lib.hid hb5; have HW5 := Lib.hid hW5; have HF4' := Lib.hid HF4
  have HSZ := Lib.hid (show ((w4.alloc (.map #[] 0)).alloc (.cells #[.int .i64 f.count, .map (some w4.heap.size), .int .u64 now] 67)).heap.size = w4.heap.size + 2 by simp)
  have HS4 := Lib.hid HF4.out.turned.size
  have HLT4 := Lib.hid (HF4.out.core.lt HF4.out.own.lt)
  clear hW5 hm5 hb5
  go_wp2_with fail
  generalize (w4.alloc (.map #[] 0)).alloc (.cells #[.int .i64 f.count, .map (some w4.heap.size), .int .u64 now] 67) = W5 at *
  generalize hb : w4.heap.size = b at *
  have HBB := Lib.hid hb
  clear hb r
  have r := HF5.out.now
  go_still_tail 7, (by kernel_rfl)
  change wpList _ _ _ _ _ W5.drew
  refine wpList_mapUpdate_own _ rfl _ _ _ 58 rfl 32 64 lawU Try.underlying58 _ mb q.l.length D rfl HF5.out.own.drew (by unfold maxLen; omega) _ _ _ rfl rfl (keyOfU e4) (mkP (b + 1)) [] (ptrElem_mk (b + 1)) ?_
  intro w6 hown6 hg6
  have hne := blocks_ne HF5.out.core.apart
  have hsub := HF5.out.sub
  have hmbb : mb < b := by have := HLT4.out mb (by simp [blocksOf]); omega
  have hpb : p < b := by have := HLT4.out p (by simp [blocksOf]); omega
  have hp6 := (hg6.block p (lt_of_block HF5.out.core.box) (by simp; exact hne.1)).trans HF5.out.core.box
  have hb6 := (hg6.block (b + 1) (lt_of_block HB5.out) (by simp; omega)).trans HB5.out
  have hm6 := HM5.out.same (hg6.block b HM5.out.lt (by simp; omega))
  have hk6 := (hg6.block k (lt_of_block HF5.out.box) (by have := HF5.out.new; have := HF5.out.old mb (hsub mb (by simp [blocksOf])); simp; omega)).trans HF5.out.box
  obtain ⟨i, hi⟩ : ∃ i : Nat, f.index = i := ⟨f.index.toNat, by have := HF.out.2.2.2.2.1; omega⟩
  obtain ⟨c, hc⟩ : ∃ c : Nat, f.count = c := ⟨f.count.toNat, by have := HF.out.2.2.1; omega⟩
  have hi16 : i < 16 := by have := HF.out.2.2.2.2.2.1; have := HF.out.2.2.2.1; omega
  have HC6 := Lib.hid (by rw [hc] at hb6; exact hb6)
  obtain ⟨D6, ho6, hM6⟩ := hm6
  have CP := Lib.hid (put_as (cnt0 := c) (cf := f.count) (s := f.part) (id := f.id) (held := q.held) hi w6 hp6 (by rw [hc] at hb6; exact hb6) ho6 hM6 (by rfl) (by omega) (by omega) (by omega) (by omega) (by simp) (by omega) hq1)
  have r6 := cells4 hk6
  have HP6 := Lib.hid hp6; have HB6 := Lib.hid hb6; have HG6 := Lib.hid hg6; have HO6 := Lib.hid hown6; have HI := Lib.hid hi; have HCC := Lib.hid hc; have HNE := Lib.hid hne; have HSUB := Lib.hid hsub
  clear r hp6 hb6 hk6 hg6 hown6 ho6 hM6 hi hc hne hsub
  go_wp2_with fail
  refine CP.out.mono ?_
  rintro e w7 ⟨rfl, hp7, hm7, ht7⟩
  have hcount : decide (([] : List (Nat × List UInt8)).length + 1 = c) = false := by have := HC.out; have := HCC.out; simp; omega
  rw [hcount]
  have HA : Hid (AddTo w p (blocksOf p mb0 A0 st.l) (q.begin ⟨f.id, f.count.toNat, now, [(f.index.toNat, f.part)]⟩, [], false, 0) (.returned (.tuple #[.string ⟨#[]⟩, .bool false, .int .i64 0])) w7) := by
    have hno : ∀ x ∈ q.l, x.id ≠ f.id := fun x hx => Sough.find_none HN.out x hx
    have hin : f.index.toNat = i := by have := HI.out; omega
    have hcn : f.count.toNat = c := by have := HCC.out; omega
    rw [hin, hcn]
    have hold : ∀ j, j < w4.heap.size → j ≠ p → j ≠ mb → w7.heap[j]? = w4.heap[j]? := fun j hj h1 h2 => by
      have := HBB.out
      have := HW5.out.size
      have g := HG6.out.size
      rw [ht7.block j (by show _ < w6.heap.size; have : W5.drew.heap.size = W5.heap.size := rfl; omega) (by simp; omega), HG6.out.block j (by show _ < W5.heap.size; omega) (by simp; omega)]
      exact HW5.out.block j (by omega)
    have hmb7 : w7.ownsMap Try.prog 32 ptrElem mb (q.l.length + 1) (D.put (keyU f.id) (mkP (b + 1))) := HO6.out.same (ht7.block mb HO6.out.lt (by have := HNE.out.1; simp; omega))
    have hcore7 := HF4'.out.out.core.begin (w6 := w7) (m := ⟨f.id, c, now, [(i, f.part)]⟩) (a := b + 1) (b := b) HF4'.out.out.own.lt hno (by have := HBB.out; omega) (by have := HBB.out; omega) (by omega) hold
      (by rw [hp7]; show some (Obj.cells #[_, _, _, .int .i64 _] _ _) = some (Obj.cells #[_, _, _, .int .i64 _] _ _); rw [show (q.begin ⟨f.id, c, now, [(i, f.part)]⟩).held = q.held + f.part.length by simp [Sough.Pool.held, Sough.Pool.begin, Sough.heldOf, Sough.PMsg.bytes, Sough.psum]]; rfl)
      ⟨(ht7.block (b + 1) (lt_of_block HB6.out) (by simp; omega)).trans HC6.out, hm7⟩
    refine ⟨rfl, _, ⟨mb, _, _, hcore7, by rw [show (q.begin ⟨f.id, c, now, [(i, f.part)]⟩).l.length = q.l.length + 1 by simp [Sough.Pool.begin]]; exact hmb7, rfl⟩, ?_, ?_⟩
    · intro j hj
      rw [show (q.begin ⟨f.id, c, now, [(i, f.part)]⟩).l = q.l ++ [⟨f.id, c, now, [(i, f.part)]⟩] from rfl, blocks_begin hno] at hj
      rcases List.mem_append.1 hj with hj | hj
      · exact .inl (HSUB.out j hj)
      · simp only [List.mem_cons, List.not_mem_nil, or_false] at hj
        have := HS4.out
        omega
    · refine (HF4'.out.out.turned.trans (Turned.below (S := []) (by rw [HBB.out]; exact HW5.out)) (fun j e => absurd e (by simp))).trans (?_ : Turned [p, mb, b] W5 w7) (fun j e => ?_)
      · exact ((Turned.below (S := [p, mb, b]) (Below.refl _ W5).drew).trans (Turned.grown (S := [p, mb, b]) HG6.out (fun j e => .inl (by cases e; simp))) (fun j e => .inl e)).trans (ht7.mono (fun j e => by simp at e; simp; omega) : Turned [p, mb, b] w6 w7) (fun j e => .inl e)
      · simp only [List.mem_cons, List.not_mem_nil, or_false] at e
        rcases e with rfl | rfl | rfl
        · exact .inl (HSUB.out _ (by simp [blocksOf]))
        · exact .inl (HSUB.out _ (by simp [blocksOf]))
        · exact .inr HS4.out
  clear hp7 hm7 ht7 hcount
  go_wp2_with fail
  go_ret3
  exact HA.out

end Go.Proofs.Ytokphknnblpagaa
