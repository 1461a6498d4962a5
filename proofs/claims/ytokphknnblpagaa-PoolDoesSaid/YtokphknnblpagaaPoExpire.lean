/- The walk of (*pool.Pool).Expire. -/
import Derived.Test.YtokphknnblpagaaPoForget
namespace Go.Proofs.Ytokphknnblpagaa
open Go.RowKit Go.Maps Go.ChangeMaps

theorem flatMap_sub {α β : Type} (f : α → List β) (p : α → Bool) : ∀ l : List α, ((l.filter p).flatMap f).Sublist (l.flatMap f)
  | [] => List.Sublist.refl _
  | x :: l => by
    rw [List.filter_cons]
    split
    · rw [List.flatMap_cons, List.flatMap_cons]; exact (List.Sublist.refl _).append (flatMap_sub f p l)
    · rw [List.flatMap_cons]; exact (flatMap_sub f p l).trans (List.sublist_append_right _ _)
theorem blocks_sub (p mb : Nat) (A : Nat → Nat × Nat) (l : List Sough.PMsg) (q : Sough.PMsg → Bool) : (blocksOf p mb A (l.filter q)).Sublist (blocksOf p mb A l) := ((flatMap_sub _ q l).cons_cons _).cons_cons _
theorem blocks_ne {p mb : Nat} {A : Nat → Nat × Nat} {l : List Sough.PMsg} (h : (blocksOf p mb A l).Nodup) : p ≠ mb ∧ ∀ m ∈ l, (A m.id).1 ≠ p ∧ (A m.id).2 ≠ p ∧ (A m.id).1 ≠ mb ∧ (A m.id).2 ≠ mb ∧ (A m.id).1 ≠ (A m.id).2 := by
  simp only [blocksOf, List.nodup_cons, List.mem_cons, not_or] at h
  obtain ⟨⟨h1, h2⟩, h3, h4⟩ := h
  refine ⟨h1, fun m hm => ?_⟩
  have m1 : (A m.id).1 ∈ l.flatMap fun m => [(A m.id).1, (A m.id).2] := List.mem_flatMap.2 ⟨m, hm, by simp⟩
  have m2 : (A m.id).2 ∈ l.flatMap fun m => [(A m.id).1, (A m.id).2] := List.mem_flatMap.2 ⟨m, hm, by simp⟩
  refine ⟨fun e => h2 (e ▸ m1), fun e => h2 (e ▸ m2), fun e => h3 (e ▸ m1), fun e => h3 (e ▸ m2), fun e => ?_⟩
  clear h2 h3 m1 m2
  induction l with
  | nil => simp at hm
  | cons x l ih =>
    rw [List.flatMap_cons] at h4
    rcases List.mem_cons.1 hm with h5 | h5
    · have := (List.nodup_append.1 h4).1
      rw [← h5] at this
      simp [e] at this
    · exact ih (List.nodup_append.1 h4).2.1 h5

theorem blocks_other {p mb : Nat} {A : Nat → Nat × Nat} {l : List Sough.PMsg} (h : (blocksOf p mb A l).Nodup) {x y : Sough.PMsg} (hx : x ∈ l) (hy : y ∈ l) (e : x.id ≠ y.id) : (A x.id).1 ≠ (A y.id).2 ∧ (A x.id).2 ≠ (A y.id).2 := by
  simp only [blocksOf, List.nodup_cons] at h
  have h4 := h.2.2
  clear h
  induction l with
  | nil => simp at hx
  | cons z l ih =>
    rw [List.flatMap_cons] at h4
    obtain ⟨_, h5, h6⟩ := List.nodup_append.1 h4
    have inn : ∀ u ∈ l, (A u.id).1 ∈ l.flatMap (fun m => [(A m.id).1, (A m.id).2]) ∧ (A u.id).2 ∈ l.flatMap (fun m => [(A m.id).1, (A m.id).2]) := fun u hu => ⟨List.mem_flatMap.2 ⟨u, hu, by simp⟩, List.mem_flatMap.2 ⟨u, hu, by simp⟩⟩
    rcases List.mem_cons.1 hx with h1 | h1 <;> rcases List.mem_cons.1 hy with h2 | h2
    · exact absurd (by rw [h1, h2]) e
    · rw [h1]
      exact ⟨h6 _ (by simp) _ (inn y h2).2, h6 _ (by simp) _ (inn y h2).2⟩
    · rw [h2]
      exact ⟨fun e' => h6 _ (by simp) _ (inn x h1).1 e'.symm, fun e' => h6 _ (by simp) _ (inn x h1).2 e'.symm⟩
    · exact ih h1 h2 h5

theorem PoolCore.without {w w1 w3 : World} {p mb : Nat} {st : Sough.Pool} {A : Nat → Nat × Nat} {D : DataW Unit} (h : PoolCore w p mb st A D) (hi : (st.l.map (·.id)).Nodup) {id : Nat} (ht : Turned [p] w w1)
    (hb : w1.heap[p]? = some (.cells (pcells mb st.slots st.room (st.without id).held) 60 (0, 0))) (hm : w1.mapTurned w3 mb) : PoolCore w3 p mb (st.without id) A (D.del (keyU id)) := by
  have hne := blocks_ne h.apart
  have hp : p < w.heap.size := lt_of_block h.box
  have hg := hm.grown
  have hsz := ht.size
  refine ⟨?_, fun m hm' => ?_, (blocks_sub p mb A st.l _).nodup h.apart, ?_⟩
  · rw [hg.block p (by omega) (by simp; exact hne.1), hb]; rfl
  · have hml : m ∈ st.l := (List.mem_filter.1 hm').1
    have n := hne.2 m hml
    have hM := h.msgs m hml
    have l1 := lt_of_block hM.box
    have l2 := hM.parts.lt
    refine hM.same ?_ ?_
    · rw [hg.block _ (by omega) (by simp; exact n.2.2.1), ht.block _ l1 (by simp; exact n.1)]
    · rw [hg.block _ (by omega) (by simp; exact n.2.2.2.1), ht.block _ l2 (by simp; exact n.2.1)]
  · have := h.maps.del keyU_inj (by rw [List.map_map]; exact hi) id
    rw [List.filter_map] at this
    exact this

theorem filt_old {l : List Sough.PMsg} {now : Nat} {left : Lit → Bool} {m : Sough.PMsg} (hi : (l.map (·.id)).Nodup) (hm : m ∈ l) (ho : m.old now = true) :
    (l.filter fun x => !x.old now || (left (keyU x.id) && !(keyU x.id).sameKey (keyU m.id))) = (l.filter fun x => !x.old now || left (keyU x.id)).filter fun x => !(x.id == m.id) := by
  rw [List.filter_filter]
  apply List.filter_congr
  intro x hx
  rw [same_keyU]
  by_cases e : x.id = m.id
  · have : x = m := Sough.eq_of_id hi hx hm e
    subst this
    simp [ho]
  · have e' : (x.id == m.id) = false := by simpa using e
    simp only [e', Bool.not_false, Bool.and_true, Bool.true_and]
theorem filt_new {l : List Sough.PMsg} {now : Nat} {left : Lit → Bool} {m : Sough.PMsg} (hi : (l.map (·.id)).Nodup) (hm : m ∈ l) (ho : m.old now = false) :
    (l.filter fun x => !x.old now || (left (keyU x.id) && !(keyU x.id).sameKey (keyU m.id))) = l.filter fun x => !x.old now || left (keyU x.id) := by
  apply List.filter_congr
  intro x hx
  rw [same_keyU]
  by_cases e : x.id = m.id
  · have : x = m := Sough.eq_of_id hi hx hm e
    subst this
    simp [ho]
  · have e' : (x.id == m.id) = false := by simpa using e
    simp only [e', Bool.not_false, Bool.and_true]

/-- The range over the messages. -/
def ExpireR (w : World) (p mb r now : Nat) (st : Sough.Pool) (A : Nat → Nat × Nat) (nv : Value) (wr : World) : Prop :=
  ∃ left cnt D L, L = (st.l.filter fun m => !m.old now || left (keyU m.id)) ∧ PoolCore wr p mb ⟨st.slots, st.room, L⟩ A D ∧ wr.ranges Try.prog 32 ptrElem mb r st.l.length D left cnt ∧ (∀ kl, left kl = true → ∃ i, kl = keyU i) ∧
    nv = .int .i64 (st.l.length - L.length : Nat) ∧ Turned (blocksOf p mb A st.l) w wr
def ExpireTo (w : World) (p now : Nat) (st : Sough.Pool) (S : List Nat) (e : Ending) (w' : World) : Prop :=
  e = .returned (.int .i64 (st.l.length - (st.expire now).l.length : Nat)) ∧ ∃ S', PoolAt w' p (st.expire now) S' ∧ (∀ i ∈ S', i ∈ S) ∧ Turned S w w'

theorem sub_ok {st : Sough.Pool} (h : st.Ok) (q : Sough.PMsg → Bool) : (Sough.Pool.mk st.slots st.room (st.l.filter q)).Ok :=
  ⟨h.s1, h.r1, Nat.le_trans (List.length_filter_le _ _) h.len, Nat.le_trans (Sough.heldOf_filter _ _) h.held, (List.filter_sublist.map _).nodup h.ids, fun m hm => h.each m (List.mem_filter.1 hm).1⟩

set_option maxRecDepth 100000 in
set_option maxHeartbeats 3200000 in
theorem expire_any {p mb now : Nat} {st : Sough.Pool} {A : Nat → Nat × Nat} {D0 : DataW Unit} (w : World) (hc : PoolCore w p mb st A D0) (ho : w.ownsMap Try.prog 32 ptrElem mb st.l.length D0) (hok : st.Ok) (hnow : now < 18446744073709551616) :
    Calls Try.prog 11 #[.pointer (some ⟨p, 0, none⟩), .int .u64 now] w (ExpireTo w p now st (blocksOf p mb A st.l)) := by
  obtain ⟨p0, p1, p2, p3, _⟩ := cells4 hc.box
  have HC := Lib.hid hc; have HO := Lib.hid ho; have HOK := Lib.hid hok
  clear hc ho hok
  go_enter Try.func11, Try.ntmps11
  go_wp2_with (at_range; refine wpList_range_own _ rfl _ 58 rfl 32 64 lawU Try.underlying58 _ mb st.l.length D0 rfl HO.out ?_; intro w0 hrg0 hg0 hs0)
  go_frame
  have HS0 := Lib.hid hs0
  have HLT := Lib.hid (HC.out.lt HO.out.lt)
  clear hs0 p0 p1 p2 p3
  go_loopw [5] (fun nv wr => ExpireR w p mb w.heap.size now st A nv wr) (fun _ wr => wr.rangeLeft mb w.heap.size)
  case atStart =>
    refine ⟨_, _, D0, st.l, ?_, ?_, hrg0, HC.out.maps.only, by simp, Turned.grown hg0 (by simp)⟩
    · symm
      refine List.filter_eq_self.2 fun m hm => ?_
      rw [HC.out.maps.has m.id]
      have : (List.map (fun m : Sough.PMsg => (m.id, (A m.id).1)) st.l).any (fun p => p.1 == m.id) = true := List.any_eq_true.2 ⟨_, List.mem_map_of_mem hm, by simp⟩
      rw [this]; simp
    · exact HC.out.same fun i hi _ => hg0.block i (HLT.out i hi) (by simp)
  case round =>
    obtain ⟨left, cnt, D, L, hL, hcore, hrg, hk, rfl, ht⟩ := hrel
    have hLs : ∀ m ∈ L, m ∈ st.l := fun m hm => by rw [hL] at hm; exact (List.mem_filter.1 hm).1
    have HL := Lib.hid hL; have HCR := Lib.hid hcore; have HT := Lib.hid ht; have HRG := Lib.hid hrg; have HK := Lib.hid hk; have HLS := Lib.hid hLs
    clear hL hcore ht hrg hk hLs hrg0 hg0
    obtain ⟨ml, hml⟩ : ∃ ml, ml = L.map fun m => (m.id, (A m.id).1) := ⟨_, rfl⟩
    have HML := Lib.hid hml
    have HMP : Hid (MapsTo keyU mkP D ml) := Lib.hid (by rw [hml]; exact HCR.out.maps)
    clear hml
    have h16 : st.l.length ≤ 16 := by have := HOK.out.len; have := HOK.out.s1; omega
    have hLL : L.length ≤ st.l.length := by rw [HL.out]; exact List.length_filter_le _ _
    go_wp2_with (at_next; refine next_msgs _ rfl _ rfl mb w.heap.size st.l.length D left cnt _ rfl HRG.out HMP.out HK.out ?_ ?_)
    · intro hl0
      have hLe : L = (st.expire now).l := by
        rw [HL.out]
        show _ = st.l.filter _
        apply List.filter_congr
        intro x _
        rw [hl0]; simp
      have HE : Hid (ExpireTo w p now st (blocksOf p mb A st.l) (.returned (.int .i64 (st.l.length - L.length : Nat))) wr) := by
        refine Lib.hid ⟨by rw [hLe], blocksOf p mb A L, ⟨mb, A, D, ?_, ?_, by rw [hLe]⟩, ?_, HT.out⟩
        · have := HCR.out; rw [hLe] at this; exact this
        · have := HRG.out.owns.tight
          rw [HCR.out.maps.size, List.length_map, hLe] at this
          exact this
        · intro i hi
          rw [HL.out] at hi
          exact (blocks_sub p mb A st.l _).subset hi
      clear hl0 hLe
      go_wp2_with fail
      go_ret
      exact HE.out
    · intro i s w2 cnt2 hin hli hrg2 hlt hg2 hs2 hen
      obtain ⟨m, hm, em⟩ := List.mem_map.1 (HML.out ▸ hin)
      simp only [Prod.mk.injEq] at em
      obtain ⟨rfl, rfl⟩ := em
      have hms := HLS.out m hm
      have hnb := blocks_ne HC.out.apart
      have hLT := HT.out.size
      have hsub : ∀ i ∈ blocksOf p mb A L, i < w.heap.size := fun i hi => HLT.out i (by rw [HL.out] at hi; exact (blocks_sub p mb A st.l _).subset hi)
      have hcore2 : PoolCore w2 p mb ⟨st.slots, st.room, L⟩ A D := HCR.out.same fun i hi _ => hg2.block i (by have := hsub i hi; omega) (by have := hsub i hi; simp; omega)
      have hT2 : Turned (blocksOf p mb A st.l) w w2 := HT.out.trans (Turned.grown (S := [w.heap.size]) hg2 (fun j e => .inl (by cases e; simp))) (fun j e => .inr (by simp at e; omega))
      have hM := hcore2.msgs m hm
      obtain ⟨a0, a1, a2⟩ := cells3 hM.box
      have hmo := HOK.out.each m hms
      have hsi := hmo.since
      have hi1 := hmo.id2
      have HC2 := Lib.hid hcore2; have HT2 := Lib.hid hT2; have HM := Lib.hid hM; have HRG2 := Lib.hid hrg2; have HSUB := Lib.hid hsub; have HLI := Lib.hid hli; have HLTC := Lib.hid hlt; have HS2 := Lib.hid hs2; have HMO := Lib.hid hmo
      have HIN := Lib.hid hin; have HMM := Lib.hid hm; have HMS := Lib.hid hms
      clear hcore2 hT2 hM hrg2 hsub hli hlt hs2 hmo hin hm hms hnb hg2
      by_cases hold : m.old now = true
      · have ho' : m.since < now ∧ 50 < now - m.since := by simpa [Sough.PMsg.old] using hold
        have h1 : m.since < now := ho'.1
        have h2 : (50 : Int) < (now : Int) - m.since := by omega
        have HOLD := Lib.hid hold
        clear hold ho'
        have HB := Lib.hid (Sough.without_held (p := ⟨st.slots, st.room, L⟩) (by rw [HL.out]; exact sub_ok HOK.out _) HMM.out)
        have hok2 := (by rw [HL.out]; exact sub_ok HOK.out _ : (Sough.Pool.mk st.slots st.room L).Ok)
        have HOK2 := Lib.hid hok2
        have hhb : (Sough.Pool.mk st.slots st.room L).held < 9223372036854775808 := by have := hok2.held; have := hok2.r1; simp only at *; omega
        clear hok2
        obtain ⟨DP, hop, hMP⟩ := HM.out.parts
        have CF := Lib.hid (forget_any (w := w2) (rest := ((Sough.Pool.mk st.slots st.room L).without m.id).held) HC2.out.box HM.out.box hop hMP HMO.out.keys HRG2.out.owns HC2.out.maps (by omega : m.id < 18446744073709551616) (HML.out ▸ HIN.out)
          (by have := (blocks_ne HC2.out.apart).2 m HMM.out; omega) (blocks_ne HC2.out.apart).1 hhb (by have := HB.out; unfold Sough.PMsg.bytes at this; omega))
        clear hop hMP hhb a0 a1
        go_wp2_with fail
        refine CF.out.mono ?_
        rintro e w3 ⟨rfl, w1, ht1, hb1, ty, hrun⟩
        obtain ⟨w4, cnt4, hrun4, hrg4, hle4, hmt4⟩ := (HRG2.out.same (ht1.block mb HRG2.out.owns.lt (by simp; exact Ne.symm (blocks_ne HC2.out.apart).1)) (ht1.block w.heap.size HRG2.out.lt (by simp; have := HSUB.out p (by simp [blocksOf]); omega))).drop lawU Try.underlying58 (keyOfU (by omega : m.id < 18446744073709551616)) ty
        have e34 : w4 = w3 := by rw [hrun] at hrun4; injection hrun4 with _ e; exact e.symm
        subst e34
        rw [strike_twice] at hrg4
        have hcore3 := HC2.out.without HOK2.out.ids ht1 hb1 hmt4
        have HR : Hid (ExpireR w p mb w.heap.size now st A (.int .i64 ((st.l.length - L.length : Nat) + 1)) w4) := by
          have hlen := Sough.without_len (p := ⟨st.slots, st.room, L⟩) HOK2.out HMM.out
          refine Lib.hid ⟨_, cnt4, _, _, ?_, hcore3, hrg4, fun kl h => HK.out kl (by simp at h; exact h.1), ?_, ?_⟩
          · rw [filt_old HOK.out.ids HMS.out HOLD.out, ← HL.out]
          · have hlen' : (Sough.Pool.without ⟨st.slots, st.room, L⟩ m.id).l.length + 1 = L.length := hlen
            have e : (((st.l.length - L.length : Nat) : Int) + 1) = ((st.l.length - (Sough.Pool.without ⟨st.slots, st.room, L⟩ m.id).l.length : Nat) : Int) := by omega
            exact congrArg (Value.int .i64) e
          · refine (HT2.out.trans ht1 (fun j e => .inl ?_)).trans (Turned.grown (S := [mb]) hmt4.grown (fun j e => .inl (by cases e; simp))) (fun j e => .inl ?_)
            · simp at e; subst e; simp [blocksOf]
            · simp at e; subst e; simp [blocksOf]
        have HMS4 : Hid (w4.rangeLeft mb w.heap.size < wr.rangeLeft mb w.heap.size) := Lib.hid (by rw [hrg4.left_eq, HRG.out.left_eq]; have := HLTC.out; omega)
        clear ht1 hb1 hrun hrun4 hrg4 hle4 hmt4 hcore3 hen
        go_wp2_with fail
        go_roundw
        case rel => exact HR.out
        case measure => exact HMS4.out
      · have hold' : m.old now = false := by simpa using hold
        have HR : Hid (ExpireR w p mb w.heap.size now st A (.int .i64 (st.l.length - L.length : Nat)) w2) := by
          refine Lib.hid ⟨_, cnt2, D, L, ?_, HC2.out, HRG2.out, fun kl h => HK.out kl (by simp at h; exact h.1), rfl, HT2.out⟩
          rw [filt_new HOK.out.ids HMS.out hold', ← HL.out]
        have HMS4 : Hid (w2.rangeLeft mb w.heap.size < wr.rangeLeft mb w.heap.size) := Lib.hid (by rw [HRG2.out.left_eq, HRG.out.left_eq]; exact HLTC.out)
        have ho' : ¬ (m.since < now ∧ 50 < now - m.since) := by simpa [Sough.PMsg.old] using hold'
        clear hold hold' a0 a1
        by_cases h1 : m.since < now
        · have h2 : ¬ (50 : Int) < (now : Int) - m.since := by omega
          clear ho'
          go_wp2_with fail
          go_roundw
          case rel => exact HR.out
          case measure => exact HMS4.out
        · clear ho'
          go_wp2_with fail
          go_roundw
          case rel => exact HR.out
          case measure => exact HMS4.out

end Go.Proofs.Ytokphknnblpagaa
