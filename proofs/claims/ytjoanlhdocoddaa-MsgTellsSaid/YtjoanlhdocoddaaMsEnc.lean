/- The walk of msg.Encode. -/
import Derived.Test.YtjoanlhdocoddaaMsRight
import Derived.Test.YtjoanlhdocoddaaVtText
namespace Sough

theorem right_spec {m : Msg} (h : m.right = true) : flds (m.v 0) ≠ [] ∧ (∀ f ∈ flds (m.v 0), fldOk m f = true) ∧ m.same (onlyL m (flds (m.v 0))) = true := by
  unfold Msg.right at h
  rw [Bool.and_eq_true, Bool.and_eq_true] at h
  exact ⟨by simpa using h.1.1, List.all_eq_true.1 h.1.2, h.2⟩
theorem kind_of {k : Int} (h : flds k ≠ []) : 1 ≤ k ∧ k ≤ 4 := by
  rcases flds_cases k with ⟨e, _⟩ | ⟨e, _⟩ | ⟨e, _⟩ | ⟨e, _⟩ | ⟨_, _, _, _, e⟩
  · omega
  · omega
  · omega
  · omega
  · exact absurd e h
theorem offer_len {l : List UInt8} (h : offerOk l = true) : 1 ≤ l.length ∧ l.length ≤ 8 := by
  unfold offerOk at h
  rw [Bool.and_eq_true, decide_eq_true_eq] at h
  exact h.2
theorem fld_len {m : Msg} {f : Fld} (h : fldOk m f = true) : (fldBytes m f).length ≤ 18 := by
  unfold fldBytes
  unfold fldOk at h
  by_cases h3 : f.c = 3
  · rw [if_pos h3] at h ⊢
    have := offer_len h
    have := (put_len m.offer.length).2
    simp only [putText, List.length_append]; omega
  · rw [if_neg h3]
    have := (put_len (m.v f.c).toNat).2
    omega
/-- The bytes of the kind and so many fields. -/
def accL (m : Msg) (i : Nat) : List UInt8 := put (m.v 0).toNat ++ ((flds (m.v 0)).take i).flatMap (fldBytes m)
theorem flat_len {m : Msg} : ∀ {l : List Fld}, (∀ f ∈ l, fldOk m f = true) → (l.flatMap (fldBytes m)).length ≤ 18 * l.length
  | [], _ => by simp
  | f :: l, h => by
    have := flat_len (l := l) fun g hg => h g (List.mem_cons_of_mem _ hg)
    have := fld_len (h f (List.mem_cons_self ..))
    rw [List.flatMap_cons, List.length_append, List.length_cons]; omega
theorem acc_len {m : Msg} (h : ∀ f ∈ flds (m.v 0), fldOk m f = true) (i : Nat) : (accL m i).length ≤ 154 := by
  have h1 := (put_len (m.v 0).toNat).2
  have h2 := flat_len (m := m) (l := (flds (m.v 0)).take i) fun f hf => h f (List.mem_of_mem_take hf)
  have h3 := flds_len (m.v 0)
  rw [List.length_take] at h2
  unfold accL
  rw [List.length_append]; omega
theorem acc_next {m : Msg} {i : Nat} {f : Fld} (h : (flds (m.v 0)).take (i + 1) = (flds (m.v 0)).take i ++ [f]) : accL m (i + 1) = accL m i ++ fldBytes m f := by
  unfold accL
  rw [h, List.flatMap_append, List.append_assoc]
  simp
theorem acc_all {m : Msg} : accL m (flds (m.v 0)).length = m.bytes := by unfold accL Msg.bytes; rw [List.take_length]
end Sough
namespace Go.Proofs.Ytjoanlhdocoddaa
open Go.RowKit Go.Maps Go.ChangeMaps

/-- So many fields are encoded. -/
def EncR (w : World) (m : Sough.Msg) (bm gm : Nat) (av iv : Value) (wr : World) : Prop :=
  ∃ i : Nat, i ≤ (Sough.flds (m.v 0)).length ∧ av = .string ⟨(Sough.accL m i).toArray⟩ ∧ iv = .int .i64 i ∧ Mem w [(gm, .cells (rowC bm (Sough.flds (m.v 0))) 60 (0, 0)), (bm, .cells (msgC m) 24 (0, 0))] wr

set_option maxRecDepth 100000 in
set_option maxHeartbeats 3200000 in
theorem enc_some {m : Sough.Msg} (w : World) (hwf : m.Wf) (hr : m.right = true) :
    Calls Try.prog 15 #[.agg (msgC m)] w fun e w' => e = .returned (.string ⟨m.bytes.toArray⟩) ∧ Below w.heap.size w w' := by
  obtain ⟨hne, hall, _⟩ := Sough.right_spec hr
  have hkk := Sough.kind_of hne
  have HWF := Lib.hid hwf; have HNE := Lib.hid hne; have HALL := Lib.hid hall
  have hk : (Lit.int .i64 (m.v 0)).wf = true := WalkArith.wf_i64 (hwf.ints 0 (by simp))
  have HK := Lib.hid hk
  have M0 : Hid (Mem w [(w.heap.size, .cells (msgC m) 24 (0, 0))] (w.alloc (.cells #[.int .i64 (m.v 0), .int .u64 (m.v 1), .int .u64 (m.v 2), .string ⟨m.offer.toArray⟩, .int .i64 (m.v 4), .int .i64 (m.v 5), .int .i64 (m.v 6), .int .i64 (m.v 7), .int .i64 (m.v 8), .int .i64 (m.v 9), .int .i64 (m.v 10), .int .u64 (m.v 11), .int .u64 (m.v 12)] 24))) := Lib.hid ((Mem.start w).alloc _)
  have hn8 := Sough.flds_len (m.v 0)
  have CR : Hid (∀ w, Calls Try.prog 12 #[.agg #[.int .i64 (m.v 0), .int .u64 (m.v 1), .int .u64 (m.v 2), .string ⟨m.offer.toArray⟩, .int .i64 (m.v 4), .int .i64 (m.v 5), .int .i64 (m.v 6), .int .i64 (m.v 7), .int .i64 (m.v 8), .int .i64 (m.v 9), .int .i64 (m.v 10), .int .u64 (m.v 11), .int .u64 (m.v 12)]] w fun e w' => e = .returned (.bool true) ∧ Below w.heap.size w w') := Lib.hid fun w => right_as hr w hwf
  have u1 : IntKind.u64.wrap (m.v 0) = m.v 0 := by rw [IntKind.wrap_u64]; omega
  have kb : Hid (0 ≤ m.v 0 ∧ m.v 0 < 18446744073709551616) := Lib.hid (by omega)
  clear hwf hk hne hall hr hkk
  unfold msgC
  go_enter Try.func15, Try.ntmps15
  go_wp2_with fail
  have rx := cells13 (M0.out.get 0 rfl)
  generalize w.alloc (.cells #[.int .i64 (m.v 0), .int .u64 (m.v 1), .int .u64 (m.v 2), .string ⟨m.offer.toArray⟩, .int .i64 (m.v 4), .int .i64 (m.v 5), .int .i64 (m.v 6), .int .i64 (m.v 7), .int .i64 (m.v 8), .int .i64 (m.v 9), .int .i64 (m.v 10), .int .u64 (m.v 11), .int .u64 (m.v 12)] 24) = W1 at *
  refine (CR.out W1).mono ?_
  rintro e w2 ⟨rfl, hb2⟩
  have M1 := Lib.hid (M0.out.later hb2)
  clear hb2 M0 rx CR
  have rx := (cells13 (M1.out.get 0 rfl)).1
  go_wp2_with fail
  refine (put_any (m.v 0) kb.out.1 kb.out.2 w2).mono ?_
  rintro e w3 ⟨rfl, hb3⟩
  have M2 := Lib.hid (M1.out.later hb3)
  clear hb3 M1 rx
  go_wp2_with fail
  refine (fields_any (m := m) w3 (M2.out.get 0 rfl) HK.out).mono ?_
  rintro e w4 ⟨hb2, h2⟩
  rcases h2 with ⟨h2, _⟩ | ⟨_, gm, rfl, hgm1, hgm2⟩
  · exact absurd h2 HNE.out
  have M3 : Hid (Mem w [(gm, .cells (rowC w.heap.size (Sough.flds (m.v 0))) 60 (0, 0)), (w.heap.size, .cells (msgC m) 24 (0, 0))] w4) := Lib.hid ((M2.out.later hb2).with hgm2)
  clear hb2 hgm1 hgm2 M2
  obtain ⟨n, hn⟩ : ∃ n, n = (Sough.flds (m.v 0)).length := ⟨_, rfl⟩
  have HN := Lib.hid hn
  rw [← hn]
  rw [← hn] at hn8
  clear hn
  go_wp2_with fail
  go_loopw [3, 15] (fun av iv wr => EncR w m w.heap.size gm av iv wr) (fun _ iv _ => n - (intOf iv).toNat)
  case atStart => exact ⟨0, Nat.zero_le _, by simp [Sough.accL], rfl, M3.out⟩
  case round =>
    obtain ⟨i, hi, rfl, rfl, hM⟩ := hrel
    rw [← HN.out] at hi
    have M4 := Lib.hid hM
    clear hM M3
    by_cases hlt : i < n
    · have hfl : i < (Sough.flds (m.v 0)).length := by rw [← HN.out]; exact hlt
      obtain ⟨f, hf⟩ : ∃ f, f = (Sough.flds (m.v 0)).getD i ⟨0, 0, 0⟩ := ⟨_, rfl⟩
      have hfe : f = (Sough.flds (m.v 0))[i] := by rw [hf, List.getD_eq_getElem?_getD, List.getElem?_eq_getElem hfl]; rfl
      have hmem : f ∈ Sough.flds (m.v 0) := by rw [hfe]; exact List.getElem_mem hfl
      have htake : (Sough.flds (m.v 0)).take (i + 1) = (Sough.flds (m.v 0)).take i ++ [f] := by rw [List.take_succ_eq_append_getElem hfl, hfe]
      have HF := Lib.hid hf; have HMEM := Lib.hid hmem
      have HA := Lib.hid (Sough.acc_next htake)
      have hok := HALL.out f hmem
      have HOK := Lib.hid hok
      have la := Sough.acc_len HALL.out i
      have lb := Sough.fld_len hok
      by_cases h3 : f.c = 3
      · have em : fldC w.heap.size ((Sough.flds (m.v 0)).getD i ⟨0, 0, 0⟩) = [.int .u64 0, .int .u64 0, .pointer none, .pointer none, .pointer (some ⟨w.heap.size, 3, none⟩)] := by rw [← hf]; unfold fldC; rw [if_pos h3]
        have rm := row_cells (M4.out.get 0 rfl) hfl em
        have hfb : Sough.fldBytes m f = Sough.putText m.offer := by unfold Sough.fldBytes; rw [if_pos h3]
        have hol : m.offer.length ≤ 8 := by unfold Sough.fldOk at hok; rw [if_pos h3] at hok; exact (Sough.offer_len hok).2
        have HOL := Lib.hid hol
        rw [hfb] at lb HA
        clear hf hfe hmem htake em h3 hfl hok hfb
        have mt := msg_text (M4.out.get 1 rfl)
        have hbl := M4.out.lt 1 rfl
        have mt' : (wr.alloc (.cells #[.int .u64 0, .int .u64 0, .pointer none, .pointer none, .pointer (some ⟨w.heap.size, 3, none⟩)] 60)).cell? ⟨w.heap.size, 3, none⟩ = _ := (((Below.refl wr.heap.size wr).alloc (Nat.le_refl _) (.cells #[.int .u64 0, .int .u64 0, .pointer none, .pointer none, .pointer (some ⟨w.heap.size, 3, none⟩)] 60)).cell (p := ⟨w.heap.size, 3, none⟩) hbl).trans mt
        clear mt hbl
        go_wp2_with fail
        have M5 : Hid (Mem w _ (wr.alloc (.cells #[.int .u64 0, .int .u64 0, .pointer none, .pointer none, .pointer (some ⟨w.heap.size, 3, none⟩)] 60))) := Lib.hid (M4.out.later ((Below.refl _ _).alloc (Nat.le_refl _) _))
        clear rm mt'
        generalize wr.alloc (.cells #[.int .u64 0, .int .u64 0, .pointer none, .pointer none, .pointer (some ⟨w.heap.size, 3, none⟩)] 60) = W at *
        refine (putt_walk (⟨m.offer.toArray⟩ : ByteArray) W (by rw [mk_size]; have := HOL.out; omega)).mono ?_
        rintro e w5 ⟨rfl, hb5⟩
        have M6 := Lib.hid (M5.out.later hb5)
        clear hb5 M5
        go_wp2_with fail
        go_roundw
        case rel => exact ⟨i + 1, by rw [← HN.out]; omega, by rw [HA.out, bytes_append], rfl, M6.out⟩
        case measure => simp [intOf]; omega
      · have hx : 0 ≤ m.v f.c ∧ m.v f.c < 9223372036854775808 := by
          unfold Sough.fldOk at hok
          rw [if_neg h3, decide_eq_true_eq] at hok
          have hb := Sough.fld_bounds hmem
          omega
        obtain ⟨c2, c3, em⟩ : ∃ c2 c3, fldC w.heap.size f = [.int .u64 f.lo, .int .u64 f.hi, .pointer c2, .pointer c3, .pointer none] := by unfold fldC; rw [if_neg h3]; split <;> exact ⟨_, _, rfl⟩
        have rm := row_cells (M4.out.get 0 rfl) hfl (by rw [← hf]; exact em)
        have hwr : IntKind.u64.wrap (m.v f.c) = m.v f.c := by rw [IntKind.wrap_u64]; omega
        have hfb : Sough.fldBytes m f = Sough.put (m.v f.c).toNat := by unfold Sough.fldBytes; rw [if_neg h3]
        have H3 := Lib.hid h3; have HEM := Lib.hid em; have HW := Lib.hid hwr; have HX := Lib.hid hx
        rw [hfb] at lb HA
        clear hf hfe hmem htake em h3 hfl hok hfb hwr hx
        go_wp2_with fail
        have M5 : Hid (Mem w _ (wr.alloc (.cells #[.int .u64 f.lo, .int .u64 f.hi, .pointer c2, .pointer c3, .pointer none] 60))) := Lib.hid (M4.out.later ((Below.refl _ _).alloc (Nat.le_refl _) _))
        clear rm
        generalize wr.alloc (.cells #[.int .u64 f.lo, .int .u64 f.hi, .pointer c2, .pointer c3, .pointer none] 60) = W at *
        have CG := get_num (b := w.heap.size) (f := f) (x := m.v f.c) W H3.out (msg_cell (M5.out.get 1 rfl) HMEM.out H3.out) (fun _ => by have := HX.out; omega)
        rw [HEM.out, HW.out] at CG
        refine CG.mono ?_
        rintro e w5 ⟨rfl, hb5⟩
        have M6 := Lib.hid (M5.out.later hb5)
        clear hb5 M5 CG
        go_wp2_with fail
        refine (put_any (m.v f.c) HX.out.1 (by have := HX.out.2; omega) w5).mono ?_
        rintro e w6 ⟨rfl, hb6⟩
        have M7 := Lib.hid (M6.out.later hb6)
        clear hb6 M6
        go_wp2_with fail
        go_roundw
        case rel => exact ⟨i + 1, by rw [← HN.out]; omega, by rw [HA.out, bytes_append], rfl, M7.out⟩
        case measure => simp [intOf]; omega
    · obtain rfl : i = n := by omega
      have hfin : Sough.accL m i = m.bytes := by rw [HN.out]; exact Sough.acc_all
      rw [hfin]
      go_wp2_with fail
      go_ret
      exact ⟨rfl, M4.out.bel⟩

set_option maxRecDepth 100000 in
set_option maxHeartbeats 1600000 in
theorem enc_none {m : Sough.Msg} (w : World) (hwf : m.Wf) (hr : m.right = false) :
    Calls Try.prog 15 #[.agg (msgC m)] w fun e w' => e = .returned (.string ⟨#[]⟩) ∧ Below w.heap.size w w' := by
  have M0 : Hid (Mem w [(w.heap.size, .cells (msgC m) 24 (0, 0))] (w.alloc (.cells #[.int .i64 (m.v 0), .int .u64 (m.v 1), .int .u64 (m.v 2), .string ⟨m.offer.toArray⟩, .int .i64 (m.v 4), .int .i64 (m.v 5), .int .i64 (m.v 6), .int .i64 (m.v 7), .int .i64 (m.v 8), .int .i64 (m.v 9), .int .i64 (m.v 10), .int .u64 (m.v 11), .int .u64 (m.v 12)] 24))) := Lib.hid ((Mem.start w).alloc _)
  have CR : Hid (∀ w, Calls Try.prog 12 #[.agg #[.int .i64 (m.v 0), .int .u64 (m.v 1), .int .u64 (m.v 2), .string ⟨m.offer.toArray⟩, .int .i64 (m.v 4), .int .i64 (m.v 5), .int .i64 (m.v 6), .int .i64 (m.v 7), .int .i64 (m.v 8), .int .i64 (m.v 9), .int .i64 (m.v 10), .int .u64 (m.v 11), .int .u64 (m.v 12)]] w fun e w' => e = .returned (.bool false) ∧ Below w.heap.size w w') := Lib.hid fun w => right_as hr w hwf
  clear hwf hr
  unfold msgC
  go_enter Try.func15, Try.ntmps15
  go_wp2_with fail
  have rx := cells13 (M0.out.get 0 rfl)
  generalize w.alloc (.cells #[.int .i64 (m.v 0), .int .u64 (m.v 1), .int .u64 (m.v 2), .string ⟨m.offer.toArray⟩, .int .i64 (m.v 4), .int .i64 (m.v 5), .int .i64 (m.v 6), .int .i64 (m.v 7), .int .i64 (m.v 8), .int .i64 (m.v 9), .int .i64 (m.v 10), .int .u64 (m.v 11), .int .u64 (m.v 12)] 24) = W1 at *
  refine (CR.out W1).mono ?_
  rintro e w2 ⟨rfl, hb2⟩
  have HB := Lib.hid (M0.out.later hb2).bel
  clear hb2 M0 rx CR
  go_wp2_with fail
  go_ret
  exact ⟨rfl, HB.out⟩

theorem enc_as {m : Sough.Msg} {l : List UInt8} (hl : m.encode = l) (w : World) (hwf : m.Wf) : Calls Try.prog 15 #[.agg (msgC m)] w fun e w' => e = .returned (.string ⟨l.toArray⟩) ∧ Below w.heap.size w w' := by
  subst hl
  unfold Sough.Msg.encode
  cases hr : m.right
  · exact enc_none w hwf hr
  · exact enc_some w hwf hr

end Go.Proofs.Ytjoanlhdocoddaa
