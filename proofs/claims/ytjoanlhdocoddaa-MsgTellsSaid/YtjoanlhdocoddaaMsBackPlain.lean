/- Plain law: decoded and encoded, both ways. No program in sight. -/
import Derived.Test.YtjoanlhdocoddaaMsLaw
namespace Sough

theorem hasF_mem {f : Fld} {l : List Fld} (h : f ∈ l) : hasF l f.c = true := by
  unfold hasF
  rw [List.any_eq_true]
  exact ⟨f, h, by simp⟩
theorem same_fldOk {a b : Msg} (h : a.same b = true) {f : Fld} {k : Int} (hf : f ∈ flds k) : fldOk a f = fldOk b f := by
  obtain ⟨h1, h2⟩ := same_iff.1 h
  unfold fldOk
  split
  · rw [h2]
  · rename_i h3
    rw [h1 _ (cell_in hf h3)]
theorem same_only {a b : Msg} (h : a.same b = true) (l : List Fld) : (onlyL a l).same (onlyL b l) = true := by
  obtain ⟨h1, h2⟩ := same_iff.1 h
  rw [same_iff]
  refine ⟨fun c hc => ?_, ?_⟩
  · simp only [onlyL]
    rw [h1 0 (by decide), h1 c hc]
  · simp only [onlyL]
    rw [h2]
theorem same_right {a b : Msg} (h : a.same b = true) (ha : a.right = true) : b.right = true := by
  obtain ⟨h1, h2, h3⟩ := right_spec ha
  have hk := same_kind h
  unfold Msg.right
  rw [← hk, Bool.and_eq_true, Bool.and_eq_true, List.all_eq_true]
  refine ⟨⟨by simpa using h1, fun f hf => ?_⟩, same_trans (same_symm h) (same_trans h3 (same_only h _))⟩
  rw [← same_fldOk h hf]; exact h2 f hf
theorem bytes_len {m : Msg} (h : m.right = true) : m.bytes.length ≤ 154 := by
  rw [← acc_all]
  exact acc_len (right_spec h).2.1 _
/-- What may be is decoded as it was. -/
theorem dec_bytes {m : Msg} (h : m.right = true) : (decodeM m.bytes).1.same m = true ∧ (decodeM m.bytes).2 = 0 := by
  obtain ⟨hne, _, hs⟩ := right_spec h
  have hk := kind_of hne
  obtain ⟨hg, hr⟩ := first_read h []
  rw [List.append_nil] at hg hr
  have hl := bytes_len h
  have e : decodeM m.bytes = (onlyL m (flds (m.v 0)), 0) := by
    unfold decodeM
    rw [if_neg (by omega), hg]
    simp only
    rw [if_neg (by simp), if_neg (by omega), show (((m.v 0).toNat : Nat) : Int) = m.v 0 by omega, hr]
    simp only
    rw [if_neg (by simp), if_neg (by rw [same_right hs h]; simp)]
  rw [e]
  exact ⟨same_symm hs, rfl⟩

/-- What is wrong leaves nothing. -/
theorem dec_bad {s : List UInt8} (h : (decodeM s).2 ≠ 0) : (decodeM s).1 = zeroMsg := by
  unfold decodeM at h ⊢
  split
  · rfl
  · rename_i h1
    rw [if_neg h1] at h
    split
    · rfl
    · rename_i h2
      rw [if_neg h2] at h
      split
      · rfl
      · rename_i h3
        rw [if_neg h3] at h
        simp only at h ⊢
        split
        · rfl
        · rename_i h4
          rw [if_neg h4] at h
          split
          · rfl
          · rename_i h5
            rw [if_neg h5] at h
            simp at h

/-- A field that was read: its bytes lie there. -/
theorem read_inv {s : List UInt8} {m m' : Msg} {k k' : Nat} {f : Fld} (h : readF s m k f = (m', k', 0)) :
    k ≤ s.length ∧ ∃ r, s.drop k = fldBytes m' f ++ r ∧ k' = k + (fldBytes m' f).length ∧ k' ≤ s.length ∧ (∀ c, c ≠ f.c → m'.v c = m.v c) ∧ (f.c ≠ 3 → m'.offer = m.offer) := by
  unfold readF at h
  by_cases h3 : f.c = 3
  · rw [if_pos h3] at h
    simp only [Prod.mk.injEq] at h
    obtain ⟨rfl, rfl, he⟩ := h
    have hg0 : (get s k).2.2 = 0 := by
      unfold getText at he
      simp only at he
      split at he
      · exact absurd he (by assumption)
      · rename_i h; simpa using h
    obtain ⟨r, h0, h1, h2, h4, h5, h6⟩ := get_ok hg0
    have hg : get s k = ((get s k).1, (get s k).2.1, 0) := Prod.ext rfl (Prod.ext rfl hg0)
    by_cases g1 : max 0 (8 : Int) < (get s k).1
    · rw [Go.Proofs.Ytjoanlhdocoddaa.text_big hg g1] at he; cases he
    · by_cases g2 : s.length - (get s k).2.1 < (get s k).1
      · rw [Go.Proofs.Ytjoanlhdocoddaa.text_short hg g1 g2] at he; cases he
      · rw [Go.Proofs.Ytjoanlhdocoddaa.text_ok hg g1 g2]
        simp only
        have hkl : k ≤ s.length := by omega
        have hd : s.drop k = put (get s k).1 ++ r := by
          have := congrArg (List.drop k) h2
          rw [show (k : Int).toNat = k by omega] at this
          rw [List.drop_append_of_le_length (by simp; omega), List.drop_take] at this
          simpa using this
        rw [show (k : Int).toNat = k by omega] at h4
        have hdp : s.drop (get s k).2.1 = r := by
          rw [h4, ← List.drop_drop, hd, List.drop_left]
        have hfl : ((s.drop (get s k).2.1).take (get s k).1).length = (get s k).1 := by rw [List.length_take, List.length_drop]; omega
        have hfb : fldBytes ⟨m.v, (s.drop (get s k).2.1).take (get s k).1⟩ f = put (get s k).1 ++ r.take (get s k).1 := by
          unfold fldBytes
          rw [if_pos h3]
          simp only [putText]
          rw [hfl, hdp]
        rw [hfb]
        refine ⟨hkl, r.drop (get s k).1, ?_, ?_, by omega, fun _ _ => by trivial, fun h => absurd h3 h⟩
        · rw [hd, List.append_assoc, List.take_append_drop]
        · rw [List.length_append, ← hdp, hfl, h4]; omega
  · rw [if_neg h3] at h
    split at h
    · simp at h
    · split at h
      · rename_i hg0
        simp only [Prod.mk.injEq] at h
        obtain ⟨rfl, rfl, -⟩ := h
        obtain ⟨r, h0, h1, h2, h4, h5, h6⟩ := get_ok hg0
        have hkl : k ≤ s.length := by omega
        have hd : s.drop k = put (get s k).1 ++ r := by
          have := congrArg (List.drop k) h2
          rw [show (k : Int).toNat = k by omega] at this
          rw [List.drop_append_of_le_length (by simp; omega), List.drop_take] at this
          simpa using this
        rw [show (k : Int).toNat = k by omega] at h4
        have hfb : fldBytes ⟨setV m.v f.c (get s k).1, m.offer⟩ f = put (get s k).1 := by
          unfold fldBytes
          rw [if_neg h3]
          simp [setV]
        rw [hfb]
        exact ⟨hkl, r, hd, h4, h6, fun c hc => by simp [setV, hc], fun _ => rfl⟩
      · rename_i hg0 hg1
        simp only [Prod.mk.injEq] at h
        exact absurd h.2.2 hg1

theorem readAll_inv {s : List UInt8} : ∀ (l : List Fld) (m m' : Msg) (k k' : Nat), (l.map (·.c)).Nodup → readAll s m k l = (m', k', 0) → k ≤ s.length →
    ∃ r, s.drop k = l.flatMap (fldBytes m') ++ r ∧ k' = k + (l.flatMap (fldBytes m')).length ∧ k' ≤ s.length ∧ (∀ c, c ∉ l.map (·.c) → m'.v c = m.v c) ∧ (3 ∉ l.map (·.c) → m'.offer = m.offer)
  | [], m, m', k, k', _, h, hk => by
    simp only [readAll, Prod.mk.injEq] at h
    obtain ⟨rfl, rfl, -⟩ := h
    exact ⟨s.drop k, by simp, by simp, hk, fun _ _ => rfl, fun _ => rfl⟩
  | f :: l, m, m', k, k', hn, h, _ => by
    simp only [readAll] at h
    split at h
    · rename_i he
      obtain ⟨_, r1, a1, a2, a3, a4, a5⟩ := read_inv (show readF s m k f = ((readF s m k f).1, (readF s m k f).2.1, 0) from Prod.ext rfl (Prod.ext rfl he))
      rw [List.map_cons, List.nodup_cons] at hn
      obtain ⟨r2, b1, b2, b3, b4, b5⟩ := readAll_inv l _ m' _ k' hn.2 h a3
      have hfb : fldBytes m' f = fldBytes (readF s m k f).1 f := by
        unfold fldBytes
        split
        · rename_i h3
          rw [b5 (by rw [← h3]; exact hn.1)]
        · rw [b4 _ hn.1]
      rw [← hfb] at a1 a2
      refine ⟨r2, ?_, ?_, b3, fun c hc => ?_, fun h3 => ?_⟩
      · rw [List.flatMap_cons, List.append_assoc, a1, ← b1, a2, ← List.drop_drop, a1, List.drop_left]
      · rw [List.flatMap_cons, List.length_append, b2, a2]; omega
      · rw [List.map_cons, List.mem_cons, not_or] at hc
        rw [b4 c hc.2, a4 c hc.1]
      · rw [List.map_cons, List.mem_cons, not_or] at h3
        rw [b5 h3.2, a5 (fun e => h3.1 e.symm)]
    · rename_i he
      rw [h] at he
      exact absurd rfl he

theorem flds_nodup (k : Int) : ((flds k).map (·.c)).Nodup ∧ 0 ∉ (flds k).map (·.c) := by
  rcases flds_cases k with ⟨_, e⟩ | ⟨_, e⟩ | ⟨_, e⟩ | ⟨_, e⟩ | ⟨_, _, _, _, e⟩ <;> rw [e] <;> decide

/-- What is decoded has just these bytes. -/
theorem dec_inv {s : List UInt8} (h : (decodeM s).2 = 0) : (decodeM s).1.right = true ∧ (decodeM s).1.bytes = s := by
  unfold decodeM at h ⊢
  split at h
  · cases h
  · rename_i h1
    rw [if_neg h1]
    split at h
    · rename_i h2; exact absurd h h2
    · rename_i h2
      rw [if_neg h2]
      split at h
      · cases h
      · rename_i h3
        rw [if_neg h3]
        simp only at h ⊢
        split at h
        · rename_i h4; exact absurd h h4
        · rename_i h4
          rw [if_neg h4]
          split at h
          · cases h
          · rename_i h5
            rw [if_neg h5]
            simp only
            rw [not_or] at h5
            have hr : (readAll s (kindMsg (get s 0).1) (get s 0).2.1 (flds (get s 0).1)).1.right = true := by
              have := h5.2
              simpa using this
            refine ⟨hr, ?_⟩
            have h2' : (get s 0).2.2 = 0 := by simpa using h2
            obtain ⟨r, g0, g1, g2, g4, g5, g6⟩ := get_ok (k := 0) h2'
            have h4' : (readAll s (kindMsg (get s 0).1) (get s 0).2.1 (flds (get s 0).1)).2.2 = 0 := by simpa using h4
            obtain ⟨r2, b1, b2, b3, b4, b5⟩ := readAll_inv (flds (get s 0).1) _ _ _ _ (flds_nodup _).1 (show readAll s (kindMsg (get s 0).1) (get s 0).2.1 (flds (get s 0).1) = (_, _, 0) from Prod.ext rfl (Prod.ext rfl h4')) g6
            have hv0 := b4 0 (flds_nodup _).2
            have hlen : ¬ (readAll s (kindMsg (get s 0).1) (get s 0).2.1 (flds (get s 0).1)).2.1 < s.length := h5.1
            generalize readAll s (kindMsg (get s 0).1) (get s 0).2.1 (flds (get s 0).1) = R at *
            have hk0 : (kindMsg (get s 0).1).v 0 = (get s 0).1 := rfl
            rw [hk0] at hv0
            have e0 : (0 : Int).toNat = 0 := rfl
            rw [e0, List.take_zero, List.nil_append] at g2
            rw [e0, Nat.zero_add] at g4
            have hsd : s.drop (get s 0).2.1 = r := by
              rw [g4]
              have := congrArg (List.drop (put (get s 0).1).length) g2
              rwa [List.drop_left] at this
            have hr2 : r2 = [] := by
              have := congrArg List.length b1
              rw [List.length_drop, List.length_append] at this
              obtain ⟨Rm, Rk, Re⟩ := R
              dsimp only at hlen b2 b3 this
              exact List.length_eq_zero_iff.1 (by omega)
            rw [hr2, List.append_nil, hsd] at b1
            unfold Msg.bytes
            rw [hv0, show (((get s 0).1 : Nat) : Int).toNat = (get s 0).1 by omega, ← b1]
            exact g2.symm

theorem readAll_wf {s : List UInt8} : ∀ (l : List Fld) (m : Msg) (k : Nat), m.Wf → (readAll s m k l).1.Wf
  | [], _, _, h => h
  | f :: l, m, k, h => by
    simp only [readAll]
    split
    · exact readAll_wf l _ _ (Wf.read h)
    · exact Wf.read h
theorem zero_wf' : zeroMsg.Wf := ⟨by decide, by decide, by decide⟩
theorem dec_wf (s : List UInt8) : (decodeM s).1.Wf := by
  unfold decodeM
  split
  · exact zero_wf'
  · split
    · exact zero_wf'
    · split
      · exact zero_wf'
      · simp only
        split
        · exact zero_wf'
        · split
          · exact zero_wf'
          · exact readAll_wf _ _ _ (Wf.kind (by omega))

end Sough
