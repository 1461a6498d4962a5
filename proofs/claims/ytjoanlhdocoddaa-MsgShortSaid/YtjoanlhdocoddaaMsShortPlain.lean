/- Plain law: a message's bytes cut off, or with bytes behind them. No program in sight. -/
import Derived.Test.YtjoanlhdocoddaaMsBackPlain
namespace Sough

theorem get_short (pre : List UInt8) {n k : Nat} (r : List UInt8) (hn : n < 18446744073709551616) (h1 : pre.length ≤ k) (h2 : k < pre.length + (put n).length) : get ((pre ++ (put n ++ r)).take k) pre.length = (0, 0, 2) := by
  unfold get
  rw [if_neg (by simp; omega)]
  have e : ((pre ++ (put n ++ r)).take k).drop (pre.length : Int).toNat = (put n).take (k - pre.length) := by
    rw [show (pre.length : Int).toNat = pre.length by omega, List.drop_take, List.drop_left, List.take_append_of_le_length (by omega)]
  rw [e]
  have h := getL_put pre.length n [] hn
  rw [List.append_nil] at h
  rw [show (pre.length : Int).toNat = pre.length by omega]
  exact getL_cut pre.length (put n) 0 0 (k - pre.length) (by rw [h]) (by rw [h]; simp only; omega)

theorem field_short {m m0 : Msg} {f : Fld} {kk : Int} (hf : f ∈ flds kk) (ho : fldOk m f = true) (pre r : List UInt8) {k : Nat} (h1 : pre.length ≤ k) (h2 : k < pre.length + (fldBytes m f).length) :
    (readF ((pre ++ (fldBytes m f ++ r)).take k) m0 pre.length f).2.2 = 2 := by
  unfold fldBytes at *
  unfold fldOk at ho
  unfold readF
  by_cases h3 : f.c = 3
  · rw [if_pos h3] at ho h2
    rw [if_pos h3, if_pos h3]
    have hl := offer_len ho
    have e : pre ++ (putText m.offer ++ r) = pre ++ (put m.offer.length ++ (m.offer ++ r)) := by rw [putText, List.append_assoc]
    rw [e]
    by_cases hk : k < pre.length + (put m.offer.length).length
    · have hg := get_short pre (m.offer ++ r) (n := m.offer.length) (by omega) h1 hk
      rw [Go.Proofs.Ytjoanlhdocoddaa.text_err hg (by decide)]
    · have e2 : (pre ++ (put m.offer.length ++ (m.offer ++ r))).take k = pre ++ (put m.offer.length ++ (m.offer ++ r).take (k - pre.length - (put m.offer.length).length)) := by
        rw [List.take_append, List.take_of_length_le (by omega), List.take_append, List.take_of_length_le (by omega)]
      rw [e2]
      have hg := get_put pre ((m.offer ++ r).take (k - pre.length - (put m.offer.length).length)) m.offer.length (by omega)
      rw [Go.Proofs.Ytjoanlhdocoddaa.text_short (most := 8) hg (by omega) (by
        simp only [putText, List.length_append] at h2
        simp only [List.length_append, List.length_take]
        omega)]
  · rw [if_neg h3, decide_eq_true_eq] at ho
    rw [if_neg h3] at h2
    have hb := fld_bounds hf
    rw [if_neg h3, if_neg h3]
    have hg := get_short pre r (n := (m.v f.c).toNat) (by omega) h1 h2
    rw [hg]
    simp

theorem readAll_short {m : Msg} {kk : Int} : ∀ (l2 l1 : List Fld) (pre : List UInt8) (k : Nat), (∀ f ∈ l2, f ∈ flds kk ∧ fldOk m f = true) → pre.length ≤ k → k < pre.length + (l2.flatMap (fldBytes m)).length →
    (readAll ((pre ++ l2.flatMap (fldBytes m)).take k) (onlyL m l1) pre.length l2).2.2 = 2
  | [], l1, pre, k, _, h1, h2 => by simp at h2; omega
  | f :: l2, l1, pre, k, h, h1, h2 => by
    obtain ⟨hf, ho⟩ := h f (List.mem_cons_self ..)
    simp only [readAll, List.flatMap_cons]
    by_cases hk : k < pre.length + (fldBytes m f).length
    · have := field_short (m0 := onlyL m l1) hf ho pre (l2.flatMap (fldBytes m)) h1 hk
      rw [if_neg (by rw [this]; decide), this]
    · have e2 : (pre ++ (fldBytes m f ++ l2.flatMap (fldBytes m))).take k = pre ++ (fldBytes m f ++ (l2.flatMap (fldBytes m)).take (k - pre.length - (fldBytes m f).length)) := by
        rw [List.take_append, List.take_of_length_le (by omega), List.take_append, List.take_of_length_le (by omega)]
      have hr := read_at (m0 := onlyL m l1) hf ho pre ((l2.flatMap (fldBytes m)).take (k - pre.length - (fldBytes m f).length))
      rw [← e2] at hr
      rw [hr, if_pos rfl, ← onlyL_next hf]
      simp only
      have ih := readAll_short l2 (l1 ++ [f]) (pre ++ fldBytes m f) k (fun g hg => h g (List.mem_cons_of_mem _ hg)) (by rw [List.length_append]; omega) (by rw [List.flatMap_cons, List.length_append] at h2; rw [List.length_append]; omega)
      rw [List.length_append, List.append_assoc] at ih
      exact ih

/-- Cut off anywhere: too short. -/
theorem dec_short {m : Msg} (h : m.right = true) {k : Nat} (hk : k < m.bytes.length) : decodeM (m.bytes.take k) = (zeroMsg, 2) := by
  obtain ⟨hne, hall, _⟩ := right_spec h
  have hkd := kind_of hne
  have hl := bytes_len h
  unfold decodeM
  rw [if_neg (by rw [List.length_take]; omega)]
  by_cases hp : k < (put (m.v 0).toNat).length
  · have hg := get_short [] ((flds (m.v 0)).flatMap (fldBytes m)) (n := (m.v 0).toNat) (k := k) (by omega) (by simp) (by simpa using hp)
    have hg' : get (m.bytes.take k) 0 = (0, 0, 2) := by unfold Msg.bytes; simpa using hg
    rw [hg']
    simp
  · have e : m.bytes.take k = put (m.v 0).toNat ++ ((flds (m.v 0)).flatMap (fldBytes m)).take (k - (put (m.v 0).toNat).length) := by
      unfold Msg.bytes
      rw [List.take_append, List.take_of_length_le (by omega)]
    have hg := get_put [] (((flds (m.v 0)).flatMap (fldBytes m)).take (k - (put (m.v 0).toNat).length)) (m.v 0).toNat (by omega)
    have hg' : get (m.bytes.take k) 0 = ((m.v 0).toNat, (put (m.v 0).toNat).length, 0) := by rw [e]; simpa using hg
    have hr := readAll_short (m := m) (kk := m.v 0) (flds (m.v 0)) [] (put (m.v 0).toNat) k (fun f hf => ⟨hf, hall f hf⟩) (by omega) (by unfold Msg.bytes at hk; rwa [List.length_append] at hk)
    rw [onlyL_nil] at hr
    change (readAll (m.bytes.take k) _ _ _).2.2 = 2 at hr
    rw [hg']
    simp only
    rw [if_neg (by simp), if_neg (by omega), show (((m.v 0).toNat : Nat) : Int) = m.v 0 by omega, hr]
    simp

/-- With more behind them: no message. -/
theorem dec_more {m : Msg} (h : m.right = true) (x : UInt8) : decodeM (m.bytes ++ [x]) = (zeroMsg, 3) := by
  obtain ⟨hne, _, _⟩ := right_spec h
  have hk := kind_of hne
  obtain ⟨hg, hr⟩ := first_read h [x]
  have hl := bytes_len h
  unfold decodeM
  rw [if_neg (by simp; omega), hg]
  simp only
  rw [if_neg (by simp), if_neg (by omega), show (((m.v 0).toNat : Nat) : Int) = m.v 0 by omega, hr]
  simp

end Sough
