/- Plain law: a message's bytes are read as it was. No program in sight. -/
import Derived.Test.YtjoanlhdocoddaaMsDec2
namespace Sough

theorem cell_in {f : Fld} {k : Int} (h : f ∈ flds k) (h3 : f.c ≠ 3) : f.c ∈ cellsN := by
  rcases cell_cases h with e | e | e | e | e | e | e | e | e | e | e | e <;> rw [e] at h3 ⊢ <;> first | decide | exact absurd rfl h3
theorem same_iff {a b : Msg} : a.same b = true ↔ (∀ c ∈ cellsN, a.v c = b.v c) ∧ a.offer = b.offer := by
  unfold Msg.same
  rw [Bool.and_eq_true, List.all_eq_true, decide_eq_true_eq]
  simp only [decide_eq_true_eq]
theorem same_symm {a b : Msg} (h : a.same b = true) : b.same a = true := by
  rw [same_iff] at h ⊢
  exact ⟨fun c hc => (h.1 c hc).symm, h.2.symm⟩
theorem same_trans {a b c : Msg} (h : a.same b = true) (k : b.same c = true) : a.same c = true := by
  rw [same_iff] at h k ⊢
  exact ⟨fun x hx => (h.1 x hx).trans (k.1 x hx), h.2.trans k.2⟩
theorem same_kind {a b : Msg} (h : a.same b = true) : a.v 0 = b.v 0 := (same_iff.1 h).1 0 (by decide)
theorem same_fldBytes {a b : Msg} (h : a.same b = true) {f : Fld} {k : Int} (hf : f ∈ flds k) : fldBytes a f = fldBytes b f := by
  obtain ⟨h1, h2⟩ := same_iff.1 h
  unfold fldBytes
  split
  · rw [h2]
  · rename_i h3
    rw [h1 _ (cell_in hf h3)]
theorem flatMap_eq {α β : Type} {f g : α → List β} : ∀ {l : List α}, (∀ x ∈ l, f x = g x) → l.flatMap f = l.flatMap g
  | [], _ => rfl
  | x :: l, h => by rw [List.flatMap_cons, List.flatMap_cons, h x (List.mem_cons_self ..), flatMap_eq fun y hy => h y (List.mem_cons_of_mem _ hy)]
theorem same_bytes {a b : Msg} (h : a.same b = true) : a.bytes = b.bytes := by
  unfold Msg.bytes
  rw [same_kind h, flatMap_eq fun f hf => same_fldBytes h hf]
theorem bytes_ne (m : Msg) : m.bytes ≠ [] := by
  intro h
  have := (put_len (m.v 0).toNat).1
  unfold Msg.bytes at h
  have h := congrArg List.length h
  simp only [List.length_append, List.length_nil] at h
  omega
theorem encode_nil {m : Msg} : m.encode = [] ↔ m.right = false := by
  unfold Msg.encode
  cases h : m.right
  · simp
  · simp [bytes_ne m]

/-- One field is read. -/
theorem read_at {m m0 : Msg} {f : Fld} {k : Int} (hf : f ∈ flds k) (ho : fldOk m f = true) (pre rest : List UInt8) :
    readF (pre ++ (fldBytes m f ++ rest)) m0 pre.length f = (if f.c = 3 then ⟨m0.v, m.offer⟩ else ⟨setV m0.v f.c (m.v f.c), m0.offer⟩, pre.length + (fldBytes m f).length, 0) := by
  unfold readF fldBytes
  unfold fldOk at ho
  by_cases h3 : f.c = 3
  · rw [if_pos h3] at ho
    have hl := offer_len ho
    rw [if_pos h3, if_pos h3, if_pos h3]
    have hg := get_put pre (m.offer ++ rest) m.offer.length (by omega)
    have e : pre ++ (putText m.offer ++ rest) = pre ++ (put m.offer.length ++ (m.offer ++ rest)) := by rw [putText, List.append_assoc]
    rw [e]
    have hd : (pre ++ (put m.offer.length ++ (m.offer ++ rest))).drop (pre.length + (put m.offer.length).length) = m.offer ++ rest := by
      rw [← List.append_assoc, ← List.length_append, List.drop_left]
    have ht := Go.Proofs.Ytjoanlhdocoddaa.text_ok (most := 8) hg (by omega) (by simp; omega)
    rw [ht, hd, List.take_left]
    simp [putText]; omega
  · rw [if_neg h3, decide_eq_true_eq] at ho
    have hb := fld_bounds hf
    rw [if_neg h3, if_neg h3, if_neg h3]
    have hg := get_put pre rest (m.v f.c).toNat (by omega)
    rw [hg]
    simp only
    rw [if_neg (by omega), if_pos trivial, show (((m.v f.c).toNat : Nat) : Int) = m.v f.c by omega]

theorem onlyL_next {m : Msg} {l : List Fld} {f : Fld} {k : Int} (hf : f ∈ flds k) : onlyL m (l ++ [f]) = if f.c = 3 then ⟨(onlyL m l).v, m.offer⟩ else ⟨setV (onlyL m l).v f.c (m.v f.c), (onlyL m l).offer⟩ := by
  split
  · rename_i h3; exact onlyL_text h3
  · rename_i h3
    refine onlyL_num ?_ h3
    rcases cell_cases hf with e | e | e | e | e | e | e | e | e | e | e | e <;> omega

theorem readAll_at {m : Msg} {k : Int} (t : List UInt8) : ∀ (l2 l1 : List Fld) (pre : List UInt8), (∀ f ∈ l2, f ∈ flds k ∧ fldOk m f = true) →
    readAll (pre ++ (l2.flatMap (fldBytes m) ++ t)) (onlyL m l1) pre.length l2 = (onlyL m (l1 ++ l2), pre.length + (l2.flatMap (fldBytes m)).length, 0)
  | [], l1, pre, _ => by simp [readAll]
  | f :: l2, l1, pre, h => by
    obtain ⟨hf, ho⟩ := h f (List.mem_cons_self ..)
    have hr := read_at (m0 := onlyL m l1) hf ho pre (l2.flatMap (fldBytes m) ++ t)
    rw [List.flatMap_cons, List.append_assoc]
    simp only [readAll]
    rw [hr, if_pos rfl, ← onlyL_next hf]
    simp only
    have ih := readAll_at t l2 (l1 ++ [f]) (pre ++ fldBytes m f) fun g hg => h g (List.mem_cons_of_mem _ hg)
    rw [List.length_append, List.append_assoc pre, List.append_assoc l1] at ih
    rw [ih]
    simp [Nat.add_assoc]

/-- A right message's bytes, whatever stands behind them, are read as it was. -/
theorem first_read {m : Msg} (h : m.right = true) (t : List UInt8) : get (m.bytes ++ t) 0 = ((m.v 0).toNat, (put (m.v 0).toNat).length, 0) ∧
    readAll (m.bytes ++ t) (kindMsg (m.v 0)) (put (m.v 0).toNat).length (flds (m.v 0)) = (onlyL m (flds (m.v 0)), m.bytes.length, 0) := by
  obtain ⟨hne, hall, _⟩ := right_spec h
  have hk := kind_of hne
  constructor
  · have := get_put [] ((flds (m.v 0)).flatMap (fldBytes m) ++ t) (m.v 0).toNat (by omega)
    unfold Msg.bytes
    rw [List.append_assoc]
    simpa using this
  · have := readAll_at (m := m) (k := m.v 0) t (flds (m.v 0)) [] (put (m.v 0).toNat) fun f hf => ⟨hf, hall f hf⟩
    rw [onlyL_nil, List.nil_append] at this
    unfold Msg.bytes
    rw [List.append_assoc, this, List.length_append]

/-- Two right messages, the one's bytes a beginning of the other's: they are the same. -/
theorem apart {a b : Msg} (ha : a.right = true) (hb : b.right = true) {r : List UInt8} (h : b.bytes = a.bytes ++ r) : a.same b = true := by
  obtain ⟨na, _, sa⟩ := right_spec ha
  obtain ⟨nb, _, sb⟩ := right_spec hb
  have ka := kind_of na; have kb := kind_of nb
  obtain ⟨ga, ra⟩ := first_read ha r
  obtain ⟨gb, rb⟩ := first_read hb []
  rw [List.append_nil, h] at gb rb
  rw [ga] at gb
  simp only [Prod.mk.injEq] at gb
  have ek : a.v 0 = b.v 0 := by omega
  rw [← ek, ra] at rb
  simp only [Prod.mk.injEq] at rb
  rw [← ek, ← rb.1] at sb
  exact same_trans sa (same_symm sb)

end Sough
