/- Plain law: how the document reads and judges messages. No program in sight. -/
import Derived.Test.YtjoanlhdocoddaaMsBackPlain
import Derived.Test.YtjoanlhdocoddaaVtAs
namespace Sough
open Go.Proofs.Ytjoanlhdocoddaa (get_bounds)

/-- A reader's place and first error. -/
structure Rd where
  k : Nat
  er : Nat
def rnum (s : List UInt8) (r : Rd) : Nat × Rd :=
  if r.er ≠ 0 then (0, r)
  else if (get s r.k).2.2 = 0 ∧ 4294967296 < (get s r.k).1 then (0, ⟨r.k, 3⟩)
  else if (get s r.k).2.2 ≠ 0 then (0, ⟨r.k, (get s r.k).2.2⟩)
  else ((get s r.k).1, ⟨(get s r.k).2.1, 0⟩)
def roff (s : List UInt8) (r : Rd) : List UInt8 × Rd :=
  if r.er ≠ 0 then ([], r) else ((getText s r.k 8).1, ⟨(getText s r.k 8).2.1, (getText s r.k 8).2.2⟩)
def rstep (s : List UInt8) (x : Msg × Rd) (f : Fld) : Msg × Rd :=
  if f.c = 3 then (⟨x.1.v, (roff s x.2).1⟩, (roff s x.2).2) else (⟨setV x.1.v f.c (rnum s x.2).1, x.1.offer⟩, (rnum s x.2).2)
def rchain (s : List UInt8) (x : Msg × Rd) (l : List Fld) : Msg × Rd := l.foldl (rstep s) x

theorem rnum_er {s : List UInt8} {r : Rd} (h : r.er ≠ 0) : rnum s r = (0, r) := by unfold rnum; rw [if_pos h]
theorem roff_er {s : List UInt8} {r : Rd} (h : r.er ≠ 0) : roff s r = ([], r) := by unfold roff; rw [if_pos h]
theorem rstep_er {s : List UInt8} {x : Msg × Rd} {f : Fld} (h : x.2.er ≠ 0) : (rstep s x f).2 = x.2 := by
  unfold rstep
  split
  · rw [roff_er h]
  · rw [rnum_er h]
theorem rchain_er {s : List UInt8} : ∀ {l : List Fld} {x : Msg × Rd}, x.2.er ≠ 0 → (rchain s x l).2 = x.2
  | [], _, _ => rfl
  | f :: l, x, h => by
    have h1 := rstep_er (s := s) (f := f) h
    show (rchain s (rstep s x f) l).2 = x.2
    rw [rchain_er (by rw [h1]; exact h), h1]
theorem rstep_read {s : List UInt8} {m : Msg} {k : Nat} {f : Fld} : (rstep s (m, ⟨k, 0⟩) f).2.er = (readF s m k f).2.2 ∧
    ((readF s m k f).2.2 = 0 → rstep s (m, ⟨k, 0⟩) f = ((readF s m k f).1, ⟨(readF s m k f).2.1, 0⟩)) := by
  unfold rstep readF
  by_cases h3 : f.c = 3
  · simp only [if_pos h3, roff]
    refine ⟨by simp, fun h => ?_⟩
    simp only [ne_eq, not_true, if_false]
    rw [h]
  · simp only [if_neg h3, rnum]
    by_cases h : (get s k).2.2 = 0 ∧ 4294967296 < (get s k).1
    · simp [h]
    · by_cases h0 : (get s k).2.2 = 0
      · have : ¬ 4294967296 < (get s k).1 := fun e => h ⟨h0, e⟩
        simp [h0, this]
      · simp [h0]
theorem rchain_read {s : List UInt8} : ∀ {l : List Fld} {m : Msg} {k : Nat}, (rchain s (m, ⟨k, 0⟩) l).2.er = (readAll s m k l).2.2 ∧
    ((readAll s m k l).2.2 = 0 → rchain s (m, ⟨k, 0⟩) l = ((readAll s m k l).1, ⟨(readAll s m k l).2.1, 0⟩))
  | [], m, k => ⟨rfl, fun _ => rfl⟩
  | f :: l, m, k => by
    obtain ⟨h1, h2⟩ := rstep_read (s := s) (m := m) (k := k) (f := f)
    unfold readAll
    by_cases h : (readF s m k f).2.2 = 0
    · rw [if_pos h]
      have h2 := h2 h
      show (rchain s (rstep s (m, ⟨k, 0⟩) f) l).2.er = _ ∧ (_ → rchain s (rstep s (m, ⟨k, 0⟩) f) l = _)
      rw [h2]
      exact rchain_read
    · rw [if_neg h]
      have he : (rstep s (m, ⟨k, 0⟩) f).2.er ≠ 0 := by rw [h1]; exact h
      refine ⟨?_, fun h' => absurd h' h⟩
      show (rchain s (rstep s (m, ⟨k, 0⟩) f) l).2.er = _
      rw [rchain_er he, h1]

theorem readAll_le {s : List UInt8} : ∀ {l : List Fld} {m : Msg} {k : Nat}, k ≤ s.length → (readAll s m k l).2.1 ≤ s.length
  | [], _, _, h => h
  | f :: l, m, k, h => by
    unfold readAll
    have h1 : (readF s m k f).2.1 ≤ s.length := by
      have hg : (get s k).2.1 ≤ s.length := by
        rcases hh : get s k with ⟨n, p, er⟩
        exact (get_bounds hh).1
      unfold readF
      split
      · unfold getText
        simp only
        split <;> (try split) <;> (try split) <;> simp only [] <;> omega
      · split
        · exact hg
        · split <;> exact hg
    split
    · exact readAll_le h1
    · exact h1
theorem dec_rchain {s : List UInt8} {n k : Nat} (hs : s.length ≤ 4096) (hg : get s 0 = (n, k, 0)) (h1 : 1 ≤ n) (h2 : n < 5) {x : Msg × Rd} (hx : rchain s (kindMsg n, ⟨k, 0⟩) (flds n) = x) :
    decodeM s = if x.2.er ≠ 0 then (zeroMsg, x.2.er) else if x.2.k ≠ s.length ∨ x.1.right = false then (zeroMsg, 3) else (x.1, 0) := by
  have hk := (get_bounds hg).1
  obtain ⟨e1, e2⟩ := rchain_read (s := s) (l := flds n) (m := kindMsg n) (k := k)
  have h3 := readAll_le (l := flds n) (m := kindMsg n) hk
  unfold decodeM
  rw [if_neg (by omega), hg]
  simp only
  rw [if_neg (by simp), if_neg (by omega)]
  rw [hx] at e1 e2
  rcases hR : readAll s (kindMsg n) k (flds n) with ⟨M, K, E⟩
  rw [hR] at e1 e2 h3
  simp only at e1 e2 h3 ⊢
  by_cases h : E = 0
  · have e2 := e2 h
    subst e2 h
    simp only [ne_eq, not_true, if_false]
    by_cases h4 : K = s.length
    · have h5 : ¬ K < s.length := by omega
      simp only [h4, Nat.lt_irrefl, not_true, false_or]
    · have h5 : K < s.length := by omega
      simp only [h4, h5, not_false_eq_true, true_or, if_true]
  · rw [if_pos h, e1, if_pos h]
theorem dec_kind {s : List UInt8} (h : 4096 < s.length) : decodeM s = (zeroMsg, 4) := by unfold decodeM; rw [if_pos h]
theorem dec_get {s : List UInt8} (hs : s.length ≤ 4096) {n k er : Nat} (hg : get s 0 = (n, k, er)) (h : er ≠ 0) : decodeM s = (zeroMsg, er) := by
  unfold decodeM; rw [if_neg (by omega), hg]; simp only; rw [if_pos h]
theorem dec_form {s : List UInt8} (hs : s.length ≤ 4096) {n k : Nat} (hg : get s 0 = (n, k, 0)) (h : n < 1 ∨ 5 ≤ n) : decodeM s = (zeroMsg, 3) := by
  unfold decodeM; rw [if_neg (by omega), hg]; simp only; rw [if_neg (by simp), if_pos h]

/-- The document's order: each byte of an offer is below the one ahead. -/
def decAt (l : List UInt8) (i : Nat) : Bool := decide ((l.getD i 0).toNat < (l.getD (i - 1) 0).toNat)
theorem offDec_iff : ∀ {l : List UInt8} {last : Nat}, offDec last l = true ↔ (∀ i, 1 ≤ i → i < l.length → decAt l i = true) ∧ (l ≠ [] → 1 ≤ (l.getD (l.length - 1) 0).toNat ∧ (l.getD 0 0).toNat < last)
  | [], _ => by simp [offDec]
  | x :: r, last => by
    have ih := offDec_iff (l := r) (last := x.toNat)
    unfold offDec
    rw [Bool.and_eq_true, ih, decide_eq_true_eq]
    cases r with
    | nil => simp; omega
    | cons y r =>
      simp only [ne_eq, reduceCtorEq, not_false_eq_true, forall_const, List.length_cons, Nat.add_sub_cancel]
      have e1 : (x :: y :: r).getD (r.length + 1) 0 = (y :: r).getD r.length 0 := rfl
      have e0 : (y :: r).getD 0 0 = y := rfl
      have e2 : (x :: y :: r).getD 0 0 = x := rfl
      rw [e1, e2, e0]
      constructor
      · rintro ⟨⟨a1, a2⟩, a3, a4, a5⟩
        refine ⟨fun i h1 h2 => ?_, a4, a2⟩
        by_cases e : i = 1
        · subst e; exact decide_eq_true a5
        · obtain ⟨j, rfl⟩ : ∃ j, i = j + 1 := ⟨i - 1, by omega⟩
          have := a3 j (by omega) (by omega)
          unfold decAt at this ⊢
          obtain ⟨q, rfl⟩ : ∃ q, j = q + 1 := ⟨j - 1, by omega⟩
          simpa using this
      · rintro ⟨a1, a2, a3⟩
        have a5 := a1 1 (by omega) (by omega)
        unfold decAt at a5
        have a5 : y.toNat < x.toNat := by simpa using a5
        refine ⟨⟨by omega, a3⟩, fun i h1 h2 => ?_, a2, a5⟩
        have := a1 (i + 1) (by omega) (by omega)
        unfold decAt at this ⊢
        obtain ⟨q, rfl⟩ : ∃ q, i = q + 1 := ⟨i - 1, by omega⟩
        simpa using this
/-- So many of the first bytes fall. -/
theorem offerOk_iff {l : List UInt8} : offerOk l = true ↔ (1 ≤ l.length ∧ l.length ≤ 8) ∧ (l.getD (l.length - 1) 0).toNat ≠ 0 ∧ ∀ i, 1 ≤ i → i < l.length → decAt l i = true := by
  unfold offerOk
  rw [Bool.and_eq_true, offDec_iff, decide_eq_true_eq]
  constructor
  · rintro ⟨⟨a, b⟩, c⟩
    have := b (fun e => by subst e; simp at c)
    exact ⟨c, by omega, a⟩
  · rintro ⟨c, b, a⟩
    exact ⟨⟨a, fun _ => ⟨by omega, by have := UInt8.toNat_lt (l.getD 0 0); omega⟩⟩, c⟩

end Sough
