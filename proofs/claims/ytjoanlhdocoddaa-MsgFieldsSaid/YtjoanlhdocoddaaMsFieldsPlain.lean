/- Plain law: something in a cell that the kind has not; another name. No program in sight. -/
import Derived.Test.YtjoanlhdocoddaaMsBackPlain
namespace Sough

/-- Something in a cell that the kind has not: not right. -/
theorem alien {a : Msg} {c : Nat} (hc : c ∈ cellsN) (h0 : c ≠ 0) (hk : hasF (flds (a.v 0)) c = false) (hv : a.v c ≠ 0) : a.right = false := by
  cases h : a.right
  · rfl
  · obtain ⟨_, _, hs⟩ := right_spec h
    have := (same_iff.1 hs).1 c hc
    simp only [onlyL, h0, hk, if_false, Bool.false_eq_true, false_and] at this
    exact absurd this hv
theorem alien_offer {a : Msg} (hk : hasF (flds (a.v 0)) 3 = false) (hv : a.offer ≠ []) : a.right = false := by
  cases h : a.right
  · rfl
  · obtain ⟨_, _, hs⟩ := right_spec h
    have := (same_iff.1 hs).2
    simp only [onlyL, hk, Bool.false_eq_true, if_false] at this
    exact absurd this hv
/-- What is right has nothing there. -/
theorem right_zero {a : Msg} (h : a.right = true) {c : Nat} (hc : c ∈ cellsN) (h0 : c ≠ 0) (hk : hasF (flds (a.v 0)) c = false) : a.v c = 0 := by
  obtain ⟨_, _, hs⟩ := right_spec h
  have := (same_iff.1 hs).1 c hc
  simpa only [onlyL, h0, hk, if_false, Bool.false_eq_true, false_and] using this
/-- Another name. -/
theorem rename {m : Msg} {x : Int} (h : m.right = true) (h3 : m.v 0 ≠ 3) (h1 : 1 ≤ x) (h2 : x ≤ 1048576) : (⟨setV m.v 9 x, m.offer⟩ : Msg).right = true := by
  obtain ⟨hne, hall, hs⟩ := right_spec h
  have hk := kind_of hne
  obtain ⟨hs1, hs2⟩ := same_iff.1 hs
  have hv0 : (⟨setV m.v 9 x, m.offer⟩ : Msg).v 0 = m.v 0 := rfl
  have h9 : hasF (flds (m.v 0)) 9 = true := by
    have : m.v 0 = 1 ∨ m.v 0 = 2 ∨ m.v 0 = 4 := by omega
    rcases this with e | e | e <;> rw [e] <;> decide
  have hb9 : ∀ f ∈ flds (m.v 0), f.c = 9 → f.lo = 1 ∧ f.hi = 1048576 := by
    have : m.v 0 = 1 ∨ m.v 0 = 2 ∨ m.v 0 = 4 := by omega
    rcases this with e | e | e <;> rw [e] <;> decide
  unfold Msg.right
  rw [hv0, Bool.and_eq_true, Bool.and_eq_true, List.all_eq_true]
  refine ⟨⟨by simpa using hne, fun f hf => ?_⟩, ?_⟩
  · have ho := hall f hf
    unfold fldOk at ho ⊢
    by_cases e3 : f.c = 3
    · rw [if_pos e3] at ho ⊢; exact ho
    · rw [if_neg e3] at ho ⊢
      by_cases e9 : f.c = 9
      · have := hb9 f hf e9
        simp only [setV, e9, if_true, decide_eq_true_eq]
        omega
      · simp only [setV, e9, if_false]; exact ho
  · rw [same_iff]
    refine ⟨fun c hc => ?_, ?_⟩
    · have := hs1 c hc
      simp only [onlyL, setV] at this ⊢
      by_cases e9 : c = 9
      · subst e9; simp [h9]
      · simp only [e9, if_false]
        simpa using this
    · simpa only [onlyL] using hs2

end Sough
