/- Plain law: what is got at a place hangs on the bytes from there on alone; bytes behind what is got make no difference. -/
import Derived.Test.YtnolpbkeheiadaaVtPlain
namespace Sough

theorem get_at {s : List UInt8} {k : Nat} (hk : k ≤ s.length) : get s (k : Int) = getL k 0 0 (s.drop k) := by
  unfold get
  rw [if_neg (by omega)]
  simp

theorem get_shift (p s : List UInt8) (k : Nat) (hk : k ≤ s.length) {n q e : Nat} (h : get s k = (n, q, e)) :
    get (p ++ s) ((p.length : Int) + k) = (n, q + (if e = 0 then p.length else 0), e) := by
  rw [show (p.length : Int) + (k : Int) = ((p.length + k : Nat) : Int) from by omega, get_at (by simp; omega), List.drop_append, Nat.add_comm p.length k, getL_shift]
  rw [get_at hk] at h
  have e1 : p.drop (k + p.length) = [] := List.drop_eq_nil_of_le (by omega)
  rw [e1, List.nil_append, show k + p.length - p.length = k by omega, h]

theorem get_more (s t : List UInt8) (k : Nat) (hk : k ≤ s.length) {n q e : Nat} (h : get s k = (n, q, e)) (he : e ≠ 2) : get (s ++ t) k = (n, q, e) := by
  rw [get_at hk] at h
  rw [get_at (by simp; omega), List.drop_append_of_le_length hk, getL_more k t _ 0 0 (by rw [h]; exact he), h]

theorem getText_shift (p s : List UInt8) (k : Nat) (most : Int) (hk : k ≤ s.length) {x : List UInt8} {i h : Nat} (hg : getText s k most = (x, i, h)) :
    getText (p ++ s) ((p.length : Int) + k) most = (x, i + (if h = 0 then p.length else 0), h) := by
  obtain ⟨n, q, e, hq⟩ : ∃ n q e, get s k = (n, q, e) := ⟨_, _, _, rfl⟩
  have hb : q ≤ s.length := by have := (get_bound s k).1; rw [hq] at this; exact this
  have h2 := get_shift p s k hk hq
  unfold getText at hg ⊢
  simp only [hq] at hg
  simp only [h2]
  by_cases he : e = 0
  · subst he
    simp only [ne_eq, not_true_eq_false, if_false, if_true] at hg ⊢
    by_cases h1 : max 0 most < (n : Int)
    · rw [if_pos h1] at hg ⊢
      simp only [Prod.mk.injEq] at hg
      obtain ⟨rfl, rfl, rfl⟩ := hg
      simp
    · rw [if_neg h1] at hg ⊢
      by_cases h3 : s.length - q < n
      · rw [if_pos h3] at hg
        rw [if_pos (by simp; omega)]
        simp only [Prod.mk.injEq] at hg
        obtain ⟨rfl, rfl, rfl⟩ := hg
        simp
      · rw [if_neg h3] at hg
        rw [if_neg (by simp; omega)]
        simp only [Prod.mk.injEq] at hg
        obtain ⟨rfl, rfl, rfl⟩ := hg
        have e1 : p.drop (q + p.length) = [] := List.drop_eq_nil_of_le (by omega)
        rw [List.drop_append, e1, List.nil_append, show q + p.length - p.length = q by omega]
        simp; omega
  · simp only [ne_eq, he, not_false_eq_true, if_true] at hg ⊢
    simp only [Prod.mk.injEq] at hg
    obtain ⟨rfl, rfl, rfl⟩ := hg
    simp [he]

theorem getText_err {s : List UInt8} {k most : Int} {x : List UInt8} {i h n q e : Nat} (hg : getText s k most = (x, i, h)) (hq : get s k = (n, q, e)) : (e = 0 ∨ h = e) := by
  unfold getText at hg
  simp only [hq] at hg
  by_cases he : e = 0
  · exact .inl he
  · simp only [ne_eq, he, not_false_eq_true, if_true, Prod.mk.injEq] at hg
    exact .inr hg.2.2.symm

theorem get_zero {s : List UInt8} {k : Int} {n q e : Nat} (hq : get s k = (n, q, e)) (he : e ≠ 0) : n = 0 ∧ q = 0 := by
  rcases get_err s k with h | h | h | h
  · rw [hq] at h; exact absurd h he
  all_goals rw [hq] at h; simp only [Prod.mk.injEq] at h; exact ⟨h.1, h.2.1⟩

end Sough
