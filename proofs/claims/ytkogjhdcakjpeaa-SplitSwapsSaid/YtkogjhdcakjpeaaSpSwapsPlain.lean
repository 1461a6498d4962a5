/- Plain law: parts that are turned are not joined. No program in sight. -/
import Derived.Test.YtkogjhdcakjpeaaSpRow
namespace Sough

theorem fragAt_set {fs : List Frag} {i j : Nat} (f : Frag) (hi : i < fs.length) : fragAt (fs.set i f) j = if i = j then f else fragAt fs j := by
  by_cases h : i = j
  · subst h; simp [fragAt, List.getD_eq_getElem?_getD, hi]
  · rw [if_neg h]; simp [fragAt, List.getD_eq_getElem?_getD, List.getElem?_set_ne h]

/-- What the law says of an answer. -/
def SwapAns (s : List UInt8) (same : Bool) (t : List UInt8) (e : Nat) : Prop := (e = 0 ∧ same = true ∧ t = s) ∨ (e = 3 ∧ same = false ∧ t = [])

variable {s : List UInt8} {n : Nat} {i k : Nat}

/-- A part with another number. -/
theorem swap_id (hi : i < many s.length n) (h2 : 2 ≤ many s.length n) : join ((cutAll s 7 n).set i ⟨8, (fragAt (cutAll s 7 n) i).index, (fragAt (cutAll s 7 n) i).count, (fragAt (cutAll s 7 n) i).part⟩) = ([], 3) := by
  have hl : i < (cutAll s 7 n).length := by rw [cutAll_len]; exact hi
  -- the first part, or the second one, has another number than the first one
  by_cases h0 : i = 0
  · refine join_no (k := 1) (by rw [List.length_set, cutAll_len]; omega) fun g => ?_
    have := g.2.1
    rw [fragAt_set _ hl, fragAt_set _ hl, if_neg (by omega), if_pos h0, cutAll_at (by omega)] at this
    have h1 : (7 : Nat) = 8 := this
    omega
  · refine join_no (k := i) (by rw [List.length_set, cutAll_len]; omega) fun g => ?_
    have := g.2.1
    rw [fragAt_set _ hl, fragAt_set _ hl, if_pos rfl, if_neg h0, cutAll_at (k := 0) (by omega)] at this
    have h1 : (8 : Nat) = 7 := this
    omega

/-- A part with another count. -/
theorem swap_count (hi : i < many s.length n) : join ((cutAll s 7 n).set i ⟨(fragAt (cutAll s 7 n) i).id, (fragAt (cutAll s 7 n) i).index, (fragAt (cutAll s 7 n) i).count + 1, (fragAt (cutAll s 7 n) i).part⟩) = ([], 3) := by
  have hl : i < (cutAll s 7 n).length := by rw [cutAll_len]; exact hi
  refine join_no (k := i) (by rw [List.length_set]; exact hl) fun g => ?_
  have := g.2.2.1
  rw [fragAt_set _ hl, if_pos rfl, cutAll_at hi, List.length_set, cutAll_len] at this
  have h1 : ((many s.length n : Nat) : Int) + 1 = ((many s.length n : Nat) : Int) := this
  omega

/-- A part at another place. -/
theorem swap_index (h : CutOk s 7 n) (hi : i < many s.length n) {t : List UInt8} {e : Nat} (hj : join ((cutAll s 7 n).set i ⟨(fragAt (cutAll s 7 n) i).id, k, (fragAt (cutAll s 7 n) i).count, (fragAt (cutAll s 7 n) i).part⟩) = (t, e)) : SwapAns s (decide (i = k)) t e := by
  have hl : i < (cutAll s 7 n).length := by rw [cutAll_len]; exact hi
  by_cases hk : i = k
  · left
    subst hk
    have e1 : (⟨(fragAt (cutAll s 7 n) i).id, (i : Int), (fragAt (cutAll s 7 n) i).count, (fragAt (cutAll s 7 n) i).part⟩ : Frag) = (cutAll s 7 n)[i] := by
      rw [← fragAt_eq hl, cutAll_at hi]
    rw [e1, List.set_getElem_self, h.whole] at hj
    obtain ⟨rfl, rfl⟩ := Prod.mk.inj hj
    exact ⟨rfl, by simp, rfl⟩
  · right
    have := join_no (fs := (cutAll s 7 n).set i ⟨(fragAt (cutAll s 7 n) i).id, k, (fragAt (cutAll s 7 n) i).count, (fragAt (cutAll s 7 n) i).part⟩) (k := i) (by rw [List.length_set]; exact hl) fun g => by
      have := g.2.2.2
      rw [fragAt_set _ hl, if_pos rfl] at this
      have h1 : ((k : Nat) : Int) = ((i : Nat) : Int) := this
      omega
    rw [this] at hj
    obtain ⟨rfl, rfl⟩ := Prod.mk.inj hj
    exact ⟨rfl, by simp [hk], rfl⟩

/-- Two parts, each at the other's place. -/
theorem swap_two (h : CutOk s 7 n) (hi : i < many s.length n) (hk : k < many s.length n) {t : List UInt8} {e : Nat} (hj : join (((cutAll s 7 n).set i (fragAt (cutAll s 7 n) k)).set k (fragAt (cutAll s 7 n) i)) = (t, e)) : SwapAns s (decide (i = k)) t e := by
  have hl : i < (cutAll s 7 n).length := by rw [cutAll_len]; exact hi
  have hm : k < (cutAll s 7 n).length := by rw [cutAll_len]; exact hk
  by_cases hik : i = k
  · left
    subst hik
    rw [fragAt_eq hl, List.set_getElem_self, List.set_getElem_self, h.whole] at hj
    obtain ⟨rfl, rfl⟩ := Prod.mk.inj hj
    exact ⟨rfl, by simp, rfl⟩
  · right
    have := join_no (fs := ((cutAll s 7 n).set i (fragAt (cutAll s 7 n) k)).set k (fragAt (cutAll s 7 n) i)) (k := k) (by rw [List.length_set, List.length_set]; exact hm) fun g => by
      have := g.2.2.2
      rw [fragAt_set _ (by rw [List.length_set]; exact hm), if_pos rfl, cutAll_at hi] at this
      have h1 : ((i : Nat) : Int) = ((k : Nat) : Int) := this
      omega
    rw [this] at hj
    obtain ⟨rfl, rfl⟩ := Prod.mk.inj hj
    exact ⟨rfl, by simp [hik], rfl⟩

end Sough
