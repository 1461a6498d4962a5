/- Plain law: all that can be made: the rounds come to an end. No program in sight. -/
import Derived.Test.YtlfgempjjoclbaaLKnPlain
namespace Sough
theorem count_set {l : List Bool} {i : Nat} (hi : i < l.length) : (l.set i true).count false = l.count false - (if cn l i = false then 1 else 0) := by
  rw [List.count_set hi]
  have e : cn l i = l[i] := by simp [cn, hi]
  rw [e]
  cases l[i] <;> simp
theorem count_pos {l : List Bool} {i : Nat} (hi : i < l.length) (h : cn l i = false) : 0 < l.count false := by
  have e : cn l i = l[i] := by simp [cn, hi]
  rw [e] at h
  exact List.count_pos_iff.2 (h ▸ List.getElem_mem hi)
def Less (l l' : List Bool) (b : Bool) : Prop := l'.length = l.length ∧ l'.count false ≤ l.count false ∧ (b = true → l'.count false < l.count false)
theorem Less.trans {a b c : List Bool} {x y : Bool} (h : Less a b x) (k : Less b c y) : Less a c (x || y) := by
  refine ⟨k.1.trans h.1, Nat.le_trans k.2.1 h.2.1, fun e => ?_⟩
  rcases Bool.or_eq_true _ _ ▸ e with e | e
  · exact Nat.lt_of_le_of_lt k.2.1 (h.2.2 e)
  · exact Nat.lt_of_lt_of_le (k.2.2 e) h.2.1
theorem Less.refl (a : List Bool) : Less a a false := ⟨rfl, Nat.le_refl _, by simp⟩
theorem Less.set {l : List Bool} {i : Nat} (hi : i < l.length) : Less l (l.set i true) (!cn l i) := by
  refine ⟨by simp, ?_, fun h => ?_⟩
  · rw [count_set hi]; omega
  · rw [count_set hi]
    have h' : cn l i = false := by simpa using h
    have := count_pos hi h'
    simp [h']; omega
theorem less_apart {can : List Bool} {t : Term} (ha : t.a.toNat < can.length) (hb : t.b.toNat < can.length) (hc : t.c.toNat < can.length) : Less can (apartK can t).1 (apartK can t).2 := by
  unfold apartK
  split
  · exact (Less.set ha).trans (Less.set (by simpa using hb))
  · split
    · exact Less.set hc
    · exact Less.refl _
structure Names (st : Store) (i : Nat) : Prop where
  a : (st.at i).a.toNat < st.l.length + 1
  b : (st.at i).b.toNat < st.l.length + 1
  c : (st.at i).c.toNat < st.l.length + 1
theorem less_step {st : Store} {f : Flg} {can : List Bool} {i : Nat} (hl : can.length = st.l.length + 1) (hi : i < st.l.length + 1) (hn : Names st i) : Less can (stepK st f can i).1 (stepK st f can i).2 := by
  have h1 : Less can (if (!cn can i && wayK st f can (st.at i)) = true then can.set i true else can) (!cn can i && wayK st f can (st.at i)) := by
    split
    · rename_i h
      rw [h]
      have := Less.set (l := can) (i := i) (by omega)
      have e : (!cn can i) = true := by rw [Bool.and_eq_true] at h; exact h.1
      rw [e] at this
      exact this
    · rename_i h
      rw [Bool.not_eq_true] at h
      rw [h]
      exact Less.refl _
  unfold stepK
  simp only
  generalize (!cn can i && wayK st f can (st.at i)) = w at h1
  generalize (if w = true then can.set i true else can) = c1 at h1
  split
  · have l2 := h1.1
    exact h1.trans (less_apart (by rw [l2, hl]; exact hn.a) (by rw [l2, hl]; exact hn.b) (by rw [l2, hl]; exact hn.c))
  · exact h1
theorem less_round {st : Store} {f : Flg} (hn : ∀ i, Names st i) : ∀ (k i : Nat) (can : List Bool) (more : Bool), can.length = st.l.length + 1 → i + k ≤ st.l.length + 1 →
    (roundK st f k i can more).1.length = can.length ∧ (roundK st f k i can more).1.count false ≤ can.count false ∧ ((roundK st f k i can more).2 = true → more = true ∨ (roundK st f k i can more).1.count false < can.count false) := by
  intro k
  induction k with
  | zero => intro i can more hl hk; exact ⟨rfl, Nat.le_refl _, fun h => .inl h⟩
  | succ k ih =>
    intro i can more hl hk
    have hs := less_step (f := f) hl (show i < st.l.length + 1 by omega) (hn i)
    unfold roundK
    obtain ⟨h1, h2, h3⟩ := ih (i + 1) (stepK st f can i).1 (more || (stepK st f can i).2) (hs.1.trans hl) (by omega)
    refine ⟨h1.trans hs.1, Nat.le_trans h2 hs.2.1, fun h => ?_⟩
    rcases h3 h with h | h
    · rcases Bool.or_eq_true _ _ ▸ h with h | h
      · exact .inl h
      · exact .inr (Nat.lt_of_le_of_lt h2 (hs.2.2 h))
    · exact .inr (Nat.lt_of_lt_of_le h hs.2.1)
theorem allK_fuel {st : Store} {f : Flg} (hn : ∀ i, Names st i) : ∀ (m m' : Nat) (can : List Bool), can.length = st.l.length + 1 → can.count false < m → can.count false < m' → allK st f m can = allK st f m' can := by
  intro m
  induction m with
  | zero => intro m' can _ h; omega
  | succ m ih =>
    intro m' can hl h h'
    match m', h' with
    | m' + 1, h' =>
      obtain ⟨h1, _, h3⟩ := less_round (f := f) hn st.l.length 1 can false hl (by omega)
      unfold allK
      split
      · rename_i hm
        have h4 : (roundK st f st.l.length 1 can false).1.count false < can.count false := by
          rcases h3 hm with h | h
          · cases h
          · exact h
        exact ih m' _ (h1.trans hl) (by omega) (by omega)
      · rfl
theorem names_at {st : Store} (h : st.Ok) (i : Nat) : Names st i ∧ ((1 ≤ i ∧ i ≤ st.l.length) → 1 ≤ (st.at i).k ∧ (st.at i).k < 12) ∧ 0 ≤ (st.at i).a ∧ 0 ≤ (st.at i).b ∧ 0 ≤ (st.at i).c := by
  by_cases hi : 1 ≤ i ∧ i ≤ st.l.length
  · have hx : st.has i = true := by unfold Store.has; simp; omega
    have e : st.at i = st.l[i - 1]'(by omega) := by
      unfold Store.at
      rw [if_pos hx]
      have : ((i : Int).toNat - 1) = i - 1 := by omega
      rw [this, List.getD_eq_getElem?_getD, List.getElem?_eq_getElem (by omega), Option.getD_some]
    have hm := h.may (i - 1) (by omega)
    obtain ⟨t, ht⟩ : ∃ t, t = st.at i := ⟨_, rfl⟩
    rw [← e, ← ht] at hm
    suffices hs : (t.a.toNat < st.l.length + 1 ∧ t.b.toNat < st.l.length + 1 ∧ t.c.toNat < st.l.length + 1) ∧ (1 ≤ t.k ∧ t.k < 12) ∧ 0 ≤ t.a ∧ 0 ≤ t.b ∧ 0 ≤ t.c by
      rw [ht] at hs
      exact ⟨⟨hs.1.1, hs.1.2.1, hs.1.2.2⟩, fun _ => hs.2.1, hs.2.2⟩
    unfold Store.may at hm
    rw [Bool.and_eq_true] at hm
    obtain ⟨hm, hp⟩ := hm
    unfold mayT at hm
    simp only [Bool.and_eq_true, decide_eq_true_eq] at hm
    obtain ⟨⟨⟨⟨k1, k2⟩, k3⟩, _⟩, _⟩ := hm
    rw [List.all_eq_true] at hp
    have hq : ∀ j, 0 ≤ (partsOf t).getD j 0 ∧ ((partsOf t).getD j 0).toNat < st.l.length + 1 := by
      intro j
      by_cases hj : j < (partsOf t).length
      · have := hp _ (List.getElem_mem hj)
        rw [Bool.and_eq_true, decide_eq_true_eq, decide_eq_true_eq] at this
        simp only [List.length_take] at this
        rw [List.getD_eq_getElem?_getD, List.getElem?_eq_getElem hj, Option.getD_some]
        omega
      · rw [List.getD_eq_getElem?_getD, List.getElem?_eq_none (by omega)]
        simp
    have ea : t.a = (partsOf t).getD 0 0 := congrArg Term.a k3
    have eb : t.b = (partsOf t).getD 1 0 := congrArg Term.b k3
    have ec : t.c = (partsOf t).getD 2 0 := congrArg Term.c k3
    exact ⟨⟨by rw [ea]; exact (hq 0).2, by rw [eb]; exact (hq 1).2, by rw [ec]; exact (hq 2).2⟩, ⟨k1, k2⟩, by rw [ea]; exact (hq 0).1, by rw [eb]; exact (hq 1).1, by rw [ec]; exact (hq 2).1⟩
  · have hx : st.has i = false := by unfold Store.has; simp; omega
    have e : st.at i = zeroT := by unfold Store.at; rw [hx]; rfl
    exact ⟨⟨by rw [e]; simp [zeroT], by rw [e]; simp [zeroT], by rw [e]; simp [zeroT]⟩, fun h => absurd h hi, by rw [e]; simp [zeroT], by rw [e]; simp [zeroT], by rw [e]; simp [zeroT]⟩
theorem allK_more {st : Store} {f : Flg} {can c1 : List Bool} {m : Nat} (h : roundK st f st.l.length 1 can false = (c1, true)) : allK st f (m + 1) can = allK st f m c1 := by
  rw [allK, h]; rfl
theorem allK_end {st : Store} {f : Flg} {can c1 : List Bool} {m : Nat} (h : roundK st f st.l.length 1 can false = (c1, false)) : allK st f (m + 1) can = c1 := by
  rw [allK, h]; rfl
theorem cn_set {l : List Bool} {i : Nat} (hi : i < l.length) : cn (l.set i true) i = true := by simp [cn, hi]
theorem stepK_known {st : Store} {f : Flg} {can : List Bool} {i : Nat} (h : cn can i = true) : stepK st f can i = apartK can (st.at i) := by
  unfold stepK
  simp [h]
theorem stepK_no {st : Store} {f : Flg} {can : List Bool} {i : Nat} (h : cn can i = false) (hv : wayK st f can (st.at i) = false) : stepK st f can i = (can, false) := by
  unfold stepK
  simp [h, hv]
theorem stepK_way {st : Store} {f : Flg} {can : List Bool} {i : Nat} (h : cn can i = false) (hv : wayK st f can (st.at i) = true) (hi : i < can.length) : stepK st f can i = ((apartK (can.set i true) (st.at i)).1, true) := by
  unfold stepK
  simp [h, hv, cn_set hi]
theorem roundK_step {st : Store} {f : Flg} {can can2 : List Bool} {n i : Nat} {more s2 : Bool} {fin : List Bool × Bool} (hi : i < n) (h : roundK st f (n - i) i can more = fin) (hs : stepK st f can i = (can2, s2)) : roundK st f (n - (i + 1)) (i + 1) can2 (more || s2) = fin := by
  have e : n - i = (n - (i + 1)) + 1 := by omega
  rw [e] at h
  unfold roundK at h
  rw [hs] at h
  exact h
theorem term_at {st : Store} (h : st.Ok) (i : Nat) : ∃ (tk ta tb tc tn : Nat) (ts : List UInt8), st.at i = ⟨tk, ts, tn, ta, tb, tc⟩ ∧ ta < st.l.length + 1 ∧ tb < st.l.length + 1 ∧ tc < st.l.length + 1 ∧ ((1 ≤ i ∧ i ≤ st.l.length) → 1 ≤ tk ∧ tk < 12) := by
  obtain ⟨⟨ha, hb, hc⟩, hk, h1, h2, h3⟩ := names_at h i
  by_cases hi : 1 ≤ i ∧ i ≤ st.l.length
  · obtain ⟨k1, k2⟩ := hk hi
    refine ⟨(st.at i).k.toNat, (st.at i).a.toNat, (st.at i).b.toNat, (st.at i).c.toNat, (st.at i).n, (st.at i).s, ?_, ha, hb, hc, fun _ => by omega⟩
    rw [Int.toNat_of_nonneg h1, Int.toNat_of_nonneg h2, Int.toNat_of_nonneg h3, Int.toNat_of_nonneg (by omega)]
  · have hx : st.has i = false := by unfold Store.has; simp; omega
    have e : st.at i = zeroT := by unfold Store.at; rw [hx]; rfl
    exact ⟨0, 0, 0, 0, 0, [], e, by omega, by omega, by omega, fun h => absurd h hi⟩
end Sough
