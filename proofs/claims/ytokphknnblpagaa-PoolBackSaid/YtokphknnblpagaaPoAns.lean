/- Plain law: what adding a part answers. No program in sight. -/
import Derived.Test.YtokphknnblpagaaPoAdd3
namespace Sough

theorem partAt_push {m : PMsg} {i : Nat} {s : List UInt8} (hno : (m.parts.any fun p => p.1 == i) = false) : partAt (m.push i s).parts i = s := by
  unfold partAt PMsg.push
  simp only
  rw [List.find?_append, List.find?_eq_none.2 fun p hp => by simpa using List.any_eq_false.1 hno p hp]
  simp
theorem whole_has (l : List (Nat × List UInt8)) {i n : Nat} (hi : i < n) (h : partAt l i ≠ []) : whole l n ≠ [] := fun e => h (by
  unfold whole at e
  rw [List.flatMap_eq_nil_iff] at e
  exact e i (List.mem_range.2 hi))

theorem heldOf_expire (p : Pool) (now : Nat) : (p.expire now).held ≤ p.held := heldOf_filter _ _

/-- What is said of an answer. -/
def Ans (p : Pool) (r : Pool × List UInt8 × Bool × Nat) : Prop :=
  (r.2.2.2 = 0 ∧ r.2.2.1 = true ∧ r.2.1 ≠ []) ∨ (r.2.2.2 = 0 ∧ r.2.2.1 = false ∧ r.2.1 = []) ∨ (r.2.2.2 ≠ 0 ∧ r.2.2.1 = false ∧ r.2.1 = [] ∧ r.1.l.length ≤ p.l.length ∧ r.1.held ≤ p.held)

theorem step_ans {p q : Pool} (h1 : q.l.length ≤ p.l.length) (h2 : q.held ≤ p.held) {f : Frag} (hf : f.ok) (now : Nat) : (q.step f now).1.slots = q.slots ∧ (q.step f now).1.room = q.room ∧ Ans p (q.step f now) := by
  obtain ⟨k1, k2, k3, k4, k5, k6, k7, k8⟩ := hf
  unfold Pool.step
  split
  · split
    · exact ⟨rfl, rfl, .inr (.inr ⟨by simp, rfl, rfl, h1, h2⟩)⟩
    · exact ⟨rfl, rfl, .inr (.inl ⟨rfl, rfl, rfl⟩)⟩
  · rename_i m hfi
    obtain ⟨hm, hid⟩ := find_some hfi
    split
    · exact ⟨rfl, rfl, .inr (.inr ⟨by simp, rfl, rfl, h1, h2⟩)⟩
    · rename_i c0
      split
      · exact ⟨rfl, rfl, .inr (.inr ⟨by simp, rfl, rfl, h1, h2⟩)⟩
      · rename_i c1
        split
        · exact ⟨rfl, rfl, .inr (.inr ⟨by simp, rfl, rfl, h1, h2⟩)⟩
        · split
          · exact ⟨rfl, rfl, .inr (.inl ⟨rfl, rfl, rfl⟩)⟩
          · split
            · refine ⟨rfl, rfl, .inr (.inr ⟨by simp, rfl, rfl, ?_, ?_⟩)⟩
              · exact Nat.le_trans (List.length_filter_le _ _) h1
              · exact Nat.le_trans (heldOf_filter _ _) h2
            · refine ⟨rfl, rfl, .inl ⟨rfl, rfl, ?_⟩⟩
              refine whole_has _ (i := f.index.toNat) (by omega) ?_
              rw [partAt_push (Bool.eq_false_iff.2 c1)]
              intro e
              rw [e] at k7
              simp at k7
theorem add_ans {p : Pool} {f : Frag} {now : Nat} {r : Pool × List UInt8 × Bool × Nat} (hr : p.add f now = r) : r.1.slots = p.slots ∧ r.1.room = p.room ∧ Ans p r := by
  subst hr
  unfold Pool.add
  split
  · exact ⟨rfl, rfl, .inr (.inr ⟨by simp, rfl, rfl, Nat.le_refl _, Nat.le_refl _⟩)⟩
  · rename_i hf
    have hf' : f.ok := by simpa using hf
    split
    · refine ⟨rfl, rfl, .inl ⟨rfl, rfl, ?_⟩⟩
      obtain ⟨k1, k2, k3, k4, k5, k6, k7, k8⟩ := hf'
      show f.part ≠ []
      intro e
      rw [e] at k7
      simp at k7
    · exact step_ans (List.length_filter_le _ _) (heldOf_expire p now) hf' now

end Sough
