/- Pools in memory: a message is begun, put to, forgotten. -/
import Derived.Test.YtokphknnblpagaaPoPut
namespace Go.Proofs.Ytokphknnblpagaa
open Go.RowKit Go.Maps Go.ChangeMaps

def withA (A : Nat → Nat × Nat) (id a b : Nat) (j : Nat) : Nat × Nat := if j = id then (a, b) else A j
theorem blocks_begin {p mb a b : Nat} {A : Nat → Nat × Nat} {l : List Sough.PMsg} {m : Sough.PMsg} (hno : ∀ x ∈ l, x.id ≠ m.id) : blocksOf p mb (withA A m.id a b) (l ++ [m]) = blocksOf p mb A l ++ [a, b] := by
  have e : (l.flatMap fun x => [(withA A m.id a b x.id).1, (withA A m.id a b x.id).2]) = l.flatMap fun x => [(A x.id).1, (A x.id).2] := by
    induction l with
    | nil => rfl
    | cons x l ih =>
      rw [List.flatMap_cons, List.flatMap_cons, ih fun y hy => hno y (List.mem_cons_of_mem _ hy)]
      simp [withA, hno x (List.mem_cons_self ..)]
  simp only [blocksOf, List.flatMap_append, e]
  simp [withA]

theorem PoolCore.begin {w w6 : World} {p mb a b : Nat} {q : Sough.Pool} {A : Nat → Nat × Nat} {D : DataW Unit} {m : Sough.PMsg} (h : PoolCore w p mb q A D) (hmb : mb < w.heap.size) (hno : ∀ x ∈ q.l, x.id ≠ m.id) (ha : w.heap.size ≤ a) (hb : w.heap.size ≤ b) (hab : a ≠ b)
    (e : ∀ i, i < w.heap.size → i ≠ p → i ≠ mb → w6.heap[i]? = w.heap[i]?) (hp : w6.heap[p]? = some (.cells (poolCells mb (q.begin m)) 60 (0, 0))) (hM : MsgAt w6 a b m) :
    PoolCore w6 p mb (q.begin m) (withA A m.id a b) (D.put (keyU m.id) (mkP a)) := by
  have hlt := h.lt hmb
  have hne := (blocks_ne h.apart).2
  refine ⟨hp, fun x hx => ?_, ?_, ?_⟩
  · rcases List.mem_append.1 hx with hx | hx
    · have hi := hno x hx
      have hbk := mem_blocks (p := p) (mb := mb) (A := A) hx
      have n := hne x hx
      have ew : withA A m.id a b x.id = A x.id := by simp [withA, hi]
      rw [ew]
      exact (h.msgs x hx).same (e _ (hlt _ hbk.1) n.1 n.2.2.1) (e _ (hlt _ hbk.2) n.2.1 n.2.2.2.1)
    · simp only [List.mem_singleton] at hx
      subst hx
      have ew : withA A x.id a b x.id = (a, b) := by simp [withA]
      rw [ew]
      exact hM
  · show (blocksOf p mb (withA A m.id a b) (q.l ++ [m])).Nodup
    rw [blocks_begin hno, List.nodup_append]
    refine ⟨h.apart, by simp [hab], ?_⟩
    intro x hx y hy exy
    have := hlt x hx
    simp only [List.mem_cons, List.not_mem_nil, or_false] at hy
    omega
  · show MapsTo keyU mkP _ ((q.l ++ [m]).map _)
    rw [List.map_append]
    have em : (q.l.map fun x => (x.id, (withA A m.id a b x.id).1)) = q.l.map fun x => (x.id, (A x.id).1) := by
      apply List.map_congr_left
      intro x hx
      simp [withA, hno x hx]
    have := h.maps.put keyU_inj isKeyU (k := m.id) a (by
      rw [List.any_eq_false]
      intro y hy
      obtain ⟨x, hx, rfl⟩ := List.mem_map.1 hy
      simpa using hno x hx)
    rw [em]
    simpa [withA] using this

theorem blocks_put {p mb id i : Nat} {A : Nat → Nat × Nat} {q : Sough.Pool} {s : List UInt8} : blocksOf p mb A (q.put id i s).l = blocksOf p mb A q.l := by
  have : ((q.put id i s).l.flatMap fun m => [(A m.id).1, (A m.id).2]) = q.l.flatMap fun m => [(A m.id).1, (A m.id).2] := by
    simp only [Sough.Pool.put, List.flatMap_map]
    congr 1
    funext m
    split <;> rfl
  simp only [blocksOf, this]

theorem PoolCore.put {w w6 : World} {p mb : Nat} {q : Sough.Pool} {A : Nat → Nat × Nat} {D : DataW Unit} {m : Sough.PMsg} {i : Nat} {s : List UInt8} (h : PoolCore w p mb q A D) (hq : q.Ok) (hm : m ∈ q.l) (ht : Turned [p, (A m.id).2] w w6)
    (hp : w6.heap[p]? = some (.cells (pcells mb q.slots q.room (q.held + s.length : Nat)) 60 (0, 0))) (hP : PartsAt w6 (A m.id).2 (m.parts ++ [(i, s)])) : PoolCore w6 p mb (q.put m.id i s) A D := by
  have hne := (blocks_ne h.apart).2
  have hfi := Sough.find_of_mem hq hm
  refine ⟨?_, fun x hx => ?_, by rw [blocks_put]; exact h.apart, ?_⟩
  · rw [hp]
    show _ = some (Obj.cells #[_, _, _, .int .i64 ((q.put m.id i s).held)] _ _)
    rw [Sough.put_held hq hfi]
    rfl
  · simp only [Sough.Pool.put, List.mem_map] at hx
    obtain ⟨y, hy, rfl⟩ := hx
    have hMy := h.msgs y hy
    have ny := hne y hy
    by_cases e : y.id = m.id
    · have : y = m := Sough.eq_of_id hq.ids hy hm e
      subst this
      simp only [BEq.rfl, if_true]
      exact ⟨(ht.block _ (lt_of_block hMy.box) (by simp; exact ⟨ny.1, ny.2.2.2.2⟩)).trans hMy.box, hP⟩
    · have e' : (y.id == m.id) = false := by simpa using e
      simp only [e', Bool.false_eq_true, if_false]
      have nb := blocks_other h.apart hy hm e
      exact hMy.same (ht.block _ (lt_of_block hMy.box) (by simp; exact ⟨ny.1, nb.1⟩)) (ht.block _ hMy.parts.lt (by simp; exact ⟨ny.2.1, nb.2⟩))
  · have : ((q.put m.id i s).l.map fun x => (x.id, (A x.id).1)) = q.l.map fun x => (x.id, (A x.id).1) := by
      simp only [Sough.Pool.put, List.map_map]
      apply List.map_congr_left
      intro x _
      simp only [Function.comp]
      split <;> rfl
    rw [this]
    exact h.maps

end Go.Proofs.Ytokphknnblpagaa
