/- Plain law: the document's pool, by places in its list. No program in sight. -/
import Derived.Test.YtokphknnblpagaaPoPlain
namespace Sough

theorem take_cons_drop {α : Type} {l : List α} {j : Nat} (h : j < l.length) : l.take j ++ l[j] :: l.drop (j + 1) = l := by
  rw [List.getElem_cons_drop, List.take_append_drop]

theorem without_at {l1 l2 : List PMsg} {m : PMsg} (hn : ((l1 ++ m :: l2).map (·.id)).Nodup) : ((l1 ++ m :: l2).filter fun x => !(x.id == m.id)) = l1 ++ l2 := by
  rw [List.map_append, List.map_cons, List.nodup_append, List.nodup_cons] at hn
  obtain ⟨_, ⟨h2, _⟩, h4⟩ := hn
  have a : (l1.filter fun x => !(x.id == m.id)) = l1 := List.filter_eq_self.2 fun x hx => by
    have := h4 x.id (List.mem_map_of_mem hx) m.id (List.mem_cons_self ..)
    simp [this]
  have b : (l2.filter fun x => !(x.id == m.id)) = l2 := List.filter_eq_self.2 fun x hx => by
    have : x.id ≠ m.id := fun e => h2 (e ▸ List.mem_map_of_mem hx)
    simp [this]
  rw [List.filter_append, List.filter_cons, a, b]
  simp

/-- The list when the places from j on are looked at. -/
def expAt (l : List PMsg) (now j : Nat) : List PMsg := l.take j ++ (l.drop j).filter fun m => !m.old now
theorem expAt_end (l : List PMsg) (now : Nat) : expAt l now l.length = l := by simp [expAt]
theorem expAt_zero (p : Pool) (now : Nat) : expAt p.l now 0 = (p.expire now).l := by simp [expAt, Pool.expire]
theorem expAt_here {l : List PMsg} {now j : Nat} (h : j < l.length) : expAt l now (j + 1) = l.take j ++ l[j] :: (l.drop (j + 1)).filter fun m => !m.old now := by
  unfold expAt
  rw [List.take_succ_eq_append_getElem h, List.append_assoc]
  rfl
theorem expAt_old {l : List PMsg} {now j : Nat} (h : j < l.length) (ho : l[j].old now = true) : expAt l now j = l.take j ++ (l.drop (j + 1)).filter fun m => !m.old now := by
  unfold expAt
  rw [← List.getElem_cons_drop (h := h), List.filter_cons, ho]
  simp
theorem expAt_new {l : List PMsg} {now j : Nat} (h : j < l.length) (ho : l[j].old now = false) : expAt l now j = expAt l now (j + 1) := by
  rw [expAt_here h]
  unfold expAt
  rw [← List.getElem_cons_drop (h := h), List.filter_cons, ho]
  simp
theorem expAt_sub (l : List PMsg) (now j : Nat) : (expAt l now j).Sublist l := by
  have : (l.take j ++ l.drop j) = l := List.take_append_drop j l
  conv => rhs; rw [← this]
  exact (List.Sublist.refl _).append List.filter_sublist
theorem expAt_len (l : List PMsg) (now j : Nat) : (expAt l now j).length ≤ l.length := (expAt_sub l now j).length_le
theorem sub_pool {p : Pool} (h : p.Ok) {l : List PMsg} (hs : l.Sublist p.l) : (Pool.mk p.slots p.room l).Ok := by
  have hh : heldOf l ≤ heldOf p.l := by
    have : ∀ {a b : List PMsg}, a.Sublist b → heldOf a ≤ heldOf b := by
      intro a b hab
      induction hab with
      | slnil => exact Nat.le_refl _
      | cons x _ ih => rw [heldOf_cons]; omega
      | cons_cons x _ ih => rw [heldOf_cons, heldOf_cons]; omega
    exact this hs
  exact ⟨h.s1, h.r1, Nat.le_trans hs.length_le h.len, Nat.le_trans hh h.held, (hs.map _).nodup h.ids, fun m hm => h.each m (hs.subset hm)⟩

theorem find_no {p : Pool} {id : Nat} (h : ∀ m ∈ p.l, m.id ≠ id) : p.find id = none := by
  unfold Pool.find
  rw [List.find?_eq_none]
  intro m hm
  simpa using h m hm

/-- What lies in the parts under a place. -/
def gather (ps : List (Nat × List UInt8)) (i : Nat) : List UInt8 := ps.flatMap fun p => if p.1 = i then p.2 else []
theorem gather_none {ps : List (Nat × List UInt8)} {i : Nat} (h : i ∉ ps.map (·.1)) : gather ps i = [] := by
  unfold gather
  rw [List.flatMap_eq_nil_iff]
  intro p hp
  exact if_neg (fun e : p.1 = i => h (by rw [← e]; exact List.mem_map_of_mem hp))
theorem gather_eq : ∀ {ps : List (Nat × List UInt8)} (i : Nat), (ps.map (·.1)).Nodup → gather ps i = partAt ps i
  | [], i, _ => rfl
  | p :: ps, i, h => by
    rw [List.map_cons, List.nodup_cons] at h
    have ih := gather_eq i h.2
    have hc : gather (p :: ps) i = (if p.1 = i then p.2 else []) ++ gather ps i := by simp [gather]
    rw [hc]
    by_cases e : p.1 = i
    · rw [if_pos e, gather_none (e ▸ h.1)]
      unfold partAt
      rw [List.find?_cons_of_pos (by simpa using e)]
      simp
    · rw [if_neg e, ih]
      unfold partAt
      rw [List.find?_cons_of_neg (by simpa using e)]
      rfl
/-- The first n places gathered, and the first k parts looked at of the next one. -/
def gathered (ps : List (Nat × List UInt8)) (n : Nat) : List UInt8 := (List.range n).flatMap (gather ps)
theorem gathered_succ (ps : List (Nat × List UInt8)) (n : Nat) : gathered ps (n + 1) = gathered ps n ++ gather ps n := by simp [gathered, List.range_succ]
theorem gather_succ {ps : List (Nat × List UInt8)} {k : Nat} (i : Nat) (h : k < ps.length) : gather (ps.take (k + 1)) i = gather (ps.take k) i ++ (if ps[k].1 = i then ps[k].2 else []) := by
  unfold gather
  rw [List.take_succ_eq_append_getElem h, List.flatMap_append]
  congr 1
  rw [List.flatMap_cons, List.flatMap_nil, List.append_nil]
theorem gathered_whole {ps : List (Nat × List UInt8)} (h : (ps.map (·.1)).Nodup) (n : Nat) : gathered ps n = whole ps n := by
  unfold gathered whole
  rw [show gather ps = partAt ps from funext fun i => gather_eq i h]

def fragsOf (m : PMsg) : List Frag := m.parts.map fun p => ⟨m.id, p.1, m.count, p.2⟩
theorem fragsOf_len (m : PMsg) : (fragsOf m).length = m.parts.length := by simp [fragsOf]
theorem fragsOf_at {m : PMsg} {k : Nat} (h : k < m.parts.length) : (fragsOf m)[k]'(by rw [fragsOf_len]; exact h) = ⟨m.id, m.parts[k].1, m.count, m.parts[k].2⟩ := by simp [fragsOf]
theorem fragsOf_push (m : PMsg) (i : Nat) (s : List UInt8) : fragsOf (m.push i s) = fragsOf m ++ [⟨m.id, i, m.count, s⟩] := by simp [fragsOf, PMsg.push]

theorem put_at {l1 l2 : List PMsg} {m : PMsg} (hn : ((l1 ++ m :: l2).map (·.id)).Nodup) (i : Nat) (s : List UInt8) : ((l1 ++ m :: l2).map fun x => if x.id == m.id then x.push i s else x) = l1 ++ m.push i s :: l2 := by
  rw [List.map_append, List.map_cons, List.nodup_append, List.nodup_cons] at hn
  obtain ⟨_, ⟨h2, _⟩, h4⟩ := hn
  have a : (l1.map fun x => if x.id == m.id then x.push i s else x) = l1 := by
    conv => rhs; rw [← List.map_id l1]
    apply List.map_congr_left
    intro x hx
    have := h4 x.id (List.mem_map_of_mem hx) m.id (List.mem_cons_self ..)
    simp [this]
  have b : (l2.map fun x => if x.id == m.id then x.push i s else x) = l2 := by
    conv => rhs; rw [← List.map_id l2]
    apply List.map_congr_left
    intro x hx
    have : x.id ≠ m.id := fun e => h2 (e ▸ List.mem_map_of_mem hx)
    simp [this]
  rw [List.map_append, List.map_cons, a, b]
  simp

theorem heldOf_take {l : List PMsg} {j : Nat} (h : j < l.length) : heldOf (l.take (j + 1)) = heldOf (l.take j) + l[j].bytes := by
  rw [List.take_succ_eq_append_getElem h, heldOf_append, heldOf_cons]
  simp [heldOf]
theorem psum_take {l : List (Nat × List UInt8)} {j : Nat} (h : j < l.length) : psum (l.take (j + 1)) = psum (l.take j) + l[j].2.length := by
  unfold psum
  rw [List.take_succ_eq_append_getElem h, List.map_append, List.sum_append]
  rfl

end Sough
