/- Plain law: messages that are put together of their parts. No program in sight. -/
import Derived.Test.YtokphknnblpagaaSpPlain
namespace Sough

/-- A message that is not whole: its number, of how many parts, when it began, and the parts that came. -/
structure PMsg where
  id : Nat
  count : Nat
  since : Nat
  parts : List (Nat × List UInt8)

def psum (l : List (Nat × List UInt8)) : Nat := (l.map fun p => p.2.length).sum
def PMsg.bytes (m : PMsg) : Nat := psum m.parts
def PMsg.old (now : Nat) (m : PMsg) : Bool := decide (m.since < now ∧ 50 < now - m.since)

structure Pool where
  slots : Nat
  room : Nat
  l : List PMsg

def heldOf (l : List PMsg) : Nat := (l.map PMsg.bytes).sum
def Pool.held (p : Pool) : Nat := heldOf p.l
def Pool.expire (p : Pool) (now : Nat) : Pool := ⟨p.slots, p.room, p.l.filter fun m => !m.old now⟩
def Pool.find (p : Pool) (id : Nat) : Option PMsg := p.l.find? fun m => m.id == id
def Pool.without (p : Pool) (id : Nat) : Pool := ⟨p.slots, p.room, p.l.filter fun m => !(m.id == id)⟩
def PMsg.push (m : PMsg) (i : Nat) (s : List UInt8) : PMsg := ⟨m.id, m.count, m.since, m.parts ++ [(i, s)]⟩
def Pool.put (p : Pool) (id i : Nat) (s : List UInt8) : Pool := ⟨p.slots, p.room, p.l.map fun m => if m.id == id then m.push i s else m⟩
def Pool.begin (p : Pool) (m : PMsg) : Pool := ⟨p.slots, p.room, p.l ++ [m]⟩
def partAt (l : List (Nat × List UInt8)) (i : Nat) : List UInt8 := ((l.find? fun p => p.1 == i).map (·.2)).getD []
def whole (l : List (Nat × List UInt8)) (n : Nat) : List UInt8 := (List.range n).flatMap (partAt l)

/-- What comes of a part behind the forgetting: for one of several parts. -/
def Pool.step (q : Pool) (f : Frag) (now : Nat) : Pool × List UInt8 × Bool × Nat :=
  match q.find f.id with
  | none =>
    if q.slots ≤ q.l.length ∨ q.room < q.held + f.part.length then (q, [], false, 8)
    else (q.begin ⟨f.id, f.count.toNat, now, [(f.index.toNat, f.part)]⟩, [], false, 0)
  | some m =>
    if (m.count : Int) ≠ f.count then (q, [], false, 3)
    else if (m.parts.any fun p => p.1 == f.index.toNat) = true then (q, [], false, 6)
    else if q.room < q.held + f.part.length then (q, [], false, 8)
    else if m.parts.length + 1 ≠ m.count then (q.put f.id f.index.toNat f.part, [], false, 0)
    else if 4096 < (whole (m.push f.index.toNat f.part).parts m.count).length then (q.without f.id, [], false, 4)
    else (q.without f.id, whole (m.push f.index.toNat f.part).parts m.count, true, 0)

def Pool.add (p : Pool) (f : Frag) (now : Nat) : Pool × List UInt8 × Bool × Nat :=
  if ¬ f.ok then (p, [], false, 1)
  else if f.count = 1 then (p.expire now, f.part, true, 0)
  else (p.expire now).step f now

structure PMsg.Ok (m : PMsg) : Prop where
  id1 : 1 ≤ m.id
  id2 : m.id ≤ 4294967296
  c1 : 2 ≤ m.count
  c2 : m.count ≤ 16
  some : 1 ≤ m.parts.length
  few : m.parts.length < m.count
  keys : (m.parts.map (·.1)).Nodup
  each : ∀ p ∈ m.parts, p.1 < m.count ∧ 1 ≤ p.2.length ∧ p.2.length ≤ 1000
  since : m.since < 18446744073709551616

structure Pool.Ok (p : Pool) : Prop where
  s1 : p.slots ≤ 16
  r1 : p.room ≤ 65536
  len : p.l.length ≤ p.slots
  held : p.held ≤ p.room
  ids : (p.l.map (·.id)).Nodup
  each : ∀ m ∈ p.l, m.Ok

theorem heldOf_cons (m : PMsg) (l : List PMsg) : heldOf (m :: l) = m.bytes + heldOf l := by simp [heldOf]
theorem heldOf_append (l l' : List PMsg) : heldOf (l ++ l') = heldOf l + heldOf l' := by simp [heldOf]
theorem heldOf_filter (p : PMsg → Bool) : ∀ l : List PMsg, heldOf (l.filter p) ≤ heldOf l
  | [] => Nat.le_refl _
  | m :: l => by
    have := heldOf_filter p l
    rw [List.filter_cons]
    split <;> simp only [heldOf_cons] <;> omega
theorem psum_snoc (l : List (Nat × List UInt8)) (i : Nat) (s : List UInt8) : psum (l ++ [(i, s)]) = psum l + s.length := by simp [psum]
theorem psum_cons (x : Nat × List UInt8) (l : List (Nat × List UInt8)) : psum (x :: l) = x.2.length + psum l := by simp [psum]

theorem Pool.Ok.expire {p : Pool} (h : p.Ok) (now : Nat) : (p.expire now).Ok :=
  ⟨h.s1, h.r1, Nat.le_trans (List.length_filter_le _ _) h.len, Nat.le_trans (heldOf_filter _ _) h.held, (List.filter_sublist.map _).nodup h.ids, fun m hm => h.each m (List.mem_filter.1 hm).1⟩
theorem Pool.Ok.without {p : Pool} (h : p.Ok) (id : Nat) : (p.without id).Ok :=
  ⟨h.s1, h.r1, Nat.le_trans (List.length_filter_le _ _) h.len, Nat.le_trans (heldOf_filter _ _) h.held, (List.filter_sublist.map _).nodup h.ids, fun m hm => h.each m (List.mem_filter.1 hm).1⟩

theorem find_none {p : Pool} {id : Nat} (h : p.find id = none) : ∀ m ∈ p.l, m.id ≠ id := fun m hm e => by
  have := List.find?_eq_none.1 h m hm
  simp [e] at this
theorem find_some {p : Pool} {id : Nat} {m : PMsg} (h : p.find id = some m) : m ∈ p.l ∧ m.id = id :=
  ⟨List.mem_of_find?_eq_some h, by simpa using List.find?_some h⟩
theorem find_of_mem {p : Pool} (h : p.Ok) {m : PMsg} (hm : m ∈ p.l) : p.find m.id = some m := by
  have hn := h.ids
  unfold Pool.find
  clear h
  generalize p.l = L at hm hn ⊢
  induction L with
  | nil => simp at hm
  | cons x l ih =>
    rw [List.map_cons, List.nodup_cons] at hn
    rcases List.mem_cons.1 hm with rfl | hm
    · simp
    · have : x.id ≠ m.id := fun e => hn.1 (e ▸ List.mem_map_of_mem hm)
      rw [List.find?_cons_of_neg (by simpa using this)]
      exact ih hm hn.2

theorem eq_of_id : ∀ {l : List PMsg} {x y : PMsg}, (l.map (·.id)).Nodup → x ∈ l → y ∈ l → x.id = y.id → x = y
  | [], _, _, _, h, _, _ => absurd h (by simp)
  | a :: l, x, y, hn, hx, hy, e => by
    rw [List.map_cons, List.nodup_cons] at hn
    rcases List.mem_cons.1 hx with h1 | h1 <;> rcases List.mem_cons.1 hy with h2 | h2
    · rw [h1, h2]
    · exact absurd (by rw [← h1, e]; exact List.mem_map_of_mem (f := (·.id)) h2) hn.1
    · exact absurd (by rw [← h2, ← e]; exact List.mem_map_of_mem (f := (·.id)) h1) hn.1
    · exact eq_of_id hn.2 h1 h2 e
theorem put_ids (p : Pool) (id i : Nat) (s : List UInt8) : ((p.put id i s).l.map (·.id)) = p.l.map (·.id) := by
  simp only [Pool.put, List.map_map]
  apply List.map_congr_left
  intro m _
  simp only [Function.comp]
  split <;> rfl
theorem put_held {p : Pool} (h : p.Ok) {id i : Nat} {s : List UInt8} {m : PMsg} (hf : p.find id = some m) : (p.put id i s).held = p.held + s.length := by
  obtain ⟨hm, rfl⟩ := find_some hf
  have hn := h.ids
  unfold Pool.held Pool.put
  clear h hf
  simp only
  generalize p.l = L at hm hn ⊢
  induction L with
  | nil => simp at hm
  | cons x l ih =>
    rw [List.map_cons, List.nodup_cons] at hn
    rw [List.map_cons, heldOf_cons, heldOf_cons]
    rcases List.mem_cons.1 hm with rfl | hm
    · have hr : (l.map fun y => if y.id == m.id then y.push i s else y) = l := by
        conv => rhs; rw [← List.map_id l]
        apply List.map_congr_left
        intro y hy
        have : y.id ≠ m.id := fun e => hn.1 (e ▸ List.mem_map_of_mem hy)
        simp [this]
      rw [hr]
      simp [PMsg.bytes, PMsg.push, psum_snoc]
      omega
    · have hx : x.id ≠ m.id := fun e => hn.1 (e ▸ List.mem_map_of_mem hm)
      have := ih hm hn.2
      have e : (x.id == m.id) = false := by simpa using hx
      rw [e]
      simp only [Bool.false_eq_true, if_false]
      omega
theorem without_held {p : Pool} (h : p.Ok) {m : PMsg} (hm : m ∈ p.l) : (p.without m.id).held + m.bytes = p.held := by
  have hn := h.ids
  unfold Pool.held Pool.without
  clear h
  simp only
  generalize p.l = L at hm hn ⊢
  induction L with
  | nil => simp at hm
  | cons x l ih =>
    rw [List.map_cons, List.nodup_cons] at hn
    rw [List.filter_cons, heldOf_cons]
    rcases List.mem_cons.1 hm with rfl | hm
    · have hr : (l.filter fun y => !(y.id == m.id)) = l := List.filter_eq_self.2 fun y hy => by
        have : y.id ≠ m.id := fun e => hn.1 (e ▸ List.mem_map_of_mem hy)
        simp [this]
      rw [hr]
      simp
      omega
    · have : x.id ≠ m.id := fun e => hn.1 (e ▸ List.mem_map_of_mem hm)
      have := ih hm hn.2
      simp [*, heldOf_cons]
      omega
theorem without_len {p : Pool} (h : p.Ok) {m : PMsg} (hm : m ∈ p.l) : (p.without m.id).l.length + 1 = p.l.length := by
  have hn := h.ids
  unfold Pool.without
  clear h
  simp only
  generalize p.l = L at hm hn ⊢
  induction L with
  | nil => simp at hm
  | cons x l ih =>
    rw [List.map_cons, List.nodup_cons] at hn
    rw [List.filter_cons, List.length_cons]
    rcases List.mem_cons.1 hm with rfl | hm
    · have hr : (l.filter fun y => !(y.id == m.id)) = l := List.filter_eq_self.2 fun y hy => by
        have : y.id ≠ m.id := fun e => hn.1 (e ▸ List.mem_map_of_mem hy)
        simp [this]
      rw [hr]
      simp
    · have : x.id ≠ m.id := fun e => hn.1 (e ▸ List.mem_map_of_mem hm)
      have := ih hm hn.2
      simp [*]

theorem push_ok {m : PMsg} (h : m.Ok) {i : Nat} {s : List UInt8} (hi : i < m.count) (h1 : 1 ≤ s.length) (h2 : s.length ≤ 1000) (hno : (m.parts.any fun p => p.1 == i) = false) (hfew : m.parts.length + 1 ≠ m.count) : (m.push i s).Ok where
  id1 := h.id1
  id2 := h.id2
  c1 := h.c1
  c2 := h.c2
  since := h.since
  some := by simp [PMsg.push]
  few := by have := h.few; simp only [PMsg.push, List.length_append, List.length_singleton]; omega
  keys := by
    simp only [PMsg.push, List.map_append, List.map_cons, List.map_nil]
    rw [List.nodup_append]
    refine ⟨h.keys, by simp, ?_⟩
    rintro a ha b hb e
    simp only [List.mem_singleton] at hb
    subst hb e
    obtain ⟨p, hp, e⟩ := List.mem_map.1 ha
    have := List.any_eq_false.1 hno p hp
    simp [e] at this
  each := fun p hp => by
    simp only [PMsg.push, List.mem_append, List.mem_singleton] at hp
    rcases hp with hp | rfl
    · exact h.each p hp
    · exact ⟨hi, h1, h2⟩

theorem step_ok {q : Pool} (h : q.Ok) {f : Frag} (hf : f.ok) (hc : f.count ≠ 1) {now : Nat} (hn : now < 18446744073709551616) : (q.step f now).1.Ok := by
  obtain ⟨k1, k2, k3, k4, k5, k6, k7, k8⟩ := hf
  unfold Pool.step
  split
  · rename_i hfi
    split
    · exact h
    · rename_i hno
      refine ⟨h.s1, h.r1, ?_, ?_, ?_, ?_⟩
      · simp only [Pool.begin, List.length_append, List.length_singleton]; omega
      · show heldOf (q.l ++ [_]) ≤ q.room
        rw [heldOf_append, heldOf_cons]
        simp [PMsg.bytes, psum, heldOf]
        have : q.held = heldOf q.l := rfl
        simp only [heldOf] at this
        omega
      · simp only [Pool.begin, List.map_append, List.map_cons, List.map_nil]
        rw [List.nodup_append]
        refine ⟨h.ids, by simp, ?_⟩
        rintro a ha b hb e
        simp only [List.mem_singleton] at hb
        subst hb e
        obtain ⟨m, hm, e⟩ := List.mem_map.1 ha
        exact find_none hfi m hm e
      · intro m hm
        simp only [Pool.begin, List.mem_append, List.mem_singleton] at hm
        rcases hm with hm | rfl
        · exact h.each m hm
        · refine ⟨k1, k2, ?_, ?_, by simp, ?_, by simp, ?_, hn⟩
          · show 2 ≤ f.count.toNat; omega
          · show f.count.toNat ≤ 16; omega
          · show 1 < f.count.toNat; omega
          · intro p hp
            simp only [List.mem_singleton] at hp
            subst hp
            exact ⟨by show f.index.toNat < f.count.toNat; omega, k7, k8⟩
  · rename_i m hfi
    obtain ⟨hm, hid⟩ := find_some hfi
    split
    · exact h
    · split
      · exact h
      · split
        · exact h
        · split
          · rename_i c1 c2 c3 c4
            refine ⟨h.s1, h.r1, ?_, ?_, ?_, ?_⟩
            · simpa [Pool.put] using h.len
            · rw [put_held h hfi]; show _ ≤ q.room; omega
            · rw [put_ids]; exact h.ids
            · intro m' hm'
              simp only [Pool.put, List.mem_map] at hm'
              obtain ⟨x, hx, rfl⟩ := hm'
              split
              · rename_i e
                have e' : x.id = f.id := by simpa using e
                have : x = m := by
                  have := find_of_mem h hx
                  rw [e', hfi] at this
                  exact (Option.some.inj this).symm
                subst this
                exact push_ok (h.each x hx) (by omega) k7 k8 (Bool.eq_false_iff.2 c2) (by omega)
              · exact h.each x hx
          · split
            · exact h.without _
            · exact h.without _

theorem add_ok {p : Pool} (h : p.Ok) {f : Frag} {now : Nat} (hn : now < 18446744073709551616) : (p.add f now).1.Ok := by
  unfold Pool.add
  split
  · exact h
  · rename_i hf
    split
    · exact h.expire now
    · rename_i hc
      exact step_ok (h.expire now) (by simpa using hf) hc hn

end Sough
