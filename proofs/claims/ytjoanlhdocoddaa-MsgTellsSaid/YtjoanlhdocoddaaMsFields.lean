/- The walk of (*msg.Msg).fields: its region draws its order, makes memory and fills a map: each operation's step, by an invariant. Printed by wip/tools/msfields.py. -/
import Derived.Test.YtjoanlhdocoddaaMsMem
import Derived.Test.YtjoanlhdocoddaaRegInv
namespace Go.Proofs.Ytjoanlhdocoddaa
open Go.RowKit Go.Maps Go.ChangeMaps

def findRegion (n : Nat) : Code → Option (Array Oper)
  | .region i ops _ => if i = n then some ops else none
  | .seq a b => (findRegion n a).or (findRegion n b)
  | .cond _ a b => (findRegion n a).or (findRegion n b)
  | .block _ c => findRegion n c
  | .loop c => findRegion n c
  | .scope c => findRegion n c
  | _ => none
noncomputable def fops : Array Oper := ((Try.f22.body.bind (findRegion 3))).getD #[]

/-- (operation, slot, value): what the operations yield that yield one thing in every order. -/
def fconsts (b : Nat) : List (Nat × Nat × Value) := [
  (1, 7, .func (.func 39) #[] #[]),
  (2, 8, .pointer (some ⟨b, 0, none⟩)),
  (3, 9, .pointer (some ⟨b, 0, none⟩)),
  (4, 10, .pointer (some ⟨b, 1, none⟩)),
  (5, 11, .agg #[.int .u64 1, .int .u64 4294967296, .pointer (some ⟨b, 1, none⟩), .pointer none, .pointer none]),
  (6, 12, .pointer (some ⟨b, 0, none⟩)),
  (7, 13, .pointer (some ⟨b, 0, none⟩)),
  (8, 14, .pointer (some ⟨b, 3, none⟩)),
  (9, 15, .agg #[.int .u64 0, .int .u64 0, .pointer none, .pointer none, .pointer (some ⟨b, 3, none⟩)]),
  (10, 16, .pointer (some ⟨b, 0, none⟩)),
  (11, 17, .pointer (some ⟨b, 0, none⟩)),
  (12, 18, .pointer (some ⟨b, 4, none⟩)),
  (13, 19, .agg #[.int .u64 0, .int .u64 1, .pointer none, .pointer (some ⟨b, 4, none⟩), .pointer none]),
  (14, 20, .func (.func 40) #[] #[]),
  (15, 21, .pointer (some ⟨b, 0, none⟩)),
  (16, 22, .pointer (some ⟨b, 0, none⟩)),
  (17, 23, .pointer (some ⟨b, 6, none⟩)),
  (18, 24, .agg #[.int .u64 1, .int .u64 1048576, .pointer none, .pointer (some ⟨b, 6, none⟩), .pointer none]),
  (19, 25, .func (.func 40) #[] #[]),
  (20, 26, .pointer (some ⟨b, 0, none⟩)),
  (21, 27, .pointer (some ⟨b, 0, none⟩)),
  (22, 28, .pointer (some ⟨b, 7, none⟩)),
  (23, 29, .agg #[.int .u64 1, .int .u64 1048576, .pointer none, .pointer (some ⟨b, 7, none⟩), .pointer none]),
  (24, 30, .func (.func 40) #[] #[]),
  (25, 31, .pointer (some ⟨b, 0, none⟩)),
  (26, 32, .pointer (some ⟨b, 0, none⟩)),
  (27, 33, .pointer (some ⟨b, 8, none⟩)),
  (28, 34, .agg #[.int .u64 1, .int .u64 1048576, .pointer none, .pointer (some ⟨b, 8, none⟩), .pointer none]),
  (29, 35, .func (.func 40) #[] #[]),
  (30, 36, .pointer (some ⟨b, 0, none⟩)),
  (31, 37, .pointer (some ⟨b, 0, none⟩)),
  (32, 38, .pointer (some ⟨b, 9, none⟩)),
  (33, 39, .agg #[.int .u64 1, .int .u64 1048576, .pointer none, .pointer (some ⟨b, 9, none⟩), .pointer none]),
  (34, 40, .func (.func 40) #[] #[]),
  (35, 41, .pointer (some ⟨b, 0, none⟩)),
  (36, 42, .pointer (some ⟨b, 0, none⟩)),
  (37, 43, .pointer (some ⟨b, 10, none⟩)),
  (38, 44, .agg #[.int .u64 1, .int .u64 1048576, .pointer none, .pointer (some ⟨b, 10, none⟩), .pointer none]),
  (41, 46, .func (.func 39) #[] #[]),
  (42, 47, .pointer (some ⟨b, 0, none⟩)),
  (43, 48, .pointer (some ⟨b, 0, none⟩)),
  (44, 49, .pointer (some ⟨b, 1, none⟩)),
  (45, 50, .agg #[.int .u64 1, .int .u64 4294967296, .pointer (some ⟨b, 1, none⟩), .pointer none, .pointer none]),
  (46, 51, .func (.func 39) #[] #[]),
  (47, 52, .pointer (some ⟨b, 0, none⟩)),
  (48, 53, .pointer (some ⟨b, 0, none⟩)),
  (49, 54, .pointer (some ⟨b, 2, none⟩)),
  (50, 55, .agg #[.int .u64 1, .int .u64 4294967296, .pointer (some ⟨b, 2, none⟩), .pointer none, .pointer none]),
  (51, 56, .func (.func 40) #[] #[]),
  (52, 57, .pointer (some ⟨b, 0, none⟩)),
  (53, 58, .pointer (some ⟨b, 0, none⟩)),
  (54, 59, .pointer (some ⟨b, 6, none⟩)),
  (55, 60, .agg #[.int .u64 1, .int .u64 1048576, .pointer none, .pointer (some ⟨b, 6, none⟩), .pointer none]),
  (56, 61, .func (.func 40) #[] #[]),
  (57, 62, .pointer (some ⟨b, 0, none⟩)),
  (58, 63, .pointer (some ⟨b, 0, none⟩)),
  (59, 64, .pointer (some ⟨b, 8, none⟩)),
  (60, 65, .agg #[.int .u64 1, .int .u64 1048576, .pointer none, .pointer (some ⟨b, 8, none⟩), .pointer none]),
  (61, 66, .func (.func 40) #[] #[]),
  (62, 67, .pointer (some ⟨b, 0, none⟩)),
  (63, 68, .pointer (some ⟨b, 0, none⟩)),
  (64, 69, .pointer (some ⟨b, 9, none⟩)),
  (65, 70, .agg #[.int .u64 1, .int .u64 1048576, .pointer none, .pointer (some ⟨b, 9, none⟩), .pointer none]),
  (68, 72, .func (.func 39) #[] #[]),
  (69, 73, .pointer (some ⟨b, 0, none⟩)),
  (70, 74, .pointer (some ⟨b, 0, none⟩)),
  (71, 75, .pointer (some ⟨b, 2, none⟩)),
  (72, 76, .agg #[.int .u64 1, .int .u64 4294967296, .pointer (some ⟨b, 2, none⟩), .pointer none, .pointer none]),
  (73, 77, .pointer (some ⟨b, 0, none⟩)),
  (74, 78, .pointer (some ⟨b, 0, none⟩)),
  (75, 79, .pointer (some ⟨b, 5, none⟩)),
  (76, 80, .agg #[.int .u64 1, .int .u64 15, .pointer none, .pointer (some ⟨b, 5, none⟩), .pointer none]),
  (79, 82, .func (.func 39) #[] #[]),
  (80, 83, .pointer (some ⟨b, 0, none⟩)),
  (81, 84, .pointer (some ⟨b, 0, none⟩)),
  (82, 85, .pointer (some ⟨b, 2, none⟩)),
  (83, 86, .agg #[.int .u64 1, .int .u64 4294967296, .pointer (some ⟨b, 2, none⟩), .pointer none, .pointer none]),
  (84, 87, .pointer (some ⟨b, 0, none⟩)),
  (85, 88, .pointer (some ⟨b, 0, none⟩)),
  (86, 89, .pointer (some ⟨b, 11, none⟩)),
  (87, 90, .agg #[.int .u64 0, .int .u64 1000, .pointer (some ⟨b, 11, none⟩), .pointer none, .pointer none]),
  (88, 91, .pointer (some ⟨b, 0, none⟩)),
  (89, 92, .pointer (some ⟨b, 0, none⟩)),
  (90, 93, .pointer (some ⟨b, 12, none⟩)),
  (91, 94, .agg #[.int .u64 0, .int .u64 255, .pointer (some ⟨b, 12, none⟩), .pointer none, .pointer none]),
  (92, 95, .func (.func 40) #[] #[]),
  (93, 96, .pointer (some ⟨b, 0, none⟩)),
  (94, 97, .pointer (some ⟨b, 0, none⟩)),
  (95, 98, .pointer (some ⟨b, 9, none⟩)),
  (96, 99, .agg #[.int .u64 1, .int .u64 1048576, .pointer none, .pointer (some ⟨b, 9, none⟩), .pointer none])]
/-- (operation, slot, elements): the slices. -/
def fslices : List (Nat × Nat × List Sough.Fld) := [(39, 45, Sough.flds1), (66, 71, Sough.flds2), (77, 81, Sough.flds3), (97, 100, Sough.flds4)]
def fins : List (Nat × Nat × Nat) := [(40, 1, 45), (67, 2, 71), (78, 3, 81), (98, 4, 100)]
def nops : Nat := 101
def mapslot : Nat := 6
def mvop : Nat := 99
def mvslot : Nat := 101
def asop : Nat := 100
def asslot : Nat := 5

/-- How many of the fillings are done. -/
def cnt (L : Nat → Bool) : Nat := (fins.filter fun x => L x.1).length

def late : List Nat := [mvop, asop] ++ fins.map (·.1)
/-- The invariant: what holds when these operations have come up. -/
structure FI (b : Nat) (w0 : World) (L : Nat → Bool) (a : Act) (w : World) : Prop where
  size : a.tmps.size = 108
  defers : a.defers = []
  s0 : a.eval (.tmp 0) = .pointer (some ⟨b, 0, none⟩)
  s3 : a.eval (.tmp 3) = .func (.func 39) #[] #[]
  s4 : a.eval (.tmp 4) = .func (.func 40) #[] #[]
  consts : ∀ x ∈ fconsts b, L x.1 = true → a.eval (.tmp x.2.1) = x.2.2
  below : Below w0.heap.size w0 w
  early : L 0 = false → ∀ i ∈ late, L i = false
  filled : ∀ y ∈ fins, L y.1 = true → ∀ x ∈ fslices, x.2.1 = y.2.2 → L x.1 = true
  slices : ∀ x ∈ fslices, L x.1 = true → ∃ g, a.eval (.tmp x.2.1) = .slice (some ⟨g, 0, none⟩) x.2.2.length x.2.2.length ∧ w0.heap.size ≤ g ∧ w.heap[g]? = some (.cells (rowC b x.2.2) 60 (0, 0))
  map : L 0 = true → ∃ mb D, a.eval (.tmp mapslot) = .map (some mb) ∧ w0.heap.size ≤ mb ∧ w.ownsMap Try.prog 3 heldE mb (cnt L) D ∧ IsMap D ∧
    (∀ x ∈ fins, L x.1 = true → ∀ zd, D.atKey (keyK x.2.1) zd = .held (a.eval (.tmp x.2.2))) ∧ (∀ kl, (∀ x ∈ fins, kl ≠ keyK x.2.1) → Maps.has D kl = false) ∧
    (L mvop = true → a.eval (.tmp mvslot) = .map (some mb)) ∧ (L asop = true → a.eval (.tmp asslot) = .map (some mb))

theorem eval_put {a : Act} {s t : Nat} {v : Value} (hs : s < a.tmps.size) : (a.put (some s) v).eval (.tmp t) = if t = s then v else a.eval (.tmp t) := by
  simp only [Act.put, Act.eval]
  by_cases e : t = s
  · subst e; simp [Array.getD, hs]
  · rw [if_neg e]
    simp only [Array.getD, Array.size_setIfInBounds]
    split
    · rename_i h
      rw [Array.getInternal_eq_getElem, Array.getInternal_eq_getElem, Array.getElem_setIfInBounds]
      rw [if_neg (Ne.symm e)]
    · rfl

theorem FI.const {b : Nat} {w0 : World} {L : Nat → Bool} {a : Act} {w : World} (h : FI b w0 L a w) (k : Nat) {x : Nat × Nat × Value} (hk : (fconsts b)[k]? = some x) (hL : L x.1 = true) : a.eval (.tmp x.2.1) = x.2.2 := h.consts x (List.mem_of_getElem? hk) hL

/-- The binding edges are met. -/
noncomputable def dj (i j : Nat) : Bool := (fops[i]?).any fun o => o.after.any fun e => e.on == j && Region.binds .any e
def StepAt (i : Nat) : Prop := ∀ (b : Nat) (w0 : World) (Q : Exit → Act → World → Prop) (L : Nat → Bool) (a : Act) (w : World), (∀ j, dj i j = true → L j = true) → L i = false → FI b w0 L a w → wpOp Try.prog fops Q i (FI b w0 (fun j => L j || j == i)) a w

theorem wpOp_of {P : Program} {ops : Array Oper} {Q : Exit → Act → World → Prop} {i : Nat} {K : Act → World → Prop} {a : Act} {w : World} {o : Oper} (ho : ops[i]? = some o) (hg : o.guard = none) (h : o.wp P a w K Q) : wpOp P ops Q i K a w := by
  unfold wpOp
  rw [ho]
  simp only [Region.wanted, hg, if_true]
  exact .inl h
theorem w_val {P : Program} {Q : Exit → Act → World → Prop} {K : Act → World → Prop} {a : Act} {w w' : World} {o : Oper} {s : Nat} {v : Value} (hd : o.dst = some s) (hrun : (execOp a.eval o).run P w = .ok (.value v) w') (hK : K (a.put (some s) v) w') : o.wp P a w K Q := by
  unfold Oper.wp
  rw [hrun, Oper.upon_value, hd]
  exact hK
theorem w_enter {P : Program} {Q : Exit → Act → World → Prop} {K : Act → World → Prop} {a : Act} {w : World} {o : Oper} {s f : Nat} {args : Array Value} {v : Value} (hd : o.dst = some s) (hrun : (execOp a.eval o).run P w = .ok (.enter f args) w)
    (hc : Calls P f args w fun e w' => e = .returned v ∧ Below w.heap.size w w') (hK : ∀ w', Below w.heap.size w w' → K (a.put (some s) v) w') : o.wp P a w K Q := by
  unfold Oper.wp
  rw [hrun, Oper.upon_enter]
  refine hc.mono ?_
  rintro e w' ⟨rfl, hb⟩
  rw [hd]
  exact hK w' hb

section
variable {P : Program} {Q : Exit → Act → World → Prop} {K : Act → World → Prop} {a : Act} {w : World} {o : Oper} {s : Nat} {v : Value}
theorem w_move {x : Operand} (hop : o.op = .move x) (hd : o.dst = some s) (hx : a.eval x = v) (hK : K (a.put (some s) v) w) : o.wp P a w K Q :=
  w_val (v := v) hd (by simp [execOp, hop, hx]) hK
theorem w_nil {x : Operand} {p : Addr} (hop : o.op = .nilCheck x) (hd : o.dst = some s) (hx : a.eval x = .pointer (some p)) (hK : K (a.put (some s) (.pointer (some p))) w) : o.wp P a w K Q :=
  w_val (v := .pointer (some p)) hd (by simp [execOp, hop, hx]) hK
theorem w_field {t : TypeId} {x : Operand} {k : Nat} {p : Value} (hop : o.op = .fieldAddr t x k) (hd : o.dst = some s) (hx : a.eval x = p) (hf : (Instr.fieldAt t p k).run P w = .ok v w) (hK : K (a.put (some s) v) w) : o.wp P a w K Q :=
  w_val (v := v) hd (by simp [execOp, hop, hx, hf, Result.andThen]) hK
theorem w_build {t : TypeId} {ps : Array (Nat × Operand)} (hop : o.op = .build t ps) (hd : o.dst = some s) (hf : (Instr.build t (ps.map fun (i, x) => (i, a.eval x))).run P w = .ok v w) (hK : K (a.put (some s) v) w) : o.wp P a w K Q :=
  w_val (v := v) hd (by simp only [execOp, hop]; simp [hf, Result.andThen]) hK
theorem w_call {f x : Operand} {n : Nat} {u : Value} {ts : Array TypeId} (hop : o.op = .call { callee := .value f, args := #[x], argTypes := ts }) (hd : o.dst = some s) (hf : a.eval f = .func (.func n) #[] #[]) (hx : a.eval x = u) (hcl : (callFunc n #[u]).run P w = .ok (.enter n #[u]) w)
    (hc : Calls P n #[u] w fun e w' => e = .returned v ∧ Below w.heap.size w w') (hK : ∀ w', Below w.heap.size w w' → K (a.put (some s) v) w') : o.wp P a w K Q :=
  w_enter (f := n) (args := #[u]) hd (by simp [execOp, hop, hf, hx, resolve, invoke, Deferred.ofValue, hcl]) hc hK
end

/-- No slot is written twice; none that the region reads from outside. -/
def cslots : List Nat := (fconsts 0).map (·.2.1)
theorem cslots_eq (b : Nat) : (fconsts b).map (·.2.1) = cslots := by rfl
def others : List Nat := [0, 3, 4, mapslot, mvslot, asslot] ++ fslices.map (·.2.1) ++ fins.map (·.2.2)
theorem cslots_nodup : cslots.Nodup := by decide +kernel
theorem cslots_far : ∀ s ∈ cslots, s ∉ others ∧ s < 108 := by decide +kernel
def cops : List Nat := (fconsts 0).map (·.1)
theorem cops_eq (b : Nat) : (fconsts b).map (·.1) = cops := by rfl
def oops : List Nat := [0, mvop, asop] ++ fslices.map (·.1) ++ fins.map (·.1)
theorem cops_far : ∀ s ∈ cops, s ∉ oops := by decide +kernel

theorem eq_of_slot {α β : Type} : ∀ {l : List (α × Nat × β)} {x y : α × Nat × β}, (l.map (·.2.1)).Nodup → x ∈ l → y ∈ l → x.2.1 = y.2.1 → x = y
  | [], _, _, _, h, _, _ => absurd h (by simp)
  | z :: l, x, y, hn, hx, hy, e => by
    rw [List.map_cons, List.nodup_cons] at hn
    rcases List.mem_cons.1 hx with h1 | h1 <;> rcases List.mem_cons.1 hy with h2 | h2
    · rw [h1, h2]
    · exact absurd (by rw [← h1, e]; exact List.mem_map_of_mem (f := (·.2.1)) h2) hn.1
    · exact absurd (by rw [← h2, ← e]; exact List.mem_map_of_mem (f := (·.2.1)) h1) hn.1
    · exact eq_of_slot hn.2 h1 h2 e

theorem cops_nodup : cops.Nodup := by decide +kernel
theorem eq_of_first {β : Type} : ∀ {l : List (Nat × β)} {x y : Nat × β}, (l.map (·.1)).Nodup → x ∈ l → y ∈ l → x.1 = y.1 → x = y
  | [], _, _, _, h, _, _ => absurd h (by simp)
  | z :: l, x, y, hn, hx, hy, e => by
    rw [List.map_cons, List.nodup_cons] at hn
    rcases List.mem_cons.1 hx with h1 | h1 <;> rcases List.mem_cons.1 hy with h2 | h2
    · rw [h1, h2]
    · exact absurd (by rw [← h1, e]; exact List.mem_map_of_mem (f := (·.1)) h2) hn.1
    · exact absurd (by rw [← h2, ← e]; exact List.mem_map_of_mem (f := (·.1)) h1) hn.1
    · exact eq_of_first hn.2 h1 h2 e
theorem eq_of_op {b : Nat} {x y : Nat × Nat × Value} (hx : x ∈ fconsts b) (hy : y ∈ fconsts b) (e : x.1 = y.1) : x = y := eq_of_first (by rw [cops_eq b]; exact cops_nodup) hx hy e

theorem FI.step_const {b : Nat} {w0 : World} {L : Nat → Bool} {a : Act} {w w' : World} (h : FI b w0 L a w) (k : Nat) {x : Nat × Nat × Value} (hk : (fconsts b)[k]? = some x) (hb : Below w.heap.size w w') : FI b w0 (fun j => L j || j == x.1) (a.put (some x.2.1) x.2.2) w' := by
  have hx := List.mem_of_getElem? hk
  have hs : x.2.1 ∈ cslots := by rw [← cslots_eq b]; exact List.mem_map_of_mem (f := (·.2.1)) hx
  have ho : x.1 ∈ cops := by rw [← cops_eq b]; exact List.mem_map_of_mem (f := (·.1)) hx
  obtain ⟨hfar, hlt⟩ := cslots_far _ hs
  have hof := cops_far _ ho
  have hsz : x.2.1 < a.tmps.size := by rw [h.size]; exact hlt
  have ev : ∀ t, t ∈ others → (a.put (some x.2.1) x.2.2).eval (.tmp t) = a.eval (.tmp t) := fun t ht => by
    rw [eval_put hsz, if_neg]
    exact fun e => hfar (e ▸ ht)
  have lv : ∀ j, j ∈ oops → (L j || j == x.1) = L j := fun j hj => by
    have : j ≠ x.1 := fun e => hof (e ▸ hj)
    simp [this]
  refine ⟨by simp [Act.put, h.size], by simp [Act.put, h.defers], ?_, ?_, ?_, ?_, h.below.trans (hb.mono h.below.size), ?_, ?_, ?_, ?_⟩
  · rw [ev 0 (by decide)]; exact h.s0
  · rw [ev 3 (by decide)]; exact h.s3
  · rw [ev 4 (by decide)]; exact h.s4
  · intro y hy hL
    rw [eval_put hsz]
    by_cases e : y.2.1 = x.2.1
    · have := eq_of_slot (by rw [cslots_eq b]; exact cslots_nodup) hy hx e
      rw [if_pos e, this]
    · rw [if_neg e]
      refine h.consts y hy ?_
      have : y.1 ≠ x.1 := fun e' => e (by
        have := eq_of_op hy hx e'
        rw [this])
      simpa [this] using hL
  · intro hL i hi
    rw [lv 0 (by decide)] at hL
    have hi' : i ∈ oops := by
      simp only [late, oops, List.mem_append, List.mem_cons, List.not_mem_nil, or_false] at hi ⊢
      rcases hi with (h | h) | h
      · exact .inl (.inl (.inr (.inl h)))
      · exact .inl (.inl (.inr (.inr h)))
      · exact .inr h
    rw [lv i hi']
    exact h.early hL i hi
  · intro y hy hL z hz e
    rw [lv _ (by unfold oops; simp only [List.mem_append]; exact .inr (List.mem_map_of_mem (f := (·.1)) hy))] at hL
    rw [h.filled y hy hL z hz e]; rfl
  · intro y hy hL
    rw [lv _ (by unfold oops; simp only [List.mem_append]; exact .inl (.inr (List.mem_map_of_mem (f := (·.1)) hy)))] at hL
    obtain ⟨g, h1, h2, h3⟩ := h.slices y hy hL
    exact ⟨g, by rw [ev _ (by unfold others; simp only [List.mem_append]; exact .inl (.inr (List.mem_map_of_mem (f := (·.2.1)) hy)))]; exact h1, h2, (hb.block g (lt_of_block h3)).trans h3⟩
  · intro hL
    rw [lv 0 (by decide)] at hL
    obtain ⟨mb, D, h1, h2, h3, h4, h5, h6, h7, h8⟩ := h.map hL
    have hc : cnt (fun j => L j || j == x.1) = cnt L := by
      unfold cnt
      congr 1
      apply List.filter_congr
      intro y hy
      exact lv _ (by unfold oops; simp only [List.mem_append]; exact .inr (List.mem_map_of_mem (f := (·.1)) hy))
    obtain ⟨es, clock, hbk, hrest⟩ := h3
    refine ⟨mb, D, by rw [ev _ (by decide)]; exact h1, h2, ⟨es, clock, (hb.block mb (lt_of_block hbk)).trans hbk, by rw [hc]; exact hrest⟩, h4, fun y hy hLy zd => ?_, h6, fun hLm => ?_, fun hLm => ?_⟩
    · rw [lv _ (by unfold oops; simp only [List.mem_append]; exact .inr (List.mem_map_of_mem (f := (·.1)) hy))] at hLy
      rw [ev _ (by unfold others; simp only [List.mem_append]; exact .inr (List.mem_map_of_mem (f := (·.2.2)) hy))]
      exact h5 y hy hLy zd
    · rw [lv _ (by decide)] at hLm; rw [ev _ (by decide)]; exact h7 hLm
    · rw [lv _ (by decide)] at hLm; rw [ev _ (by decide)]; exact h8 hLm


/-! ### the operations that depend on the order -/
theorem cells_ne_map {w : World} {g mb : Nat} {cs : Array Value} {T : TypeId} {h : Nat × Nat} {es : Array MapEntry} {c : Nat} (h1 : w.heap[g]? = some (.cells cs T h)) (h2 : w.heap[mb]? = some (.map es c)) : g ≠ mb := fun e => by
  subst e; rw [h1] at h2; cases h2
/-- Another slot is written, by an operation that is none of those with one value. -/
theorem FI.step_other {b : Nat} {w0 : World} {L : Nat → Bool} {a : Act} {w w' : World} (h : FI b w0 L a w) {i s : Nat} {v : Value} (hi : i ∉ cops) (hs : s ∉ cslots) (hs0 : s ≠ 0 ∧ s ≠ 3 ∧ s ≠ 4) (hlt : s < 108) (hb : Below w0.heap.size w0 w')
    (he : (L 0 || 0 == i) = false → ∀ j ∈ late, (L j || j == i) = false) (hf : ∀ y ∈ fins, y.1 ≠ i)
    (hsl : ∀ x ∈ fslices, (L x.1 || x.1 == i) = true → ∃ g, (a.put (some s) v).eval (.tmp x.2.1) = .slice (some ⟨g, 0, none⟩) x.2.2.length x.2.2.length ∧ w0.heap.size ≤ g ∧ w'.heap[g]? = some (.cells (rowC b x.2.2) 60 (0, 0)))
    (hm : (L 0 || 0 == i) = true → ∃ mb D, (a.put (some s) v).eval (.tmp mapslot) = .map (some mb) ∧ w0.heap.size ≤ mb ∧ w'.ownsMap Try.prog 3 heldE mb (cnt fun j => L j || j == i) D ∧ IsMap D ∧
      (∀ x ∈ fins, (L x.1 || x.1 == i) = true → ∀ zd, D.atKey (keyK x.2.1) zd = .held ((a.put (some s) v).eval (.tmp x.2.2))) ∧ (∀ kl, (∀ x ∈ fins, kl ≠ keyK x.2.1) → Maps.has D kl = false) ∧
      ((L mvop || mvop == i) = true → (a.put (some s) v).eval (.tmp mvslot) = .map (some mb)) ∧ ((L asop || asop == i) = true → (a.put (some s) v).eval (.tmp asslot) = .map (some mb))) :
    FI b w0 (fun j => L j || j == i) (a.put (some s) v) w' := by
  have hsz : s < a.tmps.size := by rw [h.size]; exact hlt
  refine ⟨by simp [Act.put, h.size], by simp [Act.put, h.defers], ?_, ?_, ?_, ?_, hb, he, fun y hy hL z hz e => by rw [h.filled y hy (by simpa [hf y hy] using hL) z hz e]; rfl, hsl, hm⟩
  · rw [eval_put hsz, if_neg (by omega)]; exact h.s0
  · rw [eval_put hsz, if_neg (by omega)]; exact h.s3
  · rw [eval_put hsz, if_neg (by omega)]; exact h.s4
  · intro y hy hL
    have h1 : y.2.1 ≠ s := fun e => hs (by rw [← cslots_eq b, ← e]; exact List.mem_map_of_mem (f := (·.2.1)) hy)
    have h2 : y.1 ≠ i := fun e => hi (by rw [← cops_eq b, ← e]; exact List.mem_map_of_mem (f := (·.1)) hy)
    rw [eval_put hsz, if_neg h1]
    exact h.consts y hy (by simpa [h2] using hL)

theorem cnt_same {L : Nat → Bool} {i : Nat} (hi : i ∉ fins.map (·.1)) : cnt (fun j => L j || j == i) = cnt L := by
  unfold cnt
  congr 1
  apply List.filter_congr
  intro y hy
  have : y.1 ≠ i := fun e => hi (by rw [← e]; exact List.mem_map_of_mem (f := (·.1)) hy)
  simp [this]
theorem cnt_more {L : Nat → Bool} {i : Nat} (hL : L i = false) (hi : i ∈ fins.map (·.1)) : cnt (fun j => L j || j == i) = cnt L + 1 := by
  have h4 : i = 40 ∨ i = 67 ∨ i = 78 ∨ i = 98 := by simpa [fins] using hi
  rcases h4 with rfl | rfl | rfl | rfl
  all_goals
    simp only [cnt, fins, List.filter_cons, List.filter_nil, hL]
    cases L 40 <;> cases L 67 <;> cases L 78 <;> cases L 98 <;> simp

theorem st_map {b : Nat} {w0 : World} {L : Nat → Bool} {a : Act} {w : World} (hL : L 0 = false) (h : FI b w0 L a w) : FI b w0 (fun j => L j || j == 0) (a.put (some mapslot) (.map (some w.heap.size))) (w.alloc (.map #[] 0)) := by
  have hsz : mapslot < a.tmps.size := by rw [h.size]; decide
  have ev : ∀ t, t ≠ mapslot → (a.put (some mapslot) (.map (some w.heap.size))).eval (.tmp t) = a.eval (.tmp t) := fun t ht => by rw [eval_put hsz, if_neg ht]
  have he := h.early hL
  have hf : ∀ x ∈ fins, L x.1 = false := fun x hx => he _ (by unfold late; simp only [List.mem_append]; exact .inr (List.mem_map_of_mem (f := (·.1)) hx))
  have hn0 : ∀ x ∈ fins, x.1 ≠ 0 := by decide
  refine h.step_other (by decide +kernel) (by decide +kernel) (by decide) (by decide) (h.below.alloc h.below.size _) (fun h0 => by simp at h0) hn0 (fun x hx hLx => ?_) (fun _ => ?_)
  · have h0 : x.1 ≠ 0 := (by decide : ∀ x ∈ fslices, x.1 ≠ 0) x hx
    obtain ⟨g, h1, h2, h3⟩ := h.slices x hx (by simpa [h0] using hLx)
    exact ⟨g, by rw [ev _ ((by decide : ∀ x ∈ fslices, x.2.1 ≠ mapslot) x hx)]; exact h1, h2, (Below.heap_alloc _ _ _ (lt_of_block h3)).trans h3⟩
  · refine ⟨w.heap.size, .map [], by rw [eval_put hsz, if_pos rfl], h.below.size, ?_, isMap_empty, fun x hx hLx => ?_, fun kl _ => rfl, fun hLm => ?_, fun hLm => ?_⟩
    · exact (World.ownsMap_made w Try.prog 3 heldE).mono (Nat.zero_le _)
    · have := hf x hx
      have h0 := hn0 x hx
      simp [this, h0] at hLx
    · have : L mvop = false := he _ (by decide)
      rw [this] at hLm; exact absurd hLm (by decide)
    · have : L asop = false := he _ (by decide)
      rw [this] at hLm; exact absurd hLm (by decide)

theorem st_slice {b : Nat} {w0 : World} {L : Nat → Bool} {a : Act} {w : World} (h : FI b w0 L a w) {x : Nat × Nat × List Sough.Fld} (hx : x ∈ fslices) (hL : L x.1 = false) : FI b w0 (fun j => L j || j == x.1) (a.put (some x.2.1) (.slice (some ⟨w.heap.size, 0, none⟩) x.2.2.length x.2.2.length)) (w.alloc (.cells (rowC b x.2.2) 60)) := by
  have hlt : x.2.1 < 108 := (by decide : ∀ x ∈ fslices, x.2.1 < 108) x hx
  have hsz : x.2.1 < a.tmps.size := by rw [h.size]; exact hlt
  have h0 : x.1 ≠ 0 := (by decide : ∀ x ∈ fslices, x.1 ≠ 0) x hx
  have hnl : ∀ j ∈ late, j ≠ x.1 := fun j hj => (by decide : ∀ x ∈ fslices, ∀ j ∈ late, j ≠ x.1) x hx j hj
  have hnm : x.2.1 ≠ mapslot ∧ x.2.1 ≠ mvslot ∧ x.2.1 ≠ asslot := (by decide : ∀ x ∈ fslices, x.2.1 ≠ mapslot ∧ x.2.1 ≠ mvslot ∧ x.2.1 ≠ asslot) x hx
  have hni : ∀ y ∈ fins, y.1 ≠ x.1 := fun y hy => hnl _ (by unfold late; simp only [List.mem_append]; exact .inr (List.mem_map_of_mem (f := (·.1)) hy))
  refine h.step_other ((by decide +kernel : ∀ x ∈ fslices, x.1 ∉ cops) x hx) ((by decide +kernel : ∀ x ∈ fslices, x.2.1 ∉ cslots) x hx) ((by decide : ∀ x ∈ fslices, x.2.1 ≠ 0 ∧ x.2.1 ≠ 3 ∧ x.2.1 ≠ 4) x hx) hlt (h.below.alloc h.below.size _) (fun hl j hj => ?_) hni (fun y hy hLy => ?_) (fun hl => ?_)
  · have hl0 : L 0 = false := by simpa [Ne.symm h0] using hl
    simp [h.early hl0 j hj, hnl j hj]
  · by_cases e : y = x
    · subst e
      refine ⟨w.heap.size, by rw [eval_put hsz, if_pos rfl], h.below.size, heap_alloc_new _ _⟩
    · have e1 : y.1 ≠ x.1 := fun e' => e (eq_of_first (l := fslices) (by decide) hy hx e')
      have e2 : y.2.1 ≠ x.2.1 := fun e' => e (eq_of_slot (l := fslices) (by decide) hy hx e')
      obtain ⟨g, k1, k2, k3⟩ := h.slices y hy (by simpa [e1] using hLy)
      exact ⟨g, by rw [eval_put hsz, if_neg e2]; exact k1, k2, (Below.heap_alloc _ _ _ (lt_of_block k3)).trans k3⟩
  · have hl0 : L 0 = true := by simpa [Ne.symm h0] using hl
    obtain ⟨mb, D, k1, k2, k3, k4, k5, k6, k7, k8⟩ := h.map hl0
    refine ⟨mb, D, by rw [eval_put hsz, if_neg (Ne.symm hnm.1)]; exact k1, k2, by rw [cnt_same (by intro hh; obtain ⟨y, hy, e⟩ := List.mem_map.1 hh; exact hni y hy e)]; exact k3.alloc _, k4, fun y hy hLy zd => ?_, k6, fun hm => ?_, fun hm => ?_⟩
    · have hLy' : L y.1 = true := by simpa [hni y hy] using hLy
      have e2 : y.2.2 ≠ x.2.1 := fun e => by
        -- the slice was there when it was filled in
        have := h.filled y hy hLy' x hx e.symm
        rw [hL] at this
        exact absurd this (by decide)
      rw [eval_put hsz, if_neg e2]
      exact k5 y hy hLy' zd
    · rw [eval_put hsz, if_neg (Ne.symm hnm.2.1)]; exact k7 (by simpa [hnl mvop (by decide)] using hm)
    · rw [eval_put hsz, if_neg (Ne.symm hnm.2.2)]; exact k8 (by simpa [hnl asop (by decide)] using hm)

/-- The map, moved: op i writes slot s. -/
theorem st_mv {b : Nat} {w0 : World} {L : Nat → Bool} {a : Act} {w : World} {mb : Nat} (h : FI b w0 L a w) (h0 : L 0 = true) (hv : a.eval (.tmp mapslot) = .map (some mb)) : FI b w0 (fun j => L j || j == mvop) (a.put (some mvslot) (.map (some mb))) w := by
  have hsz : mvslot < a.tmps.size := by rw [h.size]; decide
  refine h.step_other (by decide +kernel) (by decide +kernel) (by decide) (by decide) h.below (fun hl => by rw [h0] at hl; simp at hl) (by decide) (fun y hy hLy => ?_) (fun hl => ?_)
  · have e1 : y.1 ≠ mvop := (by decide : ∀ x ∈ fslices, x.1 ≠ mvop) y hy
    have e2 : y.2.1 ≠ mvslot := (by decide : ∀ x ∈ fslices, x.2.1 ≠ mvslot) y hy
    obtain ⟨g, k1, k2, k3⟩ := h.slices y hy (by simpa [e1] using hLy)
    exact ⟨g, by rw [eval_put hsz, if_neg e2]; exact k1, k2, k3⟩
  · obtain ⟨mb', D, k1, k2, k3, k4, k5, k6, k7, k8⟩ := h.map h0
    have em : mb' = mb := by rw [hv] at k1; injection k1 with k1; injection k1 with k1; exact k1.symm
    subst em
    refine ⟨mb', D, by rw [eval_put hsz, if_neg (by decide)]; exact k1, k2, by rw [cnt_same (by decide)]; exact k3, k4, fun y hy hLy zd => ?_, k6, fun _ => by rw [eval_put hsz, if_pos rfl], fun hm => ?_⟩
    · rw [eval_put hsz, if_neg ((by decide : ∀ x ∈ fins, x.2.2 ≠ mvslot) y hy)]
      exact k5 y hy (by simpa [(by decide : ∀ x ∈ fins, x.1 ≠ mvop) y hy] using hLy) zd
    · rw [eval_put hsz, if_neg (by decide)]; exact k8 (by simpa [show asop ≠ mvop by decide] using hm)
theorem st_as {b : Nat} {w0 : World} {L : Nat → Bool} {a : Act} {w : World} {mb : Nat} (h : FI b w0 L a w) (h0 : L 0 = true) (hv : a.eval (.tmp mapslot) = .map (some mb)) : FI b w0 (fun j => L j || j == asop) (a.put (some asslot) (.map (some mb))) w := by
  have hsz : asslot < a.tmps.size := by rw [h.size]; decide
  refine h.step_other (by decide +kernel) (by decide +kernel) (by decide) (by decide) h.below (fun hl => by rw [h0] at hl; simp at hl) (by decide) (fun y hy hLy => ?_) (fun hl => ?_)
  · have e1 : y.1 ≠ asop := (by decide : ∀ x ∈ fslices, x.1 ≠ asop) y hy
    have e2 : y.2.1 ≠ asslot := (by decide : ∀ x ∈ fslices, x.2.1 ≠ asslot) y hy
    obtain ⟨g, k1, k2, k3⟩ := h.slices y hy (by simpa [e1] using hLy)
    exact ⟨g, by rw [eval_put hsz, if_neg e2]; exact k1, k2, k3⟩
  · obtain ⟨mb', D, k1, k2, k3, k4, k5, k6, k7, k8⟩ := h.map h0
    have em : mb' = mb := by rw [hv] at k1; injection k1 with k1; injection k1 with k1; exact k1.symm
    subst em
    refine ⟨mb', D, by rw [eval_put hsz, if_neg (by decide)]; exact k1, k2, by rw [cnt_same (by decide)]; exact k3, k4, fun y hy hLy zd => ?_, k6, fun hm => ?_, fun _ => by rw [eval_put hsz, if_pos rfl]⟩
    · rw [eval_put hsz, if_neg ((by decide : ∀ x ∈ fins, x.2.2 ≠ asslot) y hy)]
      exact k5 y hy (by simpa [(by decide : ∀ x ∈ fins, x.1 ≠ asop) y hy] using hLy) zd
    · rw [eval_put hsz, if_neg (by decide)]; exact k7 (by simpa [show mvop ≠ asop by decide] using hm)

theorem keyK_inj {i j : Nat} (h : keyK i = keyK j) : i = j := Int.ofNat.inj (by simpa [keyK] using h)
theorem isKeyK (i : Int) : WideAt.IsKeyLit (keyK i) := by simp [keyK, WideAt.IsKeyLit]
theorem st_insert {b : Nat} {w0 : World} {L : Nat → Bool} {a : Act} {w : World} (h : FI b w0 L a w) {x : Nat × Nat × Nat} (hx : x ∈ fins) (hL : L x.1 = false) (h0 : L 0 = true) (hs : ∀ y ∈ fslices, y.2.1 = x.2.2 → L y.1 = true) {mb : Nat} (hv : a.eval (.tmp mapslot) = .map (some mb)) :
    ∃ w', (Instr.mapUpdate 80 (.map (some mb)) (.int .i64 x.2.1) (a.eval (.tmp x.2.2))).run Try.prog w = .ok () w' ∧ FI b w0 (fun j => L j || j == x.1) a w' := by
  obtain ⟨mb', D, k1, k2, k3, k4, k5, k6, k7, k8⟩ := h.map h0
  have em : mb' = mb := by rw [hv] at k1; injection k1 with k1; injection k1 with k1; exact k1.symm
  subst em
  have hkb : x.2.1 < 5 := (by decide : ∀ x ∈ fins, x.2.1 < 5) x hx
  have hcnt : cnt L ≤ 4 := Nat.le_trans (List.length_filter_le _ _) (by decide)
  obtain ⟨w', hrun, hown, hg⟩ := k3.update lawK Try.underlying80 (by unfold maxLen; omega) (keyOf_int_mk Try.underlying3 (WalkArith.wf_i64 (by omega)) : keyOf Try.prog 3 (.int .i64 x.2.1) = some (keyK x.2.1)) (d := .held (a.eval (.tmp x.2.2))) (ps := []) rfl
  refine ⟨w', hrun, ?_⟩
  have hi : x.1 ∉ cops := (by decide +kernel : ∀ x ∈ fins, x.1 ∉ cops) x hx
  have hns : ∀ y ∈ fslices, y.1 ≠ x.1 := (by decide : ∀ x ∈ fins, ∀ y ∈ fslices, y.1 ≠ x.1) x hx
  refine ⟨h.size, h.defers, h.s0, h.s3, h.s4, fun y hy hLy => ?_, h.below.grown hg h.below.size (fun k e => by cases e; exact k2), fun hl => by rw [h0] at hl; simp at hl, fun y hy hLy z hz e => ?_, fun y hy hLy => ?_, fun _ => ?_⟩
  · have h2 : y.1 ≠ x.1 := fun e => hi (by rw [← cops_eq b, ← e]; exact List.mem_map_of_mem (f := (·.1)) hy)
    exact h.consts y hy (by simpa [h2] using hLy)
  · by_cases ey : y.1 = x.1
    · have := eq_of_first (l := fins) (by decide) hy hx ey
      rw [this] at e
      rw [hs z hz e]; rfl
    · rw [h.filled y hy (by simpa [ey] using hLy) z hz e]; rfl
  · obtain ⟨g, j1, j2, j3⟩ := h.slices y hy (by simpa [hns y hy] using hLy)
    refine ⟨g, j1, j2, (hg.block g (lt_of_block j3) (fun e => ?_)).trans j3⟩
    obtain ⟨es, clock, hb, _⟩ := k3
    exact cells_ne_map j3 hb (by injection e)
  · refine ⟨mb', D.put (keyK x.2.1) (.held (a.eval (.tmp x.2.2))), k1, k2, by rw [cnt_more hL (List.mem_map_of_mem (f := (·.1)) hx)]; exact hown, k4.put _ _, fun y hy hLy zd => ?_, fun kl hkl => ?_, fun hm => k7 ?_, fun hm => k8 ?_⟩
    · by_cases ey : y.1 = x.1
      · have := eq_of_first (l := fins) (by decide) hy hx ey
        subst this
        exact atKey_put_same k4 (isKeyK _) _ _
      · have ek : keyK y.2.1 ≠ keyK x.2.1 := fun e => ey (by
          have := keyK_inj e
          have := eq_of_slot (l := fins) (by decide) hy hx this
          rw [this])
        rw [atKey_put_other ek]
        exact k5 y hy (by simpa [ey] using hLy) zd
    · rw [has_put_other (hkl x hx)]
      exact k6 kl hkl
    · simpa [(by decide : ∀ x ∈ fins, mvop ≠ x.1) x hx] using hm
    · simpa [(by decide : ∀ x ∈ fins, asop ≠ x.1) x hx] using hm
theorem w_insert {P : Program} {Q : Exit → Act → World → Prop} {K : Act → World → Prop} {a : Act} {w w' : World} {o : Oper} {t : TypeId} {m x v : Operand} {mv kv vv : Value} (hop : o.op = .insert t m x v) (hd : o.dst = none) (hm : a.eval m = mv) (hx : a.eval x = kv) (hv : a.eval v = vv)
    (hrun : (Instr.mapUpdate t mv kv vv).run P w = .ok () w') (hK : K a w') : o.wp P a w K Q := by
  unfold Oper.wp
  have : (execOp a.eval o).run P w = .ok .skip w' := by simp [execOp, hop, hm, hx, hv, hrun, Result.andThen]
  rw [this, Oper.upon_skip, hd]
  exact hK
theorem w_assign {P : Program} {Q : Exit → Act → World → Prop} {K : Act → World → Prop} {a : Act} {w : World} {o : Oper} {s : Nat} {v : Value} {x : Operand} (hop : o.op = .assign x) (hd : o.dst = some s) (hx : a.eval x = v) (hK : K (a.put (some s) v) w) : o.wp P a w K Q :=
  w_val (v := v) hd (by simp [execOp, hop, hx]) hK
theorem w_makeMap {P : Program} {Q : Exit → Act → World → Prop} {K : Act → World → Prop} {a : Act} {w : World} {o : Oper} {s : Nat} {t : TypeId} (hop : o.op = .makeMap t none) (hd : o.dst = some s) (hK : K (a.put (some s) (.map (some w.heap.size))) (w.alloc (.map #[] 0))) : o.wp P a w K Q :=
  w_val (v := .map (some w.heap.size)) hd (by simp [execOp, hop, run_makeMap, Result.andThen]) hK
theorem w_slice {P : Program} {Q : Exit → Act → World → Prop} {K : Act → World → Prop} {a : Act} {w w' : World} {o : Oper} {s n : Nat} {t : TypeId} {v : Value} {ps : Array (Nat × Operand)} (hop : o.op = .buildSlice t n ps) (hd : o.dst = some s) (hf : (Instr.buildSlice t n (ps.map fun (i, x) => (i, a.eval x))).run P w = .ok v w') (hK : K (a.put (some s) v) w') : o.wp P a w K Q :=
  w_val (v := v) hd (by simp only [execOp, hop]; simp [hf, Result.andThen]) hK

set_option maxRecDepth 100000 in
theorem fst0 : StepAt 0 := fun b w0 Q L a w hd hL h => by
  exact wpOp_of rfl rfl (w_makeMap (s := mapslot) rfl rfl (st_map hL h))

set_option maxRecDepth 100000 in
theorem fst1 : StepAt 1 := fun b w0 Q L a w hd hL h => by
  have e0 := h.s3
  refine wpOp_of rfl rfl (w_move (s := 7) (v := (.func (.func 39) #[] #[])) rfl rfl e0 ?_)
  exact h.step_const 0 rfl (Below.refl _ _)

set_option maxRecDepth 100000 in
theorem fst2 : StepAt 2 := fun b w0 Q L a w hd hL h => by
  have e0 := h.s0
  refine wpOp_of rfl rfl (w_move (s := 8) (v := (.pointer (some ⟨b, 0, none⟩))) rfl rfl e0 ?_)
  exact h.step_const 1 rfl (Below.refl _ _)

set_option maxRecDepth 100000 in
theorem fst3 : StepAt 3 := fun b w0 Q L a w hd hL h => by
  have e0 : a.eval (.tmp 8) = .pointer (some ⟨b, 0, none⟩) := h.const 1 rfl (hd 2 (by kernel_rfl))
  refine wpOp_of rfl rfl (w_nil (s := 9) rfl rfl e0 ?_)
  exact h.step_const 2 rfl (Below.refl _ _)

set_option maxRecDepth 100000 in
theorem fst4 : StepAt 4 := fun b w0 Q L a w hd hL h => by
  have e0 : a.eval (.tmp 9) = .pointer (some ⟨b, 0, none⟩) := h.const 2 rfl (hd 3 (by kernel_rfl))
  refine wpOp_of rfl rfl (w_field (s := 10) (v := (.pointer (some ⟨b, 1, none⟩))) rfl rfl e0 (by kernel_rfl) ?_)
  exact h.step_const 3 rfl (Below.refl _ _)

set_option maxRecDepth 100000 in
theorem fst5 : StepAt 5 := fun b w0 Q L a w hd hL h => by
  have e0 : a.eval (.tmp 7) = .func (.func 39) #[] #[] := h.const 0 rfl (hd 1 (by kernel_rfl))
  have e1 : a.eval (.tmp 10) = .pointer (some ⟨b, 1, none⟩) := h.const 3 rfl (hd 4 (by kernel_rfl))
  refine wpOp_of rfl rfl (w_call (s := 11) rfl rfl e0 e1 (by kernel_rfl) (number_any _ _) ?_)
  intro w' hb
  exact h.step_const 4 rfl hb

set_option maxRecDepth 100000 in
theorem fst6 : StepAt 6 := fun b w0 Q L a w hd hL h => by
  have e0 := h.s0
  refine wpOp_of rfl rfl (w_move (s := 12) (v := (.pointer (some ⟨b, 0, none⟩))) rfl rfl e0 ?_)
  exact h.step_const 5 rfl (Below.refl _ _)

set_option maxRecDepth 100000 in
theorem fst7 : StepAt 7 := fun b w0 Q L a w hd hL h => by
  have e0 : a.eval (.tmp 12) = .pointer (some ⟨b, 0, none⟩) := h.const 5 rfl (hd 6 (by kernel_rfl))
  refine wpOp_of rfl rfl (w_nil (s := 13) rfl rfl e0 ?_)
  exact h.step_const 6 rfl (Below.refl _ _)

set_option maxRecDepth 100000 in
theorem fst8 : StepAt 8 := fun b w0 Q L a w hd hL h => by
  have e0 : a.eval (.tmp 13) = .pointer (some ⟨b, 0, none⟩) := h.const 6 rfl (hd 7 (by kernel_rfl))
  refine wpOp_of rfl rfl (w_field (s := 14) (v := (.pointer (some ⟨b, 3, none⟩))) rfl rfl e0 (by kernel_rfl) ?_)
  exact h.step_const 7 rfl (Below.refl _ _)

set_option maxRecDepth 100000 in
theorem fst9 : StepAt 9 := fun b w0 Q L a w hd hL h => by
  have e0 : a.eval (.tmp 14) = .pointer (some ⟨b, 3, none⟩) := h.const 7 rfl (hd 8 (by kernel_rfl))
  refine wpOp_of rfl rfl (w_build (s := 15) (v := (.agg #[.int .u64 0, .int .u64 0, .pointer none, .pointer none, .pointer (some ⟨b, 3, none⟩)])) rfl rfl (by simp only [List.map_toArray, List.map_cons, List.map_nil, e0]; kernel_rfl) ?_)
  exact h.step_const 8 rfl (Below.refl _ _)

set_option maxRecDepth 100000 in
theorem fst10 : StepAt 10 := fun b w0 Q L a w hd hL h => by
  have e0 := h.s0
  refine wpOp_of rfl rfl (w_move (s := 16) (v := (.pointer (some ⟨b, 0, none⟩))) rfl rfl e0 ?_)
  exact h.step_const 9 rfl (Below.refl _ _)

set_option maxRecDepth 100000 in
theorem fst11 : StepAt 11 := fun b w0 Q L a w hd hL h => by
  have e0 : a.eval (.tmp 16) = .pointer (some ⟨b, 0, none⟩) := h.const 9 rfl (hd 10 (by kernel_rfl))
  refine wpOp_of rfl rfl (w_nil (s := 17) rfl rfl e0 ?_)
  exact h.step_const 10 rfl (Below.refl _ _)

set_option maxRecDepth 100000 in
theorem fst12 : StepAt 12 := fun b w0 Q L a w hd hL h => by
  have e0 : a.eval (.tmp 17) = .pointer (some ⟨b, 0, none⟩) := h.const 10 rfl (hd 11 (by kernel_rfl))
  refine wpOp_of rfl rfl (w_field (s := 18) (v := (.pointer (some ⟨b, 4, none⟩))) rfl rfl e0 (by kernel_rfl) ?_)
  exact h.step_const 11 rfl (Below.refl _ _)

set_option maxRecDepth 100000 in
theorem fst13 : StepAt 13 := fun b w0 Q L a w hd hL h => by
  have e0 : a.eval (.tmp 18) = .pointer (some ⟨b, 4, none⟩) := h.const 11 rfl (hd 12 (by kernel_rfl))
  refine wpOp_of rfl rfl (w_build (s := 19) (v := (.agg #[.int .u64 0, .int .u64 1, .pointer none, .pointer (some ⟨b, 4, none⟩), .pointer none])) rfl rfl (by simp only [List.map_toArray, List.map_cons, List.map_nil, e0]; kernel_rfl) ?_)
  exact h.step_const 12 rfl (Below.refl _ _)

set_option maxRecDepth 100000 in
theorem fst14 : StepAt 14 := fun b w0 Q L a w hd hL h => by
  have e0 := h.s4
  refine wpOp_of rfl rfl (w_move (s := 20) (v := (.func (.func 40) #[] #[])) rfl rfl e0 ?_)
  exact h.step_const 13 rfl (Below.refl _ _)

set_option maxRecDepth 100000 in
theorem fst15 : StepAt 15 := fun b w0 Q L a w hd hL h => by
  have e0 := h.s0
  refine wpOp_of rfl rfl (w_move (s := 21) (v := (.pointer (some ⟨b, 0, none⟩))) rfl rfl e0 ?_)
  exact h.step_const 14 rfl (Below.refl _ _)

set_option maxRecDepth 100000 in
theorem fst16 : StepAt 16 := fun b w0 Q L a w hd hL h => by
  have e0 : a.eval (.tmp 21) = .pointer (some ⟨b, 0, none⟩) := h.const 14 rfl (hd 15 (by kernel_rfl))
  refine wpOp_of rfl rfl (w_nil (s := 22) rfl rfl e0 ?_)
  exact h.step_const 15 rfl (Below.refl _ _)

set_option maxRecDepth 100000 in
theorem fst17 : StepAt 17 := fun b w0 Q L a w hd hL h => by
  have e0 : a.eval (.tmp 22) = .pointer (some ⟨b, 0, none⟩) := h.const 15 rfl (hd 16 (by kernel_rfl))
  refine wpOp_of rfl rfl (w_field (s := 23) (v := (.pointer (some ⟨b, 6, none⟩))) rfl rfl e0 (by kernel_rfl) ?_)
  exact h.step_const 16 rfl (Below.refl _ _)

set_option maxRecDepth 100000 in
theorem fst18 : StepAt 18 := fun b w0 Q L a w hd hL h => by
  have e0 : a.eval (.tmp 20) = .func (.func 40) #[] #[] := h.const 13 rfl (hd 14 (by kernel_rfl))
  have e1 : a.eval (.tmp 23) = .pointer (some ⟨b, 6, none⟩) := h.const 16 rfl (hd 17 (by kernel_rfl))
  refine wpOp_of rfl rfl (w_call (s := 24) rfl rfl e0 e1 (by kernel_rfl) (name_any _ _) ?_)
  intro w' hb
  exact h.step_const 17 rfl hb

set_option maxRecDepth 100000 in
theorem fst19 : StepAt 19 := fun b w0 Q L a w hd hL h => by
  have e0 := h.s4
  refine wpOp_of rfl rfl (w_move (s := 25) (v := (.func (.func 40) #[] #[])) rfl rfl e0 ?_)
  exact h.step_const 18 rfl (Below.refl _ _)

set_option maxRecDepth 100000 in
theorem fst20 : StepAt 20 := fun b w0 Q L a w hd hL h => by
  have e0 := h.s0
  refine wpOp_of rfl rfl (w_move (s := 26) (v := (.pointer (some ⟨b, 0, none⟩))) rfl rfl e0 ?_)
  exact h.step_const 19 rfl (Below.refl _ _)

set_option maxRecDepth 100000 in
theorem fst21 : StepAt 21 := fun b w0 Q L a w hd hL h => by
  have e0 : a.eval (.tmp 26) = .pointer (some ⟨b, 0, none⟩) := h.const 19 rfl (hd 20 (by kernel_rfl))
  refine wpOp_of rfl rfl (w_nil (s := 27) rfl rfl e0 ?_)
  exact h.step_const 20 rfl (Below.refl _ _)

set_option maxRecDepth 100000 in
theorem fst22 : StepAt 22 := fun b w0 Q L a w hd hL h => by
  have e0 : a.eval (.tmp 27) = .pointer (some ⟨b, 0, none⟩) := h.const 20 rfl (hd 21 (by kernel_rfl))
  refine wpOp_of rfl rfl (w_field (s := 28) (v := (.pointer (some ⟨b, 7, none⟩))) rfl rfl e0 (by kernel_rfl) ?_)
  exact h.step_const 21 rfl (Below.refl _ _)

set_option maxRecDepth 100000 in
theorem fst23 : StepAt 23 := fun b w0 Q L a w hd hL h => by
  have e0 : a.eval (.tmp 25) = .func (.func 40) #[] #[] := h.const 18 rfl (hd 19 (by kernel_rfl))
  have e1 : a.eval (.tmp 28) = .pointer (some ⟨b, 7, none⟩) := h.const 21 rfl (hd 22 (by kernel_rfl))
  refine wpOp_of rfl rfl (w_call (s := 29) rfl rfl e0 e1 (by kernel_rfl) (name_any _ _) ?_)
  intro w' hb
  exact h.step_const 22 rfl hb

set_option maxRecDepth 100000 in
theorem fst24 : StepAt 24 := fun b w0 Q L a w hd hL h => by
  have e0 := h.s4
  refine wpOp_of rfl rfl (w_move (s := 30) (v := (.func (.func 40) #[] #[])) rfl rfl e0 ?_)
  exact h.step_const 23 rfl (Below.refl _ _)

set_option maxRecDepth 100000 in
theorem fst25 : StepAt 25 := fun b w0 Q L a w hd hL h => by
  have e0 := h.s0
  refine wpOp_of rfl rfl (w_move (s := 31) (v := (.pointer (some ⟨b, 0, none⟩))) rfl rfl e0 ?_)
  exact h.step_const 24 rfl (Below.refl _ _)

set_option maxRecDepth 100000 in
theorem fst26 : StepAt 26 := fun b w0 Q L a w hd hL h => by
  have e0 : a.eval (.tmp 31) = .pointer (some ⟨b, 0, none⟩) := h.const 24 rfl (hd 25 (by kernel_rfl))
  refine wpOp_of rfl rfl (w_nil (s := 32) rfl rfl e0 ?_)
  exact h.step_const 25 rfl (Below.refl _ _)

set_option maxRecDepth 100000 in
theorem fst27 : StepAt 27 := fun b w0 Q L a w hd hL h => by
  have e0 : a.eval (.tmp 32) = .pointer (some ⟨b, 0, none⟩) := h.const 25 rfl (hd 26 (by kernel_rfl))
  refine wpOp_of rfl rfl (w_field (s := 33) (v := (.pointer (some ⟨b, 8, none⟩))) rfl rfl e0 (by kernel_rfl) ?_)
  exact h.step_const 26 rfl (Below.refl _ _)

set_option maxRecDepth 100000 in
theorem fst28 : StepAt 28 := fun b w0 Q L a w hd hL h => by
  have e0 : a.eval (.tmp 30) = .func (.func 40) #[] #[] := h.const 23 rfl (hd 24 (by kernel_rfl))
  have e1 : a.eval (.tmp 33) = .pointer (some ⟨b, 8, none⟩) := h.const 26 rfl (hd 27 (by kernel_rfl))
  refine wpOp_of rfl rfl (w_call (s := 34) rfl rfl e0 e1 (by kernel_rfl) (name_any _ _) ?_)
  intro w' hb
  exact h.step_const 27 rfl hb

set_option maxRecDepth 100000 in
theorem fst29 : StepAt 29 := fun b w0 Q L a w hd hL h => by
  have e0 := h.s4
  refine wpOp_of rfl rfl (w_move (s := 35) (v := (.func (.func 40) #[] #[])) rfl rfl e0 ?_)
  exact h.step_const 28 rfl (Below.refl _ _)

set_option maxRecDepth 100000 in
theorem fst30 : StepAt 30 := fun b w0 Q L a w hd hL h => by
  have e0 := h.s0
  refine wpOp_of rfl rfl (w_move (s := 36) (v := (.pointer (some ⟨b, 0, none⟩))) rfl rfl e0 ?_)
  exact h.step_const 29 rfl (Below.refl _ _)

set_option maxRecDepth 100000 in
theorem fst31 : StepAt 31 := fun b w0 Q L a w hd hL h => by
  have e0 : a.eval (.tmp 36) = .pointer (some ⟨b, 0, none⟩) := h.const 29 rfl (hd 30 (by kernel_rfl))
  refine wpOp_of rfl rfl (w_nil (s := 37) rfl rfl e0 ?_)
  exact h.step_const 30 rfl (Below.refl _ _)

set_option maxRecDepth 100000 in
theorem fst32 : StepAt 32 := fun b w0 Q L a w hd hL h => by
  have e0 : a.eval (.tmp 37) = .pointer (some ⟨b, 0, none⟩) := h.const 30 rfl (hd 31 (by kernel_rfl))
  refine wpOp_of rfl rfl (w_field (s := 38) (v := (.pointer (some ⟨b, 9, none⟩))) rfl rfl e0 (by kernel_rfl) ?_)
  exact h.step_const 31 rfl (Below.refl _ _)

set_option maxRecDepth 100000 in
theorem fst33 : StepAt 33 := fun b w0 Q L a w hd hL h => by
  have e0 : a.eval (.tmp 35) = .func (.func 40) #[] #[] := h.const 28 rfl (hd 29 (by kernel_rfl))
  have e1 : a.eval (.tmp 38) = .pointer (some ⟨b, 9, none⟩) := h.const 31 rfl (hd 32 (by kernel_rfl))
  refine wpOp_of rfl rfl (w_call (s := 39) rfl rfl e0 e1 (by kernel_rfl) (name_any _ _) ?_)
  intro w' hb
  exact h.step_const 32 rfl hb

set_option maxRecDepth 100000 in
theorem fst34 : StepAt 34 := fun b w0 Q L a w hd hL h => by
  have e0 := h.s4
  refine wpOp_of rfl rfl (w_move (s := 40) (v := (.func (.func 40) #[] #[])) rfl rfl e0 ?_)
  exact h.step_const 33 rfl (Below.refl _ _)

set_option maxRecDepth 100000 in
theorem fst35 : StepAt 35 := fun b w0 Q L a w hd hL h => by
  have e0 := h.s0
  refine wpOp_of rfl rfl (w_move (s := 41) (v := (.pointer (some ⟨b, 0, none⟩))) rfl rfl e0 ?_)
  exact h.step_const 34 rfl (Below.refl _ _)

set_option maxRecDepth 100000 in
theorem fst36 : StepAt 36 := fun b w0 Q L a w hd hL h => by
  have e0 : a.eval (.tmp 41) = .pointer (some ⟨b, 0, none⟩) := h.const 34 rfl (hd 35 (by kernel_rfl))
  refine wpOp_of rfl rfl (w_nil (s := 42) rfl rfl e0 ?_)
  exact h.step_const 35 rfl (Below.refl _ _)

set_option maxRecDepth 100000 in
theorem fst37 : StepAt 37 := fun b w0 Q L a w hd hL h => by
  have e0 : a.eval (.tmp 42) = .pointer (some ⟨b, 0, none⟩) := h.const 35 rfl (hd 36 (by kernel_rfl))
  refine wpOp_of rfl rfl (w_field (s := 43) (v := (.pointer (some ⟨b, 10, none⟩))) rfl rfl e0 (by kernel_rfl) ?_)
  exact h.step_const 36 rfl (Below.refl _ _)

set_option maxRecDepth 100000 in
theorem fst38 : StepAt 38 := fun b w0 Q L a w hd hL h => by
  have e0 : a.eval (.tmp 40) = .func (.func 40) #[] #[] := h.const 33 rfl (hd 34 (by kernel_rfl))
  have e1 : a.eval (.tmp 43) = .pointer (some ⟨b, 10, none⟩) := h.const 36 rfl (hd 37 (by kernel_rfl))
  refine wpOp_of rfl rfl (w_call (s := 44) rfl rfl e0 e1 (by kernel_rfl) (name_any _ _) ?_)
  intro w' hb
  exact h.step_const 37 rfl hb

set_option maxRecDepth 100000 in
theorem fst39 : StepAt 39 := fun b w0 Q L a w hd hL h => by
  have e0 : a.eval (.tmp 11) = .agg #[.int .u64 1, .int .u64 4294967296, .pointer (some ⟨b, 1, none⟩), .pointer none, .pointer none] := h.const 4 rfl (hd 5 (by kernel_rfl))
  have e1 : a.eval (.tmp 15) = .agg #[.int .u64 0, .int .u64 0, .pointer none, .pointer none, .pointer (some ⟨b, 3, none⟩)] := h.const 8 rfl (hd 9 (by kernel_rfl))
  have e2 : a.eval (.tmp 19) = .agg #[.int .u64 0, .int .u64 1, .pointer none, .pointer (some ⟨b, 4, none⟩), .pointer none] := h.const 12 rfl (hd 13 (by kernel_rfl))
  have e3 : a.eval (.tmp 24) = .agg #[.int .u64 1, .int .u64 1048576, .pointer none, .pointer (some ⟨b, 6, none⟩), .pointer none] := h.const 17 rfl (hd 18 (by kernel_rfl))
  have e4 : a.eval (.tmp 29) = .agg #[.int .u64 1, .int .u64 1048576, .pointer none, .pointer (some ⟨b, 7, none⟩), .pointer none] := h.const 22 rfl (hd 23 (by kernel_rfl))
  have e5 : a.eval (.tmp 34) = .agg #[.int .u64 1, .int .u64 1048576, .pointer none, .pointer (some ⟨b, 8, none⟩), .pointer none] := h.const 27 rfl (hd 28 (by kernel_rfl))
  have e6 : a.eval (.tmp 39) = .agg #[.int .u64 1, .int .u64 1048576, .pointer none, .pointer (some ⟨b, 9, none⟩), .pointer none] := h.const 32 rfl (hd 33 (by kernel_rfl))
  have e7 : a.eval (.tmp 44) = .agg #[.int .u64 1, .int .u64 1048576, .pointer none, .pointer (some ⟨b, 10, none⟩), .pointer none] := h.const 37 rfl (hd 38 (by kernel_rfl))
  refine wpOp_of rfl rfl (w_slice (s := 45) (v := .slice (some ⟨w.heap.size, 0, none⟩) 8 8) (w' := w.alloc (.cells (rowC b Sough.flds1) 60)) rfl rfl (by simp only [List.map_toArray, List.map_cons, List.map_nil, e0, e1, e2, e3, e4, e5, e6, e7]; kernel_rfl) ?_)
  exact st_slice h (x := (39, 45, Sough.flds1)) (by simp [fslices]) hL

set_option maxRecDepth 100000 in
theorem fst40 : StepAt 40 := fun b w0 Q L a w hd hL h => by
  obtain ⟨mb, D, k1, _⟩ := h.map (hd 0 (by kernel_rfl))
  obtain ⟨w', hrun, hI⟩ := st_insert h (x := (40, 1, 45)) (by simp [fins]) hL (hd 0 (by kernel_rfl)) (fun y hy e => by
    have := eq_of_slot (l := fslices) (x := y) (y := (39, 45, Sough.flds1)) (by decide) hy (by simp [fslices]) e
    rw [this]; exact hd 39 (by kernel_rfl)) k1
  exact wpOp_of rfl rfl (w_insert rfl rfl k1 rfl rfl hrun hI)

set_option maxRecDepth 100000 in
theorem fst41 : StepAt 41 := fun b w0 Q L a w hd hL h => by
  have e0 := h.s3
  refine wpOp_of rfl rfl (w_move (s := 46) (v := (.func (.func 39) #[] #[])) rfl rfl e0 ?_)
  exact h.step_const 38 rfl (Below.refl _ _)

set_option maxRecDepth 100000 in
theorem fst42 : StepAt 42 := fun b w0 Q L a w hd hL h => by
  have e0 := h.s0
  refine wpOp_of rfl rfl (w_move (s := 47) (v := (.pointer (some ⟨b, 0, none⟩))) rfl rfl e0 ?_)
  exact h.step_const 39 rfl (Below.refl _ _)

set_option maxRecDepth 100000 in
theorem fst43 : StepAt 43 := fun b w0 Q L a w hd hL h => by
  have e0 : a.eval (.tmp 47) = .pointer (some ⟨b, 0, none⟩) := h.const 39 rfl (hd 42 (by kernel_rfl))
  refine wpOp_of rfl rfl (w_nil (s := 48) rfl rfl e0 ?_)
  exact h.step_const 40 rfl (Below.refl _ _)

set_option maxRecDepth 100000 in
theorem fst44 : StepAt 44 := fun b w0 Q L a w hd hL h => by
  have e0 : a.eval (.tmp 48) = .pointer (some ⟨b, 0, none⟩) := h.const 40 rfl (hd 43 (by kernel_rfl))
  refine wpOp_of rfl rfl (w_field (s := 49) (v := (.pointer (some ⟨b, 1, none⟩))) rfl rfl e0 (by kernel_rfl) ?_)
  exact h.step_const 41 rfl (Below.refl _ _)

set_option maxRecDepth 100000 in
theorem fst45 : StepAt 45 := fun b w0 Q L a w hd hL h => by
  have e0 : a.eval (.tmp 46) = .func (.func 39) #[] #[] := h.const 38 rfl (hd 41 (by kernel_rfl))
  have e1 : a.eval (.tmp 49) = .pointer (some ⟨b, 1, none⟩) := h.const 41 rfl (hd 44 (by kernel_rfl))
  refine wpOp_of rfl rfl (w_call (s := 50) rfl rfl e0 e1 (by kernel_rfl) (number_any _ _) ?_)
  intro w' hb
  exact h.step_const 42 rfl hb

set_option maxRecDepth 100000 in
theorem fst46 : StepAt 46 := fun b w0 Q L a w hd hL h => by
  have e0 := h.s3
  refine wpOp_of rfl rfl (w_move (s := 51) (v := (.func (.func 39) #[] #[])) rfl rfl e0 ?_)
  exact h.step_const 43 rfl (Below.refl _ _)

set_option maxRecDepth 100000 in
theorem fst47 : StepAt 47 := fun b w0 Q L a w hd hL h => by
  have e0 := h.s0
  refine wpOp_of rfl rfl (w_move (s := 52) (v := (.pointer (some ⟨b, 0, none⟩))) rfl rfl e0 ?_)
  exact h.step_const 44 rfl (Below.refl _ _)

set_option maxRecDepth 100000 in
theorem fst48 : StepAt 48 := fun b w0 Q L a w hd hL h => by
  have e0 : a.eval (.tmp 52) = .pointer (some ⟨b, 0, none⟩) := h.const 44 rfl (hd 47 (by kernel_rfl))
  refine wpOp_of rfl rfl (w_nil (s := 53) rfl rfl e0 ?_)
  exact h.step_const 45 rfl (Below.refl _ _)

set_option maxRecDepth 100000 in
theorem fst49 : StepAt 49 := fun b w0 Q L a w hd hL h => by
  have e0 : a.eval (.tmp 53) = .pointer (some ⟨b, 0, none⟩) := h.const 45 rfl (hd 48 (by kernel_rfl))
  refine wpOp_of rfl rfl (w_field (s := 54) (v := (.pointer (some ⟨b, 2, none⟩))) rfl rfl e0 (by kernel_rfl) ?_)
  exact h.step_const 46 rfl (Below.refl _ _)

set_option maxRecDepth 100000 in
theorem fst50 : StepAt 50 := fun b w0 Q L a w hd hL h => by
  have e0 : a.eval (.tmp 51) = .func (.func 39) #[] #[] := h.const 43 rfl (hd 46 (by kernel_rfl))
  have e1 : a.eval (.tmp 54) = .pointer (some ⟨b, 2, none⟩) := h.const 46 rfl (hd 49 (by kernel_rfl))
  refine wpOp_of rfl rfl (w_call (s := 55) rfl rfl e0 e1 (by kernel_rfl) (number_any _ _) ?_)
  intro w' hb
  exact h.step_const 47 rfl hb

set_option maxRecDepth 100000 in
theorem fst51 : StepAt 51 := fun b w0 Q L a w hd hL h => by
  have e0 := h.s4
  refine wpOp_of rfl rfl (w_move (s := 56) (v := (.func (.func 40) #[] #[])) rfl rfl e0 ?_)
  exact h.step_const 48 rfl (Below.refl _ _)

set_option maxRecDepth 100000 in
theorem fst52 : StepAt 52 := fun b w0 Q L a w hd hL h => by
  have e0 := h.s0
  refine wpOp_of rfl rfl (w_move (s := 57) (v := (.pointer (some ⟨b, 0, none⟩))) rfl rfl e0 ?_)
  exact h.step_const 49 rfl (Below.refl _ _)

set_option maxRecDepth 100000 in
theorem fst53 : StepAt 53 := fun b w0 Q L a w hd hL h => by
  have e0 : a.eval (.tmp 57) = .pointer (some ⟨b, 0, none⟩) := h.const 49 rfl (hd 52 (by kernel_rfl))
  refine wpOp_of rfl rfl (w_nil (s := 58) rfl rfl e0 ?_)
  exact h.step_const 50 rfl (Below.refl _ _)

set_option maxRecDepth 100000 in
theorem fst54 : StepAt 54 := fun b w0 Q L a w hd hL h => by
  have e0 : a.eval (.tmp 58) = .pointer (some ⟨b, 0, none⟩) := h.const 50 rfl (hd 53 (by kernel_rfl))
  refine wpOp_of rfl rfl (w_field (s := 59) (v := (.pointer (some ⟨b, 6, none⟩))) rfl rfl e0 (by kernel_rfl) ?_)
  exact h.step_const 51 rfl (Below.refl _ _)

set_option maxRecDepth 100000 in
theorem fst55 : StepAt 55 := fun b w0 Q L a w hd hL h => by
  have e0 : a.eval (.tmp 56) = .func (.func 40) #[] #[] := h.const 48 rfl (hd 51 (by kernel_rfl))
  have e1 : a.eval (.tmp 59) = .pointer (some ⟨b, 6, none⟩) := h.const 51 rfl (hd 54 (by kernel_rfl))
  refine wpOp_of rfl rfl (w_call (s := 60) rfl rfl e0 e1 (by kernel_rfl) (name_any _ _) ?_)
  intro w' hb
  exact h.step_const 52 rfl hb

set_option maxRecDepth 100000 in
theorem fst56 : StepAt 56 := fun b w0 Q L a w hd hL h => by
  have e0 := h.s4
  refine wpOp_of rfl rfl (w_move (s := 61) (v := (.func (.func 40) #[] #[])) rfl rfl e0 ?_)
  exact h.step_const 53 rfl (Below.refl _ _)

set_option maxRecDepth 100000 in
theorem fst57 : StepAt 57 := fun b w0 Q L a w hd hL h => by
  have e0 := h.s0
  refine wpOp_of rfl rfl (w_move (s := 62) (v := (.pointer (some ⟨b, 0, none⟩))) rfl rfl e0 ?_)
  exact h.step_const 54 rfl (Below.refl _ _)

set_option maxRecDepth 100000 in
theorem fst58 : StepAt 58 := fun b w0 Q L a w hd hL h => by
  have e0 : a.eval (.tmp 62) = .pointer (some ⟨b, 0, none⟩) := h.const 54 rfl (hd 57 (by kernel_rfl))
  refine wpOp_of rfl rfl (w_nil (s := 63) rfl rfl e0 ?_)
  exact h.step_const 55 rfl (Below.refl _ _)

set_option maxRecDepth 100000 in
theorem fst59 : StepAt 59 := fun b w0 Q L a w hd hL h => by
  have e0 : a.eval (.tmp 63) = .pointer (some ⟨b, 0, none⟩) := h.const 55 rfl (hd 58 (by kernel_rfl))
  refine wpOp_of rfl rfl (w_field (s := 64) (v := (.pointer (some ⟨b, 8, none⟩))) rfl rfl e0 (by kernel_rfl) ?_)
  exact h.step_const 56 rfl (Below.refl _ _)

set_option maxRecDepth 100000 in
theorem fst60 : StepAt 60 := fun b w0 Q L a w hd hL h => by
  have e0 : a.eval (.tmp 61) = .func (.func 40) #[] #[] := h.const 53 rfl (hd 56 (by kernel_rfl))
  have e1 : a.eval (.tmp 64) = .pointer (some ⟨b, 8, none⟩) := h.const 56 rfl (hd 59 (by kernel_rfl))
  refine wpOp_of rfl rfl (w_call (s := 65) rfl rfl e0 e1 (by kernel_rfl) (name_any _ _) ?_)
  intro w' hb
  exact h.step_const 57 rfl hb

set_option maxRecDepth 100000 in
theorem fst61 : StepAt 61 := fun b w0 Q L a w hd hL h => by
  have e0 := h.s4
  refine wpOp_of rfl rfl (w_move (s := 66) (v := (.func (.func 40) #[] #[])) rfl rfl e0 ?_)
  exact h.step_const 58 rfl (Below.refl _ _)

set_option maxRecDepth 100000 in
theorem fst62 : StepAt 62 := fun b w0 Q L a w hd hL h => by
  have e0 := h.s0
  refine wpOp_of rfl rfl (w_move (s := 67) (v := (.pointer (some ⟨b, 0, none⟩))) rfl rfl e0 ?_)
  exact h.step_const 59 rfl (Below.refl _ _)

set_option maxRecDepth 100000 in
theorem fst63 : StepAt 63 := fun b w0 Q L a w hd hL h => by
  have e0 : a.eval (.tmp 67) = .pointer (some ⟨b, 0, none⟩) := h.const 59 rfl (hd 62 (by kernel_rfl))
  refine wpOp_of rfl rfl (w_nil (s := 68) rfl rfl e0 ?_)
  exact h.step_const 60 rfl (Below.refl _ _)

set_option maxRecDepth 100000 in
theorem fst64 : StepAt 64 := fun b w0 Q L a w hd hL h => by
  have e0 : a.eval (.tmp 68) = .pointer (some ⟨b, 0, none⟩) := h.const 60 rfl (hd 63 (by kernel_rfl))
  refine wpOp_of rfl rfl (w_field (s := 69) (v := (.pointer (some ⟨b, 9, none⟩))) rfl rfl e0 (by kernel_rfl) ?_)
  exact h.step_const 61 rfl (Below.refl _ _)

set_option maxRecDepth 100000 in
theorem fst65 : StepAt 65 := fun b w0 Q L a w hd hL h => by
  have e0 : a.eval (.tmp 66) = .func (.func 40) #[] #[] := h.const 58 rfl (hd 61 (by kernel_rfl))
  have e1 : a.eval (.tmp 69) = .pointer (some ⟨b, 9, none⟩) := h.const 61 rfl (hd 64 (by kernel_rfl))
  refine wpOp_of rfl rfl (w_call (s := 70) rfl rfl e0 e1 (by kernel_rfl) (name_any _ _) ?_)
  intro w' hb
  exact h.step_const 62 rfl hb

set_option maxRecDepth 100000 in
theorem fst66 : StepAt 66 := fun b w0 Q L a w hd hL h => by
  have e0 : a.eval (.tmp 50) = .agg #[.int .u64 1, .int .u64 4294967296, .pointer (some ⟨b, 1, none⟩), .pointer none, .pointer none] := h.const 42 rfl (hd 45 (by kernel_rfl))
  have e1 : a.eval (.tmp 55) = .agg #[.int .u64 1, .int .u64 4294967296, .pointer (some ⟨b, 2, none⟩), .pointer none, .pointer none] := h.const 47 rfl (hd 50 (by kernel_rfl))
  have e2 : a.eval (.tmp 60) = .agg #[.int .u64 1, .int .u64 1048576, .pointer none, .pointer (some ⟨b, 6, none⟩), .pointer none] := h.const 52 rfl (hd 55 (by kernel_rfl))
  have e3 : a.eval (.tmp 65) = .agg #[.int .u64 1, .int .u64 1048576, .pointer none, .pointer (some ⟨b, 8, none⟩), .pointer none] := h.const 57 rfl (hd 60 (by kernel_rfl))
  have e4 : a.eval (.tmp 70) = .agg #[.int .u64 1, .int .u64 1048576, .pointer none, .pointer (some ⟨b, 9, none⟩), .pointer none] := h.const 62 rfl (hd 65 (by kernel_rfl))
  refine wpOp_of rfl rfl (w_slice (s := 71) (v := .slice (some ⟨w.heap.size, 0, none⟩) 5 5) (w' := w.alloc (.cells (rowC b Sough.flds2) 60)) rfl rfl (by simp only [List.map_toArray, List.map_cons, List.map_nil, e0, e1, e2, e3, e4]; kernel_rfl) ?_)
  exact st_slice h (x := (66, 71, Sough.flds2)) (by simp [fslices]) hL

set_option maxRecDepth 100000 in
theorem fst67 : StepAt 67 := fun b w0 Q L a w hd hL h => by
  obtain ⟨mb, D, k1, _⟩ := h.map (hd 0 (by kernel_rfl))
  obtain ⟨w', hrun, hI⟩ := st_insert h (x := (67, 2, 71)) (by simp [fins]) hL (hd 0 (by kernel_rfl)) (fun y hy e => by
    have := eq_of_slot (l := fslices) (x := y) (y := (66, 71, Sough.flds2)) (by decide) hy (by simp [fslices]) e
    rw [this]; exact hd 66 (by kernel_rfl)) k1
  exact wpOp_of rfl rfl (w_insert rfl rfl k1 rfl rfl hrun hI)

set_option maxRecDepth 100000 in
theorem fst68 : StepAt 68 := fun b w0 Q L a w hd hL h => by
  have e0 := h.s3
  refine wpOp_of rfl rfl (w_move (s := 72) (v := (.func (.func 39) #[] #[])) rfl rfl e0 ?_)
  exact h.step_const 63 rfl (Below.refl _ _)

set_option maxRecDepth 100000 in
theorem fst69 : StepAt 69 := fun b w0 Q L a w hd hL h => by
  have e0 := h.s0
  refine wpOp_of rfl rfl (w_move (s := 73) (v := (.pointer (some ⟨b, 0, none⟩))) rfl rfl e0 ?_)
  exact h.step_const 64 rfl (Below.refl _ _)

set_option maxRecDepth 100000 in
theorem fst70 : StepAt 70 := fun b w0 Q L a w hd hL h => by
  have e0 : a.eval (.tmp 73) = .pointer (some ⟨b, 0, none⟩) := h.const 64 rfl (hd 69 (by kernel_rfl))
  refine wpOp_of rfl rfl (w_nil (s := 74) rfl rfl e0 ?_)
  exact h.step_const 65 rfl (Below.refl _ _)

set_option maxRecDepth 100000 in
theorem fst71 : StepAt 71 := fun b w0 Q L a w hd hL h => by
  have e0 : a.eval (.tmp 74) = .pointer (some ⟨b, 0, none⟩) := h.const 65 rfl (hd 70 (by kernel_rfl))
  refine wpOp_of rfl rfl (w_field (s := 75) (v := (.pointer (some ⟨b, 2, none⟩))) rfl rfl e0 (by kernel_rfl) ?_)
  exact h.step_const 66 rfl (Below.refl _ _)

set_option maxRecDepth 100000 in
theorem fst72 : StepAt 72 := fun b w0 Q L a w hd hL h => by
  have e0 : a.eval (.tmp 72) = .func (.func 39) #[] #[] := h.const 63 rfl (hd 68 (by kernel_rfl))
  have e1 : a.eval (.tmp 75) = .pointer (some ⟨b, 2, none⟩) := h.const 66 rfl (hd 71 (by kernel_rfl))
  refine wpOp_of rfl rfl (w_call (s := 76) rfl rfl e0 e1 (by kernel_rfl) (number_any _ _) ?_)
  intro w' hb
  exact h.step_const 67 rfl hb

set_option maxRecDepth 100000 in
theorem fst73 : StepAt 73 := fun b w0 Q L a w hd hL h => by
  have e0 := h.s0
  refine wpOp_of rfl rfl (w_move (s := 77) (v := (.pointer (some ⟨b, 0, none⟩))) rfl rfl e0 ?_)
  exact h.step_const 68 rfl (Below.refl _ _)

set_option maxRecDepth 100000 in
theorem fst74 : StepAt 74 := fun b w0 Q L a w hd hL h => by
  have e0 : a.eval (.tmp 77) = .pointer (some ⟨b, 0, none⟩) := h.const 68 rfl (hd 73 (by kernel_rfl))
  refine wpOp_of rfl rfl (w_nil (s := 78) rfl rfl e0 ?_)
  exact h.step_const 69 rfl (Below.refl _ _)

set_option maxRecDepth 100000 in
theorem fst75 : StepAt 75 := fun b w0 Q L a w hd hL h => by
  have e0 : a.eval (.tmp 78) = .pointer (some ⟨b, 0, none⟩) := h.const 69 rfl (hd 74 (by kernel_rfl))
  refine wpOp_of rfl rfl (w_field (s := 79) (v := (.pointer (some ⟨b, 5, none⟩))) rfl rfl e0 (by kernel_rfl) ?_)
  exact h.step_const 70 rfl (Below.refl _ _)

set_option maxRecDepth 100000 in
theorem fst76 : StepAt 76 := fun b w0 Q L a w hd hL h => by
  have e0 : a.eval (.tmp 79) = .pointer (some ⟨b, 5, none⟩) := h.const 70 rfl (hd 75 (by kernel_rfl))
  refine wpOp_of rfl rfl (w_build (s := 80) (v := (.agg #[.int .u64 1, .int .u64 15, .pointer none, .pointer (some ⟨b, 5, none⟩), .pointer none])) rfl rfl (by simp only [List.map_toArray, List.map_cons, List.map_nil, e0]; kernel_rfl) ?_)
  exact h.step_const 71 rfl (Below.refl _ _)

set_option maxRecDepth 100000 in
theorem fst77 : StepAt 77 := fun b w0 Q L a w hd hL h => by
  have e0 : a.eval (.tmp 76) = .agg #[.int .u64 1, .int .u64 4294967296, .pointer (some ⟨b, 2, none⟩), .pointer none, .pointer none] := h.const 67 rfl (hd 72 (by kernel_rfl))
  have e1 : a.eval (.tmp 80) = .agg #[.int .u64 1, .int .u64 15, .pointer none, .pointer (some ⟨b, 5, none⟩), .pointer none] := h.const 71 rfl (hd 76 (by kernel_rfl))
  refine wpOp_of rfl rfl (w_slice (s := 81) (v := .slice (some ⟨w.heap.size, 0, none⟩) 2 2) (w' := w.alloc (.cells (rowC b Sough.flds3) 60)) rfl rfl (by simp only [List.map_toArray, List.map_cons, List.map_nil, e0, e1]; kernel_rfl) ?_)
  exact st_slice h (x := (77, 81, Sough.flds3)) (by simp [fslices]) hL

set_option maxRecDepth 100000 in
theorem fst78 : StepAt 78 := fun b w0 Q L a w hd hL h => by
  obtain ⟨mb, D, k1, _⟩ := h.map (hd 0 (by kernel_rfl))
  obtain ⟨w', hrun, hI⟩ := st_insert h (x := (78, 3, 81)) (by simp [fins]) hL (hd 0 (by kernel_rfl)) (fun y hy e => by
    have := eq_of_slot (l := fslices) (x := y) (y := (77, 81, Sough.flds3)) (by decide) hy (by simp [fslices]) e
    rw [this]; exact hd 77 (by kernel_rfl)) k1
  exact wpOp_of rfl rfl (w_insert rfl rfl k1 rfl rfl hrun hI)

set_option maxRecDepth 100000 in
theorem fst79 : StepAt 79 := fun b w0 Q L a w hd hL h => by
  have e0 := h.s3
  refine wpOp_of rfl rfl (w_move (s := 82) (v := (.func (.func 39) #[] #[])) rfl rfl e0 ?_)
  exact h.step_const 72 rfl (Below.refl _ _)

set_option maxRecDepth 100000 in
theorem fst80 : StepAt 80 := fun b w0 Q L a w hd hL h => by
  have e0 := h.s0
  refine wpOp_of rfl rfl (w_move (s := 83) (v := (.pointer (some ⟨b, 0, none⟩))) rfl rfl e0 ?_)
  exact h.step_const 73 rfl (Below.refl _ _)

set_option maxRecDepth 100000 in
theorem fst81 : StepAt 81 := fun b w0 Q L a w hd hL h => by
  have e0 : a.eval (.tmp 83) = .pointer (some ⟨b, 0, none⟩) := h.const 73 rfl (hd 80 (by kernel_rfl))
  refine wpOp_of rfl rfl (w_nil (s := 84) rfl rfl e0 ?_)
  exact h.step_const 74 rfl (Below.refl _ _)

set_option maxRecDepth 100000 in
theorem fst82 : StepAt 82 := fun b w0 Q L a w hd hL h => by
  have e0 : a.eval (.tmp 84) = .pointer (some ⟨b, 0, none⟩) := h.const 74 rfl (hd 81 (by kernel_rfl))
  refine wpOp_of rfl rfl (w_field (s := 85) (v := (.pointer (some ⟨b, 2, none⟩))) rfl rfl e0 (by kernel_rfl) ?_)
  exact h.step_const 75 rfl (Below.refl _ _)

set_option maxRecDepth 100000 in
theorem fst83 : StepAt 83 := fun b w0 Q L a w hd hL h => by
  have e0 : a.eval (.tmp 82) = .func (.func 39) #[] #[] := h.const 72 rfl (hd 79 (by kernel_rfl))
  have e1 : a.eval (.tmp 85) = .pointer (some ⟨b, 2, none⟩) := h.const 75 rfl (hd 82 (by kernel_rfl))
  refine wpOp_of rfl rfl (w_call (s := 86) rfl rfl e0 e1 (by kernel_rfl) (number_any _ _) ?_)
  intro w' hb
  exact h.step_const 76 rfl hb

set_option maxRecDepth 100000 in
theorem fst84 : StepAt 84 := fun b w0 Q L a w hd hL h => by
  have e0 := h.s0
  refine wpOp_of rfl rfl (w_move (s := 87) (v := (.pointer (some ⟨b, 0, none⟩))) rfl rfl e0 ?_)
  exact h.step_const 77 rfl (Below.refl _ _)

set_option maxRecDepth 100000 in
theorem fst85 : StepAt 85 := fun b w0 Q L a w hd hL h => by
  have e0 : a.eval (.tmp 87) = .pointer (some ⟨b, 0, none⟩) := h.const 77 rfl (hd 84 (by kernel_rfl))
  refine wpOp_of rfl rfl (w_nil (s := 88) rfl rfl e0 ?_)
  exact h.step_const 78 rfl (Below.refl _ _)

set_option maxRecDepth 100000 in
theorem fst86 : StepAt 86 := fun b w0 Q L a w hd hL h => by
  have e0 : a.eval (.tmp 88) = .pointer (some ⟨b, 0, none⟩) := h.const 78 rfl (hd 85 (by kernel_rfl))
  refine wpOp_of rfl rfl (w_field (s := 89) (v := (.pointer (some ⟨b, 11, none⟩))) rfl rfl e0 (by kernel_rfl) ?_)
  exact h.step_const 79 rfl (Below.refl _ _)

set_option maxRecDepth 100000 in
theorem fst87 : StepAt 87 := fun b w0 Q L a w hd hL h => by
  have e0 : a.eval (.tmp 89) = .pointer (some ⟨b, 11, none⟩) := h.const 79 rfl (hd 86 (by kernel_rfl))
  refine wpOp_of rfl rfl (w_build (s := 90) (v := (.agg #[.int .u64 0, .int .u64 1000, .pointer (some ⟨b, 11, none⟩), .pointer none, .pointer none])) rfl rfl (by simp only [List.map_toArray, List.map_cons, List.map_nil, e0]; kernel_rfl) ?_)
  exact h.step_const 80 rfl (Below.refl _ _)

set_option maxRecDepth 100000 in
theorem fst88 : StepAt 88 := fun b w0 Q L a w hd hL h => by
  have e0 := h.s0
  refine wpOp_of rfl rfl (w_move (s := 91) (v := (.pointer (some ⟨b, 0, none⟩))) rfl rfl e0 ?_)
  exact h.step_const 81 rfl (Below.refl _ _)

set_option maxRecDepth 100000 in
theorem fst89 : StepAt 89 := fun b w0 Q L a w hd hL h => by
  have e0 : a.eval (.tmp 91) = .pointer (some ⟨b, 0, none⟩) := h.const 81 rfl (hd 88 (by kernel_rfl))
  refine wpOp_of rfl rfl (w_nil (s := 92) rfl rfl e0 ?_)
  exact h.step_const 82 rfl (Below.refl _ _)

set_option maxRecDepth 100000 in
theorem fst90 : StepAt 90 := fun b w0 Q L a w hd hL h => by
  have e0 : a.eval (.tmp 92) = .pointer (some ⟨b, 0, none⟩) := h.const 82 rfl (hd 89 (by kernel_rfl))
  refine wpOp_of rfl rfl (w_field (s := 93) (v := (.pointer (some ⟨b, 12, none⟩))) rfl rfl e0 (by kernel_rfl) ?_)
  exact h.step_const 83 rfl (Below.refl _ _)

set_option maxRecDepth 100000 in
theorem fst91 : StepAt 91 := fun b w0 Q L a w hd hL h => by
  have e0 : a.eval (.tmp 93) = .pointer (some ⟨b, 12, none⟩) := h.const 83 rfl (hd 90 (by kernel_rfl))
  refine wpOp_of rfl rfl (w_build (s := 94) (v := (.agg #[.int .u64 0, .int .u64 255, .pointer (some ⟨b, 12, none⟩), .pointer none, .pointer none])) rfl rfl (by simp only [List.map_toArray, List.map_cons, List.map_nil, e0]; kernel_rfl) ?_)
  exact h.step_const 84 rfl (Below.refl _ _)

set_option maxRecDepth 100000 in
theorem fst92 : StepAt 92 := fun b w0 Q L a w hd hL h => by
  have e0 := h.s4
  refine wpOp_of rfl rfl (w_move (s := 95) (v := (.func (.func 40) #[] #[])) rfl rfl e0 ?_)
  exact h.step_const 85 rfl (Below.refl _ _)

set_option maxRecDepth 100000 in
theorem fst93 : StepAt 93 := fun b w0 Q L a w hd hL h => by
  have e0 := h.s0
  refine wpOp_of rfl rfl (w_move (s := 96) (v := (.pointer (some ⟨b, 0, none⟩))) rfl rfl e0 ?_)
  exact h.step_const 86 rfl (Below.refl _ _)

set_option maxRecDepth 100000 in
theorem fst94 : StepAt 94 := fun b w0 Q L a w hd hL h => by
  have e0 : a.eval (.tmp 96) = .pointer (some ⟨b, 0, none⟩) := h.const 86 rfl (hd 93 (by kernel_rfl))
  refine wpOp_of rfl rfl (w_nil (s := 97) rfl rfl e0 ?_)
  exact h.step_const 87 rfl (Below.refl _ _)

set_option maxRecDepth 100000 in
theorem fst95 : StepAt 95 := fun b w0 Q L a w hd hL h => by
  have e0 : a.eval (.tmp 97) = .pointer (some ⟨b, 0, none⟩) := h.const 87 rfl (hd 94 (by kernel_rfl))
  refine wpOp_of rfl rfl (w_field (s := 98) (v := (.pointer (some ⟨b, 9, none⟩))) rfl rfl e0 (by kernel_rfl) ?_)
  exact h.step_const 88 rfl (Below.refl _ _)

set_option maxRecDepth 100000 in
theorem fst96 : StepAt 96 := fun b w0 Q L a w hd hL h => by
  have e0 : a.eval (.tmp 95) = .func (.func 40) #[] #[] := h.const 85 rfl (hd 92 (by kernel_rfl))
  have e1 : a.eval (.tmp 98) = .pointer (some ⟨b, 9, none⟩) := h.const 88 rfl (hd 95 (by kernel_rfl))
  refine wpOp_of rfl rfl (w_call (s := 99) rfl rfl e0 e1 (by kernel_rfl) (name_any _ _) ?_)
  intro w' hb
  exact h.step_const 89 rfl hb

set_option maxRecDepth 100000 in
theorem fst97 : StepAt 97 := fun b w0 Q L a w hd hL h => by
  have e0 : a.eval (.tmp 86) = .agg #[.int .u64 1, .int .u64 4294967296, .pointer (some ⟨b, 2, none⟩), .pointer none, .pointer none] := h.const 76 rfl (hd 83 (by kernel_rfl))
  have e1 : a.eval (.tmp 90) = .agg #[.int .u64 0, .int .u64 1000, .pointer (some ⟨b, 11, none⟩), .pointer none, .pointer none] := h.const 80 rfl (hd 87 (by kernel_rfl))
  have e2 : a.eval (.tmp 94) = .agg #[.int .u64 0, .int .u64 255, .pointer (some ⟨b, 12, none⟩), .pointer none, .pointer none] := h.const 84 rfl (hd 91 (by kernel_rfl))
  have e3 : a.eval (.tmp 99) = .agg #[.int .u64 1, .int .u64 1048576, .pointer none, .pointer (some ⟨b, 9, none⟩), .pointer none] := h.const 89 rfl (hd 96 (by kernel_rfl))
  refine wpOp_of rfl rfl (w_slice (s := 100) (v := .slice (some ⟨w.heap.size, 0, none⟩) 4 4) (w' := w.alloc (.cells (rowC b Sough.flds4) 60)) rfl rfl (by simp only [List.map_toArray, List.map_cons, List.map_nil, e0, e1, e2, e3]; kernel_rfl) ?_)
  exact st_slice h (x := (97, 100, Sough.flds4)) (by simp [fslices]) hL

set_option maxRecDepth 100000 in
theorem fst98 : StepAt 98 := fun b w0 Q L a w hd hL h => by
  obtain ⟨mb, D, k1, _⟩ := h.map (hd 0 (by kernel_rfl))
  obtain ⟨w', hrun, hI⟩ := st_insert h (x := (98, 4, 100)) (by simp [fins]) hL (hd 0 (by kernel_rfl)) (fun y hy e => by
    have := eq_of_slot (l := fslices) (x := y) (y := (97, 100, Sough.flds4)) (by decide) hy (by simp [fslices]) e
    rw [this]; exact hd 97 (by kernel_rfl)) k1
  exact wpOp_of rfl rfl (w_insert rfl rfl k1 rfl rfl hrun hI)

set_option maxRecDepth 100000 in
theorem fst99 : StepAt 99 := fun b w0 Q L a w hd hL h => by
  obtain ⟨mb, D, k1, _⟩ := h.map (hd 0 (by kernel_rfl))
  exact wpOp_of rfl rfl (w_move (s := mvslot) rfl rfl k1 (st_mv h (hd 0 (by kernel_rfl)) k1))

set_option maxRecDepth 100000 in
theorem fst100 : StepAt 100 := fun b w0 Q L a w hd hL h => by
  have h0 : L 0 = true := by
    cases hl : L 0
    · have := h.early hl mvop (by decide); rw [hd mvop (by kernel_rfl)] at this; exact absurd this (by decide)
    · rfl
  obtain ⟨mb, D, k1, k2, k3, k4, k5, k6, k7, k8⟩ := h.map h0
  exact wpOp_of rfl rfl (w_assign (s := asslot) rfl rfl (k7 (hd mvop (by kernel_rfl))) (st_as h h0 k1))

end Go.Proofs.Ytjoanlhdocoddaa
