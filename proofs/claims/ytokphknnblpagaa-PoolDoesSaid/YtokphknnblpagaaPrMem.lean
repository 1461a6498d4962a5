/- The document's pool (soughref13) in memory. -/
import Derived.Test.YtokphknnblpagaaPrPlain
import Derived.Test.YtokphknnblpagaaPoAdd3
namespace Go.Proofs.Ytokphknnblpagaa
open Go.RowKit Go.Maps Go.ChangeMaps

abbrev TP : TypeId := 63
abbrev TM : TypeId := 71
abbrev TF : TypeId := 40
def rmsgC (A : Nat → Nat × Nat) (m : Sough.PMsg) : List Value := [.slice (some ⟨(A m.id).1, 0, none⟩) m.parts.length (A m.id).2, .int .u64 m.since]

/-- The document's pool, in blocks from b0 on. -/
structure RCore (w : World) (b0 r : Nat) (lv : Value) (st : Sough.Pool) (A : Nat → Nat × Nat) : Prop where
  box : w.heap[r]? = some (Obj.cells #[lv, .int .i64 st.slots, .int .i64 st.room] TP (0, 0))
  row : w.ownsRow b0 TM 2 lv st.l.length (st.l.flatMap (rmsgC A))
  parts : ∀ m ∈ st.l, w.ownsRow b0 TF 4 (.slice (some ⟨(A m.id).1, 0, none⟩) m.parts.length (A m.id).2) m.parts.length ((Sough.fragsOf m).flatMap fragCells)
  low : b0 ≤ r
def RefAt (w : World) (b0 r : Nat) (st : Sough.Pool) : Prop := ∃ lv A, RCore w b0 r lv st A

theorem own_kept {w w' : World} {base size n : Nat} {e : TypeId} {v : Value} {xs : List Value} (h : w.ownsRow base e size v n xs) (hk : ∀ (g : Nat) (cur : Array Value), w.heap[g]? = some (Obj.cells cur e (0, 0)) → w'.heap[g]? = w.heap[g]?) : w'.ownsRow base e size v n xs := by
  refine ⟨h.1, ?_⟩
  rcases h.2 with h0 | ⟨g, cap, cur, rfl, hb, hg, rest⟩
  · exact .inl h0
  · exact .inr ⟨g, cap, cur, rfl, hb, (hk g cur hg).trans hg, rest⟩
theorem RCore.kept {w w' : World} {b0 r : Nat} {lv : Value} {st : Sough.Pool} {A : Nat → Nat × Nat} (h : RCore w b0 r lv st A)
    (hk : ∀ (i : Nat) (cs : Array Value) (T : TypeId), w.heap[i]? = some (Obj.cells cs T (0, 0)) → (T = TP ∨ T = TM ∨ T = TF) → w'.heap[i]? = w.heap[i]?) : RCore w' b0 r lv st A :=
  ⟨(hk r _ _ h.box (.inl rfl)).trans h.box, own_kept h.row fun g cur hg => hk g cur _ hg (.inr (.inl rfl)), fun m hm => own_kept (h.parts m hm) fun g cur hg => hk g cur _ hg (.inr (.inr rfl)), h.low⟩
theorem RCore.later {w w' : World} {b0 r : Nat} {lv : Value} {st : Sough.Pool} {A : Nat → Nat × Nat} (h : RCore w b0 r lv st A) (hb : Below w.heap.size w w') : RCore w' b0 r lv st A :=
  h.kept fun i _ _ hi _ => hb.block i (lt_of_block hi)
theorem RefAt.later {w w' : World} {b0 r : Nat} {st : Sough.Pool} (h : RefAt w b0 r st) (hb : Below w.heap.size w w') : RefAt w' b0 r st := by
  obtain ⟨lv, A, hc⟩ := h
  exact ⟨lv, A, hc.later hb⟩
theorem RCore.lt {w : World} {b0 r : Nat} {lv : Value} {st : Sough.Pool} {A : Nat → Nat × Nat} (h : RCore w b0 r lv st A) : r < w.heap.size := lt_of_block h.box

/-- What the program's pool lies in. -/
theorem PoolAt.kind {w : World} {p : Nat} {st : Sough.Pool} {S : List Nat} (h : PoolAt w p st S) : ∀ i ∈ S, ∀ cs T, w.heap[i]? = some (Obj.cells cs T (0, 0)) → T = 60 ∨ T = 67 := by
  obtain ⟨mb, A, D, hc, ho, rfl⟩ := h
  intro i hi cs T hT
  simp only [blocksOf, List.mem_cons, List.mem_flatMap] at hi
  rcases hi with rfl | rfl | ⟨m, hm, hi⟩
  · rw [hc.box] at hT; cases hT; exact .inl rfl
  · obtain ⟨es, clock, hb, _⟩ := ho
    rw [hb] at hT; cases hT
  · simp only [List.not_mem_nil, or_false] at hi
    rcases hi with rfl | rfl
    · rw [(hc.msgs m hm).box] at hT; cases hT; exact .inr rfl
    · obtain ⟨D', ⟨es, clock, hb, _⟩, _⟩ := (hc.msgs m hm).parts
      rw [hb] at hT; cases hT
theorem RefAt.turned {w w' : World} {b0 r p : Nat} {st st' : Sough.Pool} {S : List Nat} (h : RefAt w b0 r st) (hp : PoolAt w p st' S) (ht : Turned S w w') : RefAt w' b0 r st := by
  obtain ⟨lv, A, hc⟩ := h
  refine ⟨lv, A, hc.kept fun i cs T hi hT => ht.block i (lt_of_block hi) fun hS => ?_⟩
  have := hp.kind i hS cs T hi
  rcases this with rfl | rfl <;> rcases hT with e | e | e <;> exact absurd e (by decide)

/-- Of what was there, the document's own boxes alone may have turned. -/
structure RTurned (b0 : Nat) (w w' : World) : Prop where
  os : w'.os = w.os
  tape : w'.tape = w.tape
  output : w'.output = w.output
  size : w.heap.size ≤ w'.heap.size
  block : ∀ i, i < w.heap.size → w'.heap[i]? = w.heap[i]? ∨ (b0 ≤ i ∧ ∃ cs T, w.heap[i]? = some (Obj.cells cs T (0, 0)) ∧ (T = TP ∨ T = TM))
theorem RTurned.of {S : List Nat} {b0 : Nat} {w w' : World} (h : Turned S w w') (hS : ∀ i ∈ S, b0 ≤ i ∧ ∃ cs T, w.heap[i]? = some (Obj.cells cs T (0, 0)) ∧ (T = TP ∨ T = TM)) : RTurned b0 w w' :=
  ⟨h.os, h.tape, h.output, h.size, fun i hi => by
    by_cases e : i ∈ S
    · exact .inr (hS i e)
    · exact .inl (h.block i hi e)⟩
theorem RTurned.below {b0 : Nat} {w w' : World} (h : Below w.heap.size w w') : RTurned b0 w w' := ⟨h.os, h.tape, h.output, h.size, fun i hi => .inl (h.block i hi)⟩
theorem RTurned.trans {b0 : Nat} {a b c : World} (h : RTurned b0 a b) (k : RTurned b0 b c) : RTurned b0 a c :=
  ⟨k.os.trans h.os, k.tape.trans h.tape, k.output.trans h.output, Nat.le_trans h.size k.size, fun i hi => by
    rcases h.block i hi with e | e
    · rcases k.block i (Nat.lt_of_lt_of_le hi h.size) with e' | ⟨e1, e2⟩
      · exact .inl (e'.trans e)
      · rw [e] at e2; exact .inr ⟨e1, e2⟩
    · exact .inr e⟩
theorem RTurned.toBelow {b0 : Nat} {w w' : World} (h : RTurned b0 w w') (hb : b0 ≤ w.heap.size) : Below b0 w w' :=
  ⟨h.os, h.tape, h.output, h.size, fun i hi => by
    rcases h.block i (by omega) with e | ⟨e, _⟩
    · exact e
    · omega⟩
theorem PoolAt.rturned {w w' : World} {b0 p : Nat} {st : Sough.Pool} {S : List Nat} (h : PoolAt w p st S) (ht : RTurned b0 w w') : PoolAt w' p st S := by
  refine h.same fun i hi => ?_
  rcases ht.block i (h.lt i hi) with e | ⟨_, cs, T, hT, e⟩
  · exact e
  · have := h.kind i hi cs T hT
    rcases this with rfl | rfl <;> rcases e with e | e <;> exact absurd e (by decide)

/-! ### what a row of messages holds -/
theorem flat2 {α : Type} (f : α → List Value) (hf : ∀ x, (f x).length = 2) (j : Nat) (hj : j < 2) : ∀ (l : List α) (i : Nat) (h : i < l.length), (l.flatMap f)[i * 2 + j]? = (f l[i])[j]? := by
  intro l
  induction l with
  | nil => intro i h; simp at h
  | cons x l ih =>
    intro i h
    rw [List.flatMap_cons]
    cases i with
    | zero => rw [Nat.zero_mul, Nat.zero_add, List.getElem?_append_left (by rw [hf]; exact hj)]; rfl
    | succ i =>
      rw [List.getElem?_append_right (by rw [hf]; omega), hf]
      have : (i + 1) * 2 + j - 2 = i * 2 + j := by omega
      rw [this, ih i (by simpa using h)]
      rfl
theorem len2 {α : Type} (f : α → List Value) (hf : ∀ x, (f x).length = 2) : ∀ l : List α, (l.flatMap f).length = l.length * 2
  | [] => rfl
  | x :: l => by rw [List.flatMap_cons, List.length_append, len2 f hf l, hf, List.length_cons]; omega
theorem own_cell {w : World} {base e size n g cap : Nat} {xs : List Value} (h : w.ownsRow base e size (.slice (some ⟨g, 0, none⟩) n cap) n xs) {i : Nat} {v : Value} (hi : xs[i]? = some v) : w.cell? ⟨g, i, none⟩ = some v := by
  rcases h.2 with ⟨h1, _⟩ | ⟨g', cap', cur, hv, _, h1, _, _, _, h5⟩
  · cases h1
  · cases hv
    have : cur[i]? = some v := by
      rw [← h5] at hi
      have hlt : i < n * size := by
        have := (List.getElem?_eq_some_iff.1 hi).1
        rw [List.length_take] at this
        omega
      rw [List.getElem?_take_of_lt hlt] at hi
      simpa using hi
    simp [World.cell?, h1, this]
/-- A message's two cells. -/
theorem RCore.msg {w : World} {b0 r g cap n : Nat} {st : Sough.Pool} {A : Nat → Nat × Nat} (h : RCore w b0 r (.slice (some ⟨g, 0, none⟩) n cap) st A) (hn : st.l.length = n) {i : Nat} (hi : i < st.l.length) :
    w.cell? ⟨g, i * 2, none⟩ = some (.slice (some ⟨(A st.l[i].id).1, 0, none⟩) st.l[i].parts.length (A st.l[i].id).2) ∧ w.cell? ⟨g, i * 2 + 1, none⟩ = some (.int .u64 st.l[i].since) := by
  subst hn
  have h0 := flat2 (rmsgC A) (fun _ => rfl) 0 (by decide) st.l i hi
  have h1 := flat2 (rmsgC A) (fun _ => rfl) 1 (by decide) st.l i hi
  exact ⟨own_cell h.row h0, own_cell h.row h1⟩
/-- A part's four cells. -/
theorem RCore.part {w : World} {b0 r : Nat} {lv : Value} {st : Sough.Pool} {A : Nat → Nat × Nat} (h : RCore w b0 r lv st A) {m : Sough.PMsg} (hm : m ∈ st.l) {k : Nat} (hk : k < m.parts.length) :
    w.cell? ⟨(A m.id).1, k * 4, none⟩ = some (.int .u64 m.id) ∧ w.cell? ⟨(A m.id).1, k * 4 + 1, none⟩ = some (.int .i64 (m.parts[k].1 : Nat)) ∧ w.cell? ⟨(A m.id).1, k * 4 + 2, none⟩ = some (.int .i64 m.count) ∧ w.cell? ⟨(A m.id).1, k * 4 + 3, none⟩ = some (.string ⟨m.parts[k].2.toArray⟩) := by
  obtain ⟨a, b, c, d⟩ := cells_at (Sough.fragsOf m) k (by rw [Sough.fragsOf_len]; exact hk)
  have e : Sough.fragAt (Sough.fragsOf m) k = ⟨m.id, m.parts[k].1, m.count, m.parts[k].2⟩ := by
    rw [Sough.fragAt, List.getD_eq_getElem?_getD, List.getElem?_eq_getElem (by rw [Sough.fragsOf_len]; exact hk), Option.getD_some, Sough.fragsOf_at hk]
  rw [e] at a b c d
  have o := h.parts m hm
  exact ⟨own_cell o a, own_cell o b, own_cell o c, own_cell o d⟩
theorem RCore.head {w : World} {b0 r : Nat} {lv : Value} {st : Sough.Pool} {A : Nat → Nat × Nat} (h : RCore w b0 r lv st A) (hn : 0 < st.l.length) : ∃ g cap, lv = .slice (some ⟨g, 0, none⟩) st.l.length cap ∧ st.l.length ≤ cap ∧ cap ≤ maxLen := own_head h.row hn
theorem RCore.shape {w : World} {b0 r : Nat} {lv : Value} {st : Sough.Pool} {A : Nat → Nat × Nat} (h : RCore w b0 r lv st A) : ∃ a cap, lv = .slice a st.l.length cap := own_shape h.row
def rmsgZero : Value := .agg #[.slice none 0 0, .int .u64 0]
theorem infoRMsg : (Try.prog.info? 71).map (fun i => (i.zero, i.size, i.bytes)) = some (some rmsgZero, 2, 32) := by kernel_rfl
theorem infoRFrag13 : (Try.prog.info? 40).map (fun i => (i.zero, i.size, i.bytes)) = some (some (.agg #[.int .u64 0, .int .i64 0, .int .i64 0, .string ⟨#[]⟩]), 4, 40) := by kernel_rfl

end Go.Proofs.Ytokphknnblpagaa
