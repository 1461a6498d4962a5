/- A law's pool and its rows of parts; the calls of layer 13 as a law makes them. -/
import Derived.Test.YtokphknnblpagaaPoAdd3
namespace Go.Proofs.Ytokphknnblpagaa
open Go.RowKit Go.Maps Go.ChangeMaps Go.Shelf

theorem FragsAt.same {w w' : World} {g o : Nat} {fs : List Sough.Frag} (h : FragsAt w g o fs) (e : w'.heap[g]? = w.heap[g]?) : FragsAt w' g o fs := fun i hi => by
  obtain ⟨h0, h1, h2, h3⟩ := h i hi
  exact ⟨(World.cell?_of_block (w := w) e).trans h0, (World.cell?_of_block (w := w) e).trans h1, (World.cell?_of_block (w := w) e).trans h2, (World.cell?_of_block (w := w) e).trans h3⟩

/-- A row of parts of a law's own. -/
def RowIn (w W : World) (x : Nat × List Sough.Frag) : Prop := FragsAt W x.1 0 x.2 ∧ x.1 < W.heap.size ∧ w.heap.size ≤ x.1 ∧ ∀ i, W.frozen? ⟨x.1, i, none⟩ = false
theorem RowIn.same {w W W' : World} {x : Nat × List Sough.Frag} (h : RowIn w W x) (e : W'.heap[x.1]? = W.heap[x.1]?) (hs : W.heap.size ≤ W'.heap.size) : RowIn w W' x :=
  ⟨h.1.same e, Nat.lt_of_lt_of_le h.2.1 hs, h.2.2.1, fun i => (World.frozen?_of_block (w := W) e).trans (h.2.2.2 i)⟩
/-- A law's pool, in memory of the law's own; rows of parts beside it. -/
structure LS (w W : World) (p : Nat) (st : Sough.Pool) (R : List (Nat × List Sough.Frag)) : Prop where
  pool : ∃ S, PoolAt W p st S ∧ (∀ i ∈ S, w.heap.size ≤ i) ∧ ∀ x ∈ R, x.1 ∉ S
  ok : st.Ok
  bel : Below w.heap.size w W
  rows : ∀ x ∈ R, RowIn w W x

section
variable {w W w' : World} {p : Nat} {st : Sough.Pool} {R : List (Nat × List Sough.Frag)}
theorem LS.later (h : LS w W p st R) (hb : Below W.heap.size W w') : LS w w' p st R := by
  obtain ⟨S, h1, h2, h3⟩ := h.pool
  exact ⟨⟨S, h1.later hb, h2, h3⟩, h.ok, h.bel.trans (hb.mono h.bel.size), fun x hx => (h.rows x hx).same (hb.block _ (h.rows x hx).2.1) hb.size⟩
theorem LS.turned {r : Sough.Pool} {S S' : List Nat} (h : LS w W p st R) (hP : PoolAt w' p r S') (hS : ∀ i ∈ S, w.heap.size ≤ i) (hR : ∀ x ∈ R, x.1 ∉ S) (hs : ∀ i ∈ S', i ∈ S ∨ W.heap.size ≤ i) (ht : Turned S W w') (hok : r.Ok) : LS w w' p r R := by
  have hz := h.bel.size
  refine ⟨⟨S', hP, fun i hi => ?_, fun x hx hi => ?_⟩, hok, h.bel.trans (ht.toBelow hS hz), fun x hx => ?_⟩
  · rcases hs i hi with e | e
    · exact hS i e
    · omega
  · rcases hs _ hi with e | e
    · exact hR x hx e
    · have := (h.rows x hx).2.1; omega
  · exact (h.rows x hx).same (ht.block _ (h.rows x hx).2.1 (hR x hx)) ht.size
/-- A new row. -/
theorem LS.row {g : Nat} {fs : List Sough.Frag} (h : LS w W p st R) (hb : Below W.heap.size W w') (hg : W.heap.size ≤ g) (hf : FragsAt w' g 0 fs) (hgl : g < w'.heap.size) (hfz : ∀ i, w'.frozen? ⟨g, i, none⟩ = false) : LS w w' p st ((g, fs) :: R) := by
  have k := h.later hb
  have hz := h.bel.size
  obtain ⟨S, h1, h2, h3⟩ := h.pool
  refine ⟨⟨S, h1.later hb, h2, fun x hx => ?_⟩, k.ok, k.bel, fun x hx => ?_⟩
  · rcases List.mem_cons.1 hx with rfl | hx
    · exact fun hi => by have := h1.lt _ hi; simp only at this; omega
    · exact h3 x hx
  · rcases List.mem_cons.1 hx with rfl | hx
    · exact ⟨hf, hgl, by show w.heap.size ≤ g; omega, hfz⟩
    · exact k.rows x hx

theorem add_ls {f : Sough.Frag} {now : Nat} {r : Sough.Pool × List UInt8 × Bool × Nat} {id : Int} (h : LS w W p st R) (hr : st.add f now = r) (hnow : now < 18446744073709551616) (hid : id = f.id) :
    Calls Try.prog 14 #[.pointer (some ⟨p, 0, none⟩), .agg #[.int .u64 id, .int .i64 f.index, .int .i64 f.count, .string ⟨f.part.toArray⟩], .int .u64 now] W fun e w' => e = .returned (.tuple #[.string ⟨r.2.1.toArray⟩, .bool r.2.2.1, .int .i64 r.2.2.2]) ∧ LS w w' p r.1 R := by
  subst hid
  obtain ⟨S, h1, h2, h3⟩ := h.pool
  refine (add_as hr W h1 h.ok hnow).mono ?_
  rintro e w' ⟨rfl, S', hP, hs, ht⟩
  refine ⟨rfl, h.turned hP h2 h3 hs ht ?_⟩
  rw [← hr]
  exact Sough.add_ok h.ok hnow
theorem held_ls (h : LS w W p st R) : Calls Try.prog 17 #[.pointer (some ⟨p, 0, none⟩)] W fun e w' => e = .returned (.tuple #[.int .i64 st.l.length, .int .i64 st.held]) ∧ LS w w' p st R := by
  obtain ⟨S, h1, h2, h3⟩ := h.pool
  refine (held_any W h1).mono ?_
  rintro e w' ⟨rfl, hb⟩
  exact ⟨rfl, h.later hb⟩
theorem expire_ls {now : Nat} (h : LS w W p st R) (hnow : now < 18446744073709551616) :
    Calls Try.prog 11 #[.pointer (some ⟨p, 0, none⟩), .int .u64 now] W fun e w' => e = .returned (.int .i64 (st.l.length - (st.expire now).l.length : Nat)) ∧ LS w w' p (st.expire now) R := by
  obtain ⟨S, ⟨mb, A, D, hc, ho, rfl⟩, h2, h3⟩ := h.pool
  refine (expire_any W hc ho h.ok hnow).mono ?_
  rintro e w' ⟨rfl, S', hP, hs, ht⟩
  exact ⟨rfl, h.turned hP h2 h3 (fun i hi => .inl (hs i hi)) ht (h.ok.expire now)⟩
theorem add_at {f : Sough.Frag} {now : Nat} {r : Sough.Pool × List UInt8 × Bool × Nat} {id k : Int} (h : LS w W p st R) (hr : st.add f now = r) (hnow : now < 18446744073709551616) (hid : id = f.id) (hk : k = now) :
    Calls Try.prog 14 #[.pointer (some ⟨p, 0, none⟩), .agg #[.int .u64 id, .int .i64 f.index, .int .i64 f.count, .string ⟨f.part.toArray⟩], .int .u64 k] W fun e w' => e = .returned (.tuple #[.string ⟨r.2.1.toArray⟩, .bool r.2.2.1, .int .i64 r.2.2.2]) ∧ LS w w' p r.1 R := by
  subst hk; exact add_ls h hr hnow hid
theorem expire_at {now n : Nat} {k : Int} {r : Sough.Pool} (h : LS w W p st R) (hr : st.expire now = r) (hn : st.l.length - r.l.length = n) (hnow : now < 18446744073709551616) (hk : k = now) :
    Calls Try.prog 11 #[.pointer (some ⟨p, 0, none⟩), .int .u64 k] W fun e w' => e = .returned (.int .i64 n) ∧ LS w w' p r R := by
  subst hk hr hn; exact expire_ls h hnow
theorem held_at {n b : Nat} (h : LS w W p st R) (hn : st.l.length = n) (hb : st.held = b) : Calls Try.prog 17 #[.pointer (some ⟨p, 0, none⟩)] W fun e w' => e = .returned (.tuple #[.int .i64 n, .int .i64 b]) ∧ LS w w' p st R := by
  subst hn hb; exact held_ls h
theorem new_rows {slots room : Nat} (hb : Below w.heap.size w W) (hR : ∀ x ∈ R, RowIn w W x) (h1 : 1 ≤ slots) (h2 : slots ≤ 16) (h3 : 1 ≤ room) (h4 : room ≤ 65536) :
    Calls Try.prog 9 #[.int .i64 slots, .int .i64 room] W fun e w' => ∃ p, e = .returned (.tuple #[.pointer (some ⟨p, 0, none⟩), .int .i64 0]) ∧ LS w w' p ⟨slots, room, []⟩ R := by
  refine (new_any W h1 h2 h3 h4).mono ?_
  rintro e w' ⟨p, S, rfl, hP, hS, hb'⟩
  have hz := hb.size
  exact ⟨p, rfl, ⟨S, hP, fun i hi => by have := hS i hi; omega, fun x hx hi => by have := hS _ hi; have := (hR x hx).2.1; omega⟩, ⟨h2, h4, Nat.zero_le _, Nat.zero_le _, by simp, fun m hm => absurd hm (by simp)⟩, hb.trans (hb'.mono hz), fun x hx => (hR x hx).same (hb'.block _ (hR x hx).2.1) hb'.size⟩
theorem new_ls {slots room : Nat} (hb : Below w.heap.size w W) (h1 : 1 ≤ slots) (h2 : slots ≤ 16) (h3 : 1 ≤ room) (h4 : room ≤ 65536) :
    Calls Try.prog 9 #[.int .i64 slots, .int .i64 room] W fun e w' => ∃ p, e = .returned (.tuple #[.pointer (some ⟨p, 0, none⟩), .int .i64 0]) ∧ LS w w' p ⟨slots, room, []⟩ [] :=
  new_rows hb (fun x hx => absurd hx (by simp)) h1 h2 h3 h4
theorem RowIn.own {g m cap : Nat} {fs : List Sough.Frag} {e : TypeId} (h : W.ownsRow w.heap.size e 4 (.slice (some ⟨g, 0, none⟩) m cap) m (fs.flatMap fragCells)) (hm : fs.length = m) : RowIn w W (g, fs) := by
  subst hm
  exact ⟨fragsAt_own h, (h.lt g rfl).2, (h.lt g rfl).1, fun i => h.frozenAt i⟩
theorem fragsAt_box {k : Nat} {f : Sough.Frag} {T : TypeId} (h : W.heap[k]? = some (.cells #[.int .u64 f.id, .int .i64 f.index, .int .i64 f.count, .string ⟨f.part.toArray⟩] T (0, 0))) : FragsAt W k 0 [f] := fun i hi => by
  have : i = 0 := by simp at hi; omega
  subst this
  obtain ⟨h0, h1, h2, h3, _⟩ := cells4 h
  exact ⟨h0, h1, h2, h3⟩
/-- A box is laid. -/
theorem LS.box {f : Sough.Frag} {T : TypeId} (h : LS w W p st R) : LS w (W.alloc (.cells #[.int .u64 f.id, .int .i64 f.index, .int .i64 f.count, .string ⟨f.part.toArray⟩] T)) p st ((W.heap.size, [f]) :: R) :=
  h.row ((Below.refl _ _).alloc (Nat.le_refl _) _) (Nat.le_refl _) (fragsAt_box (heap_alloc_new W _)) (by simp) (fun i => by have e := heap_alloc_new W (.cells #[.int .u64 f.id, .int .i64 f.index, .int .i64 f.count, .string ⟨f.part.toArray⟩] T); simp only [World.frozen?, e]; simp)
/-- A row is written. -/
theorem LS.store {g i : Nat} {fs fs' : List Sough.Frag} {v : Value} (h : LS w W p st ((g, fs) :: R)) (hR : ∀ x ∈ R, x.1 ≠ g) (hf : FragsAt (W.setCell ⟨g, i, none⟩ v) g 0 fs') : LS w (W.setCell ⟨g, i, none⟩ v) p st ((g, fs') :: R) := by
  obtain ⟨S, h1, h2, h3⟩ := h.pool
  have hg := h.rows (g, fs) (List.mem_cons_self ..)
  have hne : ∀ j, j ≠ g → (W.setCell ⟨g, i, none⟩ v).heap[j]? = W.heap[j]? := fun j hj => Below.heap_setCell _ _ _ _ hj
  have hgS : g ∉ S := h3 (g, fs) (List.mem_cons_self ..)
  refine ⟨⟨S, h1.same fun j hj => hne j (fun e => hgS (e ▸ hj)), h2, fun x hx => ?_⟩, h.ok, h.bel.setCell hg.2.2.1 v, fun x hx => ?_⟩
  · rcases List.mem_cons.1 hx with rfl | hx
    · exact hgS
    · exact h3 x (List.mem_cons_of_mem _ hx)
  · rcases List.mem_cons.1 hx with rfl | hx
    · exact ⟨hf, by simp only [World.setCell, Array.size_modify]; exact hg.2.1, hg.2.2.1, fun j => by rw [World.frozen?_setCell]; exact hg.2.2.2 j⟩
    · exact (h.rows x (List.mem_cons_of_mem _ hx)).same (hne _ (hR x hx)) (by simp [World.setCell])
theorem LS.sub {R' : List (Nat × List Sough.Frag)} (h : LS w W p st R) (hs : ∀ x ∈ R', x ∈ R) : LS w W p st R' := by
  obtain ⟨S, h1, h2, h3⟩ := h.pool
  exact ⟨⟨S, h1, h2, fun x hx => h3 x (hs x hx)⟩, h.ok, h.bel, fun x hx => h.rows x (hs x hx)⟩
end

theorem two_cells {W : World} {g : Nat} {a b : Sough.Frag} (h : FragsAt W g 0 [a, b]) : W.cell? ⟨g, 0, none⟩ = some (.int .u64 a.id) ∧ W.cell? ⟨g, 1, none⟩ = some (.int .i64 a.index) ∧ W.cell? ⟨g, 2, none⟩ = some (.int .i64 a.count) ∧ W.cell? ⟨g, 3, none⟩ = some (.string ⟨a.part.toArray⟩) ∧
    W.cell? ⟨g, 4, none⟩ = some (.int .u64 b.id) ∧ W.cell? ⟨g, 5, none⟩ = some (.int .i64 b.index) ∧ W.cell? ⟨g, 6, none⟩ = some (.int .i64 b.count) ∧ W.cell? ⟨g, 7, none⟩ = some (.string ⟨b.part.toArray⟩) := by
  obtain ⟨h0, h1, h2, h3⟩ := h 0 (by simp)
  obtain ⟨k0, k1, k2, k3⟩ := h 1 (by simp)
  exact ⟨h0, h1, h2, h3, k0, k1, k2, k3⟩

def F13a : Sough.Frag := ⟨7, 0, 2, [97, 98]⟩
def F13b : Sough.Frag := ⟨7, 1, 2, [99, 100]⟩
def F13c : Sough.Frag := ⟨8, 0, 2, [119, 120]⟩
def F13d : Sough.Frag := ⟨8, 1, 2, [121, 122]⟩


set_option maxRecDepth 100000 in
set_option maxHeartbeats 3200000 in
theorem fixed_walk (w : World) : Calls Try.prog 19 #[] w fun e w' => e = .returned (.bool true) ∧ Below w.heap.size w w' := by
  go_enter Try.func19, Try.ntmps19
  go_wp2_with fail
  refine (new_ls (slots := 1) (room := 10) (Below.refl _ w) (by decide) (by decide) (by decide) (by decide)).mono ?_
  rintro e w1 ⟨p, rfl, hL⟩
  have L1 := Lib.hid hL; clear hL
  go_wp2_with fail
  refine (new_bad (slots := 0) (room := 10) _ (by decide)).mono ?_
  rintro e w2 ⟨rfl, rfl⟩
  go_wp2_with fail
  refine (cut_lit (id := 7) (fs := [F13a, F13b]) (er := 0) (by kernel_rfl) (by decide) _).mono ?_
  rintro e w3 ⟨v, rfl, hown, hb⟩
  obtain ⟨g, capg, rfl, _, _⟩ := own_head hown (by decide)
  have L3 := Lib.hid (L1.out.row hb (hown.lt g rfl).1 (fragsAt_own hown) (hown.lt g rfl).2 (fun i => hown.frozenAt i))
  clear hown hb L1
  go_wp2_with fail
  refine (cut_lit (id := 8) (fs := [F13c, F13d]) (er := 0) (by kernel_rfl) (by decide) _).mono ?_
  rintro e w4 ⟨v, rfl, hown, hb⟩
  obtain ⟨k, capk, rfl, _, _⟩ := own_head hown (by decide)
  have L4 := Lib.hid (L3.out.row hb (hown.lt k rfl).1 (fragsAt_own hown) (hown.lt k rfl).2 (fun i => hown.frozenAt i))
  clear hown hb L3
  have c4 := two_cells (L4.out.rows (g, [F13a, F13b]) (by simp)).1
  simp only [F13a, F13b] at c4
  go_wp2_with fail
  refine (add_ls (f := F13b) (now := 5) (id := 7) (r := (⟨1, 10, [⟨7, 2, 5, [(1, [99, 100])]⟩]⟩, [], false, 0)) L4.out (by kernel_rfl) (by decide) (by decide)).mono ?_
  rintro e w5 ⟨rfl, hL⟩
  have L5 := Lib.hid hL; clear hL L4
  have c5 := two_cells (L5.out.rows (g, [F13a, F13b]) (by simp)).1
  have d5 := two_cells (L5.out.rows (k, [F13c, F13d]) (by simp)).1
  simp only [F13a, F13b] at c5
  simp only [F13c, F13d] at d5
  clear c4
  go_wp2_with fail
  refine (add_ls (f := F13b) (now := 5) (id := 7) (r := (⟨1, 10, [⟨7, 2, 5, [(1, [99, 100])]⟩]⟩, [], false, 6)) L5.out (by kernel_rfl) (by decide) (by decide)).mono ?_
  rintro e w6 ⟨rfl, hL⟩
  have L6 := Lib.hid hL; clear hL L5
  have c6 := two_cells (L6.out.rows (g, [F13a, F13b]) (by simp)).1
  have d6 := two_cells (L6.out.rows (k, [F13c, F13d]) (by simp)).1
  simp only [F13a, F13b] at c6
  simp only [F13c, F13d] at d6
  clear c5 d5
  go_wp2_with fail
  refine (add_ls (f := F13c) (now := 55) (id := 8) (r := (⟨1, 10, [⟨7, 2, 5, [(1, [99, 100])]⟩]⟩, [], false, 8)) L6.out (by kernel_rfl) (by decide) (by decide)).mono ?_
  rintro e w7 ⟨rfl, hL⟩
  have L7 := Lib.hid hL; clear hL L6
  have c7 := two_cells (L7.out.rows (g, [F13a, F13b]) (by simp)).1
  have d7 := two_cells (L7.out.rows (k, [F13c, F13d]) (by simp)).1
  simp only [F13a, F13b] at c7
  simp only [F13c, F13d] at d7
  clear c6 d6
  go_wp2_with fail
  refine (held_ls L7.out).mono ?_
  rintro e w8 ⟨rfl, hL⟩
  have L8 := Lib.hid hL; clear hL L7
  have c8 := two_cells (L8.out.rows (g, [F13a, F13b]) (by simp)).1
  have d8 := two_cells (L8.out.rows (k, [F13c, F13d]) (by simp)).1
  simp only [F13a, F13b] at c8
  simp only [F13c, F13d] at d8
  clear c7 d7
  rw [show Sough.Pool.held (⟨1, 10, [⟨7, 2, 5, [(1, [99, 100])]⟩]⟩, ([] : List UInt8), false, 8).1 = 2 by kernel_rfl]
  go_wp2_with fail
  refine (add_ls (f := F13a) (now := 55) (id := 7) (r := (⟨1, 10, []⟩, [97, 98, 99, 100], true, 0)) L8.out (by kernel_rfl) (by decide) (by decide)).mono ?_
  rintro e w9 ⟨rfl, hL⟩
  have L9 := Lib.hid hL; clear hL L8
  have d9 := two_cells (L9.out.rows (k, [F13c, F13d]) (by simp)).1
  simp only [F13c, F13d] at d9
  clear c8 d8
  go_wp2_with fail
  refine (held_ls L9.out).mono ?_
  rintro e w10 ⟨rfl, hL⟩
  have L10 := Lib.hid hL; clear hL L9
  have d10 := two_cells (L10.out.rows (k, [F13c, F13d]) (by simp)).1
  simp only [F13c, F13d] at d10
  clear d9
  rw [show Sough.Pool.held (⟨1, 10, []⟩, [97, 98, 99, 100], true, 0).1 = 0 by kernel_rfl]
  go_wp2_with fail
  refine (add_ls (f := (⟨1, 0, 1, [113]⟩ : Sough.Frag)) (now := 0) (id := 1) (r := (⟨1, 10, []⟩, [113], true, 0)) L10.out (by kernel_rfl) (by decide) (by decide)).mono ?_
  rintro e w11 ⟨rfl, hL⟩
  have L11 := Lib.hid hL; clear hL L10
  have d11 := two_cells (L11.out.rows (k, [F13c, F13d]) (by simp)).1
  simp only [F13c, F13d] at d11
  clear d10
  go_wp2_with fail
  refine (add_ls (f := F13c) (now := 100) (id := 8) (r := (⟨1, 10, [⟨8, 2, 100, [(0, [119, 120])]⟩]⟩, [], false, 0)) L11.out (by kernel_rfl) (by decide) (by decide)).mono ?_
  rintro e w12 ⟨rfl, hL⟩
  have L12 := Lib.hid hL; clear hL L11
  have d12 := two_cells (L12.out.rows (k, [F13c, F13d]) (by simp)).1
  simp only [F13c, F13d] at d12
  clear d11
  go_wp2_with fail
  refine (add_ls (f := F13d) (now := 151) (id := 8) (r := (⟨1, 10, [⟨8, 2, 151, [(1, [121, 122])]⟩]⟩, [], false, 0)) L12.out (by kernel_rfl) (by decide) (by decide)).mono ?_
  rintro e w13 ⟨rfl, hL⟩
  have L13 := Lib.hid hL; clear hL L12
  clear d12
  go_wp2_with fail
  refine (add_ls (f := (⟨0, 0, 0, []⟩ : Sough.Frag)) (now := 0) (id := 0) (r := (⟨1, 10, [⟨8, 2, 151, [(1, [121, 122])]⟩]⟩, [], false, 1)) L13.out (by kernel_rfl) (by decide) (by decide)).mono ?_
  rintro e w14 ⟨rfl, hL⟩
  have L14 := Lib.hid hL; clear hL L13
  go_wp2_with fail
  go_ret
  exact ⟨rfl, L14.out.bel⟩

end Go.Proofs.Ytokphknnblpagaa
