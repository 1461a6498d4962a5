/- The walk of msg.Names, and rows of names that are heard. -/
import Derived.Test.YtlfgempjjoclbaaLHdHidesPlain
import Derived.Test.YtlfgempjjoclbaaLKnCan
import Derived.Deep.RegionLawGrows
namespace Go.Proofs.Ytlfgempjjoclbaa
open Go.RowKit Go.Maps Go.ChangeMaps
def IntsTo (w : World) (l : List Int) (e : Ending) (w' : World) : Prop :=
  Below w.heap.size w w' ∧ ((l = [] ∧ e = .returned (.slice none 0 0)) ∨ (l ≠ [] ∧ ∃ g, e = .returned (.slice (some ⟨g, 0, none⟩) l.length l.length) ∧ w.heap.size ≤ g ∧ w'.heap[g]? = some (.cells (l.map (Value.int .i64)).toArray 3 (0, 0))))
theorem names_new (w : World) (o p : Obj) : ((w.alloc o).alloc p).heap[w.heap.size + 1]? = some p := by
  have := heap_alloc_new (w.alloc o) p
  rwa [World.size_alloc] at this
set_option maxRecDepth 100000 in
set_option maxHeartbeats 1600000 in
theorem names_any (m : Sough.Msg) (w : World) : Calls Try.prog 21 #[.agg #[.int .i64 (m.v 0), .int .u64 (m.v 1), .int .u64 (m.v 2), .string ⟨m.offer.toArray⟩, .int .i64 (m.v 4), .int .i64 (m.v 5), .int .i64 (m.v 6), .int .i64 (m.v 7), .int .i64 (m.v 8), .int .i64 (m.v 9), .int .i64 (m.v 10), .int .u64 (m.v 11), .int .u64 (m.v 12)]] w (IntsTo w (Sough.namesL m)) := by
  by_cases h1 : m.v 0 = 1
  · have hl : Sough.namesL m = [m.v 6, m.v 7, m.v 8, m.v 9, m.v 10] := by unfold Sough.namesL; rw [if_pos h1]
    rw [hl]
    go_enter Try.func21, Try.ntmps21
    go_wp2_with fail
    go_ret
    refine ⟨((Below.refl _ _).alloc (Nat.le_refl _) _).alloc (by simp) _, .inr ⟨by simp, _, rfl, by simp, ?_⟩⟩
    exact names_new _ _ _
  · by_cases h2 : m.v 0 = 2
    · have hl : Sough.namesL m = [m.v 6, m.v 8, m.v 9] := by unfold Sough.namesL; rw [if_neg h1, if_pos h2]
      rw [hl]
      go_enter Try.func21, Try.ntmps21
      go_wp2_with fail
      go_ret
      refine ⟨((Below.refl _ _).alloc (Nat.le_refl _) _).alloc (by simp) _, .inr ⟨by simp, _, rfl, by simp, ?_⟩⟩
      exact names_new _ _ _
    · by_cases h4 : m.v 0 = 4
      · have hl : Sough.namesL m = [m.v 9] := by unfold Sough.namesL; rw [if_neg h1, if_neg h2, if_pos h4]
        rw [hl]
        go_enter Try.func21, Try.ntmps21
        go_wp2_with fail
        go_ret
        refine ⟨((Below.refl _ _).alloc (Nat.le_refl _) _).alloc (by simp) _, .inr ⟨by simp, _, rfl, by simp, ?_⟩⟩
        exact names_new _ _ _
      · have hl : Sough.namesL m = [] := by unfold Sough.namesL; rw [if_neg h1, if_neg h2, if_neg h4]
        rw [hl]
        go_enter Try.func21, Try.ntmps21
        go_wp2_with fail
        go_ret
        exact ⟨(Below.refl _ _).alloc (Nat.le_refl _) _, .inl ⟨rfl, rfl⟩⟩
def RowL (l : List Int) (u : Value) (FP : List Nat) (x : World) : Prop := ∃ g, u = .slice (some ⟨g, 0, none⟩) l.length l.length ∧ FP = [g] ∧ x.heap[g]? = some (.cells (l.map (Value.int .i64)).toArray 3 (0, 0))
def RowX (B : Nat) (l : List Int) (u : Value) (FP : List Nat) (x : World) : Prop := x.ownsRow B 3 1 u l.length (l.map (Value.int .i64)) ∧ ∃ g cap, u = .slice (some ⟨g, 0, none⟩) l.length cap ∧ FP = [g]
def HeardP (B : Nat) (la lb : List Int) (k : Nat) (u : Value) (FP : List Nat) (x : World) : Prop := if k = 1 then RowL la u FP x else if k = 3 then RowL lb u FP x else RowX B (la ++ lb) u FP x
theorem own_same {x y : World} {B g n cap : Nat} {xs : List Value} (h : x.ownsRow B 3 1 (.slice (some ⟨g, 0, none⟩) n cap) n xs) (e : y.heap[g]? = x.heap[g]?) : y.ownsRow B 3 1 (.slice (some ⟨g, 0, none⟩) n cap) n xs := by
  refine ⟨h.1, ?_⟩
  rcases h.2 with ⟨hv, h1⟩ | ⟨g', cap', cur, hv, h1, h2, h3⟩
  · exact .inl ⟨hv, h1⟩
  · obtain ⟨rfl, rfl⟩ : g = g' ∧ cap = cap' := by simpa using hv
    exact .inr ⟨_, _, cur, rfl, h1, e.trans h2, h3⟩
theorem HeardP.keep {B : Nat} {la lb : List Int} (j : Nat) (u : Value) (FP : List Nat) (x y : World) (h : HeardP B la lb j u FP x) (hk : ∀ i ∈ FP, y.heap[i]? = x.heap[i]?) : HeardP B la lb j u FP y := by
  unfold HeardP at h ⊢
  split
  · rename_i e; rw [if_pos e] at h
    obtain ⟨g, rfl, rfl, h⟩ := h
    exact ⟨g, rfl, rfl, (hk g (by simp)).trans h⟩
  · rename_i e; rw [if_neg e] at h
    split
    · rename_i e; rw [if_pos e] at h
      obtain ⟨g, rfl, rfl, h⟩ := h
      exact ⟨g, rfl, rfl, (hk g (by simp)).trans h⟩
    · rename_i e; rw [if_neg e] at h
      obtain ⟨h, g, cap, rfl, rfl⟩ := h
      exact ⟨own_same h (hk g (by simp)), g, cap, rfl, rfl⟩
theorem own_form {x : World} {B n : Nat} {v : Value} {l : List Int} (h : x.ownsRow B 3 1 v n (l.map (Value.int .i64))) (hn : 0 < n) : ∃ g cap, v = .slice (some ⟨g, 0, none⟩) n cap ∧ B ≤ g ∧ g < x.heap.size := by
  rcases h.2 with ⟨hv, h1⟩ | ⟨g, cap, cur, hv, h1, h2, h3⟩
  · omega
  · exact ⟨g, cap, hv, h1, lt_of_block h2⟩
theorem oper_append_ints {o : Oper} {a : Act} {x : World} {Q : Exit → Act → World → Prop} {B : Nat} {la lb : List Int} {g1 g2 : Nat} (hB : B ≤ x.heap.size) (hgd : o.guard = none) (s t : Operand) (hop : o.op = Op.call { callee := Callee.builtin Builtin.append, args := #[s, t], argTypes := #[61, 61] })
    (hs : a.eval s = .slice (some ⟨g1, 0, none⟩) la.length la.length) (ht : a.eval t = .slice (some ⟨g2, 0, none⟩) lb.length lb.length) (h1 : x.heap[g1]? = some (.cells (la.map (Value.int .i64)).toArray 3 (0, 0))) (h2 : x.heap[g2]? = some (.cells (lb.map (Value.int .i64)).toArray 3 (0, 0))) (hlb : 0 < lb.length) (hm : la.length + lb.length ≤ 1000000) :
    o.wp Try.prog a x (fun a' y => ∃ u FP, a' = a.put o.dst u ∧ Below x.heap.size x y ∧ RowX B (la ++ lb) u FP y ∧ ∀ i ∈ FP, x.heap.size ≤ i ∧ i < y.heap.size) Q := by
  obtain ⟨i, hi, hz, hsz, hb⟩ := intInfo
  have h := step_append_grows (P := Try.prog) (ops := #[]) (o := o) (a := a) (w := x) (Q := Q) (E := True) (K := fun a' y => ∃ u FP, a' = a.put o.dst u ∧ Below x.heap.size x y ∧ RowX B (la ++ lb) u FP y ∧ ∀ i ∈ FP, x.heap.size ≤ i ∧ i < y.heap.size)
    hgd s t 61 hop 3 i _ 1 8 Try.underlying61 hi hz hsz hb rfl (by decide) (some ⟨g1, 0, none⟩) la.length la.length (la.map (Value.int .i64)) hs (by simp) (by simp) (fun b e j u hj => by
      cases e
      have : j < la.length := by have := (List.getElem?_eq_some_iff.1 hj).1; simpa using this
      simp only [Addr.add_lit, Nat.zero_add, World.cell?, h1]
      rw [← hj]; simp)
    ⟨g2, 0, none⟩ lb.length lb.length (lb.map (Value.int .i64)) ht (by simp) (fun j u hj => by
      simp only [Addr.add_lit, Nat.zero_add, World.cell?, h2]
      rw [← hj]; simp) (fun u hu => by obtain ⟨z, _, rfl⟩ := List.mem_map.1 hu; rfl) (by omega) (by unfold maxLen; omega) (by omega)
    (fun v' w' hown hgrow => by
      have hb : Below x.heap.size x w' := (Below.refl _ x).grown hgrow (Nat.le_refl _) (fun k hk => by simp at hk)
      rw [← List.map_append] at hown
      rw [← List.length_append] at hown
      obtain ⟨g, cap, rfl, hg1, hg2⟩ := own_form hown (by simp; omega)
      refine ⟨_, [g], rfl, hb, ⟨?_, g, cap, rfl, rfl⟩, by simp; omega⟩
      refine ⟨hown.1, ?_⟩
      rcases hown.2 with ⟨hv, _⟩ | ⟨g', cap', cur, hv, e1, e2⟩
      · cases hv
      · exact .inr ⟨g', cap', cur, hv, Nat.le_trans hB e1, e2⟩)
  rwa [if_pos (by simp [Region.wanted, hgd])] at h
theorem app_below {B n : Nat} {x w6 : World} {v : Value} {xs : List Value} {tmp : Obj} (hB : B ≤ x.heap.size) (h : x.ownsRow B 3 1 v n xs) (hgrow : (x.alloc tmp).grownBy w6 v.ownBlock) : Below B x w6 := by
  refine ((Below.refl B x).alloc hB tmp).grown hgrow (by simp; omega) (fun k hk => ?_)
  rcases h.2 with ⟨rfl, _⟩ | ⟨g, cap, cur, rfl, hg, hh, _⟩
  · simp [Value.ownBlock] at hk
  · simp only [Value.ownBlock, Option.some.injEq] at hk
    omega
theorem RowX.ints {x : World} {B n cap : Nat} {a : Option Addr} {l : List Int} (h : x.ownsRow B 3 1 (.slice a n cap) n (l.map (Value.int .i64))) (hn : n = l.length) : IntsIn x a l := fun i hi => by
  subst hn
  rcases h.2 with ⟨hv, h1⟩ | ⟨g, cap', cur, hv, h1, h2, h3, h4, h5, h6⟩
  · omega
  · obtain ⟨rfl, rfl⟩ : a = some ⟨g, 0, none⟩ ∧ cap = cap' := by simpa using hv
    refine ⟨g, 0, rfl, lt_of_block h2, ?_⟩
    have : (cur.toList.take (l.length * 1))[i]? = some (.int .i64 l[i]) := by rw [h6]; simp [hi]
    rw [List.getElem?_take, if_pos (by omega)] at this
    simpa [World.cell?, h2] using this
theorem own_lt {w : World} {B g n cap : Nat} {xs : List Value} (h : w.ownsRow B 3 1 (.slice (some ⟨g, 0, none⟩) n cap) n xs) : g < w.heap.size := by
  obtain ⟨cur, h1, _⟩ := ownsRow_block h
  exact lt_of_block h1
theorem SF.can0 {S L : List _} {w0 W : World} {p n cap : Nat} {a : Option Addr} {st : Sough.Store} {f : Sough.Flg} {known : List Int} {x : Int} {v : Bool} (h : SF S w0 W p st L) (hi : IntsIn W a known) (hn : n = known.length) (hn9 : n ≤ 1000000) (hv : Sough.canK st known f x = (v, 0)) :
    Calls Try.prog 22 #[.pointer (some ⟨p, 0, none⟩), .slice a n cap, .agg #[.bool f.dh, .bool f.kem], .int .i64 x] W fun e w' => e = .returned (.tuple #[.bool v, .int .i64 0]) ∧ Below W.heap.size W w' := by
  obtain ⟨S1, h1, _⟩ := h.store
  subst hn
  exact kcan_at h1 h.ok hi (by omega) hv
end Go.Proofs.Ytlfgempjjoclbaa
