/- A mind that is being begun (layer 8): what its blocks hold. -/
import Derived.Test.YtlfgempjjoclbaaLKnAll
import Derived.Test.YtlfgempjjoclbaaG1
import Derived.Laws.OwnMore
namespace Sough
theorem lastOf_succ (st : Store) (p : Term → Bool) (i : Nat) : lastOf st p (i + 1) = if 1 ≤ i ∧ p (st.at i) = true then i else lastOf st p i := rfl
theorem lastOf_one (st : Store) (p : Term → Bool) : lastOf st p 1 = 0 := by
  rw [lastOf_succ, if_neg (by omega)]; rfl
theorem at_zero (st : Store) : st.at (0 : Nat) = zeroT := by
  unfold Store.at Store.has; simp
end Sough
namespace Go.Proofs.Ytlfgempjjoclbaa
open Go.RowKit Go.Maps Go.ChangeMaps
def tC (st : Sough.Store) (n i : Nat) : List Value := ((List.range n).map fun (j : Nat) => if j < i then st.at j else Sough.zeroT).flatMap termC
def pC (st : Sough.Store) (n i : Nat) : List Value := (List.range n).map fun a => Value.int .i64 ((Sough.pubTo st i a : Nat) : Int)
def kC (st : Sough.Store) (n i : Nat) : List Value := (List.range n).map fun a => Value.int .i64 ((Sough.kpubTo st i a : Nat) : Int)
def BoxT (w : World) (mb : Nat) (st : Sough.Store) (i : Nat) : Prop := ∃ D : DataW Unit, Tidy D ∧ w.ownsMap Try.prog 26 (plainElem (H := Unit) Try.prog 3) mb i D ∧ ∀ a b, Sough.Int64 a → Sough.Int64 b → D.atKey (keyB a b) (mkI 0) = mkI (Sough.boxTo st i a b)
theorem BoxT.at {w : World} {mb i : Nat} {st : Sough.Store} (h : BoxT w mb st i) : BoxAt w mb st i := by
  obtain ⟨D, _, h2, h3⟩ := h
  exact ⟨D, h2, h3⟩
theorem BoxT.same {w w' : World} {mb i : Nat} {st : Sough.Store} (h : BoxT w mb st i) (e : w'.heap[mb]? = w.heap[mb]?) : BoxT w' mb st i := by
  obtain ⟨D, h0, ⟨es, clock, hh, F, hs, hD⟩, h2⟩ := h
  exact ⟨D, h0, ⟨es, clock, e.trans hh, F, hs, hD⟩, h2⟩
theorem BoxT.lt {w : World} {mb i : Nat} {st : Sough.Store} (h : BoxT w mb st i) : mb < w.heap.size := by
  obtain ⟨D, h0, ⟨es, clock, hh, F, hs, hD⟩, h2⟩ := h
  exact lt_of_block hh
theorem BoxT.no {w : World} {mb i : Nat} {st : Sough.Store} (h : BoxT w mb st i) {o : Array Value} {T : TypeId} {b : Nat} (hb : w.heap[b]? = some (.cells o T (0, 0))) : mb ≠ b := by
  obtain ⟨D, h0, ⟨es, clock, hh, F, hs, hD⟩, h2⟩ := h
  rintro rfl
  rw [hh] at hb
  simp at hb
theorem BoxT.next {w : World} {mb i : Nat} {st : Sough.Store} (h : BoxT w mb st i) (hk : (st.at i).k ≠ 6) : BoxT w mb st (i + 1) := by
  obtain ⟨D, h0, ⟨es, clock, hh, F, hs, hD⟩, h2⟩ := h
  refine ⟨D, h0, ⟨es, clock, hh, F, by omega, hD⟩, fun a b ha hb => ?_⟩
  rw [h2 a b ha hb]
  unfold Sough.boxTo
  rw [Sough.lastOf_succ, if_neg (by simp [hk])]
set_option maxRecDepth 100000 in
theorem boxTo_put {st : Sough.Store} {i : Nat} {D : DataW Unit} {ta tb : Nat} (h1 : 1 ≤ i) (ht : Tidy D) (hk : (st.at i).k = 6) (ha : (st.at i).a = ta) (hb : (st.at i).b = tb) (ha2 : ta < 1048577) (hb2 : tb < 1048577) (h : ∀ a b, Sough.Int64 a → Sough.Int64 b → D.atKey (keyB a b) (mkI 0) = mkI (Sough.boxTo st i a b)) :
    Tidy (D.put (keyB ta tb) (mkI i)) ∧ ∀ a b, Sough.Int64 a → Sough.Int64 b → (D.put (keyB ta tb) (mkI i)).atKey (keyB a b) (mkI 0) = mkI (Sough.boxTo st (i + 1) a b) := by
  have i1 : Sough.Int64 (ta : Int) := ⟨by omega, by omega⟩
  have i2 : Sough.Int64 (tb : Int) := ⟨by omega, by omega⟩
  refine ⟨ht.put (isKeyB i1 i2) _, fun a b ha' hb' => ?_⟩
  unfold Sough.boxTo
  rw [Sough.lastOf_succ]
  by_cases e : (ta : Int) = a ∧ (tb : Int) = b
  · obtain ⟨rfl, rfl⟩ := e
    rw [atKey_put_same ht.isMap (isKeyB i1 i2), if_pos ⟨h1, by simp [hk, ha, hb]⟩]
  · rw [atKey_put_other (fun e' => e ((keyB_inj ha' hb' i1 i2 e').imp Eq.symm Eq.symm)), h a b ha' hb', if_neg (by simp [hk, ha, hb]; intro _ x; exact fun y => e ⟨x, y⟩)]
    rfl
theorem tC_len (st : Sough.Store) (n i : Nat) : (tC st n i).length = n * 6 := by
  unfold tC
  rw [List.length_flatMap, List.map_map]
  have : (List.map ((fun a => (termC a).length) ∘ fun (j : Nat) => if j < i then st.at j else Sough.zeroT) (List.range n)) = List.replicate n 6 := by
    rw [List.eq_replicate_iff]
    exact ⟨by simp, by simp [termC]⟩
  rw [this, List.sum_replicate_nat]
theorem tC_at (st : Sough.Store) {n i q r : Nat} (hq : q < n) (hr : r < 6) : (tC st n i)[q * 6 + r]? = (termC (if q < i then st.at q else Sough.zeroT))[r]? := by
  unfold tC
  rw [flat6 q r hr _ (by simpa using hq)]
  simp
theorem tC_end (st : Sough.Store) (n : Nat) : tC st n n = termsC st n := by
  unfold tC termsC
  congr 1
  refine List.map_congr_left fun j hj => ?_
  rw [if_pos (List.mem_range.1 hj)]
theorem tC_set (st : Sough.Store) {n i : Nat} (hi : i < n) {t : Sough.Term} (ht : st.at i = t) :
    ((((((tC st n i).set (i * 6) (.int .i64 t.k)).set (i * 6 + 1) (.string ⟨t.s.toArray⟩)).set (i * 6 + 2) (.int .u64 t.n)).set (i * 6 + 3) (.int .i64 t.a)).set (i * 6 + 4) (.int .i64 t.b)).set (i * 6 + 5) (.int .i64 t.c) = tC st n (i + 1) := by
  subst ht
  refine List.ext_getElem? fun m => ?_
  by_cases hm : m < n * 6
  · have hq : m / 6 < n := by omega
    have hr : m % 6 < 6 := Nat.mod_lt _ (by omega)
    have e : m = m / 6 * 6 + m % 6 := by omega
    generalize m / 6 = q at hq e
    generalize m % 6 = r at hr e
    subst e
    rw [tC_at st hq hr]
    have hl := tC_len st n i
    simp only [List.getElem?_set, List.length_set, hl]
    rw [tC_at st hq hr]
    by_cases hqi : q = i
    · subst hqi
      rw [if_neg (by omega : ¬ q < q), if_pos (by omega : q < q + 1)]
      rcases (show r = 0 ∨ r = 1 ∨ r = 2 ∨ r = 3 ∨ r = 4 ∨ r = 5 by omega) with rfl | rfl | rfl | rfl | rfl | rfl
      all_goals
        simp only [Nat.add_zero, Nat.add_left_cancel_iff, Nat.reduceEqDiff, if_false, if_true, Nat.add_eq_left, Nat.left_eq_add, (show ∀ k, k < 6 → (q * 6 + k < n * 6) = True from fun k hk => by simp; omega), (show (q * 6 < n * 6) = True by simp; omega), Nat.reduceLT, termC]
        simp
    · rw [if_neg (by omega), if_neg (by omega), if_neg (by omega), if_neg (by omega), if_neg (by omega), if_neg (by omega)]
      by_cases h1 : q < i
      · rw [if_pos h1, if_pos (by omega)]
      · rw [if_neg h1, if_neg (by omega)]
  · rw [List.getElem?_eq_none (by simp [tC_len]; omega), List.getElem?_eq_none (by rw [tC_len]; omega)]
theorem pC_next (st : Sough.Store) {n i : Nat} (hk : (st.at i).k ≠ 3) : pC st n (i + 1) = pC st n i := by
  unfold pC
  refine List.map_congr_left fun a _ => ?_
  unfold Sough.pubTo
  rw [Sough.lastOf_succ, if_neg (by simp [hk])]
theorem kC_next (st : Sough.Store) {n i : Nat} (hk : (st.at i).k ≠ 5) : kC st n (i + 1) = kC st n i := by
  unfold kC
  refine List.map_congr_left fun a _ => ?_
  unfold Sough.kpubTo
  rw [Sough.lastOf_succ, if_neg (by simp [hk])]
theorem pC_set (st : Sough.Store) {n i ta : Nat} (h1 : 1 ≤ i) (ha : ta < n) (hk : (st.at i).k = 3) (hta : (st.at i).a = ta) : (pC st n i).set ta (.int .i64 i) = pC st n (i + 1) := by
  unfold pC
  refine List.ext_getElem (by simp) fun m hm1 hm2 => ?_
  have hm : m < n := by simpa using hm2
  rw [List.getElem_set]
  simp only [List.getElem_map, List.getElem_range]
  unfold Sough.pubTo
  rw [Sough.lastOf_succ]
  by_cases e : ta = m
  · subst e; rw [if_pos rfl, if_pos ⟨h1, by simp [hk, hta]⟩]
  · rw [if_neg e, if_neg (by simp [hk, hta]; intro _; omega)]
theorem kC_set (st : Sough.Store) {n i ta : Nat} (h1 : 1 ≤ i) (ha : ta < n) (hk : (st.at i).k = 5) (hta : (st.at i).a = ta) : (kC st n i).set ta (.int .i64 i) = kC st n (i + 1) := by
  unfold kC
  refine List.ext_getElem (by simp) fun m hm1 hm2 => ?_
  have hm : m < n := by simpa using hm2
  rw [List.getElem_set]
  simp only [List.getElem_map, List.getElem_range]
  unfold Sough.kpubTo
  rw [Sough.lastOf_succ]
  by_cases e : ta = m
  · subst e; rw [if_pos rfl, if_pos ⟨h1, by simp [hk, hta]⟩]
  · rw [if_neg e, if_neg (by simp [hk, hta]; intro _; omega)]
theorem made1 (z : Value) (n : Nat) : madeCells #[z] n = (List.replicate n z).toArray := by
  refine Array.ext (by simp [size_madeCells]) fun i h1 h2 => ?_
  simp [madeCells, Nat.mod_one]
theorem made_tC (st : Sough.Store) (n : Nat) : madeCells (termC Sough.zeroT).toArray (n * 6) = (tC st n 1).toArray := by
  refine Array.ext (by simp [size_madeCells, tC_len]) fun m h1 h2 => ?_
  have hm : m < n * 6 := by simpa [size_madeCells] using h1
  have hq : m / 6 < n := by omega
  have hr : m % 6 < 6 := Nat.mod_lt _ (by omega)
  have e : m = m / 6 * 6 + m % 6 := by omega
  have h3 := tC_at st (i := 1) hq hr
  rw [← e] at h3
  have h4 : (if m / 6 < 1 then st.at ((m / 6 : Nat) : Int) else Sough.zeroT) = Sough.zeroT := by
    split
    · rename_i h; have : m / 6 = 0 := by omega
      rw [this]; exact Sough.at_zero st
    · rfl
  rw [h4, List.getElem?_eq_getElem (by rw [tC_len]; exact hm)] at h3
  have h5 : (tC st n 1)[m]'(by rw [tC_len]; exact hm) = (termC Sough.zeroT)[m % 6]'(by simpa [termC] using hr) := by
    rw [List.getElem?_eq_getElem (by simpa [termC] using hr)] at h3
    exact Option.some.inj h3
  simp only [List.getElem_toArray, h5]
  simp only [madeCells, Array.getElem_map, Array.getElem_range]
  have key : ∀ r (h : r < 6), (termC Sough.zeroT).toArray[r]! = (termC Sough.zeroT)[r]'(by simpa [termC] using h) := by
    intro r h
    rcases (show r = 0 ∨ r = 1 ∨ r = 2 ∨ r = 3 ∨ r = 4 ∨ r = 5 by omega) with rfl | rfl | rfl | rfl | rfl | rfl <;> rfl
  exact key _ hr
theorem rep_pC (st : Sough.Store) (n : Nat) : List.replicate n (Value.int .i64 0) = pC st n 1 := by
  unfold pC Sough.pubTo
  refine List.ext_getElem (by simp) fun m h1 h2 => ?_
  simp [Sough.lastOf_one]
theorem rep_kC (st : Sough.Store) (n : Nat) : List.replicate n (Value.int .i64 0) = kC st n 1 := by
  unfold kC Sough.kpubTo
  refine List.ext_getElem (by simp) fun m h1 h2 => ?_
  simp [Sough.lastOf_one]
theorem heap_alloc_map (w : World) : (w.alloc (.map #[] 0)).heap[w.heap.size]? = some (.map #[] 0) := (MapKept.heap_alloc w _).1
theorem BoxT.start {w : World} {mb : Nat} {st : Sough.Store} (h : w.heap[mb]? = some (.map #[] 0)) : BoxT w mb st 1 :=
  by
  have hm := World.ownsMap_made w Try.prog 26 (plainElem (H := Unit) Try.prog 3)
  obtain ⟨es, clock, hh, F, _, _⟩ := hm
  rw [heap_alloc_map] at hh
  obtain ⟨rfl, rfl⟩ : #[] = es ∧ 0 = clock := by simpa using hh
  exact ⟨.map [], tidy_empty, ⟨#[], 0, h, F, Nat.zero_le _, rfl⟩, fun a b _ _ => by unfold Sough.boxTo; rw [Sough.lastOf_one]; rfl⟩
end Go.Proofs.Ytlfgempjjoclbaa
