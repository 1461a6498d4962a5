/- A region that draws its order: quiet operations (calls that make memory among them), and one last operation that waits for all of them and may do anything. No program in sight. -/
import Derived.Test.YtjoanlhdocoddaaRegInv
import Derived.Test.YtjoanlhdocoddaaRegion
namespace Go
open Go.RowKit

section
variable {P : Program} {l : List Oper} {o : Oper} {Q : Exit → Act → World → Prop}

/-- The closed conditions: edges lead back; guards stand ahead of the last one; the last one waits for all. -/
def tailB (l : List Oper) (o : Oper) : Bool :=
  ((l ++ [o]).zipIdx.all fun x => (x.1.after.all fun e => !Region.binds .any e || decide (e.on < x.2)) && (match x.1.guard with | none => true | some (j, _) => decide (j < x.2))) &&
  ((List.range l.length).all fun i => (List.range (l.length + 1)).any fun j => decide (i < j) && (match (l ++ [o])[j]? with | some oj => oj.after.any fun e => Region.binds .any e && e.on == i | none => false))

theorem tail_spec (h : tailB l o = true) : (∀ (i : Nat) (x : Oper), (l ++ [o])[i]? = some x → (∀ e ∈ x.after, Region.binds .any e = true → e.on < i) ∧ ∀ j b, x.guard = some (j, b) → j < i) ∧
    ∀ i, i < l.length → ∃ j x, i < j ∧ j ≤ l.length ∧ (l ++ [o])[j]? = some x ∧ ∃ e ∈ x.after, Region.binds .any e = true ∧ e.on = i := by
  unfold tailB at h
  rw [Bool.and_eq_true] at h
  obtain ⟨h1, h2⟩ := h
  refine ⟨fun i x hx => ?_, fun i hi => ?_⟩
  · have hm : (x, i) ∈ (l ++ [o]).zipIdx := by rw [List.mem_zipIdx_iff_getElem?]; exact hx
    have := List.all_eq_true.1 h1 _ hm
    simp only [Bool.and_eq_true, Array.all_eq_true] at this
    refine ⟨fun e he hb => ?_, fun j b hg => ?_⟩
    · obtain ⟨k, hk, rfl⟩ := Array.getElem_of_mem he
      have := this.1 k hk
      simpa [hb] using this
    · have := this.2
      rw [hg] at this
      simpa using this
  · have := List.all_eq_true.1 h2 i (List.mem_range.2 hi)
    rw [List.any_eq_true] at this
    obtain ⟨j, hj, hw⟩ := this
    rw [Bool.and_eq_true] at hw
    obtain ⟨hw1, hw2⟩ := hw
    split at hw2
    · rename_i x hx
      rw [Array.any_eq_true] at hw2
      obtain ⟨k, hk, hb⟩ := hw2
      rw [Bool.and_eq_true] at hb
      exact ⟨j, x, by simpa using hw1, by have := List.mem_range.1 hj; omega, hx, x.after[k], Array.getElem_mem hk, hb.1, by simpa using hb.2⟩
    · cases hw2

theorem yielded_prefix {tmps : Array Value} {j : Nat} (hj : j < l.length) : yielded (l ++ [o]).toArray tmps j = yielded l.toArray tmps j := by
  unfold yielded
  have : (l ++ [o]).toArray[j]? = l.toArray[j]? := by
    simp only [List.getElem?_toArray]
    exact List.getElem?_append_left hj
  rw [this]
theorem wpOp_prefix (ht : tailB l o = true) {i : Nat} (hi : i < l.length) {K : Act → World → Prop} {a : Act} {w : World} (h : wpOp P l.toArray Q i K a w) : wpOp P (l ++ [o]).toArray Q i K a w := by
  unfold wpOp at h ⊢
  have e : (l ++ [o]).toArray[i]? = l.toArray[i]? := by
    simp only [List.getElem?_toArray]
    exact List.getElem?_append_left hi
  rw [e]
  cases hx : l.toArray[i]? with
  | none => rw [hx] at h; exact h
  | some x =>
    rw [hx] at h
    simp only at h ⊢
    have hy : Region.wanted x (yielded (l ++ [o]).toArray a.tmps) = Region.wanted x (yielded l.toArray a.tmps) := by
      unfold Region.wanted
      cases hg : x.guard with
      | none => rfl
      | some p =>
        obtain ⟨j, b⟩ := p
        have hx' : (l ++ [o])[i]? = some x := by
          have : (l ++ [o]).toArray[i]? = some x := e.trans hx
          simpa using this
        have := ((tail_spec ht).1 i x hx').2 j b hg
        simp only
        rw [yielded_prefix (by omega)]
    rw [hy]
    exact h

theorem push_getD {listed : Array Bool} {b d : Bool} {i : Nat} (h : i < listed.size) : (listed.push b).getD i d = listed.getD i d := by
  simp only [Array.getD_eq_getD_getElem?, Array.getElem?_push]
  rw [if_neg (by omega)]

/-- What is listed stands on what is listed. -/
def Closed (l : List Oper) (o : Oper) (listed : Array Bool) : Prop := ∀ (i : Nat) (x : Oper), (l ++ [o])[i]? = some x → i < l.length → listed.getD i false = true → ∀ e ∈ x.after, Region.binds .any e = true → listed.getD e.on false = true

theorem ready_full {listed : Array Bool} (hs : listed.size = l.length) (ht : tailB l o = true) {i : Nat} (h : i ∈ Region.ready .any (l ++ [o]).toArray (listed.push false)) (hi : i < l.length) : i ∈ Region.ready .any l.toArray listed := by
  obtain ⟨h1, h2, h3⟩ := ready_mem h
  unfold Region.ready
  rw [List.mem_filter]
  refine ⟨List.mem_range.2 (by simpa using hi), ?_⟩
  have e : l.toArray[i]? = some l[i] := by simp [hi]
  have e' : (l ++ [o]).toArray[i]? = some l[i] := by simp [List.getElem?_append_left hi]
  rw [push_getD (by omega)] at h2
  rw [h2, e]
  simp only [Bool.not_false, Bool.true_and, Option.map_some, Option.getD_some]
  have h4 := h3 _ e'
  rw [Array.all_eq_true] at h4 ⊢
  intro k hk
  have := h4 k hk
  by_cases hb : Region.binds .any l[i].after[k] = true
  · have hlt := ((tail_spec ht).1 i l[i] (by simpa using e')).1 l[i].after[k] (Array.getElem_mem hk) hb
    rw [push_getD (by omega)] at this
    exact this
  · have : Region.binds .any l[i].after[k] = false := by simpa using hb
    rw [this]; rfl

theorem last_ready {listed : Array Bool} (hs : listed.size = l.length) (ht : tailB l o = true) (hc : Closed l o listed) (h : l.length ∈ Region.ready .any (l ++ [o]).toArray (listed.push false)) : ∀ i, i < l.length → listed.getD i false = true := by
  obtain ⟨_, _, h3⟩ := ready_mem h
  have ho : (l ++ [o]).toArray[l.length]? = some o := by simp
  have h4 := h3 o ho
  -- from the last one downwards
  have main : ∀ d i, i < l.length → l.length - i ≤ d → listed.getD i false = true := by
    intro d
    induction d with
    | zero => intro i hi hd; omega
    | succ d ih =>
      intro i hi hd
      obtain ⟨j, x, hij, hj, hx, e, he, hb, rfl⟩ := (tail_spec ht).2 i hi
      by_cases hjn : j < l.length
      · exact hc j x hx hjn (ih j hjn (by omega)) e he hb
      · obtain rfl : j = l.length := by omega
        have hxo : x = o := by
          have : (l ++ [o])[l.length]? = some o := by simp
          rw [this] at hx
          exact (Option.some.inj hx).symm
        subst hxo
        rw [Array.all_eq_true] at h4
        obtain ⟨k, hk, rfl⟩ := Array.getElem_of_mem he
        have := h4 k hk
        rw [push_getD (by omega)] at this
        simpa [hb] using this
  intro i hi
  exact main _ i hi (Nat.le_refl _)

theorem no_ready {ops : Array Oper} {listed : Array Bool} (h : ∀ i, i < ops.size → listed.getD i true = true) : Region.ready .any ops listed = [] := by
  unfold Region.ready
  rw [List.filter_eq_nil_iff]
  intro i hi
  rw [h i (List.mem_range.1 hi)]
  simp

theorem letsOut_exits {Q Q' : Exit → Act → World → Prop} (h : ∀ e, e ≠ .normal → ∀ a w, Q e a w → Q' e a w) (hh : LetsOut Q) : LetsOut Q' := by
  obtain ⟨a, w, hq⟩ := hh
  exact ⟨a, w, h _ (by simp) _ _ hq⟩
theorem Oper.wp_exits {o : Oper} {Q Q' : Exit → Act → World → Prop} {K : Act → World → Prop} {a : Act} {w : World} (h : ∀ e, e ≠ .normal → ∀ a w, Q e a w → Q' e a w) (hh : o.wp P a w K Q) : o.wp P a w K Q' := by
  unfold Oper.wp at *
  generalize (execOp a.eval o).run P w = r at *
  cases r with
  | ok n w' =>
    cases n <;> simp only [Oper.upon] at hh ⊢ <;>
      first
        | exact hh
        | exact Calls.mono hh (fun e w'' he => by cases e <;> first | exact he | exact h _ (by simp) _ _ he | exact letsOut_exits h he)
  | halt x w' => cases x <;> simp only [Oper.upon] at hh ⊢ <;> first | exact hh | exact h _ (by simp) _ _ hh | exact letsOut_exits h hh
theorem wpOp_exits {ops : Array Oper} {i : Nat} {Q Q' : Exit → Act → World → Prop} {K : Act → World → Prop} {a : Act} {w : World} (h : ∀ e, e ≠ .normal → ∀ a w, Q e a w → Q' e a w) (hh : wpOp P ops Q i K a w) : wpOp P ops Q' i K a w := by
  unfold wpOp at *
  split
  · simpa [*] using hh
  · rename_i o ho
    simp only [ho] at hh
    split
    · rename_i hw; simp only [hw, if_true] at hh; exact hh.imp (Oper.wp_exits h) (fun hx => ⟨hx.1, letsOut_exits h hx.2⟩)
    · rename_i hw; simp only [hw] at hh; exact hh

/-- The whole region's orders, from those of all but the last. -/
theorem wpAny_tail (ht : tailB l o = true) : ∀ (fuel : Nat) (listed : Array Bool) (a : Act) (w : World), listed.size = l.length → Closed l o listed →
    wpAny P .any l.toArray (fun e a' w' => match e with | .normal => wpOp P (l ++ [o]).toArray Q l.length (Q .normal) a' w' | e => Q e a' w') fuel listed a w → wpAny P .any (l ++ [o]).toArray Q (fuel + 1) (listed.push false) a w := by
  have hafter : ∀ (i : Nat) (x : Oper), (l ++ [o]).toArray[i]? = some x → ∀ e ∈ x.after, Region.binds .any e = true → e.on < i := fun i x hx => ((tail_spec ht).1 i x (by simpa using hx)).1
  have hlast : ∀ (fuel : Nat) (listed : Array Bool) (a : Act) (w : World), listed.size = l.length → (∀ i, i < l.length → listed.getD i false = true) → wpOp P (l ++ [o]).toArray Q l.length (Q .normal) a w → wpOp P (l ++ [o]).toArray Q l.length (wpAny P .any (l ++ [o]).toArray Q fuel ((listed.push false).setIfInBounds l.length true)) a w := by
    intro fuel listed a w hs hall h
    refine wpOp_mono (fun a' w' hq => ?_) h
    have hr : Region.ready .any (l ++ [o]).toArray ((listed.push false).setIfInBounds l.length true) = [] := no_ready fun i hi => by
      have hi' : i < l.length + 1 := by simpa using hi
      by_cases e : i = l.length
      · subst e
        simp [Array.getD_eq_getD_getElem?, hs]
      · have := hall i (by omega)
        have h2 : listed.getD i true = true := by
          simp only [Array.getD_eq_getD_getElem?, Array.getElem?_eq_getElem (show i < listed.size by omega), Option.getD_some] at this ⊢
          exact this
        simp only [Array.getD_eq_getD_getElem?, Array.getElem?_setIfInBounds, Array.getElem?_push]
        rw [if_neg (Ne.symm e), if_neg (by omega)]
        simpa only [Array.getD_eq_getD_getElem?] using h2
    cases fuel with
    | zero => exact ⟨hr, hq⟩
    | succ fuel => exact ⟨fun _ => hq, fun i hi => by rw [hr] at hi; simp at hi⟩
  have hempty : ∀ listed : Array Bool, listed.size = l.length → Region.ready .any (l ++ [o]).toArray (listed.push false) ≠ [] := fun listed hs he => by
    have := all_listed (by simp [hs]) hafter he l.length (by simp)
    simp [Array.getD_eq_getD_getElem?, ← hs] at this
  have hpre : ∀ listed : Array Bool, listed.size = l.length → Region.ready .any l.toArray listed = [] → ∀ i, i < l.length → listed.getD i false = true := fun listed hs he i hi => by
    have := all_listed (by simpa using hs) (fun i x hx e hee hb => ((tail_spec ht).1 i x (by
      have hi' := (Array.getElem?_eq_some_iff.1 hx).1
      rw [List.getElem?_append_left (by simpa using hi')]; simpa using hx)).1 e hee hb) he i (by simpa using hi)
    simp only [Array.getD_eq_getD_getElem?, Array.getElem?_eq_getElem (show i < listed.size by omega), Option.getD_some] at this ⊢
    exact this
  intro fuel
  induction fuel with
  | zero =>
    intro listed a w hs hc h
    refine ⟨fun he => absurd he (hempty listed hs), fun i hi => ?_⟩
    have hall := hpre listed hs h.1
    by_cases hin : i < l.length
    · have := ready_full hs ht hi hin
      rw [h.1] at this
      simp at this
    · have : i = l.length := by have := (ready_mem hi).1; simp at this; omega
      subst this
      exact hlast 0 listed a w hs hall h.2
  | succ fuel ih =>
    intro listed a w hs hc h
    refine ⟨fun he => absurd he (hempty listed hs), fun i hi => ?_⟩
    by_cases hin : i < l.length
    · have hr := ready_full hs ht hi hin
      have h2 := h.2 i hr
      have hpsh : (listed.push false).setIfInBounds i true = (listed.setIfInBounds i true).push false := by
        apply Array.ext
        · simp
        · intro k hk1 hk2
          have h1 : ((listed.push false).setIfInBounds i true)[k]? = ((listed.setIfInBounds i true).push false)[k]? := by
            simp only [Array.getElem?_setIfInBounds, Array.getElem?_push, Array.size_push, Array.size_setIfInBounds]
            by_cases e : i = k
            · subst e
              rw [if_pos rfl, if_pos (by omega), if_neg (by omega), if_pos rfl, if_pos (by omega)]
            · rw [if_neg e]
              by_cases e2 : k = listed.size
              · rw [if_pos e2, if_pos e2]
              · rw [if_neg e2, if_neg e2, if_neg e]
          rw [Array.getElem?_eq_getElem hk1, Array.getElem?_eq_getElem hk2] at h1
          exact Option.some.inj h1
      rw [hpsh]
      have hc' : Closed l o (listed.setIfInBounds i true) := fun j x hx hj hLj e he hb => by
        have hgd : ∀ k, k < l.length → (listed.setIfInBounds i true).getD k false = if i = k then true else listed.getD k false := fun k hk => by
          simp only [Array.getD_eq_getD_getElem?, Array.getElem?_setIfInBounds]
          by_cases e : i = k
          · subst e; simp [hs, hk]
          · simp [e]
        have hlt := ((tail_spec ht).1 j x hx).1 e he hb
        rw [hgd _ (by omega)]
        rw [hgd j hj] at hLj
        split
        · rfl
        · by_cases e2 : i = j
          · subst e2
            obtain ⟨_, _, h3⟩ := ready_mem hr
            have hx' : l.toArray[i]? = some x := by
              rw [List.getElem?_append_left hin] at hx
              simpa using hx
            have h4 := h3 x hx'
            rw [Array.all_eq_true] at h4
            obtain ⟨k, hk, rfl⟩ := Array.getElem_of_mem he
            simpa [hb] using h4 k hk
          · rw [if_neg e2] at hLj
            exact hc j x hx hj hLj e he hb
      refine wpOp_mono (fun a' w' hh => ih _ a' w' (by simpa using hs) hc' hh) (wpOp_prefix ht hin ?_)
      -- panics are asked alike
      exact wpOp_exits (fun e he a w h => by cases e <;> first | exact absurd rfl he | exact h) h2
    · have : i = l.length := by have := (ready_mem hi).1; simp at this; omega
      subst this
      have hall := last_ready hs ht hc hi
      have he : Region.ready .any l.toArray listed = [] := no_ready fun i hi => by
        have := hall i (by simpa using hi)
        simp only [Array.getD_eq_getD_getElem?, Array.getElem?_eq_getElem (show i < listed.size by simp at hi; omega), Option.getD_some] at this ⊢
        exact this
      exact hlast (fuel + 1) listed a w hs hall (h.1 he)

/-- **Quiet operations in any order, then the last one.** -/
theorem wp_region_later_tail {id : Nat} {a : Act} {w : World} (hm : P.follows .mixedOrders = true) (hB : Region.lexB .any l.toArray = true) (ht : tailB l o = true) (hg : o.guard = none)
    (h : wpQuiet P l.toArray (fun w' => ∃ x : Later w, w' = x.world) (fun a' => ∀ x : Later w, wpList P (l ++ [o]).toArray Q [o] a' x.world) l a) : (Code.region id (l ++ [o]).toArray true).wp P Q a w := by
  refine wp_region_any hm ?_
  simp only [Region.lexB, Bool.and_eq_true] at hB
  have h1 := wpAnyQ_lex (C := fun w' => ∃ x : Later w, w' = x.world) (md := .any) hB.1 l 0 (Array.replicate l.toArray.size false) a (by simp) (by simpa using hB.2) h
  have h2 := wpAny_of_quiet (Q := fun a' => ∀ x : Later w, wpList P (l ++ [o]).toArray Q [o] a' x.world) (Q' := fun e a' w' => match e with | .normal => wpOp P (l ++ [o]).toArray Q l.length (Q .normal) a' w' | e => Q e a' w') (fun a' w' ⟨x, hx⟩ hq => by
    subst hx
    unfold wpOp
    have : (l ++ [o]).toArray[l.length]? = some o := by simp
    rw [this]
    have h := hq x
    simp only [wpList, Region.wanted, hg, if_true] at h ⊢
    exact h) _ _ _ { w with drawn := w.drawn + 1 } ⟨⟨_, (Below.refl _ w).drew⟩, rfl⟩ h1
  have h3 := wpAny_tail ht l.length (Array.replicate l.toArray.size false) a _ (by simp) (fun i x hx hi hL => by simp [Array.getD_eq_getD_getElem?, hi] at hL) (by simpa using h2)
  have e1 : (l ++ [o]).toArray.size = l.length + 1 := by simp
  have e2 : (Array.replicate l.toArray.size false).push false = Array.replicate (l ++ [o]).toArray.size false := by
    rw [e1]; simp [← Array.replicate_succ]
  rw [e2] at h3
  rw [e1] at h3 ⊢
  exact h3

/-- .. at a list of operations as the program has it. -/
theorem wp_region_later_last (n : Nat) {id : Nat} {ops : Array Oper} {a : Act} {w : World} (hs : ops.size = n + 1) (hm : P.follows .mixedOrders = true) (hB : Region.lexB .any (ops.toList.take n).toArray = true) (ht : tailB (ops.toList.take n) (ops[n]'(by omega)) = true) (hg : (ops[n]'(by omega)).guard = none)
    (h : wpQuiet P (ops.toList.take n).toArray (fun w' => ∃ x : Later w, w' = x.world) (fun a' => ∀ x : Later w, wpList P ops Q [ops[n]'(by omega)] a' x.world) (ops.toList.take n) a) : (Code.region id ops true).wp P Q a w := by
  have e : (ops.toList.take n ++ [ops[n]'(by omega)]).toArray = ops := by
    apply Array.ext'
    simp only
    have h2 : ops.toList[n]'(by simp; omega) = ops[n]'(by omega) := by simp
    rw [← h2, ← List.take_succ_eq_append_getElem (by simp; omega), List.take_of_length_le (by simp; omega)]
  have := wp_region_later_tail (P := P) (Q := Q) (l := ops.toList.take n) (o := ops[n]'(by omega)) (id := id) (a := a) (w := w) hm hB ht hg (by rw [e]; exact h)
  rwa [e] at this
end

end Go
