/- A region that draws its order, by an invariant over what has come up: for regions whose operations make memory or write it. No program in sight. -/
import Derived.BigQuiet
import Derived.Below
namespace Go
open Go.RowKit

theorem ready_mem {md : Region.Mode} {ops : Array Oper} {listed : Array Bool} {i : Nat} (h : i ∈ Region.ready md ops listed) : i < ops.size ∧ listed.getD i true = false ∧ ∀ o, ops[i]? = some o → (o.after.all fun e => !Region.binds md e || listed.getD e.on false) = true := by
  unfold Region.ready at h
  rw [List.mem_filter] at h
  obtain ⟨h1, h2⟩ := h
  rw [Bool.and_eq_true] at h2
  refine ⟨List.mem_range.1 h1, by simpa using h2.1, fun o ho => ?_⟩
  have := h2.2
  rw [ho] at this
  simpa using this

def openOps (ops : Array Oper) (listed : Array Bool) : List Nat := (List.range ops.size).filter fun i => !listed.getD i true

theorem all_listed {md : Region.Mode} {ops : Array Oper} {listed : Array Bool} (hs : listed.size = ops.size) (hafter : ∀ (i : Nat) (o : Oper), ops[i]? = some o → ∀ e ∈ o.after, Region.binds md e = true → e.on < i) (h : Region.ready md ops listed = []) : ∀ i, i < ops.size → listed.getD i true = true := by
  intro i
  induction i using Nat.strongRecOn with
  | _ i ih =>
    intro hi
    apply Decidable.byContradiction
    intro hn
    have hn' : listed.getD i true = false := by simpa using hn
    have : i ∈ Region.ready md ops listed := by
      unfold Region.ready
      rw [List.mem_filter]
      refine ⟨List.mem_range.2 hi, ?_⟩
      rw [Bool.and_eq_true]
      refine ⟨by simpa using hn', ?_⟩
      have ho : ops[i]? = some ops[i] := Array.getElem?_eq_getElem hi
      rw [ho]
      simp only [Option.map_some, Option.getD_some]
      rw [Array.all_eq_true]
      intro j hj
      by_cases hb : Region.binds md ops[i].after[j] = true
      · have hlt := hafter i ops[i] ho ops[i].after[j] (Array.getElem_mem hj) hb
        have := ih _ hlt (by omega)
        have hgd : listed.getD ops[i].after[j].on false = listed.getD ops[i].after[j].on true := by
          simp only [Array.getD, hs, show ops[i].after[j].on < ops.size by omega, dif_pos]
        rw [hgd, this]; simp
      · have : Region.binds md ops[i].after[j] = false := by simpa using hb
        rw [this]; simp
    rw [h] at this
    simp at this

theorem wp_region_inv {P : Program} {id : Nat} {ops : Array Oper} {Q : Exit → Act → World → Prop} {a : Act} {w : World} (I : (Nat → Bool) → Act → World → Prop) (hm : P.follows .mixedOrders = true)
    (hafter : ∀ (i : Nat) (o : Oper), ops[i]? = some o → ∀ e ∈ o.after, Region.binds .any e = true → e.on < i)
    (h0 : ∀ L, (∀ i, i < ops.size → L i = false) → I L a w.drew)
    (hstep : ∀ (i : Nat) (o : Oper) (L : Nat → Bool) (a : Act) (w : World), ops[i]? = some o → L i = false → (o.after.all fun e => !Region.binds .any e || L e.on) = true → I L a w → wpOp P ops Q i (I (fun j => L j || j == i)) a w)
    (hend : ∀ (L : Nat → Bool) (a : Act) (w : World), (∀ i, i < ops.size → L i = true) → I L a w → Q .normal a w) : (Code.region id ops true).wp P Q a w := by
  refine wp_region_any hm ?_
  have main : ∀ (fuel : Nat) (listed : Array Bool) (a : Act) (w : World), listed.size = ops.size → (openOps ops listed).length ≤ fuel → I (fun j => listed.getD j false) a w → wpAny P .any ops Q fuel listed a w := by
    intro fuel
    induction fuel with
    | zero =>
      intro listed a w hs hc hI
      have hop : openOps ops listed = [] := List.eq_nil_of_length_eq_zero (by omega)
      have hall : ∀ i, i < ops.size → listed.getD i true = true := fun i hi => by
        have := List.filter_eq_nil_iff.1 hop i (List.mem_range.2 hi)
        simpa using this
      refine ⟨?_, hend _ a w (fun i hi => ?_) hI⟩
      · unfold Region.ready
        rw [List.filter_eq_nil_iff]
        intro i hi
        rw [hall i (List.mem_range.1 hi)]
        simp
      · have := hall i hi
        simpa only [Array.getD, hs, hi, dif_pos] using this
    | succ fuel ih =>
      intro listed a w hs hc hI
      refine ⟨fun hr => hend _ a w (fun i hi => ?_) hI, fun i hi => ?_⟩
      · have := all_listed hs hafter hr i hi
        simpa only [Array.getD, hs, hi, dif_pos] using this
      · obtain ⟨h1, h2, h3⟩ := ready_mem hi
        have ho : ops[i]? = some ops[i] := Array.getElem?_eq_getElem h1
        have hli : listed.getD i false = false := by simpa only [Array.getD, hs, h1, dif_pos] using h2
        refine wpOp_mono (fun a' w' hI' => ih (listed.setIfInBounds i true) a' w' (by simpa using hs) ?_ ?_) (hstep i ops[i] _ a w ho hli (h3 _ ho) hI)
        · have hm' : i ∈ openOps ops listed := List.mem_filter.2 ⟨List.mem_range.2 h1, by rw [h2]; rfl⟩
          have hsub : openOps ops (listed.setIfInBounds i true) = (openOps ops listed).filter fun j => !(j == i) := by
            unfold openOps
            rw [List.filter_filter]
            apply List.filter_congr
            intro j hj
            have hj' := List.mem_range.1 hj
            simp only [Array.getD, Array.size_setIfInBounds, hs, hj', dif_pos, Array.getInternal_eq_getElem, Array.getElem_setIfInBounds]
            by_cases e : i = j
            · simp [e]
            · simp [e, Ne.symm e]
          rw [hsub]
          have : ((openOps ops listed).filter fun j => !(j == i)).length < (openOps ops listed).length := List.length_filter_lt_length_iff_exists.2 ⟨i, hm', by simp⟩
          omega
        · have e : (fun j => (listed.setIfInBounds i true).getD j false) = fun j => listed.getD j false || j == i := by
            funext j
            by_cases hj : j < listed.size
            · simp only [Array.getD, Array.size_setIfInBounds, hj, dif_pos, Array.getInternal_eq_getElem, Array.getElem_setIfInBounds]
              by_cases e : i = j
              · simp [e]
              · simp [e, Ne.symm e]
            · have : j ≠ i := by omega
              simp [Array.getD, hj, this]
          rw [e]
          exact hI'
  refine main ops.size _ a _ (by simp) ?_ (h0 _ fun i hi => by simp [Array.getD, hi])
  unfold openOps
  exact Nat.le_trans (List.length_filter_le _ _) (by simp)

end Go
