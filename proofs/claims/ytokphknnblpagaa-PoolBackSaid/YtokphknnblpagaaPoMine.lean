/- Plain law: a message's parts are put to a pool, in whatever order. No program in sight. -/
import Derived.Test.YtokphknnblpagaaPoAns
import Derived.Test.YtokphknnblpagaaSpFrag
namespace Sough

/-- Members that are all different are no more than those of a list that has them; nor is their sum more. -/
theorem sum_sub {f : Nat → Nat} : ∀ {l l' : List Nat}, l.Nodup → (∀ x ∈ l, x ∈ l') → (l.map f).sum ≤ (l'.map f).sum
  | [], _, _, _ => by simp
  | x :: l, l', hn, hs => by
    rw [List.nodup_cons] at hn
    have hx : x ∈ l' := hs x (List.mem_cons_self ..)
    have ih := sum_sub (f := f) (l' := l'.erase x) hn.2 fun y hy => (List.mem_erase_of_ne (fun e => hn.1 (by rw [← e]; exact hy))).2 (hs y (List.mem_cons_of_mem _ hy))
    have hp := (List.perm_cons_erase hx).map f
    have := hp.sum_nat
    simp only [List.map_cons, List.sum_cons] at this ⊢
    omega
theorem len_sub {l l' : List Nat} (hn : l.Nodup) (hs : ∀ x ∈ l, x ∈ l') : l.length ≤ l'.length := by
  have h := sum_sub (f := fun _ => 1) hn hs
  have e : ∀ l : List Nat, (l.map fun _ => 1).sum = l.length := fun l => by induction l with
    | nil => rfl
    | cons x l ih => simp only [List.map_cons, List.sum_cons, List.length_cons, ih]; omega
  rw [e, e] at h
  exact h

/-- An order of so many parts. -/
structure Idx (idx : List Nat) (m : Nat) : Prop where
  nodup : idx.Nodup
  len : idx.length = m
  lt : ∀ j ∈ idx, j < m

theorem Idx.all {idx : List Nat} {m : Nat} (h : Idx idx m) {k : Nat} (hk : k < m) : k ∈ idx := by
  apply Decidable.byContradiction
  intro hne
  have := len_sub (l := k :: idx) (l' := List.range m) (List.nodup_cons.2 ⟨hne, h.nodup⟩) fun x hx => by
    rcases List.mem_cons.1 hx with rfl | hx
    · exact List.mem_range.2 hk
    · exact List.mem_range.2 (h.lt x hx)
  simp only [List.length_cons, List.length_range, h.len] at this
  omega
theorem Idx.range (m : Nat) : Idx (List.range m) m := ⟨List.nodup_range, List.length_range, fun _ h => List.mem_range.1 h⟩

def pp (part : Nat → List UInt8) (idx : List Nat) (k : Nat) : List (Nat × List UInt8) := (idx.take k).map fun j => (j, part j)
theorem pp_zero (part : Nat → List UInt8) (idx : List Nat) : pp part idx 0 = [] := by simp [pp]
theorem pp_succ {part : Nat → List UInt8} {idx : List Nat} {k : Nat} (hk : k < idx.length) : pp part idx (k + 1) = pp part idx k ++ [(idx[k], part idx[k])] := by
  unfold pp
  rw [List.take_succ_eq_append_getElem hk, List.map_append]
  rfl
theorem pp_len {part : Nat → List UInt8} {idx : List Nat} {k : Nat} (hk : k ≤ idx.length) : (pp part idx k).length = k := by simp [pp]; omega
theorem pp_has {part : Nat → List UInt8} {idx : List Nat} {m k : Nat} (h : Idx idx m) (hk : k < idx.length) : ((pp part idx k).any fun p => p.1 == idx[k]) = false := by
  rw [List.any_eq_false]
  intro p hp
  obtain ⟨j, hj, rfl⟩ := List.mem_map.1 hp
  obtain ⟨i, hi, e⟩ := List.getElem_of_mem hj
  rw [List.length_take] at hi
  rw [List.getElem_take] at e
  have : j ≠ idx[k] := fun e' => List.pairwise_iff_getElem.1 h.nodup i k (by omega) hk (by omega) (e.trans e')
  simpa using this
theorem pp_was {part : Nat → List UInt8} {idx : List Nat} {k j : Nat} (hj : j < k) (hk : k ≤ idx.length) : ((pp part idx k).any fun p => p.1 == idx[j]) = true :=
  List.any_eq_true.2 ⟨(idx[j], part idx[j]), List.mem_map.2 ⟨idx[j], List.mem_take_iff_getElem.2 ⟨j, by omega, rfl⟩, rfl⟩, by simp⟩
theorem pp_sum {part : Nat → List UInt8} {idx : List Nat} {m k : Nat} (h : Idx idx m) : psum (pp part idx k) ≤ ((List.range m).map fun j => (part j).length).sum := by
  unfold psum pp
  rw [List.map_map]
  exact sum_sub ((List.take_sublist _ _).nodup h.nodup) fun x hx => List.mem_range.2 (h.lt x (List.mem_of_mem_take hx))
theorem pp_whole {part : Nat → List UInt8} {idx : List Nat} {m : Nat} (h : Idx idx m) : whole (pp part idx m) m = (List.range m).flatMap part := by
  unfold whole
  rw [List.flatMap_def, List.flatMap_def]
  congr 1
  apply List.map_congr_left
  intro k hk
  have hk' := h.all (List.mem_range.1 hk)
  unfold partAt pp
  rw [List.take_of_length_le (by rw [h.len]; exact Nat.le_refl _)]
  have : ((idx.map fun j => (j, part j)).find? fun p => p.1 == k) = some (k, part k) := by
    rw [List.find?_map]
    have : (idx.find? ((fun p : Nat × List UInt8 => p.1 == k) ∘ fun j => (j, part j))) = some k := by
      have e : ((fun p : Nat × List UInt8 => p.1 == k) ∘ fun j => (j, part j)) = fun j => j == k := by funext j; rfl
      rw [e]
      cases hf : idx.find? (fun j => j == k) with
      | none => exact absurd (List.find?_eq_none.1 hf k hk') (by simp)
      | some x => have := List.find?_some hf; simp at this; rw [this]
    rw [this]; rfl
  rw [this]; rfl

/-- The message under way: there as soon as a part came. -/
def mine (d m since : Nat) (ps : List (Nat × List UInt8)) : List PMsg := if ps = [] then [] else [⟨d, m, since, ps⟩]
theorem mine_nil (d m since : Nat) : mine d m since [] = [] := rfl
theorem mine_some {d m since : Nat} {ps : List (Nat × List UInt8)} (h : ps ≠ []) : mine d m since ps = [⟨d, m, since, ps⟩] := if_neg h
theorem mine_held (d m since : Nat) (ps : List (Nat × List UInt8)) : heldOf (mine d m since ps) = psum ps := by
  by_cases h : ps = []
  · subst h; rfl
  · rw [mine_some h]; simp [heldOf, PMsg.bytes]

structure Side (d now : Nat) (l : List PMsg) : Prop where
  ids : ∀ x ∈ l, x.id ≠ d
  young : ∀ x ∈ l, x.old now = false
theorem Side.keep {d now : Nat} {l : List PMsg} (h : Side d now l) : (l.filter fun m => !m.old now) = l := List.filter_eq_self.2 fun m hm => by simp [h.young m hm]
theorem Side.find {d now : Nat} {l : List PMsg} (h : Side d now l) : (l.find? fun m => m.id == d) = none := List.find?_eq_none.2 fun m hm => by simpa using h.ids m hm
theorem Side.without {d now : Nat} {l : List PMsg} (h : Side d now l) : (l.filter fun m => !(m.id == d)) = l := List.filter_eq_self.2 fun m hm => by simpa using h.ids m hm
theorem Side.put {d now : Nat} {l : List PMsg} (h : Side d now l) (i : Nat) (s : List UInt8) : (l.map fun m => if (m.id == d) = true then m.push i s else m) = l := by
  conv => rhs; rw [← List.map_id l]
  apply List.map_congr_left
  intro m hm
  simp [h.ids m hm]

section
variable {sl rm d m since now j : Nat} {pre post : List PMsg} {ps : List (Nat × List UInt8)} {s : List UInt8}

theorem mine_keep (h1 : Side d now pre) (h2 : Side d now post) (hy : ps ≠ [] → now - since ≤ 50) : (Pool.mk sl rm (pre ++ mine d m since ps ++ post)).expire now = ⟨sl, rm, pre ++ mine d m since ps ++ post⟩ := by
  unfold Pool.expire
  simp only [List.filter_append, h1.keep, h2.keep]
  by_cases e : ps = []
  · subst e; rfl
  · rw [mine_some e]
    have : PMsg.old now ⟨d, m, since, ps⟩ = false := by have := hy e; simp [PMsg.old]; omega
    simp [this]

theorem mine_begin (h1 : Side d now pre) (hok : Frag.ok ⟨d, j, m, s⟩) (hm : 2 ≤ m) (hsl : pre.length < sl) (hrm : heldOf pre + s.length ≤ rm) :
    (Pool.mk sl rm pre).add ⟨d, j, m, s⟩ now = (⟨sl, rm, pre ++ mine d m now [(j, s)]⟩, [], false, 0) := by
  unfold Pool.add
  rw [if_neg (fun h => h hok), if_neg (by show ¬ ((m : Int) = 1); omega)]
  have e : (Pool.mk sl rm pre).expire now = ⟨sl, rm, pre⟩ := by unfold Pool.expire; simp only [h1.keep]
  rw [e]
  unfold Pool.step
  have hf : (Pool.mk sl rm pre).find d = none := h1.find
  simp only [hf]
  rw [if_neg (by show ¬ (sl ≤ pre.length ∨ rm < heldOf pre + s.length); omega)]
  simp [Pool.begin, mine]

theorem mine_find (h1 : Side d now pre) (hps : ps ≠ []) : (Pool.mk sl rm (pre ++ mine d m since ps ++ post)).find d = some ⟨d, m, since, ps⟩ := by
  unfold Pool.find
  simp only [List.find?_append, h1.find, mine_some hps]
  simp

theorem mine_put (h1 : Side d now pre) (h2 : Side d now post) (hps : ps ≠ []) (hy : now - since ≤ 50) (hok : Frag.ok ⟨d, j, m, s⟩) (hm : 2 ≤ m) (hno : (ps.any fun p => p.1 == j) = false) (hfew : ps.length + 1 ≠ m) (hrm : heldOf pre + psum ps + heldOf post + s.length ≤ rm) :
    (Pool.mk sl rm (pre ++ mine d m since ps ++ post)).add ⟨d, j, m, s⟩ now = (⟨sl, rm, pre ++ mine d m since (ps ++ [(j, s)]) ++ post⟩, [], false, 0) := by
  unfold Pool.add
  rw [if_neg (fun h => h hok), if_neg (by show ¬ ((m : Int) = 1); omega), mine_keep h1 h2 (fun _ => hy)]
  unfold Pool.step
  simp only [mine_find h1 hps]
  rw [if_neg (by simp), if_neg (by simp only [Int.toNat_natCast, hno]; simp), if_neg (by
    show ¬ rm < heldOf (pre ++ mine d m since ps ++ post) + s.length
    rw [heldOf_append, heldOf_append, mine_held]; omega), if_pos hfew]
  simp only [Pool.put, Int.toNat_natCast, List.map_append, h1.put, h2.put, mine_some hps, mine_some (show ps ++ [(j, s)] ≠ [] by simp)]
  simp [PMsg.push]

theorem mine_whole {t : List UInt8} (h1 : Side d now pre) (h2 : Side d now post) (hps : ps ≠ []) (hy : now - since ≤ 50) (hok : Frag.ok ⟨d, j, m, s⟩) (hm : 2 ≤ m) (hno : (ps.any fun p => p.1 == j) = false) (hfew : ps.length + 1 = m) (hrm : heldOf pre + psum ps + heldOf post + s.length ≤ rm)
    (ht : whole (ps ++ [(j, s)]) m = t) (hl : t.length ≤ 4096) :
    (Pool.mk sl rm (pre ++ mine d m since ps ++ post)).add ⟨d, j, m, s⟩ now = (⟨sl, rm, pre ++ post⟩, t, true, 0) := by
  unfold Pool.add
  rw [if_neg (fun h => h hok), if_neg (by show ¬ ((m : Int) = 1); omega), mine_keep h1 h2 (fun _ => hy)]
  unfold Pool.step
  simp only [mine_find h1 hps]
  have e : whole (PMsg.push ⟨d, m, since, ps⟩ (Int.toNat (j : Int)) s).parts m = t := by simp only [PMsg.push, Int.toNat_natCast]; exact ht
  rw [if_neg (by simp), if_neg (by simp only [Int.toNat_natCast, hno]; simp), if_neg (by
    show ¬ rm < heldOf (pre ++ mine d m since ps ++ post) + s.length
    rw [heldOf_append, heldOf_append, mine_held]; omega), if_neg (by omega)]
  simp only [e]
  rw [if_neg (by omega)]
  simp only [Pool.without, List.filter_append, h1.without, h2.without, mine_some hps]
  simp

theorem mine_twice (h1 : Side d now pre) (h2 : Side d now post) (hps : ps ≠ []) (hy : now - since ≤ 50) (hok : Frag.ok ⟨d, j, m, s⟩) (hm : 2 ≤ m) (hwas : (ps.any fun p => p.1 == j) = true) :
    (Pool.mk sl rm (pre ++ mine d m since ps ++ post)).add ⟨d, j, m, s⟩ now = (⟨sl, rm, pre ++ mine d m since ps ++ post⟩, [], false, 6) := by
  unfold Pool.add
  rw [if_neg (fun h => h hok), if_neg (by show ¬ ((m : Int) = 1); omega), mine_keep h1 h2 (fun _ => hy)]
  unfold Pool.step
  simp only [mine_find h1 hps]
  rw [if_neg (by simp), if_pos (by simp only [Int.toNat_natCast, hwas])]

theorem mine_form {c : Int} (h1 : Side d now pre) (h2 : Side d now post) (hps : ps ≠ []) (hy : now - since ≤ 50) (hok : Frag.ok ⟨d, j, c, s⟩) (hc : c ≠ 1) (hm : (m : Int) ≠ c) :
    (Pool.mk sl rm (pre ++ mine d m since ps ++ post)).add ⟨d, j, c, s⟩ now = (⟨sl, rm, pre ++ mine d m since ps ++ post⟩, [], false, 3) := by
  unfold Pool.add
  rw [if_neg (fun h => h hok), if_neg hc, mine_keep h1 h2 (fun _ => hy)]
  unfold Pool.step
  simp only [mine_find h1 hps]
  rw [if_pos hm]
end

theorem add_arg {q : Pool} {f : Frag} {now : Nat} (h : ¬ f.ok) : q.add f now = (q, [], false, 1) := by unfold Pool.add; rw [if_pos h]
theorem add_single {q : Pool} {d : Nat} {s : List UInt8} {now : Nat} (hok : Frag.ok ⟨d, 0, 1, s⟩) (hk : q.expire now = q) : q.add ⟨d, 0, 1, s⟩ now = (q, s, true, 0) := by
  unfold Pool.add
  rw [if_neg (fun h => h hok), if_pos rfl, hk]

/-- A message's parts, by their places. -/
def part (s : List UInt8) (n j : Nat) : List UInt8 := (s.drop (j * n)).take n
theorem cut_part {s : List UInt8} {id n k : Nat} (hk : k < many s.length n) : fragAt (cutAll s id n) k = ⟨id, k, many s.length n, part s n k⟩ := cutAll_at hk
theorem parts_all {s : List UInt8} {id n : Nat} (h : CutOk s id n) : (List.range (many s.length n)).flatMap (part s n) = s := by
  have := h.parts
  unfold joined at this
  rw [List.take_of_length_le (Nat.le_refl _)] at this
  simp only [cutAll, List.flatMap_map] at this
  exact this
theorem parts_sum {s : List UInt8} {id n : Nat} (h : CutOk s id n) : ((List.range (many s.length n)).map fun j => (part s n j).length).sum = s.length := by
  have := congrArg List.length (parts_all h)
  rw [List.length_flatMap] at this
  exact this

end Sough
