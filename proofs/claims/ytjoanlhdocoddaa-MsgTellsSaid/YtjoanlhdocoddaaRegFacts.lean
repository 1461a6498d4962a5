/- A region that draws its order, whose operations yield known values, make blocks (a store fills one), and one of which may turn older blocks: walked operation by operation, each from what it waits for. No program in sight. -/
import Derived.Test.YtjoanlhdocoddaaRegInv
import Derived.Test.YtjoanlhdocoddaaTurned
import Derived.Test.YtjoanlhdocoddaaRegion
import Derived.BigQuiet
namespace Go
open Go.RowKit Go.Proofs.Ytjoanlhdocoddaa

/-- What an operation is: it yields a value that hangs on the ones that it waits for; it makes a block; it stores into one that was made; it alone may turn older blocks. -/
inductive OpKind where
  | val (f : (Nat → Value) → Value)
  | blk (mk : Nat → Value) (T : TypeId) (z : (Nat → Value) → Array Value) (ks : Nat) (c : (Nat → Value) → Array Value)
  | sto (ka : Nat)
  | res
  | wr

def putAll (a : Act) : Nat → List Oper → (Nat → Value) → Act
  | _, [], _ => a
  | k, o :: r, v => putAll (a.put o.dst (v k)) (k + 1) r v

/-- What it waits for. -/
def waits (o : Oper) : List Nat := (o.after.toList.filter fun e => Region.binds .any e).map (·.on)
/-- The closed conditions. -/
def dsts (l : List Oper) : List Nat := l.filterMap (·.dst)
def factsB (l : List Oper) (n : Nat) : Bool :=
  decide (dsts l).Nodup && (dsts l).all (fun s => decide (s < n)) && (l.zipIdx.all fun x => (x.1.after.all fun e => !Region.binds .any e || decide (e.on < x.2)))

section
variable {P : Program} {l : List Oper} {S : List Nat} {w0 : World} {Kd : List OpKind} {Pre : World → Prop} {Post : Nat → Value → List Nat → World → Prop} {Q : Exit → Act → World → Prop} {a0 : Act}

/-- What is known of the operations that it waits for. -/
def Known (Kd : List OpKind) (w0 : World) (Post : Nat → Value → List Nat → World → Prop) (W : List Nat) (v : Nat → Value) (x : World) : Prop :=
  ∀ j ∈ W, match Kd[j]? with
    | some (.val f) => v j = f v
    | some (.blk mk T z ks c) => ∃ g, v j = mk g ∧ w0.heap.size ≤ g ∧ (ks ∈ W → x.heap[g]? = some (.cells (c v) T (0, 0))) ∧ (Kd.length ≤ ks → x.heap[g]? = some (.cells (z v) T (0, 0)))
    | some .wr => ∃ FP, Post j (v j) FP x
    | some .res => ∃ FP, Post j (v j) FP x
    | _ => True

/-- One operation's step. -/
def StepFor (P : Program) (l : List Oper) (S : List Nat) (w0 : World) (Kd : List OpKind) (Pre : World → Prop) (Post : Nat → Value → List Nat → World → Prop) (Q : Exit → Act → World → Prop) (a0 : Act) (k : Nat) (o : Oper) : OpKind → Prop
  | .val f => (∀ v v' : Nat → Value, (∀ j ∈ waits o, v j = v' j) → f v = f v') ∧
      ∀ v x, Turned S w0 x → Known Kd w0 Post (waits o) v x → (Region.wanted o (yielded l.toArray (putAll a0 0 l v).tmps) = true ∧ o.wp P (putAll a0 0 l v) x (fun a' y => a' = (putAll a0 0 l v).put o.dst (f v) ∧ Below x.heap.size x y) Q) ∨ (Region.wanted o (yielded l.toArray (putAll a0 0 l v).tmps) = false ∧ f v = undef)
  | .blk mk T z ks _ => (ks < l.length → Kd[ks]? = some (.sto k)) ∧ (∀ v v' : Nat → Value, (∀ j ∈ waits o, v j = v' j) → z v = z v') ∧
      ∀ v x, Turned S w0 x → Known Kd w0 Post (waits o) v x → Region.wanted o (yielded l.toArray (putAll a0 0 l v).tmps) = true ∧ o.wp P (putAll a0 0 l v) x (fun a' y => a' = (putAll a0 0 l v).put o.dst (mk x.heap.size) ∧ y = x.alloc (.cells (z v) T)) Q
  | .sto ka => ka ∈ waits o ∧ o.dst = none ∧ ∃ mk T z c, Kd[ka]? = some (.blk mk T z k c) ∧ (∀ v v' : Nat → Value, (∀ j ∈ waits o, v j = v' j) → c v = c v') ∧
      ∀ v x g, Turned S w0 x → Known Kd w0 Post (waits o) v x → v ka = mk g → w0.heap.size ≤ g → x.heap[g]? = some (.cells (z v) T (0, 0)) →
        Region.wanted o (yielded l.toArray (putAll a0 0 l v).tmps) = true ∧ o.wp P (putAll a0 0 l v) x (fun a' y => a' = putAll a0 0 l v ∧ y.heap[g]? = some (.cells (c v) T (0, 0)) ∧ Turned [g] x y) Q
  | .res => ∀ v x, Turned S w0 x → Known Kd w0 Post (waits o) v x → Region.wanted o (yielded l.toArray (putAll a0 0 l v).tmps) = true ∧
        o.wp P (putAll a0 0 l v) x (fun a' y => ∃ u FP, a' = (putAll a0 0 l v).put o.dst u ∧ Below x.heap.size x y ∧ Post k u FP y ∧ ∀ i ∈ FP, x.heap.size ≤ i ∧ i < y.heap.size) Q
  | .wr => (∀ j, Kd[j]? = some .wr → j = k) ∧
      ∀ v x, Turned S w0 x → Pre x → Known Kd w0 Post (waits o) v x → Region.wanted o (yielded l.toArray (putAll a0 0 l v).tmps) = true ∧ o.wp P (putAll a0 0 l v) x (fun a' y => ∃ u FP, a' = (putAll a0 0 l v).put o.dst u ∧ Turned S x y ∧ Post k u FP y ∧ ∀ i ∈ FP, (i ∈ S ∨ x.heap.size ≤ i) ∧ i < y.heap.size) Q

/-- What holds when these operations have come up. -/
structure FactsAt (l : List Oper) (S : List Nat) (w0 : World) (Kd : List OpKind) (Pre : World → Prop) (Post : Nat → Value → List Nat → World → Prop) (L : Nat → Bool) (v : Nat → Value) (G : Nat → Nat) (x : World) : Prop where
  tur : Turned S w0 x
  vals : ∀ k f, Kd[k]? = some (.val f) → L k = true → v k = f v
  blks : ∀ k mk T z ks c, Kd[k]? = some (.blk mk T z ks c) → L k = true → v k = mk (G k) ∧ w0.heap.size ≤ G k ∧ G k < x.heap.size ∧ x.heap[G k]? = some (.cells (if L ks = true then c v else z v) T (0, 0))
  apart : ∀ k k' mk T z ks c mk' T' z' ks' c', Kd[k]? = some (.blk mk T z ks c) → Kd[k']? = some (.blk mk' T' z' ks' c') → L k = true → L k' = true → k ≠ k' → G k ≠ G k'
  post : ∀ j, (Kd[j]? = some .wr ∨ Kd[j]? = some .res) → L j = true → ∃ FP, Post j (v j) FP x ∧ (∀ i ∈ FP, i < x.heap.size) ∧ (Kd[j]? = some .res → ∀ i ∈ FP, w0.heap.size ≤ i) ∧ ∀ k mk T z ks c, Kd[k]? = some (.blk mk T z ks c) → L k = true → G k ∉ FP
  pre : ∀ j, Kd[j]? = some .wr → L j = false → Pre x
  back : ∀ k o, l[k]? = some o → L k = true → ∀ j ∈ waits o, L j = true
  few : ∀ k, L k = true → k < l.length
def FactsI (l : List Oper) (S : List Nat) (w0 : World) (Kd : List OpKind) (Pre : World → Prop) (Post : Nat → Value → List Nat → World → Prop) (a0 : Act) (L : Nat → Bool) (a : Act) (x : World) : Prop :=
  ∃ v G, a = putAll a0 0 l v ∧ FactsAt l S w0 Kd Pre Post (fun k => L k && decide (k < l.length)) v G x

theorem put_self (a : Act) (d : Option Tmp) (u : Value) (h : ∀ s, d = some s → u = a.eval (.tmp s)) : a.put d u = a := by
  cases d with
  | none => rfl
  | some s =>
    rw [h s rfl]
    simp only [Act.put, Act.eval]
    congr 1
    apply Array.ext
    · simp
    · intro i h1 h2
      rw [Array.getElem_setIfInBounds (by simpa using h1)]
      split
      · rename_i e; subst e; simp [Array.getD, h2]
      · rfl
theorem put_twice (a : Act) (d : Option Tmp) (u v : Value) : (a.put d v).put d u = a.put d u := by
  cases d with
  | none => rfl
  | some s => simp [Act.put]
theorem put_swap (a : Act) (d e : Option Tmp) (u v : Value) (h : ∀ s, d = some s → e ≠ some s) : (a.put d u).put e v = (a.put e v).put d u := by
  cases d with
  | none => rfl
  | some s =>
    cases e with
    | none => rfl
    | some t =>
      have : s ≠ t := fun e => h s rfl (by rw [e])
      simp only [Act.put]
      rw [Array.setIfInBounds_comm _ _ this]

theorem mem_dsts {l : List Oper} {i : Nat} {o : Oper} {s : Tmp} (ho : l[i]? = some o) (hd : o.dst = some s) : s ∈ dsts l :=
  List.mem_filterMap.2 ⟨o, List.mem_of_getElem? ho, hd⟩
theorem putAll_far (d : Option Tmp) (u : Value) : ∀ (l : List Oper) (k : Nat) (a : Act) (v : Nat → Value), (∀ s, d = some s → s ∉ dsts l) → (putAll a k l v).put d u = putAll (a.put d u) k l v
  | [], _, _, _, _ => rfl
  | o :: r, k, a, v, h => by
    unfold putAll
    have hr : ∀ s, d = some s → s ∉ dsts r := fun s hs hm => h s hs (by
      unfold dsts at hm ⊢
      rw [List.filterMap_cons]
      split
      · exact hm
      · exact List.mem_cons_of_mem _ hm)
    rw [putAll_far d u r (k + 1) _ v hr, put_swap a o.dst d (v k) u (fun s hs e => h s e (mem_dsts (i := 0) rfl hs))]
theorem putAll_put (u : Value) : ∀ (l : List Oper) (k i : Nat) (a : Act) (v : Nat → Value) (o : Oper), (dsts l).Nodup → l[i]? = some o → (putAll a k l v).put o.dst u = putAll a k l (fun j => if j = k + i then u else v j)
  | [], _, _, _, _, _, _, h => by simp at h
  | x :: r, k, 0, a, v, o, hn, h => by
    simp only [List.getElem?_cons_zero, Option.some.injEq] at h
    subst h
    unfold putAll
    have hf : ∀ s, x.dst = some s → s ∉ dsts r := fun s hs => by
      unfold dsts at hn
      rw [List.filterMap_cons, hs] at hn
      exact (List.nodup_cons.1 hn).1
    rw [putAll_far x.dst u r (k + 1) _ v hf, put_twice]
    simp only [Nat.add_zero, if_true]
    have : ∀ (r : List Oper) (m : Nat) (b : Act), k < m → putAll b m r v = putAll b m r (fun j => if j = k then u else v j) := by
      intro r
      induction r with
      | nil => intros; rfl
      | cons y r ih =>
        intro m b hm
        unfold putAll
        have e : (fun j => if j = k then u else v j) m = v m := if_neg (by omega)
        rw [e]
        exact ih (m + 1) _ (by omega)
    exact this r (k + 1) _ (by omega)
  | x :: r, k, i + 1, a, v, o, hn, h => by
    simp only [List.getElem?_cons_succ] at h
    unfold putAll
    have hn' : (dsts r).Nodup := by
      unfold dsts at hn ⊢
      rw [List.filterMap_cons] at hn
      split at hn
      · exact hn
      · exact (List.nodup_cons.1 hn).2
    have e : (fun j => if j = k + (i + 1) then u else v j) k = v k := if_neg (by omega)
    rw [putAll_put u r (k + 1) i _ v o hn' h, e, Nat.add_assoc, Nat.add_comm 1 i]
theorem putAll_self (a : Act) : ∀ (l : List Oper) (k : Nat) (v : Nat → Value), (∀ i o s, l[i]? = some o → o.dst = some s → v (k + i) = a.eval (.tmp s)) → putAll a k l v = a
  | [], _, _, _ => rfl
  | o :: r, k, v, h => by
    unfold putAll
    rw [put_self a o.dst (v k) (fun s hs => h 0 o s rfl hs)]
    exact putAll_self a r (k + 1) v fun i o s ho hs => by
      have := h (i + 1) o s (by simpa using ho) hs
      rwa [Nat.add_assoc, Nat.add_comm 1 i]

theorem FactsAt.known {L : Nat → Bool} {v : Nat → Value} {G : Nat → Nat} {x : World} (h : FactsAt l S w0 Kd Pre Post L v G x) (hK : Kd.length = l.length) {W : List Nat} (hW : ∀ j ∈ W, L j = true) : Known Kd w0 Post W v x := by
  intro j hj
  split
  · rename_i f hk; exact h.vals j f hk (hW j hj)
  · rename_i mk T z ks c hk
    obtain ⟨h1, h2, h3, h4⟩ := h.blks j mk T z ks c hk (hW j hj)
    refine ⟨G j, h1, h2, fun hks => ?_, fun hks => ?_⟩
    · rw [h4, if_pos (hW ks hks)]
    · rw [h4, if_neg]
      intro e
      have := h.few ks e
      omega
  · rename_i hk
    obtain ⟨FP, h1, _⟩ := h.post j (.inl hk) (hW j hj)
    exact ⟨FP, h1⟩
  · rename_i hk
    obtain ⟨FP, h1, _⟩ := h.post j (.inr hk) (hW j hj)
    exact ⟨FP, h1⟩
  · trivial

theorem wpOp_one {ops : Array Oper} {i : Nat} {K : Act → World → Prop} {a : Act} {w : World} {o : Oper} (ho : ops[i]? = some o) (hg : Region.wanted o (yielded ops a.tmps) = true) (h : o.wp P a w K Q) : wpOp P ops Q i K a w := by
  unfold wpOp
  rw [ho]
  simp only [hg, if_true]
  exact .inl h
theorem wpOp_skip {ops : Array Oper} {i : Nat} {K : Act → World → Prop} {a : Act} {w : World} {o : Oper} (ho : ops[i]? = some o) (hg : Region.wanted o (yielded ops a.tmps) = false) (h : K (a.put o.dst undef) w) : wpOp P ops Q i K a w := by
  unfold wpOp
  rw [ho]
  simp only [hg, Bool.false_eq_true, if_false]
  exact h

/-- What an operation's coming up leaves of what was known. -/
theorem FactsAt.keep {M : Nat → Bool} {v : Nat → Value} {G : Nat → Nat} {x : World} (h : FactsAt l S w0 Kd Pre Post M v G x)
    (hsteps : ∀ k o K, l[k]? = some o → Kd[k]? = some K → StepFor P l S w0 Kd Pre Post Q a0 k o K) {i : Nat} (hi : M i = false) (u : Value) :
    (∀ k f, Kd[k]? = some (.val f) → M k = true → (fun j => if j = i then u else v j) k = f fun j => if j = i then u else v j) ∧
    ∀ k mk T z ks c, Kd[k]? = some (.blk mk T z ks c) → M k = true → (fun j => if j = i then u else v j) k = mk (G k) ∧
      (M ks = true → c (fun j => if j = i then u else v j) = c v) ∧ (z fun j => if j = i then u else v j) = z v := by
  have hop : ∀ k, M k = true → ∃ o, l[k]? = some o := fun k hk => ⟨_, List.getElem?_eq_getElem (h.few k hk)⟩
  have hne : ∀ k o, l[k]? = some o → M k = true → ∀ j ∈ waits o, v j = (fun j => if j = i then u else v j) j := fun k o ho hk j hj => by
    have := h.back k o ho hk j hj
    have : j ≠ i := fun e => by rw [e, hi] at this; cases this
    simp [this]
  have hki : ∀ k, M k = true → k ≠ i := fun k hk e => by rw [e, hi] at hk; cases hk
  refine ⟨fun k f hf hk => ?_, fun k mk T z ks c hb hk => ?_⟩
  · obtain ⟨o, ho⟩ := hop k hk
    obtain ⟨hd, _⟩ := hsteps k o _ ho hf
    simp only [if_neg (hki k hk)]
    rw [h.vals k f hf hk]
    exact hd _ _ (hne k o ho hk)
  · obtain ⟨o, ho⟩ := hop k hk
    obtain ⟨hks, hd, _⟩ := hsteps k o _ ho hb
    refine ⟨?_, fun hm => ?_, (hd _ _ (hne k o ho hk)).symm⟩
    · simp only [if_neg (hki k hk)]
      exact (h.blks k mk T z ks c hb hk).1
    · obtain ⟨os, hos⟩ := hop ks hm
      obtain ⟨_, _, mk', T', z', c', he, hd', _⟩ := hsteps ks os _ hos (hks (h.few ks hm))
      rw [hb] at he
      cases he
      exact (hd' _ _ (hne ks os hos hm)).symm

theorem wp_region_facts {id n : Nat} (S : List Nat) (Kd : List OpKind) (Pre : World → Prop) (Post : Nat → Value → List Nat → World → Prop) (hm : P.follows .mixedOrders = true) (hB : factsB l n = true) (_hn : a0.tmps.size = n) (hK : Kd.length = l.length)
    (hS : ∀ i ∈ S, i < w0.heap.size) (hpre0 : Pre w0) (hpre : ∀ x y, Pre x → Below w0.heap.size x y → Pre y) (hpost : ∀ j u FP x y, Post j u FP x → (∀ i ∈ FP, y.heap[i]? = x.heap[i]?) → Post j u FP y)
    (hsteps : ∀ k o K, l[k]? = some o → Kd[k]? = some K → StepFor P l S w0 Kd Pre Post Q a0 k o K)
    (hend : ∀ v G x, FactsAt l S w0 Kd Pre Post (fun k => decide (k < l.length)) v G x → Q .normal (putAll a0 0 l v) x) : (Code.region id l.toArray true).wp P Q a0 w0 := by
  unfold factsB at hB
  rw [Bool.and_eq_true, Bool.and_eq_true, decide_eq_true_eq, List.all_eq_true] at hB
  obtain ⟨⟨hnd, _⟩, hB2⟩ := hB
  have hedge : ∀ (i : Nat) (o : Oper), l[i]? = some o → ∀ j ∈ waits o, j < i := fun i o ho => by
    have := List.all_eq_true.1 hB2 (o, i) (by rw [List.mem_zipIdx_iff_getElem?]; exact ho)
    rw [Array.all_eq_true] at this
    intro j hj
    unfold waits at hj
    obtain ⟨e, he, rfl⟩ := List.mem_map.1 hj
    obtain ⟨he1, he2⟩ := List.mem_filter.1 he
    obtain ⟨q, hq, rfl⟩ := Array.getElem_of_mem (Array.mem_toList_iff.1 he1)
    have := this q hq
    simpa [he2] using this
  refine wp_region_inv (FactsI l S w0 Kd Pre Post a0) hm (fun i o ho e he hb => ?_) (fun L hL => ?_) (fun i o L a x ho hLi haft hI => ?_) (fun L a x hL hI => ?_)
  · have ho' : l[i]? = some o := by simpa using ho
    exact hedge i o ho' e.on (List.mem_map.2 ⟨e, List.mem_filter.2 ⟨by simpa using he, hb⟩, rfl⟩)
  · have h0 : ∀ k, (L k && decide (k < l.length)) = true → False := fun k hk => by
      rw [Bool.and_eq_true, decide_eq_true_eq] at hk
      rw [hL k (by simpa using hk.2)] at hk
      cases hk.1
    have hd : Below w0.heap.size w0 w0.drew := (Below.refl _ _).drew
    refine ⟨fun k => match l[k]? with
      | some o => match o.dst with
        | some s => a0.eval (.tmp s)
        | none => undef
      | none => undef, fun _ => 0, ?_, Turned.below hd, fun k f _ hk => (h0 k hk).elim, fun k _ _ _ _ _ _ hk => (h0 k hk).elim, fun k _ _ _ _ _ _ _ _ _ _ _ _ _ hk => (h0 k hk).elim, fun k _ hk => (h0 k hk).elim, fun k _ _ => hpre _ _ hpre0 hd, fun k _ _ hk => (h0 k hk).elim, fun k hk => (h0 k hk).elim⟩
    refine (putAll_self a0 l 0 _ fun i o s ho hs => ?_).symm
    simp only [Nat.zero_add, ho, hs]
  · have ho' : l[i]? = some o := by simpa using ho
    have hil : i < l.length := by
      rcases Nat.lt_or_ge i l.length with h | h
      · exact h
      · rw [List.getElem?_eq_none h] at ho'; cases ho'
    obtain ⟨v, G, rfl, hF⟩ := hI
    have hedge1 := hedge i o ho'
    obtain ⟨M, hM⟩ : ∃ M : Nat → Bool, M = fun k => L k && decide (k < l.length) := ⟨_, rfl⟩
    rw [← hM] at hF
    have hMi : M i = false := by rw [hM]; simp [hLi]
    have hMl : (fun k => (L k || k == i) && decide (k < l.length)) = fun k => M k || k == i := by
      funext k
      rw [hM]
      by_cases e : k = i
      · subst e; simp [hil]
      · have e' : (k == i) = false := by simpa using e
        simp [e']
    have hW : ∀ j ∈ waits o, M j = true := fun j hj => by
      have h1 := hedge1 j hj
      unfold waits at hj
      obtain ⟨e, he, rfl⟩ := List.mem_map.1 hj
      obtain ⟨he1, he2⟩ := List.mem_filter.1 he
      rw [Array.all_eq_true] at haft
      obtain ⟨q, hq, rfl⟩ := Array.getElem_of_mem (Array.mem_toList_iff.1 he1)
      have := haft q hq
      rw [hM]
      have h2 : L o.after[q].on = true := by simpa [he2] using this
      simp [h2]
      omega
    have hkn := hF.known hK hW
    obtain ⟨K, hKi⟩ : ∃ K, Kd[i]? = some K := ⟨_, List.getElem?_eq_getElem (by omega)⟩
    have hst := hsteps i o K ho' hKi
    have hki : ∀ k, M k = true → k ≠ i := fun k hk e => by rw [e, hMi] at hk; cases hk
    have hput : ∀ u, (putAll a0 0 l v).put o.dst u = putAll a0 0 l fun j => if j = i then u else v j := fun u => by
      have := putAll_put u l 0 i a0 v o hnd ho'
      simpa only [Nat.zero_add] using this
    have hM' : ∀ {k}, (M k || k == i) = true → k = i ∨ M k = true := fun {k} h => by
      rw [Bool.or_eq_true] at h
      rcases h with h | h
      · exact .inr h
      · exact .inl (by simpa using h)
    have hback : ∀ k o, l[k]? = some o → (M k || k == i) = true → ∀ j ∈ waits o, (M j || j == i) = true := fun k o2 ho2 hk j hj => by
      rcases hM' hk with e | hk
      · subst e
        rw [ho'] at ho2
        cases ho2
        simp [hW j hj]
      · simp [hF.back k o2 ho2 hk j hj]
    have hfew : ∀ k, (M k || k == i) = true → k < l.length := fun k hk => by
      rcases hM' hk with e | hk
      · rw [e]; exact hil
      · exact hF.few k hk
    have hvi : ∀ u : Value, (fun j => if j = i then u else v j) i = u := fun u => if_pos rfl
    have hwait : ∀ (u : Value), ∀ j ∈ waits o, v j = (fun j => if j = i then u else v j) j := fun u j hj => by
      have : j ≠ i := hki j (hW j hj)
      simp [this]
    cases K with
    | val f =>
      obtain ⟨hdep, hrun⟩ := hst
      have main : ∀ y, Below x.heap.size x y → FactsI l S w0 Kd Pre Post a0 (fun j => L j || j == i) ((putAll a0 0 l v).put o.dst (f v)) y := ?_
      · rcases hrun v x hF.tur hkn with ⟨hg, hr⟩ | ⟨hg, hu⟩
        · refine wpOp_one ho hg (Oper.wp_mono ?_ hr)
          rintro a' y ⟨rfl, hb⟩
          exact main y hb
        · refine wpOp_skip ho hg ?_
          have := main x (Below.refl _ _)
          rwa [hu] at this
      intro y hb
      obtain ⟨k1, k2⟩ := hF.keep hsteps hMi (f v)
      refine ⟨_, G, hput _, ?_⟩
      rw [hMl]
      have hbB : Below w0.heap.size x y := hb.mono hF.tur.size
      refine ⟨hF.tur.trans (Turned.below (S := []) hb) (by simp), fun k f' hk hm' => ?_, fun k mk T z ks c hk hm' => ?_, fun k k' mk T z ks c mk' T' z' ks' c' hk hk' hm1 hm2 => ?_, fun j hj hm' => ?_, fun j hj hm' => ?_, hback, hfew⟩
      · rcases hM' hm' with e | hm'
        · subst e
          rw [hKi] at hk
          cases hk
          rw [if_pos rfl]
          exact hdep _ _ (hwait _)
        · exact k1 k f' hk hm'
      · rcases hM' hm' with e | hm'
        · subst e; rw [hKi] at hk; cases hk
        · obtain ⟨h1, h2, h3⟩ := k2 k mk T z ks c hk hm'
          obtain ⟨_, g2, g3, g4⟩ := hF.blks k mk T z ks c hk hm'
          refine ⟨h1, g2, Nat.lt_of_lt_of_le g3 hb.size, ?_⟩
          rw [hb.block _ g3, g4]
          have hks : (M ks || ks == i) = M ks := by
            by_cases e : ks = i
            · obtain ⟨o2, ho2⟩ : ∃ o2, l[k]? = some o2 := ⟨_, List.getElem?_eq_getElem (hF.few k hm')⟩
              obtain ⟨hs2, _⟩ := hsteps k o2 _ ho2 hk
              have := hs2 (by rw [e]; exact hil)
              rw [e, hKi] at this
              cases this
            · have e' : (ks == i) = false := by simpa using e
              simp [e']
          rw [hks, h3]
          by_cases hm2 : M ks = true
          · rw [if_pos hm2, if_pos hm2, h2 hm2]
          · rw [if_neg hm2, if_neg hm2]
      · rcases hM' hm1 with e | hm1
        · subst e; rw [hKi] at hk; cases hk
        · rcases hM' hm2 with e | hm2
          · subst e; rw [hKi] at hk'; cases hk'
          · exact hF.apart k k' mk T z ks c mk' T' z' ks' c' hk hk' hm1 hm2
      · rcases hM' hm' with e | hm'
        · subst e; rw [hKi] at hj; rcases hj with hj | hj <;> cases hj
        · obtain ⟨FP, p1, p2, p4, p3⟩ := hF.post j hj hm'
          refine ⟨FP, ?_, fun q hq => Nat.lt_of_lt_of_le (p2 q hq) hb.size, p4, fun k mk T z ks c hk hm2 => ?_⟩
          · simp only [if_neg (hki j hm')]
            exact hpost _ _ _ _ _ p1 fun q hq => hb.block q (p2 q hq)
          · rcases hM' hm2 with e | hm2
            · subst e; rw [hKi] at hk; cases hk
            · exact p3 k mk T z ks c hk hm2
      · exact hpre _ _ (hF.pre j hj (by rw [Bool.or_eq_false_iff] at hm'; exact hm'.1)) hbB
    | res =>
      have hrun := hst
      obtain ⟨hg, hr⟩ := hrun v x hF.tur hkn
      refine wpOp_one ho hg (Oper.wp_mono ?_ hr)
      rintro a' y ⟨u, FP0, rfl, hb, hpo, hfp⟩
      obtain ⟨k1, k2⟩ := hF.keep hsteps hMi u
      refine ⟨_, G, hput _, ?_⟩
      rw [hMl]
      have hbB : Below w0.heap.size x y := hb.mono hF.tur.size
      refine ⟨hF.tur.trans (Turned.below (S := []) hb) (by simp), fun k f' hk hm' => ?_, fun k mk T z ks c hk hm' => ?_, fun k k' mk T z ks c mk' T' z' ks' c' hk hk' hm1 hm2 => ?_, fun j hj hm' => ?_, fun j hj hm' => ?_, hback, hfew⟩
      · rcases hM' hm' with e | hm'
        · subst e; rw [hKi] at hk; cases hk
        · exact k1 k f' hk hm'
      · rcases hM' hm' with e | hm'
        · subst e; rw [hKi] at hk; cases hk
        · obtain ⟨h1, h2, h3⟩ := k2 k mk T z ks c hk hm'
          obtain ⟨_, g2, g3, g4⟩ := hF.blks k mk T z ks c hk hm'
          refine ⟨h1, g2, Nat.lt_of_lt_of_le g3 hb.size, ?_⟩
          rw [hb.block _ g3, g4]
          have hks : (M ks || ks == i) = M ks := by
            by_cases e : ks = i
            · obtain ⟨o2, ho2⟩ : ∃ o2, l[k]? = some o2 := ⟨_, List.getElem?_eq_getElem (hF.few k hm')⟩
              obtain ⟨hs2, _⟩ := hsteps k o2 _ ho2 hk
              have := hs2 (by rw [e]; exact hil)
              rw [e, hKi] at this
              cases this
            · have e' : (ks == i) = false := by simpa using e
              simp [e']
          rw [hks, h3]
          by_cases hm2 : M ks = true
          · rw [if_pos hm2, if_pos hm2, h2 hm2]
          · rw [if_neg hm2, if_neg hm2]
      · rcases hM' hm1 with e | hm1
        · subst e; rw [hKi] at hk; cases hk
        · rcases hM' hm2 with e | hm2
          · subst e; rw [hKi] at hk'; cases hk'
          · exact hF.apart k k' mk T z ks c mk' T' z' ks' c' hk hk' hm1 hm2
      · rcases hM' hm' with e | hm'
        · subst e
          refine ⟨FP0, by rw [if_pos rfl]; exact hpo, fun q hq => (hfp q hq).2, fun _ q hq => Nat.le_trans hF.tur.size (hfp q hq).1, fun k mk T z ks c hk hm2 => ?_⟩
          rcases hM' hm2 with e | hm2
          · subst e; rw [hKi] at hk; cases hk
          · have := (hF.blks k mk T z ks c hk hm2).2.2.1
            intro hq
            have := (hfp _ hq).1
            omega
        · obtain ⟨FP, p1, p2, p4, p3⟩ := hF.post j hj hm'
          refine ⟨FP, ?_, fun q hq => Nat.lt_of_lt_of_le (p2 q hq) hb.size, p4, fun k mk T z ks c hk hm2 => ?_⟩
          · simp only [if_neg (hki j hm')]
            exact hpost _ _ _ _ _ p1 fun q hq => hb.block q (p2 q hq)
          · rcases hM' hm2 with e | hm2
            · subst e; rw [hKi] at hk; cases hk
            · exact p3 k mk T z ks c hk hm2
      · exact hpre _ _ (hF.pre j hj (by rw [Bool.or_eq_false_iff] at hm'; exact hm'.1)) hbB
    | blk mk0 T0 z0 ks0 c0 =>
      obtain ⟨hks0, hdep, hrun⟩ := hst
      obtain ⟨hg, hr⟩ := hrun v x hF.tur hkn
      refine wpOp_one ho hg (Oper.wp_mono ?_ hr)
      rintro a' y ⟨rfl, rfl⟩
      obtain ⟨k1, k2⟩ := hF.keep hsteps hMi (mk0 x.heap.size)
      have hb : Below x.heap.size x (x.alloc (.cells (z0 v) T0)) := (Below.refl _ _).alloc (Nat.le_refl _) _
      have hsz : (x.alloc (.cells (z0 v) T0)).heap.size = x.heap.size + 1 := by simp
      refine ⟨_, fun k => if k = i then x.heap.size else G k, hput _, ?_⟩
      rw [hMl]
      have hbB : Below w0.heap.size x (x.alloc (.cells (z0 v) T0)) := hb.mono hF.tur.size
      refine ⟨hF.tur.trans (Turned.below (S := []) hb) (by simp), fun k f' hk hm' => ?_, fun k mk T z ks c hk hm' => ?_, fun k k' mk T z ks c mk' T' z' ks' c' hk hk' hm1 hm2 hne => ?_, fun j hj hm' => ?_, fun j hj hm' => ?_, hback, hfew⟩
      · rcases hM' hm' with e | hm'
        · subst e; rw [hKi] at hk; cases hk
        · exact k1 k f' hk hm'
      · rcases hM' hm' with e | hm'
        · subst e
          rw [hKi] at hk
          cases hk
          refine ⟨by rw [if_pos rfl, if_pos rfl], by simp only [if_pos]; exact hF.tur.size, by simp, ?_⟩
          simp only [if_pos]
          have hks : (M ks0 || ks0 == k) = false := by
            by_cases hlt : ks0 < l.length
            · have h1 := hks0 hlt
              obtain ⟨o2, ho2⟩ : ∃ o2, l[ks0]? = some o2 := ⟨_, List.getElem?_eq_getElem hlt⟩
              obtain ⟨h2, _⟩ := hsteps ks0 o2 _ ho2 h1
              rw [Bool.or_eq_false_iff]
              refine ⟨?_, ?_⟩
              · cases hm : M ks0
                · rfl
                · have := hF.back ks0 o2 ho2 hm k h2; rw [hMi] at this; cases this
              · have : ks0 ≠ k := fun e => by rw [e, hKi] at h1; cases h1
                simpa using this
            · rw [Bool.or_eq_false_iff]
              refine ⟨?_, ?_⟩
              · cases hm : M ks0
                · rfl
                · exact absurd (hF.few ks0 hm) hlt
              · have : ks0 ≠ k := fun e => by rw [e] at hlt; exact hlt hil
                simpa using this
          rw [hks, if_neg (by simp), heap_alloc_new, ← hdep _ _ (hwait _)]
        · obtain ⟨h1, h2, h3⟩ := k2 k mk T z ks c hk hm'
          obtain ⟨_, g2, g3, g4⟩ := hF.blks k mk T z ks c hk hm'
          simp only [if_neg (hki k hm')] at h1 ⊢
          refine ⟨h1, g2, by rw [hsz]; omega, ?_⟩
          rw [hb.block _ g3, g4]
          have hks : (M ks || ks == i) = M ks := by
            by_cases e : ks = i
            · obtain ⟨o2, ho2⟩ : ∃ o2, l[k]? = some o2 := ⟨_, List.getElem?_eq_getElem (hF.few k hm')⟩
              obtain ⟨hs2, _⟩ := hsteps k o2 _ ho2 hk
              have := hs2 (by rw [e]; exact hil)
              rw [e, hKi] at this
              cases this
            · have e' : (ks == i) = false := by simpa using e
              simp [e']
          rw [hks, h3]
          by_cases hm2 : M ks = true
          · rw [if_pos hm2, if_pos hm2, h2 hm2]
          · rw [if_neg hm2, if_neg hm2]
      · rcases hM' hm1 with e | hm1
        · subst e
          rcases hM' hm2 with e | hm2
          · exact absurd e.symm hne
          · have := (hF.blks k' mk' T' z' ks' c' hk' hm2).2.2.1
            simp only [if_pos, if_neg (Ne.symm hne)]
            omega
        · rcases hM' hm2 with e | hm2
          · have := (hF.blks k mk T z ks c hk hm1).2.2.1
            subst e
            simp only [if_pos, if_neg hne]
            omega
          · simp only [if_neg (hki k hm1), if_neg (hki k' hm2)]
            exact hF.apart k k' mk T z ks c mk' T' z' ks' c' hk hk' hm1 hm2 hne
      · rcases hM' hm' with e | hm'
        · subst e; rw [hKi] at hj; rcases hj with hj | hj <;> cases hj
        · obtain ⟨FP, p1, p2, p4, p3⟩ := hF.post j hj hm'
          refine ⟨FP, ?_, fun q hq => by have := p2 q hq; rw [hsz]; omega, p4, fun k mk T z ks c hk hm2 => ?_⟩
          · simp only [if_neg (hki j hm')]
            exact hpost _ _ _ _ _ p1 fun q hq => hb.block q (p2 q hq)
          · rcases hM' hm2 with e | hm2
            · subst e
              simp only [if_pos]
              intro hq
              have := p2 _ hq
              omega
            · simp only [if_neg (hki k hm2)]
              exact p3 k mk T z ks c hk hm2
      · exact hpre _ _ (hF.pre j hj (by rw [Bool.or_eq_false_iff] at hm'; exact hm'.1)) hbB
    | sto ka =>
      obtain ⟨hka, hdn, mk0, T0, z0, c0, hkb, hdep, hrun⟩ := hst
      obtain ⟨b1, b2, b3, b4⟩ := hF.blks ka mk0 T0 z0 i c0 hkb (hW ka hka)
      rw [hMi, if_neg (by simp)] at b4
      obtain ⟨hg, hr⟩ := hrun v x (G ka) hF.tur hkn b1 b2 b4
      refine wpOp_one ho hg (Oper.wp_mono ?_ hr)
      rintro a' y ⟨rfl, hc, htu⟩
      obtain ⟨k1, k2⟩ := hF.keep hsteps hMi undef
      have hbB : Below w0.heap.size x y := htu.toBelow (by simpa using b2) hF.tur.size
      refine ⟨_, G, by rw [← hput undef, hdn]; rfl, ?_⟩
      rw [hMl]
      refine ⟨hF.tur.trans (Turned.below (S := []) (w := x) (w' := x) (Below.refl _ _)) (by simp) |>.trans htu (fun q hq => by simp at hq; subst hq; exact .inr b2), fun k f' hk hm' => ?_, fun k mk T z ks c hk hm' => ?_, fun k k' mk T z ks c mk' T' z' ks' c' hk hk' hm1 hm2 hne => ?_, fun j hj hm' => ?_, fun j hj hm' => ?_, hback, hfew⟩
      · rcases hM' hm' with e | hm'
        · subst e; rw [hKi] at hk; cases hk
        · exact k1 k f' hk hm'
      · rcases hM' hm' with e | hm'
        · subst e; rw [hKi] at hk; cases hk
        · obtain ⟨h1, h2, h3⟩ := k2 k mk T z ks c hk hm'
          obtain ⟨_, g2, g3, g4⟩ := hF.blks k mk T z ks c hk hm'
          refine ⟨h1, g2, Nat.lt_of_lt_of_le g3 htu.size, ?_⟩
          by_cases e : k = ka
          · subst e
            rw [hkb] at hk
            cases hk
            rw [hc]
            simp only [beq_self_eq_true, Bool.or_true, if_true]
            rw [← hdep _ _ (hwait undef)]
          · have hge : G k ∉ [G ka] := by
              simp only [List.mem_singleton]
              exact hF.apart k ka mk T z ks c mk0 T0 z0 i c0 hk hkb hm' (hW ka hka) e
            rw [htu.block _ g3 hge, g4]
            have hks : (M ks || ks == i) = M ks := by
              by_cases e2 : ks = i
              · obtain ⟨o2, ho2⟩ : ∃ o2, l[k]? = some o2 := ⟨_, List.getElem?_eq_getElem (hF.few k hm')⟩
                obtain ⟨hs2, _⟩ := hsteps k o2 _ ho2 hk
                have := hs2 (by rw [e2]; exact hil)
                rw [e2, hKi] at this
                cases this
                exact absurd rfl e
              · have e' : (ks == i) = false := by simpa using e2
                simp [e']
            rw [hks, h3]
            by_cases hm2 : M ks = true
            · rw [if_pos hm2, if_pos hm2, h2 hm2]
            · rw [if_neg hm2, if_neg hm2]
      · rcases hM' hm1 with e | hm1
        · subst e; rw [hKi] at hk; cases hk
        · rcases hM' hm2 with e | hm2
          · subst e; rw [hKi] at hk'; cases hk'
          · exact hF.apart k k' mk T z ks c mk' T' z' ks' c' hk hk' hm1 hm2 hne
      · rcases hM' hm' with e | hm'
        · subst e; rw [hKi] at hj; rcases hj with hj | hj <;> cases hj
        · obtain ⟨FP, p1, p2, p4, p3⟩ := hF.post j hj hm'
          refine ⟨FP, ?_, fun q hq => Nat.lt_of_lt_of_le (p2 q hq) htu.size, p4, fun k mk T z ks c hk hm2 => ?_⟩
          · simp only [if_neg (hki j hm')]
            exact hpost _ _ _ _ _ p1 fun q hq => htu.block q (p2 q hq) (by
              simp only [List.mem_singleton]
              intro e
              exact p3 ka mk0 T0 z0 i c0 hkb (hW ka hka) (e ▸ hq))
          · rcases hM' hm2 with e | hm2
            · subst e; rw [hKi] at hk; cases hk
            · exact p3 k mk T z ks c hk hm2
      · exact hpre _ _ (hF.pre j hj (by rw [Bool.or_eq_false_iff] at hm'; exact hm'.1)) hbB
    | wr =>
      obtain ⟨honly, hrun⟩ := hst
      obtain ⟨hg, hr⟩ := hrun v x hF.tur (hF.pre i hKi hMi) hkn
      refine wpOp_one ho hg (Oper.wp_mono ?_ hr)
      rintro a' y ⟨u, FP, rfl, htu, hpo, hfp⟩
      obtain ⟨k1, k2⟩ := hF.keep hsteps hMi u
      have hGS : ∀ q, w0.heap.size ≤ q → q ∉ S := fun q hq hs => by have := hS q hs; omega
      refine ⟨_, G, hput _, ?_⟩
      rw [hMl]
      refine ⟨hF.tur.trans htu (fun q hq => .inl hq), fun k f' hk hm' => ?_, fun k mk T z ks c hk hm' => ?_, fun k k' mk T z ks c mk' T' z' ks' c' hk hk' hm1 hm2 hne => ?_, fun j hj hm' => ?_, fun j hj hm' => ?_, hback, hfew⟩
      · rcases hM' hm' with e | hm'
        · subst e; rw [hKi] at hk; cases hk
        · exact k1 k f' hk hm'
      · rcases hM' hm' with e | hm'
        · subst e; rw [hKi] at hk; cases hk
        · obtain ⟨h1, h2, h3⟩ := k2 k mk T z ks c hk hm'
          obtain ⟨_, g2, g3, g4⟩ := hF.blks k mk T z ks c hk hm'
          refine ⟨h1, g2, Nat.lt_of_lt_of_le g3 htu.size, ?_⟩
          rw [htu.block _ g3 (hGS _ g2), g4]
          have hks : (M ks || ks == i) = M ks := by
            by_cases e : ks = i
            · obtain ⟨o2, ho2⟩ : ∃ o2, l[k]? = some o2 := ⟨_, List.getElem?_eq_getElem (hF.few k hm')⟩
              obtain ⟨hs2, _⟩ := hsteps k o2 _ ho2 hk
              have := hs2 (by rw [e]; exact hil)
              rw [e, hKi] at this
              cases this
            · have e' : (ks == i) = false := by simpa using e
              simp [e']
          rw [hks, h3]
          by_cases hm2 : M ks = true
          · rw [if_pos hm2, if_pos hm2, h2 hm2]
          · rw [if_neg hm2, if_neg hm2]
      · rcases hM' hm1 with e | hm1
        · subst e; rw [hKi] at hk; cases hk
        · rcases hM' hm2 with e | hm2
          · subst e; rw [hKi] at hk'; cases hk'
          · exact hF.apart k k' mk T z ks c mk' T' z' ks' c' hk hk' hm1 hm2 hne
      · rcases hj with hj | hj
        · have hji := honly j hj
          subst hji
          refine ⟨FP, by rw [if_pos rfl]; exact hpo, fun q hq => (hfp q hq).2, (fun h => by rw [hj] at h; cases h), fun k mk T z ks c hk hm2 => ?_⟩
          rcases hM' hm2 with e | hm2
          · subst e; rw [hKi] at hk; cases hk
          · obtain ⟨_, g2, g3, _⟩ := hF.blks k mk T z ks c hk hm2
            intro hq
            rcases (hfp _ hq).1 with h | h
            · exact hGS _ g2 h
            · omega
        · rcases hM' hm' with e | hm'
          · subst e; rw [hKi] at hj; cases hj
          · obtain ⟨FP', p1, p2, p4, p3⟩ := hF.post j (.inr hj) hm'
            refine ⟨FP', ?_, fun q hq => Nat.lt_of_lt_of_le (p2 q hq) htu.size, p4, fun k mk T z ks c hk hm2 => ?_⟩
            · simp only [if_neg (hki j hm')]
              exact hpost _ _ _ _ _ p1 fun q hq => htu.block q (p2 q hq) (hGS _ (p4 hj q hq))
            · rcases hM' hm2 with e | hm2
              · subst e; rw [hKi] at hk; cases hk
              · exact p3 k mk T z ks c hk hm2
      · have hji := honly j hj
        subst hji
        rw [Bool.or_eq_false_iff] at hm'
        have := hm'.2
        simp at this
  · obtain ⟨v, G, rfl, hF⟩ := hI
    have e : (fun k => L k && decide (k < l.length)) = fun k => decide (k < l.length) := by
      funext k
      by_cases h : k < l.length
      · rw [hL k (by simpa using h)]; simp
      · simp [h]
    rw [e] at hF
    exact hend v G x hF

/-- The steps, one by one. -/
def AllSteps (F : Nat → Oper → OpKind → Prop) : Nat → List Oper → List OpKind → Prop
  | k, o :: l, K :: s => F k o K ∧ AllSteps F (k + 1) l s
  | _, _, _ => True
theorem allSteps_of {F : Nat → Oper → OpKind → Prop} : ∀ {l : List Oper} {s : List OpKind} {b : Nat}, AllSteps F b l s → ∀ k o K, l[k]? = some o → s[k]? = some K → F (b + k) o K
  | [], _, _, _, _, _, _, h, _ => by simp at h
  | _ :: _, [], _, _, _, _, _, _, h => by simp at h
  | o :: l, K :: s, b, h, 0, o', K', h1, h2 => by
    simp only [List.getElem?_cons_zero, Option.some.injEq] at h1 h2
    subst h1 h2
    exact h.1
  | o :: l, K :: s, b, h, k + 1, o', K', h1, h2 => by
    have := allSteps_of h.2 k o' K' (by simpa using h1) (by simpa using h2)
    rwa [Nat.add_assoc, Nat.add_comm 1 k] at this
theorem wp_facts {id n : Nat} (S : List Nat) (Kd : List OpKind) (Pre : World → Prop) (Post : Nat → Value → List Nat → World → Prop) (hm : P.follows .mixedOrders = true) (hB : factsB l n = true) (hn : a0.tmps.size = n) (hK : Kd.length = l.length)
    (hS : ∀ i ∈ S, i < w0.heap.size) (hpre0 : Pre w0) (hpre : ∀ x y, Pre x → Below w0.heap.size x y → Pre y) (hpost : ∀ j u FP x y, Post j u FP x → (∀ i ∈ FP, y.heap[i]? = x.heap[i]?) → Post j u FP y)
    (hsteps : AllSteps (StepFor P l S w0 Kd Pre Post Q a0) 0 l Kd)
    (hend : ∀ v G x, FactsAt l S w0 Kd Pre Post (fun k => decide (k < l.length)) v G x → Q .normal (putAll a0 0 l v) x) : (Code.region id l.toArray true).wp P Q a0 w0 :=
  wp_region_facts S Kd Pre Post hm hB hn hK hS hpre0 hpre hpost (fun k o K ho hk => by have := allSteps_of hsteps k o K ho hk; rwa [Nat.zero_add] at this) hend

/-- An operation without a guard is carried out. -/
theorem wanted_none {o : Oper} {ys : Nat → Option Bool} (h : o.guard = none) : Region.wanted o ys = true := by unfold Region.wanted; rw [h]
/-- A step that only reads, or calls what makes memory alone: by the walk of the lexical order. -/
theorem val_of_quiet {ops : Array Oper} {o : Oper} {a A : Act} {x : World} (hg : o.guard = none) (h : wpQuiet P ops (fun y => ∃ z : Later x, y = z.world) (fun b => b = A) [o] a) :
    o.wp P a x (fun b y => b = A ∧ Below x.heap.size x y) Q := by
  unfold wpQuiet at h
  have hw : Region.wanted o (yielded ops a.tmps) = true := by unfold Region.wanted; rw [hg]
  rw [hw] at h
  simp only [if_true] at h
  refine Oper.wp_of_quiet (C := fun y => ∃ z : Later x, y = z.world) (K := fun b => b = A) ⟨⟨x, Below.refl _ _⟩, rfl⟩ ?_ h
  rintro b y ⟨z, rfl⟩ hb
  exact ⟨hb, z.below⟩
/-- What stood in a block that may not turn. -/
theorem turned_cells {x : World} (h : Turned S w0 x) {p : Addr} {u : Value} (hc : w0.cell? p = some u) (hn : p.block ∉ S) (z : Later x) : z.world.cell? p = some u := by
  have hb := World.block_lt_of_cell? w0 p hc
  have e : z.world.heap[p.block]? = w0.heap[p.block]? := (z.below.block _ (Nat.lt_of_lt_of_le hb h.size)).trans (h.block _ hb hn)
  rw [← hc]
  unfold World.cell?
  rw [e]
end
end Go
