/- Texts YtlfgempjjoclbaaRegChain .. YtlfgempjjoclbaaVtAsP, joined. What they prove: the contracts of the functions that the law reaches, and plain law. -/
import Derived.Test.YtlfgempjjoclbaaG3
import Derived.Test.YtlfgempjjoclbaaProg
import Derived.Test.YtlfgempjjoclbaaRows
import Derived.Maps.OwnSet
import Derived.WalkKit
import Derived.Lib.Hide
import Derived.Lib.MinMax
import Derived.Outline
import Derived.WalkLawsBesides
import Derived.WalkSpells
import Derived.LoopTactic
import Derived.Deep.RegionHeld3
import Derived.StillTailTactics
import Derived.Deep.WholeRow
import Derived.Laws.CopyOwn
import Derived.Laws.StructEq
import Derived.Laws.Tables
import Derived.KernelRfl
import Derived.Shelf.Small.Strs
import Derived.Shelf.Strconv.Itoa0
import Derived.Shelf.Strings.Search1
import Derived.Deep.QuietTactic
import Derived.BigQuiet
import Derived.Lib.ConvBytes
import Derived.Lib.SmallJoins
import Derived.Lib.EndianBits
import Derived.OneCell
namespace Go
open Go.RowKit Go.Proofs.Ytlfgempjjoclbaa
section
variable {P : Program} {l : List Oper} {w0 : World} {Q : Exit → Act → World → Prop} {a0 : Act}
def CStep (P : Program) (l : List Oper) (Q : Exit → Act → World → Prop) (a0 : Act) (Wr : List Nat) (F : Nat → Option Value) (I : Nat → World → Prop) (k : Nat) (o : Oper) : Prop :=
  (k ∉ Wr ∧ ∃ u, F k = some u ∧ ∀ i v x, I i x → (∀ j u, j ∈ waits o → F j = some u → v j = u) → (∀ (j n : Nat), j ∈ waits o → Wr[n]? = some j → n < i) → Region.wanted o (yielded l.toArray (putAll a0 0 l v).tmps) = true ∧ o.wp P (putAll a0 0 l v) x (fun a' y => a' = (putAll a0 0 l v).put o.dst u ∧ Below x.heap.size x y) Q) ∨
  ∃ i, Wr[i]? = some k ∧ ∀ v x, I i x → (∀ j u, j ∈ waits o → F j = some u → v j = u) → Region.wanted o (yielded l.toArray (putAll a0 0 l v).tmps) = true ∧ o.wp P (putAll a0 0 l v) x (fun a' y => ∃ u, (∀ u', F k = some u' → u = u') ∧ a' = (putAll a0 0 l v).put o.dst u ∧ I (i + 1) y) Q
def CSteps (P : Program) (l : List Oper) (Q : Exit → Act → World → Prop) (a0 : Act) (Wr : List Nat) (F : Nat → Option Value) (I : Nat → World → Prop) : Nat → List Oper → Prop
  | _, [] => True
  | k, o :: r => CStep P l Q a0 Wr F I k o ∧ CSteps P l Q a0 Wr F I (k + 1) r
theorem CSteps.at {Wr : List Nat} {F : Nat → Option Value} {I : Nat → World → Prop} (r : List Oper) : ∀ (k : Nat), CSteps P l Q a0 Wr F I k r → ∀ i o, r[i]? = some o → CStep P l Q a0 Wr F I (k + i) o := by
  induction r with
  | nil => intro k _ i o hi; simp at hi
  | cons o' r ih =>
    intro k h i o hi
    cases i with
    | zero =>
      simp only [List.getElem?_cons_zero, Option.some.injEq] at hi
      subst hi; exact h.1
    | succ i =>
      simp only [List.getElem?_cons_succ] at hi
      have := ih (k + 1) h.2 i o hi
      rwa [Nat.add_assoc, Nat.add_comm 1 i] at this
theorem vsteps_of {F : Nat → Option Value} {M : (Nat → Bool) → (Nat → Value) → World → Prop} (r : List Oper) : ∀ (k : Nat), (∀ i o, r[i]? = some o → VStep P l Q a0 F M (k + i) o) → VSteps P l Q a0 F M k r := by
  induction r with
  | nil => intro k _; trivial
  | cons o r ih =>
    intro k h
    refine ⟨h 0 o rfl, ih (k + 1) fun i o' ho => ?_⟩
    have := h (i + 1) o' (by simpa using ho)
    rwa [Nat.add_assoc, Nat.add_comm 1 i]
def chainB (l : List Oper) (Wr : List Nat) : Bool := decide Wr.Nodup && (Wr.all fun k => decide (k < l.length)) && ((List.range (Wr.length - 1)).all fun i => match Wr[i]?, Wr[i + 1]? with
  | some a, some b => match l[b]? with
    | some o => (waits o).contains a
    | none => false
  | _, _ => false)
theorem wp_chain {id n : Nat} (Wr : List Nat) (F : Nat → Option Value) (I : Nat → World → Prop) (hm : P.follows .mixedOrders = true) (hB : factsB l n = true) (hC : chainB l Wr = true)
    (h0 : I 0 w0.drew) (hI : ∀ i x y, I i x → Below x.heap.size x y → I i y)
    (hsteps : CSteps P l Q a0 Wr F I 0 l)
    (hend : ∀ v x, (∀ k u, k < l.length → F k = some u → v k = u) → I Wr.length x → Q .normal (putAll a0 0 l v) x) : (Code.region id l.toArray true).wp P Q a0 w0 := by
  unfold chainB at hC
  rw [Bool.and_eq_true, Bool.and_eq_true, decide_eq_true_eq] at hC
  obtain ⟨⟨hnd, hlen⟩, hch⟩ := hC
  have hlt : ∀ i k, Wr[i]? = some k → k < l.length := fun i k h => by
    have := List.all_eq_true.1 hlen k (List.mem_of_getElem? h)
    simpa using this
  have hnext : ∀ i a b, Wr[i]? = some a → Wr[i + 1]? = some b → ∃ o, l[b]? = some o ∧ a ∈ waits o := fun i a b ha hb => by
    have hi : i < Wr.length - 1 := by
      have := (List.getElem?_eq_some_iff.1 hb).1; omega
    have := List.all_eq_true.1 hch i (List.mem_range.2 hi)
    rw [ha, hb] at this
    simp only at this
    cases ho : l[b]? with
    | none => rw [ho] at this; cases this
    | some o => rw [ho] at this; exact ⟨o, rfl, by simpa using this⟩
  have hinj : ∀ i j k, Wr[i]? = some k → Wr[j]? = some k → i = j := fun i j k hi hj => by
    obtain ⟨h1, h2⟩ := List.getElem?_eq_some_iff.1 hi
    obtain ⟨h3, h4⟩ := List.getElem?_eq_some_iff.1 hj
    exact (List.getElem_inj hnd).1 (h2.trans h4.symm)
  -- the ones that are listed are the first ones
  refine wp_vals (n := n) (fun k => if k ∈ Wr then none else F k) (fun L v x => ∃ i, (∀ j k, Wr[j]? = some k → (L k = true ↔ j < i)) ∧ (∀ j k u, Wr[j]? = some k → j < i → F k = some u → v k = u) ∧ i ≤ Wr.length ∧ I i x) hm hB ?_ ?_ ?_ ?_
  · intro L v hL
    exact ⟨0, fun j k hk => by rw [hL k (hlt j k hk)]; simp, fun j k u _ hj => absurd hj (Nat.not_lt_zero _), Nat.zero_le _, h0⟩
  · intro L L' v v' x hk ⟨i, h1, h2, h3, h4⟩
    have hw : ∀ j k, Wr[j]? = some k → L k = L' k ∧ (L k = true → v k = v' k) := fun j k hj => hk k (hlt j k hj) (by simp [List.mem_of_getElem? hj])
    exact ⟨i, fun j k hj => by rw [← (hw j k hj).1]; exact h1 j k hj, fun j k u hj hji hu => ((hw j k hj).2 ((h1 j k hj).2 hji)).symm.trans (h2 j k u hj hji hu), h3, h4⟩
  · refine vsteps_of l 0 fun k o ho => ?_
    rw [Nat.zero_add]
    have hst := CSteps.at l 0 hsteps k o ho
    rw [Nat.zero_add] at hst
    intro L v x hLk hW hF hbk ⟨i, h1, h2, h3, h4⟩
    have hFall : ∀ j u, j ∈ waits o → F j = some u → v j = u := fun j u hj hu => by
      by_cases hjw : j ∈ Wr
      · obtain ⟨n', hn'⟩ := List.getElem?_of_mem hjw
        exact h2 n' j u hn' ((h1 n' j hn').1 (hW j hj)) hu
      · exact hF j u hj (by simp only [if_neg hjw]; exact hu)
    rcases hst with ⟨hnw, u, hu, hst⟩ | ⟨i', hi', hst⟩
    · obtain ⟨hg, hr⟩ := hst i v x h4 hFall (fun j n' hj hn' => (h1 n' j hn').1 (hW j hj))
      refine ⟨hg, Oper.wp_mono ?_ hr⟩
      rintro a' y ⟨rfl, hb⟩
      simp only [if_neg hnw, hu]
      exact ⟨trivial, i, h1, h2, h3, hI i x y h4 hb⟩
    · have hkw : k ∈ Wr := List.mem_of_getElem? hi'
      -- i = i'
      have hle : ¬ i' < i := fun h => by
        have := (h1 i' k hi').2 h
        rw [hLk] at this; cases this
      have hge : ¬ i < i' := fun h => by
        obtain ⟨c, rfl⟩ : ∃ c, i' = c + 1 := ⟨i' - 1, by omega⟩
        have hc : c < Wr.length := by have := (List.getElem?_eq_some_iff.1 hi').1; omega
        obtain ⟨o', ho', hw'⟩ := hnext c Wr[c] k (List.getElem?_eq_getElem hc) hi'
        rw [ho] at ho'; cases ho'
        have := (h1 c _ (List.getElem?_eq_getElem hc)).1 (hW _ hw')
        omega
      obtain rfl : i = i' := by omega
      obtain ⟨hg, hr⟩ := hst v x h4 hFall
      refine ⟨hg, Oper.wp_mono ?_ hr⟩
      rintro a' y ⟨u, hu, rfl, hy⟩
      simp only [if_pos hkw]
      refine ⟨u, rfl, i + 1, fun j k' hj => ?_, fun j k' u' hj hji hu' => ?_, ?_, hy⟩
      · by_cases e : k' = k
        · subst e
          obtain rfl := hinj j i k' hj hi'
          simp
        · have e' : (k' == k) = false := by simpa using e
          simp only [e', Bool.or_false]
          rw [h1 j k' hj]
          have : j ≠ i := fun h => e (by subst h; rw [hi'] at hj; cases hj; rfl)
          omega
      · by_cases e : k' = k
        · subst e
          simp only [if_true]
          exact hu u' hu'
        · simp only [if_neg e]
          have : j ≠ i := fun h => e (by subst h; rw [hi'] at hj; cases hj; rfl)
          exact h2 j k' u' hj (by omega) hu'
      · have := (List.getElem?_eq_some_iff.1 hi').1; omega
  · intro L v x hL hF ⟨i, h1, h2, h3, h4⟩
    have hi : i = Wr.length := by
      apply Decidable.byContradiction
      intro hne
      have hlt' : i < Wr.length := by omega
      have := (h1 i _ (List.getElem?_eq_getElem hlt')).1 (hL _ (hlt i _ (List.getElem?_eq_getElem hlt')))
      omega
    subst hi
    refine hend v x (fun k u hk hu => ?_) h4
    by_cases hkw : k ∈ Wr
    · obtain ⟨n', hn'⟩ := List.getElem?_of_mem hkw
      exact h2 n' k u hn' (List.getElem?_eq_some_iff.1 hn').1 hu
    · exact hF k u hk (by simp only [if_neg hkw]; exact hu)
theorem cstep_pure {Wr : List Nat} {F : Nat → Option Value} {I : Nat → World → Prop} {k : Nat} {o : Oper} {u : Value} (hk : k ∉ Wr) (hu : F k = some u) (hg : o.guard = none)
    (h : ∀ i v x, I i x → (∀ j u, j ∈ waits o → F j = some u → v j = u) → (∀ (j n : Nat), j ∈ waits o → Wr[n]? = some j → n < i) → wpQuiet P #[] (fun y => ∃ z : Later x, y = z.world) (fun b => b = (putAll a0 0 l v).put o.dst u) [o] (putAll a0 0 l v)) : CStep P l Q a0 Wr F I k o :=
  .inl ⟨hk, u, hu, fun i v x h1 h2 h3 => ⟨wanted_none hg, vstep_pure hg (fun _ hb => ⟨rfl, hb⟩) (h i v x h1 h2 h3)⟩⟩
theorem cstep_wr {Wr : List Nat} {F : Nat → Option Value} {I : Nat → World → Prop} {k : Nat} {o : Oper} (i : Nat) (hk : Wr[i]? = some k) (hg : o.guard = none)
    (h : ∀ v x, I i x → (∀ j u, j ∈ waits o → F j = some u → v j = u) → o.wp P (putAll a0 0 l v) x (fun a' y => ∃ u, (∀ u', F k = some u' → u = u') ∧ a' = (putAll a0 0 l v).put o.dst u ∧ I (i + 1) y) Q) : CStep P l Q a0 Wr F I k o :=
  .inr ⟨i, hk, fun v x h1 h2 => ⟨wanted_none hg, h v x h1 h2⟩⟩
theorem cstep_sto {Wr : List Nat} {F : Nat → Option Value} {I : Nat → World → Prop} {k : Nat} {o : Oper} (i : Nat) (hk : Wr[i]? = some k) (hg : o.guard = none) (hF : F k = none)
    (h : ∀ v x, I i x → (∀ j u, j ∈ waits o → F j = some u → v j = u) → ∃ W, I (i + 1) W ∧ o.wp P (putAll a0 0 l v) x (fun a' y => a' = (putAll a0 0 l v).put o.dst undef ∧ y = W) Q) : CStep P l Q a0 Wr F I k o :=
  cstep_wr i hk hg fun v x h1 h2 => by
    obtain ⟨W, hW, hr⟩ := h v x h1 h2
    refine Oper.wp_mono ?_ hr
    rintro a' y ⟨rfl, rfl⟩
    exact ⟨undef, fun u' h => (by rw [hF] at h; cases h), rfl, hW⟩
end
end Go
namespace Go.Proofs.Ytlfgempjjoclbaa
open Go.RowKit Go.Maps Go.ChangeMaps
def msgC (m : Sough.Msg) : Array Value := #[.int .i64 (m.v 0), .int .u64 (m.v 1), .int .u64 (m.v 2), .string ⟨m.offer.toArray⟩, .int .i64 (m.v 4), .int .i64 (m.v 5), .int .i64 (m.v 6), .int .i64 (m.v 7), .int .i64 (m.v 8), .int .i64 (m.v 9), .int .i64 (m.v 10), .int .u64 (m.v 11), .int .u64 (m.v 12)]
def fldC (b : Nat) (f : Sough.Fld) : List Value :=
  if f.c = 3 then [.int .u64 0, .int .u64 0, .pointer none, .pointer none, .pointer (some ⟨b, 3, none⟩)]
  else if Sough.u64cell f.c = true then [.int .u64 f.lo, .int .u64 f.hi, .pointer (some ⟨b, f.c, none⟩), .pointer none, .pointer none]
  else [.int .u64 f.lo, .int .u64 f.hi, .pointer none, .pointer (some ⟨b, f.c, none⟩), .pointer none]
def rowC (b : Nat) (l : List Sough.Fld) : Array Value := (l.flatMap (fldC b)).toArray
def heldE (v : Value) : Option (DataW Value × List MemPlace) := some (.held v, [])
theorem lawK : Keyed Try.prog 3 := int_keyed Try.underlying3
theorem zeroF (w : World) : (zeroValue 132).run Try.prog w = .ok (.slice none 0 0) w := by kernel_rfl
set_option maxRecDepth 100000 in
theorem number_any (a : Option Addr) (w : World) : Calls Try.prog 80 #[.pointer a] w fun e w' => e = .returned (.agg #[.int .u64 1, .int .u64 4294967296, .pointer a, .pointer none, .pointer none]) ∧ Below w.heap.size w w' := by
  go_enter Try.func80, Try.ntmps80
  go_wp2_with fail
  refine bodyPost_ret (v := .agg #[.int .u64 1, .int .u64 4294967296, .pointer a, .pointer none, .pointer none]) (by simp [results, Try.results80, go_sem]) rfl ⟨rfl, (Below.refl _ _).alloc (Nat.le_refl _) _⟩
set_option maxRecDepth 100000 in
theorem name_any (a : Option Addr) (w : World) : Calls Try.prog 81 #[.pointer a] w fun e w' => e = .returned (.agg #[.int .u64 1, .int .u64 1048576, .pointer none, .pointer a, .pointer none]) ∧ Below w.heap.size w w' := by
  go_enter Try.func81, Try.ntmps81
  go_wp2_with fail
  refine bodyPost_ret (v := .agg #[.int .u64 1, .int .u64 1048576, .pointer none, .pointer a, .pointer none]) (by simp [results, Try.results81, go_sem]) rfl ⟨rfl, (Below.refl _ _).alloc (Nat.le_refl _) _⟩
structure FS (w W : World) (mb n : Nat) (D : DataW Value) (L : List (Nat × Obj)) : Prop where
  mem : Mem w L W
  own : W.ownsMap Try.prog 3 heldE mb n D
  new : w.heap.size ≤ mb
  far : ∀ p ∈ L, p.1 ≠ mb
theorem FS.later {w W W' : World} {mb n : Nat} {D : DataW Value} {L : List (Nat × Obj)} (h : FS w W mb n D L) (hb : Below W.heap.size W W') : FS w W' mb n D L := by
  obtain ⟨es, clock, h1, h2⟩ := h.own
  exact ⟨h.mem.later hb, ⟨es, clock, (hb.block mb h.own.lt).trans h1, h2⟩, h.new, h.far⟩
theorem FS.alloc {w W : World} {mb n : Nat} {D : DataW Value} {L : List (Nat × Obj)} (h : FS w W mb n D L) (o : Obj) : FS w (W.alloc o) mb n D ((W.heap.size, o) :: L) :=
  ⟨h.mem.alloc o, h.own.alloc o, h.new, fun p hp => by
    rcases List.mem_cons.1 hp with rfl | hp
    · have := h.own.lt; simp only; omega
    · exact h.far p hp⟩
theorem FS.insert {w W W' : World} {mb n n' : Nat} {D D' : DataW Value} {L : List (Nat × Obj)} (h : FS w W mb n D L) (ho : W'.ownsMap Try.prog 3 heldE mb n' D') (hg : W.grownBy W' (some mb)) : FS w W' mb n' D' L :=
  ⟨⟨h.mem.bel.grown hg h.mem.bel.size (fun k e => by cases e; exact h.new), fun p hp => (hg.block p.1 (lt_of_block (h.mem.blk p hp)) (fun e => h.far p hp (by cases e; rfl))).trans (h.mem.blk p hp)⟩, ho, h.new, h.far⟩
def keyK (k : Int) : Lit := .int .i64 k
end Go.Proofs.Ytlfgempjjoclbaa
namespace Go.Proofs.Ytlfgempjjoclbaa
open Go.RowKit Go.Maps Go.ChangeMaps
def findRegion (n : Nat) : Code → Option (Array Oper)
  | .region i ops _ => if i = n then some ops else none
  | .seq a b => (findRegion n a).or (findRegion n b)
  | .cond _ a b => (findRegion n a).or (findRegion n b)
  | .block _ c => findRegion n c
  | .loop c => findRegion n c
  | .scope c => findRegion n c
  | _ => none
noncomputable def fops : Array Oper := ((Try.f63.body.bind (findRegion 3))).getD #[]
def fconsts (b : Nat) : List (Nat × Nat × Value) := [
  (1, 7, .func (.func 80) #[] #[]),
  (2, 8, .pointer (some ⟨b, 0, none⟩)),
  (3, 9, .pointer (some ⟨b, 0, none⟩)),
  (4, 10, .pointer (some ⟨b, 1, none⟩)),
  (5, 11, .agg #[.int .u64 1, .int .u64 4294967296, .pointer (some ⟨b, 1, none⟩), .pointer none, .pointer none]),
  (6, 12, .pointer (some ⟨b, 0, none⟩)),
  (7, 13, .pointer (some ⟨b, 0, none⟩)),
  (8, 14, .pointer (some ⟨b, 3, none⟩)),
  (9, 15, .agg #[.int .u64 0, .int .u64 0, .pointer none, .pointer none, .pointer (some ⟨b, 3, none⟩)]),
  (10, 16, .pointer (some ⟨b, 0, none⟩)),
  (11, 17, .pointer (some ⟨b, 0, none⟩)),
  (12, 18, .pointer (some ⟨b, 4, none⟩)),
  (13, 19, .agg #[.int .u64 0, .int .u64 1, .pointer none, .pointer (some ⟨b, 4, none⟩), .pointer none]),
  (14, 20, .func (.func 81) #[] #[]),
  (15, 21, .pointer (some ⟨b, 0, none⟩)),
  (16, 22, .pointer (some ⟨b, 0, none⟩)),
  (17, 23, .pointer (some ⟨b, 6, none⟩)),
  (18, 24, .agg #[.int .u64 1, .int .u64 1048576, .pointer none, .pointer (some ⟨b, 6, none⟩), .pointer none]),
  (19, 25, .func (.func 81) #[] #[]),
  (20, 26, .pointer (some ⟨b, 0, none⟩)),
  (21, 27, .pointer (some ⟨b, 0, none⟩)),
  (22, 28, .pointer (some ⟨b, 7, none⟩)),
  (23, 29, .agg #[.int .u64 1, .int .u64 1048576, .pointer none, .pointer (some ⟨b, 7, none⟩), .pointer none]),
  (24, 30, .func (.func 81) #[] #[]),
  (25, 31, .pointer (some ⟨b, 0, none⟩)),
  (26, 32, .pointer (some ⟨b, 0, none⟩)),
  (27, 33, .pointer (some ⟨b, 8, none⟩)),
  (28, 34, .agg #[.int .u64 1, .int .u64 1048576, .pointer none, .pointer (some ⟨b, 8, none⟩), .pointer none]),
  (29, 35, .func (.func 81) #[] #[]),
  (30, 36, .pointer (some ⟨b, 0, none⟩)),
  (31, 37, .pointer (some ⟨b, 0, none⟩)),
  (32, 38, .pointer (some ⟨b, 9, none⟩)),
  (33, 39, .agg #[.int .u64 1, .int .u64 1048576, .pointer none, .pointer (some ⟨b, 9, none⟩), .pointer none]),
  (34, 40, .func (.func 81) #[] #[]),
  (35, 41, .pointer (some ⟨b, 0, none⟩)),
  (36, 42, .pointer (some ⟨b, 0, none⟩)),
  (37, 43, .pointer (some ⟨b, 10, none⟩)),
  (38, 44, .agg #[.int .u64 1, .int .u64 1048576, .pointer none, .pointer (some ⟨b, 10, none⟩), .pointer none]),
  (41, 46, .func (.func 80) #[] #[]),
  (42, 47, .pointer (some ⟨b, 0, none⟩)),
  (43, 48, .pointer (some ⟨b, 0, none⟩)),
  (44, 49, .pointer (some ⟨b, 1, none⟩)),
  (45, 50, .agg #[.int .u64 1, .int .u64 4294967296, .pointer (some ⟨b, 1, none⟩), .pointer none, .pointer none]),
  (46, 51, .func (.func 80) #[] #[]),
  (47, 52, .pointer (some ⟨b, 0, none⟩)),
  (48, 53, .pointer (some ⟨b, 0, none⟩)),
  (49, 54, .pointer (some ⟨b, 2, none⟩)),
  (50, 55, .agg #[.int .u64 1, .int .u64 4294967296, .pointer (some ⟨b, 2, none⟩), .pointer none, .pointer none]),
  (51, 56, .func (.func 81) #[] #[]),
  (52, 57, .pointer (some ⟨b, 0, none⟩)),
  (53, 58, .pointer (some ⟨b, 0, none⟩)),
  (54, 59, .pointer (some ⟨b, 6, none⟩)),
  (55, 60, .agg #[.int .u64 1, .int .u64 1048576, .pointer none, .pointer (some ⟨b, 6, none⟩), .pointer none]),
  (56, 61, .func (.func 81) #[] #[]),
  (57, 62, .pointer (some ⟨b, 0, none⟩)),
  (58, 63, .pointer (some ⟨b, 0, none⟩)),
  (59, 64, .pointer (some ⟨b, 8, none⟩)),
  (60, 65, .agg #[.int .u64 1, .int .u64 1048576, .pointer none, .pointer (some ⟨b, 8, none⟩), .pointer none]),
  (61, 66, .func (.func 81) #[] #[]),
  (62, 67, .pointer (some ⟨b, 0, none⟩)),
  (63, 68, .pointer (some ⟨b, 0, none⟩)),
  (64, 69, .pointer (some ⟨b, 9, none⟩)),
  (65, 70, .agg #[.int .u64 1, .int .u64 1048576, .pointer none, .pointer (some ⟨b, 9, none⟩), .pointer none]),
  (68, 72, .func (.func 80) #[] #[]),
  (69, 73, .pointer (some ⟨b, 0, none⟩)),
  (70, 74, .pointer (some ⟨b, 0, none⟩)),
  (71, 75, .pointer (some ⟨b, 2, none⟩)),
  (72, 76, .agg #[.int .u64 1, .int .u64 4294967296, .pointer (some ⟨b, 2, none⟩), .pointer none, .pointer none]),
  (73, 77, .pointer (some ⟨b, 0, none⟩)),
  (74, 78, .pointer (some ⟨b, 0, none⟩)),
  (75, 79, .pointer (some ⟨b, 5, none⟩)),
  (76, 80, .agg #[.int .u64 1, .int .u64 15, .pointer none, .pointer (some ⟨b, 5, none⟩), .pointer none]),
  (79, 82, .func (.func 80) #[] #[]),
  (80, 83, .pointer (some ⟨b, 0, none⟩)),
  (81, 84, .pointer (some ⟨b, 0, none⟩)),
  (82, 85, .pointer (some ⟨b, 2, none⟩)),
  (83, 86, .agg #[.int .u64 1, .int .u64 4294967296, .pointer (some ⟨b, 2, none⟩), .pointer none, .pointer none]),
  (84, 87, .pointer (some ⟨b, 0, none⟩)),
  (85, 88, .pointer (some ⟨b, 0, none⟩)),
  (86, 89, .pointer (some ⟨b, 11, none⟩)),
  (87, 90, .agg #[.int .u64 0, .int .u64 1000, .pointer (some ⟨b, 11, none⟩), .pointer none, .pointer none]),
  (88, 91, .pointer (some ⟨b, 0, none⟩)),
  (89, 92, .pointer (some ⟨b, 0, none⟩)),
  (90, 93, .pointer (some ⟨b, 12, none⟩)),
  (91, 94, .agg #[.int .u64 0, .int .u64 255, .pointer (some ⟨b, 12, none⟩), .pointer none, .pointer none]),
  (92, 95, .func (.func 81) #[] #[]),
  (93, 96, .pointer (some ⟨b, 0, none⟩)),
  (94, 97, .pointer (some ⟨b, 0, none⟩)),
  (95, 98, .pointer (some ⟨b, 9, none⟩)),
  (96, 99, .agg #[.int .u64 1, .int .u64 1048576, .pointer none, .pointer (some ⟨b, 9, none⟩), .pointer none])]
def fslices : List (Nat × Nat × List Sough.Fld) := [(39, 45, Sough.flds1), (66, 71, Sough.flds2), (77, 81, Sough.flds3), (97, 100, Sough.flds4)]
def fins : List (Nat × Nat × Nat) := [(40, 1, 45), (67, 2, 71), (78, 3, 81), (98, 4, 100)]
def mapslot : Nat := 6
def mvop : Nat := 99
def mvslot : Nat := 101
def asop : Nat := 100
def asslot : Nat := 5
def cnt (L : Nat → Bool) : Nat := (fins.filter fun x => L x.1).length
def late : List Nat := [mvop, asop] ++ fins.map (·.1)
structure FI (b : Nat) (w0 : World) (L : Nat → Bool) (a : Act) (w : World) : Prop where
  size : a.tmps.size = 108
  defers : a.defers = []
  s0 : a.eval (.tmp 0) = .pointer (some ⟨b, 0, none⟩)
  s3 : a.eval (.tmp 3) = .func (.func 80) #[] #[]
  s4 : a.eval (.tmp 4) = .func (.func 81) #[] #[]
  consts : ∀ x ∈ fconsts b, L x.1 = true → a.eval (.tmp x.2.1) = x.2.2
  below : Below w0.heap.size w0 w
  early : L 0 = false → ∀ i ∈ late, L i = false
  filled : ∀ y ∈ fins, L y.1 = true → ∀ x ∈ fslices, x.2.1 = y.2.2 → L x.1 = true
  slices : ∀ x ∈ fslices, L x.1 = true → ∃ g, a.eval (.tmp x.2.1) = .slice (some ⟨g, 0, none⟩) x.2.2.length x.2.2.length ∧ w0.heap.size ≤ g ∧ w.heap[g]? = some (.cells (rowC b x.2.2) 138 (0, 0))
  map : L 0 = true → ∃ mb D, a.eval (.tmp mapslot) = .map (some mb) ∧ w0.heap.size ≤ mb ∧ w.ownsMap Try.prog 3 heldE mb (cnt L) D ∧ IsMap D ∧
    (∀ x ∈ fins, L x.1 = true → ∀ zd, D.atKey (keyK x.2.1) zd = .held (a.eval (.tmp x.2.2))) ∧ (∀ kl, (∀ x ∈ fins, kl ≠ keyK x.2.1) → Maps.has D kl = false) ∧
    (L mvop = true → a.eval (.tmp mvslot) = .map (some mb)) ∧ (L asop = true → a.eval (.tmp asslot) = .map (some mb))
theorem eval_put {a : Act} {s t : Nat} {v : Value} (hs : s < a.tmps.size) : (a.put (some s) v).eval (.tmp t) = if t = s then v else a.eval (.tmp t) := by
  simp only [Act.put, Act.eval]
  by_cases e : t = s
  · subst e; simp [Array.getD, hs]
  · rw [if_neg e]
    simp only [Array.getD, Array.size_setIfInBounds]
    split
    · rename_i h
      rw [Array.getInternal_eq_getElem, Array.getInternal_eq_getElem, Array.getElem_setIfInBounds]
      rw [if_neg (Ne.symm e)]
    · rfl
theorem FI.const {b : Nat} {w0 : World} {L : Nat → Bool} {a : Act} {w : World} (h : FI b w0 L a w) (k : Nat) {x : Nat × Nat × Value} (hk : (fconsts b)[k]? = some x) (hL : L x.1 = true) : a.eval (.tmp x.2.1) = x.2.2 := h.consts x (List.mem_of_getElem? hk) hL
noncomputable def dj (i j : Nat) : Bool := (fops[i]?).any fun o => o.after.any fun e => e.on == j && Region.binds .any e
def StepAt (i : Nat) : Prop := ∀ (b : Nat) (w0 : World) (Q : Exit → Act → World → Prop) (L : Nat → Bool) (a : Act) (w : World), (∀ j, dj i j = true → L j = true) → L i = false → FI b w0 L a w → wpOp Try.prog fops Q i (FI b w0 (fun j => L j || j == i)) a w
theorem wpOp_of {P : Program} {ops : Array Oper} {Q : Exit → Act → World → Prop} {i : Nat} {K : Act → World → Prop} {a : Act} {w : World} {o : Oper} (ho : ops[i]? = some o) (hg : o.guard = none) (h : o.wp P a w K Q) : wpOp P ops Q i K a w := by
  unfold wpOp
  rw [ho]
  simp only [Region.wanted, hg, if_true]
  exact .inl h
theorem w_val {P : Program} {Q : Exit → Act → World → Prop} {K : Act → World → Prop} {a : Act} {w w' : World} {o : Oper} {s : Nat} {v : Value} (hd : o.dst = some s) (hrun : (execOp a.eval o).run P w = .ok (.value v) w') (hK : K (a.put (some s) v) w') : o.wp P a w K Q := by
  unfold Oper.wp
  rw [hrun, Oper.upon_value, hd]
  exact hK
theorem w_enter {P : Program} {Q : Exit → Act → World → Prop} {K : Act → World → Prop} {a : Act} {w : World} {o : Oper} {s f : Nat} {args : Array Value} {v : Value} (hd : o.dst = some s) (hrun : (execOp a.eval o).run P w = .ok (.enter f args) w)
    (hc : Calls P f args w fun e w' => e = .returned v ∧ Below w.heap.size w w') (hK : ∀ w', Below w.heap.size w w' → K (a.put (some s) v) w') : o.wp P a w K Q := by
  unfold Oper.wp
  rw [hrun, Oper.upon_enter]
  refine hc.mono ?_
  rintro e w' ⟨rfl, hb⟩
  rw [hd]
  exact hK w' hb
section
variable {P : Program} {Q : Exit → Act → World → Prop} {K : Act → World → Prop} {a : Act} {w : World} {o : Oper} {s : Nat} {v : Value}
theorem w_move {x : Operand} (hop : o.op = .move x) (hd : o.dst = some s) (hx : a.eval x = v) (hK : K (a.put (some s) v) w) : o.wp P a w K Q :=
  w_val (v := v) hd (by simp [execOp, hop, hx]) hK
theorem w_nil {x : Operand} {p : Addr} (hop : o.op = .nilCheck x) (hd : o.dst = some s) (hx : a.eval x = .pointer (some p)) (hK : K (a.put (some s) (.pointer (some p))) w) : o.wp P a w K Q :=
  w_val (v := .pointer (some p)) hd (by simp [execOp, hop, hx]) hK
theorem w_field {t : TypeId} {x : Operand} {k : Nat} {p : Value} (hop : o.op = .fieldAddr t x k) (hd : o.dst = some s) (hx : a.eval x = p) (hf : (Instr.fieldAt t p k).run P w = .ok v w) (hK : K (a.put (some s) v) w) : o.wp P a w K Q :=
  w_val (v := v) hd (by simp [execOp, hop, hx, hf, Result.andThen]) hK
theorem w_build {t : TypeId} {ps : Array (Nat × Operand)} (hop : o.op = .build t ps) (hd : o.dst = some s) (hf : (Instr.build t (ps.map fun (i, x) => (i, a.eval x))).run P w = .ok v w) (hK : K (a.put (some s) v) w) : o.wp P a w K Q :=
  w_val (v := v) hd (by simp only [execOp, hop]; simp [hf, Result.andThen]) hK
theorem w_call {f x : Operand} {n : Nat} {u : Value} {ts : Array TypeId} (hop : o.op = .call { callee := .value f, args := #[x], argTypes := ts }) (hd : o.dst = some s) (hf : a.eval f = .func (.func n) #[] #[]) (hx : a.eval x = u) (hcl : (callFunc n #[u]).run P w = .ok (.enter n #[u]) w)
    (hc : Calls P n #[u] w fun e w' => e = .returned v ∧ Below w.heap.size w w') (hK : ∀ w', Below w.heap.size w w' → K (a.put (some s) v) w') : o.wp P a w K Q :=
  w_enter (f := n) (args := #[u]) hd (by simp [execOp, hop, hf, hx, resolve, invoke, Deferred.ofValue, hcl]) hc hK
end
def cslots : List Nat := (fconsts 0).map (·.2.1)
theorem cslots_eq (b : Nat) : (fconsts b).map (·.2.1) = cslots := by rfl
def others : List Nat := [0, 3, 4, mapslot, mvslot, asslot] ++ fslices.map (·.2.1) ++ fins.map (·.2.2)
theorem cslots_nodup : cslots.Nodup := by decide +kernel
theorem cslots_far : ∀ s ∈ cslots, s ∉ others ∧ s < 108 := by decide +kernel
def cops : List Nat := (fconsts 0).map (·.1)
theorem cops_eq (b : Nat) : (fconsts b).map (·.1) = cops := by rfl
def oops : List Nat := [0, mvop, asop] ++ fslices.map (·.1) ++ fins.map (·.1)
theorem cops_far : ∀ s ∈ cops, s ∉ oops := by decide +kernel
theorem eq_of_slot {α β : Type} : ∀ {l : List (α × Nat × β)} {x y : α × Nat × β}, (l.map (·.2.1)).Nodup → x ∈ l → y ∈ l → x.2.1 = y.2.1 → x = y
  | [], _, _, _, h, _, _ => absurd h (by simp)
  | z :: l, x, y, hn, hx, hy, e => by
    rw [List.map_cons, List.nodup_cons] at hn
    rcases List.mem_cons.1 hx with h1 | h1 <;> rcases List.mem_cons.1 hy with h2 | h2
    · rw [h1, h2]
    · exact absurd (by rw [← h1, e]; exact List.mem_map_of_mem (f := (·.2.1)) h2) hn.1
    · exact absurd (by rw [← h2, ← e]; exact List.mem_map_of_mem (f := (·.2.1)) h1) hn.1
    · exact eq_of_slot hn.2 h1 h2 e
theorem cops_nodup : cops.Nodup := by decide +kernel
theorem eq_of_first {β : Type} : ∀ {l : List (Nat × β)} {x y : Nat × β}, (l.map (·.1)).Nodup → x ∈ l → y ∈ l → x.1 = y.1 → x = y
  | [], _, _, _, h, _, _ => absurd h (by simp)
  | z :: l, x, y, hn, hx, hy, e => by
    rw [List.map_cons, List.nodup_cons] at hn
    rcases List.mem_cons.1 hx with h1 | h1 <;> rcases List.mem_cons.1 hy with h2 | h2
    · rw [h1, h2]
    · exact absurd (by rw [← h1, e]; exact List.mem_map_of_mem (f := (·.1)) h2) hn.1
    · exact absurd (by rw [← h2, ← e]; exact List.mem_map_of_mem (f := (·.1)) h1) hn.1
    · exact eq_of_first hn.2 h1 h2 e
theorem eq_of_op {b : Nat} {x y : Nat × Nat × Value} (hx : x ∈ fconsts b) (hy : y ∈ fconsts b) (e : x.1 = y.1) : x = y := eq_of_first (by rw [cops_eq b]; exact cops_nodup) hx hy e
theorem FI.step_const {b : Nat} {w0 : World} {L : Nat → Bool} {a : Act} {w w' : World} (h : FI b w0 L a w) (k : Nat) {x : Nat × Nat × Value} (hk : (fconsts b)[k]? = some x) (hb : Below w.heap.size w w') : FI b w0 (fun j => L j || j == x.1) (a.put (some x.2.1) x.2.2) w' := by
  have hx := List.mem_of_getElem? hk
  have hs : x.2.1 ∈ cslots := by rw [← cslots_eq b]; exact List.mem_map_of_mem (f := (·.2.1)) hx
  have ho : x.1 ∈ cops := by rw [← cops_eq b]; exact List.mem_map_of_mem (f := (·.1)) hx
  obtain ⟨hfar, hlt⟩ := cslots_far _ hs
  have hof := cops_far _ ho
  have hsz : x.2.1 < a.tmps.size := by rw [h.size]; exact hlt
  have ev : ∀ t, t ∈ others → (a.put (some x.2.1) x.2.2).eval (.tmp t) = a.eval (.tmp t) := fun t ht => by
    rw [eval_put hsz, if_neg]
    exact fun e => hfar (e ▸ ht)
  have lv : ∀ j, j ∈ oops → (L j || j == x.1) = L j := fun j hj => by
    have : j ≠ x.1 := fun e => hof (e ▸ hj)
    simp [this]
  refine ⟨by simp [Act.put, h.size], by simp [Act.put, h.defers], ?_, ?_, ?_, ?_, h.below.trans (hb.mono h.below.size), ?_, ?_, ?_, ?_⟩
  · rw [ev 0 (by decide)]; exact h.s0
  · rw [ev 3 (by decide)]; exact h.s3
  · rw [ev 4 (by decide)]; exact h.s4
  · intro y hy hL
    rw [eval_put hsz]
    by_cases e : y.2.1 = x.2.1
    · have := eq_of_slot (by rw [cslots_eq b]; exact cslots_nodup) hy hx e
      rw [if_pos e, this]
    · rw [if_neg e]
      refine h.consts y hy ?_
      have : y.1 ≠ x.1 := fun e' => e (by
        have := eq_of_op hy hx e'
        rw [this])
      simpa [this] using hL
  · intro hL i hi
    rw [lv 0 (by decide)] at hL
    have hi' : i ∈ oops := by
      simp only [late, oops, List.mem_append, List.mem_cons, List.not_mem_nil, or_false] at hi ⊢
      rcases hi with (h | h) | h
      · exact .inl (.inl (.inr (.inl h)))
      · exact .inl (.inl (.inr (.inr h)))
      · exact .inr h
    rw [lv i hi']
    exact h.early hL i hi
  · intro y hy hL z hz e
    rw [lv _ (by unfold oops; simp only [List.mem_append]; exact .inr (List.mem_map_of_mem (f := (·.1)) hy))] at hL
    rw [h.filled y hy hL z hz e]; rfl
  · intro y hy hL
    rw [lv _ (by unfold oops; simp only [List.mem_append]; exact .inl (.inr (List.mem_map_of_mem (f := (·.1)) hy)))] at hL
    obtain ⟨g, h1, h2, h3⟩ := h.slices y hy hL
    exact ⟨g, by rw [ev _ (by unfold others; simp only [List.mem_append]; exact .inl (.inr (List.mem_map_of_mem (f := (·.2.1)) hy)))]; exact h1, h2, (hb.block g (lt_of_block h3)).trans h3⟩
  · intro hL
    rw [lv 0 (by decide)] at hL
    obtain ⟨mb, D, h1, h2, h3, h4, h5, h6, h7, h8⟩ := h.map hL
    have hc : cnt (fun j => L j || j == x.1) = cnt L := by
      unfold cnt
      congr 1
      apply List.filter_congr
      intro y hy
      exact lv _ (by unfold oops; simp only [List.mem_append]; exact .inr (List.mem_map_of_mem (f := (·.1)) hy))
    obtain ⟨es, clock, hbk, hrest⟩ := h3
    refine ⟨mb, D, by rw [ev _ (by decide)]; exact h1, h2, ⟨es, clock, (hb.block mb (lt_of_block hbk)).trans hbk, by rw [hc]; exact hrest⟩, h4, fun y hy hLy zd => ?_, h6, fun hLm => ?_, fun hLm => ?_⟩
    · rw [lv _ (by unfold oops; simp only [List.mem_append]; exact .inr (List.mem_map_of_mem (f := (·.1)) hy))] at hLy
      rw [ev _ (by unfold others; simp only [List.mem_append]; exact .inr (List.mem_map_of_mem (f := (·.2.2)) hy))]
      exact h5 y hy hLy zd
    · rw [lv _ (by decide)] at hLm; rw [ev _ (by decide)]; exact h7 hLm
    · rw [lv _ (by decide)] at hLm; rw [ev _ (by decide)]; exact h8 hLm
/-! ### the operations that depend on the order -/
theorem cells_ne_map {w : World} {g mb : Nat} {cs : Array Value} {T : TypeId} {h : Nat × Nat} {es : Array MapEntry} {c : Nat} (h1 : w.heap[g]? = some (.cells cs T h)) (h2 : w.heap[mb]? = some (.map es c)) : g ≠ mb := fun e => by
  subst e; rw [h1] at h2; cases h2
theorem FI.step_other {b : Nat} {w0 : World} {L : Nat → Bool} {a : Act} {w w' : World} (h : FI b w0 L a w) {i s : Nat} {v : Value} (hi : i ∉ cops) (hs : s ∉ cslots) (hs0 : s ≠ 0 ∧ s ≠ 3 ∧ s ≠ 4) (hlt : s < 108) (hb : Below w0.heap.size w0 w')
    (he : (L 0 || 0 == i) = false → ∀ j ∈ late, (L j || j == i) = false) (hf : ∀ y ∈ fins, y.1 ≠ i)
    (hsl : ∀ x ∈ fslices, (L x.1 || x.1 == i) = true → ∃ g, (a.put (some s) v).eval (.tmp x.2.1) = .slice (some ⟨g, 0, none⟩) x.2.2.length x.2.2.length ∧ w0.heap.size ≤ g ∧ w'.heap[g]? = some (.cells (rowC b x.2.2) 138 (0, 0)))
    (hm : (L 0 || 0 == i) = true → ∃ mb D, (a.put (some s) v).eval (.tmp mapslot) = .map (some mb) ∧ w0.heap.size ≤ mb ∧ w'.ownsMap Try.prog 3 heldE mb (cnt fun j => L j || j == i) D ∧ IsMap D ∧
      (∀ x ∈ fins, (L x.1 || x.1 == i) = true → ∀ zd, D.atKey (keyK x.2.1) zd = .held ((a.put (some s) v).eval (.tmp x.2.2))) ∧ (∀ kl, (∀ x ∈ fins, kl ≠ keyK x.2.1) → Maps.has D kl = false) ∧
      ((L mvop || mvop == i) = true → (a.put (some s) v).eval (.tmp mvslot) = .map (some mb)) ∧ ((L asop || asop == i) = true → (a.put (some s) v).eval (.tmp asslot) = .map (some mb))) :
    FI b w0 (fun j => L j || j == i) (a.put (some s) v) w' := by
  have hsz : s < a.tmps.size := by rw [h.size]; exact hlt
  refine ⟨by simp [Act.put, h.size], by simp [Act.put, h.defers], ?_, ?_, ?_, ?_, hb, he, fun y hy hL z hz e => by rw [h.filled y hy (by simpa [hf y hy] using hL) z hz e]; rfl, hsl, hm⟩
  · rw [eval_put hsz, if_neg (by omega)]; exact h.s0
  · rw [eval_put hsz, if_neg (by omega)]; exact h.s3
  · rw [eval_put hsz, if_neg (by omega)]; exact h.s4
  · intro y hy hL
    have h1 : y.2.1 ≠ s := fun e => hs (by rw [← cslots_eq b, ← e]; exact List.mem_map_of_mem (f := (·.2.1)) hy)
    have h2 : y.1 ≠ i := fun e => hi (by rw [← cops_eq b, ← e]; exact List.mem_map_of_mem (f := (·.1)) hy)
    rw [eval_put hsz, if_neg h1]
    exact h.consts y hy (by simpa [h2] using hL)
theorem cnt_same {L : Nat → Bool} {i : Nat} (hi : i ∉ fins.map (·.1)) : cnt (fun j => L j || j == i) = cnt L := by
  unfold cnt
  congr 1
  apply List.filter_congr
  intro y hy
  have : y.1 ≠ i := fun e => hi (by rw [← e]; exact List.mem_map_of_mem (f := (·.1)) hy)
  simp [this]
theorem cnt_more {L : Nat → Bool} {i : Nat} (hL : L i = false) (hi : i ∈ fins.map (·.1)) : cnt (fun j => L j || j == i) = cnt L + 1 := by
  have h4 : i = 40 ∨ i = 67 ∨ i = 78 ∨ i = 98 := by simpa [fins] using hi
  rcases h4 with rfl | rfl | rfl | rfl
  all_goals
    simp only [cnt, fins, List.filter_cons, List.filter_nil, hL]
    cases L 40 <;> cases L 67 <;> cases L 78 <;> cases L 98 <;> simp
theorem st_map {b : Nat} {w0 : World} {L : Nat → Bool} {a : Act} {w : World} (hL : L 0 = false) (h : FI b w0 L a w) : FI b w0 (fun j => L j || j == 0) (a.put (some mapslot) (.map (some w.heap.size))) (w.alloc (.map #[] 0)) := by
  have hsz : mapslot < a.tmps.size := by rw [h.size]; decide
  have ev : ∀ t, t ≠ mapslot → (a.put (some mapslot) (.map (some w.heap.size))).eval (.tmp t) = a.eval (.tmp t) := fun t ht => by rw [eval_put hsz, if_neg ht]
  have he := h.early hL
  have hf : ∀ x ∈ fins, L x.1 = false := fun x hx => he _ (by unfold late; simp only [List.mem_append]; exact .inr (List.mem_map_of_mem (f := (·.1)) hx))
  have hn0 : ∀ x ∈ fins, x.1 ≠ 0 := by decide
  refine h.step_other (by decide +kernel) (by decide +kernel) (by decide) (by decide) (h.below.alloc h.below.size _) (fun h0 => by simp at h0) hn0 (fun x hx hLx => ?_) (fun _ => ?_)
  · have h0 : x.1 ≠ 0 := (by decide : ∀ x ∈ fslices, x.1 ≠ 0) x hx
    obtain ⟨g, h1, h2, h3⟩ := h.slices x hx (by simpa [h0] using hLx)
    exact ⟨g, by rw [ev _ ((by decide : ∀ x ∈ fslices, x.2.1 ≠ mapslot) x hx)]; exact h1, h2, (Below.heap_alloc _ _ _ (lt_of_block h3)).trans h3⟩
  · refine ⟨w.heap.size, .map [], by rw [eval_put hsz, if_pos rfl], h.below.size, ?_, isMap_empty, fun x hx hLx => ?_, fun kl _ => rfl, fun hLm => ?_, fun hLm => ?_⟩
    · exact (World.ownsMap_made w Try.prog 3 heldE).mono (Nat.zero_le _)
    · have := hf x hx
      have h0 := hn0 x hx
      simp [this, h0] at hLx
    · have : L mvop = false := he _ (by decide)
      rw [this] at hLm; exact absurd hLm (by decide)
    · have : L asop = false := he _ (by decide)
      rw [this] at hLm; exact absurd hLm (by decide)
theorem st_slice {b : Nat} {w0 : World} {L : Nat → Bool} {a : Act} {w : World} (h : FI b w0 L a w) {x : Nat × Nat × List Sough.Fld} (hx : x ∈ fslices) (hL : L x.1 = false) : FI b w0 (fun j => L j || j == x.1) (a.put (some x.2.1) (.slice (some ⟨w.heap.size, 0, none⟩) x.2.2.length x.2.2.length)) (w.alloc (.cells (rowC b x.2.2) 138)) := by
  have hlt : x.2.1 < 108 := (by decide : ∀ x ∈ fslices, x.2.1 < 108) x hx
  have hsz : x.2.1 < a.tmps.size := by rw [h.size]; exact hlt
  have h0 : x.1 ≠ 0 := (by decide : ∀ x ∈ fslices, x.1 ≠ 0) x hx
  have hnl : ∀ j ∈ late, j ≠ x.1 := fun j hj => (by decide : ∀ x ∈ fslices, ∀ j ∈ late, j ≠ x.1) x hx j hj
  have hnm : x.2.1 ≠ mapslot ∧ x.2.1 ≠ mvslot ∧ x.2.1 ≠ asslot := (by decide : ∀ x ∈ fslices, x.2.1 ≠ mapslot ∧ x.2.1 ≠ mvslot ∧ x.2.1 ≠ asslot) x hx
  have hni : ∀ y ∈ fins, y.1 ≠ x.1 := fun y hy => hnl _ (by unfold late; simp only [List.mem_append]; exact .inr (List.mem_map_of_mem (f := (·.1)) hy))
  refine h.step_other ((by decide +kernel : ∀ x ∈ fslices, x.1 ∉ cops) x hx) ((by decide +kernel : ∀ x ∈ fslices, x.2.1 ∉ cslots) x hx) ((by decide : ∀ x ∈ fslices, x.2.1 ≠ 0 ∧ x.2.1 ≠ 3 ∧ x.2.1 ≠ 4) x hx) hlt (h.below.alloc h.below.size _) (fun hl j hj => ?_) hni (fun y hy hLy => ?_) (fun hl => ?_)
  · have hl0 : L 0 = false := by simpa [Ne.symm h0] using hl
    simp [h.early hl0 j hj, hnl j hj]
  · by_cases e : y = x
    · subst e
      refine ⟨w.heap.size, by rw [eval_put hsz, if_pos rfl], h.below.size, heap_alloc_new _ _⟩
    · have e1 : y.1 ≠ x.1 := fun e' => e (eq_of_first (l := fslices) (by decide) hy hx e')
      have e2 : y.2.1 ≠ x.2.1 := fun e' => e (eq_of_slot (l := fslices) (by decide) hy hx e')
      obtain ⟨g, k1, k2, k3⟩ := h.slices y hy (by simpa [e1] using hLy)
      exact ⟨g, by rw [eval_put hsz, if_neg e2]; exact k1, k2, (Below.heap_alloc _ _ _ (lt_of_block k3)).trans k3⟩
  · have hl0 : L 0 = true := by simpa [Ne.symm h0] using hl
    obtain ⟨mb, D, k1, k2, k3, k4, k5, k6, k7, k8⟩ := h.map hl0
    refine ⟨mb, D, by rw [eval_put hsz, if_neg (Ne.symm hnm.1)]; exact k1, k2, by rw [cnt_same (by intro hh; obtain ⟨y, hy, e⟩ := List.mem_map.1 hh; exact hni y hy e)]; exact k3.alloc _, k4, fun y hy hLy zd => ?_, k6, fun hm => ?_, fun hm => ?_⟩
    · have hLy' : L y.1 = true := by simpa [hni y hy] using hLy
      have e2 : y.2.2 ≠ x.2.1 := fun e => by
        -- the slice was there when it was filled in
        have := h.filled y hy hLy' x hx e.symm
        rw [hL] at this
        exact absurd this (by decide)
      rw [eval_put hsz, if_neg e2]
      exact k5 y hy hLy' zd
    · rw [eval_put hsz, if_neg (Ne.symm hnm.2.1)]; exact k7 (by simpa [hnl mvop (by decide)] using hm)
    · rw [eval_put hsz, if_neg (Ne.symm hnm.2.2)]; exact k8 (by simpa [hnl asop (by decide)] using hm)
theorem st_mv {b : Nat} {w0 : World} {L : Nat → Bool} {a : Act} {w : World} {mb : Nat} (h : FI b w0 L a w) (h0 : L 0 = true) (hv : a.eval (.tmp mapslot) = .map (some mb)) : FI b w0 (fun j => L j || j == mvop) (a.put (some mvslot) (.map (some mb))) w := by
  have hsz : mvslot < a.tmps.size := by rw [h.size]; decide
  refine h.step_other (by decide +kernel) (by decide +kernel) (by decide) (by decide) h.below (fun hl => by rw [h0] at hl; simp at hl) (by decide) (fun y hy hLy => ?_) (fun hl => ?_)
  · have e1 : y.1 ≠ mvop := (by decide : ∀ x ∈ fslices, x.1 ≠ mvop) y hy
    have e2 : y.2.1 ≠ mvslot := (by decide : ∀ x ∈ fslices, x.2.1 ≠ mvslot) y hy
    obtain ⟨g, k1, k2, k3⟩ := h.slices y hy (by simpa [e1] using hLy)
    exact ⟨g, by rw [eval_put hsz, if_neg e2]; exact k1, k2, k3⟩
  · obtain ⟨mb', D, k1, k2, k3, k4, k5, k6, k7, k8⟩ := h.map h0
    have em : mb' = mb := by rw [hv] at k1; injection k1 with k1; injection k1 with k1; exact k1.symm
    subst em
    refine ⟨mb', D, by rw [eval_put hsz, if_neg (by decide)]; exact k1, k2, by rw [cnt_same (by decide)]; exact k3, k4, fun y hy hLy zd => ?_, k6, fun _ => by rw [eval_put hsz, if_pos rfl], fun hm => ?_⟩
    · rw [eval_put hsz, if_neg ((by decide : ∀ x ∈ fins, x.2.2 ≠ mvslot) y hy)]
      exact k5 y hy (by simpa [(by decide : ∀ x ∈ fins, x.1 ≠ mvop) y hy] using hLy) zd
    · rw [eval_put hsz, if_neg (by decide)]; exact k8 (by simpa [show asop ≠ mvop by decide] using hm)
theorem st_as {b : Nat} {w0 : World} {L : Nat → Bool} {a : Act} {w : World} {mb : Nat} (h : FI b w0 L a w) (h0 : L 0 = true) (hv : a.eval (.tmp mapslot) = .map (some mb)) : FI b w0 (fun j => L j || j == asop) (a.put (some asslot) (.map (some mb))) w := by
  have hsz : asslot < a.tmps.size := by rw [h.size]; decide
  refine h.step_other (by decide +kernel) (by decide +kernel) (by decide) (by decide) h.below (fun hl => by rw [h0] at hl; simp at hl) (by decide) (fun y hy hLy => ?_) (fun hl => ?_)
  · have e1 : y.1 ≠ asop := (by decide : ∀ x ∈ fslices, x.1 ≠ asop) y hy
    have e2 : y.2.1 ≠ asslot := (by decide : ∀ x ∈ fslices, x.2.1 ≠ asslot) y hy
    obtain ⟨g, k1, k2, k3⟩ := h.slices y hy (by simpa [e1] using hLy)
    exact ⟨g, by rw [eval_put hsz, if_neg e2]; exact k1, k2, k3⟩
  · obtain ⟨mb', D, k1, k2, k3, k4, k5, k6, k7, k8⟩ := h.map h0
    have em : mb' = mb := by rw [hv] at k1; injection k1 with k1; injection k1 with k1; exact k1.symm
    subst em
    refine ⟨mb', D, by rw [eval_put hsz, if_neg (by decide)]; exact k1, k2, by rw [cnt_same (by decide)]; exact k3, k4, fun y hy hLy zd => ?_, k6, fun hm => ?_, fun _ => by rw [eval_put hsz, if_pos rfl]⟩
    · rw [eval_put hsz, if_neg ((by decide : ∀ x ∈ fins, x.2.2 ≠ asslot) y hy)]
      exact k5 y hy (by simpa [(by decide : ∀ x ∈ fins, x.1 ≠ asop) y hy] using hLy) zd
    · rw [eval_put hsz, if_neg (by decide)]; exact k7 (by simpa [show mvop ≠ asop by decide] using hm)
theorem keyK_inj {i j : Nat} (h : keyK i = keyK j) : i = j := Int.ofNat.inj (by simpa [keyK] using h)
theorem isKeyK (i : Int) : WideAt.IsKeyLit (keyK i) := by simp [keyK, WideAt.IsKeyLit]
theorem st_insert {b : Nat} {w0 : World} {L : Nat → Bool} {a : Act} {w : World} (h : FI b w0 L a w) {x : Nat × Nat × Nat} (hx : x ∈ fins) (hL : L x.1 = false) (h0 : L 0 = true) (hs : ∀ y ∈ fslices, y.2.1 = x.2.2 → L y.1 = true) {mb : Nat} (hv : a.eval (.tmp mapslot) = .map (some mb)) :
    ∃ w', (Instr.mapUpdate 155 (.map (some mb)) (.int .i64 x.2.1) (a.eval (.tmp x.2.2))).run Try.prog w = .ok () w' ∧ FI b w0 (fun j => L j || j == x.1) a w' := by
  obtain ⟨mb', D, k1, k2, k3, k4, k5, k6, k7, k8⟩ := h.map h0
  have em : mb' = mb := by rw [hv] at k1; injection k1 with k1; injection k1 with k1; exact k1.symm
  subst em
  have hkb : x.2.1 < 5 := (by decide : ∀ x ∈ fins, x.2.1 < 5) x hx
  have hcnt : cnt L ≤ 4 := Nat.le_trans (List.length_filter_le _ _) (by decide)
  obtain ⟨w', hrun, hown, hg⟩ := k3.update lawK Try.underlying155 (by unfold maxLen; omega) (keyOf_int_mk Try.underlying3 (WalkArith.wf_i64 (by omega)) : keyOf Try.prog 3 (.int .i64 x.2.1) = some (keyK x.2.1)) (d := .held (a.eval (.tmp x.2.2))) (ps := []) rfl
  refine ⟨w', hrun, ?_⟩
  have hi : x.1 ∉ cops := (by decide +kernel : ∀ x ∈ fins, x.1 ∉ cops) x hx
  have hns : ∀ y ∈ fslices, y.1 ≠ x.1 := (by decide : ∀ x ∈ fins, ∀ y ∈ fslices, y.1 ≠ x.1) x hx
  refine ⟨h.size, h.defers, h.s0, h.s3, h.s4, fun y hy hLy => ?_, h.below.grown hg h.below.size (fun k e => by cases e; exact k2), fun hl => by rw [h0] at hl; simp at hl, fun y hy hLy z hz e => ?_, fun y hy hLy => ?_, fun _ => ?_⟩
  · have h2 : y.1 ≠ x.1 := fun e => hi (by rw [← cops_eq b, ← e]; exact List.mem_map_of_mem (f := (·.1)) hy)
    exact h.consts y hy (by simpa [h2] using hLy)
  · by_cases ey : y.1 = x.1
    · have := eq_of_first (l := fins) (by decide) hy hx ey
      rw [this] at e
      rw [hs z hz e]; rfl
    · rw [h.filled y hy (by simpa [ey] using hLy) z hz e]; rfl
  · obtain ⟨g, j1, j2, j3⟩ := h.slices y hy (by simpa [hns y hy] using hLy)
    refine ⟨g, j1, j2, (hg.block g (lt_of_block j3) (fun e => ?_)).trans j3⟩
    obtain ⟨es, clock, hb, _⟩ := k3
    exact cells_ne_map j3 hb (by injection e)
  · refine ⟨mb', D.put (keyK x.2.1) (.held (a.eval (.tmp x.2.2))), k1, k2, by rw [cnt_more hL (List.mem_map_of_mem (f := (·.1)) hx)]; exact hown, k4.put _ _, fun y hy hLy zd => ?_, fun kl hkl => ?_, fun hm => k7 ?_, fun hm => k8 ?_⟩
    · by_cases ey : y.1 = x.1
      · have := eq_of_first (l := fins) (by decide) hy hx ey
        subst this
        exact atKey_put_same k4 (isKeyK _) _ _
      · have ek : keyK y.2.1 ≠ keyK x.2.1 := fun e => ey (by
          have := keyK_inj e
          have := eq_of_slot (l := fins) (by decide) hy hx this
          rw [this])
        rw [atKey_put_other ek]
        exact k5 y hy (by simpa [ey] using hLy) zd
    · rw [has_put_other (hkl x hx)]
      exact k6 kl hkl
    · simpa [(by decide : ∀ x ∈ fins, mvop ≠ x.1) x hx] using hm
    · simpa [(by decide : ∀ x ∈ fins, asop ≠ x.1) x hx] using hm
theorem w_insert {P : Program} {Q : Exit → Act → World → Prop} {K : Act → World → Prop} {a : Act} {w w' : World} {o : Oper} {t : TypeId} {m x v : Operand} {mv kv vv : Value} (hop : o.op = .insert t m x v) (hd : o.dst = none) (hm : a.eval m = mv) (hx : a.eval x = kv) (hv : a.eval v = vv)
    (hrun : (Instr.mapUpdate t mv kv vv).run P w = .ok () w') (hK : K a w') : o.wp P a w K Q := by
  unfold Oper.wp
  have : (execOp a.eval o).run P w = .ok .skip w' := by simp [execOp, hop, hm, hx, hv, hrun, Result.andThen]
  rw [this, Oper.upon_skip, hd]
  exact hK
theorem w_assign {P : Program} {Q : Exit → Act → World → Prop} {K : Act → World → Prop} {a : Act} {w : World} {o : Oper} {s : Nat} {v : Value} {x : Operand} (hop : o.op = .assign x) (hd : o.dst = some s) (hx : a.eval x = v) (hK : K (a.put (some s) v) w) : o.wp P a w K Q :=
  w_val (v := v) hd (by simp [execOp, hop, hx]) hK
theorem w_makeMap {P : Program} {Q : Exit → Act → World → Prop} {K : Act → World → Prop} {a : Act} {w : World} {o : Oper} {s : Nat} {t : TypeId} (hop : o.op = .makeMap t none) (hd : o.dst = some s) (hK : K (a.put (some s) (.map (some w.heap.size))) (w.alloc (.map #[] 0))) : o.wp P a w K Q :=
  w_val (v := .map (some w.heap.size)) hd (by simp [execOp, hop, run_makeMap, Result.andThen]) hK
theorem w_slice {P : Program} {Q : Exit → Act → World → Prop} {K : Act → World → Prop} {a : Act} {w w' : World} {o : Oper} {s n : Nat} {t : TypeId} {v : Value} {ps : Array (Nat × Operand)} (hop : o.op = .buildSlice t n ps) (hd : o.dst = some s) (hf : (Instr.buildSlice t n (ps.map fun (i, x) => (i, a.eval x))).run P w = .ok v w') (hK : K (a.put (some s) v) w') : o.wp P a w K Q :=
  w_val (v := v) hd (by simp only [execOp, hop]; simp [hf, Result.andThen]) hK
set_option maxRecDepth 100000 in
theorem fst0 : StepAt 0 := fun b w0 Q L a w hd hL h => by
  exact wpOp_of rfl rfl (w_makeMap (s := mapslot) rfl rfl (st_map hL h))
set_option maxRecDepth 100000 in
theorem fst1 : StepAt 1 := fun b w0 Q L a w hd hL h => by
  have e0 := h.s3
  refine wpOp_of rfl rfl (w_move (s := 7) (v := (.func (.func 80) #[] #[])) rfl rfl e0 ?_)
  exact h.step_const 0 rfl (Below.refl _ _)
set_option maxRecDepth 100000 in
theorem fst2 : StepAt 2 := fun b w0 Q L a w hd hL h => by
  have e0 := h.s0
  refine wpOp_of rfl rfl (w_move (s := 8) (v := (.pointer (some ⟨b, 0, none⟩))) rfl rfl e0 ?_)
  exact h.step_const 1 rfl (Below.refl _ _)
set_option maxRecDepth 100000 in
theorem fst3 : StepAt 3 := fun b w0 Q L a w hd hL h => by
  have e0 : a.eval (.tmp 8) = .pointer (some ⟨b, 0, none⟩) := h.const 1 rfl (hd 2 (by kernel_rfl))
  refine wpOp_of rfl rfl (w_nil (s := 9) rfl rfl e0 ?_)
  exact h.step_const 2 rfl (Below.refl _ _)
set_option maxRecDepth 100000 in
theorem fst4 : StepAt 4 := fun b w0 Q L a w hd hL h => by
  have e0 : a.eval (.tmp 9) = .pointer (some ⟨b, 0, none⟩) := h.const 2 rfl (hd 3 (by kernel_rfl))
  refine wpOp_of rfl rfl (w_field (s := 10) (v := (.pointer (some ⟨b, 1, none⟩))) rfl rfl e0 (by kernel_rfl) ?_)
  exact h.step_const 3 rfl (Below.refl _ _)
set_option maxRecDepth 100000 in
theorem fst5 : StepAt 5 := fun b w0 Q L a w hd hL h => by
  have e0 : a.eval (.tmp 7) = .func (.func 80) #[] #[] := h.const 0 rfl (hd 1 (by kernel_rfl))
  have e1 : a.eval (.tmp 10) = .pointer (some ⟨b, 1, none⟩) := h.const 3 rfl (hd 4 (by kernel_rfl))
  refine wpOp_of rfl rfl (w_call (s := 11) rfl rfl e0 e1 (by kernel_rfl) (number_any _ _) ?_)
  intro w' hb
  exact h.step_const 4 rfl hb
set_option maxRecDepth 100000 in
theorem fst6 : StepAt 6 := fun b w0 Q L a w hd hL h => by
  have e0 := h.s0
  refine wpOp_of rfl rfl (w_move (s := 12) (v := (.pointer (some ⟨b, 0, none⟩))) rfl rfl e0 ?_)
  exact h.step_const 5 rfl (Below.refl _ _)
set_option maxRecDepth 100000 in
theorem fst7 : StepAt 7 := fun b w0 Q L a w hd hL h => by
  have e0 : a.eval (.tmp 12) = .pointer (some ⟨b, 0, none⟩) := h.const 5 rfl (hd 6 (by kernel_rfl))
  refine wpOp_of rfl rfl (w_nil (s := 13) rfl rfl e0 ?_)
  exact h.step_const 6 rfl (Below.refl _ _)
set_option maxRecDepth 100000 in
theorem fst8 : StepAt 8 := fun b w0 Q L a w hd hL h => by
  have e0 : a.eval (.tmp 13) = .pointer (some ⟨b, 0, none⟩) := h.const 6 rfl (hd 7 (by kernel_rfl))
  refine wpOp_of rfl rfl (w_field (s := 14) (v := (.pointer (some ⟨b, 3, none⟩))) rfl rfl e0 (by kernel_rfl) ?_)
  exact h.step_const 7 rfl (Below.refl _ _)
set_option maxRecDepth 100000 in
theorem fst9 : StepAt 9 := fun b w0 Q L a w hd hL h => by
  have e0 : a.eval (.tmp 14) = .pointer (some ⟨b, 3, none⟩) := h.const 7 rfl (hd 8 (by kernel_rfl))
  refine wpOp_of rfl rfl (w_build (s := 15) (v := (.agg #[.int .u64 0, .int .u64 0, .pointer none, .pointer none, .pointer (some ⟨b, 3, none⟩)])) rfl rfl (by simp only [List.map_toArray, List.map_cons, List.map_nil, e0]; kernel_rfl) ?_)
  exact h.step_const 8 rfl (Below.refl _ _)
set_option maxRecDepth 100000 in
theorem fst10 : StepAt 10 := fun b w0 Q L a w hd hL h => by
  have e0 := h.s0
  refine wpOp_of rfl rfl (w_move (s := 16) (v := (.pointer (some ⟨b, 0, none⟩))) rfl rfl e0 ?_)
  exact h.step_const 9 rfl (Below.refl _ _)
set_option maxRecDepth 100000 in
theorem fst11 : StepAt 11 := fun b w0 Q L a w hd hL h => by
  have e0 : a.eval (.tmp 16) = .pointer (some ⟨b, 0, none⟩) := h.const 9 rfl (hd 10 (by kernel_rfl))
  refine wpOp_of rfl rfl (w_nil (s := 17) rfl rfl e0 ?_)
  exact h.step_const 10 rfl (Below.refl _ _)
set_option maxRecDepth 100000 in
theorem fst12 : StepAt 12 := fun b w0 Q L a w hd hL h => by
  have e0 : a.eval (.tmp 17) = .pointer (some ⟨b, 0, none⟩) := h.const 10 rfl (hd 11 (by kernel_rfl))
  refine wpOp_of rfl rfl (w_field (s := 18) (v := (.pointer (some ⟨b, 4, none⟩))) rfl rfl e0 (by kernel_rfl) ?_)
  exact h.step_const 11 rfl (Below.refl _ _)
set_option maxRecDepth 100000 in
theorem fst13 : StepAt 13 := fun b w0 Q L a w hd hL h => by
  have e0 : a.eval (.tmp 18) = .pointer (some ⟨b, 4, none⟩) := h.const 11 rfl (hd 12 (by kernel_rfl))
  refine wpOp_of rfl rfl (w_build (s := 19) (v := (.agg #[.int .u64 0, .int .u64 1, .pointer none, .pointer (some ⟨b, 4, none⟩), .pointer none])) rfl rfl (by simp only [List.map_toArray, List.map_cons, List.map_nil, e0]; kernel_rfl) ?_)
  exact h.step_const 12 rfl (Below.refl _ _)
set_option maxRecDepth 100000 in
theorem fst14 : StepAt 14 := fun b w0 Q L a w hd hL h => by
  have e0 := h.s4
  refine wpOp_of rfl rfl (w_move (s := 20) (v := (.func (.func 81) #[] #[])) rfl rfl e0 ?_)
  exact h.step_const 13 rfl (Below.refl _ _)
set_option maxRecDepth 100000 in
theorem fst15 : StepAt 15 := fun b w0 Q L a w hd hL h => by
  have e0 := h.s0
  refine wpOp_of rfl rfl (w_move (s := 21) (v := (.pointer (some ⟨b, 0, none⟩))) rfl rfl e0 ?_)
  exact h.step_const 14 rfl (Below.refl _ _)
set_option maxRecDepth 100000 in
theorem fst16 : StepAt 16 := fun b w0 Q L a w hd hL h => by
  have e0 : a.eval (.tmp 21) = .pointer (some ⟨b, 0, none⟩) := h.const 14 rfl (hd 15 (by kernel_rfl))
  refine wpOp_of rfl rfl (w_nil (s := 22) rfl rfl e0 ?_)
  exact h.step_const 15 rfl (Below.refl _ _)
set_option maxRecDepth 100000 in
theorem fst17 : StepAt 17 := fun b w0 Q L a w hd hL h => by
  have e0 : a.eval (.tmp 22) = .pointer (some ⟨b, 0, none⟩) := h.const 15 rfl (hd 16 (by kernel_rfl))
  refine wpOp_of rfl rfl (w_field (s := 23) (v := (.pointer (some ⟨b, 6, none⟩))) rfl rfl e0 (by kernel_rfl) ?_)
  exact h.step_const 16 rfl (Below.refl _ _)
set_option maxRecDepth 100000 in
theorem fst18 : StepAt 18 := fun b w0 Q L a w hd hL h => by
  have e0 : a.eval (.tmp 20) = .func (.func 81) #[] #[] := h.const 13 rfl (hd 14 (by kernel_rfl))
  have e1 : a.eval (.tmp 23) = .pointer (some ⟨b, 6, none⟩) := h.const 16 rfl (hd 17 (by kernel_rfl))
  refine wpOp_of rfl rfl (w_call (s := 24) rfl rfl e0 e1 (by kernel_rfl) (name_any _ _) ?_)
  intro w' hb
  exact h.step_const 17 rfl hb
set_option maxRecDepth 100000 in
theorem fst19 : StepAt 19 := fun b w0 Q L a w hd hL h => by
  have e0 := h.s4
  refine wpOp_of rfl rfl (w_move (s := 25) (v := (.func (.func 81) #[] #[])) rfl rfl e0 ?_)
  exact h.step_const 18 rfl (Below.refl _ _)
set_option maxRecDepth 100000 in
theorem fst20 : StepAt 20 := fun b w0 Q L a w hd hL h => by
  have e0 := h.s0
  refine wpOp_of rfl rfl (w_move (s := 26) (v := (.pointer (some ⟨b, 0, none⟩))) rfl rfl e0 ?_)
  exact h.step_const 19 rfl (Below.refl _ _)
set_option maxRecDepth 100000 in
theorem fst21 : StepAt 21 := fun b w0 Q L a w hd hL h => by
  have e0 : a.eval (.tmp 26) = .pointer (some ⟨b, 0, none⟩) := h.const 19 rfl (hd 20 (by kernel_rfl))
  refine wpOp_of rfl rfl (w_nil (s := 27) rfl rfl e0 ?_)
  exact h.step_const 20 rfl (Below.refl _ _)
set_option maxRecDepth 100000 in
theorem fst22 : StepAt 22 := fun b w0 Q L a w hd hL h => by
  have e0 : a.eval (.tmp 27) = .pointer (some ⟨b, 0, none⟩) := h.const 20 rfl (hd 21 (by kernel_rfl))
  refine wpOp_of rfl rfl (w_field (s := 28) (v := (.pointer (some ⟨b, 7, none⟩))) rfl rfl e0 (by kernel_rfl) ?_)
  exact h.step_const 21 rfl (Below.refl _ _)
set_option maxRecDepth 100000 in
theorem fst23 : StepAt 23 := fun b w0 Q L a w hd hL h => by
  have e0 : a.eval (.tmp 25) = .func (.func 81) #[] #[] := h.const 18 rfl (hd 19 (by kernel_rfl))
  have e1 : a.eval (.tmp 28) = .pointer (some ⟨b, 7, none⟩) := h.const 21 rfl (hd 22 (by kernel_rfl))
  refine wpOp_of rfl rfl (w_call (s := 29) rfl rfl e0 e1 (by kernel_rfl) (name_any _ _) ?_)
  intro w' hb
  exact h.step_const 22 rfl hb
set_option maxRecDepth 100000 in
theorem fst24 : StepAt 24 := fun b w0 Q L a w hd hL h => by
  have e0 := h.s4
  refine wpOp_of rfl rfl (w_move (s := 30) (v := (.func (.func 81) #[] #[])) rfl rfl e0 ?_)
  exact h.step_const 23 rfl (Below.refl _ _)
set_option maxRecDepth 100000 in
theorem fst25 : StepAt 25 := fun b w0 Q L a w hd hL h => by
  have e0 := h.s0
  refine wpOp_of rfl rfl (w_move (s := 31) (v := (.pointer (some ⟨b, 0, none⟩))) rfl rfl e0 ?_)
  exact h.step_const 24 rfl (Below.refl _ _)
set_option maxRecDepth 100000 in
theorem fst26 : StepAt 26 := fun b w0 Q L a w hd hL h => by
  have e0 : a.eval (.tmp 31) = .pointer (some ⟨b, 0, none⟩) := h.const 24 rfl (hd 25 (by kernel_rfl))
  refine wpOp_of rfl rfl (w_nil (s := 32) rfl rfl e0 ?_)
  exact h.step_const 25 rfl (Below.refl _ _)
set_option maxRecDepth 100000 in
theorem fst27 : StepAt 27 := fun b w0 Q L a w hd hL h => by
  have e0 : a.eval (.tmp 32) = .pointer (some ⟨b, 0, none⟩) := h.const 25 rfl (hd 26 (by kernel_rfl))
  refine wpOp_of rfl rfl (w_field (s := 33) (v := (.pointer (some ⟨b, 8, none⟩))) rfl rfl e0 (by kernel_rfl) ?_)
  exact h.step_const 26 rfl (Below.refl _ _)
set_option maxRecDepth 100000 in
theorem fst28 : StepAt 28 := fun b w0 Q L a w hd hL h => by
  have e0 : a.eval (.tmp 30) = .func (.func 81) #[] #[] := h.const 23 rfl (hd 24 (by kernel_rfl))
  have e1 : a.eval (.tmp 33) = .pointer (some ⟨b, 8, none⟩) := h.const 26 rfl (hd 27 (by kernel_rfl))
  refine wpOp_of rfl rfl (w_call (s := 34) rfl rfl e0 e1 (by kernel_rfl) (name_any _ _) ?_)
  intro w' hb
  exact h.step_const 27 rfl hb
set_option maxRecDepth 100000 in
theorem fst29 : StepAt 29 := fun b w0 Q L a w hd hL h => by
  have e0 := h.s4
  refine wpOp_of rfl rfl (w_move (s := 35) (v := (.func (.func 81) #[] #[])) rfl rfl e0 ?_)
  exact h.step_const 28 rfl (Below.refl _ _)
set_option maxRecDepth 100000 in
theorem fst30 : StepAt 30 := fun b w0 Q L a w hd hL h => by
  have e0 := h.s0
  refine wpOp_of rfl rfl (w_move (s := 36) (v := (.pointer (some ⟨b, 0, none⟩))) rfl rfl e0 ?_)
  exact h.step_const 29 rfl (Below.refl _ _)
set_option maxRecDepth 100000 in
theorem fst31 : StepAt 31 := fun b w0 Q L a w hd hL h => by
  have e0 : a.eval (.tmp 36) = .pointer (some ⟨b, 0, none⟩) := h.const 29 rfl (hd 30 (by kernel_rfl))
  refine wpOp_of rfl rfl (w_nil (s := 37) rfl rfl e0 ?_)
  exact h.step_const 30 rfl (Below.refl _ _)
set_option maxRecDepth 100000 in
theorem fst32 : StepAt 32 := fun b w0 Q L a w hd hL h => by
  have e0 : a.eval (.tmp 37) = .pointer (some ⟨b, 0, none⟩) := h.const 30 rfl (hd 31 (by kernel_rfl))
  refine wpOp_of rfl rfl (w_field (s := 38) (v := (.pointer (some ⟨b, 9, none⟩))) rfl rfl e0 (by kernel_rfl) ?_)
  exact h.step_const 31 rfl (Below.refl _ _)
set_option maxRecDepth 100000 in
theorem fst33 : StepAt 33 := fun b w0 Q L a w hd hL h => by
  have e0 : a.eval (.tmp 35) = .func (.func 81) #[] #[] := h.const 28 rfl (hd 29 (by kernel_rfl))
  have e1 : a.eval (.tmp 38) = .pointer (some ⟨b, 9, none⟩) := h.const 31 rfl (hd 32 (by kernel_rfl))
  refine wpOp_of rfl rfl (w_call (s := 39) rfl rfl e0 e1 (by kernel_rfl) (name_any _ _) ?_)
  intro w' hb
  exact h.step_const 32 rfl hb
set_option maxRecDepth 100000 in
theorem fst34 : StepAt 34 := fun b w0 Q L a w hd hL h => by
  have e0 := h.s4
  refine wpOp_of rfl rfl (w_move (s := 40) (v := (.func (.func 81) #[] #[])) rfl rfl e0 ?_)
  exact h.step_const 33 rfl (Below.refl _ _)
set_option maxRecDepth 100000 in
theorem fst35 : StepAt 35 := fun b w0 Q L a w hd hL h => by
  have e0 := h.s0
  refine wpOp_of rfl rfl (w_move (s := 41) (v := (.pointer (some ⟨b, 0, none⟩))) rfl rfl e0 ?_)
  exact h.step_const 34 rfl (Below.refl _ _)
set_option maxRecDepth 100000 in
theorem fst36 : StepAt 36 := fun b w0 Q L a w hd hL h => by
  have e0 : a.eval (.tmp 41) = .pointer (some ⟨b, 0, none⟩) := h.const 34 rfl (hd 35 (by kernel_rfl))
  refine wpOp_of rfl rfl (w_nil (s := 42) rfl rfl e0 ?_)
  exact h.step_const 35 rfl (Below.refl _ _)
set_option maxRecDepth 100000 in
theorem fst37 : StepAt 37 := fun b w0 Q L a w hd hL h => by
  have e0 : a.eval (.tmp 42) = .pointer (some ⟨b, 0, none⟩) := h.const 35 rfl (hd 36 (by kernel_rfl))
  refine wpOp_of rfl rfl (w_field (s := 43) (v := (.pointer (some ⟨b, 10, none⟩))) rfl rfl e0 (by kernel_rfl) ?_)
  exact h.step_const 36 rfl (Below.refl _ _)
set_option maxRecDepth 100000 in
theorem fst38 : StepAt 38 := fun b w0 Q L a w hd hL h => by
  have e0 : a.eval (.tmp 40) = .func (.func 81) #[] #[] := h.const 33 rfl (hd 34 (by kernel_rfl))
  have e1 : a.eval (.tmp 43) = .pointer (some ⟨b, 10, none⟩) := h.const 36 rfl (hd 37 (by kernel_rfl))
  refine wpOp_of rfl rfl (w_call (s := 44) rfl rfl e0 e1 (by kernel_rfl) (name_any _ _) ?_)
  intro w' hb
  exact h.step_const 37 rfl hb
set_option maxRecDepth 100000 in
theorem fst39 : StepAt 39 := fun b w0 Q L a w hd hL h => by
  have e0 : a.eval (.tmp 11) = .agg #[.int .u64 1, .int .u64 4294967296, .pointer (some ⟨b, 1, none⟩), .pointer none, .pointer none] := h.const 4 rfl (hd 5 (by kernel_rfl))
  have e1 : a.eval (.tmp 15) = .agg #[.int .u64 0, .int .u64 0, .pointer none, .pointer none, .pointer (some ⟨b, 3, none⟩)] := h.const 8 rfl (hd 9 (by kernel_rfl))
  have e2 : a.eval (.tmp 19) = .agg #[.int .u64 0, .int .u64 1, .pointer none, .pointer (some ⟨b, 4, none⟩), .pointer none] := h.const 12 rfl (hd 13 (by kernel_rfl))
  have e3 : a.eval (.tmp 24) = .agg #[.int .u64 1, .int .u64 1048576, .pointer none, .pointer (some ⟨b, 6, none⟩), .pointer none] := h.const 17 rfl (hd 18 (by kernel_rfl))
  have e4 : a.eval (.tmp 29) = .agg #[.int .u64 1, .int .u64 1048576, .pointer none, .pointer (some ⟨b, 7, none⟩), .pointer none] := h.const 22 rfl (hd 23 (by kernel_rfl))
  have e5 : a.eval (.tmp 34) = .agg #[.int .u64 1, .int .u64 1048576, .pointer none, .pointer (some ⟨b, 8, none⟩), .pointer none] := h.const 27 rfl (hd 28 (by kernel_rfl))
  have e6 : a.eval (.tmp 39) = .agg #[.int .u64 1, .int .u64 1048576, .pointer none, .pointer (some ⟨b, 9, none⟩), .pointer none] := h.const 32 rfl (hd 33 (by kernel_rfl))
  have e7 : a.eval (.tmp 44) = .agg #[.int .u64 1, .int .u64 1048576, .pointer none, .pointer (some ⟨b, 10, none⟩), .pointer none] := h.const 37 rfl (hd 38 (by kernel_rfl))
  refine wpOp_of rfl rfl (w_slice (s := 45) (v := .slice (some ⟨w.heap.size, 0, none⟩) 8 8) (w' := w.alloc (.cells (rowC b Sough.flds1) 138)) rfl rfl (by simp only [List.map_toArray, List.map_cons, List.map_nil, e0, e1, e2, e3, e4, e5, e6, e7]; kernel_rfl) ?_)
  exact st_slice h (x := (39, 45, Sough.flds1)) (by simp [fslices]) hL
set_option maxRecDepth 100000 in
theorem fst40 : StepAt 40 := fun b w0 Q L a w hd hL h => by
  obtain ⟨mb, D, k1, _⟩ := h.map (hd 0 (by kernel_rfl))
  obtain ⟨w', hrun, hI⟩ := st_insert h (x := (40, 1, 45)) (by simp [fins]) hL (hd 0 (by kernel_rfl)) (fun y hy e => by
    have := eq_of_slot (l := fslices) (x := y) (y := (39, 45, Sough.flds1)) (by decide) hy (by simp [fslices]) e
    rw [this]; exact hd 39 (by kernel_rfl)) k1
  exact wpOp_of rfl rfl (w_insert rfl rfl k1 rfl rfl hrun hI)
set_option maxRecDepth 100000 in
theorem fst41 : StepAt 41 := fun b w0 Q L a w hd hL h => by
  have e0 := h.s3
  refine wpOp_of rfl rfl (w_move (s := 46) (v := (.func (.func 80) #[] #[])) rfl rfl e0 ?_)
  exact h.step_const 38 rfl (Below.refl _ _)
set_option maxRecDepth 100000 in
theorem fst42 : StepAt 42 := fun b w0 Q L a w hd hL h => by
  have e0 := h.s0
  refine wpOp_of rfl rfl (w_move (s := 47) (v := (.pointer (some ⟨b, 0, none⟩))) rfl rfl e0 ?_)
  exact h.step_const 39 rfl (Below.refl _ _)
set_option maxRecDepth 100000 in
theorem fst43 : StepAt 43 := fun b w0 Q L a w hd hL h => by
  have e0 : a.eval (.tmp 47) = .pointer (some ⟨b, 0, none⟩) := h.const 39 rfl (hd 42 (by kernel_rfl))
  refine wpOp_of rfl rfl (w_nil (s := 48) rfl rfl e0 ?_)
  exact h.step_const 40 rfl (Below.refl _ _)
set_option maxRecDepth 100000 in
theorem fst44 : StepAt 44 := fun b w0 Q L a w hd hL h => by
  have e0 : a.eval (.tmp 48) = .pointer (some ⟨b, 0, none⟩) := h.const 40 rfl (hd 43 (by kernel_rfl))
  refine wpOp_of rfl rfl (w_field (s := 49) (v := (.pointer (some ⟨b, 1, none⟩))) rfl rfl e0 (by kernel_rfl) ?_)
  exact h.step_const 41 rfl (Below.refl _ _)
set_option maxRecDepth 100000 in
theorem fst45 : StepAt 45 := fun b w0 Q L a w hd hL h => by
  have e0 : a.eval (.tmp 46) = .func (.func 80) #[] #[] := h.const 38 rfl (hd 41 (by kernel_rfl))
  have e1 : a.eval (.tmp 49) = .pointer (some ⟨b, 1, none⟩) := h.const 41 rfl (hd 44 (by kernel_rfl))
  refine wpOp_of rfl rfl (w_call (s := 50) rfl rfl e0 e1 (by kernel_rfl) (number_any _ _) ?_)
  intro w' hb
  exact h.step_const 42 rfl hb
set_option maxRecDepth 100000 in
theorem fst46 : StepAt 46 := fun b w0 Q L a w hd hL h => by
  have e0 := h.s3
  refine wpOp_of rfl rfl (w_move (s := 51) (v := (.func (.func 80) #[] #[])) rfl rfl e0 ?_)
  exact h.step_const 43 rfl (Below.refl _ _)
set_option maxRecDepth 100000 in
theorem fst47 : StepAt 47 := fun b w0 Q L a w hd hL h => by
  have e0 := h.s0
  refine wpOp_of rfl rfl (w_move (s := 52) (v := (.pointer (some ⟨b, 0, none⟩))) rfl rfl e0 ?_)
  exact h.step_const 44 rfl (Below.refl _ _)
set_option maxRecDepth 100000 in
theorem fst48 : StepAt 48 := fun b w0 Q L a w hd hL h => by
  have e0 : a.eval (.tmp 52) = .pointer (some ⟨b, 0, none⟩) := h.const 44 rfl (hd 47 (by kernel_rfl))
  refine wpOp_of rfl rfl (w_nil (s := 53) rfl rfl e0 ?_)
  exact h.step_const 45 rfl (Below.refl _ _)
set_option maxRecDepth 100000 in
theorem fst49 : StepAt 49 := fun b w0 Q L a w hd hL h => by
  have e0 : a.eval (.tmp 53) = .pointer (some ⟨b, 0, none⟩) := h.const 45 rfl (hd 48 (by kernel_rfl))
  refine wpOp_of rfl rfl (w_field (s := 54) (v := (.pointer (some ⟨b, 2, none⟩))) rfl rfl e0 (by kernel_rfl) ?_)
  exact h.step_const 46 rfl (Below.refl _ _)
set_option maxRecDepth 100000 in
theorem fst50 : StepAt 50 := fun b w0 Q L a w hd hL h => by
  have e0 : a.eval (.tmp 51) = .func (.func 80) #[] #[] := h.const 43 rfl (hd 46 (by kernel_rfl))
  have e1 : a.eval (.tmp 54) = .pointer (some ⟨b, 2, none⟩) := h.const 46 rfl (hd 49 (by kernel_rfl))
  refine wpOp_of rfl rfl (w_call (s := 55) rfl rfl e0 e1 (by kernel_rfl) (number_any _ _) ?_)
  intro w' hb
  exact h.step_const 47 rfl hb
set_option maxRecDepth 100000 in
theorem fst51 : StepAt 51 := fun b w0 Q L a w hd hL h => by
  have e0 := h.s4
  refine wpOp_of rfl rfl (w_move (s := 56) (v := (.func (.func 81) #[] #[])) rfl rfl e0 ?_)
  exact h.step_const 48 rfl (Below.refl _ _)
set_option maxRecDepth 100000 in
theorem fst52 : StepAt 52 := fun b w0 Q L a w hd hL h => by
  have e0 := h.s0
  refine wpOp_of rfl rfl (w_move (s := 57) (v := (.pointer (some ⟨b, 0, none⟩))) rfl rfl e0 ?_)
  exact h.step_const 49 rfl (Below.refl _ _)
set_option maxRecDepth 100000 in
theorem fst53 : StepAt 53 := fun b w0 Q L a w hd hL h => by
  have e0 : a.eval (.tmp 57) = .pointer (some ⟨b, 0, none⟩) := h.const 49 rfl (hd 52 (by kernel_rfl))
  refine wpOp_of rfl rfl (w_nil (s := 58) rfl rfl e0 ?_)
  exact h.step_const 50 rfl (Below.refl _ _)
set_option maxRecDepth 100000 in
theorem fst54 : StepAt 54 := fun b w0 Q L a w hd hL h => by
  have e0 : a.eval (.tmp 58) = .pointer (some ⟨b, 0, none⟩) := h.const 50 rfl (hd 53 (by kernel_rfl))
  refine wpOp_of rfl rfl (w_field (s := 59) (v := (.pointer (some ⟨b, 6, none⟩))) rfl rfl e0 (by kernel_rfl) ?_)
  exact h.step_const 51 rfl (Below.refl _ _)
set_option maxRecDepth 100000 in
theorem fst55 : StepAt 55 := fun b w0 Q L a w hd hL h => by
  have e0 : a.eval (.tmp 56) = .func (.func 81) #[] #[] := h.const 48 rfl (hd 51 (by kernel_rfl))
  have e1 : a.eval (.tmp 59) = .pointer (some ⟨b, 6, none⟩) := h.const 51 rfl (hd 54 (by kernel_rfl))
  refine wpOp_of rfl rfl (w_call (s := 60) rfl rfl e0 e1 (by kernel_rfl) (name_any _ _) ?_)
  intro w' hb
  exact h.step_const 52 rfl hb
set_option maxRecDepth 100000 in
theorem fst56 : StepAt 56 := fun b w0 Q L a w hd hL h => by
  have e0 := h.s4
  refine wpOp_of rfl rfl (w_move (s := 61) (v := (.func (.func 81) #[] #[])) rfl rfl e0 ?_)
  exact h.step_const 53 rfl (Below.refl _ _)
set_option maxRecDepth 100000 in
theorem fst57 : StepAt 57 := fun b w0 Q L a w hd hL h => by
  have e0 := h.s0
  refine wpOp_of rfl rfl (w_move (s := 62) (v := (.pointer (some ⟨b, 0, none⟩))) rfl rfl e0 ?_)
  exact h.step_const 54 rfl (Below.refl _ _)
set_option maxRecDepth 100000 in
theorem fst58 : StepAt 58 := fun b w0 Q L a w hd hL h => by
  have e0 : a.eval (.tmp 62) = .pointer (some ⟨b, 0, none⟩) := h.const 54 rfl (hd 57 (by kernel_rfl))
  refine wpOp_of rfl rfl (w_nil (s := 63) rfl rfl e0 ?_)
  exact h.step_const 55 rfl (Below.refl _ _)
set_option maxRecDepth 100000 in
theorem fst59 : StepAt 59 := fun b w0 Q L a w hd hL h => by
  have e0 : a.eval (.tmp 63) = .pointer (some ⟨b, 0, none⟩) := h.const 55 rfl (hd 58 (by kernel_rfl))
  refine wpOp_of rfl rfl (w_field (s := 64) (v := (.pointer (some ⟨b, 8, none⟩))) rfl rfl e0 (by kernel_rfl) ?_)
  exact h.step_const 56 rfl (Below.refl _ _)
set_option maxRecDepth 100000 in
theorem fst60 : StepAt 60 := fun b w0 Q L a w hd hL h => by
  have e0 : a.eval (.tmp 61) = .func (.func 81) #[] #[] := h.const 53 rfl (hd 56 (by kernel_rfl))
  have e1 : a.eval (.tmp 64) = .pointer (some ⟨b, 8, none⟩) := h.const 56 rfl (hd 59 (by kernel_rfl))
  refine wpOp_of rfl rfl (w_call (s := 65) rfl rfl e0 e1 (by kernel_rfl) (name_any _ _) ?_)
  intro w' hb
  exact h.step_const 57 rfl hb
set_option maxRecDepth 100000 in
theorem fst61 : StepAt 61 := fun b w0 Q L a w hd hL h => by
  have e0 := h.s4
  refine wpOp_of rfl rfl (w_move (s := 66) (v := (.func (.func 81) #[] #[])) rfl rfl e0 ?_)
  exact h.step_const 58 rfl (Below.refl _ _)
set_option maxRecDepth 100000 in
theorem fst62 : StepAt 62 := fun b w0 Q L a w hd hL h => by
  have e0 := h.s0
  refine wpOp_of rfl rfl (w_move (s := 67) (v := (.pointer (some ⟨b, 0, none⟩))) rfl rfl e0 ?_)
  exact h.step_const 59 rfl (Below.refl _ _)
set_option maxRecDepth 100000 in
theorem fst63 : StepAt 63 := fun b w0 Q L a w hd hL h => by
  have e0 : a.eval (.tmp 67) = .pointer (some ⟨b, 0, none⟩) := h.const 59 rfl (hd 62 (by kernel_rfl))
  refine wpOp_of rfl rfl (w_nil (s := 68) rfl rfl e0 ?_)
  exact h.step_const 60 rfl (Below.refl _ _)
set_option maxRecDepth 100000 in
theorem fst64 : StepAt 64 := fun b w0 Q L a w hd hL h => by
  have e0 : a.eval (.tmp 68) = .pointer (some ⟨b, 0, none⟩) := h.const 60 rfl (hd 63 (by kernel_rfl))
  refine wpOp_of rfl rfl (w_field (s := 69) (v := (.pointer (some ⟨b, 9, none⟩))) rfl rfl e0 (by kernel_rfl) ?_)
  exact h.step_const 61 rfl (Below.refl _ _)
set_option maxRecDepth 100000 in
theorem fst65 : StepAt 65 := fun b w0 Q L a w hd hL h => by
  have e0 : a.eval (.tmp 66) = .func (.func 81) #[] #[] := h.const 58 rfl (hd 61 (by kernel_rfl))
  have e1 : a.eval (.tmp 69) = .pointer (some ⟨b, 9, none⟩) := h.const 61 rfl (hd 64 (by kernel_rfl))
  refine wpOp_of rfl rfl (w_call (s := 70) rfl rfl e0 e1 (by kernel_rfl) (name_any _ _) ?_)
  intro w' hb
  exact h.step_const 62 rfl hb
set_option maxRecDepth 100000 in
theorem fst66 : StepAt 66 := fun b w0 Q L a w hd hL h => by
  have e0 : a.eval (.tmp 50) = .agg #[.int .u64 1, .int .u64 4294967296, .pointer (some ⟨b, 1, none⟩), .pointer none, .pointer none] := h.const 42 rfl (hd 45 (by kernel_rfl))
  have e1 : a.eval (.tmp 55) = .agg #[.int .u64 1, .int .u64 4294967296, .pointer (some ⟨b, 2, none⟩), .pointer none, .pointer none] := h.const 47 rfl (hd 50 (by kernel_rfl))
  have e2 : a.eval (.tmp 60) = .agg #[.int .u64 1, .int .u64 1048576, .pointer none, .pointer (some ⟨b, 6, none⟩), .pointer none] := h.const 52 rfl (hd 55 (by kernel_rfl))
  have e3 : a.eval (.tmp 65) = .agg #[.int .u64 1, .int .u64 1048576, .pointer none, .pointer (some ⟨b, 8, none⟩), .pointer none] := h.const 57 rfl (hd 60 (by kernel_rfl))
  have e4 : a.eval (.tmp 70) = .agg #[.int .u64 1, .int .u64 1048576, .pointer none, .pointer (some ⟨b, 9, none⟩), .pointer none] := h.const 62 rfl (hd 65 (by kernel_rfl))
  refine wpOp_of rfl rfl (w_slice (s := 71) (v := .slice (some ⟨w.heap.size, 0, none⟩) 5 5) (w' := w.alloc (.cells (rowC b Sough.flds2) 138)) rfl rfl (by simp only [List.map_toArray, List.map_cons, List.map_nil, e0, e1, e2, e3, e4]; kernel_rfl) ?_)
  exact st_slice h (x := (66, 71, Sough.flds2)) (by simp [fslices]) hL
set_option maxRecDepth 100000 in
theorem fst67 : StepAt 67 := fun b w0 Q L a w hd hL h => by
  obtain ⟨mb, D, k1, _⟩ := h.map (hd 0 (by kernel_rfl))
  obtain ⟨w', hrun, hI⟩ := st_insert h (x := (67, 2, 71)) (by simp [fins]) hL (hd 0 (by kernel_rfl)) (fun y hy e => by
    have := eq_of_slot (l := fslices) (x := y) (y := (66, 71, Sough.flds2)) (by decide) hy (by simp [fslices]) e
    rw [this]; exact hd 66 (by kernel_rfl)) k1
  exact wpOp_of rfl rfl (w_insert rfl rfl k1 rfl rfl hrun hI)
set_option maxRecDepth 100000 in
theorem fst68 : StepAt 68 := fun b w0 Q L a w hd hL h => by
  have e0 := h.s3
  refine wpOp_of rfl rfl (w_move (s := 72) (v := (.func (.func 80) #[] #[])) rfl rfl e0 ?_)
  exact h.step_const 63 rfl (Below.refl _ _)
set_option maxRecDepth 100000 in
theorem fst69 : StepAt 69 := fun b w0 Q L a w hd hL h => by
  have e0 := h.s0
  refine wpOp_of rfl rfl (w_move (s := 73) (v := (.pointer (some ⟨b, 0, none⟩))) rfl rfl e0 ?_)
  exact h.step_const 64 rfl (Below.refl _ _)
set_option maxRecDepth 100000 in
theorem fst70 : StepAt 70 := fun b w0 Q L a w hd hL h => by
  have e0 : a.eval (.tmp 73) = .pointer (some ⟨b, 0, none⟩) := h.const 64 rfl (hd 69 (by kernel_rfl))
  refine wpOp_of rfl rfl (w_nil (s := 74) rfl rfl e0 ?_)
  exact h.step_const 65 rfl (Below.refl _ _)
set_option maxRecDepth 100000 in
theorem fst71 : StepAt 71 := fun b w0 Q L a w hd hL h => by
  have e0 : a.eval (.tmp 74) = .pointer (some ⟨b, 0, none⟩) := h.const 65 rfl (hd 70 (by kernel_rfl))
  refine wpOp_of rfl rfl (w_field (s := 75) (v := (.pointer (some ⟨b, 2, none⟩))) rfl rfl e0 (by kernel_rfl) ?_)
  exact h.step_const 66 rfl (Below.refl _ _)
set_option maxRecDepth 100000 in
theorem fst72 : StepAt 72 := fun b w0 Q L a w hd hL h => by
  have e0 : a.eval (.tmp 72) = .func (.func 80) #[] #[] := h.const 63 rfl (hd 68 (by kernel_rfl))
  have e1 : a.eval (.tmp 75) = .pointer (some ⟨b, 2, none⟩) := h.const 66 rfl (hd 71 (by kernel_rfl))
  refine wpOp_of rfl rfl (w_call (s := 76) rfl rfl e0 e1 (by kernel_rfl) (number_any _ _) ?_)
  intro w' hb
  exact h.step_const 67 rfl hb
set_option maxRecDepth 100000 in
theorem fst73 : StepAt 73 := fun b w0 Q L a w hd hL h => by
  have e0 := h.s0
  refine wpOp_of rfl rfl (w_move (s := 77) (v := (.pointer (some ⟨b, 0, none⟩))) rfl rfl e0 ?_)
  exact h.step_const 68 rfl (Below.refl _ _)
set_option maxRecDepth 100000 in
theorem fst74 : StepAt 74 := fun b w0 Q L a w hd hL h => by
  have e0 : a.eval (.tmp 77) = .pointer (some ⟨b, 0, none⟩) := h.const 68 rfl (hd 73 (by kernel_rfl))
  refine wpOp_of rfl rfl (w_nil (s := 78) rfl rfl e0 ?_)
  exact h.step_const 69 rfl (Below.refl _ _)
set_option maxRecDepth 100000 in
theorem fst75 : StepAt 75 := fun b w0 Q L a w hd hL h => by
  have e0 : a.eval (.tmp 78) = .pointer (some ⟨b, 0, none⟩) := h.const 69 rfl (hd 74 (by kernel_rfl))
  refine wpOp_of rfl rfl (w_field (s := 79) (v := (.pointer (some ⟨b, 5, none⟩))) rfl rfl e0 (by kernel_rfl) ?_)
  exact h.step_const 70 rfl (Below.refl _ _)
set_option maxRecDepth 100000 in
theorem fst76 : StepAt 76 := fun b w0 Q L a w hd hL h => by
  have e0 : a.eval (.tmp 79) = .pointer (some ⟨b, 5, none⟩) := h.const 70 rfl (hd 75 (by kernel_rfl))
  refine wpOp_of rfl rfl (w_build (s := 80) (v := (.agg #[.int .u64 1, .int .u64 15, .pointer none, .pointer (some ⟨b, 5, none⟩), .pointer none])) rfl rfl (by simp only [List.map_toArray, List.map_cons, List.map_nil, e0]; kernel_rfl) ?_)
  exact h.step_const 71 rfl (Below.refl _ _)
set_option maxRecDepth 100000 in
theorem fst77 : StepAt 77 := fun b w0 Q L a w hd hL h => by
  have e0 : a.eval (.tmp 76) = .agg #[.int .u64 1, .int .u64 4294967296, .pointer (some ⟨b, 2, none⟩), .pointer none, .pointer none] := h.const 67 rfl (hd 72 (by kernel_rfl))
  have e1 : a.eval (.tmp 80) = .agg #[.int .u64 1, .int .u64 15, .pointer none, .pointer (some ⟨b, 5, none⟩), .pointer none] := h.const 71 rfl (hd 76 (by kernel_rfl))
  refine wpOp_of rfl rfl (w_slice (s := 81) (v := .slice (some ⟨w.heap.size, 0, none⟩) 2 2) (w' := w.alloc (.cells (rowC b Sough.flds3) 138)) rfl rfl (by simp only [List.map_toArray, List.map_cons, List.map_nil, e0, e1]; kernel_rfl) ?_)
  exact st_slice h (x := (77, 81, Sough.flds3)) (by simp [fslices]) hL
set_option maxRecDepth 100000 in
theorem fst78 : StepAt 78 := fun b w0 Q L a w hd hL h => by
  obtain ⟨mb, D, k1, _⟩ := h.map (hd 0 (by kernel_rfl))
  obtain ⟨w', hrun, hI⟩ := st_insert h (x := (78, 3, 81)) (by simp [fins]) hL (hd 0 (by kernel_rfl)) (fun y hy e => by
    have := eq_of_slot (l := fslices) (x := y) (y := (77, 81, Sough.flds3)) (by decide) hy (by simp [fslices]) e
    rw [this]; exact hd 77 (by kernel_rfl)) k1
  exact wpOp_of rfl rfl (w_insert rfl rfl k1 rfl rfl hrun hI)
set_option maxRecDepth 100000 in
theorem fst79 : StepAt 79 := fun b w0 Q L a w hd hL h => by
  have e0 := h.s3
  refine wpOp_of rfl rfl (w_move (s := 82) (v := (.func (.func 80) #[] #[])) rfl rfl e0 ?_)
  exact h.step_const 72 rfl (Below.refl _ _)
set_option maxRecDepth 100000 in
theorem fst80 : StepAt 80 := fun b w0 Q L a w hd hL h => by
  have e0 := h.s0
  refine wpOp_of rfl rfl (w_move (s := 83) (v := (.pointer (some ⟨b, 0, none⟩))) rfl rfl e0 ?_)
  exact h.step_const 73 rfl (Below.refl _ _)
set_option maxRecDepth 100000 in
theorem fst81 : StepAt 81 := fun b w0 Q L a w hd hL h => by
  have e0 : a.eval (.tmp 83) = .pointer (some ⟨b, 0, none⟩) := h.const 73 rfl (hd 80 (by kernel_rfl))
  refine wpOp_of rfl rfl (w_nil (s := 84) rfl rfl e0 ?_)
  exact h.step_const 74 rfl (Below.refl _ _)
set_option maxRecDepth 100000 in
theorem fst82 : StepAt 82 := fun b w0 Q L a w hd hL h => by
  have e0 : a.eval (.tmp 84) = .pointer (some ⟨b, 0, none⟩) := h.const 74 rfl (hd 81 (by kernel_rfl))
  refine wpOp_of rfl rfl (w_field (s := 85) (v := (.pointer (some ⟨b, 2, none⟩))) rfl rfl e0 (by kernel_rfl) ?_)
  exact h.step_const 75 rfl (Below.refl _ _)
set_option maxRecDepth 100000 in
theorem fst83 : StepAt 83 := fun b w0 Q L a w hd hL h => by
  have e0 : a.eval (.tmp 82) = .func (.func 80) #[] #[] := h.const 72 rfl (hd 79 (by kernel_rfl))
  have e1 : a.eval (.tmp 85) = .pointer (some ⟨b, 2, none⟩) := h.const 75 rfl (hd 82 (by kernel_rfl))
  refine wpOp_of rfl rfl (w_call (s := 86) rfl rfl e0 e1 (by kernel_rfl) (number_any _ _) ?_)
  intro w' hb
  exact h.step_const 76 rfl hb
set_option maxRecDepth 100000 in
theorem fst84 : StepAt 84 := fun b w0 Q L a w hd hL h => by
  have e0 := h.s0
  refine wpOp_of rfl rfl (w_move (s := 87) (v := (.pointer (some ⟨b, 0, none⟩))) rfl rfl e0 ?_)
  exact h.step_const 77 rfl (Below.refl _ _)
set_option maxRecDepth 100000 in
theorem fst85 : StepAt 85 := fun b w0 Q L a w hd hL h => by
  have e0 : a.eval (.tmp 87) = .pointer (some ⟨b, 0, none⟩) := h.const 77 rfl (hd 84 (by kernel_rfl))
  refine wpOp_of rfl rfl (w_nil (s := 88) rfl rfl e0 ?_)
  exact h.step_const 78 rfl (Below.refl _ _)
set_option maxRecDepth 100000 in
theorem fst86 : StepAt 86 := fun b w0 Q L a w hd hL h => by
  have e0 : a.eval (.tmp 88) = .pointer (some ⟨b, 0, none⟩) := h.const 78 rfl (hd 85 (by kernel_rfl))
  refine wpOp_of rfl rfl (w_field (s := 89) (v := (.pointer (some ⟨b, 11, none⟩))) rfl rfl e0 (by kernel_rfl) ?_)
  exact h.step_const 79 rfl (Below.refl _ _)
set_option maxRecDepth 100000 in
theorem fst87 : StepAt 87 := fun b w0 Q L a w hd hL h => by
  have e0 : a.eval (.tmp 89) = .pointer (some ⟨b, 11, none⟩) := h.const 79 rfl (hd 86 (by kernel_rfl))
  refine wpOp_of rfl rfl (w_build (s := 90) (v := (.agg #[.int .u64 0, .int .u64 1000, .pointer (some ⟨b, 11, none⟩), .pointer none, .pointer none])) rfl rfl (by simp only [List.map_toArray, List.map_cons, List.map_nil, e0]; kernel_rfl) ?_)
  exact h.step_const 80 rfl (Below.refl _ _)
set_option maxRecDepth 100000 in
theorem fst88 : StepAt 88 := fun b w0 Q L a w hd hL h => by
  have e0 := h.s0
  refine wpOp_of rfl rfl (w_move (s := 91) (v := (.pointer (some ⟨b, 0, none⟩))) rfl rfl e0 ?_)
  exact h.step_const 81 rfl (Below.refl _ _)
set_option maxRecDepth 100000 in
theorem fst89 : StepAt 89 := fun b w0 Q L a w hd hL h => by
  have e0 : a.eval (.tmp 91) = .pointer (some ⟨b, 0, none⟩) := h.const 81 rfl (hd 88 (by kernel_rfl))
  refine wpOp_of rfl rfl (w_nil (s := 92) rfl rfl e0 ?_)
  exact h.step_const 82 rfl (Below.refl _ _)
set_option maxRecDepth 100000 in
theorem fst90 : StepAt 90 := fun b w0 Q L a w hd hL h => by
  have e0 : a.eval (.tmp 92) = .pointer (some ⟨b, 0, none⟩) := h.const 82 rfl (hd 89 (by kernel_rfl))
  refine wpOp_of rfl rfl (w_field (s := 93) (v := (.pointer (some ⟨b, 12, none⟩))) rfl rfl e0 (by kernel_rfl) ?_)
  exact h.step_const 83 rfl (Below.refl _ _)
set_option maxRecDepth 100000 in
theorem fst91 : StepAt 91 := fun b w0 Q L a w hd hL h => by
  have e0 : a.eval (.tmp 93) = .pointer (some ⟨b, 12, none⟩) := h.const 83 rfl (hd 90 (by kernel_rfl))
  refine wpOp_of rfl rfl (w_build (s := 94) (v := (.agg #[.int .u64 0, .int .u64 255, .pointer (some ⟨b, 12, none⟩), .pointer none, .pointer none])) rfl rfl (by simp only [List.map_toArray, List.map_cons, List.map_nil, e0]; kernel_rfl) ?_)
  exact h.step_const 84 rfl (Below.refl _ _)
set_option maxRecDepth 100000 in
theorem fst92 : StepAt 92 := fun b w0 Q L a w hd hL h => by
  have e0 := h.s4
  refine wpOp_of rfl rfl (w_move (s := 95) (v := (.func (.func 81) #[] #[])) rfl rfl e0 ?_)
  exact h.step_const 85 rfl (Below.refl _ _)
set_option maxRecDepth 100000 in
theorem fst93 : StepAt 93 := fun b w0 Q L a w hd hL h => by
  have e0 := h.s0
  refine wpOp_of rfl rfl (w_move (s := 96) (v := (.pointer (some ⟨b, 0, none⟩))) rfl rfl e0 ?_)
  exact h.step_const 86 rfl (Below.refl _ _)
set_option maxRecDepth 100000 in
theorem fst94 : StepAt 94 := fun b w0 Q L a w hd hL h => by
  have e0 : a.eval (.tmp 96) = .pointer (some ⟨b, 0, none⟩) := h.const 86 rfl (hd 93 (by kernel_rfl))
  refine wpOp_of rfl rfl (w_nil (s := 97) rfl rfl e0 ?_)
  exact h.step_const 87 rfl (Below.refl _ _)
set_option maxRecDepth 100000 in
theorem fst95 : StepAt 95 := fun b w0 Q L a w hd hL h => by
  have e0 : a.eval (.tmp 97) = .pointer (some ⟨b, 0, none⟩) := h.const 87 rfl (hd 94 (by kernel_rfl))
  refine wpOp_of rfl rfl (w_field (s := 98) (v := (.pointer (some ⟨b, 9, none⟩))) rfl rfl e0 (by kernel_rfl) ?_)
  exact h.step_const 88 rfl (Below.refl _ _)
set_option maxRecDepth 100000 in
theorem fst96 : StepAt 96 := fun b w0 Q L a w hd hL h => by
  have e0 : a.eval (.tmp 95) = .func (.func 81) #[] #[] := h.const 85 rfl (hd 92 (by kernel_rfl))
  have e1 : a.eval (.tmp 98) = .pointer (some ⟨b, 9, none⟩) := h.const 88 rfl (hd 95 (by kernel_rfl))
  refine wpOp_of rfl rfl (w_call (s := 99) rfl rfl e0 e1 (by kernel_rfl) (name_any _ _) ?_)
  intro w' hb
  exact h.step_const 89 rfl hb
set_option maxRecDepth 100000 in
theorem fst97 : StepAt 97 := fun b w0 Q L a w hd hL h => by
  have e0 : a.eval (.tmp 86) = .agg #[.int .u64 1, .int .u64 4294967296, .pointer (some ⟨b, 2, none⟩), .pointer none, .pointer none] := h.const 76 rfl (hd 83 (by kernel_rfl))
  have e1 : a.eval (.tmp 90) = .agg #[.int .u64 0, .int .u64 1000, .pointer (some ⟨b, 11, none⟩), .pointer none, .pointer none] := h.const 80 rfl (hd 87 (by kernel_rfl))
  have e2 : a.eval (.tmp 94) = .agg #[.int .u64 0, .int .u64 255, .pointer (some ⟨b, 12, none⟩), .pointer none, .pointer none] := h.const 84 rfl (hd 91 (by kernel_rfl))
  have e3 : a.eval (.tmp 99) = .agg #[.int .u64 1, .int .u64 1048576, .pointer none, .pointer (some ⟨b, 9, none⟩), .pointer none] := h.const 89 rfl (hd 96 (by kernel_rfl))
  refine wpOp_of rfl rfl (w_slice (s := 100) (v := .slice (some ⟨w.heap.size, 0, none⟩) 4 4) (w' := w.alloc (.cells (rowC b Sough.flds4) 138)) rfl rfl (by simp only [List.map_toArray, List.map_cons, List.map_nil, e0, e1, e2, e3]; kernel_rfl) ?_)
  exact st_slice h (x := (97, 100, Sough.flds4)) (by simp [fslices]) hL
set_option maxRecDepth 100000 in
theorem fst98 : StepAt 98 := fun b w0 Q L a w hd hL h => by
  obtain ⟨mb, D, k1, _⟩ := h.map (hd 0 (by kernel_rfl))
  obtain ⟨w', hrun, hI⟩ := st_insert h (x := (98, 4, 100)) (by simp [fins]) hL (hd 0 (by kernel_rfl)) (fun y hy e => by
    have := eq_of_slot (l := fslices) (x := y) (y := (97, 100, Sough.flds4)) (by decide) hy (by simp [fslices]) e
    rw [this]; exact hd 97 (by kernel_rfl)) k1
  exact wpOp_of rfl rfl (w_insert rfl rfl k1 rfl rfl hrun hI)
set_option maxRecDepth 100000 in
theorem fst99 : StepAt 99 := fun b w0 Q L a w hd hL h => by
  obtain ⟨mb, D, k1, _⟩ := h.map (hd 0 (by kernel_rfl))
  exact wpOp_of rfl rfl (w_move (s := mvslot) rfl rfl k1 (st_mv h (hd 0 (by kernel_rfl)) k1))
set_option maxRecDepth 100000 in
theorem fst100 : StepAt 100 := fun b w0 Q L a w hd hL h => by
  have h0 : L 0 = true := by
    cases hl : L 0
    · have := h.early hl mvop (by decide); rw [hd mvop (by kernel_rfl)] at this; exact absurd this (by decide)
    · rfl
  obtain ⟨mb, D, k1, k2, k3, k4, k5, k6, k7, k8⟩ := h.map h0
  exact wpOp_of rfl rfl (w_assign (s := asslot) rfl rfl (k7 (hd mvop (by kernel_rfl))) (st_as h h0 k1))
end Go.Proofs.Ytlfgempjjoclbaa
namespace Go.Proofs.Ytlfgempjjoclbaa
open Go.RowKit Go.Maps Go.ChangeMaps
theorem fsteps : ∀ i, i < 101 → StepAt i
  | 0, _ => fst0
  | 1, _ => fst1
  | 2, _ => fst2
  | 3, _ => fst3
  | 4, _ => fst4
  | 5, _ => fst5
  | 6, _ => fst6
  | 7, _ => fst7
  | 8, _ => fst8
  | 9, _ => fst9
  | 10, _ => fst10
  | 11, _ => fst11
  | 12, _ => fst12
  | 13, _ => fst13
  | 14, _ => fst14
  | 15, _ => fst15
  | 16, _ => fst16
  | 17, _ => fst17
  | 18, _ => fst18
  | 19, _ => fst19
  | 20, _ => fst20
  | 21, _ => fst21
  | 22, _ => fst22
  | 23, _ => fst23
  | 24, _ => fst24
  | 25, _ => fst25
  | 26, _ => fst26
  | 27, _ => fst27
  | 28, _ => fst28
  | 29, _ => fst29
  | 30, _ => fst30
  | 31, _ => fst31
  | 32, _ => fst32
  | 33, _ => fst33
  | 34, _ => fst34
  | 35, _ => fst35
  | 36, _ => fst36
  | 37, _ => fst37
  | 38, _ => fst38
  | 39, _ => fst39
  | 40, _ => fst40
  | 41, _ => fst41
  | 42, _ => fst42
  | 43, _ => fst43
  | 44, _ => fst44
  | 45, _ => fst45
  | 46, _ => fst46
  | 47, _ => fst47
  | 48, _ => fst48
  | 49, _ => fst49
  | 50, _ => fst50
  | 51, _ => fst51
  | 52, _ => fst52
  | 53, _ => fst53
  | 54, _ => fst54
  | 55, _ => fst55
  | 56, _ => fst56
  | 57, _ => fst57
  | 58, _ => fst58
  | 59, _ => fst59
  | 60, _ => fst60
  | 61, _ => fst61
  | 62, _ => fst62
  | 63, _ => fst63
  | 64, _ => fst64
  | 65, _ => fst65
  | 66, _ => fst66
  | 67, _ => fst67
  | 68, _ => fst68
  | 69, _ => fst69
  | 70, _ => fst70
  | 71, _ => fst71
  | 72, _ => fst72
  | 73, _ => fst73
  | 74, _ => fst74
  | 75, _ => fst75
  | 76, _ => fst76
  | 77, _ => fst77
  | 78, _ => fst78
  | 79, _ => fst79
  | 80, _ => fst80
  | 81, _ => fst81
  | 82, _ => fst82
  | 83, _ => fst83
  | 84, _ => fst84
  | 85, _ => fst85
  | 86, _ => fst86
  | 87, _ => fst87
  | 88, _ => fst88
  | 89, _ => fst89
  | 90, _ => fst90
  | 91, _ => fst91
  | 92, _ => fst92
  | 93, _ => fst93
  | 94, _ => fst94
  | 95, _ => fst95
  | 96, _ => fst96
  | 97, _ => fst97
  | 98, _ => fst98
  | 99, _ => fst99
  | 100, _ => fst100
  | n + 101, h => absurd h (by omega)
theorem fsize : fops.size = 101 := by kernel_rfl
theorem fafter_all : (fops.toList.zipIdx.all fun x => x.1.after.all fun e => !Region.binds .any e || decide (e.on < x.2)) = true := by kernel_rfl
theorem fafter (i : Nat) (o : Oper) (h : fops[i]? = some o) : ∀ e ∈ o.after, Region.binds .any e = true → e.on < i := by
  intro e he hb
  have hm : (o, i) ∈ fops.toList.zipIdx := by
    rw [List.mem_zipIdx_iff_getElem?]
    simpa using h
  have := List.all_eq_true.1 fafter_all _ hm
  simp only [Array.all_eq_true] at this
  obtain ⟨j, hj, rfl⟩ := Array.getElem_of_mem he
  have := this j hj
  simpa [hb] using this
theorem fdeps {i : Nat} {o : Oper} {L : Nat → Bool} (h : fops[i]? = some o) (hr : (o.after.all fun e => !Region.binds .any e || L e.on) = true) : ∀ j, dj i j = true → L j = true := by
  intro j hj
  unfold dj at hj
  rw [h] at hj
  simp only [Option.any_some, Array.any_eq_true] at hj
  obtain ⟨k, hk, e⟩ := hj
  rw [Bool.and_eq_true] at e
  rw [Array.all_eq_true] at hr
  have := hr k hk
  rw [e.2] at this
  have ej : o.after[k].on = j := by simpa using e.1
  rw [ej] at this
  simpa using this
theorem list_getD (l : List Value) : l = (List.range l.length).map fun i => l.getD i undef := by
  apply List.ext_getElem (by simp)
  intro i h1 h2
  simp [List.getD_eq_getElem?_getD, h1]
theorem frame108 {a : Act} (h : a.tmps.size = 108) (hd : a.defers = []) : ∃ e : Nat → Value, a = ⟨#[e 0, e 1, e 2, e 3, e 4, e 5, e 6, e 7, e 8, e 9, e 10, e 11, e 12, e 13, e 14, e 15, e 16, e 17, e 18, e 19, e 20, e 21, e 22, e 23, e 24, e 25, e 26, e 27, e 28, e 29, e 30, e 31, e 32, e 33, e 34, e 35, e 36, e 37, e 38, e 39, e 40, e 41, e 42, e 43, e 44, e 45, e 46, e 47, e 48, e 49, e 50, e 51, e 52, e 53, e 54, e 55, e 56, e 57, e 58, e 59, e 60, e 61, e 62, e 63, e 64, e 65, e 66, e 67, e 68, e 69, e 70, e 71, e 72, e 73, e 74, e 75, e 76, e 77, e 78, e 79, e 80, e 81, e 82, e 83, e 84, e 85, e 86, e 87, e 88, e 89, e 90, e 91, e 92, e 93, e 94, e 95, e 96, e 97, e 98, e 99, e 100, e 101, e 102, e 103, e 104, e 105, e 106, e 107], []⟩ ∧ ∀ i, a.eval (.tmp i) = e i := by
  obtain ⟨⟨l⟩, d⟩ := a
  simp only at hd
  subst hd
  refine ⟨fun i => l.getD i undef, ?_, fun i => by simp only [Act.eval, Array.getD_eq_getD_getElem?, List.getElem?_toArray, List.getD_eq_getElem?_getD]⟩
  have hl : l.length = 108 := by simpa using h
  have e := list_getD l
  rw [hl] at e
  congr 1
  exact congrArg List.toArray e
def FieldsTo (w : World) (b : Nat) (kind : Int) (e : Ending) (w' : World) : Prop :=
  Below w.heap.size w w' ∧ ((Sough.flds kind = [] ∧ e = .returned (.slice none 0 0)) ∨
    (Sough.flds kind ≠ [] ∧ ∃ g, e = .returned (.slice (some ⟨g, 0, none⟩) (Sough.flds kind).length (Sough.flds kind).length) ∧ w.heap.size ≤ g ∧ w'.heap[g]? = some (.cells (rowC b (Sough.flds kind)) 138 (0, 0))))
set_option maxRecDepth 100000 in
set_option maxHeartbeats 3200000 in
theorem fields_any {b : Nat} {m : Sough.Msg} (w : World) (hb : w.heap[b]? = some (.cells (msgC m) 34 (0, 0))) (hk : (Lit.int .i64 (m.v 0)).wf = true) :
    Calls Try.prog 63 #[.pointer (some ⟨b, 0, none⟩)] w (FieldsTo w b (m.v 0)) := by
  go_enter Try.func63, Try.ntmps63
  go_wp2_with fail
  refine wp_region_inv (ops := fops) (FI b w) (by kernel_rfl) fafter ?_ ?_ ?_
  · intro L hL
    have hL' : ∀ i, i < 101 → L i = false := fun i hi => hL i (by rw [fsize]; exact hi)
    refine ⟨rfl, rfl, rfl, rfl, rfl, fun x hx hLx => ?_, (Below.refl _ _).drew, fun _ i hi => hL' i ((by decide : ∀ i ∈ late, i < 101) i hi), fun y hy hLy => ?_, fun x hx hLx => ?_, fun h0 => ?_⟩
    · have h1 : x.1 ∈ cops := by rw [← cops_eq b]; exact List.mem_map_of_mem (f := (·.1)) hx
      rw [hL' _ ((by decide +kernel : ∀ i ∈ cops, i < 101) _ h1)] at hLx
      exact absurd hLx (by decide)
    · rw [hL' _ ((by decide : ∀ y ∈ fins, y.1 < 101) y hy)] at hLy
      exact absurd hLy (by decide)
    · rw [hL' _ ((by decide : ∀ y ∈ fslices, y.1 < 101) x hx)] at hLx
      exact absurd hLx (by decide)
    · rw [hL' 0 (by decide)] at h0
      exact absurd h0 (by decide)
  · intro i o L a' w' ho hLi hr hI
    have hi : i < 101 := by
      have := (Array.getElem?_eq_some_iff.1 ho).1
      rw [fsize] at this
      exact this
    exact fsteps i hi b w _ L a' w' (fdeps ho hr) hLi hI
  · intro L a' w' hL hI
    have hL' : ∀ i, i < 101 → L i = true := fun i hi => hL i (by rw [fsize]; exact hi)
    obtain ⟨mb, D, k1, k2, k3, k4, k5, k6, k7, k8⟩ := hI.map (hL' 0 (by decide))
    have s5 := k8 (hL' asop (by decide))
    have s0 := hI.s0
    have hbel := hI.below
    have hc : w'.cell? ⟨b, 0, none⟩ = some (.int .i64 (m.v 0)) := by
      have hb' := (hbel.block b (lt_of_block hb)).trans hb
      simp [World.cell?, hb', msgC]
    obtain ⟨v, ps, hrun, hv⟩ := k3.lookup lawK Try.underlying155 (zeroF w') (zd := .held (.slice none 0 0)) (zp := []) rfl (keyOf_int_mk Try.underlying3 hk : keyOf Try.prog 3 (.int .i64 (m.v 0)) = some (keyK (m.v 0)))
    have hv' : (.held v : DataW Value) = D.atKey (keyK (m.v 0)) (.held (.slice none 0 0)) := by simp only [heldE, Option.some.injEq, Prod.mk.injEq] at hv; exact hv.1
    have key : ∀ x ∈ fins, ∀ y ∈ fslices, y.2.1 = x.2.2 → m.v 0 = (x.2.1 : Nat) → ∃ g, v = .slice (some ⟨g, 0, none⟩) y.2.2.length y.2.2.length ∧ w.heap.size ≤ g ∧ w'.heap[g]? = some (.cells (rowC b y.2.2) 138 (0, 0)) := fun x hx y hy e em => by
      have h1 := k5 x hx (hL' _ ((by decide : ∀ y ∈ fins, y.1 < 101) x hx)) (.held (.slice none 0 0))
      obtain ⟨g, g1, g2, g3⟩ := hI.slices y hy (hL' _ ((by decide : ∀ y ∈ fslices, y.1 < 101) y hy))
      rw [em, h1, ← e, g1] at hv'
      exact ⟨g, by injection hv', g2, g3⟩
    have HT : Hid (FieldsTo w b (m.v 0) (.returned v) w') := by
      refine Lib.hid ⟨hbel, ?_⟩
      rcases Sough.flds_cases (m.v 0) with ⟨e, ef⟩ | ⟨e, ef⟩ | ⟨e, ef⟩ | ⟨e, ef⟩ | ⟨e1, e2, e3, e4, ef⟩
      · obtain ⟨g, rfl, g2, g3⟩ := key (40, 1, 45) (by decide) (39, 45, Sough.flds1) (by decide) rfl e
        rw [ef]
        exact .inr ⟨by decide, g, rfl, g2, g3⟩
      · obtain ⟨g, rfl, g2, g3⟩ := key (67, 2, 71) (by decide) (66, 71, Sough.flds2) (by decide) rfl e
        rw [ef]
        exact .inr ⟨by decide, g, rfl, g2, g3⟩
      · obtain ⟨g, rfl, g2, g3⟩ := key (78, 3, 81) (by decide) (77, 81, Sough.flds3) (by decide) rfl e
        rw [ef]
        exact .inr ⟨by decide, g, rfl, g2, g3⟩
      · obtain ⟨g, rfl, g2, g3⟩ := key (98, 4, 100) (by decide) (97, 100, Sough.flds4) (by decide) rfl e
        rw [ef]
        exact .inr ⟨by decide, g, rfl, g2, g3⟩
      · have hno : Maps.has D (keyK (m.v 0)) = false := k6 _ fun x hx e => by
          have hx' : x.2.1 = 1 ∨ x.2.1 = 2 ∨ x.2.1 = 3 ∨ x.2.1 = 4 := (by decide : ∀ x ∈ fins, x.2.1 = 1 ∨ x.2.1 = 2 ∨ x.2.1 = 3 ∨ x.2.1 = 4) x hx
          have e' : m.v 0 = (x.2.1 : Nat) := by simpa [keyK] using e
          omega
        rw [atKey_of_not_has hno] at hv'
        injection hv' with hv'
        exact .inl ⟨ef, by rw [hv']⟩
    obtain ⟨e, rfl, he⟩ := frame108 hI.size hI.defers
    have e0 : e 0 = .pointer (some ⟨b, 0, none⟩) := by rw [← he]; exact s0
    have e5 : e 5 = .map (some mb) := by rw [← he]; exact s5
    clear hI k1 k2 k3 k4 k5 k6 k7 k8 s5 s0 hbel hv hv' key he
    rw [e0, e5]
    clear e0 e5
    go_wp2_with fail
    go_ret
    exact HT.out
end Go.Proofs.Ytlfgempjjoclbaa
namespace Go.Proofs.Ytlfgempjjoclbaa
open Go.RowKit Go.Maps Go.ChangeMaps
def numC (c : Nat) (x : Int) : Value := if Sough.u64cell c = true then .int .u64 x else .int .i64 x
set_option maxRecDepth 100000 in
theorem get_num {b : Nat} {f : Sough.Fld} {x : Int} (w : World) (h3 : f.c ≠ 3) (hc : w.cell? ⟨b, f.c, none⟩ = some (numC f.c x)) (hx : Sough.u64cell f.c = true → 0 ≤ x ∧ x < 18446744073709551616) :
    Calls Try.prog 64 #[.agg (fldC b f).toArray] w fun e w' => e = .returned (.int .u64 (IntKind.u64.wrap x)) ∧ Below w.heap.size w w' := by
  unfold fldC numC at *
  rw [if_neg h3]
  by_cases hu : Sough.u64cell f.c = true
  · rw [if_pos hu] at hc ⊢
    have hw : IntKind.u64.wrap x = x := by rw [IntKind.wrap_u64]; have := hx hu; omega
    rw [hw]
    have HN := Lib.hid (World.size_alloc w (.cells #[.int .u64 f.lo, .int .u64 f.hi, .pointer (some ⟨b, f.c, none⟩), .pointer none, .pointer none] 138))
    have hb := World.block_lt_of_cell? w _ hc
    simp only at hb
    have hc' := (((Below.refl w.heap.size w).alloc (Nat.le_refl _) (.cells #[.int .u64 f.lo, .int .u64 f.hi, .pointer (some ⟨b, f.c, none⟩), .pointer none, .pointer none] 138)).cell (p := ⟨b, f.c, none⟩) hb).trans hc
    clear hx hw hu
    go_enter Try.func64, Try.ntmps64
    go_wp2_with fail
    go_ret
    exact ⟨rfl, (Below.refl _ _).alloc (Nat.le_refl _) _⟩
  · rw [if_neg hu] at hc ⊢
    have hb := World.block_lt_of_cell? w _ hc
    simp only at hb
    have hc' := (((Below.refl w.heap.size w).alloc (Nat.le_refl _) (.cells #[.int .u64 f.lo, .int .u64 f.hi, .pointer none, .pointer (some ⟨b, f.c, none⟩), .pointer none] 138)).cell (p := ⟨b, f.c, none⟩) hb).trans hc
    clear hx hu
    go_enter Try.func64, Try.ntmps64
    go_wp2_with fail
    go_ret
    exact ⟨rfl, (Below.refl _ _).alloc (Nat.le_refl _) _⟩
end Go.Proofs.Ytlfgempjjoclbaa
namespace Go.Proofs.Ytlfgempjjoclbaa
open Go.RowKit Go.Maps Go.ChangeMaps
theorem size_setCell (w : World) (a : Addr) (v : Value) : (w.setCell a v).heap.size = w.heap.size := by simp [World.setCell]
def SetTo (w : World) (a : Addr) (v : Value) (e : Ending) (w' : World) : Prop := e = .returned (.tuple #[]) ∧ Below w.heap.size (w.setCell a v) w'
set_option maxRecDepth 100000 in
theorem set_num {b : Nat} {f : Sough.Fld} {x : Nat} {old : Value} (w : World) (h3 : f.c ≠ 3) (hc : w.cell? ⟨b, f.c, none⟩ = some old) (hz : w.frozen? ⟨b, f.c, none⟩ = false) (hx : x < 9223372036854775808) :
    Calls Try.prog 82 #[.agg (fldC b f).toArray, .int .u64 x] w (SetTo w ⟨b, f.c, none⟩ (numC f.c x)) := by
  unfold fldC numC
  rw [if_neg h3]
  by_cases hu : Sough.u64cell f.c = true
  · rw [if_pos hu, if_pos hu]
    have hb := World.block_lt_of_cell? w _ hc
    simp only at hb
    have hc' := (((Below.refl w.heap.size w).alloc (Nat.le_refl _) (.cells #[.int .u64 f.lo, .int .u64 f.hi, .pointer (some ⟨b, f.c, none⟩), .pointer none, .pointer none] 138)).cell (p := ⟨b, f.c, none⟩) hb).trans hc
    have hz' := (((Below.refl w.heap.size w).alloc (Nat.le_refl _) (.cells #[.int .u64 f.lo, .int .u64 f.hi, .pointer (some ⟨b, f.c, none⟩), .pointer none, .pointer none] 138)).frozen (p := ⟨b, f.c, none⟩) hb).trans hz
    clear hu
    go_enter Try.func82, Try.ntmps82
    go_wp2_with fail
    go_end0
    exact ⟨rfl, (Below.refl _ _).alloc (Nat.le_of_eq (size_setCell _ _ _).symm) _⟩
  · rw [if_neg hu, if_neg hu]
    have hb := World.block_lt_of_cell? w _ hc
    simp only at hb
    have hc' := (((Below.refl w.heap.size w).alloc (Nat.le_refl _) (.cells #[.int .u64 f.lo, .int .u64 f.hi, .pointer none, .pointer (some ⟨b, f.c, none⟩), .pointer none] 138)).cell (p := ⟨b, f.c, none⟩) hb).trans hc
    have hz' := (((Below.refl w.heap.size w).alloc (Nat.le_refl _) (.cells #[.int .u64 f.lo, .int .u64 f.hi, .pointer none, .pointer (some ⟨b, f.c, none⟩), .pointer none] 138)).frozen (p := ⟨b, f.c, none⟩) hb).trans hz
    clear hu
    go_enter Try.func82, Try.ntmps82
    go_wp2_with fail
    go_end0
    exact ⟨rfl, (Below.refl _ _).alloc (Nat.le_of_eq (size_setCell _ _ _).symm) _⟩
def OffR (l : List UInt8) (lv iv : Value) : Prop := ∃ k last : Nat, k ≤ l.length ∧ iv = .int .i64 k ∧ lv = .int .i64 last ∧ last ≤ 256 ∧ Sough.offDec 256 l = Sough.offDec last (l.drop k)
set_option maxRecDepth 100000 in
set_option maxHeartbeats 1600000 in
theorem offer_any {s : ByteArray} {l : List UInt8} {b : Bool} (hl : s.data.toList = l) (hb : Sough.offerOk l = b) (w : World) (hs : s.size ≤ maxLen) :
    Calls Try.prog 47 #[.string s] w fun e w' => e = .returned (.bool b) ∧ w = w' := by
  have hsz : s.size = l.length := by rw [← hl]; simp
  have hsm : s.size ≤ 9223372036854775807 := hs
  have HL := Lib.hid hl; have HB := Lib.hid hb; have HSZ := Lib.hid hsz
  clear hl hb hs hsz
  go_enter Try.func47, Try.ntmps47
  go_wp2_with fail
  go_loop [3, 8] (fun lv iv => OffR l lv iv) (fun _ iv => s.size - (intOf iv).toNat)
  case atStart => exact ⟨0, 256, Nat.zero_le _, rfl, rfl, Nat.le_refl _, rfl⟩
  case round =>
    obtain ⟨k, last, hk, rfl, rfl, hlast, ho⟩ := hrel
    by_cases hlt : k < s.size
    · have hkl : k < l.length := by rw [← HSZ.out]; exact hlt
      have hd : l.drop k = l[k] :: l.drop (k + 1) := by rw [List.drop_eq_getElem_cons hkl]
      rw [hd] at ho
      have hby : s[k] = l[k] := by
        have h1 : s[k] = s.data[k] := rfl
        have : s.data.toList[k]'(by rw [HL.out]; exact hkl) = l[k] := by simp only [HL.out]
        rw [h1, ← this, Array.getElem_toList]
      have hc := s[k].toNat_lt
      simp only [Sough.offDec] at ho
      rw [← hby] at ho
      by_cases hg : 1 ≤ s[k].toNat ∧ s[k].toNat < last
      · rw [decide_eq_true hg, Bool.true_and] at ho
        obtain ⟨g1, g2⟩ := hg
        have HO := Lib.hid ho
        clear ho hd hby
        go_wp2_with fail
        go_round
        case rel => exact ⟨k + 1, s[k].toNat, by omega, by go_num, rfl, by omega, HO.out⟩
        case measure => simp [intOf]; omega
      · rw [decide_eq_false hg, Bool.false_and] at ho
        have hbf : b = false := by rw [← HB.out]; unfold Sough.offerOk; rw [ho]; rfl
        subst hbf
        have hg' : s[k].toNat < 1 ∨ last ≤ s[k].toNat := by omega
        clear ho hd hby hg HB
        rcases hg' with g | g
        · go_wp2_with fail
          go_ret
          exact ⟨rfl, rfl⟩
        · by_cases g' : s[k].toNat < 1
          · go_wp2_with fail
            go_ret
            exact ⟨rfl, rfl⟩
          · go_wp2_with fail
            go_ret
            exact ⟨rfl, rfl⟩
    · have hkl : l.drop k = [] := List.drop_of_length_le (by have := HSZ.out; omega)
      rw [hkl] at ho
      have hbv : b = decide (1 ≤ s.size ∧ s.size ≤ 8) := by rw [← HB.out]; unfold Sough.offerOk; rw [ho, HSZ.out]; rfl
      clear ho hkl
      subst hbv
      go_wp2_with fail
      all_goals
        go_ret
        exact ⟨ret_bool (by rw [Bool.eq_iff_iff]; simp; omega), rfl⟩
end Go.Proofs.Ytlfgempjjoclbaa
namespace Go
open Go.RowKit
section
variable {P : Program} {l : List Oper} {o : Oper} {Q : Exit → Act → World → Prop}
def tailB (l : List Oper) (o : Oper) : Bool :=
  ((l ++ [o]).zipIdx.all fun x => (x.1.after.all fun e => !Region.binds .any e || decide (e.on < x.2)) && (match x.1.guard with | none => true | some (j, _) => decide (j < x.2))) &&
  ((List.range l.length).all fun i => (List.range (l.length + 1)).any fun j => decide (i < j) && (match (l ++ [o])[j]? with | some oj => oj.after.any fun e => Region.binds .any e && e.on == i | none => false))
theorem tail_spec (h : tailB l o = true) : (∀ (i : Nat) (x : Oper), (l ++ [o])[i]? = some x → (∀ e ∈ x.after, Region.binds .any e = true → e.on < i) ∧ ∀ j b, x.guard = some (j, b) → j < i) ∧
    ∀ i, i < l.length → ∃ j x, i < j ∧ j ≤ l.length ∧ (l ++ [o])[j]? = some x ∧ ∃ e ∈ x.after, Region.binds .any e = true ∧ e.on = i := by
  unfold tailB at h
  rw [Bool.and_eq_true] at h
  obtain ⟨h1, h2⟩ := h
  refine ⟨fun i x hx => ?_, fun i hi => ?_⟩
  · have hm : (x, i) ∈ (l ++ [o]).zipIdx := by rw [List.mem_zipIdx_iff_getElem?]; exact hx
    have := List.all_eq_true.1 h1 _ hm
    simp only [Bool.and_eq_true, Array.all_eq_true] at this
    refine ⟨fun e he hb => ?_, fun j b hg => ?_⟩
    · obtain ⟨k, hk, rfl⟩ := Array.getElem_of_mem he
      have := this.1 k hk
      simpa [hb] using this
    · have := this.2
      rw [hg] at this
      simpa using this
  · have := List.all_eq_true.1 h2 i (List.mem_range.2 hi)
    rw [List.any_eq_true] at this
    obtain ⟨j, hj, hw⟩ := this
    rw [Bool.and_eq_true] at hw
    obtain ⟨hw1, hw2⟩ := hw
    split at hw2
    · rename_i x hx
      rw [Array.any_eq_true] at hw2
      obtain ⟨k, hk, hb⟩ := hw2
      rw [Bool.and_eq_true] at hb
      exact ⟨j, x, by simpa using hw1, by have := List.mem_range.1 hj; omega, hx, x.after[k], Array.getElem_mem hk, hb.1, by simpa using hb.2⟩
    · cases hw2
theorem yielded_prefix {tmps : Array Value} {j : Nat} (hj : j < l.length) : yielded (l ++ [o]).toArray tmps j = yielded l.toArray tmps j := by
  unfold yielded
  have : (l ++ [o]).toArray[j]? = l.toArray[j]? := by
    simp only [List.getElem?_toArray]
    exact List.getElem?_append_left hj
  rw [this]
theorem wpOp_prefix (ht : tailB l o = true) {i : Nat} (hi : i < l.length) {K : Act → World → Prop} {a : Act} {w : World} (h : wpOp P l.toArray Q i K a w) : wpOp P (l ++ [o]).toArray Q i K a w := by
  unfold wpOp at h ⊢
  have e : (l ++ [o]).toArray[i]? = l.toArray[i]? := by
    simp only [List.getElem?_toArray]
    exact List.getElem?_append_left hi
  rw [e]
  cases hx : l.toArray[i]? with
  | none => rw [hx] at h; exact h
  | some x =>
    rw [hx] at h
    simp only at h ⊢
    have hy : Region.wanted x (yielded (l ++ [o]).toArray a.tmps) = Region.wanted x (yielded l.toArray a.tmps) := by
      unfold Region.wanted
      cases hg : x.guard with
      | none => rfl
      | some p =>
        obtain ⟨j, b⟩ := p
        have hx' : (l ++ [o])[i]? = some x := by
          have : (l ++ [o]).toArray[i]? = some x := e.trans hx
          simpa using this
        have := ((tail_spec ht).1 i x hx').2 j b hg
        simp only
        rw [yielded_prefix (by omega)]
    rw [hy]
    exact h
theorem push_getD {listed : Array Bool} {b d : Bool} {i : Nat} (h : i < listed.size) : (listed.push b).getD i d = listed.getD i d := by
  simp only [Array.getD_eq_getD_getElem?, Array.getElem?_push]
  rw [if_neg (by omega)]
def Closed (l : List Oper) (o : Oper) (listed : Array Bool) : Prop := ∀ (i : Nat) (x : Oper), (l ++ [o])[i]? = some x → i < l.length → listed.getD i false = true → ∀ e ∈ x.after, Region.binds .any e = true → listed.getD e.on false = true
theorem ready_full {listed : Array Bool} (hs : listed.size = l.length) (ht : tailB l o = true) {i : Nat} (h : i ∈ Region.ready .any (l ++ [o]).toArray (listed.push false)) (hi : i < l.length) : i ∈ Region.ready .any l.toArray listed := by
  obtain ⟨h1, h2, h3⟩ := ready_mem h
  unfold Region.ready
  rw [List.mem_filter]
  refine ⟨List.mem_range.2 (by simpa using hi), ?_⟩
  have e : l.toArray[i]? = some l[i] := by simp [hi]
  have e' : (l ++ [o]).toArray[i]? = some l[i] := by simp [List.getElem?_append_left hi]
  rw [push_getD (by omega)] at h2
  rw [h2, e]
  simp only [Bool.not_false, Bool.true_and, Option.map_some, Option.getD_some]
  have h4 := h3 _ e'
  rw [Array.all_eq_true] at h4 ⊢
  intro k hk
  have := h4 k hk
  by_cases hb : Region.binds .any l[i].after[k] = true
  · have hlt := ((tail_spec ht).1 i l[i] (by simpa using e')).1 l[i].after[k] (Array.getElem_mem hk) hb
    rw [push_getD (by omega)] at this
    exact this
  · have : Region.binds .any l[i].after[k] = false := by simpa using hb
    rw [this]; rfl
theorem last_ready {listed : Array Bool} (hs : listed.size = l.length) (ht : tailB l o = true) (hc : Closed l o listed) (h : l.length ∈ Region.ready .any (l ++ [o]).toArray (listed.push false)) : ∀ i, i < l.length → listed.getD i false = true := by
  obtain ⟨_, _, h3⟩ := ready_mem h
  have ho : (l ++ [o]).toArray[l.length]? = some o := by simp
  have h4 := h3 o ho
  -- from the last one downwards
  have main : ∀ d i, i < l.length → l.length - i ≤ d → listed.getD i false = true := by
    intro d
    induction d with
    | zero => intro i hi hd; omega
    | succ d ih =>
      intro i hi hd
      obtain ⟨j, x, hij, hj, hx, e, he, hb, rfl⟩ := (tail_spec ht).2 i hi
      by_cases hjn : j < l.length
      · exact hc j x hx hjn (ih j hjn (by omega)) e he hb
      · obtain rfl : j = l.length := by omega
        have hxo : x = o := by
          have : (l ++ [o])[l.length]? = some o := by simp
          rw [this] at hx
          exact (Option.some.inj hx).symm
        subst hxo
        rw [Array.all_eq_true] at h4
        obtain ⟨k, hk, rfl⟩ := Array.getElem_of_mem he
        have := h4 k hk
        rw [push_getD (by omega)] at this
        simpa [hb] using this
  intro i hi
  exact main _ i hi (Nat.le_refl _)
theorem no_ready {ops : Array Oper} {listed : Array Bool} (h : ∀ i, i < ops.size → listed.getD i true = true) : Region.ready .any ops listed = [] := by
  unfold Region.ready
  rw [List.filter_eq_nil_iff]
  intro i hi
  rw [h i (List.mem_range.1 hi)]
  simp
theorem letsOut_exits {Q Q' : Exit → Act → World → Prop} (h : ∀ e, e ≠ .normal → ∀ a w, Q e a w → Q' e a w) (hh : LetsOut Q) : LetsOut Q' := by
  obtain ⟨a, w, hq⟩ := hh
  exact ⟨a, w, h _ (by simp) _ _ hq⟩
theorem Oper.wp_exits {o : Oper} {Q Q' : Exit → Act → World → Prop} {K : Act → World → Prop} {a : Act} {w : World} (h : ∀ e, e ≠ .normal → ∀ a w, Q e a w → Q' e a w) (hh : o.wp P a w K Q) : o.wp P a w K Q' := by
  unfold Oper.wp at *
  generalize (execOp a.eval o).run P w = r at *
  cases r with
  | ok n w' =>
    cases n <;> simp only [Oper.upon] at hh ⊢ <;>
      first
        | exact hh
        | exact Calls.mono hh (fun e w'' he => by cases e <;> first | exact he | exact h _ (by simp) _ _ he | exact letsOut_exits h he)
  | halt x w' => cases x <;> simp only [Oper.upon] at hh ⊢ <;> first | exact hh | exact h _ (by simp) _ _ hh | exact letsOut_exits h hh
theorem wpOp_exits {ops : Array Oper} {i : Nat} {Q Q' : Exit → Act → World → Prop} {K : Act → World → Prop} {a : Act} {w : World} (h : ∀ e, e ≠ .normal → ∀ a w, Q e a w → Q' e a w) (hh : wpOp P ops Q i K a w) : wpOp P ops Q' i K a w := by
  unfold wpOp at *
  split
  · simpa [*] using hh
  · rename_i o ho
    simp only [ho] at hh
    split
    · rename_i hw; simp only [hw, if_true] at hh; exact hh.imp (Oper.wp_exits h) (fun hx => ⟨hx.1, letsOut_exits h hx.2⟩)
    · rename_i hw; simp only [hw] at hh; exact hh
theorem wpAny_tail (ht : tailB l o = true) : ∀ (fuel : Nat) (listed : Array Bool) (a : Act) (w : World), listed.size = l.length → Closed l o listed →
    wpAny P .any l.toArray (fun e a' w' => match e with | .normal => wpOp P (l ++ [o]).toArray Q l.length (Q .normal) a' w' | e => Q e a' w') fuel listed a w → wpAny P .any (l ++ [o]).toArray Q (fuel + 1) (listed.push false) a w := by
  have hafter : ∀ (i : Nat) (x : Oper), (l ++ [o]).toArray[i]? = some x → ∀ e ∈ x.after, Region.binds .any e = true → e.on < i := fun i x hx => ((tail_spec ht).1 i x (by simpa using hx)).1
  have hlast : ∀ (fuel : Nat) (listed : Array Bool) (a : Act) (w : World), listed.size = l.length → (∀ i, i < l.length → listed.getD i false = true) → wpOp P (l ++ [o]).toArray Q l.length (Q .normal) a w → wpOp P (l ++ [o]).toArray Q l.length (wpAny P .any (l ++ [o]).toArray Q fuel ((listed.push false).setIfInBounds l.length true)) a w := by
    intro fuel listed a w hs hall h
    refine wpOp_mono (fun a' w' hq => ?_) h
    have hr : Region.ready .any (l ++ [o]).toArray ((listed.push false).setIfInBounds l.length true) = [] := no_ready fun i hi => by
      have hi' : i < l.length + 1 := by simpa using hi
      by_cases e : i = l.length
      · subst e
        simp [Array.getD_eq_getD_getElem?, hs]
      · have := hall i (by omega)
        have h2 : listed.getD i true = true := by
          simp only [Array.getD_eq_getD_getElem?, Array.getElem?_eq_getElem (show i < listed.size by omega), Option.getD_some] at this ⊢
          exact this
        simp only [Array.getD_eq_getD_getElem?, Array.getElem?_setIfInBounds, Array.getElem?_push]
        rw [if_neg (Ne.symm e), if_neg (by omega)]
        simpa only [Array.getD_eq_getD_getElem?] using h2
    cases fuel with
    | zero => exact ⟨hr, hq⟩
    | succ fuel => exact ⟨fun _ => hq, fun i hi => by rw [hr] at hi; simp at hi⟩
  have hempty : ∀ listed : Array Bool, listed.size = l.length → Region.ready .any (l ++ [o]).toArray (listed.push false) ≠ [] := fun listed hs he => by
    have := all_listed (by simp [hs]) hafter he l.length (by simp)
    simp [Array.getD_eq_getD_getElem?, ← hs] at this
  have hpre : ∀ listed : Array Bool, listed.size = l.length → Region.ready .any l.toArray listed = [] → ∀ i, i < l.length → listed.getD i false = true := fun listed hs he i hi => by
    have := all_listed (by simpa using hs) (fun i x hx e hee hb => ((tail_spec ht).1 i x (by
      have hi' := (Array.getElem?_eq_some_iff.1 hx).1
      rw [List.getElem?_append_left (by simpa using hi')]; simpa using hx)).1 e hee hb) he i (by simpa using hi)
    simp only [Array.getD_eq_getD_getElem?, Array.getElem?_eq_getElem (show i < listed.size by omega), Option.getD_some] at this ⊢
    exact this
  intro fuel
  induction fuel with
  | zero =>
    intro listed a w hs hc h
    refine ⟨fun he => absurd he (hempty listed hs), fun i hi => ?_⟩
    have hall := hpre listed hs h.1
    by_cases hin : i < l.length
    · have := ready_full hs ht hi hin
      rw [h.1] at this
      simp at this
    · have : i = l.length := by have := (ready_mem hi).1; simp at this; omega
      subst this
      exact hlast 0 listed a w hs hall h.2
  | succ fuel ih =>
    intro listed a w hs hc h
    refine ⟨fun he => absurd he (hempty listed hs), fun i hi => ?_⟩
    by_cases hin : i < l.length
    · have hr := ready_full hs ht hi hin
      have h2 := h.2 i hr
      have hpsh : (listed.push false).setIfInBounds i true = (listed.setIfInBounds i true).push false := by
        apply Array.ext
        · simp
        · intro k hk1 hk2
          have h1 : ((listed.push false).setIfInBounds i true)[k]? = ((listed.setIfInBounds i true).push false)[k]? := by
            simp only [Array.getElem?_setIfInBounds, Array.getElem?_push, Array.size_push, Array.size_setIfInBounds]
            by_cases e : i = k
            · subst e
              rw [if_pos rfl, if_pos (by omega), if_neg (by omega), if_pos rfl, if_pos (by omega)]
            · rw [if_neg e]
              by_cases e2 : k = listed.size
              · rw [if_pos e2, if_pos e2]
              · rw [if_neg e2, if_neg e2, if_neg e]
          rw [Array.getElem?_eq_getElem hk1, Array.getElem?_eq_getElem hk2] at h1
          exact Option.some.inj h1
      rw [hpsh]
      have hc' : Closed l o (listed.setIfInBounds i true) := fun j x hx hj hLj e he hb => by
        have hgd : ∀ k, k < l.length → (listed.setIfInBounds i true).getD k false = if i = k then true else listed.getD k false := fun k hk => by
          simp only [Array.getD_eq_getD_getElem?, Array.getElem?_setIfInBounds]
          by_cases e : i = k
          · subst e; simp [hs, hk]
          · simp [e]
        have hlt := ((tail_spec ht).1 j x hx).1 e he hb
        rw [hgd _ (by omega)]
        rw [hgd j hj] at hLj
        split
        · rfl
        · by_cases e2 : i = j
          · subst e2
            obtain ⟨_, _, h3⟩ := ready_mem hr
            have hx' : l.toArray[i]? = some x := by
              rw [List.getElem?_append_left hin] at hx
              simpa using hx
            have h4 := h3 x hx'
            rw [Array.all_eq_true] at h4
            obtain ⟨k, hk, rfl⟩ := Array.getElem_of_mem he
            simpa [hb] using h4 k hk
          · rw [if_neg e2] at hLj
            exact hc j x hx hj hLj e he hb
      refine wpOp_mono (fun a' w' hh => ih _ a' w' (by simpa using hs) hc' hh) (wpOp_prefix ht hin ?_)
      -- panics are asked alike
      exact wpOp_exits (fun e he a w h => by cases e <;> first | exact absurd rfl he | exact h) h2
    · have : i = l.length := by have := (ready_mem hi).1; simp at this; omega
      subst this
      have hall := last_ready hs ht hc hi
      have he : Region.ready .any l.toArray listed = [] := no_ready fun i hi => by
        have := hall i (by simpa using hi)
        simp only [Array.getD_eq_getD_getElem?, Array.getElem?_eq_getElem (show i < listed.size by simp at hi; omega), Option.getD_some] at this ⊢
        exact this
      exact hlast (fuel + 1) listed a w hs hall (h.1 he)
theorem wp_region_later_tail {id : Nat} {a : Act} {w : World} (hm : P.follows .mixedOrders = true) (hB : Region.lexB .any l.toArray = true) (ht : tailB l o = true) (hg : o.guard = none)
    (h : wpQuiet P l.toArray (fun w' => ∃ x : Later w, w' = x.world) (fun a' => ∀ x : Later w, wpList P (l ++ [o]).toArray Q [o] a' x.world) l a) : (Code.region id (l ++ [o]).toArray true).wp P Q a w := by
  refine wp_region_any hm ?_
  simp only [Region.lexB, Bool.and_eq_true] at hB
  have h1 := wpAnyQ_lex (C := fun w' => ∃ x : Later w, w' = x.world) (md := .any) hB.1 l 0 (Array.replicate l.toArray.size false) a (by simp) (by simpa using hB.2) h
  have h2 := wpAny_of_quiet (Q := fun a' => ∀ x : Later w, wpList P (l ++ [o]).toArray Q [o] a' x.world) (Q' := fun e a' w' => match e with | .normal => wpOp P (l ++ [o]).toArray Q l.length (Q .normal) a' w' | e => Q e a' w') (fun a' w' ⟨x, hx⟩ hq => by
    subst hx
    unfold wpOp
    have : (l ++ [o]).toArray[l.length]? = some o := by simp
    rw [this]
    have h := hq x
    simp only [wpList, Region.wanted, hg, if_true] at h ⊢
    exact h) _ _ _ { w with drawn := w.drawn + 1 } ⟨⟨_, (Below.refl _ w).drew⟩, rfl⟩ h1
  have h3 := wpAny_tail ht l.length (Array.replicate l.toArray.size false) a _ (by simp) (fun i x hx hi hL => by simp [Array.getD_eq_getD_getElem?, hi] at hL) (by simpa using h2)
  have e1 : (l ++ [o]).toArray.size = l.length + 1 := by simp
  have e2 : (Array.replicate l.toArray.size false).push false = Array.replicate (l ++ [o]).toArray.size false := by
    rw [e1]; simp [← Array.replicate_succ]
  rw [e2] at h3
  rw [e1] at h3 ⊢
  exact h3
theorem wp_region_later_last (n : Nat) {id : Nat} {ops : Array Oper} {a : Act} {w : World} (hs : ops.size = n + 1) (hm : P.follows .mixedOrders = true) (hB : Region.lexB .any (ops.toList.take n).toArray = true) (ht : tailB (ops.toList.take n) (ops[n]'(by omega)) = true) (hg : (ops[n]'(by omega)).guard = none)
    (h : wpQuiet P (ops.toList.take n).toArray (fun w' => ∃ x : Later w, w' = x.world) (fun a' => ∀ x : Later w, wpList P ops Q [ops[n]'(by omega)] a' x.world) (ops.toList.take n) a) : (Code.region id ops true).wp P Q a w := by
  have e : (ops.toList.take n ++ [ops[n]'(by omega)]).toArray = ops := by
    apply Array.ext'
    simp only
    have h2 : ops.toList[n]'(by simp; omega) = ops[n]'(by omega) := by simp
    rw [← h2, ← List.take_succ_eq_append_getElem (by simp; omega), List.take_of_length_le (by simp; omega)]
  have := wp_region_later_tail (P := P) (Q := Q) (l := ops.toList.take n) (o := ops[n]'(by omega)) (id := id) (a := a) (w := w) hm hB ht hg (by rw [e]; exact h)
  rwa [e] at this
end
end Go
namespace Go.Proofs.Ytlfgempjjoclbaa
open Go.RowKit Go.Maps Go.ChangeMaps
theorem fields_as {b : Nat} {m : Sough.Msg} {k : Int} (w : World) (hm : m.v 0 = k) (hb : w.heap[b]? = some (.cells (msgC m) 34 (0, 0))) (hk : (Lit.int .i64 k).wf = true) :
    Calls Try.prog 63 #[.pointer (some ⟨b, 0, none⟩)] w (FieldsTo w b k) := by
  subst hm; exact fields_any w hb hk
theorem fldC_len (b : Nat) (f : Sough.Fld) : (fldC b f).length = 5 := by unfold fldC; split <;> (try split) <;> rfl
theorem row_get {b : Nat} : ∀ {l : List Sough.Fld} {i j : Nat}, i < l.length → j < 5 → (l.flatMap (fldC b))[i * 5 + j]? = (fldC b (l.getD i ⟨0, 0, 0⟩))[j]?
  | [], i, _, h, _ => absurd h (by simp)
  | f :: l, 0, j, _, hj => by
    rw [List.flatMap_cons, Nat.zero_mul, Nat.zero_add, List.getElem?_append_left (by rw [fldC_len]; exact hj)]
    rfl
  | f :: l, i + 1, j, h, hj => by
    rw [List.flatMap_cons, List.getElem?_append_right (by rw [fldC_len]; omega), fldC_len, show (i + 1) * 5 + j - 5 = i * 5 + j by omega]
    exact row_get (by simpa using h) hj
theorem row_cells {w : World} {g b i : Nat} {l : List Sough.Fld} {T : TypeId} (h : w.heap[g]? = some (.cells (rowC b l) T (0, 0))) (hi : i < l.length) {c0 c1 c2 c3 c4 : Value} (hf : fldC b (l.getD i ⟨0, 0, 0⟩) = [c0, c1, c2, c3, c4]) :
    w.cell? ⟨g, i * 5, none⟩ = some c0 ∧ w.cell? ⟨g, i * 5 + 1, none⟩ = some c1 ∧ w.cell? ⟨g, i * 5 + 2, none⟩ = some c2 ∧ w.cell? ⟨g, i * 5 + 3, none⟩ = some c3 ∧ w.cell? ⟨g, i * 5 + 4, none⟩ = some c4 := by
  have r := fun j (hj : j < 5) => row_get (b := b) (l := l) (i := i) (j := j) hi hj
  rw [hf] at r
  have cc : ∀ j, w.cell? ⟨g, j, none⟩ = (l.flatMap (fldC b))[j]? := fun j => by simp [World.cell?, h, rowC]
  rw [cc, cc, cc, cc, cc]
  exact ⟨r 0 (by omega), r 1 (by omega), r 2 (by omega), r 3 (by omega), r 4 (by omega)⟩
theorem msg_cell {w : World} {b : Nat} {m : Sough.Msg} {T : TypeId} (h : w.heap[b]? = some (.cells (msgC m) T (0, 0))) {f : Sough.Fld} {k : Int} (hf : f ∈ Sough.flds k) (h3 : f.c ≠ 3) : w.cell? ⟨b, f.c, none⟩ = some (numC f.c (m.v f.c)) := by
  rcases Sough.cell_cases hf with e | e | e | e | e | e | e | e | e | e | e | e <;> rw [e] at h3 ⊢ <;> first | (simp [World.cell?, h, msgC, numC, Sough.u64cell]; done) | exact absurd rfl h3
theorem msg_text {w : World} {b : Nat} {m : Sough.Msg} {T : TypeId} (h : w.heap[b]? = some (.cells (msgC m) T (0, 0))) : w.cell? ⟨b, 3, none⟩ = some (.string ⟨m.offer.toArray⟩) := by simp [World.cell?, h, msgC]
theorem msg_frozen {w : World} {b i : Nat} {m : Sough.Msg} {T : TypeId} (h : w.heap[b]? = some (.cells (msgC m) T (0, 0))) : w.frozen? ⟨b, i, none⟩ = false := by simp [World.frozen?, h]
theorem msg_set {v : Nat → Int} {o : List UInt8} {f : Sough.Fld} {k x : Int} (hf : f ∈ Sough.flds k) (h3 : f.c ≠ 3) : (msgC ⟨v, o⟩).setIfInBounds f.c (numC f.c x) = msgC ⟨Sough.setV v f.c x, o⟩ := by
  rcases Sough.cell_cases hf with e | e | e | e | e | e | e | e | e | e | e | e <;> rw [e] at h3 ⊢ <;> first | rfl | exact absurd rfl h3
theorem cells5 {w : World} {p : Nat} {a b c d e : Value} {T : TypeId} (h : w.heap[p]? = some (.cells #[a, b, c, d, e] T (0, 0))) :
    w.cell? ⟨p, 0, none⟩ = some a ∧ w.cell? ⟨p, 1, none⟩ = some b ∧ w.cell? ⟨p, 2, none⟩ = some c ∧ w.cell? ⟨p, 3, none⟩ = some d ∧ w.cell? ⟨p, 4, none⟩ = some e := by
  simp [World.cell?, h]
def put13 (W : World) (b : Nat) (m : Sough.Msg) : World :=
  ((((((((((((W.setCell ⟨b, 0, none⟩ (.int .i64 (m.v 0))).setCell ⟨b, 1, none⟩ (.int .u64 (m.v 1))).setCell ⟨b, 2, none⟩ (.int .u64 (m.v 2))).setCell ⟨b, 3, none⟩ (.string ⟨m.offer.toArray⟩)).setCell ⟨b, 4, none⟩ (.int .i64 (m.v 4))).setCell ⟨b, 5, none⟩ (.int .i64 (m.v 5))).setCell ⟨b, 6, none⟩ (.int .i64 (m.v 6))).setCell ⟨b, 7, none⟩ (.int .i64 (m.v 7))).setCell ⟨b, 8, none⟩ (.int .i64 (m.v 8))).setCell ⟨b, 9, none⟩ (.int .i64 (m.v 9))).setCell ⟨b, 10, none⟩ (.int .i64 (m.v 10))).setCell ⟨b, 11, none⟩ (.int .u64 (m.v 11))).setCell ⟨b, 12, none⟩ (.int .u64 (m.v 12))
theorem put13_heap {W : World} {b : Nat} {m0 m : Sough.Msg} {T : TypeId} (h : W.heap[b]? = some (.cells (msgC m0) T (0, 0))) : (put13 W b m).heap[b]? = some (.cells #[.int .i64 (m.v 0), .int .u64 (m.v 1), .int .u64 (m.v 2), .string ⟨m.offer.toArray⟩, .int .i64 (m.v 4), .int .i64 (m.v 5), .int .i64 (m.v 6), .int .i64 (m.v 7), .int .i64 (m.v 8), .int .i64 (m.v 9), .int .i64 (m.v 10), .int .u64 (m.v 11), .int .u64 (m.v 12)] T (0, 0)) := by
  have hs := fun {W : World} {cs : Array Value} (h : W.heap[b]? = some (.cells cs T (0, 0))) (i : Nat) (v : Value) => show (W.setCell ⟨b, i, none⟩ v).heap[b]? = some (.cells (cs.setIfInBounds i v) T (0, 0)) by simp [World.setCell, Array.getElem?_modify, h]
  have := hs (hs (hs (hs (hs (hs (hs (hs (hs (hs (hs (hs (hs h 0 (.int .i64 (m.v 0))) 1 (.int .u64 (m.v 1))) 2 (.int .u64 (m.v 2))) 3 (.string ⟨m.offer.toArray⟩)) 4 (.int .i64 (m.v 4))) 5 (.int .i64 (m.v 5))) 6 (.int .i64 (m.v 6))) 7 (.int .i64 (m.v 7))) 8 (.int .i64 (m.v 8))) 9 (.int .i64 (m.v 9))) 10 (.int .i64 (m.v 10))) 11 (.int .u64 (m.v 11))) 12 (.int .u64 (m.v 12))
  unfold put13
  simpa only [msgC, List.setIfInBounds_toArray, List.set_cons_succ, List.set_cons_zero] using this
theorem put13_below {B b : Nat} {w W : World} {m : Sough.Msg} (h : Below B w W) (hb : B ≤ b) : Below B w (put13 W b m) := by
  unfold put13
  repeat refine Below.setCell ?_ hb _
  exact h
theorem cell_ne0 {f : Sough.Fld} {k : Int} (hf : f ∈ Sough.flds k) : f.c ≠ 0 := by
  rcases Sough.cell_cases hf with e | e | e | e | e | e | e | e | e | e | e | e <;> omega
theorem cells13 {W : World} {b : Nat} {m : Sough.Msg} {T : TypeId} (h : W.heap[b]? = some (.cells #[.int .i64 (m.v 0), .int .u64 (m.v 1), .int .u64 (m.v 2), .string ⟨m.offer.toArray⟩, .int .i64 (m.v 4), .int .i64 (m.v 5), .int .i64 (m.v 6), .int .i64 (m.v 7), .int .i64 (m.v 8), .int .i64 (m.v 9), .int .i64 (m.v 10), .int .u64 (m.v 11), .int .u64 (m.v 12)] T (0, 0))) :
    W.cell? ⟨b, 0, none⟩ = some (.int .i64 (m.v 0)) ∧ W.cell? ⟨b, 1, none⟩ = some (.int .u64 (m.v 1)) ∧ W.cell? ⟨b, 2, none⟩ = some (.int .u64 (m.v 2)) ∧ W.cell? ⟨b, 3, none⟩ = some (.string ⟨m.offer.toArray⟩) ∧ W.cell? ⟨b, 4, none⟩ = some (.int .i64 (m.v 4)) ∧ W.cell? ⟨b, 5, none⟩ = some (.int .i64 (m.v 5)) ∧ W.cell? ⟨b, 6, none⟩ = some (.int .i64 (m.v 6)) ∧
    W.cell? ⟨b, 7, none⟩ = some (.int .i64 (m.v 7)) ∧ W.cell? ⟨b, 8, none⟩ = some (.int .i64 (m.v 8)) ∧ W.cell? ⟨b, 9, none⟩ = some (.int .i64 (m.v 9)) ∧ W.cell? ⟨b, 10, none⟩ = some (.int .i64 (m.v 10)) ∧ W.cell? ⟨b, 11, none⟩ = some (.int .u64 (m.v 11)) ∧ W.cell? ⟨b, 12, none⟩ = some (.int .u64 (m.v 12)) := by
  simp [World.cell?, h]
def OnlyR (w : World) (m : Sough.Msg) (bo bm br go gm : Nat) (iv : Value) (wr : World) : Prop :=
  ∃ i : Nat, i ≤ (Sough.flds (m.v 0)).length ∧ iv = .int .i64 i ∧ Mem w [(bo, .cells (msgC (Sough.onlyL m ((Sough.flds (m.v 0)).take i))) 34 (0, 0)), (gm, .cells (rowC bm (Sough.flds (m.v 0))) 138 (0, 0)), (go, .cells (rowC bo (Sough.flds (m.v 0))) 138 (0, 0)), (br, .cells (msgC Sough.zeroMsg) 34 (0, 0)), (bm, .cells (msgC m) 34 (0, 0))] wr
set_option maxRecDepth 100000 in
set_option maxHeartbeats 3200000 in
theorem monly_any {m : Sough.Msg} (w : World) (hwf : m.Wf) (hne : Sough.flds (m.v 0) ≠ []) (hr : ∀ f ∈ Sough.flds (m.v 0), f.c ≠ 3 → 0 ≤ m.v f.c ∧ m.v f.c < 9223372036854775808) :
    Calls Try.prog 65 #[.agg (msgC m)] w fun e w' => e = .returned (.agg (msgC (Sough.onlyL m (Sough.flds (m.v 0))))) ∧ Below w.heap.size w w' := by
  have HR := Lib.hid hr; have HWF := Lib.hid hwf; have HNE := Lib.hid hne
  have hk : (Lit.int .i64 (m.v 0)).wf = true := WalkArith.wf_i64 (hwf.ints 0 (by simp))
  have HK := Lib.hid hk
  have M0 : Mem w [(w.heap.size + 1 + 1, .cells (msgC (Sough.kindMsg (m.v 0))) 34 (0, 0)), (w.heap.size + 1, .cells (msgC Sough.zeroMsg) 34 (0, 0)), (w.heap.size, .cells (msgC m) 34 (0, 0))]
      (((w.alloc (.cells #[.int .i64 (m.v 0), .int .u64 (m.v 1), .int .u64 (m.v 2), .string ⟨m.offer.toArray⟩, .int .i64 (m.v 4), .int .i64 (m.v 5), .int .i64 (m.v 6), .int .i64 (m.v 7), .int .i64 (m.v 8), .int .i64 (m.v 9), .int .i64 (m.v 10), .int .u64 (m.v 11), .int .u64 (m.v 12)] 34)).alloc (.cells #[.int .i64 0, .int .u64 0, .int .u64 0, .string ⟨#[]⟩, .int .i64 0, .int .i64 0, .int .i64 0, .int .i64 0, .int .i64 0, .int .i64 0, .int .i64 0, .int .u64 0, .int .u64 0] 34)).alloc (.cells #[.int .i64 (m.v 0), .int .u64 0, .int .u64 0, .string ⟨#[]⟩, .int .i64 0, .int .i64 0, .int .i64 0, .int .i64 0, .int .i64 0, .int .i64 0, .int .i64 0, .int .u64 0, .int .u64 0] 34)) := by
    have := ((Mem.start w).alloc (.cells #[.int .i64 (m.v 0), .int .u64 (m.v 1), .int .u64 (m.v 2), .string ⟨m.offer.toArray⟩, .int .i64 (m.v 4), .int .i64 (m.v 5), .int .i64 (m.v 6), .int .i64 (m.v 7), .int .i64 (m.v 8), .int .i64 (m.v 9), .int .i64 (m.v 10), .int .u64 (m.v 11), .int .u64 (m.v 12)] 34)).alloc (.cells #[.int .i64 0, .int .u64 0, .int .u64 0, .string ⟨#[]⟩, .int .i64 0, .int .i64 0, .int .i64 0, .int .i64 0, .int .i64 0, .int .i64 0, .int .i64 0, .int .u64 0, .int .u64 0] 34) |>.alloc (.cells #[.int .i64 (m.v 0), .int .u64 0, .int .u64 0, .string ⟨#[]⟩, .int .i64 0, .int .i64 0, .int .i64 0, .int .i64 0, .int .i64 0, .int .i64 0, .int .i64 0, .int .u64 0, .int .u64 0] 34)
    simp only [World.size_alloc] at this
    exact this
  have HM0 := Lib.hid M0
  have hn8 := Sough.flds_len (m.v 0)
  clear hr hwf hk M0 hne
  obtain ⟨q, hq⟩ : ∃ q, q = Sough.onlyL m (Sough.flds (m.v 0)) := ⟨_, rfl⟩
  have HQ := Lib.hid hq
  rw [← hq]
  clear hq
  unfold msgC
  go_enter Try.func65, Try.ntmps65
  go_wp2_with fail
  generalize ((w.alloc (.cells #[.int .i64 (m.v 0), .int .u64 (m.v 1), .int .u64 (m.v 2), .string ⟨m.offer.toArray⟩, .int .i64 (m.v 4), .int .i64 (m.v 5), .int .i64 (m.v 6), .int .i64 (m.v 7), .int .i64 (m.v 8), .int .i64 (m.v 9), .int .i64 (m.v 10), .int .u64 (m.v 11), .int .u64 (m.v 12)] 34)).alloc (.cells #[.int .i64 0, .int .u64 0, .int .u64 0, .string ⟨#[]⟩, .int .i64 0, .int .i64 0, .int .i64 0, .int .i64 0, .int .i64 0, .int .i64 0, .int .i64 0, .int .u64 0, .int .u64 0] 34)).alloc (.cells #[.int .i64 (m.v 0), .int .u64 0, .int .u64 0, .string ⟨#[]⟩, .int .i64 0, .int .i64 0, .int .i64 0, .int .i64 0, .int .i64 0, .int .i64 0, .int .i64 0, .int .u64 0, .int .u64 0] 34) = W1 at *
  refine (fields_as (m := Sough.kindMsg (m.v 0)) (k := m.v 0) W1 rfl (HM0.out.get 0 rfl) HK.out).mono ?_
  rintro e w1 ⟨hb1, h1⟩
  rcases h1 with ⟨h1, _⟩ | ⟨_, go, rfl, hgo1, hgo2⟩
  · exact absurd h1 HNE.out
  have M1 := Lib.hid ((HM0.out.later hb1).with hgo2)
  have hgo3 : w.heap.size ≤ go := Nat.le_trans HM0.out.bel.size hgo1
  have HGO := Lib.hid hgo3
  have hd1 : go ≠ w.heap.size + 1 + 1 := by have := HM0.out.lt 0 rfl; omega
  clear hb1 hgo1 hgo2 HM0 hgo3
  go_wp2_with fail
  refine (fields_any (m := m) w1 (M1.out.get 3 rfl) HK.out).mono ?_
  rintro e w2 ⟨hb2, h2⟩
  rcases h2 with ⟨h2, _⟩ | ⟨_, gm, rfl, hgm1, hgm2⟩
  · exact absurd h2 HNE.out
  have hl1 := M1.out.lt 0 rfl; have hl2 := M1.out.lt 1 rfl; have hl3 := M1.out.lt 2 rfl; have hl4 := M1.out.lt 3 rfl
  have M2 : Hid (Mem w [(w.heap.size + 1 + 1, .cells (msgC (Sough.onlyL m ((Sough.flds (m.v 0)).take 0))) 34 (0, 0)), (gm, .cells (rowC w.heap.size (Sough.flds (m.v 0))) 138 (0, 0)), (go, .cells (rowC (w.heap.size + 1 + 1) (Sough.flds (m.v 0))) 138 (0, 0)), (w.heap.size + 1, .cells (msgC Sough.zeroMsg) 34 (0, 0)), (w.heap.size, .cells (msgC m) 34 (0, 0))] w2) := by
    rw [List.take_zero, Sough.onlyL_nil]
    exact Lib.hid (((M1.out.later hb2).with hgm2).sub fun x hx => by
      simp only [List.mem_cons, List.not_mem_nil, or_false] at hx ⊢
      rcases hx with rfl | rfl | rfl | rfl | rfl
      · exact .inr (.inr (.inl rfl))
      · exact .inl rfl
      · exact .inr (.inl rfl)
      · exact .inr (.inr (.inr (.inl rfl)))
      · exact .inr (.inr (.inr (.inr rfl))))
  have hd2 : gm ≠ w.heap.size + 1 + 1 := by omega
  clear hb2 hgm1 hgm2 M1 hl1 hl2 hl3 hl4
  obtain ⟨n, hn⟩ : ∃ n, n = (Sough.flds (m.v 0)).length := ⟨_, rfl⟩
  have HN := Lib.hid hn
  rw [← hn]
  rw [← hn] at hn8
  clear hn
  go_wp2_with fail
  go_loopw [13] (fun iv wr => OnlyR w m (w.heap.size + 1 + 1) w.heap.size (w.heap.size + 1) go gm iv wr) (fun iv _ => n - (intOf iv).toNat)
  case atStart => exact ⟨0, Nat.zero_le _, rfl, M2.out⟩
  case round =>
    obtain ⟨i, hi, rfl, hM⟩ := hrel
    rw [← HN.out] at hi
    have M3 := Lib.hid hM
    clear hM M2
    by_cases hlt : i < n
    · have hfl : i < (Sough.flds (m.v 0)).length := by rw [← HN.out]; exact hlt
      obtain ⟨f, hf⟩ : ∃ f, f = (Sough.flds (m.v 0)).getD i ⟨0, 0, 0⟩ := ⟨_, rfl⟩
      have hfe : f = (Sough.flds (m.v 0))[i] := by rw [hf, List.getD_eq_getElem?_getD, List.getElem?_eq_getElem hfl]; rfl
      have hmem : f ∈ Sough.flds (m.v 0) := by rw [hfe]; exact List.getElem_mem hfl
      have htake : (Sough.flds (m.v 0)).take (i + 1) = (Sough.flds (m.v 0)).take i ++ [f] := by rw [List.take_succ_eq_append_getElem hfl, hfe]
      have HF := Lib.hid hf; have HMEM := Lib.hid hmem; have HT := Lib.hid htake
      by_cases h3 : f.c = 3
      · have em : fldC w.heap.size ((Sough.flds (m.v 0)).getD i ⟨0, 0, 0⟩) = [.int .u64 0, .int .u64 0, .pointer none, .pointer none, .pointer (some ⟨w.heap.size, 3, none⟩)] := by rw [← hf]; unfold fldC; rw [if_pos h3]
        have eo : fldC (w.heap.size + 1 + 1) ((Sough.flds (m.v 0)).getD i ⟨0, 0, 0⟩) = [.int .u64 0, .int .u64 0, .pointer none, .pointer none, .pointer (some ⟨w.heap.size + 1 + 1, 3, none⟩)] := by rw [← hf]; unfold fldC; rw [if_pos h3]
        have rm := row_cells (M3.out.get 1 rfl) hfl em
        have HE := Lib.hid eo; have H3 := Lib.hid h3
        clear hf hfe hmem htake em eo h3 hfl
        go_wp2_with fail
        have M4 : Hid (Mem w _ (wr.alloc (.cells #[.int .u64 0, .int .u64 0, .pointer none, .pointer none, .pointer (some ⟨w.heap.size, 3, none⟩)] 138))) := Lib.hid (M3.out.later ((Below.refl _ _).alloc (Nat.le_refl _) _))
        have bx := heap_alloc_new wr (.cells #[.int .u64 0, .int .u64 0, .pointer none, .pointer none, .pointer (some ⟨w.heap.size, 3, none⟩)] 138)
        have b4 : (wr.alloc (.cells #[.int .u64 0, .int .u64 0, .pointer none, .pointer none, .pointer (some ⟨w.heap.size, 3, none⟩)] 138)).cell? ⟨wr.heap.size, 4, none⟩ = some (.pointer (some ⟨w.heap.size, 3, none⟩)) := (cells5 bx).2.2.2.2
        generalize wr.alloc (.cells #[.int .u64 0, .int .u64 0, .pointer none, .pointer none, .pointer (some ⟨w.heap.size, 3, none⟩)] 138) = W at *
        have hfl : i < (Sough.flds (m.v 0)).length := by rw [← HN.out]; exact hlt
        have ro := (row_cells (M4.out.get 2 rfl) hfl HE.out).2.2.2.2
        have mt := msg_text (M4.out.get 4 rfl)
        have ot := msg_text (M4.out.get 0 rfl)
        have oz := msg_frozen (i := 3) (M4.out.get 0 rfl)
        clear rm bx hfl
        go_still_tail 10, (by kernel_rfl)
        change wpList _ _ _ _ _ W.drew
        have M5 : Hid (Mem w _ W.drew) := Lib.hid (M4.out.later (Below.refl _ W).drew)
        clear ro mt b4
        have ot : W.drew.cell? ⟨w.heap.size + 1 + 1, 3, none⟩ = _ := ot
        have oz : W.drew.frozen? ⟨w.heap.size + 1 + 1, 3, none⟩ = false := oz
        generalize W.drew = W5 at *
        have M6 := M5.out.set (by omega) (by simp; omega) 3 (.string ⟨m.offer.toArray⟩)
        have HNX : Hid (OnlyR w m (w.heap.size + 1 + 1) w.heap.size (w.heap.size + 1) go gm (.int .i64 (i + 1 : Nat)) (W5.setCell ⟨w.heap.size + 1 + 1, 3, none⟩ (.string ⟨m.offer.toArray⟩))) := by
          refine Lib.hid ⟨i + 1, by rw [← HN.out]; omega, rfl, ?_⟩
          rw [HT.out, Sough.onlyL_text H3.out]
          exact M6
        clear M6
        go_wp2_with fail
        go_roundw
        case rel => exact HNX.out
        case measure => simp [intOf]; omega
      · have hrx := HR.out f hmem h3
        obtain ⟨xn, hxn⟩ : ∃ n : Nat, m.v f.c = n := ⟨(m.v f.c).toNat, by omega⟩
        have hx63 : xn < 9223372036854775808 := by omega
        have hwr : IntKind.u64.wrap (m.v f.c) = xn := by rw [IntKind.wrap_u64]; omega
        obtain ⟨c2, c3, em⟩ : ∃ c2 c3, fldC w.heap.size f = [.int .u64 f.lo, .int .u64 f.hi, .pointer c2, .pointer c3, .pointer none] := by unfold fldC; rw [if_neg h3]; split <;> exact ⟨_, _, rfl⟩
        obtain ⟨d2, d3, eo⟩ : ∃ c2 c3, fldC (w.heap.size + 1 + 1) f = [.int .u64 f.lo, .int .u64 f.hi, .pointer c2, .pointer c3, .pointer none] := by unfold fldC; rw [if_neg h3]; split <;> exact ⟨_, _, rfl⟩
        have rm := row_cells (M3.out.get 1 rfl) hfl (by rw [← hf]; exact em)
        have HE := Lib.hid eo; have H3 := Lib.hid h3; have HEM := Lib.hid em; have HX := Lib.hid hxn; have HX63 := Lib.hid hx63; have HW := Lib.hid hwr; have HRX := Lib.hid hrx
        clear hf hfe hmem htake em eo h3 hfl hrx hxn hx63 hwr
        go_wp2_with fail
        have M4 : Hid (Mem w _ (wr.alloc (.cells #[.int .u64 f.lo, .int .u64 f.hi, .pointer c2, .pointer c3, .pointer none] 138))) := Lib.hid (M3.out.later ((Below.refl _ _).alloc (Nat.le_refl _) _))
        have bx := heap_alloc_new wr (.cells #[.int .u64 f.lo, .int .u64 f.hi, .pointer c2, .pointer c3, .pointer none] 138)
        clear rm
        generalize wr.alloc (.cells #[.int .u64 f.lo, .int .u64 f.hi, .pointer c2, .pointer c3, .pointer none] 138) = W at *
        have hfl : i < (Sough.flds (m.v 0)).length := by rw [← HN.out]; exact hlt
        have ro := fun x : Later W => row_cells ((M4.out.later x.below).get 2 rfl) hfl (by rw [← HF.out]; exact HE.out)
        have rf := fun x : Later W => cells5 ((x.below.block _ (lt_of_block bx)).trans bx)
        have CG : Hid (∀ x : Later W, Calls Try.prog 64 #[.agg #[.int .u64 f.lo, .int .u64 f.hi, .pointer c2, .pointer c3, .pointer none]] x.world fun e w' => e = .returned (.int .u64 xn) ∧ Below x.world.heap.size x.world w') := Lib.hid fun x => by
          have := get_num (b := w.heap.size) (f := f) (x := m.v f.c) x.world H3.out (msg_cell ((M4.out.later x.below).get 4 rfl) HMEM.out H3.out) (fun _ => by have := HRX.out; omega)
          rw [HEM.out, HW.out] at this
          exact this
        have CS : Hid (∀ x : Later W, Calls Try.prog 82 #[.agg #[.int .u64 f.lo, .int .u64 f.hi, .pointer d2, .pointer d3, .pointer none], .int .u64 xn] x.world (SetTo x.world ⟨w.heap.size + 1 + 1, f.c, none⟩ (numC f.c xn))) := Lib.hid fun x => by
          have mo := (M4.out.later x.below).get 0 rfl
          have := set_num (b := w.heap.size + 1 + 1) (f := f) (x := xn) x.world H3.out (msg_cell mo HMEM.out H3.out) (msg_frozen mo) HX63.out
          rw [HE.out] at this
          exact this
        clear bx hfl
        refine wp_region_later_last 6 (by kernel_rfl) (by kernel_rfl) (by kernel_rfl) (by kernel_rfl) (by kernel_rfl) ?_
        simp only [List.take_succ_cons, List.take_zero, List.getElem_toArray, List.getElem_cons_succ, List.getElem_cons_zero]
        repeat go_big_quiet_step (exact Calls.later (CG.out _))
        refine wpQuiet_nil ?_
        intro x
        clear ro rf
        go_wp2_with fail
        refine (CS.out x).mono ?_
        rintro e w' ⟨rfl, hb'⟩
        have M5 := ((M4.out.later x.below).set (by omega) (by simp; omega) f.c (numC f.c xn)).later (by rw [size_setCell]; exact hb')
        have HNX : Hid (OnlyR w m (w.heap.size + 1 + 1) w.heap.size (w.heap.size + 1) go gm (.int .i64 (i + 1 : Nat)) w') := by
          refine Lib.hid ⟨i + 1, by rw [← HN.out]; omega, rfl, ?_⟩
          rw [HT.out, Sough.onlyL_num (cell_ne0 HMEM.out) H3.out, ← msg_set HMEM.out H3.out, HX.out]
          exact M5
        clear M5 hb'
        go_wp2_with fail
        go_roundw
        case rel => exact HNX.out
        case measure => simp [intOf]; omega
    · obtain rfl : i = n := by omega
      have M9 : Hid (Mem w [(w.heap.size + 1 + 1, .cells #[.int .i64 (q.v 0), .int .u64 (q.v 1), .int .u64 (q.v 2), .string ⟨q.offer.toArray⟩, .int .i64 (q.v 4), .int .i64 (q.v 5), .int .i64 (q.v 6), .int .i64 (q.v 7), .int .i64 (q.v 8), .int .i64 (q.v 9), .int .i64 (q.v 10), .int .u64 (q.v 11), .int .u64 (q.v 12)] 34 (0, 0)), (w.heap.size + 1, .cells #[.int .i64 0, .int .u64 0, .int .u64 0, .string ⟨#[]⟩, .int .i64 0, .int .i64 0, .int .i64 0, .int .i64 0, .int .i64 0, .int .i64 0, .int .i64 0, .int .u64 0, .int .u64 0] 34 (0, 0))] wr) := Lib.hid (M3.out.sub fun x hx => by
        simp only [List.mem_cons, List.not_mem_nil, or_false] at hx ⊢
        rw [HN.out, List.take_length, ← HQ.out]
        rcases hx with rfl | rfl
        · exact .inl rfl
        · exact .inr (.inr (.inr (.inl rfl))))
      have r := M9.out.rules; simp only [AllCells, CellsAt, Nat.zero_add, Nat.reduceAdd] at r
      have hz : wr.heap[w.heap.size + 1]? = some (.cells (msgC Sough.zeroMsg) 34 (0, 0)) := M9.out.get 1 rfl
      have HBL := Lib.hid (put13_below (m := q) M9.out.bel (show w.heap.size ≤ w.heap.size + 1 by omega))
      have HZ := Lib.hid (cells13 (put13_heap (m := q) hz))
      clear M3 M9 hz
      go_wp2_with fail
      change bodyPost _ _ _ _ _ (put13 wr (w.heap.size + 1) q)
      clear r
      generalize put13 wr (w.heap.size + 1) q = W at *
      have rz := HZ.out
      refine bodyPost_ret (v := .agg #[.int .i64 (q.v 0), .int .u64 (q.v 1), .int .u64 (q.v 2), .string ⟨q.offer.toArray⟩, .int .i64 (q.v 4), .int .i64 (q.v 5), .int .i64 (q.v 6), .int .i64 (q.v 7), .int .i64 (q.v 8), .int .i64 (q.v 9), .int .i64 (q.v 10), .int .u64 (q.v 11), .int .u64 (q.v 12)]) (by simp [results, Try.results65, go_sem, rz]) rfl ⟨rfl, HBL.out⟩
end Go.Proofs.Ytlfgempjjoclbaa
namespace Go.Proofs.Ytlfgempjjoclbaa
open Go.RowKit
set_option maxRecDepth 100000 in
set_option maxHeartbeats 1600000 in
theorem eqMsg (m q : Sough.Msg) (w : World) : (Op.equalIn 10000 34 (.agg #[.int .i64 (m.v 0), .int .u64 (m.v 1), .int .u64 (m.v 2), .string ⟨m.offer.toArray⟩, .int .i64 (m.v 4), .int .i64 (m.v 5), .int .i64 (m.v 6), .int .i64 (m.v 7), .int .i64 (m.v 8), .int .i64 (m.v 9), .int .i64 (m.v 10), .int .u64 (m.v 11), .int .u64 (m.v 12)]) (.agg #[.int .i64 (q.v 0), .int .u64 (q.v 1), .int .u64 (q.v 2), .string ⟨q.offer.toArray⟩, .int .i64 (q.v 4), .int .i64 (q.v 5), .int .i64 (q.v 6), .int .i64 (q.v 7), .int .i64 (q.v 8), .int .i64 (q.v 9), .int .i64 (q.v 10), .int .u64 (q.v 11), .int .u64 (q.v 12)])).run Try.prog w = .ok (m.same q) w := by
  have u1 := Try.underlying3
  have a1 := Try.isAgg3
  have z1 := Try.sizeOf3
  have u2 := Try.underlying32
  have a2 := Try.isAgg32
  have z2 := Try.sizeOf32
  have u3 := Try.underlying9
  have a3 := Try.isAgg9
  have z3 := Try.sizeOf9
  have hS : Try.prog.underlying 34 = some (.struct (Try.prog.fieldsOf 34)) := by kernel_rfl
  rw [show (10000 : Nat) = 9999 + 1 from rfl, run_equalIn_agg w 9999 34 _ _ hS (by kernel_rfl)]
  simp only [Program.fieldsOf, Try.underlying34]
  go_simp
  by_cases h0 : m.v 0 = q.v 0
  rotate_left
  · simp [h0, Sough.Msg.same, Sough.cellsN]
  by_cases h1 : m.v 1 = q.v 1
  rotate_left
  · simp [h1, Sough.Msg.same, Sough.cellsN]
  by_cases h2 : m.v 2 = q.v 2
  rotate_left
  · simp [h2, Sough.Msg.same, Sough.cellsN]
  by_cases h3 : m.offer = q.offer
  rotate_left
  · simp [h3, Sough.Msg.same, Sough.cellsN]
  by_cases h4 : m.v 4 = q.v 4
  rotate_left
  · simp [h4, Sough.Msg.same, Sough.cellsN]
  by_cases h5 : m.v 5 = q.v 5
  rotate_left
  · simp [h5, Sough.Msg.same, Sough.cellsN]
  by_cases h6 : m.v 6 = q.v 6
  rotate_left
  · simp [h6, Sough.Msg.same, Sough.cellsN]
  by_cases h7 : m.v 7 = q.v 7
  rotate_left
  · simp [h7, Sough.Msg.same, Sough.cellsN]
  by_cases h8 : m.v 8 = q.v 8
  rotate_left
  · simp [h8, Sough.Msg.same, Sough.cellsN]
  by_cases h9 : m.v 9 = q.v 9
  rotate_left
  · simp [h9, Sough.Msg.same, Sough.cellsN]
  by_cases h10 : m.v 10 = q.v 10
  rotate_left
  · simp [h10, Sough.Msg.same, Sough.cellsN]
  by_cases h11 : m.v 11 = q.v 11
  rotate_left
  · simp [h11, Sough.Msg.same, Sough.cellsN]
  by_cases h12 : m.v 12 = q.v 12
  rotate_left
  · simp [h12, Sough.Msg.same, Sough.cellsN]
  simp [Sough.Msg.same, Sough.cellsN, h0, h1, h2, h3, h4, h5, h6, h7, h8, h9, h10, h11, h12]
end Go.Proofs.Ytlfgempjjoclbaa
namespace Go.Proofs.Ytlfgempjjoclbaa
open Go.RowKit Go.Maps Go.ChangeMaps
theorem fldOk_num {m : Sough.Msg} {f : Sough.Fld} {k : Int} (hwf : m.Wf) (hf : f ∈ Sough.flds k) (h3 : f.c ≠ 3) : ∃ y : Nat, IntKind.u64.wrap (m.v f.c) = y ∧ y < 18446744073709551616 ∧ Sough.fldOk m f = (decide (f.lo ≤ y) && decide (y ≤ f.hi)) := by
  have hc := hwf.cell hf h3
  have hb := Sough.fld_bounds hf
  have hw : IntKind.u64.wrap (m.v f.c) = (m.v f.c) % 18446744073709551616 := IntKind.wrap_u64 _
  refine ⟨((m.v f.c) % 18446744073709551616).toNat, by omega, by omega, ?_⟩
  unfold Sough.fldOk
  rw [if_neg h3, Bool.eq_iff_iff]
  simp only [decide_eq_true_eq, Bool.and_eq_true]
  cases hu : Sough.u64cell f.c
  · have := hc.2 hu
    omega
  · have := hc.1 hu
    omega
def RightR (w : World) (m : Sough.Msg) (bm gm : Nat) (iv : Value) (wr : World) : Prop :=
  ∃ i : Nat, i ≤ (Sough.flds (m.v 0)).length ∧ iv = .int .i64 i ∧ ((Sough.flds (m.v 0)).take i).all (Sough.fldOk m) = true ∧ Mem w [(gm, .cells (rowC bm (Sough.flds (m.v 0))) 138 (0, 0)), (bm, .cells (msgC m) 34 (0, 0))] wr
theorem right_false {m : Sough.Msg} {f : Sough.Fld} (hf : f ∈ Sough.flds (m.v 0)) (h : Sough.fldOk m f = false) : m.right = false := by
  unfold Sough.Msg.right
  have : (Sough.flds (m.v 0)).all (Sough.fldOk m) = false := by
    rw [List.all_eq_false]
    exact ⟨f, hf, by rw [h]; simp⟩
  rw [this]; simp
set_option maxRecDepth 100000 in
set_option maxHeartbeats 3200000 in
theorem right_some {m : Sough.Msg} (w : World) (hwf : m.Wf) (hne : Sough.flds (m.v 0) ≠ []) :
    Calls Try.prog 38 #[.agg (msgC m)] w fun e w' => e = .returned (.bool m.right) ∧ Below w.heap.size w w' := by
  have HWF := Lib.hid hwf; have HNE := Lib.hid hne
  have hk : (Lit.int .i64 (m.v 0)).wf = true := WalkArith.wf_i64 (hwf.ints 0 (by simp))
  have HK := Lib.hid hk
  have M0 : Hid (Mem w [(w.heap.size, .cells (msgC m) 34 (0, 0))] (w.alloc (.cells #[.int .i64 (m.v 0), .int .u64 (m.v 1), .int .u64 (m.v 2), .string ⟨m.offer.toArray⟩, .int .i64 (m.v 4), .int .i64 (m.v 5), .int .i64 (m.v 6), .int .i64 (m.v 7), .int .i64 (m.v 8), .int .i64 (m.v 9), .int .i64 (m.v 10), .int .u64 (m.v 11), .int .u64 (m.v 12)] 34))) := Lib.hid ((Mem.start w).alloc _)
  have hn8 := Sough.flds_len (m.v 0)
  clear hwf hk hne
  obtain ⟨res, hres⟩ : ∃ res, res = m.right := ⟨_, rfl⟩
  have HRES := Lib.hid hres
  rw [← hres]
  clear hres
  unfold msgC
  go_enter Try.func38, Try.ntmps38
  go_wp2_with fail
  generalize w.alloc (.cells #[.int .i64 (m.v 0), .int .u64 (m.v 1), .int .u64 (m.v 2), .string ⟨m.offer.toArray⟩, .int .i64 (m.v 4), .int .i64 (m.v 5), .int .i64 (m.v 6), .int .i64 (m.v 7), .int .i64 (m.v 8), .int .i64 (m.v 9), .int .i64 (m.v 10), .int .u64 (m.v 11), .int .u64 (m.v 12)] 34) = W1 at *
  refine (fields_any (m := m) W1 (M0.out.get 0 rfl) HK.out).mono ?_
  rintro e w2 ⟨hb2, h2⟩
  rcases h2 with ⟨h2, _⟩ | ⟨_, gm, rfl, hgm1, hgm2⟩
  · exact absurd h2 HNE.out
  have hl1 := M0.out.lt 0 rfl
  have M2 : Hid (Mem w [(gm, .cells (rowC w.heap.size (Sough.flds (m.v 0))) 138 (0, 0)), (w.heap.size, .cells (msgC m) 34 (0, 0))] w2) := Lib.hid ((M0.out.later hb2).with hgm2)
  clear hb2 hgm1 hgm2 M0 hl1
  obtain ⟨n, hn⟩ : ∃ n, n = (Sough.flds (m.v 0)).length := ⟨_, rfl⟩
  have HN := Lib.hid hn
  rw [← hn]
  rw [← hn] at hn8
  clear hn
  go_wp2_with fail
  go_loopw [9] (fun iv wr => RightR w m w.heap.size gm iv wr) (fun iv _ => n - (intOf iv).toNat)
  case atStart => exact ⟨0, Nat.zero_le _, rfl, rfl, M2.out⟩
  case round =>
    obtain ⟨i, hi, rfl, hok, hM⟩ := hrel
    rw [← HN.out] at hi
    have M3 := Lib.hid hM; have HOK := Lib.hid hok
    clear hM M2 hok
    by_cases hlt : i < n
    · have hfl : i < (Sough.flds (m.v 0)).length := by rw [← HN.out]; exact hlt
      obtain ⟨f, hf⟩ : ∃ f, f = (Sough.flds (m.v 0)).getD i ⟨0, 0, 0⟩ := ⟨_, rfl⟩
      have hfe : f = (Sough.flds (m.v 0))[i] := by rw [hf, List.getD_eq_getElem?_getD, List.getElem?_eq_getElem hfl]; rfl
      have hmem : f ∈ Sough.flds (m.v 0) := by rw [hfe]; exact List.getElem_mem hfl
      have htake : (Sough.flds (m.v 0)).take (i + 1) = (Sough.flds (m.v 0)).take i ++ [f] := by rw [List.take_succ_eq_append_getElem hfl, hfe]
      have HF := Lib.hid hf; have HMEM := Lib.hid hmem; have HT := Lib.hid htake
      have hnext : ∀ wr', Sough.fldOk m f = true → Mem w _ wr' → RightR w m w.heap.size gm (.int .i64 (i + 1 : Nat)) wr' := fun wr' ho hM => ⟨i + 1, by rw [← HN.out]; omega, rfl, by rw [HT.out, List.all_append, HOK.out]; simp [ho], hM⟩
      have HNEXT := Lib.hid hnext
      clear hnext
      by_cases h3 : f.c = 3
      · have em : fldC w.heap.size ((Sough.flds (m.v 0)).getD i ⟨0, 0, 0⟩) = [.int .u64 0, .int .u64 0, .pointer none, .pointer none, .pointer (some ⟨w.heap.size, 3, none⟩)] := by rw [← hf]; unfold fldC; rw [if_pos h3]
        have rm := row_cells (M3.out.get 0 rfl) hfl em
        have H3 := Lib.hid h3
        clear hf hfe hmem htake em h3 hfl
        have mt := msg_text (M3.out.get 1 rfl)
        have hbl := M3.out.lt 1 rfl
        have mt' : (wr.alloc (.cells #[.int .u64 0, .int .u64 0, .pointer none, .pointer none, .pointer (some ⟨w.heap.size, 3, none⟩)] 138)).cell? ⟨w.heap.size, 3, none⟩ = _ := (((Below.refl wr.heap.size wr).alloc (Nat.le_refl _) (.cells #[.int .u64 0, .int .u64 0, .pointer none, .pointer none, .pointer (some ⟨w.heap.size, 3, none⟩)] 138)).cell (p := ⟨w.heap.size, 3, none⟩) hbl).trans mt
        clear mt hbl
        go_wp2_with fail
        have M4 : Hid (Mem w _ (wr.alloc (.cells #[.int .u64 0, .int .u64 0, .pointer none, .pointer none, .pointer (some ⟨w.heap.size, 3, none⟩)] 138))) := Lib.hid (M3.out.later ((Below.refl _ _).alloc (Nat.le_refl _) _))
        clear rm mt'
        generalize wr.alloc (.cells #[.int .u64 0, .int .u64 0, .pointer none, .pointer none, .pointer (some ⟨w.heap.size, 3, none⟩)] 138) = W at *
        obtain ⟨b, hb⟩ : ∃ b, Sough.offerOk m.offer = b := ⟨_, rfl⟩
        have hfo : Sough.fldOk m f = b := by unfold Sough.fldOk; rw [if_pos H3.out]; exact hb
        refine (offer_any (l := m.offer) rfl hb W (show (⟨m.offer.toArray⟩ : ByteArray).size ≤ maxLen from HWF.out.text)).mono ?_
        rintro e w3 ⟨rfl, rfl⟩
        cases b
        · have hrf : res = false := HRES.out.trans (right_false HMEM.out hfo)
          clear hfo hb
          go_wp2_with fail
          go_ret
          exact ⟨ret_bool hrf.symm, M4.out.bel⟩
        · have HNX := Lib.hid (HNEXT.out _ hfo M4.out)
          clear hfo hb
          go_wp2_with fail
          go_roundw
          case rel => exact HNX.out
          case measure => simp [intOf]; omega
      · obtain ⟨y, hy1, hy2, hy3⟩ := fldOk_num HWF.out hmem h3
        obtain ⟨c2, c3, em⟩ : ∃ c2 c3, fldC w.heap.size f = [.int .u64 f.lo, .int .u64 f.hi, .pointer c2, .pointer c3, .pointer none] := by unfold fldC; rw [if_neg h3]; split <;> exact ⟨_, _, rfl⟩
        have rm := row_cells (M3.out.get 0 rfl) hfl (by rw [← hf]; exact em)
        have H3 := Lib.hid h3; have HEM := Lib.hid em
        have HXC := Lib.hid (HWF.out.cell hmem h3)
        have HY := Lib.hid hy1
        have hlo := Sough.fld_bounds hmem
        obtain ⟨lo, hlo'⟩ : ∃ x, x = f.lo := ⟨_, rfl⟩
        obtain ⟨hi', hhi'⟩ : ∃ x, x = f.hi := ⟨_, rfl⟩
        rw [← hlo', ← hhi'] at hy3
        have hb1 : lo ≤ 1 := by omega
        have hb2 : hi' ≤ 4294967296 := by omega
        have HLO := Lib.hid hlo'; have HHI := Lib.hid hhi'
        rw [← hlo', ← hhi'] at rm
        clear hf hfe hmem htake em h3 hfl hy1 hlo hlo' hhi'
        go_wp2_with fail
        have M4 : Hid (Mem w _ (wr.alloc (.cells #[.int .u64 lo, .int .u64 hi', .pointer c2, .pointer c3, .pointer none] 138))) := Lib.hid (M3.out.later ((Below.refl _ _).alloc (Nat.le_refl _) _))
        have bx := heap_alloc_new wr (.cells #[.int .u64 lo, .int .u64 hi', .pointer c2, .pointer c3, .pointer none] 138)
        clear rm
        generalize wr.alloc (.cells #[.int .u64 lo, .int .u64 hi', .pointer c2, .pointer c3, .pointer none] 138) = W at *
        have rf := fun x : Later W => cells5 ((x.below.block _ (lt_of_block bx)).trans bx)
        have CG : Hid (∀ x : Later W, Calls Try.prog 64 #[.agg #[.int .u64 lo, .int .u64 hi', .pointer c2, .pointer c3, .pointer none]] x.world fun e w' => e = .returned (.int .u64 y) ∧ Below x.world.heap.size x.world w') := Lib.hid fun x => by
          have := get_num (b := w.heap.size) (f := f) (x := m.v f.c) x.world H3.out (msg_cell ((M4.out.later x.below).get 1 rfl) HMEM.out H3.out) (fun hu => HXC.out.1 hu)
          rw [HEM.out, HY.out] at this
          rw [HLO.out, HHI.out]
          exact this
        clear bx
        by_cases g1 : y < lo
        · have d1 : decide (y < lo) = true := decide_eq_true g1
          have hrf : res = false := HRES.out.trans (right_false HMEM.out (by rw [hy3, decide_eq_false (show ¬ lo ≤ y by omega)]; rfl))
          clear hy3
          refine wp_region_later (by kernel_rfl) (by kernel_rfl) ?_
          repeat go_big_quiet_step (exact Calls.later (CG.out _))
          refine wpQuiet_nil ?_
          rintro ⟨w3, hb3⟩
          change Exit.then _ _ _ _ w3
          have M5 := Lib.hid (M4.out.later hb3)
          clear hb3
          clear rf
          go_wp2_with fail
          go_ret
          exact ⟨ret_bool hrf.symm, M5.out.bel⟩
        · have d1 : decide (y < lo) = false := decide_eq_false g1
          by_cases g2 : hi' < y
          · have d2 : decide (hi' < y) = true := decide_eq_true g2
            have hrf : res = false := HRES.out.trans (right_false HMEM.out (by rw [hy3, decide_eq_false (show ¬ y ≤ hi' by omega), Bool.and_false]))
            clear hy3
            refine wp_region_later (by kernel_rfl) (by kernel_rfl) ?_
            repeat go_big_quiet_step (exact Calls.later (CG.out _))
            refine wpQuiet_nil ?_
            rintro ⟨w3, hb3⟩
            change Exit.then _ _ _ _ w3
            have M5 := Lib.hid (M4.out.later hb3)
            clear hb3
            clear rf
            go_wp2_with fail
            go_ret
            exact ⟨ret_bool hrf.symm, M5.out.bel⟩
          · have d2 : decide (hi' < y) = false := decide_eq_false g2
            have ho : Sough.fldOk m f = true := by rw [hy3, decide_eq_true (show lo ≤ y by omega), decide_eq_true (show y ≤ hi' by omega)]; rfl
            have HO := Lib.hid ho
            clear hy3 ho
            refine wp_region_later (by kernel_rfl) (by kernel_rfl) ?_
            repeat go_big_quiet_step (exact Calls.later (CG.out _))
            refine wpQuiet_nil ?_
            rintro ⟨w3, hb3⟩
            change Exit.then _ _ _ _ w3
            have M5 := Lib.hid (M4.out.later hb3)
            clear hb3
            clear rf
            have HNX := Lib.hid (HNEXT.out _ HO.out M5.out)
            go_wp2_with fail
            go_roundw
            case rel => exact HNX.out
            case measure => simp [intOf]; omega
    · obtain rfl : i = n := by omega
      rw [HN.out, List.take_length] at HOK
      have hall := HOK.out
      have hr : ∀ f ∈ Sough.flds (m.v 0), f.c ≠ 3 → 0 ≤ m.v f.c ∧ m.v f.c < 9223372036854775808 := fun f hf h3 => by
        have := List.all_eq_true.1 hall f hf
        unfold Sough.fldOk at this
        rw [if_neg h3, decide_eq_true_eq] at this
        have hb := Sough.fld_bounds hf
        omega
      have hme : res = m.same (Sough.onlyL m (Sough.flds (m.v 0))) := by
        rw [HRES.out]
        unfold Sough.Msg.right
        rw [hall]
        have : (Sough.flds (m.v 0)).isEmpty = false := by simpa using HNE.out
        rw [this]; rfl
      have CO : Hid (∀ x : Later wr, Calls Try.prog 65 #[.agg #[.int .i64 (m.v 0), .int .u64 (m.v 1), .int .u64 (m.v 2), .string ⟨m.offer.toArray⟩, .int .i64 (m.v 4), .int .i64 (m.v 5), .int .i64 (m.v 6), .int .i64 (m.v 7), .int .i64 (m.v 8), .int .i64 (m.v 9), .int .i64 (m.v 10), .int .u64 (m.v 11), .int .u64 (m.v 12)]] x.world fun e w' => e = .returned (.agg (msgC (Sough.onlyL m (Sough.flds (m.v 0))))) ∧ Below x.world.heap.size x.world w') := Lib.hid fun x => monly_any x.world HWF.out HNE.out hr
      clear hall hr
      obtain ⟨q, hq⟩ : ∃ q, q = Sough.onlyL m (Sough.flds (m.v 0)) := ⟨_, rfl⟩
      rw [← hq] at CO hme
      have HME := Lib.hid hme
      clear hq hme
      have rx := fun x : Later wr => cells13 ((M3.out.later x.below).get 1 rfl)
      unfold msgC at CO
      have EQ := eqMsg m q
      have EG : Try.prog.eqGuardType Try.prog.depth 34 = false := by kernel_rfl
      go_wp2_with fail
      refine wp_region_later (by kernel_rfl) (by kernel_rfl) ?_
      repeat go_big_quiet_step (exact Calls.later (CO.out _))
      refine wpQuiet_nil ?_
      rintro ⟨w3, hb3⟩
      change Exit.then _ _ _ _ w3
      rw [← HME.out]
      have HB := Lib.hid (M3.out.bel.trans (hb3.mono M3.out.bel.size))
      clear rx hb3 EQ EG M3
      go_wp2_with fail
      go_ret
      exact ⟨rfl, HB.out⟩
set_option maxRecDepth 100000 in
set_option maxHeartbeats 1600000 in
theorem right_none {m : Sough.Msg} (w : World) (hwf : m.Wf) (hne : Sough.flds (m.v 0) = []) :
    Calls Try.prog 38 #[.agg (msgC m)] w fun e w' => e = .returned (.bool false) ∧ Below w.heap.size w w' := by
  have HNE := Lib.hid hne
  have hk : (Lit.int .i64 (m.v 0)).wf = true := WalkArith.wf_i64 (hwf.ints 0 (by simp))
  have HK := Lib.hid hk
  have M0 : Hid (Mem w [(w.heap.size, .cells (msgC m) 34 (0, 0))] (w.alloc (.cells #[.int .i64 (m.v 0), .int .u64 (m.v 1), .int .u64 (m.v 2), .string ⟨m.offer.toArray⟩, .int .i64 (m.v 4), .int .i64 (m.v 5), .int .i64 (m.v 6), .int .i64 (m.v 7), .int .i64 (m.v 8), .int .i64 (m.v 9), .int .i64 (m.v 10), .int .u64 (m.v 11), .int .u64 (m.v 12)] 34))) := Lib.hid ((Mem.start w).alloc _)
  clear hwf hk hne
  unfold msgC
  go_enter Try.func38, Try.ntmps38
  go_wp2_with fail
  generalize w.alloc (.cells #[.int .i64 (m.v 0), .int .u64 (m.v 1), .int .u64 (m.v 2), .string ⟨m.offer.toArray⟩, .int .i64 (m.v 4), .int .i64 (m.v 5), .int .i64 (m.v 6), .int .i64 (m.v 7), .int .i64 (m.v 8), .int .i64 (m.v 9), .int .i64 (m.v 10), .int .u64 (m.v 11), .int .u64 (m.v 12)] 34) = W1 at *
  refine (fields_any (m := m) W1 (M0.out.get 0 rfl) HK.out).mono ?_
  rintro e w2 ⟨hb2, h2⟩
  rcases h2 with ⟨_, rfl⟩ | ⟨h2, _⟩
  case inr => exact absurd HNE.out h2
  have HB : Hid (Below w.heap.size w w2) := Lib.hid (M0.out.later hb2).bel
  clear hb2 M0
  go_wp2_with fail
  go_loopw [9] (fun iv wr => iv = .int .i64 0 ∧ wr = w2) (fun _ _ => 0)
  case atStart => exact ⟨rfl, rfl⟩
  case round =>
    obtain ⟨rfl, rfl⟩ := hrel
    go_wp2_with fail
    refine wp_region_later (by kernel_rfl) (by kernel_rfl) ?_
    repeat go_big_quiet_step (fail)
    refine wpQuiet_nil ?_
    rintro ⟨w3, hb3⟩
    change Exit.then _ _ _ _ w3
    have HB3 := Lib.hid (HB.out.trans (hb3.mono HB.out.size))
    clear hb3
    go_wp2_with fail
    go_ret
    exact ⟨rfl, HB3.out⟩
theorem right_as {m : Sough.Msg} {b : Bool} (hb : m.right = b) (w : World) (hwf : m.Wf) : Calls Try.prog 38 #[.agg (msgC m)] w fun e w' => e = .returned (.bool b) ∧ Below w.heap.size w w' := by
  subst hb
  by_cases hne : Sough.flds (m.v 0) = []
  · have : m.right = false := by unfold Sough.Msg.right; rw [hne]; rfl
    rw [this]
    exact right_none w hwf hne
  · exact right_some w hwf hne
end Go.Proofs.Ytlfgempjjoclbaa
namespace Go.Proofs
open Go.Shelf
def Try.lays137_ren : Go.Shelf.Ren := ⟨fun | 137 => 46 | 217 => 70 | 266 => 84 | n => n, fun | 9 => 9 | 5 => 5 | 3 => 3 | n => n, fun | n => n⟩
theorem Try.lays137 : Go.Proofs.Lays.n137 Try.prog Try.lays137_ren := {
  mixed := by kernel_rfl
  f137 := Try.func46.trans (congrArg some (by kernel_rfl))
  f217 := Try.func70.trans (congrArg some (by kernel_rfl))
  f266 := Try.func84.trans (congrArg some (by kernel_rfl))
  t3 := Try.underlying3
  a3 := Try.isAgg3
  z3 := Try.sizeOf3
  v3 := Try.zeroValue3
  t5 := Try.underlying5
  a5 := Try.isAgg5
  z5 := Try.sizeOf5
  v5 := Try.zeroValue5
  t9 := Try.underlying9
  a9 := Try.isAgg9
  z9 := Try.sizeOf9
  v9 := Try.zeroValue9 }
open Go.RowKit in
theorem Try.strings_IndexByte (s : ByteArray) (c : Int) (w : World) :
    Calls Try.prog 46 #[.string s, .int .u8 c] w fun e w' => e = .returned (.int .i64 (Lib.indexByte s.data.toList c.toNat.toUInt8)) ∧ w' = w := Any.strings_IndexByte Try.lays137 s c w
def Try.lays129_ren : Go.Shelf.Ren := ⟨fun | 129 => 61 | n => n, fun | 53 => 32 | 3 => 3 | 4 => 4 | 46 => 143 | 5 => 5 | 9 => 9 | n => n, fun | n => n⟩
theorem Try.lays129 : Go.Proofs.Lays.n129 Try.prog Try.lays129_ren := {
  mixed := by kernel_rfl
  f129 := Try.func61.trans (congrArg some (by kernel_rfl))
  t3 := Try.underlying3
  a3 := Try.isAgg3
  z3 := Try.sizeOf3
  v3 := Try.zeroValue3
  t4 := Try.underlying4
  a4 := Try.isAgg4
  z4 := Try.sizeOf4
  v4 := Try.zeroValue4
  t5 := Try.underlying5
  a5 := Try.isAgg5
  z5 := Try.sizeOf5
  v5 := Try.zeroValue5
  t9 := Try.underlying9
  a9 := Try.isAgg9
  z9 := Try.sizeOf9
  v9 := Try.zeroValue9
  t46 := Try.underlying143
  a46 := Try.isAgg143
  z46 := Try.sizeOf143
  v46 := Try.zeroValue143
  t53 := Try.underlying32
  a53 := Try.isAgg32
  z53 := Try.sizeOf32
  v53 := Try.zeroValue32 }
theorem Try.bits_Len64 (x : Int) (w : World) (h0 : 0 ≤ x) (h1 : x ≤ 18446744073709551615) :
    Calls Try.prog 61 #[.int .u64 x] w fun e w' => e = .returned (.int .i64 (Lib.bitLen x.toNat)) ∧ w' = w := Any.bits_Len64 Try.lays129 x w h0 h1
end Go.Proofs
namespace Go.Proofs.Ytlfgempjjoclbaa
open Go.RowKit
def GetRel (s : ByteArray) (k j n : Nat) : Prop := Sough.getL k 0 0 (s.data.toList.drop k) = Sough.getL k (j - k) n (s.data.toList.drop j)
theorem toList_get (s : ByteArray) (j : Nat) (h : j < s.size) : s.data.toList[j]'(by simpa using h) = s[j] := by rw [Array.getElem_toList]; rfl
theorem drop_get (s : ByteArray) (j : Nat) (h : j < s.size) : s.data.toList.drop j = s[j] :: s.data.toList.drop (j + 1) := by
  rw [List.drop_eq_getElem_cons (by simpa using h), toList_get s j h]
theorem GetRel.err {s : ByteArray} {k j n : Nat} (h : GetRel s k j n) (hj : j < s.size) (hc : (j = k ∧ s[j].toNat = 128) ∨ 144115188075855871 < n) : Sough.getL k 0 0 (s.data.toList.drop k) = (0, 0, 3) := by
  unfold GetRel at h
  rw [h, drop_get s j hj, Sough.getL, if_pos (by rcases hc with ⟨h1, h2⟩ | h1; exact Or.inl ⟨by omega, h2⟩; exact Or.inr h1)]
theorem GetRel.done {s : ByteArray} {k j n : Nat} (h : GetRel s k j n) (_hk : k ≤ j) (hj : j < s.size) (_h1 : ¬ (j = k ∧ s[j].toNat = 128)) (_h2 : n ≤ 144115188075855871) (h3 : s[j].toNat < 128) :
    Sough.getL k 0 0 (s.data.toList.drop k) = (n * 128 + s[j].toNat % 128, j + 1, 0) := by
  unfold GetRel at h
  rw [h, drop_get s j hj, Sough.getL, if_neg (by omega), if_pos h3]
  congr 2; omega
theorem GetRel.next {s : ByteArray} {k j n : Nat} (h : GetRel s k j n) (_hk : k ≤ j) (hj : j < s.size) (_h1 : ¬ (j = k ∧ s[j].toNat = 128)) (_h2 : n ≤ 144115188075855871) (_h3 : 128 ≤ s[j].toNat) :
    GetRel s k (j + 1) (n * 128 + s[j].toNat % 128) := by
  unfold GetRel at h ⊢
  rw [h, drop_get s j hj, Sough.getL, if_neg (by omega), if_neg (by omega)]
  congr 1; omega
theorem GetRel.fin {s : ByteArray} {k j n : Nat} (h : GetRel s k j n) (hj : s.size ≤ j) : Sough.getL k 0 0 (s.data.toList.drop k) = (0, 0, 2) := by
  unfold GetRel at h
  rw [h, List.drop_eq_nil_of_le (by simpa using hj), Sough.getL]
def GetSt (s : ByteArray) (k : Nat) (nv iv : Value) : Prop := ∃ j n : Nat, k ≤ j ∧ j ≤ s.size ∧ n < 18446744073709551616 ∧ nv = .int .u64 n ∧ iv = .int .i64 j ∧ GetRel s k j n
theorem GetSt.mk {s : ByteArray} {k : Nat} {nv iv : Value} (j n : Nat) (h1 : k ≤ j) (h2 : j ≤ s.size) (h3 : n < 18446744073709551616) (h4 : nv = .int .u64 n) (h5 : iv = .int .i64 j) (h6 : GetRel s k j n) : GetSt s k nv iv :=
  ⟨j, n, h1, h2, h3, h4, h5, h6⟩
theorem GetSt.next {s : ByteArray} {k j n : Nat} (h : GetRel s k j n) (hk : k ≤ j) (hj : j < s.size) (h1 : ¬ (j = k ∧ s[j].toNat = 128)) (h2 : n ≤ 144115188075855871) (h3 : 128 ≤ s[j].toNat) :
    GetSt s k (.int .u64 ((n : Int) * 128 + (s[j].toNat : Int) % 128)) (.int .i64 ((j : Int) + 1)) :=
  GetSt.mk (j + 1) (n * 128 + s[j].toNat % 128) (by omega) (by omega) (by omega) (by push_cast; rfl) (by push_cast; rfl) (h.next hk hj h1 h2 h3)
theorem ret3_num {k1 k2 k3 : IntKind} {a b c a' b' c' : Int} (h1 : a = a') (h2 : b = b') (h3 : c = c') : Ending.returned (.tuple #[.int k1 a, .int k2 b, .int k3 c]) = .returned (.tuple #[.int k1 a', .int k2 b', .int k3 c']) := by
  rw [h1, h2, h3]
theorem getD_toList (t : ByteArray) (j : Nat) (h : j < t.size) : (t.data.toList.getD j 0) = t[j] := by
  rw [List.getD_eq_getElem?_getD, List.getElem?_eq_getElem (by simpa using h), Option.getD_some, Array.getElem_toList]; rfl
def GetSt2 (s : ByteArray) (k : Nat) (nv iv : Value) : Prop := ∃ i n : Nat, k + i ≤ s.size ∧ n < 18446744073709551616 ∧ nv = .int .u64 n ∧ iv = .int .i64 i ∧ GetRel s k (k + i) n
theorem GetSt2.mk {s : ByteArray} {k : Nat} {nv iv : Value} (i n : Nat) (h2 : k + i ≤ s.size) (h3 : n < 18446744073709551616) (h4 : nv = .int .u64 n) (h5 : iv = .int .i64 i) (h6 : GetRel s k (k + i) n) : GetSt2 s k nv iv :=
  ⟨i, n, h2, h3, h4, h5, h6⟩
theorem bitLen_small {n : Nat} (h : n ≤ 144115188075855871) : Lib.bitLen n ≤ 57 := by
  unfold Lib.bitLen
  rw [Lib.bitLenAux_fuel 57 n (by have : (2 : Nat) ^ 57 = 144115188075855872 := by decide
                                  omega) 64 (by omega)]
  have : ∀ f x, Lib.bitLenAux f x ≤ f := by
    intro f
    induction f with
    | zero => intro x; simp [Lib.bitLenAux]
    | succ f ih =>
      intro x
      simp only [Lib.bitLenAux]
      split
      · omega
      · have := ih (x / 2); omega
  exact this _ _
theorem bitLen_big {n : Nat} (h : 144115188075855871 < n) (hn : n < 18446744073709551616) : 58 ≤ Lib.bitLen n := by
  have hp : (2 : Nat) ^ 57 = 144115188075855872 := by decide
  rw [Lib.bitLen_shift 57 n (by omega) (by have : (2 : Nat) ^ 64 = 18446744073709551616 := by decide
                                           omega), hp]
  have h0 : n / 144115188075855872 ≠ 0 := by omega
  have : Lib.bitLen (n / 144115188075855872) = 1 + Lib.bitLenAux 63 (n / 144115188075855872 / 2) := by
    unfold Lib.bitLen
    rw [show (64 : Nat) = 63 + 1 from rfl, Lib.bitLenAux, if_neg h0]
  omega
theorem u8_and127 (c : Nat) (h : c < 256) : bits .and .u8 (c : Int) 127 = (c : Int) % 128 := bits_mask .u8 8 (by decide) wraps_u8 7 (by decide) c (by omega) (by omega)
theorem join7 (n c : Nat) (hn : n ≤ 144115188075855871) (hc : c < 256) : bits .or .u64 ((n : Int) * 128) (IntKind.u64.wrap (bits .and .u8 (c : Int) 127)) = (n : Int) * 128 + (c : Int) % 128 := by
  rw [u8_and127 c hc, wraps_u64 _ (by omega) (by omega)]
  exact bits_join .u64 64 (by decide) wraps_u64 7 _ _ (by omega) (by omega) (by omega) (by omega) (by omega) (by omega)
theorem GetSt2.next {s : ByteArray} {k i n : Nat} (h : GetRel s k (k + i) n) (hj : k + i < s.size) (h1 : ¬ (i = 0 ∧ s[k + i].toNat = 128)) (h2 : n ≤ 144115188075855871) (h3 : 128 ≤ s[k + i].toNat) :
    GetSt2 s k (.int .u64 (bits .or .u64 ((n : Int) * 128) (IntKind.u64.wrap (bits .and .u8 (s[k + i].toNat : Int) 127)))) (.int .i64 ((i : Int) + 1)) :=
  GetSt2.mk (i + 1) (n * 128 + s[k + i].toNat % 128) (by omega) (by omega) (by rw [join7 _ _ h2 (Sough.u8_lt _)]; push_cast; rfl) (by push_cast; rfl) (h.next (by omega) hj (by omega) h2 h3)
theorem GetSt2.next0 {s : ByteArray} {k n : Nat} (h : GetRel s k k n) (hj : k < s.size) (h1 : ¬ s[k].toNat = 128) (h2 : n ≤ 144115188075855871) (h3 : 128 ≤ s[k].toNat) :
    GetSt2 s k (.int .u64 (bits .or .u64 ((n : Int) * 128) (IntKind.u64.wrap (bits .and .u8 (s[k].toNat : Int) 127)))) (.int .i64 1) :=
  GetSt2.mk 1 (n * 128 + s[k].toNat % 128) (by omega) (by omega) (by rw [join7 _ _ h2 (Sough.u8_lt _)]; push_cast; rfl) rfl (h.next (by omega) hj (by omega) h2 h3)
theorem len64_small (n : Nat) (h : n ≤ 144115188075855871) (w : World) : Calls Try.prog 61 #[.int .u64 n] w fun e w' => ∃ m : Nat, m ≤ 57 ∧ e = .returned (.int .i64 m) ∧ w = w' :=
  (Try.bits_Len64 n w (by omega) (by omega)).mono fun _ _ ⟨he, hw⟩ => ⟨Lib.bitLen n, bitLen_small h, by rw [he]; simp, hw.symm⟩
theorem len64_big (n : Nat) (h : 144115188075855871 < n) (hn : n < 18446744073709551616) (w : World) : Calls Try.prog 61 #[.int .u64 n] w fun e w' => ∃ m : Nat, 58 ≤ m ∧ e = .returned (.int .i64 m) ∧ w = w' :=
  (Try.bits_Len64 n w (by omega) (by omega)).mono fun _ _ ⟨he, hw⟩ => ⟨Lib.bitLen n, bitLen_big h hn, by rw [he]; simp, hw.symm⟩
set_option maxRecDepth 100000 in
set_option maxHeartbeats 800000 in
theorem get_walk (s : ByteArray) (k : Nat) (w : World) (hs : s.size ≤ maxLen) (k1 : k ≤ s.size) :
    Calls Try.prog 44 #[.string s, .int .i64 k] w fun e w' => e = .returned (.tuple #[.int .u64 (Sough.getL k 0 0 (s.data.toList.drop k)).1, .int .i64 (Sough.getL k 0 0 (s.data.toList.drop k)).2.1, .int .i64 (Sough.getL k 0 0 (s.data.toList.drop k)).2.2]) ∧ Below w.heap.size w w' := by
  unfold maxLen at hs
  have hcv := fun (w : World) (t : ByteArray) => Lib.run_convert_string_bytes (P := Try.prog) w 9 60 5 t Try.underlying9 Try.underlying60 Try.underlying5
  obtain ⟨W1, hW1⟩ : ∃ W1, W1 = Lib.bytesWorld w 5 (s.extract k s.size) := ⟨_, rfl⟩
  have hcell : ∀ i (h : k + i < s.size), W1.cell? ⟨w.heap.size, i, none⟩ = some (.int .u8 (s[k + i].toNat)) := by
    intro i h
    rw [hW1, Lib.bytesWorld_cell _ _ _ _ (by simp; omega), getD_toList _ _ (by simp; omega)]
    simp [ByteArray.getElem_extract]
  have hbel : Below w.heap.size w W1 := by
    rw [hW1]
    exact Joins.below_bytesWorld _ _ _ _ (Nat.le_refl _)
  have HW := Lib.hid hW1; have HC := Lib.hid hcell; have HB := Lib.hid hbel; clear hW1 hcell hbel
  have d0 : decide ((k : Int) < 0) = false := by simp
  have d1 : decide (s.size < k) = false := by simpa using k1
  go_enter Try.func44, Try.ntmps44
  go_wp2
  rw [← HW.out]
  clear HW
  go_loopw [7, 23] (fun nv iv wr => GetSt2 s k nv iv ∧ W1 = wr) (fun _ i _ => s.size - (intOf i).toNat)
  case atStart => exact ⟨GetSt2.mk 0 0 (by omega) (by omega) rfl rfl (by simp [GetRel]), rfl⟩
  case round =>
    obtain ⟨⟨i, n, hj, hn, rfl, rfl, hr⟩, rfl⟩ := hrel
    have HN := Lib.hid hn
    have HR := Lib.hid hr; clear hr
    by_cases hlt : k + i < s.size
    · have hb : s[k + i].toNat < 256 := Sough.u8_lt _
      have hc := HC.out i hlt
      rcases Nat.lt_or_ge 144115188075855871 n with hbig | hbig
      · have HBIG := Lib.hid hbig; clear hbig hn
        go_wp2_with (go_at_call 61; refine (len64_big _ HBIG.out HN.out _).mono ?_; rintro e w' ⟨m, hm, rfl, rfl⟩)
        all_goals (go_ret3; refine ⟨?_, HB.out⟩; rw [HR.out.err hlt (Or.inr HBIG.out)]; rfl)
      · rcases Nat.eq_zero_or_pos i with rfl | hi
        · clear hn
          simp only [Nat.add_zero] at hb hlt
          have HR2 := Lib.hid (show GetRel s k k n from HR.out); clear HR
          go_wp2_with (go_at_call 61; refine (len64_small _ hbig _).mono ?_; rintro e w' ⟨m, hm, rfl, rfl⟩)
          all_goals first
            | (go_ret3; refine ⟨?_, HB.out⟩; rw [HR2.out.err hlt (by first | omega | (have hor := ‹(_ == _) = true ∨ _›; rw [beq_iff_eq] at hor; omega))]; rfl)
            | (go_ret3; refine ⟨?_, HB.out⟩; rw [HR2.out.done (by omega) hlt (by omega) (by omega) (by omega)]; exact ret3_num (by rw [join7 _ _ hbig hb]; push_cast; rfl) (by push_cast; omega) rfl)
            | (go_roundw
               case rel => exact ⟨GetSt2.next0 HR2.out hlt (by omega) hbig (by omega), trivial⟩
               case measure => simp [intOf]; omega)
        · clear hn
          go_wp2_with (go_at_call 61; refine (len64_small _ hbig _).mono ?_; rintro e w' ⟨m, hm, rfl, rfl⟩)
          all_goals first
            | (go_ret3; refine ⟨?_, HB.out⟩; rw [HR.out.done (by omega) hlt (by omega) (by omega) (by omega)]; exact ret3_num (by rw [join7 _ _ hbig hb]; push_cast; rfl) (by push_cast; omega) rfl)
            | (go_roundw
               case rel => exact ⟨GetSt2.next HR.out hlt (by omega) hbig (by omega), trivial⟩
               case measure => simp [intOf]; omega)
    · go_wp2_with fail
      go_ret3
      rw [HR.out.fin (by omega)]
      exact ⟨rfl, HB.out⟩
end Go.Proofs.Ytlfgempjjoclbaa
namespace Sough
def dig (n many i : Nat) : Nat := n / 2 ^ (7 * (many - 1 - i)) % 128 + if i + 1 < many then 128 else 0
theorem pow7 (k : Nat) : 2 ^ (7 * k) = 128 ^ k := by rw [Nat.pow_mul]
theorem putHi_map : ∀ (f x : Nat), putHi f x = (List.range (putHi f x).length).map fun i => UInt8.ofNat (128 + x / 128 ^ ((putHi f x).length - 1 - i) % 128)
  | 0, x => by simp [putHi]
  | f + 1, x => by
    by_cases h0 : x = 0
    · subst h0; simp [putHi]
    · have ih := putHi_map f (x / 128)
      rw [putHi_succ f h0]
      simp only [List.length_append, List.length_cons, List.length_nil, Nat.zero_add, List.range_succ, List.map_append, List.map_cons, List.map_nil]
      congr 1
      · conv => lhs; rw [ih]
        refine List.map_congr_left fun i hi => ?_
        have hi' : i < (putHi f (x / 128)).length := List.mem_range.1 hi
        rw [Nat.div_div_eq_div_mul, show 128 * 128 ^ ((putHi f (x / 128)).length - 1 - i) = 128 ^ ((putHi f (x / 128)).length + 1 - 1 - i) from by
          rw [Nat.mul_comm, ← Nat.pow_succ]; congr 1; omega]
      · rw [show (putHi f (x / 128)).length + 1 - 1 - (putHi f (x / 128)).length = 0 by omega]; simp
theorem put_map (n : Nat) : put n = (List.range (put n).length).map fun i => UInt8.ofNat (dig n (put n).length i) := by
  have hl : (put n).length = (putHi 9 (n / 128)).length + 1 := by simp [put]
  rw [hl, List.range_succ, List.map_append, List.map_cons, List.map_nil]
  unfold put
  congr 1
  · conv => lhs; rw [putHi_map]
    refine List.map_congr_left fun i hi => ?_
    have hi' : i < (putHi 9 (n / 128)).length := List.mem_range.1 hi
    unfold dig
    rw [if_pos (by omega), pow7, Nat.div_div_eq_div_mul, show 128 * 128 ^ ((putHi 9 (n / 128)).length - 1 - i) = 128 ^ ((putHi 9 (n / 128)).length + 1 - 1 - i) from by
      rw [Nat.mul_comm, ← Nat.pow_succ]; congr 1; omega, Nat.add_comm]
  · unfold dig
    rw [if_neg (by omega), show (putHi 9 (n / 128)).length + 1 - 1 - (putHi 9 (n / 128)).length = 0 by omega]; simp
theorem bitLen_pos {x : Nat} (h : x ≠ 0) : 1 ≤ Go.Lib.bitLen x := by
  unfold Go.Lib.bitLen
  rw [show (64 : Nat) = 63 + 1 from rfl, Go.Lib.bitLenAux, if_neg h]
  omega
theorem bitLenAux_le : ∀ f x, Go.Lib.bitLenAux f x ≤ f := by
  intro f
  induction f with
  | zero => intro x; simp [Go.Lib.bitLenAux]
  | succ f ih =>
    intro x
    simp only [Go.Lib.bitLenAux]
    split
    · omega
    · have := ih (x / 2); omega
theorem bitLen_7 {x : Nat} (h : x < 128) : Go.Lib.bitLen x ≤ 7 := by
  unfold Go.Lib.bitLen
  rw [Go.Lib.bitLenAux_fuel 7 x (by omega) 64 (by omega)]
  exact bitLenAux_le _ _
theorem bitLen_0 : Go.Lib.bitLen 0 = 0 := by simp [Go.Lib.bitLen, Go.Lib.bitLenAux]
theorem putHi_len : ∀ (f x : Nat), x < 128 ^ f → x < 18446744073709551616 → (putHi f x).length = (Go.Lib.bitLen x + 6) / 7
  | 0, x, h, _ => by
    have : x = 0 := by simp at h; omega
    subst this; simp [putHi, bitLen_0]
  | f + 1, x, h, hx => by
    by_cases h0 : x = 0
    · subst h0; simp [putHi, bitLen_0]
    · rw [putHi_succ f h0, List.length_append, putHi_len f (x / 128) (by rw [Nat.pow_succ] at h; omega) (by omega)]
      by_cases h1 : x < 128
      · have := bitLen_7 h1
        have := bitLen_pos h0
        rw [show x / 128 = 0 by omega, bitLen_0]
        simp; omega
      · rw [Go.Lib.bitLen_shift 7 x (by omega) (by have : (2 : Nat) ^ 64 = 18446744073709551616 := by decide
                                                   omega)]
        simp; omega
theorem put_length {n : Nat} (hn : n < 18446744073709551616) : (put n).length = max 1 ((Go.Lib.bitLen n + 6) / 7) := by
  have h9 : (128 : Nat) ^ 9 = 9223372036854775808 := by decide
  have hl : (put n).length = (putHi 9 (n / 128)).length + 1 := by simp [put]
  rw [hl, putHi_len 9 _ (by omega) (by omega)]
  by_cases h1 : n < 128
  · have := bitLen_7 h1
    rw [show n / 128 = 0 by omega, bitLen_0]
    omega
  · rw [Go.Lib.bitLen_shift 7 n (by omega) (by have : (2 : Nat) ^ 64 = 18446744073709551616 := by decide
                                               omega), show (2 : Nat) ^ 7 = 128 from rfl]
    omega
theorem put_get {n i : Nat} (hi : i < (put n).length) : (put n).take (i + 1) = (put n).take i ++ [UInt8.ofNat (dig n (put n).length i)] := by
  rw [List.take_succ_eq_append_getElem hi]
  congr 2
  have h := put_map n
  have : (put n)[i] = ((List.range (put n).length).map fun i => UInt8.ofNat (dig n (put n).length i))[i]'(by simpa using hi) := by
    congr 1
  rw [this]; simp
end Sough
namespace Go.Proofs.Ytlfgempjjoclbaa
open Go.RowKit
def bytesV (l : List UInt8) : List Value := l.map fun c => .int .u8 c.toNat
structure PInv (B n many : Nat) (v : Value) (l : List UInt8) (w : World) : Prop where
  hn : w.heap[B]? = some (.cells #[.int .u64 n] 32 (0, 0))
  hm : w.heap[B + 1]? = some (.cells #[.int .i64 many] 3 (0, 0))
  hb : w.heap[B + 2]? = some (.cells #[v] 60 (0, 0))
  own : w.ownsRow (B + 3) 5 1 v l.length (bytesV l)
theorem PInv.push {B n many : Nat} {l : List UInt8} {wr w1 : World} {v v' : Value} {y : Int} (h : PInv B n many v l wr) (x : UInt8) (hy : y = (x.toNat : Int)) (tmp : Obj)
    (hown' : w1.ownsRow (B + 3) 5 1 v' (l.length + 1) (bytesV l ++ [.int .u8 y])) (hgrow : (wr.alloc tmp).grownBy w1 v.ownBlock) :
    (∃ g' cap', v' = .slice (some ⟨g', 0, none⟩) (l.length + 1) cap') ∧ w1.cell? ⟨B + 2, 0, none⟩ = some v ∧ w1.frozen? ⟨B + 2, 0, none⟩ = false ∧ PInv B n many v' (l ++ [x]) (w1.setCell ⟨B + 2, 0, none⟩ v') ∧ Below B wr (w1.setCell ⟨B + 2, 0, none⟩ v') := by
  subst hy
  have hBw := lt_of_block h.hb
  have hne : ∀ k, k < B + 3 → some k ≠ v.ownBlock := fun k hk e => by
    rcases h.own.2 with ⟨rfl, _⟩ | ⟨g, cap, cur, rfl, hg, hh, _⟩
    · simp [Value.ownBlock] at e
    · simp only [Value.ownBlock, Option.some.injEq] at e
      omega
  have keep : ∀ k, k < B + 3 → w1.heap[k]? = wr.heap[k]? := fun k hk =>
    (hgrow.block k (by simp; omega) (hne k hk)).trans (Below.heap_alloc _ _ _ (by omega))
  have hb1 := (keep (B + 2) (by omega)).trans h.hb
  have hex : ∃ g' cap', v' = .slice (some ⟨g', 0, none⟩) (l.length + 1) cap' := by
    rcases hown'.2 with ⟨_, h0⟩ | ⟨g', cap', _, h, _⟩
    · omega
    · exact ⟨g', cap', h⟩
  refine ⟨hex, cell_of_one hb1, free_of_one hb1, ⟨?_, ?_, one_setCell hb1, ?_⟩, ?_⟩
  · exact (Below.heap_setCell _ _ _ _ (by show B ≠ B + 2; omega)).trans ((keep B (by omega)).trans h.hn)
  · exact (Below.heap_setCell _ _ _ _ (by show B + 1 ≠ B + 2; omega)).trans ((keep (B + 1) (by omega)).trans h.hm)
  · have := ownsRow_setCell_below hown' (a := ⟨B + 2, 0, none⟩) (by show B + 2 < B + 3; omega) v'
    simpa [bytesV] using this
  · exact (((Below.refl B wr).alloc (by omega) tmp).grown hgrow (by simp; omega) (fun k hk => by
      rcases Nat.lt_or_ge k B with h' | h'
      · exact absurd hk.symm (hne k (by omega))
      · exact h')).setCell (by show B ≤ B + 2; omega) _
theorem info5 : (Try.prog.info? 5).map (fun i => (i.zero, i.size, i.bytes)) = some (some (.int .u8 0), 1, 1) := by kernel_rfl
open Sough (dig)
theorem dig_lt (n many i : Nat) : dig n many i < 256 := by unfold dig; split <;> omega
theorem u64_and127 (x : Nat) (h : x < 18446744073709551616) : bits .and .u64 (x : Int) 127 = (x : Int) % 128 := bits_mask .u64 64 (by decide) wraps_u64 7 (by decide) x (by omega) (by omega)
theorem u8_or_128 (y : Nat) (h : y < 128) : bits .or .u8 (y : Int) 128 = (y : Int) + 128 :=
  bits_join_low .u8 8 (by decide) wraps_u8 7 y 128 (by omega) (by omega) (by omega) (by decide) (by decide) (by decide)
theorem dig_last {n many i : Nat} (hn : n < 18446744073709551616) (h : many ≤ i + 1) : bits .and .u64 (n : Int) 127 % 256 = ((UInt8.ofNat (dig n many i)).toNat : Int) := by
  rw [u64_and127 _ hn, Sough.u8_of _ (dig_lt _ _ _)]
  unfold dig
  rw [if_neg (by omega), show many - 1 - i = 0 by omega]
  clear hn h
  simp only [Nat.mul_zero, Nat.pow_zero, Nat.div_one, Nat.add_zero]
  omega
theorem dig_more {n many i : Nat} (hn : n < 18446744073709551616) (h : i + 1 < many) : bits .or .u8 (bits .and .u64 ((n : Int) / 2 ^ (7 * (many - 1 - i))) 127 % 256) 128 = ((UInt8.ofNat (dig n many i)).toNat : Int) := by
  have hp : (n : Int) / 2 ^ (7 * (many - 1 - i)) = ((n / 2 ^ (7 * (many - 1 - i)) : Nat) : Int) := by push_cast; rfl
  have hq : ((n / 2 ^ (7 * (many - 1 - i)) : Nat) : Int) % 128 % 256 = ((n / 2 ^ (7 * (many - 1 - i)) % 128 : Nat) : Int) := by omega
  rw [hp, u64_and127 _ (Nat.lt_of_le_of_lt (Nat.div_le_self _ _) hn), hq, u8_or_128 _ (by omega), Sough.u8_of _ (dig_lt _ _ _)]
  unfold dig
  rw [if_pos h]
  exact (Int.natCast_add _ 128).symm
def Put1Post (B n many : Nat) (l : List UInt8) (c : UInt8) (w : World) (e : Ending) (w' : World) : Prop :=
  e = .returned (.tuple #[]) ∧ (∃ v', PInv B n many v' (l ++ [c]) w') ∧ Below B w w'
set_option maxRecDepth 100000 in
set_option maxHeartbeats 800000 in
theorem put1_walk (B n many i : Nat) (v : Value) (l : List UInt8) (w : World) (hn : n < 18446744073709551616) (h : PInv B n many v l w) (hl : l.length ≤ 100) (hm : many ≤ 10) (hi : i < many) :
    Calls Try.prog 62 #[.int .i64 i, .pointer (some ⟨B, 0, none⟩), .pointer (some ⟨B + 1, 0, none⟩), .pointer (some ⟨B + 2, 0, none⟩)] w (Put1Post B n many l (UInt8.ofNat (dig n many i)) w) := by
  obtain ⟨i0, hinf, hz0, hz1, hz2⟩ := info_parts info5
  have HN := Lib.hid hn; clear hn
  have c0 := cell_of_one h.hn
  have c1 := cell_of_one h.hm
  have c2 := cell_of_one h.hb
  have hown := h.own
  have hsz : B + 2 < w.heap.size := lt_of_block h.hb
  have H := Lib.hid h; clear h
  rcases Nat.lt_or_ge (i + 1) many with hlt | hlt
  · go_enter Try.func62, Try.ntmps62
    go_wp2_with (at_builtin; refine wpList_append_own _ rfl _ _ 60 rfl (B + 3) 5 i0 (.int .u8 0) 1 1 Try.underlying60 hinf hz0 hz1 hz2 rfl (by decide) _ _ _ rfl (hown.alloc _) ⟨w.heap.size, 0, none⟩ 1 1 [.int .u8 (bits .or .u8 (bits .and .u64 ((n : Int) / 2 ^ (7 * (many - 1 - i))) 127 % 256) 128)] rfl rfl ?c1 ?c2 ?c3 ?c4 ?c5 ?_)
    case c1 =>
      intro j u hj
      match j, hj with
      | 0, hj => simp at hj; subst hj; simp [Addr.add]
    case c2 => intro u hu; simp at hu; subst hu; rfl
    case c3 => unfold maxLen; omega
    case c4 => omega
    case c5 => simp; omega
    intro v' w2 hown' hgrow' _
    obtain ⟨⟨g', cap', rfl⟩, cW2, fW2, hinv', hbel⟩ := H.out.push (UInt8.ofNat (dig n many i)) (dig_more HN.out hlt) _ hown' hgrow'
    have HI := Lib.hid hinv'; have HB := Lib.hid hbel
    clear hown' hgrow' hown hinv' hbel
    go_wp2
    go_end0
    exact ⟨rfl, ⟨_, HI.out⟩, HB.out⟩
  · go_enter Try.func62, Try.ntmps62
    go_wp2_with (at_builtin; refine wpList_append_own _ rfl _ _ 60 rfl (B + 3) 5 i0 (.int .u8 0) 1 1 Try.underlying60 hinf hz0 hz1 hz2 rfl (by decide) _ _ _ rfl (hown.alloc _) ⟨w.heap.size, 0, none⟩ 1 1 [.int .u8 (bits .and .u64 (n : Int) 127 % 256)] rfl rfl ?d1 ?d2 ?d3 ?d4 ?d5 ?_)
    case d1 =>
      intro j u hj
      match j, hj with
      | 0, hj => simp at hj; subst hj; simp [Addr.add]
    case d2 => intro u hu; simp at hu; subst hu; rfl
    case d3 => unfold maxLen; omega
    case d4 => omega
    case d5 => simp; omega
    intro v' w2 hown' hgrow' _
    obtain ⟨⟨g', cap', rfl⟩, cW2, fW2, hinv', hbel⟩ := H.out.push (UInt8.ofNat (dig n many i)) (dig_last HN.out hlt) _ hown' hgrow'
    have HI := Lib.hid hinv'; have HB := Lib.hid hbel
    clear hown' hgrow' hown hinv' hbel
    go_wp2
    go_end0
    exact ⟨rfl, ⟨_, HI.out⟩, HB.out⟩
theorem len64_any (n : Nat) (hn : n < 18446744073709551616) (w : World) : Calls Try.prog 61 #[.int .u64 n] w fun e w' => ∃ m : Nat, m ≤ 64 ∧ (Sough.put n).length = max 1 ((m + 6) / 7) ∧ e = .returned (.int .i64 m) ∧ w = w' :=
  (Try.bits_Len64 n w (by omega) (by omega)).mono fun _ _ ⟨he, hw⟩ => ⟨Lib.bitLen n, Sough.bitLenAux_le _ _, Sough.put_length hn, by rw [he]; simp, hw.symm⟩
def PutSt (B n : Nat) (w : World) (iv : Value) (wr : World) : Prop := ∃ k : Nat, k ≤ (Sough.put n).length ∧ iv = .int .i64 k ∧ (∃ v, PInv B n (Sough.put n).length v ((Sough.put n).take k) wr) ∧ Below B w wr
theorem bytesRow_of_own {w : World} {B : Nat} {v : Value} {l : List UInt8} (h : w.ownsRow B 5 1 v l.length (bytesV l)) (h0 : 0 < l.length) :
    ∃ g cap, v = .slice (some ⟨g, 0, none⟩) l.length cap ∧ ∀ j (hj : j < l.length), w.cell? ((⟨g, 0, none⟩ : Addr).add j) = some (.int .u8 (l[j].toNat : Int)) := by
  have hc := fun g (hg : v.ownBlock = some g) => h.cells hg
  rcases h.2 with ⟨_, h1⟩ | ⟨g, cap, cur, hv, _⟩
  · omega
  · refine ⟨g, cap, hv, fun j hj => hc g (by rw [hv]; rfl) j _ ?_⟩
    simp [bytesV, hj]
set_option maxRecDepth 100000 in
set_option maxHeartbeats 800000 in
theorem put_walk (n : Nat) (w : World) (hn : n < 18446744073709551616) :
    Calls Try.prog 37 #[.int .u64 n] w fun e w' => e = .returned (.string ⟨(Sough.put n).toArray⟩) ∧ Below w.heap.size w w' := by
  have hL := Sough.put_len n
  have HN := Lib.hid hn; clear hn
  go_enter Try.func37, Try.ntmps37
  go_wp2_with (go_at_call 61; refine (len64_any _ HN.out _).mono ?_; rintro e w' ⟨m, hm, hml, rfl, rfl⟩; have HML := Lib.hid hml; clear hml)
  rw [show max 1 (((m : Int) + 7 - 1) / 7) = ((Sough.put n).length : Int) from by rw [HML.out]; omega]
  clear HML hm
  go_loopw [15] (fun iv wr => PutSt w.heap.size n w iv wr) (fun i _ => (Sough.put n).length - (intOf i).toNat)
  case atStart =>
    refine ⟨0, by omega, rfl, ⟨_, ⟨?_, ?_, ?_, World.ownsRow_nil _ _ _ _⟩⟩, (((Below.refl _ _).alloc (Nat.le_refl _) _).alloc (by simp) _).alloc (by simp; omega) _⟩
    · rw [Below.heap_alloc _ _ _ (by simp; omega), Below.heap_alloc _ _ _ (by simp)]; exact heap_alloc_new _ _
    · rw [Below.heap_alloc _ _ _ (by simp)]; simpa using heap_alloc_new (w.alloc _) _
    · simpa using heap_alloc_new ((w.alloc _).alloc _) _
  case round =>
    obtain ⟨k, hk, rfl, ⟨v, hinv⟩, hbel⟩ := hrel
    have HI := Lib.hid hinv; have HB := Lib.hid hbel
    have hb2 := cell_of_one hinv.hb
    by_cases hlt : k < (Sough.put n).length
    · have hll : ((Sough.put n).take k).length ≤ 100 := by simp; omega
      clear hinv hbel
      go_wp2_with (go_at_call 62; refine (put1_walk w.heap.size n _ k v _ _ HN.out HI.out hll hL.2 hlt).mono ?_; rintro e w' ⟨rfl, hp, hb'⟩; have HP := Lib.hid hp; have HB' := Lib.hid hb'; clear hp hb')
      go_roundw
      case rel => exact ⟨k + 1, hlt, by go_num, by rw [Sough.put_get hlt]; exact HP.out, HB.out.trans HB'.out⟩
      case measure => simp [intOf]; omega
    · rw [List.take_of_length_le (by omega)] at hinv
      obtain ⟨g, cap, rfl, hcells⟩ := bytesRow_of_own hinv.own (by omega)
      have hconv := run_convert_bytes_back (P := Try.prog) wr 60 9 5 ⟨g, 0, none⟩ cap _ Try.underlying60 Try.underlying5 Try.underlying9 hcells
      clear hcells hinv hbel
      go_wp2
      go_ret
      exact ⟨rfl, HB.out⟩
end Go.Proofs.Ytlfgempjjoclbaa
namespace Go.Proofs.Ytlfgempjjoclbaa
open Go.RowKit
set_option maxRecDepth 100000 in
set_option maxHeartbeats 400000 in
theorem get_out (s : ByteArray) (k : Int) (w : World) (hs : s.size ≤ maxLen) (h : k < 0 ∨ (s.size : Int) < k) :
    Calls Try.prog 44 #[.string s, .int .i64 k] w fun e w' => e = .returned (.tuple #[.int .u64 0, .int .i64 0, .int .i64 1]) ∧ w = w' := by
  unfold maxLen at hs
  rcases h with h | h
  · go_enter Try.func44, Try.ntmps44
    go_wp2
    go_ret3
    exact ⟨rfl, rfl⟩
  · have h0 : ¬ k < 0 := by omega
    go_enter Try.func44, Try.ntmps44
    go_wp2
    go_ret3
    exact ⟨rfl, rfl⟩
theorem get_as {s : ByteArray} {k : Int} {n p er : Nat} (hg : Sough.get s.data.toList k = (n, p, er)) (w : World) (hs : s.size ≤ maxLen) :
    Calls Try.prog 44 #[.string s, .int .i64 k] w fun e w' => e = .returned (.tuple #[.int .u64 n, .int .i64 p, .int .i64 er]) ∧ Below w.heap.size w w' := by
  unfold Sough.get at hg
  split at hg
  · rename_i h
    simp only [Prod.mk.injEq] at hg
    obtain ⟨rfl, rfl, rfl⟩ := hg
    exact (get_out s k w hs (by simpa using h)).mono fun _ _ ⟨he, hw⟩ => ⟨he, hw ▸ Below.refl _ _⟩
  · rename_i h
    obtain ⟨j, rfl⟩ := Int.eq_ofNat_of_zero_le (show 0 ≤ k by omega)
    have hw := get_walk s j w hs (by simp at h; omega)
    simp only [Int.toNat_natCast] at hg
    rw [hg] at hw
    exact hw
theorem vput_any (k : Int) (h0 : 0 ≤ k) (h1 : k < 18446744073709551616) (w : World) :
    Calls Try.prog 37 #[.int .u64 k] w fun e w' => e = .returned (.string ⟨(Sough.put k.toNat).toArray⟩) ∧ Below w.heap.size w w' := by
  obtain ⟨n, rfl⟩ := Int.eq_ofNat_of_zero_le h0
  exact put_walk n w (by omega)
end Go.Proofs.Ytlfgempjjoclbaa
