/- A range over a function whose iterator keeps its state in a captured variable (a cell that it writes between two rounds), calls yield a known number of times, with arguments that hang on the round's number alone, and whose body never leaves the loop. No program in sight. -/
import Derived.RangeFuncNested
import Derived.RangeFuncBound
import Derived.RangeFuncCalls
import Derived.RangeFuncLeaves
namespace Go
open Go.RowKit

/-- What the iterator may do between two rounds: write its own cell; lay new blocks. -/
structure Steady (Bc : Nat) (J : Nat → World → Prop) : Prop where
  cell : ∀ k A v, J k A → J k (A.setCell ⟨Bc, 0, none⟩ v)
  more : ∀ k A A', J k A → A.grownBy A' none → J k A'

/-- The iterator's contract: round k is called with 'encs k'; each round that goes on keeps 'Kp'; there are N rounds. -/
def CountIt (F : Fence) (n : Nat) (P : Program) (g : Nat) (lb : Array Value) (encs : Nat → Array Value) (Kp : World → World → Prop) (N Bc : Nat) (w : World) : Prop :=
  ∀ (l : Nat) (J : Nat → World → Prop) (W : World), Kp w W → Steady Bc J →
    (∀ k W1, J k W1 → k < N → YieldAt F (n - 1) P l (encs k) W1 fun e W' => e = .returned (.bool true) ∧ J (k + 1) W' ∧ Kp W1 W') →
    J 0 W → CallsIn F n P g (#[.func (.yield l) #[] #[]] ++ lb) W fun e W' => (∃ v, e = .returned v) ∧ J N W'

/-- What a round of the body leaves. -/
def countPost (B : Nat) (Kp : World → World → Prop) (I : Nat → World → Prop) (k : Nat) (W : World) : Exit → Act → World → Prop
  | .normal, _, W' => KeepsFrom B W W' ∧ Kp W W' ∧ I k W'
  | _, _, _ => False

variable {F : Fence} {n : Nat} {P : Program}

theorem wpIn_rangeFunc_count {g : Operand} {ps : Array Tmp} {assign body : Code} {Q : Exit → Act → World → Prop} {a : Act} {w : World}
    (hro : F.round = none) (h1 : 1 ≤ n) {gf : Nat} {lb : Array Value} (hg : a.eval g = .func (.func gf) #[] lb) (hFg : F.fn gf) (eg : ∀ args w, (callFunc gf args).run P w = .ok (.enter gf args) w)
    {encs : Nat → Array Value} {Kp : World → World → Prop} {N Bc : Nat} {w0 : World} (hseq : CountIt F (n - 1) P gf lb encs Kp N Bc w0)
    (hBc : Bc < w.heap.size) (hK0 : Kp w0 w) (hKt : ∀ {A B C : World}, Kp A B → Kp B C → Kp A C) (hKa : ∀ (W : World) (o : Obj), w.heap.size ≤ W.heap.size → Kp W (W.alloc o)) (hKb : ∀ (W : World) (l : Nat) (o : Obj), w.heap.size ≤ l → Kp W (W.putObj l o))
    (hps : ∀ k, (encs k).size = ps.size)
    (I : Nat → World → Prop) (hI : Steady Bc I) (hIo : ∀ k A l o', I k A → w.heap.size ≤ l → (∃ o, A.heap[l]? = some o ∧ o.isCells = false) → I k (A.putObj l o')) (h0 : I 0 w)
    (hround : ∀ (l k : Nat) (W X : World), I k X → k < N → w.heap.size + 2 ≤ X.heap.size →
      assign.wpIn (F.inRound l) (n - 1 - 1) P (Exit.then (fun a1 W1 => W1 = W ∧ body.wpIn (F.inRound l) (n - 1 - 1) P (countPost w.heap.size Kp I (k + 1) X) a1 X) (fun _ _ _ => False))
        { tmps := (ps.zip (encs k)).foldl (fun t (p, v) => t.setIfInBounds p v) a.tmps, defers := [] } W)
    (hdone : ∀ (D : Nat) (W : World), w.heap.size ≤ D → I N W → W.heap[D]? = some (.deferred (some [])) → Q .normal { a with defers := { target := .collected D, args := #[] } :: a.defers } W) :
    (Code.rangeFunc g ps assign body).wpIn F n P Q a w := by
  refine wpIn_rangeFunc ?_
  intro fn hfn
  rw [hro]
  -- the loop's record, and the two blocks that the statement lays
  let rec_ : LoopState → Option Code → Loop := fun st pe => { state := st, pending := pe, fn, tmps := a.tmps, params := ps, assign, body, defers := w.heap.size }
  obtain ⟨R, hR⟩ : ∃ R : LoopState → Option Code → Loop, R = rec_ := ⟨_, rfl⟩
  obtain ⟨V, hV⟩ : ∃ V, V = (w.alloc (.deferred (some []))).alloc (.loop (R .ready none)) := ⟨_, rfl⟩
  have vL : V.heap[w.heap.size + 1]? = some (.loop (R .ready none)) := by
    have := World.alloc_heap_new (w.alloc (.deferred (some []))) (.loop (R .ready none))
    rw [World.size_alloc] at this
    rw [hV]; exact this
  have vD : V.heap[w.heap.size]? = some (.deferred (some [])) := by
    rw [hV]; exact (Below.heap_alloc _ _ _ (by simp)).trans (World.alloc_heap_new w _)
  have vI : I 0 V := by
    rw [hV]; exact hI.more _ _ _ (hI.more _ _ _ h0 (World.grownBy_alloc _ _ _)) (World.grownBy_alloc _ _ _)
  have vK : Kp w0 V := by
    rw [hV]; exact hKt (hKt hK0 (hKa _ _ (Nat.le_refl _))) (hKa _ _ (by simp))
  refine ⟨w.heap.size + 1, [{ target := .collected w.heap.size, args := #[] }], V, { target := .fn (.func gf) lb, args := #[.func (.yield (w.heap.size + 1)) #[] #[]] }, V, gf,
    #[.func (.yield (w.heap.size + 1)) #[] #[]] ++ lb, V, ?_, ?_, ?_, ?_, fun _ => h1, ?_⟩
  · rw [hV, hR]; exact run_enterLoop_outer _ _ _ _ _
  · simp only [resolve, hg]
    simp [go_sem]
  · intro f' hf'; simp [Target.leads] at hf'; subst hf'; exact hFg
  · simp [invoke, go_sem, eg]
  · let J : Nat → World → Prop := fun k W => I k W ∧ W.heap[w.heap.size + 1]? = some (.loop (R .ready none)) ∧ W.heap[w.heap.size]? = some (.deferred (some []))
    have hJ : Steady Bc J := by
      refine ⟨fun k A v ⟨h, hl, hd⟩ => ⟨hI.cell _ _ _ h, ?_, ?_⟩, fun k A A' ⟨h, hl, hd⟩ hgr => ⟨hI.more _ _ _ h hgr, ?_, ?_⟩⟩
      · exact (Below.heap_setCell _ _ _ _ (by show w.heap.size + 1 ≠ Bc; omega)).trans hl
      · exact (Below.heap_setCell _ _ _ _ (by show w.heap.size ≠ Bc; omega)).trans hd
      · exact (hgr.block _ (Array.getElem?_eq_some_iff.1 hl).1 (by simp)).trans hl
      · exact (hgr.block _ (Array.getElem?_eq_some_iff.1 hd).1 (by simp)).trans hd
    refine (hseq (w.heap.size + 1) J V vK hJ ?_ ⟨vI, vL, vD⟩).mono ?_
    · rintro k W ⟨hi, hl, hd⟩ hk
      have hlt : w.heap.size + 1 < W.heap.size := (Array.getElem?_eq_some_iff.1 hl).1
      have hy := run_yield (P := P) (args := encs k) hl (by rw [hR]; exact hps k)
      rw [hR] at hy
      obtain ⟨X, hX⟩ : ∃ X, X = W.putObj (w.heap.size + 1) (.loop { R .ready none with state := .busy }) := ⟨_, rfl⟩
      have xL : X.heap[w.heap.size + 1]? = some (.loop { R .ready none with state := .busy }) := by rw [hX]; exact World.putObj_heap_same hlt
      have xD : X.heap[w.heap.size]? = some (.deferred (some [])) := by rw [hX]; exact (World.putObj_heap_other (by omega)).trans hd
      have xI : I k X := by rw [hX]; exact hIo _ _ _ _ hi (by omega) ⟨_, hl, rfl⟩
      have xK : Kp W X := by rw [hX]; exact hKb _ _ _ (by omega)
      refine ⟨fn, _, assign, body, hy, roundIn_of_wpIn hfn (wpIn_mono (hround _ k W X xI hk (by rw [hX]; simp; omega)) ?_)⟩
      intro e0 a0 W0 hp0
      cases e0 with
      | ret => exact hp0
      | exit id => exact hp0
      | goto t => exact hp0
      | panic ch => exact hp0
      | outgrown => exact hp0
      | normal =>
      obtain ⟨rfl, hbd⟩ := hp0
      refine ⟨X, by rw [hX]; exact run_beginRound hl (by rw [hR]), wpIn_mono hbd ?_⟩
      rintro e a3 Y hp
      cases e with
      | normal =>
        obtain ⟨hf, hkp, hi3⟩ := hp
        have yL := hf.same _ _ (by omega) xL rfl
        have yD := hf.same _ _ (Nat.le_refl _) xD rfl
        have he := run_endRound (P := P) none yL
        refine ⟨_, _, he, rfl, ⟨hIo _ _ _ _ hi3 (by omega) ⟨_, yL, rfl⟩, ?_, (World.putObj_heap_other (by omega)).trans yD⟩, hKt (hKt xK hkp) (hKb _ _ _ (by omega))⟩
        have := World.putObj_heap_same (w := Y) (o := .loop { { R .ready none with state := LoopState.busy } with state := if (none : Option Code).isNone then .ready else .done, pending := none }) (Array.getElem?_eq_some_iff.1 yL).1
        rw [this, hR]
        rfl
      | ret => exact hp.elim
      | exit id => exact hp.elim
      | goto t => exact hp.elim
      | panic ch => exact hp.elim
      | outgrown => exact hp.elim
    · rintro e W2 ⟨⟨v, rfl⟩, hi, hl, hd⟩
      refine ⟨none, _, ?_, hdone _ _ (Nat.le_refl _) (hIo _ _ (w.heap.size + 1) (.loop { R .ready none with state := .exhausted }) hi (by omega) ⟨_, hl, rfl⟩) ((World.putObj_heap_other (by omega)).trans hd)⟩
      have := run_endLoop (P := P) hl (by rw [hR]; simp [rec_])
      rw [this, hR]

end Go
