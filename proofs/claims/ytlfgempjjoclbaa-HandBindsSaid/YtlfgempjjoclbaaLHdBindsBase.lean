/- Plain law of HandBinds, and what its drawn statement leaves. (Printed by wip/tools/mkbinds.py.) -/
import Derived.Test.YtlfgempjjoclbaaG6
import Derived.Test.YtlfgempjjoclbaaG1
namespace Sough
def bd1 := beginR twoS me0 peer0 (reqM 7 [3, 1] 0) 5 7 8 9
def bd2 := openR bd1.1 me1 [peer1] [3, 2, 1] bd1.2.1
def bd3 := answerR bd2.1 bd2.2.1 9 7 10 11
def mset (m : Msg) (c : Nat) (k : Int) : Msg := ⟨fun i => if i = c then k else m.v i, m.offer⟩
def bdX (w k : Nat) : Msg := if w = 0 then ⟨bd1.2.1.v, [1]⟩ else if w = 1 then mset bd1.2.1 4 1 else if w < 7 then mset bd1.2.1 (w + 4) k else bd1.2.1
def bdY (w k : Nat) : Msg := if w = 7 then mset bd3.2.1 6 k else if w = 8 then mset bd3.2.1 9 k else bd3.2.1
def bd4 (w k : Nat) := openR bd3.1 me1 [peer1] [3, 2, 1] (bdX w k)
def bd5 (w k : Nat) := finishR (bd4 w k).1 me0 bd1.2.2.1 (bdY w k)
set_option maxRecDepth 100000 in
theorem bd_all : bd1.2.2.2 = 0 ∧ bd2.2.2 = 0 ∧ bd3.2.2.2 = 0 ∧ bd3.1.l.length = 74 := by decide +kernel
def bdP (w k : Nat) : Prop := ((bd4 w k).2.2 = 0 ↔ (bdX w k).same bd1.2.1 = true) ∧ ((bd4 w k).2.2 = 0 ∨ (bd4 w k).2.1 = zeroO) ∧ ((bd5 w k).2.2 = 0 ↔ (bdY w k).same bd3.2.1 = true) ∧ ((bd5 w k).2.2 = 0 ∨ (bd5 w k).2.1 = zeroS)
instance {w k : Nat} : Decidable (bdP w k) := by unfold bdP; infer_instance
theorem same_refl (m : Msg) : m.same m = true := by simp [Msg.same, cellsN]
theorem mset_wf {m : Msg} (h : m.Wf) {c : Nat} (hc : c = 4 ∨ c = 6 ∨ c = 7 ∨ c = 8 ∨ c = 9 ∨ c = 10) {k : Int} (hk : Int64 k) : (mset m c k).Wf := by
  refine ⟨fun i hi => ?_, fun i hi => ?_, h.text⟩
  · unfold mset; simp only; split
    · exact hk
    · exact h.ints i hi
  · unfold mset; simp only; split
    · subst_vars; simp at hi; omega
    · exact h.nats i hi
end Sough
namespace Go.Proofs.Ytlfgempjjoclbaa
open Go.RowKit Go.Maps Go.ChangeMaps
theorem SF.adds {S : List Nat} {w0 W x : World} {p : Nat} {st : Sough.Store} {L K : List (Nat × Obj)} (h : SF S w0 W p st L) (hb : Below W.heap.size W x) (hK : ∀ y ∈ K, x.heap[y.1]? = some y.2 ∧ W.heap.size ≤ y.1) (hn : (K.map (·.1)).Nodup) : SF S w0 x p st (K ++ L) := by
  obtain ⟨S', h1, h2, h3⟩ := h.store
  have hl := h.later hb
  refine ⟨⟨S', h1.later hb, h2, fun y hy => ?_⟩, h.ok, hl.tur, fun y hy => ?_, ?_⟩
  · rcases List.mem_append.1 hy with hy | hy
    · intro hi; have := h1.lt _ hi; have := (hK y hy).2; omega
    · exact h3 y hy
  · rcases List.mem_append.1 hy with hy | hy
    · exact ⟨(hK y hy).1, Nat.le_trans h.tur.size (hK y hy).2⟩
    · exact hl.blk y hy
  · rw [List.map_append, List.nodup_append]
    refine ⟨hn, h.apart, fun a ha b hb2 e => ?_⟩
    obtain ⟨y, hy, rfl⟩ := List.mem_map.1 ha
    obtain ⟨z, hz, rfl⟩ := List.mem_map.1 hb2
    have := lt_of_block (h.blk z hz).1
    have := (hK y hy).2
    omega
theorem Turned.set1 {g : Nat} {x y : World} (h : Turned [g] x y) (i : Nat) (v : Value) : Turned [g] x (y.setCell ⟨g, i, none⟩ v) := h.trans (Turned.setCell (S := [g]) (w := y) (a := ⟨g, i, none⟩) (by simp) v) (fun j hj => .inl hj)
theorem sto13 {x : World} {g : Nat} {T : TypeId} {z0 z1 z2 z3 z4 z5 z6 z7 z8 z9 z10 z11 z12 : Value} (h : x.heap[g]? = some (.cells #[z0, z1, z2, z3, z4, z5, z6, z7, z8, z9, z10, z11, z12] T (0, 0))) (v0 v1 v2 v3 v4 v5 v6 v7 v8 v9 v10 v11 v12 : Value) :
    (((((((((((((x.setCell ⟨g, 0, none⟩ v0).setCell ⟨g, 1, none⟩ v1).setCell ⟨g, 2, none⟩ v2).setCell ⟨g, 3, none⟩ v3).setCell ⟨g, 4, none⟩ v4).setCell ⟨g, 5, none⟩ v5).setCell ⟨g, 6, none⟩ v6).setCell ⟨g, 7, none⟩ v7).setCell ⟨g, 8, none⟩ v8).setCell ⟨g, 9, none⟩ v9).setCell ⟨g, 10, none⟩ v10).setCell ⟨g, 11, none⟩ v11).setCell ⟨g, 12, none⟩ v12).heap[g]? = some (.cells #[v0, v1, v2, v3, v4, v5, v6, v7, v8, v9, v10, v11, v12] T (0, 0)) ∧
    Turned [g] x (((((((((((((x.setCell ⟨g, 0, none⟩ v0).setCell ⟨g, 1, none⟩ v1).setCell ⟨g, 2, none⟩ v2).setCell ⟨g, 3, none⟩ v3).setCell ⟨g, 4, none⟩ v4).setCell ⟨g, 5, none⟩ v5).setCell ⟨g, 6, none⟩ v6).setCell ⟨g, 7, none⟩ v7).setCell ⟨g, 8, none⟩ v8).setCell ⟨g, 9, none⟩ v9).setCell ⟨g, 10, none⟩ v10).setCell ⟨g, 11, none⟩ v11).setCell ⟨g, 12, none⟩ v12) :=
  ⟨by simp [World.setCell, Array.getElem?_modify, h], (((((((((((((Turned.refl [g] x).set1 0 v0).set1 1 v1).set1 2 v2).set1 3 v3).set1 4 v4).set1 5 v5).set1 6 v6).set1 7 v7).set1 8 v8).set1 9 v9).set1 10 v10).set1 11 v11).set1 12 v12⟩
end Go.Proofs.Ytlfgempjjoclbaa
