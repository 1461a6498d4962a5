/- The walk of soughref10.Encode. -/
import Derived.Test.YtjoanlhdocoddaaMsRR1
import Derived.Test.YtjoanlhdocoddaaMsRR2
import Derived.Test.YtjoanlhdocoddaaMsRR3
import Derived.Test.YtjoanlhdocoddaaMsRR4
import Derived.Test.YtjoanlhdocoddaaRegFacts
namespace Go.Proofs.Ytjoanlhdocoddaa
open Go.RowKit Go.Maps Go.ChangeMaps


theorem _root_.Sough.numsL_len : ∀ l : List Int, (Sough.numsL l).length ≤ 10 * l.length
  | [] => by simp [Sough.numsL]
  | x :: l => by
    have := Sough.numsL_len l
    have := (Sough.put_len x.toNat).2
    simp only [Sough.numsL, List.flatMap_cons, List.length_append, List.length_cons] at *
    omega

theorem rr1_lit {m : Sough.Msg} {b : Bool} (h : (Sough.wk 1 m).right = b) (hwf : m.Wf) (w : World) : Calls Try.prog 13 #[.agg #[.int .i64 1, .int .u64 (m.v 1), .int .u64 (m.v 2), .string ⟨m.offer.toArray⟩, .int .i64 (m.v 4), .int .i64 (m.v 5), .int .i64 (m.v 6), .int .i64 (m.v 7), .int .i64 (m.v 8), .int .i64 (m.v 9), .int .i64 (m.v 10), .int .u64 (m.v 11), .int .u64 (m.v 12)]] w fun e w' => e = .returned (.bool b) ∧ Below w.heap.size w w' := by
  subst h; exact rr1 m w hwf
theorem rr2_lit {m : Sough.Msg} {b : Bool} (h : (Sough.wk 2 m).right = b) (hwf : m.Wf) (w : World) : Calls Try.prog 13 #[.agg #[.int .i64 2, .int .u64 (m.v 1), .int .u64 (m.v 2), .string ⟨m.offer.toArray⟩, .int .i64 (m.v 4), .int .i64 (m.v 5), .int .i64 (m.v 6), .int .i64 (m.v 7), .int .i64 (m.v 8), .int .i64 (m.v 9), .int .i64 (m.v 10), .int .u64 (m.v 11), .int .u64 (m.v 12)]] w fun e w' => e = .returned (.bool b) ∧ Below w.heap.size w w' := by
  subst h; exact rr2 m w hwf
theorem rr3_lit {m : Sough.Msg} {b : Bool} (h : (Sough.wk 3 m).right = b) (hwf : m.Wf) (w : World) : Calls Try.prog 13 #[.agg #[.int .i64 3, .int .u64 (m.v 1), .int .u64 (m.v 2), .string ⟨m.offer.toArray⟩, .int .i64 (m.v 4), .int .i64 (m.v 5), .int .i64 (m.v 6), .int .i64 (m.v 7), .int .i64 (m.v 8), .int .i64 (m.v 9), .int .i64 (m.v 10), .int .u64 (m.v 11), .int .u64 (m.v 12)]] w fun e w' => e = .returned (.bool b) ∧ Below w.heap.size w w' := by
  subst h; exact rr3 m w hwf
theorem rr4_lit {m : Sough.Msg} {b : Bool} (h : (Sough.wk 4 m).right = b) (hwf : m.Wf) (w : World) : Calls Try.prog 13 #[.agg #[.int .i64 4, .int .u64 (m.v 1), .int .u64 (m.v 2), .string ⟨m.offer.toArray⟩, .int .i64 (m.v 4), .int .i64 (m.v 5), .int .i64 (m.v 6), .int .i64 (m.v 7), .int .i64 (m.v 8), .int .i64 (m.v 9), .int .i64 (m.v 10), .int .u64 (m.v 11), .int .u64 (m.v 12)]] w fun e w' => e = .returned (.bool b) ∧ Below w.heap.size w w' := by
  subst h; exact rr4 m w hwf
theorem nums_at {g c n : Nat} {l : List Int} {T : TypeId} {cs : Array Value} (hn : l.length = n) (hl : n ≤ 1000) (hz : ∀ x ∈ l, 0 ≤ x ∧ x < 18446744073709551616) (hcs : cs = (l.map (Value.int .i64)).toArray) (w : World) (hf : w.heap[g]? = some (.cells cs T (0, 0))) :
    Calls Try.prog 35 #[.slice (some ⟨g, 0, none⟩) n c] w fun e w' => e = .returned (.string ⟨(Sough.numsL l).toArray⟩) ∧ Below w.heap.size w w' :=
  nums_any hn hl hz w (by rw [hf, hcs])

end Go.Proofs.Ytjoanlhdocoddaa
