/- The walks of the ways in which terms are made: share, kem; learn, apart (layer 8). (Printed by wip/tools/mkkn2.py.) -/
import Derived.Test.YtlfgempjjoclbaaLKnWays
namespace Go.Proofs.Ytlfgempjjoclbaa
open Go.RowKit Go.Maps Go.ChangeMaps
set_option maxRecDepth 100000 in
theorem lawB : Keyed Try.prog 26 := Keyed.of_law (deep_law_laid laidOut0 (m := 3) (by omega) (of_decide_eq_true (by kernel_rfl)) (by kernel_rfl) (by kernel_rfl))
noncomputable def keyB (a b : Int) : Lit := (keyOf Try.prog 26 (.agg #[.int .i64 a, .int .i64 b])).getD (.bool false)
theorem keyOfB {a b : Int} (ha : Sough.Int64 a) (hb : Sough.Int64 b) : keyOf Try.prog 26 (.agg #[.int .i64 a, .int .i64 b]) = some (keyB a b) := by
  have : ∃ l, keyOf Try.prog 26 (.agg #[.int .i64 a, .int .i64 b]) = some l := by
    have hu := Try.underlying26
    have hk : Try.prog.keyType 26 = true := by kernel_rfl
    have hz : Try.prog.cellsOf 26 = 2 := by kernel_rfl
    obtain ⟨d, hd⟩ : ∃ d, Try.prog.types.size + 1 = d + 2 := ⟨Try.prog.types.size - 1, by kernel_rfl⟩
    have c3 : Try.prog.cellsOf 3 = 1 := by kernel_rfl
    have k1 := litsInt (d := d) Try.underlying3 (WalkArith.wf_i64 (n := a) ha)
    have k2 := litsInt (d := d) Try.underlying3 (WalkArith.wf_i64 (n := b) hb)
    unfold keyOf
    rw [hu]
    simp only [hk, Value.formed, hu, hz, Bool.true_and]
    rw [hd]
    unfold Program.keyLits
    rw [hu]
    have hr : List.range 2 = [0, 1] := rfl
    simp [Value.cells, c3, k1, k2, hr, hz]
  obtain ⟨l, hl⟩ := this
  unfold keyB
  rw [hl]
  rfl
set_option maxRecDepth 100000 in
theorem isKeyB {a b : Int} (ha : Sough.Int64 a) (hb : Sough.Int64 b) : WideAt.IsKeyLit (keyB a b) := lawB.key (keyOfB ha hb)
set_option maxRecDepth 100000 in
theorem keyB_inj {a b c d : Int} (ha : Sough.Int64 a) (hb : Sough.Int64 b) (hc : Sough.Int64 c) (hd : Sough.Int64 d) (h : keyB a b = keyB c d) : a = c ∧ b = d := by
  have := lawB.inj (keyOfB ha hb) (by rw [h]; exact keyOfB hc hd)
  simpa using this
def BoxAt (w : World) (mb : Nat) (st : Sough.Store) (i : Nat) : Prop := ∃ D : DataW Unit, w.ownsMap Try.prog 26 (plainElem (H := Unit) Try.prog 3) mb i D ∧ ∀ a b, Sough.Int64 a → Sough.Int64 b → D.atKey (keyB a b) (mkI 0) = mkI (Sough.boxTo st i a b)
theorem BoxAt.later {w w' : World} {mb i : Nat} {st : Sough.Store} (h : BoxAt w mb st i) (hb : Below w.heap.size w w') : BoxAt w' mb st i := by
  obtain ⟨D, h1, h2⟩ := h
  obtain ⟨es, clock, hh, F, hs, hD⟩ := h1
  exact ⟨D, ⟨es, clock, (hb.block mb (lt_of_block hh)).trans hh, F, hs, hD⟩, h2⟩
theorem BoxAt.look {w : World} {mb i : Nat} {st : Sough.Store} {a b : Int} (h : BoxAt w mb st i) (ha : Sough.Int64 a) (hb : Sough.Int64 b) :
    (Instr.lookup 113 (.map (some mb)) (.agg #[.int .i64 a, .int .i64 b]) false).run Try.prog w = .ok (.int .i64 ((Sough.boxTo st i a b : Nat) : Int)) w := by
  obtain ⟨D, h1, h2⟩ := h
  obtain ⟨c, hrun, hat, _⟩ := h1.lookup_int lawB Try.underlying113 Try.underlying3 (zeroI w) (keyOfB ha hb)
  have := h2 a b ha hb
  unfold mkI at this
  change D.atKey (keyB a b) (DataW.lit (Lit.int .i64 0)) = _ at this
  rw [this] at hat
  simp only [DataW.lit.injEq, Lit.int.injEq, true_and] at hat
  rw [hrun, hat]
end Go.Proofs.Ytlfgempjjoclbaa
