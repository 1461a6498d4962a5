/- The walk of soughref02.Same at equal slices. -/
import Derived.Test.YtjoanlhdocoddaaMsLit
namespace Go.Proofs.Ytjoanlhdocoddaa
open Go.RowKit

def SameR (n : Nat) (w : World) (iv : Value) (wr : World) : Prop := ∃ k : Nat, k ≤ n ∧ iv = .int .i64 k ∧ Below w.heap.size w wr

set_option maxRecDepth 100000 in
set_option maxHeartbeats 1600000 in
theorem same_some {g1 g2 c1 c2 : Nat} {l : List Int} {T1 T2 : TypeId} (hl : l.length ≤ 100000) (w : World) (hf1 : w.heap[g1]? = some (.cells (l.map (Value.int .i64)).toArray T1 (0, 0))) (hf2 : w.heap[g2]? = some (.cells (l.map (Value.int .i64)).toArray T2 (0, 0))) :
    Calls Try.prog 17 #[.slice (some ⟨g1, 0, none⟩) l.length c1, .slice (some ⟨g2, 0, none⟩) l.length c2] w fun e w' => e = .returned (.bool true) ∧ Below w.heap.size w w' := by
  have HF1 := Lib.hid hf1; have HF2 := Lib.hid hf2; clear hf1 hf2
  obtain ⟨n, hn⟩ : ∃ n, n = l.length := ⟨_, rfl⟩
  rw [← hn] at hl ⊢
  have HN := Lib.hid hn; clear hn
  go_enter Try.func17, Try.ntmps17
  go_wp2_with fail
  go_loopw [5] (fun iv wr => SameR n w iv wr) (fun iv _ => n - (intOf iv).toNat)
  case atStart => exact ⟨0, Nat.zero_le _, rfl, Below.refl _ _⟩
  case round =>
    obtain ⟨k, hk, rfl, hbel⟩ := hrel
    have HB := Lib.hid hbel
    by_cases hlt : k < n
    · have hkl : k < l.length := by rw [← HN.out]; exact hlt
      have cc : ∀ {W : World} {g : Nat} {T : TypeId}, W.heap[g]? = some (.cells (l.map (Value.int .i64)).toArray T (0, 0)) → W.cell? ⟨g, k, none⟩ = some (.int .i64 l[k]) := fun h => by
        simp [World.cell?, h, List.getElem?_eq_getElem hkl]
      have F0 := cc ((hbel.block _ (lt_of_block HF1.out)).trans HF1.out)
      have G0 := cc ((hbel.block _ (lt_of_block HF2.out)).trans HF2.out)
      clear hbel cc
      generalize l[k] = z at *
      have x0 : ∀ x : Later wr, x.world.cell? ⟨g1, k, none⟩ = some (.int .i64 z) := fun x => x.cell F0
      have y0 : ∀ x : Later wr, x.world.cell? ⟨g2, k, none⟩ = some (.int .i64 z) := fun x => x.cell G0
      clear F0 G0
      go_wp2_with fail
      refine wp_region_later (by kernel_rfl) (by kernel_rfl) ?_
      repeat (go_big_quiet_step (fail))
      refine wpQuiet_nil ?_
      rintro ⟨w2, hb2⟩
      change Exit.then _ _ _ _ w2
      clear x0 y0
      have HB2 := Lib.hid (ext_trans HB.out hb2)
      clear hb2
      go_wp2_with fail
      go_roundw
      case rel => exact ⟨k + 1, by omega, rfl, HB2.out⟩
      case measure => simp [intOf]; omega
    · obtain rfl : k = n := by omega
      clear hbel
      go_wp2_with fail
      go_ret
      exact ⟨rfl, HB.out⟩

end Go.Proofs.Ytjoanlhdocoddaa
