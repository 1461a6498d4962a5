/- The walk of soughref11.Same at equal parts. -/
import Derived.Test.YtkogjhdcakjpeaaSpRefs
namespace Go.Proofs.Ytkogjhdcakjpeaa
open Go.RowKit Go.Shelf

def SameR (n : Nat) (w : World) (iv : Value) (wr : World) : Prop := ∃ k : Nat, k ≤ n ∧ iv = .int .i64 k ∧ Below w.heap.size w wr

set_option maxRecDepth 100000 in
set_option maxHeartbeats 1600000 in
theorem same_none (a1 a2 : Option Addr) (c1 c2 : Nat) (w : World) : Calls Try.prog 15 #[.slice a1 0 c1, .slice a2 0 c2] w fun e w' => e = .returned (.bool true) ∧ Below w.heap.size w w' := by
  go_enter Try.func15, Try.ntmps15
  go_wp2_with fail
  go_loopw [5] (fun iv wr => SameR 0 w iv wr) (fun _ _ => 0)
  case atStart => exact ⟨0, Nat.zero_le _, rfl, Below.refl _ _⟩
  case round =>
    obtain ⟨k, hk, rfl, hbel⟩ := hrel
    obtain rfl : k = 0 := by omega
    have HB := Lib.hid hbel; clear hbel
    go_wp2
    go_ret
    exact ⟨rfl, HB.out⟩

set_option maxRecDepth 100000 in
set_option maxHeartbeats 1600000 in
theorem same_some {g1 g2 c1 c2 : Nat} {fs : List Sough.Frag} (hl : fs.length ≤ 100000) (w : World) (hf1 : FragsAt w g1 0 fs) (hf2 : FragsAt w g2 0 fs) :
    Calls Try.prog 15 #[.slice (some ⟨g1, 0, none⟩) fs.length c1, .slice (some ⟨g2, 0, none⟩) fs.length c2] w fun e w' => e = .returned (.bool true) ∧ Below w.heap.size w w' := by
  have HF1 := Lib.hid hf1; have HF2 := Lib.hid hf2; clear hf1 hf2
  obtain ⟨n, hn⟩ : ∃ n, n = fs.length := ⟨_, rfl⟩
  rw [← hn] at hl ⊢
  have HN := Lib.hid hn; clear hn
  go_enter Try.func15, Try.ntmps15
  go_wp2_with fail
  go_loopw [5] (fun iv wr => SameR n w iv wr) (fun iv _ => n - (intOf iv).toNat)
  case atStart => exact ⟨0, Nat.zero_le _, rfl, Below.refl _ _⟩
  case round =>
    obtain ⟨k, hk, rfl, hbel⟩ := hrel
    have HB := Lib.hid hbel
    by_cases hlt : k < n
    · obtain ⟨F0, F1, F2, F3⟩ := HF1.out.later hbel k (by rw [← HN.out]; exact hlt)
      obtain ⟨G0, G1, G2, G3⟩ := HF2.out.later hbel k (by rw [← HN.out]; exact hlt)
      simp only [Nat.zero_add] at F0 F1 F2 F3 G0 G1 G2 G3
      clear hbel
      generalize Sough.fragAt fs k = f at *
      have x0 : ∀ x : Later wr, x.world.cell? ⟨g1, k * 4, none⟩ = some (.int .u64 f.id) := fun x => x.cell F0
      have x1 : ∀ x : Later wr, x.world.cell? ⟨g1, k * 4 + 1, none⟩ = some (.int .i64 f.index) := fun x => x.cell F1
      have x2 : ∀ x : Later wr, x.world.cell? ⟨g1, k * 4 + 2, none⟩ = some (.int .i64 f.count) := fun x => x.cell F2
      have x3 : ∀ x : Later wr, x.world.cell? ⟨g1, k * 4 + 3, none⟩ = some (.string ⟨f.part.toArray⟩) := fun x => x.cell F3
      have y0 : ∀ x : Later wr, x.world.cell? ⟨g2, k * 4, none⟩ = some (.int .u64 f.id) := fun x => x.cell G0
      have y1 : ∀ x : Later wr, x.world.cell? ⟨g2, k * 4 + 1, none⟩ = some (.int .i64 f.index) := fun x => x.cell G1
      have y2 : ∀ x : Later wr, x.world.cell? ⟨g2, k * 4 + 2, none⟩ = some (.int .i64 f.count) := fun x => x.cell G2
      have y3 : ∀ x : Later wr, x.world.cell? ⟨g2, k * 4 + 3, none⟩ = some (.string ⟨f.part.toArray⟩) := fun x => x.cell G3
      clear F0 F1 F2 F3 G0 G1 G2 G3
      go_wp2_with fail
      refine wp_region_later (by kernel_rfl) (by kernel_rfl) ?_
      repeat (go_big_quiet_step (fail))
      refine wpQuiet_nil ?_
      rintro ⟨w2, hb2⟩
      change Exit.then _ _ _ _ w2
      clear x0 x1 x2 x3 y0 y1 y2 y3
      have HB2 := Lib.hid (ext_trans HB.out hb2)
      clear hb2
      go_wp2_with fail
      go_roundw
      case rel => exact ⟨k + 1, by omega, by go_num, HB2.out⟩
      case measure => simp [intOf]; omega
    · obtain rfl : k = n := by omega
      clear hbel
      go_wp2
      go_ret
      exact ⟨rfl, HB.out⟩

/-- soughref11.Same. -/
theorem same_as {v1 v2 : Value} {fs : List Sough.Frag} {base1 base2 : Nat} {e1 e2 : TypeId} (hl : fs.length ≤ 100000) (w : World) (h1 : w.ownsRow base1 e1 4 v1 fs.length (fs.flatMap fragCells)) (h2 : w.ownsRow base2 e2 4 v2 fs.length (fs.flatMap fragCells)) :
    Calls Try.prog 15 #[v1, v2] w fun e w' => e = .returned (.bool true) ∧ Below w.heap.size w w' := by
  rcases Nat.eq_zero_or_pos fs.length with h | h
  · obtain ⟨a1, c1, rfl⟩ := own_shape h1
    obtain ⟨a2, c2, rfl⟩ := own_shape h2
    rw [h]
    exact same_none _ _ _ _ w
  · obtain ⟨g1, c1, rfl, -⟩ := own_head h1 h
    obtain ⟨g2, c2, rfl, -⟩ := own_head h2 h
    exact same_some hl w (fragsAt_own h1) (fragsAt_own h2)

end Go.Proofs.Ytkogjhdcakjpeaa
