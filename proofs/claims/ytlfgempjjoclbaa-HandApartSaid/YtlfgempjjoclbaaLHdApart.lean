/- Plain law and walk of HandApart. (Printed by wip/tools/mkapart2.py.) -/
import Derived.Test.YtlfgempjjoclbaaLHdRun
namespace Sough
def apOk (st : Store) (k : Nat) : Prop := (rn1 st k).2.2.2 = 0 ∧ (rn2 st k).2.2 = 0 ∧ (rn3 st k).2.2.2 = 0
instance {st : Store} {k : Nat} : Decidable (apOk st k) := by unfold apOk; infer_instance
set_option maxRecDepth 100000 in
theorem ap_all : ∀ a < 4, ∀ b < 4, apOk twoS a ∧ apOk (rn4 twoS a).1 b ∧ (rn4 twoS a).2.2 = 0 ∧ (rn4 (rn4 twoS a).1 b).2.2 = 0 ∧
    (if a = b then (rn4 twoS a).2.1 = (rn4 (rn4 twoS a).1 b).2.1 else (rn4 twoS a).2.1.h ≠ (rn4 (rn4 twoS a).1 b).2.1.h ∧ (rn4 twoS a).2.1.send ≠ (rn4 (rn4 twoS a).1 b).2.1.send ∧ (rn4 twoS a).2.1.recv ≠ (rn4 (rn4 twoS a).1 b).2.1.recv ∧ (rn4 twoS a).2.1.send ≠ (rn4 (rn4 twoS a).1 b).2.1.recv ∧ (rn4 twoS a).2.1.recv ≠ (rn4 (rn4 twoS a).1 b).2.1.send) := by decide +kernel
end Sough
namespace Go.Proofs.Ytlfgempjjoclbaa
open Go.RowKit Go.Maps Go.ChangeMaps

set_option maxRecDepth 100000 in
set_option maxHeartbeats 3200000 in
theorem apart_ab {x y a b : Nat} (hxa : (x : Int) % 4 = (a : Int)) (hyb : (y : Int) % 4 = (b : Int)) (ha : a < 4) (hb : b < 4) (hx : x < 256) (hy : y < 256) (W : World) :
    Calls Try.prog 6 #[.int .u8 x, .int .u8 y] W fun e w' => e = .returned (.bool true) ∧ Below W.heap.size W w' := by
  have hfx := Sough.ap_all a ha b hb
  have HA := Lib.hid ha; have HB := Lib.hid hb
  clear ha hb
  go_enter Try.func6, Try.ntmps6
  go_wp2_with fail
  refine (two_any _).mono ?_
  rintro e w1 ⟨p, rfl, g⟩
  have F1 := Lib.hid g
  have F2 := Lib.hid (F1.out.alloc (.cells #[.int .i64 1, .int .i64 2, .int .i64 3, .int .i64 4] 25))
  try simp only [World.size_alloc, size_setCell] at F2
  have F3 := Lib.hid (F2.out.alloc (.cells #[.int .i64 17, .int .i64 18, .int .i64 5, .int .i64 6, .int .i64 15, .int .i64 16, .int .i64 5, .int .i64 6] 29))
  try simp only [World.size_alloc, size_setCell] at F3
  clear g
  have HOK1 := Lib.hid hfx.1
  obtain ⟨s1, z1, e1, h1⟩ : ∃ s z e, Sough.rn4 Sough.twoS a = (s, z, e) := ⟨_, _, _, rfl⟩
  have HC := run_at F3.out HA.out (HOK1.out)
  rw [h1] at HC
  have HC := Lib.hid HC
  have H1 := Lib.hid h1
  clear h1
  have r0 := F1.out.mem.rules; simp only [AllCells, CellsAt, Nat.zero_add, Nat.reduceAdd, talkC] at r0
  have r1 := F2.out.mem.rules; simp only [AllCells, CellsAt, Nat.zero_add, Nat.reduceAdd, talkC] at r1
  have r2 := F3.out.mem.rules; simp only [AllCells, CellsAt, Nat.zero_add, Nat.reduceAdd, talkC] at r2
  go_wp2_with fail
  clear r0 r1 r2
  refine HC.out.mono ?_
  rintro e w2 ⟨rfl, g⟩
  clear HC
  clear F1 F2
  have F4 := Lib.hid g
  have F5 := Lib.hid (F4.out.alloc (.cells #[.int .i64 z1.h, .int .i64 z1.send, .int .i64 z1.recv, .int .i64 z1.version] 49))
  try simp only [World.size_alloc, size_setCell] at F5
  clear g
  clear F3
  have HOK2 := Lib.hid hfx.2.1
  rw [H1.out] at HOK2
  obtain ⟨s2, z2, e2, h2⟩ : ∃ s z e, Sough.rn4 s1 b = (s, z, e) := ⟨_, _, _, rfl⟩
  have HC := run_at F5.out HB.out (HOK2.out)
  rw [h2] at HC
  have HC := Lib.hid HC
  have H2 := Lib.hid h2
  clear h2
  have r0 := F4.out.mem.rules; simp only [AllCells, CellsAt, Nat.zero_add, Nat.reduceAdd, talkC] at r0
  have r1 := F5.out.mem.rules; simp only [AllCells, CellsAt, Nat.zero_add, Nat.reduceAdd, talkC] at r1
  go_wp2_with fail
  clear r0 r1
  refine HC.out.mono ?_
  rintro e w3 ⟨rfl, g⟩
  clear HC
  clear F4
  have F6 := Lib.hid g
  have F7 := Lib.hid (F6.out.alloc (.cells #[.int .i64 z2.h, .int .i64 z2.send, .int .i64 z2.recv, .int .i64 z2.version] 49))
  try simp only [World.size_alloc, size_setCell] at F7
  clear g
  clear F5
  have hq := hfx.2.2
  simp only [H1.out, H2.out] at hq
  obtain ⟨f1, f2, f3⟩ := hq
  subst f1 f2
  clear hfx
  by_cases hab : a = b
  · subst hab
    simp only [if_true] at f3
    subst f3
    have b1 : ((a : Int) == (a : Int)) = true := by simp
    have EQ := fun w => (eqSesn z1 z1 w).trans (by rw [show decide (z1 = z1) = true from decide_eq_true rfl])
    have EG : Try.prog.eqGuardType Try.prog.depth 49 = false := by kernel_rfl
    have r0 := F6.out.mem.rules; simp only [AllCells, CellsAt, Nat.zero_add, Nat.reduceAdd, talkC] at r0
    have r1 := F7.out.mem.rules; simp only [AllCells, CellsAt, Nat.zero_add, Nat.reduceAdd, talkC] at r1
    go_wp2_with fail
    clear r0 r1
    refine (fixed_walk _).mono ?_
    rintro e wF ⟨rfl, hbF⟩
    have FF := Lib.hid (F7.out.later hbF)
    clear hbF
    go_wp2_with fail
    go_ret
    exact ⟨rfl, FF.out.tur.toBelow (by simp) (Nat.le_refl _)⟩
  · rw [if_neg hab] at f3
    have b1 : ((a : Int) == (b : Int)) = false := by simp; omega
    obtain ⟨n1, n2, n3, n4, n5⟩ := f3
    have c0 : (z1.h == z2.h) = false := beq_eq_false_iff_ne.2 n1
    have d0 : (z1.h != z2.h) = true := by unfold bne; rw [c0]; rfl
    have c1 : (z1.send == z2.send) = false := beq_eq_false_iff_ne.2 n2
    have d1 : (z1.send != z2.send) = true := by unfold bne; rw [c1]; rfl
    have c2 : (z1.recv == z2.recv) = false := beq_eq_false_iff_ne.2 n3
    have d2 : (z1.recv != z2.recv) = true := by unfold bne; rw [c2]; rfl
    have c3 : (z1.send == z2.recv) = false := beq_eq_false_iff_ne.2 n4
    have d3 : (z1.send != z2.recv) = true := by unfold bne; rw [c3]; rfl
    have c4 : (z1.recv == z2.send) = false := beq_eq_false_iff_ne.2 n5
    have d4 : (z1.recv != z2.send) = true := by unfold bne; rw [c4]; rfl
    clear n1 n2 n3 n4 n5
    have r0 := F6.out.mem.rules; simp only [AllCells, CellsAt, Nat.zero_add, Nat.reduceAdd, talkC] at r0
    have r1 := F7.out.mem.rules; simp only [AllCells, CellsAt, Nat.zero_add, Nat.reduceAdd, talkC] at r1
    go_wp2_with fail
    clear r0 r1
    refine (fixed_walk _).mono ?_
    rintro e wF ⟨rfl, hbF⟩
    have FF := Lib.hid (F7.out.later hbF)
    clear hbF
    go_wp2_with fail
    go_ret
    exact ⟨rfl, FF.out.tur.toBelow (by simp) (Nat.le_refl _)⟩

theorem handApart_walk (a b : Int) (W : World) (wa : (Lit.int .u8 a).wf = true) (wb : (Lit.int .u8 b).wf = true) :
    Calls Try.prog 6 #[.int .u8 a, .int .u8 b] W fun e w' => e = .returned (.bool true) ∧ Below W.heap.size W w' := by
  have b0 := bounds_u8 wa
  have b1 := bounds_u8 wb
  obtain ⟨x, rfl⟩ := Int.eq_ofNat_of_zero_le b0.1
  obtain ⟨y, rfl⟩ := Int.eq_ofNat_of_zero_le b1.1
  exact apart_ab (a := x % 4) (b := y % 4) (by omega) (by omega) (by omega) (by omega) (by omega) (by omega) W

end Go.Proofs.Ytlfgempjjoclbaa
