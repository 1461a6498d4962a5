/- The walk of the law PoolOld. -/
import Derived.Test.YtokphknnblpagaaPoLaw
namespace Sough
open Go.Proofs.Ytokphknnblpagaa
def O0 : Pool := ⟨4, 100, []⟩
def O1 (n : Nat) : Pool := ⟨4, 100, [⟨7, 2, n, [(0, [97, 98])]⟩]⟩
def O2 (n : Nat) : Pool := ⟨4, 100, [⟨7, 2, n, [(1, [99, 100])]⟩]⟩
theorem old_keep (n t : Nat) (ht : t ≤ 50) : (O1 n).expire (n + t) = O1 n := by
  simp [O1, Pool.expire, PMsg.old]; omega
theorem old_gone (n t : Nat) (ht : ¬ t ≤ 50) : (O1 n).expire (n + t) = O0 := by
  simp [O1, O0, Pool.expire, PMsg.old]; omega
theorem old_gone2 (n t : Nat) (ht : ¬ t ≤ 50) : (O2 n).expire (n + t) = O0 := by
  simp [O2, O0, Pool.expire, PMsg.old]; omega
theorem old_first (n : Nat) : O0.add F13a n = (O1 n, [], false, 0) := by rfl
theorem old_last (n t : Nat) (ht : t ≤ 50) : (O1 n).add F13b (n + t) = (O0, [97, 98, 99, 100], true, 0) := by
  unfold Pool.add
  rw [if_neg (by decide), if_neg (by decide), old_keep n t ht]
  rfl
theorem old_new (n t : Nat) (ht : ¬ t ≤ 50) : (O1 n).add F13b (n + t) = (O2 (n + t), [], false, 0) := by
  unfold Pool.add
  rw [if_neg (by decide), if_neg (by decide), old_gone n t ht]
  rfl
end Sough
namespace Go.Proofs.Ytokphknnblpagaa
open Go.RowKit Go.Maps Go.ChangeMaps Go.Shelf

theorem two_ab {W : World} {g : Nat} (h : FragsAt W g 0 [F13a, F13b]) : W.cell? ⟨g, 0, none⟩ = some (.int .u64 7) ∧ W.cell? ⟨g, 1, none⟩ = some (.int .i64 0) ∧ W.cell? ⟨g, 2, none⟩ = some (.int .i64 2) ∧ W.cell? ⟨g, 3, none⟩ = some (.string ⟨#[97, 98]⟩) ∧
    W.cell? ⟨g, 4, none⟩ = some (.int .u64 7) ∧ W.cell? ⟨g, 5, none⟩ = some (.int .i64 1) ∧ W.cell? ⟨g, 6, none⟩ = some (.int .i64 2) ∧ W.cell? ⟨g, 7, none⟩ = some (.string ⟨#[99, 100]⟩) := two_cells h

set_option maxRecDepth 100000 in
set_option maxHeartbeats 3200000 in
theorem poolOld_walk (a0 a1 : Int) (w : World) (w0 : (Lit.int .u64 a0).wf = true) (w1 : (Lit.int .u8 a1).wf = true) :
    Calls Try.prog 6 #[.int .u64 a0, .int .u8 a1] w fun e w' => e = .returned (.bool true) ∧ Below w.heap.size w w' := by
  have b0 := bounds_u64 w0
  have b1 := bounds_u8 w1
  obtain ⟨t, rfl⟩ := Int.eq_ofNat_of_zero_le b1.1
  go_enter Try.func6, Try.ntmps6
  go_wp2_with fail
  obtain ⟨n, hn⟩ : ∃ n : Nat, a0 / 2 = n := ⟨(a0 / 2).toNat, by omega⟩
  have hn63 : n < 9223372036854775808 := by omega
  have ht : t ≤ 255 := by omega
  rw [hn]
  clear hn b0 b1 w0 w1
  refine (new_ls (slots := 4) (room := 100) (Below.refl _ w) (by decide) (by decide) (by decide) (by decide)).mono ?_
  rintro e w1 ⟨p, rfl, hL⟩
  have L1 := Lib.hid hL; clear hL
  go_wp2_with fail
  refine (cut_lit (id := 7) (fs := [F13a, F13b]) (er := 0) (by kernel_rfl) (by decide) _).mono ?_
  rintro e w3 ⟨v, rfl, hown, hb⟩
  obtain ⟨g, capg, rfl, _, _⟩ := own_head hown (by decide)
  have L3 := Lib.hid (L1.out.row hb (hown.lt g rfl).1 (fragsAt_own hown) (hown.lt g rfl).2)
  clear hown hb L1
  have c3 := two_ab (L3.out.rows (g, [F13a, F13b]) (by simp)).1
  go_wp2_with fail
  refine (add_at (f := F13a) (now := n) (id := 7) (r := (Sough.O1 n, [], false, 0)) L3.out (Sough.old_first n) (by omega) (by decide) (by push_cast; omega)).mono ?_
  rintro e w4 ⟨rfl, hL⟩
  have L4 := Lib.hid hL; clear hL L3
  clear c3
  go_wp2_with fail
  refine (expire_at (now := n + 50) (n := 0) L4.out (Sough.old_keep n 50 (by decide)) (by rfl) (by omega) (by push_cast; omega)).mono ?_
  rintro e w5 ⟨rfl, hL⟩
  have L5 := Lib.hid hL; clear hL L4
  go_wp2_with fail
  refine (held_at (n := 1) (b := 2) L5.out (by rfl) (by rfl)).mono ?_
  rintro e w6 ⟨rfl, hL⟩
  have L6 := Lib.hid hL; clear hL L5
  have c6 := two_ab (L6.out.rows (g, [F13a, F13b]) (by simp)).1
  go_wp2_with fail
  by_cases h50 : t ≤ 50
  · clear c6
    refine (add_at (f := F13b) (now := n + t) (id := 7) (r := (Sough.O0, [97, 98, 99, 100], true, 0)) L6.out (Sough.old_last n t h50) (by omega) (by decide) (by push_cast; omega)).mono ?_
    rintro e w7 ⟨rfl, hL⟩
    have L7 := Lib.hid hL; clear hL L6
    go_wp2_with fail
    refine (held_at (n := 0) (b := 0) L7.out (by rfl) (by rfl)).mono ?_
    rintro e w8 ⟨rfl, hL⟩
    have L8 := Lib.hid hL; clear hL L7
    go_wp2_with fail
    refine (fixed_walk _).mono ?_
    rintro e w9 ⟨rfl, hb⟩
    go_wp2_with fail
    go_ret
    exact ⟨rfl, L8.out.bel.trans (hb.mono L8.out.bel.size)⟩
  · clear c6
    refine (add_at (f := F13b) (now := n + t) (id := 7) (r := (Sough.O2 (n + t), [], false, 0)) L6.out (Sough.old_new n t h50) (by omega) (by decide) (by push_cast; omega)).mono ?_
    rintro e w7 ⟨rfl, hL⟩
    have L7 := Lib.hid hL; clear hL L6
    go_wp2_with fail
    refine (held_at (n := 1) (b := 2) L7.out (by rfl) (by rfl)).mono ?_
    rintro e w8 ⟨rfl, hL⟩
    have L8 := Lib.hid hL; clear hL L7
    go_wp2_with fail
    refine (expire_at (now := n + t + 51) (n := 1) L8.out (Sough.old_gone2 (n + t) 51 (by decide)) (by rfl) (by omega) (by push_cast; omega)).mono ?_
    rintro e w9 ⟨rfl, hL⟩
    have L9 := Lib.hid hL; clear hL L8
    go_wp2_with fail
    refine (fixed_walk _).mono ?_
    rintro e w10 ⟨rfl, hb⟩
    go_wp2_with fail
    go_ret
    exact ⟨rfl, L9.out.bel.trans (hb.mono L9.out.bel.size)⟩

end Go.Proofs.Ytokphknnblpagaa
