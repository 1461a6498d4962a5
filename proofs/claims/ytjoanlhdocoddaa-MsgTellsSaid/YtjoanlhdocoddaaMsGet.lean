/- The walks of (msg.field).get, set; offer.Right, soughref09.Right. -/
import Derived.Test.YtjoanlhdocoddaaMsFields2
import Derived.Test.YtjoanlhdocoddaaMsPlain2
import Derived.WalkLawsBesides
import Derived.WalkSpells
namespace Go.Proofs.Ytjoanlhdocoddaa
open Go.RowKit Go.Maps Go.ChangeMaps

/-- A field's number, read. -/
def numOf (m : Sough.Msg) (c : Nat) : Int := if Sough.u64cell c = true then m.v c else IntKind.u64.wrap (m.v c)

def numC (c : Nat) (x : Int) : Value := if Sough.u64cell c = true then .int .u64 x else .int .i64 x

set_option maxRecDepth 100000 in
theorem get_num {b : Nat} {f : Sough.Fld} {x : Int} (w : World) (h3 : f.c ≠ 3) (hc : w.cell? ⟨b, f.c, none⟩ = some (numC f.c x)) (hx : Sough.u64cell f.c = true → 0 ≤ x ∧ x < 18446744073709551616) :
    Calls Try.prog 28 #[.agg (fldC b f).toArray] w fun e w' => e = .returned (.int .u64 (IntKind.u64.wrap x)) ∧ Below w.heap.size w w' := by
  unfold fldC numC at *
  rw [if_neg h3]
  by_cases hu : Sough.u64cell f.c = true
  · rw [if_pos hu] at hc ⊢
    have hw : IntKind.u64.wrap x = x := by rw [IntKind.wrap_u64]; have := hx hu; omega
    rw [hw]
    have HN := Lib.hid (World.size_alloc w (.cells #[.int .u64 f.lo, .int .u64 f.hi, .pointer (some ⟨b, f.c, none⟩), .pointer none, .pointer none] 60))
    have hb := World.block_lt_of_cell? w _ hc
    simp only at hb
    have hc' := (((Below.refl w.heap.size w).alloc (Nat.le_refl _) (.cells #[.int .u64 f.lo, .int .u64 f.hi, .pointer (some ⟨b, f.c, none⟩), .pointer none, .pointer none] 60)).cell (p := ⟨b, f.c, none⟩) hb).trans hc
    clear hx hw hu
    go_enter Try.func28, Try.ntmps28
    go_wp2_with fail
    go_ret
    exact ⟨rfl, (Below.refl _ _).alloc (Nat.le_refl _) _⟩
  · rw [if_neg hu] at hc ⊢
    have hb := World.block_lt_of_cell? w _ hc
    simp only at hb
    have hc' := (((Below.refl w.heap.size w).alloc (Nat.le_refl _) (.cells #[.int .u64 f.lo, .int .u64 f.hi, .pointer none, .pointer (some ⟨b, f.c, none⟩), .pointer none] 60)).cell (p := ⟨b, f.c, none⟩) hb).trans hc
    clear hx hu
    go_enter Try.func28, Try.ntmps28
    go_wp2_with fail
    go_ret
    exact ⟨rfl, (Below.refl _ _).alloc (Nat.le_refl _) _⟩

end Go.Proofs.Ytjoanlhdocoddaa
