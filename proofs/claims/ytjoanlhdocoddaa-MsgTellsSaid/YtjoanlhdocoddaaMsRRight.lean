/- The walk of soughref10.Right. -/
import Derived.Test.YtjoanlhdocoddaaMsRef2
namespace Sough
def numB (x : Int) : Bool := decide (1 ≤ x ∧ x ≤ 4294967296)
def nameB (x : Int) : Bool := decide (1 ≤ x ∧ x ≤ 1048576)
/-- A message of a kind, with its kind's fields alone. -/
def okind (k : Int) (m : Msg) : Msg := ⟨fun c => if c = 0 then k else if hasF (flds k) c = true ∧ c ≠ 3 then m.v c else 0, if hasF (flds k) 3 = true then m.offer else []⟩
theorem right_k1 {m : Msg} (h : m.v 0 = 1) : m.right = (numB (m.v 1) && (offerOk m.offer && (decide (0 ≤ m.v 4) && (decide (m.v 4 ≤ 1) && (nameB (m.v 6) && (nameB (m.v 7) && (nameB (m.v 8) && (nameB (m.v 9) && (nameB (m.v 10) && m.same (okind 1 m)))))))))) := by
  have e : onlyL m (flds 1) = okind 1 m := by unfold onlyL okind; rw [h]
  unfold Msg.right
  rw [h, e]
  simp [flds, flds1, fldOk, number, name, numB, nameB, Bool.and_assoc]
theorem right_k2 {m : Msg} (h : m.v 0 = 2) : m.right = (numB (m.v 1) && (numB (m.v 2) && (nameB (m.v 6) && (nameB (m.v 8) && (nameB (m.v 9) && m.same (okind 2 m)))))) := by
  have e : onlyL m (flds 2) = okind 2 m := by unfold onlyL okind; rw [h]
  unfold Msg.right
  rw [h, e]
  simp [flds, flds2, fldOk, number, name, numB, nameB, Bool.and_assoc]
theorem right_k3 {m : Msg} (h : m.v 0 = 3) : m.right = (numB (m.v 2) && (decide (1 ≤ m.v 5) && (decide (m.v 5 ≤ 15) && m.same (okind 3 m)))) := by
  have e : onlyL m (flds 3) = okind 3 m := by unfold onlyL okind; rw [h]
  unfold Msg.right
  rw [h, e]
  simp [flds, flds3, fldOk, number, numB, Bool.and_assoc]
theorem right_k4 {m : Msg} (h : m.v 0 = 4) (h11 : 0 ≤ m.v 11) (h12 : 0 ≤ m.v 12) : m.right = (numB (m.v 2) && (decide (m.v 11 ≤ 1000) && (decide (m.v 12 ≤ 255) && (nameB (m.v 9) && m.same (okind 4 m))))) := by
  have e : onlyL m (flds 4) = okind 4 m := by unfold onlyL okind; rw [h]
  unfold Msg.right
  rw [h, e]
  simp [flds, flds4, fldOk, number, name, numB, nameB, Bool.and_assoc, h11, h12]
def wk (k : Int) (m : Msg) : Msg := ⟨fun c => if c = 0 then k else m.v c, m.offer⟩
theorem wk_self {k : Int} {m : Msg} (h : m.v 0 = k) : wk k m = m := by
  subst h
  unfold wk
  congr 1
  funext c
  by_cases e : c = 0
  · rw [e]; simp
  · simp [e]
end Sough
namespace Go.Proofs.Ytjoanlhdocoddaa
open Go.RowKit Go.Maps Go.ChangeMaps

set_option maxRecDepth 100000 in
theorem rnumber_any {x : Int} {b : Bool} (hb : Sough.numB x = b) (w : World) : Calls Try.prog 30 #[.int .u64 x] w fun e w' => e = .returned (.bool b) ∧ w = w' := by
  subst hb
  go_enter Try.func30, Try.ntmps30
  go_wp2
  all_goals
    go_ret
    exact ⟨ret_bool (by unfold Sough.numB; rw [Bool.eq_iff_iff]; simp; try omega), rfl⟩
set_option maxRecDepth 100000 in
theorem rname_any {x : Int} {b : Bool} (hb : Sough.nameB x = b) (w : World) : Calls Try.prog 32 #[.int .i64 x] w fun e w' => e = .returned (.bool b) ∧ w = w' := by
  subst hb
  go_enter Try.func32, Try.ntmps32
  go_wp2
  all_goals
    go_ret
    exact ⟨ret_bool (by unfold Sough.nameB; rw [Bool.eq_iff_iff]; simp; try omega), rfl⟩

end Go.Proofs.Ytjoanlhdocoddaa
