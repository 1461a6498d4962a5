/- The ways of all kinds, by their function values (layer 8). -/
import Derived.Test.YtlfgempjjoclbaaLKnMakes
import Derived.Test.YtlfgempjjoclbaaLKnShare00
import Derived.Test.YtlfgempjjoclbaaLKnShare01
import Derived.Test.YtlfgempjjoclbaaLKnShare10
import Derived.Test.YtlfgempjjoclbaaLKnShare11
import Derived.Test.YtlfgempjjoclbaaLKnKem
import Derived.Test.YtlfgempjjoclbaaLKnAllPlain
namespace Go.Proofs.Ytlfgempjjoclbaa
open Go.RowKit Go.Maps Go.ChangeMaps
section
variable {w : World} {mp lb cb pb kb mb n : Nat} {st : Sough.Store} {f : Sough.Flg} {can : List Bool} {tk ta tb tc tn : Nat} {ts : List UInt8}
theorem share_any (h : MindIn w mp lb cb pb kb mb n st f can) (ha : ta < n) (hb : tb < n) {tk tc : Int} : Calls Try.prog 88 #[.pointer (some ⟨mp, 0, none⟩), .agg #[.int .i64 tk, .string ⟨ts.toArray⟩, .int .u64 tn, .int .i64 ta, .int .i64 tb, .int .i64 tc]] w fun e w' => e = .returned (.bool (Sough.shareK st f can ta tb)) ∧ Below w.heap.size w w' := by
  cases hx : Sough.cn can ta <;> cases hy : Sough.cn can tb
  · exact share_00 h hx.symm hy.symm ha hb
  · exact share_01 h hx.symm hy.symm ha hb
  · exact share_10 h hx.symm hy.symm ha hb
  · exact share_11 h hx.symm hy.symm ha hb
theorem way_any (hn : n ≤ 1048577) (ha : ta < n) (hb : tb < n) (hc : tc < n) (hk1 : 1 ≤ tk) (hk2 : tk < 12) : ∃ fn, waysC[tk]? = some (wayOf fn) ∧ (∀ args w, Sem.run Try.prog (callFunc fn args) w = .ok (.enter fn args) w) ∧ ∀ w, MindIn w mp lb cb pb kb mb n st f can → BoxAt w mb st n → Calls Try.prog fn #[.pointer (some ⟨mp, 0, none⟩), .agg #[.int .i64 tk, .string ⟨ts.toArray⟩, .int .u64 tn, .int .i64 ta, .int .i64 tb, .int .i64 tc]] w fun e w' => e = .returned (.bool (Sough.wayK st f can ⟨tk, ts, tn, ta, tb, tc⟩)) ∧ Below w.heap.size w w' := by
  rcases (show tk = 1 ∨ tk = 2 ∨ tk = 3 ∨ tk = 4 ∨ tk = 5 ∨ tk = 6 ∨ tk = 7 ∨ tk = 8 ∨ tk = 9 ∨ tk = 10 ∨ tk = 11 by omega) with rfl | rfl | rfl | rfl | rfl | rfl | rfl | rfl | rfl | rfl | rfl
  · refine ⟨_, rfl, fun _ _ => rfl, fun w h hx => ?_⟩
    have e : Sough.wayK st f can ⟨((1 : Nat) : Int), ts, tn, ta, tb, tc⟩ = true := by simp [Sough.wayK]
    rw [e]; exact text_any
  · refine ⟨_, rfl, fun _ _ => rfl, fun w h hx => ?_⟩
    have e : Sough.wayK st f can ⟨((2 : Nat) : Int), ts, tn, ta, tb, tc⟩ = false := by simp [Sough.wayK]
    rw [e]; exact none_any
  · refine ⟨_, rfl, fun _ _ => rfl, fun w h hx => ?_⟩
    have e : Sough.wayK st f can ⟨((3 : Nat) : Int), ts, tn, ta, tb, tc⟩ = Sough.cn can ta := by simp [Sough.wayK]
    rw [e]; exact one_any h ha
  · refine ⟨_, rfl, fun _ _ => rfl, fun w h hx => ?_⟩
    have e : Sough.wayK st f can ⟨((4 : Nat) : Int), ts, tn, ta, tb, tc⟩ = Sough.shareK st f can ta tb := by simp [Sough.wayK]
    rw [e]; exact share_any h ha hb
  · refine ⟨_, rfl, fun _ _ => rfl, fun w h hx => ?_⟩
    have e : Sough.wayK st f can ⟨((5 : Nat) : Int), ts, tn, ta, tb, tc⟩ = Sough.cn can ta := by simp [Sough.wayK]
    rw [e]; exact one_any h ha
  · refine ⟨_, rfl, fun _ _ => rfl, fun w h hx => ?_⟩
    have e : Sough.wayK st f can ⟨((6 : Nat) : Int), ts, tn, ta, tb, tc⟩ = Sough.wrapK st can ta tb := by simp [Sough.wayK]
    rw [e]; exact kwrap_any h ha hb
  · refine ⟨_, rfl, fun _ _ => rfl, fun w h hx => ?_⟩
    have e : Sough.wayK st f can ⟨((7 : Nat) : Int), ts, tn, ta, tb, tc⟩ = Sough.kemK st f can ta tb := by simp [Sough.wayK]
    rw [e]; exact kem_any h hx ha hb hn
  · refine ⟨_, rfl, fun _ _ => rfl, fun w h hx => ?_⟩
    have e : Sough.wayK st f can ⟨((8 : Nat) : Int), ts, tn, ta, tb, tc⟩ = (Sough.cn can ta && Sough.cn can tb) := by simp [Sough.wayK]
    rw [e]; exact kboth_any h ha hb
  · refine ⟨_, rfl, fun _ _ => rfl, fun w h hx => ?_⟩
    have e : Sough.wayK st f can ⟨((9 : Nat) : Int), ts, tn, ta, tb, tc⟩ = Sough.cn can ta := by simp [Sough.wayK]
    rw [e]; exact one_any h ha
  · refine ⟨_, rfl, fun _ _ => rfl, fun w h hx => ?_⟩
    have e : Sough.wayK st f can ⟨((10 : Nat) : Int), ts, tn, ta, tb, tc⟩ = (Sough.cn can ta && Sough.cn can tb && Sough.cn can tc) := by simp [Sough.wayK]
    rw [e]; exact kseal_any h ha hb hc
  · refine ⟨_, rfl, fun _ _ => rfl, fun w h hx => ?_⟩
    have e : Sough.wayK st f can ⟨((11 : Nat) : Int), ts, tn, ta, tb, tc⟩ = (Sough.cn can ta && Sough.cn can tb) := by simp [Sough.wayK]
    rw [e]; exact kboth_any h ha hb
end
end Go.Proofs.Ytlfgempjjoclbaa
