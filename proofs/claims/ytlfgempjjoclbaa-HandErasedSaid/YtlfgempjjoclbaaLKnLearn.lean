/- The walks of learn and apart (layer 8). -/
import Derived.Test.YtlfgempjjoclbaaLKnBox
import Derived.Test.YtlfgempjjoclbaaLKnWays
import Derived.Test.YtlfgempjjoclbaaG1
namespace Go.Proofs.Ytlfgempjjoclbaa
open Go.RowKit Go.Maps Go.ChangeMaps
section
variable {w w' : World} {mp lb cb pb kb mb n : Nat} {st : Sough.Store} {f : Sough.Flg} {can can' : List Bool}
theorem MindIn.ne (h : MindIn w mp lb cb pb kb mb n st f can) : mp ≠ cb ∧ pb ≠ cb ∧ kb ≠ cb := by
  refine ⟨?_, ?_, ?_⟩ <;> rintro rfl
  · have := h.box.symm.trans h.cans; simp at this
  · have := h.pub.symm.trans h.cans; simp at this
  · have := h.kpub.symm.trans h.cans; simp at this
theorem MindIn.turned (h : MindIn w mp lb cb pb kb mb n st f can) (ht : Turned [cb] w w') (hc : w'.heap[cb]? = some (.cells (can'.map Value.bool).toArray 4 (0, 0))) (hl : can'.length = n) : MindIn w' mp lb cb pb kb mb n st f can' := by
  obtain ⟨n1, n2, n3⟩ := h.ne
  have k := fun {i : Nat} {o : Obj} (hn : i ≠ cb) (hh : w.heap[i]? = some o) => (ht.block i (lt_of_block hh) (by simpa using hn)).trans hh
  exact ⟨k n1 h.box, hc, hl, k n2 h.pub, k n3 h.kpub, h.all⟩
theorem BoxAt.turned {i : Nat} (h : BoxAt w mb st i) (ht : Turned [cb] w w') (hc : w.heap[cb]? = some (.cells (can.map Value.bool).toArray 4 (0, 0))) : BoxAt w' mb st i := by
  obtain ⟨D, h1, h2⟩ := h
  obtain ⟨es, clock, hh, F, hs, hD⟩ := h1
  have hn : mb ≠ cb := by rintro rfl; rw [hh] at hc; simp at hc
  exact ⟨D, ⟨es, clock, (ht.block mb (lt_of_block hh) (by simpa using hn)).trans hh, F, hs, hD⟩, h2⟩
theorem MindIn.set (h : MindIn w mp lb cb pb kb mb n st f can) {x : Nat} : (w.setCell ⟨cb, x, none⟩ (.bool true)).heap[cb]? = some (.cells ((can.set x true).map Value.bool).toArray 4 (0, 0)) := by
  rw [blk_set h.cans]
  simp [List.map_set]
end
section
variable {w : World} {mp lb cb pb kb mb n : Nat} {st : Sough.Store} {f : Sough.Flg} {can : List Bool} {tk tb tc : Int} {tn : Nat} {ts : List UInt8}
set_option maxRecDepth 100000 in
set_option maxHeartbeats 1600000 in
theorem learn_any {x : Nat} (h : MindIn w mp lb cb pb kb mb n st f can) (hx : x < n) :
    Calls Try.prog 93 #[.pointer (some ⟨mp, 0, none⟩), .int .i64 x] w fun e w' => e = .returned (.bool (!Sough.cn can x)) ∧ MindIn w' mp lb cb pb kb mb n st f (can.set x true) ∧ Turned [cb] w w' := by
  have HM := Lib.hid h
  obtain ⟨b, hb⟩ : ∃ b, b = Sough.cn can x := ⟨_, rfl⟩
  rw [← hb]
  have z1 : w.cell? ⟨cb, x, none⟩ = some (.bool b) := by rw [hb]; exact h.cell hx
  have zf : w.frozen? ⟨cb, x, none⟩ = false := by simp [World.frozen?, h.cans]
  have zm := h.mind.2.1
  have hlt : cb < w.heap.size := lt_of_block h.cans
  clear h hb
  go_enter Try.func93, Try.ntmps93
  go_wp2_with fail
  cases b
  all_goals
    go_wp2_with fail
    go_ret
    have ht : Turned [cb] w (w.setCell ⟨cb, x, none⟩ (.bool true)) := Turned.setCell (a := ⟨cb, x, none⟩) (by simp) _
    exact ⟨by first | rfl | simp, HM.out.turned ht HM.out.set (by simp [HM.out.len]), ht⟩
end
end Go.Proofs.Ytlfgempjjoclbaa
