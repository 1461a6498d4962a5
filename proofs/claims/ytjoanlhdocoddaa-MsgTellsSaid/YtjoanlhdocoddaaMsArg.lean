/- A message as an argument; the law's Cut. -/
import Derived.Test.YtjoanlhdocoddaaMsOnly
import Derived.Lib.SmallJoins
import Derived.Lib.MinMax
import Derived.ProofKit
import Derived.ChangeOld
namespace Go.Proofs.Ytjoanlhdocoddaa
open Go.RowKit Go.WideShapes

section
variable {H : Type} {enc : TypeId × Value → H} {W : World} {base b0 : Nat} {spare : Nat → Bool} {held : Bool} {r : Reach}
theorem msg_open {v : Value} {d : DataW H} {p : List MemPlace} (hv : Value.okWide Try.prog W r b0 24 v) (h : DataW.Trod enc Try.prog W base spare held 24 v d p) : ∃ m : Sough.Msg, v = .agg (msgC m) ∧ m.Wf := by
  obtain ⟨cs, rfl, hsz⟩ := okWide_struct Try.underlying24 hv
  obtain ⟨fuel, hf⟩ := h
  obtain ⟨xs, n, _, _, hl, hlen, hf⟩ := DataW.trod_struct Try.underlying24 hf
  have k1 : Try.prog.cellsOf 3 = 1 := by kernel_rfl
  have k2 : Try.prog.cellsOf 22 = 1 := by kernel_rfl
  have k3 : Try.prog.cellsOf 9 = 1 := by kernel_rfl
  have kc : Try.prog.cellsOf 24 = 13 := by kernel_rfl
  rw [kc] at hsz
  obtain ⟨l⟩ := cs
  match l, hsz, xs, hlen with
  | [c0, c1, c2, c3, c4, c5, c6, c7, c8, c9, c10, c11, c12], _, [y0, y1, y2, y3, y4, y5, y6, y7, y8, y9, y10, y11, y12], _ =>
    have f0 := hf 0 _ rfl; have f1 := hf 1 _ rfl; have f2 := hf 2 _ rfl; have f3 := hf 3 _ rfl; have f4 := hf 4 _ rfl; have f5 := hf 5 _ rfl; have f6 := hf 6 _ rfl
    have f7 := hf 7 _ rfl; have f8 := hf 8 _ rfl; have f9 := hf 9 _ rfl; have f10 := hf 10 _ rfl; have f11 := hf 11 _ rfl; have f12 := hf 12 _ rfl
    clear hf
    simp [Value.cells, k1, k2, k3] at f0 f1 f2 f3 f4 f5 f6 f7 f8 f9 f10 f11 f12
    obtain ⟨z0, e0, _, q0⟩ := DataW.trod_int Try.underlying3 f0
    obtain ⟨z1, e1, _, q1⟩ := DataW.trod_int Try.underlying22 f1
    obtain ⟨z2, e2, _, q2⟩ := DataW.trod_int Try.underlying22 f2
    obtain ⟨z3, e3, _, q3⟩ := DataW.trod_string Try.underlying9 f3
    obtain ⟨z4, e4, _, q4⟩ := DataW.trod_int Try.underlying3 f4
    obtain ⟨z5, e5, _, q5⟩ := DataW.trod_int Try.underlying3 f5
    obtain ⟨z6, e6, _, q6⟩ := DataW.trod_int Try.underlying3 f6
    obtain ⟨z7, e7, _, q7⟩ := DataW.trod_int Try.underlying3 f7
    obtain ⟨z8, e8, _, q8⟩ := DataW.trod_int Try.underlying3 f8
    obtain ⟨z9, e9, _, q9⟩ := DataW.trod_int Try.underlying3 f9
    obtain ⟨z10, e10, _, q10⟩ := DataW.trod_int Try.underlying3 f10
    obtain ⟨z11, e11, _, q11⟩ := DataW.trod_int Try.underlying22 f11
    obtain ⟨z12, e12, _, q12⟩ := DataW.trod_int Try.underlying22 f12
    simp only [List.cons.injEq, and_true] at e0 e1 e2 e3 e4 e5 e6 e7 e8 e9 e10 e11 e12
    subst e0 e1 e2 e3 e4 e5 e6 e7 e8 e9 e10 e11 e12
    refine ⟨⟨fun c => if c = 0 then z0 else if c = 1 then z1 else if c = 2 then z2 else if c = 4 then z4 else if c = 5 then z5 else if c = 6 then z6 else if c = 7 then z7 else if c = 8 then z8 else if c = 9 then z9 else if c = 10 then z10 else if c = 11 then z11 else z12, z3.data.toList⟩, ?_, ?_⟩
    · simp only [msgC, bytes_toArray]
      rfl
    · have b0 := bounds_i64 q0; have b4 := bounds_i64 q4; have b5 := bounds_i64 q5; have b6 := bounds_i64 q6; have b7 := bounds_i64 q7; have b8 := bounds_i64 q8; have b9 := bounds_i64 q9; have b10 := bounds_i64 q10
      have b1 := bounds_u64 q1; have b2 := bounds_u64 q2; have b11 := bounds_u64 q11; have b12 := bounds_u64 q12
      refine ⟨fun c hc => ?_, fun c hc => ?_, ?_⟩
      · simp only [List.mem_cons, List.not_mem_nil, or_false] at hc
        rcases hc with rfl | rfl | rfl | rfl | rfl | rfl | rfl | rfl <;> simp <;> omega
      · simp only [List.mem_cons, List.not_mem_nil, or_false] at hc
        rcases hc with rfl | rfl | rfl | rfl <;> simp <;> omega
      · have : z3.size ≤ 9223372036854775807 := q3
        simpa using this
end

/-- With an offer of at most 30 bytes. -/
def cutM (m : Sough.Msg) : Sough.Msg := ⟨m.v, m.offer.take 30⟩
theorem cut_wf {m : Sough.Msg} (h : m.Wf) : (cutM m).Wf := ⟨h.ints, h.nats, by have := h.text; simp only [cutM, List.length_take]; omega⟩
theorem cut_str (l : List UInt8) : (⟨l.toArray⟩ : ByteArray).extract 0 (min (l.length : Int) 30).toNat = ⟨(l.take 30).toArray⟩ := by
  rw [show (min (l.length : Int) 30).toNat = min l.length 30 by omega]
  have h := extract_eq ⟨l.toArray⟩ 0 (min l.length 30)
  rw [Nat.zero_add] at h
  rw [h]
  congr 2
  simp only [List.drop_zero]
  by_cases hl : l.length ≤ 30
  · rw [Nat.min_eq_left hl, List.take_of_length_le (Nat.le_refl _), List.take_of_length_le hl]
  · rw [Nat.min_eq_right (by omega)]

set_option maxRecDepth 100000 in
set_option maxHeartbeats 1600000 in
theorem cut_any (m : Sough.Msg) (w : World) (hwf : m.Wf) : Calls Try.prog 9 #[.agg (msgC m)] w fun e w' => e = .returned (.agg (msgC (cutM m))) ∧ Below w.heap.size w w' := by
  have ht : (⟨m.offer.toArray⟩ : ByteArray).size ≤ 9223372036854775807 := hwf.text
  have hsz : (⟨m.offer.toArray⟩ : ByteArray).size = m.offer.length := rfl
  have hc := cut_str m.offer
  unfold msgC
  go_enter Try.func9, Try.ntmps9
  go_wp2_with fail
  refine bodyPost_ret (v := .agg #[.int .i64 ((cutM m).v 0), .int .u64 ((cutM m).v 1), .int .u64 ((cutM m).v 2), .string ⟨(cutM m).offer.toArray⟩, .int .i64 ((cutM m).v 4), .int .i64 ((cutM m).v 5), .int .i64 ((cutM m).v 6), .int .i64 ((cutM m).v 7), .int .i64 ((cutM m).v 8), .int .i64 ((cutM m).v 9), .int .i64 ((cutM m).v 10), .int .u64 ((cutM m).v 11), .int .u64 ((cutM m).v 12)]) (by simp [results, Try.results9, go_sem, cutM]) rfl ⟨rfl, ?_⟩
  exact ((Below.refl _ _).alloc (Nat.le_refl _) _).alloc (by simp) _

end Go.Proofs.Ytjoanlhdocoddaa
