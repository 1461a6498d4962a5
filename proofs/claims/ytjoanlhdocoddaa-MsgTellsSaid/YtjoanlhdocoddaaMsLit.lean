/- Decode, Encode, Right at messages written out; Names; soughref02.Same. -/
import Derived.Test.YtjoanlhdocoddaaMsDec2
namespace Sough
/-- The messages that 'fixed' looks at. -/
def dM : Msg := ⟨fun c => if c = 0 then 4 else if c = 2 then 5 else if c = 12 then 2 else if c = 9 then 300 else 0, []⟩
def dM1 : Msg := ⟨fun c => if c = 0 then 4 else if c = 2 then 5 else if c = 12 then 2 else if c = 9 then 300 else if c = 6 then 1 else 0, []⟩
def iM : Msg := ⟨fun c => if c = 0 then 1 else if c = 1 then 7 else if c = 4 then 1 else if c = 6 then 1 else if c = 7 then 2 else if c = 8 then 3 else if c = 9 then 4 else if c = 10 then 5 else 0, [2, 1]⟩
theorem dM_wf : dM.Wf := ⟨by decide, by decide, by decide⟩
theorem dM1_wf : dM1.Wf := ⟨by decide, by decide, by decide⟩
theorem iM_wf : iM.Wf := ⟨by decide, by decide, by decide⟩
theorem zero_wf : zeroMsg.Wf := ⟨by decide, by decide, by decide⟩
theorem enc_d : dM.encode = [4, 5, 0, 2, 130, 44] := by decide +kernel
theorem enc_i : iM.encode = [1, 7, 2, 2, 1, 1, 1, 2, 3, 4, 5] := by decide +kernel
theorem right_d : dM.right = true := by decide +kernel
theorem right_d1 : dM1.right = false := by decide +kernel
theorem right_z : zeroMsg.right = false := by decide +kernel
theorem same_of {a b : Msg} (h : a.same b = true) : (∀ c ∈ cellsN, a.v c = b.v c) ∧ a.offer = b.offer := by
  unfold Msg.same at h
  rw [Bool.and_eq_true, List.all_eq_true, decide_eq_true_eq] at h
  exact ⟨fun c hc => by simpa using h.1 c hc, h.2⟩
end Sough
namespace Go.Proofs.Ytjoanlhdocoddaa
open Go.RowKit Go.Maps Go.ChangeMaps

theorem msgC_same {a b : Sough.Msg} (h : a.same b = true) : msgC a = msgC b := by
  obtain ⟨h1, h2⟩ := Sough.same_of h
  unfold msgC
  rw [h1 0 (by decide), h1 1 (by decide), h1 2 (by decide), h1 4 (by decide), h1 5 (by decide), h1 6 (by decide), h1 7 (by decide), h1 8 (by decide), h1 9 (by decide), h1 10 (by decide), h1 11 (by decide), h1 12 (by decide), h2]
/-- Decode of known bytes. -/
theorem dec_lit {l : List UInt8} {m : Sough.Msg} {er : Nat} (hm : (Sough.decodeM l).1.same m = true) (he : (Sough.decodeM l).2 = er) (w : World) (hl : l.length ≤ 5000) :
    Calls Try.prog 10 #[.string ⟨l.toArray⟩] w fun e w' => e = .returned (.tuple #[.agg #[.int .i64 (m.v 0), .int .u64 (m.v 1), .int .u64 (m.v 2), .string ⟨m.offer.toArray⟩, .int .i64 (m.v 4), .int .i64 (m.v 5), .int .i64 (m.v 6), .int .i64 (m.v 7), .int .i64 (m.v 8), .int .i64 (m.v 9), .int .i64 (m.v 10), .int .u64 (m.v 11), .int .u64 (m.v 12)], .int .i64 er]) ∧ Below w.heap.size w w' := by
  refine (dec_as (s := ⟨l.toArray⟩) (r := Sough.decodeM l) rfl w (by rw [mk_size]; unfold maxLen; omega)).mono ?_
  rintro e w' ⟨rfl, hb⟩
  rw [msgC_same hm, he]
  exact ⟨rfl, hb⟩

theorem dec1 : (Sough.decodeM [4, 5, 0, 2, 130, 44]).1.same Sough.dM = true ∧ (Sough.decodeM [4, 5, 0, 2, 130, 44]).2 = 0 := by decide +kernel
theorem dec2 : (Sough.decodeM [1, 7, 2, 2, 1, 1, 1, 2, 3, 4, 5]).1.same Sough.iM = true ∧ (Sough.decodeM [1, 7, 2, 2, 1, 1, 1, 2, 3, 4, 5]).2 = 0 := by decide +kernel
theorem dec3 : (Sough.decodeM [1, 7, 2, 2, 1, 1, 1, 2, 3, 4, 5, 120]).1.same Sough.zeroMsg = true ∧ (Sough.decodeM [1, 7, 2, 2, 1, 1, 1, 2, 3, 4, 5, 120]).2 = 3 := by decide +kernel
theorem dec4 : (Sough.decodeM [5]).1.same Sough.zeroMsg = true ∧ (Sough.decodeM [5]).2 = 3 := by decide +kernel
theorem dec5 : (Sough.decodeM [4, 5]).1.same Sough.zeroMsg = true ∧ (Sough.decodeM [4, 5]).2 = 2 := by decide +kernel
theorem dec6 : (Sough.decodeM [3, 5, 0]).1.same Sough.zeroMsg = true ∧ (Sough.decodeM [3, 5, 0]).2 = 3 := by decide +kernel

def namesL (m : Sough.Msg) : List Int := if m.v 0 = 1 then [m.v 6, m.v 7, m.v 8, m.v 9, m.v 10] else if m.v 0 = 2 then [m.v 6, m.v 8, m.v 9] else if m.v 0 = 4 then [m.v 9] else []
/-- A slice of integers: nil, or a row of its own. -/
def IntsTo (w : World) (l : List Int) (e : Ending) (w' : World) : Prop :=
  Below w.heap.size w w' ∧ ((l = [] ∧ e = .returned (.slice none 0 0)) ∨ (l ≠ [] ∧ ∃ g, e = .returned (.slice (some ⟨g, 0, none⟩) l.length l.length) ∧ w.heap.size ≤ g ∧ w'.heap[g]? = some (.cells (l.map (Value.int .i64)).toArray 3 (0, 0))))

theorem names_new (w : World) (o p : Obj) : ((w.alloc o).alloc p).heap[w.heap.size + 1]? = some p := by
  have := heap_alloc_new (w.alloc o) p
  rwa [World.size_alloc] at this

set_option maxRecDepth 100000 in
set_option maxHeartbeats 1600000 in
theorem names_any (m : Sough.Msg) (w : World) : Calls Try.prog 18 #[.agg (msgC m)] w (IntsTo w (namesL m)) := by
  have hl : namesL m = namesL m := rfl
  unfold msgC
  by_cases h1 : m.v 0 = 1
  · have hl : namesL m = [m.v 6, m.v 7, m.v 8, m.v 9, m.v 10] := by unfold namesL; rw [if_pos h1]
    rw [hl]
    go_enter Try.func18, Try.ntmps18
    go_wp2_with fail
    go_ret
    refine ⟨((Below.refl _ _).alloc (Nat.le_refl _) _).alloc (by simp) _, .inr ⟨by simp, _, rfl, by simp, ?_⟩⟩
    exact names_new _ _ _
  · by_cases h2 : m.v 0 = 2
    · have hl : namesL m = [m.v 6, m.v 8, m.v 9] := by unfold namesL; rw [if_neg h1, if_pos h2]
      rw [hl]
      go_enter Try.func18, Try.ntmps18
      go_wp2_with fail
      go_ret
      refine ⟨((Below.refl _ _).alloc (Nat.le_refl _) _).alloc (by simp) _, .inr ⟨by simp, _, rfl, by simp, ?_⟩⟩
      exact names_new _ _ _
    · by_cases h4 : m.v 0 = 4
      · have hl : namesL m = [m.v 9] := by unfold namesL; rw [if_neg h1, if_neg h2, if_pos h4]
        rw [hl]
        go_enter Try.func18, Try.ntmps18
        go_wp2_with fail
        go_ret
        refine ⟨((Below.refl _ _).alloc (Nat.le_refl _) _).alloc (by simp) _, .inr ⟨by simp, _, rfl, by simp, ?_⟩⟩
        exact names_new _ _ _
      · have hl : namesL m = [] := by unfold namesL; rw [if_neg h1, if_neg h2, if_neg h4]
        rw [hl]
        go_enter Try.func18, Try.ntmps18
        go_wp2_with fail
        go_ret
        exact ⟨(Below.refl _ _).alloc (Nat.le_refl _) _, .inl ⟨rfl, rfl⟩⟩

end Go.Proofs.Ytjoanlhdocoddaa
