/- The walk of (msg.field).read. -/
import Derived.Test.YtjoanlhdocoddaaMsEnc
namespace Go.Proofs.Ytjoanlhdocoddaa
open Go.RowKit Go.Maps Go.ChangeMaps

/-- What read leaves. -/
def ReadTo (w0 : World) (b : Nat) (L : List (Nat × Obj)) (r : Sough.Msg × Nat × Nat) (e : Ending) (w' : World) : Prop :=
  e = .returned (.tuple #[.int .i64 r.2.1, .int .i64 r.2.2]) ∧ Mem w0 ((b, .cells (msgC r.1) 24 (0, 0)) :: L) w'

set_option maxRecDepth 100000 in
set_option maxHeartbeats 1600000 in
theorem read_text {w0 w : World} {b : Nat} {m : Sough.Msg} {f : Sough.Fld} {L : List (Nat × Obj)} {s : ByteArray} {k : Nat} (hM : Mem w0 ((b, .cells (msgC m) 24 (0, 0)) :: L) w) (hb : w0.heap.size ≤ b) (hL : ∀ p ∈ L, p.1 ≠ b) (h3 : f.c = 3) (hs : s.size ≤ maxLen) :
    Calls Try.prog 23 #[.agg (fldC b f).toArray, .string s, .int .i64 k] w (ReadTo w0 b L (Sough.readF s.data.toList m k f)) := by
  have hr : Sough.readF s.data.toList m k f = (⟨m.v, (Sough.getText s.data.toList k 8).1⟩, (Sough.getText s.data.toList k 8).2.1, (Sough.getText s.data.toList k 8).2.2) := by unfold Sough.readF; rw [if_pos h3]
  rw [hr]
  obtain ⟨n, p, er, hg⟩ : ∃ n p er, Sough.get s.data.toList k = (n, p, er) := ⟨_, _, _, rfl⟩
  have gb := get_bounds hg
  have CT := Lib.hid fun w => gett_walk (most := 8) hg w hs (by omega) (by simpa using gb.1) gb.2
  generalize Sough.getText s.data.toList k 8 = g at *
  clear hr hg gb hs
  unfold fldC
  rw [if_pos h3]
  have M := Lib.hid hM; have HL := Lib.hid hL; have HB := Lib.hid hb
  have MA : Hid (Mem w0 _ (w.alloc (.cells #[.int .u64 0, .int .u64 0, .pointer none, .pointer none, .pointer (some ⟨b, 3, none⟩)] 60))) := Lib.hid (hM.later ((Below.refl _ _).alloc (Nat.le_refl _) _))
  clear hM hL hb h3
  go_enter Try.func23, Try.ntmps23
  go_wp2_with fail
  have bx := heap_alloc_new w (.cells #[.int .u64 0, .int .u64 0, .pointer none, .pointer none, .pointer (some ⟨b, 3, none⟩)] 60)
  generalize w.alloc (.cells #[.int .u64 0, .int .u64 0, .pointer none, .pointer none, .pointer (some ⟨b, 3, none⟩)] 60) = W at *
  refine (CT.out W).mono ?_
  rintro e w1 ⟨rfl, hb1⟩
  have M1 := Lib.hid (MA.out.later hb1)
  have c4 := (cells5 ((hb1.block _ (lt_of_block bx)).trans bx)).2.2.2.2
  have mt := msg_text (M1.out.get 0 rfl)
  have oz := msg_frozen (i := 3) (M1.out.get 0 rfl)
  have M2 := Lib.hid (M1.out.set HB.out HL.out 3 (.string ⟨g.1.toArray⟩))
  clear hb1 bx MA M CT
  go_wp2_with fail
  go_ret2
  exact ⟨rfl, M2.out⟩

set_option maxRecDepth 100000 in
set_option maxHeartbeats 1600000 in
theorem read_num {w0 w : World} {b : Nat} {m : Sough.Msg} {f : Sough.Fld} {kk : Int} {L : List (Nat × Obj)} {s : ByteArray} {k : Nat} (hM : Mem w0 ((b, .cells (msgC m) 24 (0, 0)) :: L) w) (hb : w0.heap.size ≤ b) (hL : ∀ p ∈ L, p.1 ≠ b) (hf : f ∈ Sough.flds kk) (h3 : f.c ≠ 3) (hs : s.size ≤ maxLen) :
    Calls Try.prog 23 #[.agg (fldC b f).toArray, .string s, .int .i64 k] w (ReadTo w0 b L (Sough.readF s.data.toList m k f)) := by
  obtain ⟨n, p, er, hg⟩ : ∃ n p er, Sough.get s.data.toList k = (n, p, er) := ⟨_, _, _, rfl⟩
  have hr : Sough.readF s.data.toList m k f = if er = 0 ∧ 4294967296 < n then (m, p, 3) else if er = 0 then (⟨Sough.setV m.v f.c n, m.offer⟩, p, 0) else (m, p, er) := by unfold Sough.readF; rw [if_neg h3, hg]
  rw [hr]
  have CT := Lib.hid fun w => get_as hg w hs
  obtain ⟨c2, c3, em⟩ : ∃ c2 c3, fldC b f = [.int .u64 f.lo, .int .u64 f.hi, .pointer c2, .pointer c3, .pointer none] := by unfold fldC; rw [if_neg h3]; split <;> exact ⟨_, _, rfl⟩
  rw [em]
  have MA : Hid (Mem w0 _ (w.alloc (.cells #[.int .u64 f.lo, .int .u64 f.hi, .pointer c2, .pointer c3, .pointer none] 60))) := Lib.hid (hM.later ((Below.refl _ _).alloc (Nat.le_refl _) _))
  have HL := Lib.hid hL; have HB := Lib.hid hb; have HF := Lib.hid hf; have H3 := Lib.hid h3; have HEM := Lib.hid em
  clear hr hg hs hM hL hb hf h3 em
  by_cases he : er = 0
  · subst he
    by_cases hn : 4294967296 < n
    · have HN := Lib.hid hn
      rw [if_pos ⟨rfl, hn⟩]
      go_enter Try.func23, Try.ntmps23
      go_wp2_with fail
      generalize w.alloc (.cells #[.int .u64 f.lo, .int .u64 f.hi, .pointer c2, .pointer c3, .pointer none] 60) = W at *
      refine (CT.out W).mono ?_
      rintro e w1 ⟨rfl, hb1⟩
      have M1 := Lib.hid (MA.out.later hb1)
      clear hb1 MA CT
      go_wp2_with fail
      go_ret2
      exact ⟨rfl, M1.out⟩
    · rw [if_neg (fun h => hn h.2), if_pos rfl]
      go_enter Try.func23, Try.ntmps23
      go_wp2_with fail
      have bx := heap_alloc_new w (.cells #[.int .u64 f.lo, .int .u64 f.hi, .pointer c2, .pointer c3, .pointer none] 60)
      generalize w.alloc (.cells #[.int .u64 f.lo, .int .u64 f.hi, .pointer c2, .pointer c3, .pointer none] 60) = W at *
      refine (CT.out W).mono ?_
      rintro e w1 ⟨rfl, hb1⟩
      have M1 := Lib.hid (MA.out.later hb1)
      have rc := cells5 ((hb1.block _ (lt_of_block bx)).trans bx)
      have CS := set_num (b := b) (f := f) (x := n) w1 H3.out (msg_cell (M1.out.get 0 rfl) HF.out H3.out) (msg_frozen (M1.out.get 0 rfl)) (by omega)
      rw [HEM.out] at CS
      have CS' := Lib.hid CS
      clear hb1 bx MA CT CS
      go_wp2_with fail
      refine CS'.out.mono ?_
      rintro e w2 ⟨rfl, hb2⟩
      have M2 : Mem w0 _ w2 := (M1.out.set HB.out HL.out f.c (numC f.c n)).later (by rw [size_setCell]; exact hb2)
      rw [show (msgC m).setIfInBounds f.c (numC f.c n) = msgC ⟨Sough.setV m.v f.c n, m.offer⟩ from msg_set HF.out H3.out] at M2
      have M3 := Lib.hid M2
      clear M2 hb2 M1 rc CS'
      go_wp2_with fail
      go_ret2
      exact ⟨rfl, M3.out⟩
  · rw [if_neg (fun h => he h.1), if_neg he]
    go_enter Try.func23, Try.ntmps23
    go_wp2_with fail
    generalize w.alloc (.cells #[.int .u64 f.lo, .int .u64 f.hi, .pointer c2, .pointer c3, .pointer none] 60) = W at *
    refine (CT.out W).mono ?_
    rintro e w1 ⟨rfl, hb1⟩
    have M1 := Lib.hid (MA.out.later hb1)
    clear hb1 MA CT
    go_wp2_with fail
    go_ret2
    exact ⟨rfl, M1.out⟩

theorem read_as {w0 w : World} {b : Nat} {m : Sough.Msg} {f : Sough.Fld} {kk : Int} {L : List (Nat × Obj)} {s : ByteArray} {k : Nat} (hM : Mem w0 ((b, .cells (msgC m) 24 (0, 0)) :: L) w) (hb : w0.heap.size ≤ b) (hL : ∀ p ∈ L, p.1 ≠ b) (hf : f ∈ Sough.flds kk) (hs : s.size ≤ maxLen) :
    Calls Try.prog 23 #[.agg (fldC b f).toArray, .string s, .int .i64 k] w (ReadTo w0 b L (Sough.readF s.data.toList m k f)) := by
  by_cases h3 : f.c = 3
  · exact read_text hM hb hL h3 hs
  · exact read_num hM hb hL hf h3 hs

end Go.Proofs.Ytjoanlhdocoddaa
