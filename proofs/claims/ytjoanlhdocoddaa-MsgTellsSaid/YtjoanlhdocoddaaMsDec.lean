/- The walk of msg.Decode. -/
import Derived.Test.YtjoanlhdocoddaaMsRead
namespace Sough

theorem getText_len (s : List UInt8) (k most : Int) : ((getText s k most).1.length : Int) ≤ max 0 most := by
  unfold getText
  simp only
  split
  · simp; omega
  · split
    · simp; omega
    · split
      · simp; omega
      · rename_i h _
        simp only [List.length_take]
        omega
theorem Wf.set {m : Msg} (h : m.Wf) {f : Fld} {n : Nat} (hn : n ≤ 4294967296) : Msg.Wf ⟨setV m.v f.c n, m.offer⟩ :=
  ⟨fun c hc => by
      have := h.ints c hc
      simp only [setV]; split <;> omega,
    fun c hc => by
      have := h.nats c hc
      simp only [setV]; split <;> omega, h.text⟩
theorem Wf.read {m : Msg} (h : m.Wf) {s : List UInt8} {k : Nat} {f : Fld} : (readF s m k f).1.Wf := by
  unfold readF
  split
  · refine ⟨h.ints, h.nats, ?_⟩
    have := getText_len s k 8
    show (getText s k 8).1.length ≤ _
    omega
  · split
    · exact h
    · split
      · rename_i h1 h2
        exact Wf.set h (by omega)
      · exact h
theorem Wf.kind {k : Nat} (hk : k ≤ 4) : (kindMsg k).Wf :=
  ⟨fun c _ => by simp only [kindMsg]; split <;> omega, fun c _ => by simp only [kindMsg]; split <;> omega, by simp [kindMsg]⟩
theorem readAll_drop {s : List UInt8} {m : Msg} {k i : Nat} {l : List Fld} (hi : i < l.length) : readAll s m k (l.drop i) = if (readF s m k l[i]).2.2 = 0 then readAll s (readF s m k l[i]).1 (readF s m k l[i]).2.1 (l.drop (i + 1)) else readF s m k l[i] := by
  rw [List.drop_eq_getElem_cons hi]; rfl
end Sough
namespace Go.Proofs.Ytjoanlhdocoddaa
open Go.RowKit Go.Maps Go.ChangeMaps

/-- So many fields are read. -/
def DecR (w : World) (s : List UInt8) (l : List Sough.Fld) (r0 : Sough.Msg × Nat × Nat) (b gm : Nat) (pv ev iv : Value) (wr : World) : Prop :=
  ∃ (i p : Nat) (m : Sough.Msg), i ≤ l.length ∧ pv = .int .i64 p ∧ ev = .int .i64 0 ∧ iv = .int .i64 i ∧ m.Wf ∧ Sough.readAll s m p (l.drop i) = r0 ∧
    Mem w [(b, .cells (msgC m) 24 (0, 0)), (gm, .cells (rowC b l) 60 (0, 0)), (w.heap.size, .cells (msgC Sough.zeroMsg) 24 (0, 0))] wr

def DecTo (w : World) (r : Sough.Msg × Nat) (e : Ending) (w' : World) : Prop := e = .returned (.tuple #[.agg (msgC r.1), .int .i64 r.2]) ∧ Below w.heap.size w w'


set_option maxRecDepth 100000 in
set_option maxHeartbeats 1600000 in
theorem dec_early {s : ByteArray} (w : World) (hs : s.size ≤ maxLen) (h : 4096 < s.size ∨ (Sough.get s.data.toList 0).2.2 ≠ 0 ∨ (Sough.get s.data.toList 0).1 < 1 ∨ 5 ≤ (Sough.get s.data.toList 0).1) :
    Calls Try.prog 10 #[.string s] w (DecTo w (Sough.decodeM s.data.toList)) := by
  have hsz : s.data.toList.length = s.size := by simp
  by_cases hbig : 4096 < s.size
  · have hd : Sough.decodeM s.data.toList = (Sough.zeroMsg, 4) := by unfold Sough.decodeM; rw [if_pos (by omega)]
    rw [hd]
    clear h hd hs
    go_enter Try.func10, Try.ntmps10
    go_wp2_with fail
    refine bodyPost_ret (v := .tuple #[.agg #[.int .i64 0, .int .u64 0, .int .u64 0, .string ⟨#[]⟩, .int .i64 0, .int .i64 0, .int .i64 0, .int .i64 0, .int .i64 0, .int .i64 0, .int .i64 0, .int .u64 0, .int .u64 0], .int .i64 4]) (by simp [results, Try.results10, go_sem]) rfl ⟨rfl, (Below.refl _ _).alloc (Nat.le_refl _) _⟩
  · obtain ⟨n, p, er, hg⟩ : ∃ n p er, Sough.get s.data.toList 0 = (n, p, er) := ⟨_, _, _, rfl⟩
    rw [hg] at h
    simp only at h
    have CT := Lib.hid fun w => get_as hg w hs
    have M0 : Hid (Mem w [(w.heap.size, .cells (msgC Sough.zeroMsg) 24 (0, 0))] (w.alloc (.cells #[.int .i64 0, .int .u64 0, .int .u64 0, .string ⟨#[]⟩, .int .i64 0, .int .i64 0, .int .i64 0, .int .i64 0, .int .i64 0, .int .i64 0, .int .i64 0, .int .u64 0, .int .u64 0] 24))) := Lib.hid ((Mem.start w).alloc _)
    by_cases he : er = 0
    · subst he
      have hn : n < 1 ∨ 5 ≤ n := by omega
      have hd : Sough.decodeM s.data.toList = (Sough.zeroMsg, 3) := by
        unfold Sough.decodeM
        rw [if_neg (by omega), hg]
        simp only
        rw [if_neg (by simp), if_pos hn]
      rw [hd]
      clear hd h hg
      have HS := Lib.hid hs
      clear hs
      go_enter Try.func10, Try.ntmps10
      go_wp2_with fail
      generalize w.alloc (.cells #[.int .i64 0, .int .u64 0, .int .u64 0, .string ⟨#[]⟩, .int .i64 0, .int .i64 0, .int .i64 0, .int .i64 0, .int .i64 0, .int .i64 0, .int .i64 0, .int .u64 0, .int .u64 0] 24) = W at *
      refine (CT.out W).mono ?_
      rintro e w1 ⟨rfl, hb1⟩
      have M1 := Lib.hid (M0.out.later hb1)
      clear hb1 M0 CT
      by_cases h1 : n < 1
      · skip
        have hz : w1.heap[w.heap.size]? = some (.cells (msgC Sough.zeroMsg) 24 (0, 0)) := M1.out.get 0 rfl
        have MZ : Hid (Mem w [(w.heap.size, .cells #[.int .i64 0, .int .u64 0, .int .u64 0, .string ⟨#[]⟩, .int .i64 0, .int .i64 0, .int .i64 0, .int .i64 0, .int .i64 0, .int .i64 0, .int .i64 0, .int .u64 0, .int .u64 0] 24 (0, 0))] w1) := Lib.hid ((Mem.with ⟨M1.out.bel, fun _ h => absurd h (by simp)⟩ hz))
        have rz := MZ.out.rules; simp only [AllCells, CellsAt, Nat.zero_add, Nat.reduceAdd] at rz
        have HBL := Lib.hid (put13_below (m := Sough.zeroMsg) M1.out.bel (Nat.le_refl w.heap.size))
        have HZ := Lib.hid (cells13 (put13_heap (m := Sough.zeroMsg) hz))
        clear hz MZ
        go_wp2_with fail
        change bodyPost _ _ _ _ _ (put13 w1 w.heap.size Sough.zeroMsg)
        clear rz
        generalize put13 w1 w.heap.size Sough.zeroMsg = WW at *
        have rz := HZ.out
        refine bodyPost_ret (v := .tuple #[.agg #[.int .i64 0, .int .u64 0, .int .u64 0, .string ⟨#[]⟩, .int .i64 0, .int .i64 0, .int .i64 0, .int .i64 0, .int .i64 0, .int .i64 0, .int .i64 0, .int .u64 0, .int .u64 0], .int .i64 (3 : Nat)]) (by simp [results, Try.results10, go_sem, rz, Sough.zeroMsg]) rfl ?_
        exact ⟨rfl, HBL.out⟩
      · have h5 : 5 ≤ n := by omega
        have hz : w1.heap[w.heap.size]? = some (.cells (msgC Sough.zeroMsg) 24 (0, 0)) := M1.out.get 0 rfl
        have MZ : Hid (Mem w [(w.heap.size, .cells #[.int .i64 0, .int .u64 0, .int .u64 0, .string ⟨#[]⟩, .int .i64 0, .int .i64 0, .int .i64 0, .int .i64 0, .int .i64 0, .int .i64 0, .int .i64 0, .int .u64 0, .int .u64 0] 24 (0, 0))] w1) := Lib.hid ((Mem.with ⟨M1.out.bel, fun _ h => absurd h (by simp)⟩ hz))
        have rz := MZ.out.rules; simp only [AllCells, CellsAt, Nat.zero_add, Nat.reduceAdd] at rz
        have HBL := Lib.hid (put13_below (m := Sough.zeroMsg) M1.out.bel (Nat.le_refl w.heap.size))
        have HZ := Lib.hid (cells13 (put13_heap (m := Sough.zeroMsg) hz))
        clear hz MZ
        go_wp2_with fail
        change bodyPost _ _ _ _ _ (put13 w1 w.heap.size Sough.zeroMsg)
        clear rz
        generalize put13 w1 w.heap.size Sough.zeroMsg = WW at *
        have rz := HZ.out
        refine bodyPost_ret (v := .tuple #[.agg #[.int .i64 0, .int .u64 0, .int .u64 0, .string ⟨#[]⟩, .int .i64 0, .int .i64 0, .int .i64 0, .int .i64 0, .int .i64 0, .int .i64 0, .int .i64 0, .int .u64 0, .int .u64 0], .int .i64 (3 : Nat)]) (by simp [results, Try.results10, go_sem, rz, Sough.zeroMsg]) rfl ?_
        exact ⟨rfl, HBL.out⟩
    · have hd : Sough.decodeM s.data.toList = (Sough.zeroMsg, er) := by
        unfold Sough.decodeM
        rw [if_neg (by omega), hg]
        simp only
        rw [if_pos he]
      rw [hd]
      clear hd h hg
      have HS := Lib.hid hs
      clear hs
      go_enter Try.func10, Try.ntmps10
      go_wp2_with fail
      generalize w.alloc (.cells #[.int .i64 0, .int .u64 0, .int .u64 0, .string ⟨#[]⟩, .int .i64 0, .int .i64 0, .int .i64 0, .int .i64 0, .int .i64 0, .int .i64 0, .int .i64 0, .int .u64 0, .int .u64 0] 24) = W at *
      refine (CT.out W).mono ?_
      rintro e w1 ⟨rfl, hb1⟩
      have M1 := Lib.hid (M0.out.later hb1)
      clear hb1 M0 CT
      have hz : w1.heap[w.heap.size]? = some (.cells (msgC Sough.zeroMsg) 24 (0, 0)) := M1.out.get 0 rfl
      have MZ : Hid (Mem w [(w.heap.size, .cells #[.int .i64 0, .int .u64 0, .int .u64 0, .string ⟨#[]⟩, .int .i64 0, .int .i64 0, .int .i64 0, .int .i64 0, .int .i64 0, .int .i64 0, .int .i64 0, .int .u64 0, .int .u64 0] 24 (0, 0))] w1) := Lib.hid ((Mem.with ⟨M1.out.bel, fun _ h => absurd h (by simp)⟩ hz))
      have rz := MZ.out.rules; simp only [AllCells, CellsAt, Nat.zero_add, Nat.reduceAdd] at rz
      have HBL := Lib.hid (put13_below (m := Sough.zeroMsg) M1.out.bel (Nat.le_refl w.heap.size))
      have HZ := Lib.hid (cells13 (put13_heap (m := Sough.zeroMsg) hz))
      clear hz MZ
      go_wp2_with fail
      change bodyPost _ _ _ _ _ (put13 w1 w.heap.size Sough.zeroMsg)
      clear rz
      generalize put13 w1 w.heap.size Sough.zeroMsg = WW at *
      have rz := HZ.out
      refine bodyPost_ret (v := .tuple #[.agg #[.int .i64 0, .int .u64 0, .int .u64 0, .string ⟨#[]⟩, .int .i64 0, .int .i64 0, .int .i64 0, .int .i64 0, .int .i64 0, .int .i64 0, .int .i64 0, .int .u64 0, .int .u64 0], .int .i64 (er : Nat)]) (by simp [results, Try.results10, go_sem, rz, Sough.zeroMsg]) rfl ?_
      exact ⟨rfl, HBL.out⟩

end Go.Proofs.Ytjoanlhdocoddaa
