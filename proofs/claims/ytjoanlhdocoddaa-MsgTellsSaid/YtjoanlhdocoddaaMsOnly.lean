/- The walk of (msg.Msg).only. -/
import Derived.Test.YtjoanlhdocoddaaMsSet
import Derived.Test.YtjoanlhdocoddaaRegTail
import Derived.Deep.RegionHeld3
import Derived.StillTailTactics
import Derived.Outline
import Derived.Deep.WholeRow
import Derived.Laws.CopyOwn
namespace Go.Proofs.Ytjoanlhdocoddaa
open Go.RowKit Go.Maps Go.ChangeMaps

theorem fields_as {b : Nat} {m : Sough.Msg} {k : Int} (w : World) (hm : m.v 0 = k) (hb : w.heap[b]? = some (.cells (msgC m) 24 (0, 0))) (hk : (Lit.int .i64 k).wf = true) :
    Calls Try.prog 22 #[.pointer (some ⟨b, 0, none⟩)] w (FieldsTo w b k) := by
  subst hm; exact fields_any w hb hk
theorem fldC_len (b : Nat) (f : Sough.Fld) : (fldC b f).length = 5 := by unfold fldC; split <;> (try split) <;> rfl
theorem row_get {b : Nat} : ∀ {l : List Sough.Fld} {i j : Nat}, i < l.length → j < 5 → (l.flatMap (fldC b))[i * 5 + j]? = (fldC b (l.getD i ⟨0, 0, 0⟩))[j]?
  | [], i, _, h, _ => absurd h (by simp)
  | f :: l, 0, j, _, hj => by
    rw [List.flatMap_cons, Nat.zero_mul, Nat.zero_add, List.getElem?_append_left (by rw [fldC_len]; exact hj)]
    rfl
  | f :: l, i + 1, j, h, hj => by
    rw [List.flatMap_cons, List.getElem?_append_right (by rw [fldC_len]; omega), fldC_len, show (i + 1) * 5 + j - 5 = i * 5 + j by omega]
    exact row_get (by simpa using h) hj
/-- The five cells of a field in its row. -/
theorem row_cells {w : World} {g b i : Nat} {l : List Sough.Fld} {T : TypeId} (h : w.heap[g]? = some (.cells (rowC b l) T (0, 0))) (hi : i < l.length) {c0 c1 c2 c3 c4 : Value} (hf : fldC b (l.getD i ⟨0, 0, 0⟩) = [c0, c1, c2, c3, c4]) :
    w.cell? ⟨g, i * 5, none⟩ = some c0 ∧ w.cell? ⟨g, i * 5 + 1, none⟩ = some c1 ∧ w.cell? ⟨g, i * 5 + 2, none⟩ = some c2 ∧ w.cell? ⟨g, i * 5 + 3, none⟩ = some c3 ∧ w.cell? ⟨g, i * 5 + 4, none⟩ = some c4 := by
  have r := fun j (hj : j < 5) => row_get (b := b) (l := l) (i := i) (j := j) hi hj
  rw [hf] at r
  have cc : ∀ j, w.cell? ⟨g, j, none⟩ = (l.flatMap (fldC b))[j]? := fun j => by simp [World.cell?, h, rowC]
  rw [cc, cc, cc, cc, cc]
  exact ⟨r 0 (by omega), r 1 (by omega), r 2 (by omega), r 3 (by omega), r 4 (by omega)⟩
theorem msg_cell {w : World} {b : Nat} {m : Sough.Msg} {T : TypeId} (h : w.heap[b]? = some (.cells (msgC m) T (0, 0))) {f : Sough.Fld} {k : Int} (hf : f ∈ Sough.flds k) (h3 : f.c ≠ 3) : w.cell? ⟨b, f.c, none⟩ = some (numC f.c (m.v f.c)) := by
  rcases Sough.cell_cases hf with e | e | e | e | e | e | e | e | e | e | e | e <;> rw [e] at h3 ⊢ <;> first | (simp [World.cell?, h, msgC, numC, Sough.u64cell]; done) | exact absurd rfl h3
theorem msg_text {w : World} {b : Nat} {m : Sough.Msg} {T : TypeId} (h : w.heap[b]? = some (.cells (msgC m) T (0, 0))) : w.cell? ⟨b, 3, none⟩ = some (.string ⟨m.offer.toArray⟩) := by simp [World.cell?, h, msgC]
theorem msg_frozen {w : World} {b i : Nat} {m : Sough.Msg} {T : TypeId} (h : w.heap[b]? = some (.cells (msgC m) T (0, 0))) : w.frozen? ⟨b, i, none⟩ = false := by simp [World.frozen?, h]
/-- A number is stored. -/
theorem msg_set {v : Nat → Int} {o : List UInt8} {f : Sough.Fld} {k x : Int} (hf : f ∈ Sough.flds k) (h3 : f.c ≠ 3) : (msgC ⟨v, o⟩).setIfInBounds f.c (numC f.c x) = msgC ⟨Sough.setV v f.c x, o⟩ := by
  rcases Sough.cell_cases hf with e | e | e | e | e | e | e | e | e | e | e | e <;> rw [e] at h3 ⊢ <;> first | rfl | exact absurd rfl h3
theorem msg_setText {v : Nat → Int} {o t : List UInt8} : (msgC ⟨v, o⟩).setIfInBounds 3 (.string ⟨t.toArray⟩) = msgC ⟨v, t⟩ := rfl

theorem cells5 {w : World} {p : Nat} {a b c d e : Value} {T : TypeId} (h : w.heap[p]? = some (.cells #[a, b, c, d, e] T (0, 0))) :
    w.cell? ⟨p, 0, none⟩ = some a ∧ w.cell? ⟨p, 1, none⟩ = some b ∧ w.cell? ⟨p, 2, none⟩ = some c ∧ w.cell? ⟨p, 3, none⟩ = some d ∧ w.cell? ⟨p, 4, none⟩ = some e := by
  simp [World.cell?, h]
/-- A message, stored cell by cell. -/
def put13 (W : World) (b : Nat) (m : Sough.Msg) : World :=
  ((((((((((((W.setCell ⟨b, 0, none⟩ (.int .i64 (m.v 0))).setCell ⟨b, 1, none⟩ (.int .u64 (m.v 1))).setCell ⟨b, 2, none⟩ (.int .u64 (m.v 2))).setCell ⟨b, 3, none⟩ (.string ⟨m.offer.toArray⟩)).setCell ⟨b, 4, none⟩ (.int .i64 (m.v 4))).setCell ⟨b, 5, none⟩ (.int .i64 (m.v 5))).setCell ⟨b, 6, none⟩ (.int .i64 (m.v 6))).setCell ⟨b, 7, none⟩ (.int .i64 (m.v 7))).setCell ⟨b, 8, none⟩ (.int .i64 (m.v 8))).setCell ⟨b, 9, none⟩ (.int .i64 (m.v 9))).setCell ⟨b, 10, none⟩ (.int .i64 (m.v 10))).setCell ⟨b, 11, none⟩ (.int .u64 (m.v 11))).setCell ⟨b, 12, none⟩ (.int .u64 (m.v 12))
theorem put13_heap {W : World} {b : Nat} {m0 m : Sough.Msg} {T : TypeId} (h : W.heap[b]? = some (.cells (msgC m0) T (0, 0))) : (put13 W b m).heap[b]? = some (.cells #[.int .i64 (m.v 0), .int .u64 (m.v 1), .int .u64 (m.v 2), .string ⟨m.offer.toArray⟩, .int .i64 (m.v 4), .int .i64 (m.v 5), .int .i64 (m.v 6), .int .i64 (m.v 7), .int .i64 (m.v 8), .int .i64 (m.v 9), .int .i64 (m.v 10), .int .u64 (m.v 11), .int .u64 (m.v 12)] T (0, 0)) := by
  have hs := fun {W : World} {cs : Array Value} (h : W.heap[b]? = some (.cells cs T (0, 0))) (i : Nat) (v : Value) => show (W.setCell ⟨b, i, none⟩ v).heap[b]? = some (.cells (cs.setIfInBounds i v) T (0, 0)) by simp [World.setCell, Array.getElem?_modify, h]
  have := hs (hs (hs (hs (hs (hs (hs (hs (hs (hs (hs (hs (hs h 0 (.int .i64 (m.v 0))) 1 (.int .u64 (m.v 1))) 2 (.int .u64 (m.v 2))) 3 (.string ⟨m.offer.toArray⟩)) 4 (.int .i64 (m.v 4))) 5 (.int .i64 (m.v 5))) 6 (.int .i64 (m.v 6))) 7 (.int .i64 (m.v 7))) 8 (.int .i64 (m.v 8))) 9 (.int .i64 (m.v 9))) 10 (.int .i64 (m.v 10))) 11 (.int .u64 (m.v 11))) 12 (.int .u64 (m.v 12))
  unfold put13
  simpa only [msgC, List.setIfInBounds_toArray, List.set_cons_succ, List.set_cons_zero] using this
theorem put13_other {W : World} {b k : Nat} {m : Sough.Msg} (h : k ≠ b) : (put13 W b m).heap[k]? = W.heap[k]? := by
  unfold put13
  repeat rw [Below.heap_setCell _ _ _ _ h]
theorem put13_below {B b : Nat} {w W : World} {m : Sough.Msg} (h : Below B w W) (hb : B ≤ b) : Below B w (put13 W b m) := by
  unfold put13
  repeat refine Below.setCell ?_ hb _
  exact h
theorem cell_ne0 {f : Sough.Fld} {k : Int} (hf : f ∈ Sough.flds k) : f.c ≠ 0 := by
  rcases Sough.cell_cases hf with e | e | e | e | e | e | e | e | e | e | e | e <;> omega
theorem cells13 {W : World} {b : Nat} {m : Sough.Msg} {T : TypeId} (h : W.heap[b]? = some (.cells #[.int .i64 (m.v 0), .int .u64 (m.v 1), .int .u64 (m.v 2), .string ⟨m.offer.toArray⟩, .int .i64 (m.v 4), .int .i64 (m.v 5), .int .i64 (m.v 6), .int .i64 (m.v 7), .int .i64 (m.v 8), .int .i64 (m.v 9), .int .i64 (m.v 10), .int .u64 (m.v 11), .int .u64 (m.v 12)] T (0, 0))) :
    W.cell? ⟨b, 0, none⟩ = some (.int .i64 (m.v 0)) ∧ W.cell? ⟨b, 1, none⟩ = some (.int .u64 (m.v 1)) ∧ W.cell? ⟨b, 2, none⟩ = some (.int .u64 (m.v 2)) ∧ W.cell? ⟨b, 3, none⟩ = some (.string ⟨m.offer.toArray⟩) ∧ W.cell? ⟨b, 4, none⟩ = some (.int .i64 (m.v 4)) ∧ W.cell? ⟨b, 5, none⟩ = some (.int .i64 (m.v 5)) ∧ W.cell? ⟨b, 6, none⟩ = some (.int .i64 (m.v 6)) ∧
    W.cell? ⟨b, 7, none⟩ = some (.int .i64 (m.v 7)) ∧ W.cell? ⟨b, 8, none⟩ = some (.int .i64 (m.v 8)) ∧ W.cell? ⟨b, 9, none⟩ = some (.int .i64 (m.v 9)) ∧ W.cell? ⟨b, 10, none⟩ = some (.int .i64 (m.v 10)) ∧ W.cell? ⟨b, 11, none⟩ = some (.int .u64 (m.v 11)) ∧ W.cell? ⟨b, 12, none⟩ = some (.int .u64 (m.v 12)) := by
  simp [World.cell?, h]

/-- So many fields are taken over. -/
def OnlyR (w : World) (m : Sough.Msg) (bo bm br go gm : Nat) (iv : Value) (wr : World) : Prop :=
  ∃ i : Nat, i ≤ (Sough.flds (m.v 0)).length ∧ iv = .int .i64 i ∧ Mem w [(bo, .cells (msgC (Sough.onlyL m ((Sough.flds (m.v 0)).take i))) 24 (0, 0)), (gm, .cells (rowC bm (Sough.flds (m.v 0))) 60 (0, 0)), (go, .cells (rowC bo (Sough.flds (m.v 0))) 60 (0, 0)), (br, .cells (msgC Sough.zeroMsg) 24 (0, 0)), (bm, .cells (msgC m) 24 (0, 0))] wr

set_option maxRecDepth 100000 in
set_option maxHeartbeats 3200000 in
theorem only_any {m : Sough.Msg} (w : World) (hwf : m.Wf) (hne : Sough.flds (m.v 0) ≠ []) (hr : ∀ f ∈ Sough.flds (m.v 0), f.c ≠ 3 → 0 ≤ m.v f.c ∧ m.v f.c < 9223372036854775808) :
    Calls Try.prog 29 #[.agg (msgC m)] w fun e w' => e = .returned (.agg (msgC (Sough.onlyL m (Sough.flds (m.v 0))))) ∧ Below w.heap.size w w' := by
  have HR := Lib.hid hr; have HWF := Lib.hid hwf; have HNE := Lib.hid hne
  have hk : (Lit.int .i64 (m.v 0)).wf = true := WalkArith.wf_i64 (hwf.ints 0 (by simp))
  have HK := Lib.hid hk
  have M0 : Mem w [(w.heap.size + 1 + 1, .cells (msgC (Sough.kindMsg (m.v 0))) 24 (0, 0)), (w.heap.size + 1, .cells (msgC Sough.zeroMsg) 24 (0, 0)), (w.heap.size, .cells (msgC m) 24 (0, 0))]
      (((w.alloc (.cells #[.int .i64 (m.v 0), .int .u64 (m.v 1), .int .u64 (m.v 2), .string ⟨m.offer.toArray⟩, .int .i64 (m.v 4), .int .i64 (m.v 5), .int .i64 (m.v 6), .int .i64 (m.v 7), .int .i64 (m.v 8), .int .i64 (m.v 9), .int .i64 (m.v 10), .int .u64 (m.v 11), .int .u64 (m.v 12)] 24)).alloc (.cells #[.int .i64 0, .int .u64 0, .int .u64 0, .string ⟨#[]⟩, .int .i64 0, .int .i64 0, .int .i64 0, .int .i64 0, .int .i64 0, .int .i64 0, .int .i64 0, .int .u64 0, .int .u64 0] 24)).alloc (.cells #[.int .i64 (m.v 0), .int .u64 0, .int .u64 0, .string ⟨#[]⟩, .int .i64 0, .int .i64 0, .int .i64 0, .int .i64 0, .int .i64 0, .int .i64 0, .int .i64 0, .int .u64 0, .int .u64 0] 24)) := by
    have := ((Mem.start w).alloc (.cells #[.int .i64 (m.v 0), .int .u64 (m.v 1), .int .u64 (m.v 2), .string ⟨m.offer.toArray⟩, .int .i64 (m.v 4), .int .i64 (m.v 5), .int .i64 (m.v 6), .int .i64 (m.v 7), .int .i64 (m.v 8), .int .i64 (m.v 9), .int .i64 (m.v 10), .int .u64 (m.v 11), .int .u64 (m.v 12)] 24)).alloc (.cells #[.int .i64 0, .int .u64 0, .int .u64 0, .string ⟨#[]⟩, .int .i64 0, .int .i64 0, .int .i64 0, .int .i64 0, .int .i64 0, .int .i64 0, .int .i64 0, .int .u64 0, .int .u64 0] 24) |>.alloc (.cells #[.int .i64 (m.v 0), .int .u64 0, .int .u64 0, .string ⟨#[]⟩, .int .i64 0, .int .i64 0, .int .i64 0, .int .i64 0, .int .i64 0, .int .i64 0, .int .i64 0, .int .u64 0, .int .u64 0] 24)
    simp only [World.size_alloc] at this
    exact this
  have HM0 := Lib.hid M0
  have hn8 := Sough.flds_len (m.v 0)
  clear hr hwf hk M0 hne
  obtain ⟨q, hq⟩ : ∃ q, q = Sough.onlyL m (Sough.flds (m.v 0)) := ⟨_, rfl⟩
  have HQ := Lib.hid hq
  rw [← hq]
  clear hq
  unfold msgC
  go_enter Try.func29, Try.ntmps29
  go_wp2_with fail
  generalize ((w.alloc (.cells #[.int .i64 (m.v 0), .int .u64 (m.v 1), .int .u64 (m.v 2), .string ⟨m.offer.toArray⟩, .int .i64 (m.v 4), .int .i64 (m.v 5), .int .i64 (m.v 6), .int .i64 (m.v 7), .int .i64 (m.v 8), .int .i64 (m.v 9), .int .i64 (m.v 10), .int .u64 (m.v 11), .int .u64 (m.v 12)] 24)).alloc (.cells #[.int .i64 0, .int .u64 0, .int .u64 0, .string ⟨#[]⟩, .int .i64 0, .int .i64 0, .int .i64 0, .int .i64 0, .int .i64 0, .int .i64 0, .int .i64 0, .int .u64 0, .int .u64 0] 24)).alloc (.cells #[.int .i64 (m.v 0), .int .u64 0, .int .u64 0, .string ⟨#[]⟩, .int .i64 0, .int .i64 0, .int .i64 0, .int .i64 0, .int .i64 0, .int .i64 0, .int .i64 0, .int .u64 0, .int .u64 0] 24) = W1 at *
  refine (fields_as (m := Sough.kindMsg (m.v 0)) (k := m.v 0) W1 rfl (HM0.out.get 0 rfl) HK.out).mono ?_
  rintro e w1 ⟨hb1, h1⟩
  rcases h1 with ⟨h1, _⟩ | ⟨_, go, rfl, hgo1, hgo2⟩
  · exact absurd h1 HNE.out
  have M1 := Lib.hid ((HM0.out.later hb1).with hgo2)
  have hgo3 : w.heap.size ≤ go := Nat.le_trans HM0.out.bel.size hgo1
  have HGO := Lib.hid hgo3
  have hd1 : go ≠ w.heap.size + 1 + 1 := by have := HM0.out.lt 0 rfl; omega
  clear hb1 hgo1 hgo2 HM0 hgo3
  go_wp2_with fail
  refine (fields_any (m := m) w1 (M1.out.get 3 rfl) HK.out).mono ?_
  rintro e w2 ⟨hb2, h2⟩
  rcases h2 with ⟨h2, _⟩ | ⟨_, gm, rfl, hgm1, hgm2⟩
  · exact absurd h2 HNE.out
  have hl1 := M1.out.lt 0 rfl; have hl2 := M1.out.lt 1 rfl; have hl3 := M1.out.lt 2 rfl; have hl4 := M1.out.lt 3 rfl
  have M2 : Hid (Mem w [(w.heap.size + 1 + 1, .cells (msgC (Sough.onlyL m ((Sough.flds (m.v 0)).take 0))) 24 (0, 0)), (gm, .cells (rowC w.heap.size (Sough.flds (m.v 0))) 60 (0, 0)), (go, .cells (rowC (w.heap.size + 1 + 1) (Sough.flds (m.v 0))) 60 (0, 0)), (w.heap.size + 1, .cells (msgC Sough.zeroMsg) 24 (0, 0)), (w.heap.size, .cells (msgC m) 24 (0, 0))] w2) := by
    rw [List.take_zero, Sough.onlyL_nil]
    exact Lib.hid (((M1.out.later hb2).with hgm2).sub fun x hx => by
      simp only [List.mem_cons, List.not_mem_nil, or_false] at hx ⊢
      rcases hx with rfl | rfl | rfl | rfl | rfl
      · exact .inr (.inr (.inl rfl))
      · exact .inl rfl
      · exact .inr (.inl rfl)
      · exact .inr (.inr (.inr (.inl rfl)))
      · exact .inr (.inr (.inr (.inr rfl))))
  have hd2 : gm ≠ w.heap.size + 1 + 1 := by omega
  clear hb2 hgm1 hgm2 M1 hl1 hl2 hl3 hl4
  obtain ⟨n, hn⟩ : ∃ n, n = (Sough.flds (m.v 0)).length := ⟨_, rfl⟩
  have HN := Lib.hid hn
  rw [← hn]
  rw [← hn] at hn8
  clear hn
  go_wp2_with fail
  go_loopw [13] (fun iv wr => OnlyR w m (w.heap.size + 1 + 1) w.heap.size (w.heap.size + 1) go gm iv wr) (fun iv _ => n - (intOf iv).toNat)
  case atStart => exact ⟨0, Nat.zero_le _, rfl, M2.out⟩
  case round =>
    obtain ⟨i, hi, rfl, hM⟩ := hrel
    rw [← HN.out] at hi
    have M3 := Lib.hid hM
    clear hM M2
    by_cases hlt : i < n
    · have hfl : i < (Sough.flds (m.v 0)).length := by rw [← HN.out]; exact hlt
      obtain ⟨f, hf⟩ : ∃ f, f = (Sough.flds (m.v 0)).getD i ⟨0, 0, 0⟩ := ⟨_, rfl⟩
      have hfe : f = (Sough.flds (m.v 0))[i] := by rw [hf, List.getD_eq_getElem?_getD, List.getElem?_eq_getElem hfl]; rfl
      have hmem : f ∈ Sough.flds (m.v 0) := by rw [hfe]; exact List.getElem_mem hfl
      have htake : (Sough.flds (m.v 0)).take (i + 1) = (Sough.flds (m.v 0)).take i ++ [f] := by rw [List.take_succ_eq_append_getElem hfl, hfe]
      have HF := Lib.hid hf; have HMEM := Lib.hid hmem; have HT := Lib.hid htake
      by_cases h3 : f.c = 3
      · have em : fldC w.heap.size ((Sough.flds (m.v 0)).getD i ⟨0, 0, 0⟩) = [.int .u64 0, .int .u64 0, .pointer none, .pointer none, .pointer (some ⟨w.heap.size, 3, none⟩)] := by rw [← hf]; unfold fldC; rw [if_pos h3]
        have eo : fldC (w.heap.size + 1 + 1) ((Sough.flds (m.v 0)).getD i ⟨0, 0, 0⟩) = [.int .u64 0, .int .u64 0, .pointer none, .pointer none, .pointer (some ⟨w.heap.size + 1 + 1, 3, none⟩)] := by rw [← hf]; unfold fldC; rw [if_pos h3]
        have rm := row_cells (M3.out.get 1 rfl) hfl em
        have HE := Lib.hid eo; have H3 := Lib.hid h3
        clear hf hfe hmem htake em eo h3 hfl
        go_wp2_with fail
        have M4 : Hid (Mem w _ (wr.alloc (.cells #[.int .u64 0, .int .u64 0, .pointer none, .pointer none, .pointer (some ⟨w.heap.size, 3, none⟩)] 60))) := Lib.hid (M3.out.later ((Below.refl _ _).alloc (Nat.le_refl _) _))
        have bx := heap_alloc_new wr (.cells #[.int .u64 0, .int .u64 0, .pointer none, .pointer none, .pointer (some ⟨w.heap.size, 3, none⟩)] 60)
        have b4 : (wr.alloc (.cells #[.int .u64 0, .int .u64 0, .pointer none, .pointer none, .pointer (some ⟨w.heap.size, 3, none⟩)] 60)).cell? ⟨wr.heap.size, 4, none⟩ = some (.pointer (some ⟨w.heap.size, 3, none⟩)) := (cells5 bx).2.2.2.2
        generalize wr.alloc (.cells #[.int .u64 0, .int .u64 0, .pointer none, .pointer none, .pointer (some ⟨w.heap.size, 3, none⟩)] 60) = W at *
        have hfl : i < (Sough.flds (m.v 0)).length := by rw [← HN.out]; exact hlt
        have ro := (row_cells (M4.out.get 2 rfl) hfl HE.out).2.2.2.2
        have mt := msg_text (M4.out.get 4 rfl)
        have ot := msg_text (M4.out.get 0 rfl)
        have oz := msg_frozen (i := 3) (M4.out.get 0 rfl)
        clear rm bx hfl
        go_still_tail 10, (by kernel_rfl)
        change wpList _ _ _ _ _ W.drew
        have M5 : Hid (Mem w _ W.drew) := Lib.hid (M4.out.later (Below.refl _ W).drew)
        clear ro mt b4
        have ot : W.drew.cell? ⟨w.heap.size + 1 + 1, 3, none⟩ = _ := ot
        have oz : W.drew.frozen? ⟨w.heap.size + 1 + 1, 3, none⟩ = false := oz
        generalize W.drew = W5 at *
        have M6 := M5.out.set (by omega) (by simp; omega) 3 (.string ⟨m.offer.toArray⟩)
        have HNX : Hid (OnlyR w m (w.heap.size + 1 + 1) w.heap.size (w.heap.size + 1) go gm (.int .i64 (i + 1 : Nat)) (W5.setCell ⟨w.heap.size + 1 + 1, 3, none⟩ (.string ⟨m.offer.toArray⟩))) := by
          refine Lib.hid ⟨i + 1, by rw [← HN.out]; omega, rfl, ?_⟩
          rw [HT.out, Sough.onlyL_text H3.out]
          exact M6
        clear M6
        go_wp2_with fail
        go_roundw
        case rel => exact HNX.out
        case measure => simp [intOf]; omega
      · have hrx := HR.out f hmem h3
        obtain ⟨xn, hxn⟩ : ∃ n : Nat, m.v f.c = n := ⟨(m.v f.c).toNat, by omega⟩
        have hx63 : xn < 9223372036854775808 := by omega
        have hwr : IntKind.u64.wrap (m.v f.c) = xn := by rw [IntKind.wrap_u64]; omega
        obtain ⟨c2, c3, em⟩ : ∃ c2 c3, fldC w.heap.size f = [.int .u64 f.lo, .int .u64 f.hi, .pointer c2, .pointer c3, .pointer none] := by unfold fldC; rw [if_neg h3]; split <;> exact ⟨_, _, rfl⟩
        obtain ⟨d2, d3, eo⟩ : ∃ c2 c3, fldC (w.heap.size + 1 + 1) f = [.int .u64 f.lo, .int .u64 f.hi, .pointer c2, .pointer c3, .pointer none] := by unfold fldC; rw [if_neg h3]; split <;> exact ⟨_, _, rfl⟩
        have rm := row_cells (M3.out.get 1 rfl) hfl (by rw [← hf]; exact em)
        have HE := Lib.hid eo; have H3 := Lib.hid h3; have HEM := Lib.hid em; have HX := Lib.hid hxn; have HX63 := Lib.hid hx63; have HW := Lib.hid hwr; have HRX := Lib.hid hrx
        clear hf hfe hmem htake em eo h3 hfl hrx hxn hx63 hwr
        go_wp2_with fail
        have M4 : Hid (Mem w _ (wr.alloc (.cells #[.int .u64 f.lo, .int .u64 f.hi, .pointer c2, .pointer c3, .pointer none] 60))) := Lib.hid (M3.out.later ((Below.refl _ _).alloc (Nat.le_refl _) _))
        have bx := heap_alloc_new wr (.cells #[.int .u64 f.lo, .int .u64 f.hi, .pointer c2, .pointer c3, .pointer none] 60)
        clear rm
        generalize wr.alloc (.cells #[.int .u64 f.lo, .int .u64 f.hi, .pointer c2, .pointer c3, .pointer none] 60) = W at *
        have hfl : i < (Sough.flds (m.v 0)).length := by rw [← HN.out]; exact hlt
        have ro := fun x : Later W => row_cells ((M4.out.later x.below).get 2 rfl) hfl (by rw [← HF.out]; exact HE.out)
        have rf := fun x : Later W => cells5 ((x.below.block _ (lt_of_block bx)).trans bx)
        have CG : Hid (∀ x : Later W, Calls Try.prog 28 #[.agg #[.int .u64 f.lo, .int .u64 f.hi, .pointer c2, .pointer c3, .pointer none]] x.world fun e w' => e = .returned (.int .u64 xn) ∧ Below x.world.heap.size x.world w') := Lib.hid fun x => by
          have := get_num (b := w.heap.size) (f := f) (x := m.v f.c) x.world H3.out (msg_cell ((M4.out.later x.below).get 4 rfl) HMEM.out H3.out) (fun _ => by have := HRX.out; omega)
          rw [HEM.out, HW.out] at this
          exact this
        have CS : Hid (∀ x : Later W, Calls Try.prog 42 #[.agg #[.int .u64 f.lo, .int .u64 f.hi, .pointer d2, .pointer d3, .pointer none], .int .u64 xn] x.world (SetTo x.world ⟨w.heap.size + 1 + 1, f.c, none⟩ (numC f.c xn))) := Lib.hid fun x => by
          have mo := (M4.out.later x.below).get 0 rfl
          have := set_num (b := w.heap.size + 1 + 1) (f := f) (x := xn) x.world H3.out (msg_cell mo HMEM.out H3.out) (msg_frozen mo) HX63.out
          rw [HE.out] at this
          exact this
        clear bx hfl
        refine wp_region_later_last 6 (by kernel_rfl) (by kernel_rfl) (by kernel_rfl) (by kernel_rfl) (by kernel_rfl) ?_
        simp only [List.take_succ_cons, List.take_zero, List.getElem_toArray, List.getElem_cons_succ, List.getElem_cons_zero]
        repeat go_big_quiet_step (exact Calls.later (CG.out _))
        refine wpQuiet_nil ?_
        intro x
        clear ro rf
        go_wp2_with fail
        refine (CS.out x).mono ?_
        rintro e w' ⟨rfl, hb'⟩
        have M5 := ((M4.out.later x.below).set (by omega) (by simp; omega) f.c (numC f.c xn)).later (by rw [size_setCell]; exact hb')
        have HNX : Hid (OnlyR w m (w.heap.size + 1 + 1) w.heap.size (w.heap.size + 1) go gm (.int .i64 (i + 1 : Nat)) w') := by
          refine Lib.hid ⟨i + 1, by rw [← HN.out]; omega, rfl, ?_⟩
          rw [HT.out, Sough.onlyL_num (cell_ne0 HMEM.out) H3.out, ← msg_set HMEM.out H3.out, HX.out]
          exact M5
        clear M5 hb'
        go_wp2_with fail
        go_roundw
        case rel => exact HNX.out
        case measure => simp [intOf]; omega
    · obtain rfl : i = n := by omega
      have M9 : Hid (Mem w [(w.heap.size + 1 + 1, .cells #[.int .i64 (q.v 0), .int .u64 (q.v 1), .int .u64 (q.v 2), .string ⟨q.offer.toArray⟩, .int .i64 (q.v 4), .int .i64 (q.v 5), .int .i64 (q.v 6), .int .i64 (q.v 7), .int .i64 (q.v 8), .int .i64 (q.v 9), .int .i64 (q.v 10), .int .u64 (q.v 11), .int .u64 (q.v 12)] 24 (0, 0)), (w.heap.size + 1, .cells #[.int .i64 0, .int .u64 0, .int .u64 0, .string ⟨#[]⟩, .int .i64 0, .int .i64 0, .int .i64 0, .int .i64 0, .int .i64 0, .int .i64 0, .int .i64 0, .int .u64 0, .int .u64 0] 24 (0, 0))] wr) := Lib.hid (M3.out.sub fun x hx => by
        simp only [List.mem_cons, List.not_mem_nil, or_false] at hx ⊢
        rw [HN.out, List.take_length, ← HQ.out]
        rcases hx with rfl | rfl
        · exact .inl rfl
        · exact .inr (.inr (.inr (.inl rfl))))
      have r := M9.out.rules; simp only [AllCells, CellsAt, Nat.zero_add, Nat.reduceAdd] at r
      have hz : wr.heap[w.heap.size + 1]? = some (.cells (msgC Sough.zeroMsg) 24 (0, 0)) := M9.out.get 1 rfl
      have HBL := Lib.hid (put13_below (m := q) M9.out.bel (show w.heap.size ≤ w.heap.size + 1 by omega))
      have HZ := Lib.hid (cells13 (put13_heap (m := q) hz))
      clear M3 M9 hz
      go_wp2_with fail
      change bodyPost _ _ _ _ _ (put13 wr (w.heap.size + 1) q)
      clear r
      generalize put13 wr (w.heap.size + 1) q = W at *
      have rz := HZ.out
      refine bodyPost_ret (v := .agg #[.int .i64 (q.v 0), .int .u64 (q.v 1), .int .u64 (q.v 2), .string ⟨q.offer.toArray⟩, .int .i64 (q.v 4), .int .i64 (q.v 5), .int .i64 (q.v 6), .int .i64 (q.v 7), .int .i64 (q.v 8), .int .i64 (q.v 9), .int .i64 (q.v 10), .int .u64 (q.v 11), .int .u64 (q.v 12)]) (by simp [results, Try.results29, go_sem, rz]) rfl ⟨rfl, HBL.out⟩

end Go.Proofs.Ytjoanlhdocoddaa
