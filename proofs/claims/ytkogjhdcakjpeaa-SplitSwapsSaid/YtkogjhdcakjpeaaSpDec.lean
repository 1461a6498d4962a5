/- The walk of split.Decode. -/
import Derived.Test.YtkogjhdcakjpeaaSpBase
import Derived.OneCell
namespace Go.Proofs.Ytkogjhdcakjpeaa
open Go.RowKit

/-- The call's own memory: the result, the three numbers. -/
structure DecM (w : World) (a b c : Nat) (W : World) : Prop where
  size : w.heap.size + 2 ≤ W.heap.size
  res : W.heap[w.heap.size]? = some (.cells #[.int .u64 0, .int .i64 0, .int .i64 0, .string ⟨#[]⟩] 26 (0, 0))
  num : W.heap[w.heap.size + 1]? = some (.cells #[.int .u64 a, .int .u64 b, .int .u64 c] 61 (0, 0))
  below : Below w.heap.size w W

theorem DecM.later {w W W' : World} {a b c : Nat} (h : DecM w a b c W) (hb : Below W.heap.size W W') : DecM w a b c W' :=
  ⟨Nat.le_trans h.size hb.size, (hb.block _ (by have := h.size; omega)).trans h.res, (hb.block _ (by have := h.size; omega)).trans h.num, h.below.trans (hb.mono (by have := h.size; omega))⟩

theorem DecM.start (w : World) : DecM w 0 0 0 ((w.alloc (.cells #[.int .u64 0, .int .i64 0, .int .i64 0, .string ⟨#[]⟩] 26)).alloc (.cells #[.int .u64 0, .int .u64 0, .int .u64 0] 61)) := by
  refine ⟨by simp, ?_, ?_, ((Below.refl _ _).alloc (Nat.le_refl _) _).alloc (by simp) _⟩
  · rw [Below.heap_alloc _ _ _ (by simp)]; exact heap_alloc_new _ _
  · simpa using heap_alloc_new (w.alloc _) _

theorem setCell_heap {w : World} {b : Nat} {C : Array Value} {t : TypeId} (h : w.heap[b]? = some (.cells C t (0, 0))) (i : Nat) (u : Value) : (w.setCell ⟨b, i, none⟩ u).heap[b]? = some (.cells (C.setIfInBounds i u) t (0, 0)) := by
  have hlt := lt_of_block h
  have h' : w.heap[b] = .cells C t (0, 0) := by simpa [Array.getElem?_eq_getElem hlt] using h
  show (w.heap.modify b _)[b]? = _
  rw [Array.getElem?_eq_getElem (by simpa using hlt), Array.getElem_modify_self, h']
  rfl

theorem DecM.set {w W : World} {a b c : Nat} (h : DecM w a b c W) (i : Nat) (x : Nat) {a' b' c' : Nat} (hs : (#[Value.int .u64 a, .int .u64 b, .int .u64 c] : Array Value).setIfInBounds i (.int .u64 x) = #[.int .u64 a', .int .u64 b', .int .u64 c']) :
    DecM w a' b' c' (W.setCell ⟨w.heap.size + 1, i, none⟩ (.int .u64 x)) :=
  ⟨by have := h.size; simpa [World.setCell] using this, (Below.heap_setCell _ _ _ _ (by show w.heap.size ≠ w.heap.size + 1; omega)).trans h.res, by rw [setCell_heap h.num, hs], h.below.setCell (by show w.heap.size ≤ w.heap.size + 1; omega) _⟩

theorem DecM.cell {w W : World} {a b c : Nat} (h : DecM w a b c W) : W.cell? ⟨w.heap.size + 1, 0, none⟩ = some (.int .u64 a) ∧ W.cell? ⟨w.heap.size + 1, 1, none⟩ = some (.int .u64 b) ∧ W.cell? ⟨w.heap.size + 1, 2, none⟩ = some (.int .u64 c) ∧
    W.frozen? ⟨w.heap.size + 1, 0, none⟩ = false ∧ W.frozen? ⟨w.heap.size + 1, 1, none⟩ = false ∧ W.frozen? ⟨w.heap.size + 1, 2, none⟩ = false := by
  have := h.num
  simp [World.cell?, World.frozen?, this]
theorem DecM.rcell {w W : World} {a b c : Nat} (h : DecM w a b c W) : W.cell? ⟨w.heap.size, 0, none⟩ = some (.int .u64 0) ∧ W.cell? ⟨w.heap.size, 1, none⟩ = some (.int .i64 0) ∧ W.cell? ⟨w.heap.size, 2, none⟩ = some (.int .i64 0) ∧ W.cell? ⟨w.heap.size, 3, none⟩ = some (.string ⟨#[]⟩) ∧
    W.frozen? ⟨w.heap.size, 0, none⟩ = false ∧ W.frozen? ⟨w.heap.size, 1, none⟩ = false ∧ W.frozen? ⟨w.heap.size, 2, none⟩ = false ∧ W.frozen? ⟨w.heap.size, 3, none⟩ = false := by
  have := h.res
  simp [World.cell?, World.frozen?, this]


theorem DecM.four {w W : World} {a b c : Nat} (h : DecM w a b c W) (x y z u : Value) :
    Below w.heap.size w ((((W.setCell ⟨w.heap.size, 0, none⟩ x).setCell ⟨w.heap.size, 1, none⟩ y).setCell ⟨w.heap.size, 2, none⟩ z).setCell ⟨w.heap.size, 3, none⟩ u) :=
  (((h.below.setCell (Nat.le_refl _) _).setCell (Nat.le_refl _) _).setCell (Nat.le_refl _) _).setCell (Nat.le_refl _) _

set_option maxRecDepth 100000 in
set_option maxHeartbeats 1600000 in
theorem dec_err0 {s : ByteArray} {er : Nat} {a p0 : Nat} (h0 : Sough.get s.data.toList 0 = (a, p0, er)) (he : er ≠ 0) (w : World) (hs : s.size ≤ maxLen) :
    Calls Try.prog 17 #[.string s] w fun e w' => e = .returned (.tuple #[.agg #[.int .u64 0, .int .i64 0, .int .i64 0, .string ⟨#[]⟩], .int .i64 er]) ∧ Below w.heap.size w w' := by
  have HS := Lib.hid hs
  have HM := Lib.hid (DecM.start w)
  unfold maxLen at hs
  have hbe : ((er : Int) != 0) = true := by simp; omega
  have H0 := Lib.hid h0; clear h0
  go_enter Try.func17, Try.ntmps17
  go_wp2_with fail
  refine wp_loop_rounds 4 ?_
  simp only [rounds_succ]
  go_wp2_with fail
  refine (get_as H0.out _ HS.out).mono ?_; rintro e w1 ⟨rfl, hb1⟩
  have M1 := HM.out.later hb1
  have HM1 := Lib.hid M1
  have rc1 := M1.rcell
  clear M1 hb1
  go_wp2_with fail
  refine bodyPost_ret (v := .tuple #[.agg #[.int .u64 0, .int .i64 0, .int .i64 0, .string ⟨#[]⟩], .int .i64 er]) (by simp [results, Try.results17, go_sem, rc1]) rfl ⟨rfl, HM1.out.four _ _ _ _⟩

set_option maxRecDepth 100000 in
set_option maxHeartbeats 1600000 in
theorem dec_err1 {s : ByteArray} {er : Nat} {a p0 : Nat} (h0 : Sough.get s.data.toList 0 = (a, p0, 0)) {b p1 : Nat} (h1 : Sough.get s.data.toList p0 = (b, p1, er)) (he : er ≠ 0) (w : World) (hs : s.size ≤ maxLen) :
    Calls Try.prog 17 #[.string s] w fun e w' => e = .returned (.tuple #[.agg #[.int .u64 0, .int .i64 0, .int .i64 0, .string ⟨#[]⟩], .int .i64 er]) ∧ Below w.heap.size w w' := by
  have HS := Lib.hid hs
  have HM := Lib.hid (DecM.start w)
  unfold maxLen at hs
  have hbe : ((er : Int) != 0) = true := by simp; omega
  have H0 := Lib.hid h0; clear h0
  have H1 := Lib.hid h1; clear h1
  go_enter Try.func17, Try.ntmps17
  go_wp2_with fail
  refine wp_loop_rounds 4 ?_
  simp only [rounds_succ]
  go_wp2_with fail
  refine (get_as H0.out _ HS.out).mono ?_; rintro e w1 ⟨rfl, hb1⟩
  have M1 := HM.out.later hb1
  have HM1 := Lib.hid M1
  have rc1 := M1.cell
  clear M1 hb1
  go_wp2_with fail
  simp only [rounds_succ]
  go_wp2_with fail
  refine (get_as H1.out _ HS.out).mono ?_; rintro e w2 ⟨rfl, hb2⟩
  have M2 := (HM1.out.set 0 a rfl).later hb2
  have HM2 := Lib.hid M2
  have rc2 := M2.rcell
  clear M2 hb2
  go_wp2_with fail
  refine bodyPost_ret (v := .tuple #[.agg #[.int .u64 0, .int .i64 0, .int .i64 0, .string ⟨#[]⟩], .int .i64 er]) (by simp [results, Try.results17, go_sem, rc2]) rfl ⟨rfl, HM2.out.four _ _ _ _⟩

set_option maxRecDepth 100000 in
set_option maxHeartbeats 1600000 in
theorem dec_err2 {s : ByteArray} {er : Nat} {a p0 : Nat} (h0 : Sough.get s.data.toList 0 = (a, p0, 0)) {b p1 : Nat} (h1 : Sough.get s.data.toList p0 = (b, p1, 0)) {c p2 : Nat} (h2 : Sough.get s.data.toList p1 = (c, p2, er)) (he : er ≠ 0) (w : World) (hs : s.size ≤ maxLen) :
    Calls Try.prog 17 #[.string s] w fun e w' => e = .returned (.tuple #[.agg #[.int .u64 0, .int .i64 0, .int .i64 0, .string ⟨#[]⟩], .int .i64 er]) ∧ Below w.heap.size w w' := by
  have HS := Lib.hid hs
  have HM := Lib.hid (DecM.start w)
  unfold maxLen at hs
  have hbe : ((er : Int) != 0) = true := by simp; omega
  have H0 := Lib.hid h0; clear h0
  have H1 := Lib.hid h1; clear h1
  have H2 := Lib.hid h2; clear h2
  go_enter Try.func17, Try.ntmps17
  go_wp2_with fail
  refine wp_loop_rounds 4 ?_
  simp only [rounds_succ]
  go_wp2_with fail
  refine (get_as H0.out _ HS.out).mono ?_; rintro e w1 ⟨rfl, hb1⟩
  have M1 := HM.out.later hb1
  have HM1 := Lib.hid M1
  have rc1 := M1.cell
  clear M1 hb1
  go_wp2_with fail
  simp only [rounds_succ]
  go_wp2_with fail
  refine (get_as H1.out _ HS.out).mono ?_; rintro e w2 ⟨rfl, hb2⟩
  have M2 := (HM1.out.set 0 a rfl).later hb2
  have HM2 := Lib.hid M2
  have rc2 := M2.cell
  clear M2 hb2
  go_wp2_with fail
  simp only [rounds_succ]
  go_wp2_with fail
  refine (get_as H2.out _ HS.out).mono ?_; rintro e w3 ⟨rfl, hb3⟩
  have M3 := (HM2.out.set 1 b rfl).later hb3
  have HM3 := Lib.hid M3
  have rc3 := M3.rcell
  clear M3 hb3
  go_wp2_with fail
  refine bodyPost_ret (v := .tuple #[.agg #[.int .u64 0, .int .i64 0, .int .i64 0, .string ⟨#[]⟩], .int .i64 er]) (by simp [results, Try.results17, go_sem, rc3]) rfl ⟨rfl, HM3.out.four _ _ _ _⟩

set_option maxRecDepth 100000 in
set_option maxHeartbeats 1600000 in
theorem dec_big {s : ByteArray} {a p0 b p1 c p2 : Nat} (h0 : Sough.get s.data.toList 0 = (a, p0, 0)) (h1 : Sough.get s.data.toList p0 = (b, p1, 0)) (h2 : Sough.get s.data.toList p1 = (c, p2, 0)) (hbig : 4294967296 < a ∨ 4294967296 < b ∨ 4294967296 < c) (w : World) (hs : s.size ≤ maxLen) :
    Calls Try.prog 17 #[.string s] w fun e w' => e = .returned (.tuple #[.agg #[.int .u64 0, .int .i64 0, .int .i64 0, .string ⟨#[]⟩], .int .i64 3]) ∧ Below w.heap.size w w' := by
  have HS := Lib.hid hs
  have HM := Lib.hid (DecM.start w)
  unfold maxLen at hs
  have H0 := Lib.hid h0; clear h0
  have H1 := Lib.hid h1; clear h1
  have H2 := Lib.hid h2; clear h2
  go_enter Try.func17, Try.ntmps17
  go_wp2_with fail
  refine wp_loop_rounds 4 ?_
  simp only [rounds_succ]
  go_wp2_with fail
  refine (get_as H0.out _ HS.out).mono ?_; rintro e w1 ⟨rfl, hb1⟩
  have M1 := HM.out.later hb1
  have HM1 := Lib.hid M1
  have rc1 := M1.cell
  clear M1 hb1
  go_wp2_with fail
  simp only [rounds_succ]
  go_wp2_with fail
  refine (get_as H1.out _ HS.out).mono ?_; rintro e w2 ⟨rfl, hb2⟩
  have M2 := (HM1.out.set 0 a rfl).later hb2
  have HM2 := Lib.hid M2
  have rc2 := M2.cell
  clear M2 hb2
  go_wp2_with fail
  simp only [rounds_succ]
  go_wp2_with fail
  refine (get_as H2.out _ HS.out).mono ?_; rintro e w3 ⟨rfl, hb3⟩
  have M3 := (HM2.out.set 1 b rfl).later hb3
  have HM3 := Lib.hid M3
  have rc3 := M3.cell
  clear M3 hb3
  go_wp2_with fail
  have M4 := HM3.out.set 2 c rfl
  have rc4 := M4.cell
  have rr4 := M4.rcell
  simp only [rounds_succ]
  go_wp2_with fail
  all_goals first
    | refine bodyPost_ret (v := .tuple #[.agg #[.int .u64 0, .int .i64 0, .int .i64 0, .string ⟨#[]⟩], .int .i64 3]) (by simp [results, Try.results17, go_sem, rr4]) rfl ⟨rfl, M4.four _ _ _ _⟩
    | (exfalso; clear HM HM1 HM2 HM3 M4 rc1 rc2 rc3 rc4 rr4; revert hbig; grind)

set_option maxRecDepth 100000 in
set_option maxHeartbeats 1600000 in
theorem dec_bad {s : ByteArray} {a p0 b p1 c p2 : Nat} (h0 : Sough.get s.data.toList 0 = (a, p0, 0)) (h1 : Sough.get s.data.toList p0 = (b, p1, 0)) (h2 : Sough.get s.data.toList p1 = (c, p2, 0)) (hr : Sough.Frag.right ⟨a, b, c, (s.extract p2 s.size).data.toList⟩ = false) (ha : a ≤ 4294967296) (hb : b ≤ 4294967296) (hc : c ≤ 4294967296) (w : World) (hs : s.size ≤ maxLen) :
    Calls Try.prog 17 #[.string s] w fun e w' => e = .returned (.tuple #[.agg #[.int .u64 0, .int .i64 0, .int .i64 0, .string ⟨#[]⟩], .int .i64 3]) ∧ Below w.heap.size w w' := by
  have HS := Lib.hid hs
  have HM := Lib.hid (DecM.start w)
  unfold maxLen at hs
  have H0 := Lib.hid h0; clear h0
  have H1 := Lib.hid h1; clear h1
  have H2 := Lib.hid h2; clear h2
  have hmx : ¬ ((4294967296:Int) < (if (if a < b then (b:Int) else a) < c then (c:Int) else if a < b then (b:Int) else a)) := by split <;> (try split) <;> omega
  go_enter Try.func17, Try.ntmps17
  go_wp2_with fail
  refine wp_loop_rounds 4 ?_
  simp only [rounds_succ]
  go_wp2_with fail
  refine (get_as H0.out _ HS.out).mono ?_; rintro e w1 ⟨rfl, hb1⟩
  have M1 := HM.out.later hb1
  have HM1 := Lib.hid M1
  have rc1 := M1.cell
  clear M1 hb1
  go_wp2_with fail
  simp only [rounds_succ]
  go_wp2_with fail
  refine (get_as H1.out _ HS.out).mono ?_; rintro e w2 ⟨rfl, hb2⟩
  have M2 := (HM1.out.set 0 a rfl).later hb2
  have HM2 := Lib.hid M2
  have rc2 := M2.cell
  clear M2 hb2
  go_wp2_with fail
  simp only [rounds_succ]
  go_wp2_with fail
  refine (get_as H2.out _ HS.out).mono ?_; rintro e w3 ⟨rfl, hb3⟩
  have M3 := (HM2.out.set 1 b rfl).later hb3
  have HM3 := Lib.hid M3
  have rc3 := M3.cell
  clear M3 hb3
  go_wp2_with fail
  have M4 := HM3.out.set 2 c rfl
  have rc4 := M4.cell
  have rr4 := M4.rcell
  have hp2 : p2 ≤ s.size := by simpa using (get_bounds H2.out).1
  have wb : IntKind.i64.wrap b = b := by rw [IntKind.wrap_i64]; omega
  have wc : IntKind.i64.wrap c = c := by rw [IntKind.wrap_i64]; omega
  have HM4 := Lib.hid M4
  clear M4 rc1 rc2 rc3
  generalize hW : w3.setCell _ _ = W at *
  clear hW
  have hz : w.heap.size + 1 < W.heap.size := by have := HM4.out.size; omega
  have hz0 : w.heap.size < W.heap.size := by omega
  simp only [rounds_succ]
  go_wp2_with fail
  all_goals
    go_region
    go_wp2_with fail
    refine (right_walk _ _ _ _ _).mono ?_; rintro e w4 ⟨rfl, hb4⟩
    rw [hr]
    have hbW : Below W.heap.size W w4 := ((Below.refl _ _).alloc (Nat.le_refl _) _).drew.trans (hb4.mono (by simp))
    have M5 := HM4.out.later hbW
    have rr5 := M5.rcell
    clear rr4
    go_wp2_with fail
    refine bodyPost_ret (v := .tuple #[.agg #[.int .u64 0, .int .i64 0, .int .i64 0, .string ⟨#[]⟩], .int .i64 3]) (by simp [results, Try.results17, go_sem, rr5]) rfl ⟨rfl, M5.four _ _ _ _⟩

set_option maxRecDepth 100000 in
set_option maxHeartbeats 1600000 in
theorem dec_good {s : ByteArray} {a p0 b p1 c p2 : Nat} (h0 : Sough.get s.data.toList 0 = (a, p0, 0)) (h1 : Sough.get s.data.toList p0 = (b, p1, 0)) (h2 : Sough.get s.data.toList p1 = (c, p2, 0)) (hr : Sough.Frag.right ⟨a, b, c, (s.extract p2 s.size).data.toList⟩ = true) (ha : a ≤ 4294967296) (hb : b ≤ 4294967296) (hc : c ≤ 4294967296) (w : World) (hs : s.size ≤ maxLen) :
    Calls Try.prog 17 #[.string s] w fun e w' => e = .returned (.tuple #[.agg #[.int .u64 a, .int .i64 b, .int .i64 c, .string (s.extract p2 s.size)], .int .i64 0]) ∧ Below w.heap.size w w' := by
  have HS := Lib.hid hs
  have HM := Lib.hid (DecM.start w)
  unfold maxLen at hs
  have H0 := Lib.hid h0; clear h0
  have H1 := Lib.hid h1; clear h1
  have H2 := Lib.hid h2; clear h2
  have hmx : ¬ ((4294967296:Int) < (if (if a < b then (b:Int) else a) < c then (c:Int) else if a < b then (b:Int) else a)) := by split <;> (try split) <;> omega
  go_enter Try.func17, Try.ntmps17
  go_wp2_with fail
  refine wp_loop_rounds 4 ?_
  simp only [rounds_succ]
  go_wp2_with fail
  refine (get_as H0.out _ HS.out).mono ?_; rintro e w1 ⟨rfl, hb1⟩
  have M1 := HM.out.later hb1
  have HM1 := Lib.hid M1
  have rc1 := M1.cell
  clear M1 hb1
  go_wp2_with fail
  simp only [rounds_succ]
  go_wp2_with fail
  refine (get_as H1.out _ HS.out).mono ?_; rintro e w2 ⟨rfl, hb2⟩
  have M2 := (HM1.out.set 0 a rfl).later hb2
  have HM2 := Lib.hid M2
  have rc2 := M2.cell
  clear M2 hb2
  go_wp2_with fail
  simp only [rounds_succ]
  go_wp2_with fail
  refine (get_as H2.out _ HS.out).mono ?_; rintro e w3 ⟨rfl, hb3⟩
  have M3 := (HM2.out.set 1 b rfl).later hb3
  have HM3 := Lib.hid M3
  have rc3 := M3.cell
  clear M3 hb3
  go_wp2_with fail
  have M4 := HM3.out.set 2 c rfl
  have rc4 := M4.cell
  have rr4 := M4.rcell
  have hp2 : p2 ≤ s.size := by simpa using (get_bounds H2.out).1
  have wb : IntKind.i64.wrap b = b := by rw [IntKind.wrap_i64]; omega
  have wc : IntKind.i64.wrap c = c := by rw [IntKind.wrap_i64]; omega
  have HM4 := Lib.hid M4
  clear M4 rc1 rc2 rc3
  generalize hW : w3.setCell _ _ = W at *
  clear hW
  have hz : w.heap.size + 1 < W.heap.size := by have := HM4.out.size; omega
  have hz0 : w.heap.size < W.heap.size := by omega
  simp only [rounds_succ]
  go_wp2_with fail
  all_goals
    go_region
    go_wp2_with fail
    refine (right_walk _ _ _ _ _).mono ?_; rintro e w4 ⟨rfl, hb4⟩
    rw [hr]
    have hbW : Below W.heap.size W w4 := ((Below.refl _ _).alloc (Nat.le_refl _) _).drew.trans (hb4.mono (by simp))
    have M5 := HM4.out.later hbW
    have rr5 := M5.rcell
    clear rr4
    have c0 := hb4.cell (p := ⟨W.heap.size, 0, none⟩) (by simp)
    have c1 := hb4.cell (p := ⟨W.heap.size, 1, none⟩) (by simp)
    have c2 := hb4.cell (p := ⟨W.heap.size, 2, none⟩) (by simp)
    have c3 := hb4.cell (p := ⟨W.heap.size, 3, none⟩) (by simp)
    simp at c0 c1 c2 c3
    go_wp2_with fail
    refine bodyPost_ret (v := .tuple #[.agg #[.int .u64 a, .int .i64 b, .int .i64 c, .string (s.extract p2 s.size)], .int .i64 0]) (by simp [results, Try.results17, go_sem, rr5]) rfl ⟨rfl, M5.four _ _ _ _⟩

end Go.Proofs.Ytkogjhdcakjpeaa
