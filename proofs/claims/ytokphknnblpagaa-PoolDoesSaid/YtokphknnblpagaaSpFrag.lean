/- Parts in memory: what both the layer and its callers use. -/
import Derived.Test.YtokphknnblpagaaSpCut3
import Derived.Test.YtokphknnblpagaaMem
import Derived.WalkLawsBesides
import Derived.WalkSpells
import Derived.OneCell
import Derived.StillTailTactics
import Derived.Lib.BitFns
import Derived.Lib.EndianBits
import Derived.Deep.QuietTactic
import Derived.BigQuiet
namespace Sough
def fragAt (fs : List Frag) (i : Nat) : Frag := fs.getD i zeroFrag
def Good (fs : List Frag) (i : Nat) : Prop := (fragAt fs i).ok ∧ (fragAt fs i).id = (fragAt fs 0).id ∧ (fragAt fs i).count = fs.length ∧ (fragAt fs i).index = i
instance goodDec (fs : List Frag) (i : Nat) : Decidable (Good fs i) := by unfold Good; infer_instance
def joined (fs : List Frag) (k : Nat) : List UInt8 := (fs.take k).flatMap (·.part)
theorem joined_succ (fs : List Frag) {k : Nat} (hk : k < fs.length) : joined fs (k + 1) = joined fs k ++ (fragAt fs k).part := by
  unfold joined fragAt
  rw [List.take_add_one, List.getElem?_eq_getElem hk, List.flatMap_append, List.getD_eq_getElem?_getD, List.getElem?_eq_getElem hk]
  simp
theorem joined_len (fs : List Frag) {k : Nat} (hk : k ≤ fs.length) (h : ∀ i, i < k → Good fs i) : (joined fs k).length ≤ 1000 * k := by
  induction k with
  | zero => simp [joined]
  | succ k ih =>
    have h1 := ih (by omega) (fun i hi => h i (by omega))
    have h2 := (h k (by omega)).1.2.2.2.2.2.2.2
    rw [joined_succ fs (by omega)]
    simp only [List.length_append]
    omega
/-- The message of parts, and what is wrong. -/
def join (fs : List Frag) : List UInt8 × Nat :=
  if fs.length < 1 ∨ 16 < fs.length then ([], 3)
  else if ∀ i, i < fs.length → Good fs i then (if 4096 < (joined fs fs.length).length then ([], 4) else (joined fs fs.length, 0)) else ([], 3)
def cutF (f : Frag) : Frag := ⟨f.id, f.index, f.count, f.part.take 1100⟩
theorem fragAt_eq {fs : List Frag} {k : Nat} (hk : k < fs.length) : fragAt fs k = fs[k] := by simp [fragAt, List.getD_eq_getElem?_getD, List.getElem?_eq_getElem hk]
theorem cutAll_len (s : List UInt8) (id n : Nat) : (cutAll s id n).length = many s.length n := by simp [cutAll]
theorem cutAll_at {s : List UInt8} {id n k : Nat} (hk : k < many s.length n) : fragAt (cutAll s id n) k = ⟨id, k, many s.length n, (s.drop (k * n)).take n⟩ := by
  rw [fragAt_eq (by rw [cutAll_len]; exact hk)]
  simp [cutAll]
theorem many_lt {L n k : Nat} (hn : 1 ≤ n) (h : k < many L n) : k * n < L := Go.Proofs.Ytokphknnblpagaa.pcs_lt hn h
theorem many_ge {L n k : Nat} (hn : 1 ≤ n) (h : many L n ≤ k) : L ≤ k * n := Go.Proofs.Ytokphknnblpagaa.pcs_ge hn h
structure CutOk (s : List UInt8) (id n : Nat) : Prop where
  id1 : 1 ≤ id
  id2 : id ≤ 4294967296
  n1 : 1 ≤ n
  n2 : n ≤ 1000
  s1 : 1 ≤ s.length
  s2 : s.length ≤ 4096
  m : many s.length n ≤ 16
theorem CutOk.pos {s : List UInt8} {id n : Nat} (h : CutOk s id n) : 1 ≤ many s.length n := Nat.pos_of_ne_zero fun e => by
  have := many_ge (L := s.length) (k := 0) h.n1 (by omega)
  have := h.s1
  omega
theorem CutOk.cuts {s : List UInt8} {id n : Nat} (h : CutOk s id n) : cut s id n = (cutAll s id n, 0) := by
  have := h.id1; have := h.id2; have := h.n1; have := h.n2; have := h.s1; have := h.s2; have := h.m
  unfold Sough.cut
  rw [if_neg (by omega), if_neg (by rw [Int.toNat_natCast]; omega)]
  rfl
theorem CutOk.ok {s : List UInt8} {id n k : Nat} (h : CutOk s id n) (hk : k < many s.length n) : (fragAt (cutAll s id n) k).ok := by
  have := many_lt h.n1 hk
  rw [cutAll_at hk]
  refine ⟨h.id1, h.id2, ?_, ?_, ?_, ?_, ?_, ?_⟩
  · have := h.pos; show (1 : Int) ≤ (many s.length n : Int); omega
  · have := h.m; show (many s.length n : Int) ≤ 16; omega
  · show (0 : Int) ≤ (k : Int); omega
  · show (k : Int) < (many s.length n : Int); omega
  · show 1 ≤ ((s.drop (k * n)).take n).length
    simp only [List.length_take, List.length_drop]; have := h.n1; omega
  · show ((s.drop (k * n)).take n).length ≤ 1000
    simp only [List.length_take, List.length_drop]; have := h.n2; omega
theorem joined_cut {s : List UInt8} {id n : Nat} (hn : 1 ≤ n) : ∀ k, k ≤ many s.length n → joined (cutAll s id n) k = s.take (k * n)
  | 0, _ => by simp [joined]
  | k + 1, hk => by
    rw [joined_succ _ (by rw [cutAll_len]; omega), joined_cut hn k (by omega), cutAll_at (by omega)]
    rw [show (k + 1) * n = k * n + n by rw [Nat.succ_mul], List.take_add]
theorem CutOk.good {s : List UInt8} {id n k : Nat} (h : CutOk s id n) (hk : k < many s.length n) : Good (cutAll s id n) k := by
  refine ⟨h.ok hk, ?_, ?_, ?_⟩
  · rw [cutAll_at hk, cutAll_at h.pos]
  · rw [cutAll_at hk, cutAll_len]
  · rw [cutAll_at hk]
theorem CutOk.parts {s : List UInt8} {id n : Nat} (h : CutOk s id n) : joined (cutAll s id n) (cutAll s id n).length = s := by
  rw [cutAll_len, joined_cut h.n1 _ (Nat.le_refl _)]
  exact List.take_of_length_le (many_ge h.n1 (Nat.le_refl _))

end Sough
namespace Go.Proofs.Ytokphknnblpagaa
open Go.RowKit Go.Shelf

theorem right_as {f : Sough.Frag} {b : Bool} (hr : f.right = b) (w : World) :
    Calls Try.prog 23 #[.agg #[.int .u64 f.id, .int .i64 f.index, .int .i64 f.count, .string ⟨f.part.toArray⟩]] w fun e w' => e = .returned (.bool b) ∧ Below w.heap.size w w' := by
  subst hr
  exact right_walk f.id f.index f.count ⟨f.part.toArray⟩ w
theorem rright_as {f : Sough.Frag} {b : Bool} (hr : f.right = b) (w : World) :
    Calls Try.prog 25 #[.agg #[.int .u64 f.id, .int .i64 f.index, .int .i64 f.count, .string ⟨f.part.toArray⟩]] w fun e w' => e = .returned (.bool b) ∧ Below w.heap.size w w' := by
  subst hr
  exact rright_walk f.id f.index f.count ⟨f.part.toArray⟩ w
/-- A row of parts lies there. -/
def FragsAt (w : World) (b o : Nat) (fs : List Sough.Frag) : Prop :=
  ∀ i, i < fs.length → w.cell? ⟨b, o + i * 4, none⟩ = some (.int .u64 (Sough.fragAt fs i).id) ∧ w.cell? ⟨b, o + i * 4 + 1, none⟩ = some (.int .i64 (Sough.fragAt fs i).index) ∧
    w.cell? ⟨b, o + i * 4 + 2, none⟩ = some (.int .i64 (Sough.fragAt fs i).count) ∧ w.cell? ⟨b, o + i * 4 + 3, none⟩ = some (.string ⟨(Sough.fragAt fs i).part.toArray⟩)
theorem FragsAt.later {w w' : World} {b o : Nat} {fs : List Sough.Frag} (h : FragsAt w b o fs) (hb : Below w.heap.size w w') : FragsAt w' b o fs := fun i hi =>
  have k := h i hi
  ⟨(hb.cell (World.block_lt_of_cell? w _ k.1)).trans k.1, (hb.cell (World.block_lt_of_cell? w _ k.2.1)).trans k.2.1, (hb.cell (World.block_lt_of_cell? w _ k.2.2.1)).trans k.2.2.1, (hb.cell (World.block_lt_of_cell? w _ k.2.2.2)).trans k.2.2.2⟩
theorem cells_at (fs : List Sough.Frag) : ∀ i, i < fs.length → (fs.flatMap fragCells)[i * 4]? = some (.int .u64 (Sough.fragAt fs i).id) ∧ (fs.flatMap fragCells)[i * 4 + 1]? = some (.int .i64 (Sough.fragAt fs i).index) ∧
    (fs.flatMap fragCells)[i * 4 + 2]? = some (.int .i64 (Sough.fragAt fs i).count) ∧ (fs.flatMap fragCells)[i * 4 + 3]? = some (.string ⟨(Sough.fragAt fs i).part.toArray⟩) := by
  induction fs with
  | nil => intro i hi; simp at hi
  | cons f fs ih =>
    intro i hi
    cases i with
    | zero => simp [Sough.fragAt, fragCells]
    | succ i =>
      have := ih i (by simpa using hi)
      have e : ∀ j, ((f :: fs).flatMap fragCells)[(i + 1) * 4 + j]? = (fs.flatMap fragCells)[i * 4 + j]? := fun j => by
        rw [List.flatMap_cons, List.getElem?_append_right (by simp [fragCells]; omega)]
        congr 1
        simp [fragCells]; omega
      have e0 := e 0
      simp only [Nat.add_zero] at e0
      rw [e0, e 1, e 2, e 3]
      exact this
theorem fragsAt_own {w : World} {base g cap : Nat} {e : TypeId} {fs : List Sough.Frag} (h : w.ownsRow base e 4 (.slice (some ⟨g, 0, none⟩) fs.length cap) fs.length (fs.flatMap fragCells)) : FragsAt w g 0 fs := by
  intro i hi
  obtain ⟨a, b, c, d⟩ := cells_at fs i hi
  simp only [Nat.zero_add]
  exact ⟨(h.cellAt _ (by omega)).trans a, (h.cellAt _ (by omega)).trans b, (h.cellAt _ (by omega)).trans c, (h.cellAt _ (by omega)).trans d⟩
theorem own_shape {w : World} {base size n : Nat} {e : TypeId} {v : Value} {xs : List Value} (h : w.ownsRow base e size v n xs) : ∃ a cap, v = .slice a n cap := by
  rcases h.2 with ⟨rfl, rfl⟩ | ⟨g, cap, cur, rfl, _⟩
  · exact ⟨_, _, rfl⟩
  · exact ⟨_, _, rfl⟩
theorem own_head {w : World} {base size n : Nat} {e : TypeId} {v : Value} {xs : List Value} (h : w.ownsRow base e size v n xs) (hn : 0 < n) : ∃ g cap, v = .slice (some ⟨g, 0, none⟩) n cap ∧ n ≤ cap ∧ cap ≤ maxLen := by
  rcases h.2 with ⟨_, h0⟩ | ⟨g, cap, _, h1, _, _, h2, h3, _⟩
  · omega
  · exact ⟨g, cap, h1, h2, h3⟩
/-- One part more behind an append. -/
theorem own_cells (W : World) (T : TypeId) (f : Sough.Frag) : ∀ (j : Nat) (u : Value), (fragCells f)[j]? = some u → (W.alloc (.cells #[.int .u64 f.id, .int .i64 f.index, .int .i64 f.count, .string ⟨f.part.toArray⟩] T)).cell? ((⟨W.heap.size, 0, none⟩ : Addr).add j) = some u := by
  intro j u hj
  rw [show (⟨W.heap.size, 0, none⟩ : Addr).add j = ⟨W.heap.size, 0 + j, none⟩ from Go.WideShapes.add_plain _ _ _, Nat.zero_add, World.cell?_alloc_mark]
  simpa [fragCells] using hj
theorem frag_one (f : Sough.Frag) : ∀ u ∈ fragCells f, u.oneCell' = true := by
  intro u hu; simp [fragCells] at hu; rcases hu with rfl | rfl | rfl | rfl <;> rfl
theorem take_cells {fs : List Sough.Frag} {k : Nat} (hk : k < fs.length) : (fs.take (k + 1)).flatMap fragCells = (fs.take k).flatMap fragCells ++ fragCells (Sough.fragAt fs k) := by
  have e : Sough.fragAt fs k = fs[k] := by simp [Sough.fragAt, List.getD_eq_getElem?_getD, List.getElem?_eq_getElem hk]
  rw [List.take_succ_eq_append_getElem hk, e, List.flatMap_append]
  simp
set_option maxRecDepth 100000 in
set_option maxHeartbeats 1600000 in
theorem one_walk (id index count : Int) (part : ByteArray) (w : World) :
    Calls Try.prog 16 #[.agg #[.int .u64 id, .int .i64 index, .int .i64 count, .string part]] w fun e w' => e = .returned (.agg #[.int .u64 id, .int .i64 index, .int .i64 count, .string part]) ∧ Below w.heap.size w w' := by
  go_enter Try.func16, Try.ntmps16
  go_wp2_with fail
  refine bodyPost_ret (v := .agg #[.int .u64 id, .int .i64 index, .int .i64 count, .string part]) (by simp [results, Try.results16, go_sem]) rfl ⟨rfl, ((Below.refl _ _).alloc (Nat.le_refl _) _).alloc (by simp) _⟩
set_option maxRecDepth 100000 in
set_option maxHeartbeats 1600000 in
theorem lcut_walk (id index count : Int) (part : ByteArray) (w : World) (hs : part.size ≤ maxLen) :
    Calls Try.prog 13 #[.agg #[.int .u64 id, .int .i64 index, .int .i64 count, .string part]] w fun e w' => e = .returned (.agg #[.int .u64 id, .int .i64 index, .int .i64 count, .string (part.extract 0 (min part.size 1100))]) ∧ Below w.heap.size w w' := by
  unfold maxLen at hs
  go_enter Try.func13, Try.ntmps13
  go_wp2_with fail
  all_goals
    refine bodyPost_ret (v := .agg #[.int .u64 id, .int .i64 index, .int .i64 count, .string (part.extract 0 (min (part.size : Int) 1100).toNat)]) (by
      simp [results, Try.results13, go_sem]
      try first
        | rw [show (min (part.size : Int) 1100).toNat = 1100 by omega]
        | (rw [show (min (part.size : Int) 1100).toNat = part.size by omega]; done)
        | (rw [show (min (part.size : Int) 1100).toNat = part.size by omega]; simp)) rfl ⟨?_, ((Below.refl _ _).alloc (Nat.le_refl _) _).alloc (by simp) _⟩
    rw [show (min (part.size : Int) 1100).toNat = min part.size 1100 by omega]

theorem cut_lit {s : ByteArray} {id : Nat} {k size : Int} {fs : List Sough.Frag} {er : Nat} (hc : Sough.cut s.data.toList id size = (fs, er)) (hk : k = id) (w : World) :
    Calls Try.prog 20 #[.string s, .int .u64 k, .int .i64 size] w (CutsTo fs er w) := by
  subst hk; exact cut_as hc w
theorem one_as (f : Sough.Frag) (w : World) :
    Calls Try.prog 16 #[.agg #[.int .u64 f.id, .int .i64 f.index, .int .i64 f.count, .string ⟨f.part.toArray⟩]] w fun e w' => e = .returned (.agg #[.int .u64 f.id, .int .i64 f.index, .int .i64 f.count, .string ⟨f.part.toArray⟩]) ∧ Below w.heap.size w w' := one_walk _ _ _ _ w
theorem lcut_as {f g : Sough.Frag} (hg : Sough.cutF f = g) (hs : f.part.length ≤ maxLen) (w : World) :
    Calls Try.prog 13 #[.agg #[.int .u64 f.id, .int .i64 f.index, .int .i64 f.count, .string ⟨f.part.toArray⟩]] w fun e w' => e = .returned (.agg #[.int .u64 g.id, .int .i64 g.index, .int .i64 g.count, .string ⟨g.part.toArray⟩]) ∧ Below w.heap.size w w' := by
  subst hg
  have := lcut_walk f.id f.index f.count ⟨f.part.toArray⟩ w hs
  have e : (⟨f.part.toArray⟩ : ByteArray).extract 0 (min (⟨f.part.toArray⟩ : ByteArray).size 1100) = ⟨(Sough.cutF f).part.toArray⟩ := by
    have h := extract_eq ⟨f.part.toArray⟩ 0 (min (⟨f.part.toArray⟩ : ByteArray).size 1100)
    rw [Nat.zero_add] at h
    rw [h, mk_size]
    simp only [Sough.cutF, List.drop_zero]
    congr 2
    rcases Nat.le_total f.part.length 1100 with h | h
    · rw [Nat.min_eq_left h, List.take_of_length_le (Nat.le_refl _), List.take_of_length_le h]
    · rw [Nat.min_eq_right h]
  rw [e] at this
  exact this
/-- Four stores into a box of four cells. -/
theorem _root_.Go.Mem.put4 {w W : World} {L : List (Nat × Obj)} {k : Nat} {a b c d : Value} {T : TypeId} (h : Mem w ((k, .cells #[a, b, c, d] T (0, 0)) :: L) W) (hk : w.heap.size ≤ k) (hL : ∀ p ∈ L, p.1 ≠ k) (x y z u : Value) :
    Mem w ((k, .cells #[x, y, z, u] T (0, 0)) :: L) ((((W.setCell ⟨k, 0, none⟩ x).setCell ⟨k, 1, none⟩ y).setCell ⟨k, 2, none⟩ z).setCell ⟨k, 3, none⟩ u) :=
  (((h.set hk hL 0 x).set hk hL 1 y).set hk hL 2 z).set hk hL 3 u
theorem own_later {w w' : World} {base e size n : Nat} {v : Value} {xs : List Value} (h : w.ownsRow base e size v n xs) (hb : Below w.heap.size w w') : w'.ownsRow base e size v n xs :=
  h.kept (row := none) ⟨hb.os, hb.tape, hb.output, hb.size, fun k hk _ => hb.block k hk⟩ (by cases v.ownBlock <;> simp)

end Go.Proofs.Ytokphknnblpagaa
