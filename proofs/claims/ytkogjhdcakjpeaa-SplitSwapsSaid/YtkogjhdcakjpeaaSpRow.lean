/- A row of parts that a loop appends to; what is cut, joined. -/
import Derived.Test.YtkogjhdcakjpeaaSpF
import Derived.Test.YtkogjhdcakjpeaaSpRCut
import Derived.Test.YtkogjhdcakjpeaaSpSame
namespace Sough

theorem fragAt_eq {fs : List Frag} {k : Nat} (hk : k < fs.length) : fragAt fs k = fs[k] := by simp [fragAt, List.getD_eq_getElem?_getD, List.getElem?_eq_getElem hk]
theorem cutAll_len (s : List UInt8) (id n : Nat) : (cutAll s id n).length = many s.length n := by simp [cutAll]
theorem cutAll_at {s : List UInt8} {id n k : Nat} (hk : k < many s.length n) : fragAt (cutAll s id n) k = ⟨id, k, many s.length n, (s.drop (k * n)).take n⟩ := by
  rw [fragAt_eq (by rw [cutAll_len]; exact hk)]
  simp [cutAll]
theorem many_lt {L n k : Nat} (hn : 1 ≤ n) (h : k < many L n) : k * n < L := Go.Proofs.Ytkogjhdcakjpeaa.pcs_lt hn h
theorem many_ge {L n k : Nat} (hn : 1 ≤ n) (h : many L n ≤ k) : L ≤ k * n := Go.Proofs.Ytkogjhdcakjpeaa.pcs_ge hn h

structure CutOk (s : List UInt8) (id n : Nat) : Prop where
  id1 : 1 ≤ id
  id2 : id ≤ 4294967296
  n1 : 1 ≤ n
  n2 : n ≤ 1000
  s1 : 1 ≤ s.length
  s2 : s.length ≤ 4096
  m : many s.length n ≤ 16

theorem CutOk.pos {s : List UInt8} {id n : Nat} (h : CutOk s id n) : 1 ≤ many s.length n := Nat.pos_of_ne_zero fun e => by
  have := many_ge (L := s.length) (k := 0) h.n1 (by omega)
  have := h.s1
  omega
theorem CutOk.cuts {s : List UInt8} {id n : Nat} (h : CutOk s id n) : cut s id n = (cutAll s id n, 0) := by
  have := h.id1; have := h.id2; have := h.n1; have := h.n2; have := h.s1; have := h.s2; have := h.m
  unfold Sough.cut
  rw [if_neg (by omega), if_neg (by rw [Int.toNat_natCast]; omega)]
  rfl
theorem CutOk.ok {s : List UInt8} {id n k : Nat} (h : CutOk s id n) (hk : k < many s.length n) : (fragAt (cutAll s id n) k).ok := by
  have := many_lt h.n1 hk
  rw [cutAll_at hk]
  refine ⟨h.id1, h.id2, ?_, ?_, ?_, ?_, ?_, ?_⟩
  · have := h.pos; show (1 : Int) ≤ (many s.length n : Int); omega
  · have := h.m; show (many s.length n : Int) ≤ 16; omega
  · show (0 : Int) ≤ (k : Int); omega
  · show (k : Int) < (many s.length n : Int); omega
  · show 1 ≤ ((s.drop (k * n)).take n).length
    simp only [List.length_take, List.length_drop]; have := h.n1; omega
  · show ((s.drop (k * n)).take n).length ≤ 1000
    simp only [List.length_take, List.length_drop]; have := h.n2; omega
theorem joined_cut {s : List UInt8} {id n : Nat} (hn : 1 ≤ n) : ∀ k, k ≤ many s.length n → joined (cutAll s id n) k = s.take (k * n)
  | 0, _ => by simp [joined]
  | k + 1, hk => by
    rw [joined_succ _ (by rw [cutAll_len]; omega), joined_cut hn k (by omega), cutAll_at (by omega)]
    rw [show (k + 1) * n = k * n + n by rw [Nat.succ_mul], List.take_add]
theorem CutOk.good {s : List UInt8} {id n k : Nat} (h : CutOk s id n) (hk : k < many s.length n) : Good (cutAll s id n) k := by
  refine ⟨h.ok hk, ?_, ?_, ?_⟩
  · rw [cutAll_at hk, cutAll_at h.pos]
  · rw [cutAll_at hk, cutAll_len]
  · rw [cutAll_at hk]
theorem CutOk.parts {s : List UInt8} {id n : Nat} (h : CutOk s id n) : joined (cutAll s id n) (cutAll s id n).length = s := by
  rw [cutAll_len, joined_cut h.n1 _ (Nat.le_refl _)]
  exact List.take_of_length_le (many_ge h.n1 (Nat.le_refl _))
theorem CutOk.whole {s : List UInt8} {id n : Nat} (h : CutOk s id n) : join (cutAll s id n) = (s, 0) := by
  have h1 := h.pos
  have h2 := h.m
  have h3 := h.s2
  unfold Sough.join
  rw [if_neg (by rw [cutAll_len]; omega), if_pos (fun i hi => h.good (by rwa [cutAll_len] at hi)), h.parts, if_neg (by omega)]
theorem join_no {fs : List Frag} {k : Nat} (hk : k < fs.length) (h : ¬ Good fs k) : join fs = ([], 3) := by
  unfold join
  split
  · rfl
  · rw [if_neg (fun g => h (g k hk))]
theorem join_nil : join [] = ([], 3) := by unfold join; rw [if_pos (by left; exact Nat.zero_lt_one)]
theorem cut_drop (s : List UInt8) (id n : Nat) : join ((cutAll s id n).drop 1) = ([], 3) := by
  rcases Nat.lt_or_ge 1 (many s.length n) with h1 | h1
  · refine join_no (k := 0) (by rw [List.length_drop, cutAll_len]; omega) fun g => ?_
    have e : fragAt ((cutAll s id n).drop 1) 0 = fragAt (cutAll s id n) 1 := by simp [fragAt, List.getD_eq_getElem?_getD]
    have := g.2.2.2
    rw [e, cutAll_at h1] at this
    have h1 : ((1 : Nat) : Int) = ((0 : Nat) : Int) := this
    omega
  · have : (cutAll s id n).drop 1 = [] := List.drop_of_length_le (by rw [cutAll_len]; omega)
    rw [this, join_nil]
theorem CutOk.snoc {s : List UInt8} {id n : Nat} (h : CutOk s id n) : join (cutAll s id n ++ [fragAt (cutAll s id n) 0]) = ([], 3) := by
  refine join_no (k := 0) (by simp) fun g => ?_
  have e : fragAt (cutAll s id n ++ [fragAt (cutAll s id n) 0]) 0 = fragAt (cutAll s id n) 0 := by
    rw [fragAt_eq (by simp), List.getElem_append_left (by rw [cutAll_len]; exact h.pos), ← fragAt_eq]
  have := g.2.2.1
  rw [e, cutAll_at h.pos, List.length_append, cutAll_len] at this
  have h1 : ((many s.length n : Nat) : Int) = ((many s.length n + 1 : Nat) : Int) := this
  omega

end Sough
namespace Go.Proofs.Ytkogjhdcakjpeaa
open Go.RowKit Go.Shelf

theorem infoFrag' : (Try.prog.info? 26).map (fun i => (i.zero, i.size, i.bytes)) = some (some fragZero, 4, 40) := infoFrag

/-- The loop's row: the first k of these parts, in memory of the call's own. -/
def RowR (T : TypeId) (fs : List Sough.Frag) (w : World) (ov iv : Value) (wr : World) : Prop :=
  ∃ k : Nat, k ≤ fs.length ∧ iv = .int .i64 k ∧ wr.ownsRow w.heap.size T 4 ov k ((fs.take k).flatMap fragCells) ∧ Below w.heap.size w wr
theorem RowR.next {T : TypeId} {fs : List Sough.Frag} {f : Sough.Frag} {w wr w1 w2 : World} {k n : Nat} {v v' : Value} {xs : List Value} {o : Obj} (hn : n = fs.length) (hlt : k < n) (hs : (fs.take (k + 1)).flatMap fragCells = xs ++ fragCells f) (hb : Below w.heap.size w wr) (hb1 : Below wr.heap.size wr w1)
    (hown : w1.ownsRow w.heap.size T 4 v k xs) (hown' : w2.ownsRow w.heap.size T 4 v' (k + 1) (xs ++ fragCells f)) (hg : (w1.alloc o).grownBy w2 v.ownBlock) : RowR T fs w v' (.int .i64 (k + 1 : Nat)) w2 :=
  ⟨k + 1, by omega, rfl, by rw [hs]; exact hown', ((hb.trans (hb1.mono hb.size)).alloc (Nat.le_trans hb.size hb1.size) o).grown hg (by have := hb.size; have := hb1.size; simp; omega) (fun r e => (hown.lt r e).1)⟩

theorem dec_to {l : List UInt8} {id : Nat} {index count : Int} {t : ByteArray} {er : Nat} (hd : Sough.decode l = (⟨id, index, count, t.data.toList⟩, er)) (hs : (⟨l.toArray⟩ : ByteArray).size ≤ maxLen) (w : World) :
    Calls Try.prog 17 #[.string ⟨l.toArray⟩] w fun e w' => e = .returned (.tuple #[.agg #[.int .u64 id, .int .i64 index, .int .i64 count, .string t], .int .i64 er]) ∧ Below w.heap.size w w' := by
  have := dec_as (s := ⟨l.toArray⟩) hd w hs
  simpa only [fragV, bytes_toArray] using this
theorem enc_len {f : Sough.Frag} (hk : f.ok) : (⟨f.bytes.toArray⟩ : ByteArray).size ≤ maxLen := by
  refine mk_le ?_
  have k8 := hk.2.2.2.2.2.2.2
  have a := (Sough.put_len f.id).2
  have b := (Sough.put_len f.index.toNat).2
  have c := (Sough.put_len f.count.toNat).2
  simp only [Sough.Frag.bytes, List.length_append]; omega
theorem join_str {v : Value} {fs : List Sough.Frag} {s : ByteArray} {er base : Nat} {e : TypeId} (hj : Sough.join fs = (s.data.toList, er)) (w : World) (hv : w.ownsRow base e 4 v fs.length (fs.flatMap fragCells)) :
    Calls Try.prog 12 #[v] w fun e w' => e = .returned (.tuple #[.string s, .int .i64 er]) ∧ Below w.heap.size w w' := by
  have := join_as hj w hv
  simpa only [bytes_toArray] using this

end Go.Proofs.Ytkogjhdcakjpeaa
