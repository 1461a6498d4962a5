/- The contracts of layer 11 said of a part under one name. -/
import Derived.Test.YtkogjhdcakjpeaaSpLaw
import Derived.Test.YtkogjhdcakjpeaaSpLawPlain
import Derived.Test.YtkogjhdcakjpeaaMem
namespace Sough
def cutF (f : Frag) : Frag := ⟨f.id, f.index, f.count, f.part.take 1100⟩

theorem putget {s : List UInt8} {k : Int} {n p : Nat} (h : get s k = (n, p, 0)) : s.drop k.toNat = put n ++ s.drop p ∧ n < 18446744073709551616 := by
  obtain ⟨j, hj, e1, e2, e3⟩ : ∃ j : Nat, k = j ∧ j ≤ s.length ∧ get s k = getL j 0 0 (s.drop j) ∧ True := by
    unfold get at h ⊢
    split at h
    · simp at h
    · rename_i h'
      exact ⟨k.toNat, by omega, by omega, by rw [if_neg h'], trivial⟩
  subst hj
  rw [e2] at h
  obtain ⟨r, hr, hp, hn⟩ := getL_ok h
  refine ⟨?_, hn⟩
  have : s.drop p = r := by
    rw [hp, ← List.drop_drop, hr, List.drop_left]
  rw [this, Int.toNat_natCast, hr]

theorem decode_encode {s : List UInt8} {f : Frag} (h : decode s = (f, 0)) : f.encode = s := by
  unfold decode at h
  rcases h0 : get s 0 with ⟨a, p0, e0⟩
  rcases h1 : get s p0 with ⟨b, p1, e1⟩
  rcases h2 : get s p1 with ⟨c, p2, e2⟩
  simp only [h0, h1, h2] at h
  by_cases q0 : e0 = 0
  · by_cases q1 : e1 = 0
    · by_cases q2 : e2 = 0
      · subst q0 q1 q2
        simp only [ne_eq, not_true_eq_false, if_false] at h
        split at h
        · rename_i hok
          have hf := (Prod.mk.inj h).1
          subst hf
          rw [encode_ok hok]
          have a1 := (putget h0).1
          have a2 := (putget h1).1
          have a3 := (putget h2).1
          simp only [Int.toNat_natCast, Int.toNat_zero, List.drop_zero] at a1 a2 a3
          simp only [Frag.bytes, Int.toNat_natCast]
          rw [← a3, ← a2, ← a1]
        · simp at h
      · simp [q0, q1, q2] at h
    · simp [q0, q1] at h
  · simp [q0] at h
end Sough
namespace Go.Proofs.Ytkogjhdcakjpeaa
open Go.RowKit Go.Shelf

theorem encode_as {f : Sough.Frag} {l : List UInt8} (hE : f.encode = l) (w : World) :
    Calls Try.prog 19 #[.agg #[.int .u64 f.id, .int .i64 f.index, .int .i64 f.count, .string ⟨f.part.toArray⟩]] w fun e w' => e = .returned (.string ⟨l.toArray⟩) ∧ Below w.heap.size w w' := by
  subst hE; exact encode_walk f.id f.index f.count ⟨f.part.toArray⟩ w
theorem rencode_as {f : Sough.Frag} {l : List UInt8} (hE : f.encode = l) (w : World) :
    Calls Try.prog 23 #[.agg #[.int .u64 f.id, .int .i64 f.index, .int .i64 f.count, .string ⟨f.part.toArray⟩]] w fun e w' => e = .returned (.string ⟨l.toArray⟩) ∧ Below w.heap.size w w' := by
  subst hE; exact rencode_walk f.id f.index f.count ⟨f.part.toArray⟩ w
theorem one_as (f : Sough.Frag) (w : World) :
    Calls Try.prog 22 #[.agg #[.int .u64 f.id, .int .i64 f.index, .int .i64 f.count, .string ⟨f.part.toArray⟩]] w fun e w' => e = .returned (.agg #[.int .u64 f.id, .int .i64 f.index, .int .i64 f.count, .string ⟨f.part.toArray⟩]) ∧ Below w.heap.size w w' := one_walk _ _ _ _ w
theorem lcut_as {f g : Sough.Frag} (hg : Sough.cutF f = g) (hs : f.part.length ≤ maxLen) (w : World) :
    Calls Try.prog 9 #[.agg #[.int .u64 f.id, .int .i64 f.index, .int .i64 f.count, .string ⟨f.part.toArray⟩]] w fun e w' => e = .returned (.agg #[.int .u64 g.id, .int .i64 g.index, .int .i64 g.count, .string ⟨g.part.toArray⟩]) ∧ Below w.heap.size w w' := by
  subst hg
  have := lcut_walk f.id f.index f.count ⟨f.part.toArray⟩ w hs
  have e : (⟨f.part.toArray⟩ : ByteArray).extract 0 (min (⟨f.part.toArray⟩ : ByteArray).size 1100) = ⟨(Sough.cutF f).part.toArray⟩ := by
    have h := extract_eq ⟨f.part.toArray⟩ 0 (min (⟨f.part.toArray⟩ : ByteArray).size 1100)
    rw [Nat.zero_add] at h
    rw [h, mk_size]
    simp only [Sough.cutF, List.drop_zero]
    congr 2
    rcases Nat.le_total f.part.length 1100 with h | h
    · rw [Nat.min_eq_left h, List.take_of_length_le (Nat.le_refl _), List.take_of_length_le h]
    · rw [Nat.min_eq_right h]
  rw [e] at this
  exact this
theorem dec_f {s : ByteArray} {f : Sough.Frag} {er : Nat} (hd : Sough.decode s.data.toList = (f, er)) (hs : s.size ≤ maxLen) (w : World) :
    Calls Try.prog 17 #[.string s] w fun e w' => e = .returned (.tuple #[.agg #[.int .u64 f.id, .int .i64 f.index, .int .i64 f.count, .string ⟨f.part.toArray⟩], .int .i64 er]) ∧ Below w.heap.size w w' := dec_as hd w hs
theorem rdec_f {s : ByteArray} {f : Sough.Frag} {er : Nat} (hd : Sough.decode s.data.toList = (f, er)) (hs : s.size ≤ maxLen) (w : World) :
    Calls Try.prog 18 #[.string s] w fun e w' => e = .returned (.tuple #[.agg #[.int .u64 f.id, .int .i64 f.index, .int .i64 f.count, .string ⟨f.part.toArray⟩], .int .i64 er]) ∧ Below w.heap.size w w' := rdec_as hd w hs

/-- Four stores into a box of four cells. -/
theorem _root_.Go.Mem.put4 {w W : World} {L : List (Nat × Obj)} {k : Nat} {a b c d : Value} {T : TypeId} (h : Mem w ((k, .cells #[a, b, c, d] T (0, 0)) :: L) W) (hk : w.heap.size ≤ k) (hL : ∀ p ∈ L, p.1 ≠ k) (x y z u : Value) :
    Mem w ((k, .cells #[x, y, z, u] T (0, 0)) :: L) ((((W.setCell ⟨k, 0, none⟩ x).setCell ⟨k, 1, none⟩ y).setCell ⟨k, 2, none⟩ z).setCell ⟨k, 3, none⟩ u) :=
  (((h.set hk hL 0 x).set hk hL 1 y).set hk hL 2 z).set hk hL 3 u
theorem own_later {w w' : World} {base e size n : Nat} {v : Value} {xs : List Value} (h : w.ownsRow base e size v n xs) (hb : Below w.heap.size w w') : w'.ownsRow base e size v n xs :=
  h.kept (row := none) ⟨hb.os, hb.tape, hb.output, hb.size, fun k hk _ => hb.block k hk⟩ (by cases v.ownBlock <;> simp)

/-- What soughlaw11.fixed answers. -/
def FixedOk : Prop := ∀ w : World, Calls Try.prog 16 #[] w fun e w' => e = .returned (.bool true) ∧ Below w.heap.size w w'

end Go.Proofs.Ytkogjhdcakjpeaa
