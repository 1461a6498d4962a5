/- The walks of soughlaw11.One, Cut. -/
import Derived.Test.YtkogjhdcakjpeaaSpJoin2
import Derived.Test.YtkogjhdcakjpeaaSpRDec
namespace Go.Proofs.Ytkogjhdcakjpeaa
open Go.RowKit Go.Shelf

set_option maxRecDepth 100000 in
set_option maxHeartbeats 1600000 in
theorem one_walk (id index count : Int) (part : ByteArray) (w : World) :
    Calls Try.prog 22 #[.agg #[.int .u64 id, .int .i64 index, .int .i64 count, .string part]] w fun e w' => e = .returned (.agg #[.int .u64 id, .int .i64 index, .int .i64 count, .string part]) ∧ Below w.heap.size w w' := by
  go_enter Try.func22, Try.ntmps22
  go_wp2_with fail
  refine bodyPost_ret (v := .agg #[.int .u64 id, .int .i64 index, .int .i64 count, .string part]) (by simp [results, Try.results22, go_sem]) rfl ⟨rfl, ((Below.refl _ _).alloc (Nat.le_refl _) _).alloc (by simp) _⟩

set_option maxRecDepth 100000 in
set_option maxHeartbeats 1600000 in
theorem lcut_walk (id index count : Int) (part : ByteArray) (w : World) (hs : part.size ≤ maxLen) :
    Calls Try.prog 9 #[.agg #[.int .u64 id, .int .i64 index, .int .i64 count, .string part]] w fun e w' => e = .returned (.agg #[.int .u64 id, .int .i64 index, .int .i64 count, .string (part.extract 0 (min part.size 1100))]) ∧ Below w.heap.size w w' := by
  unfold maxLen at hs
  go_enter Try.func9, Try.ntmps9
  go_wp2_with fail
  refine bodyPost_ret (v := .agg #[.int .u64 id, .int .i64 index, .int .i64 count, .string (part.extract 0 (min (part.size : Int) 1100).toNat)]) (by simp [results, Try.results9, go_sem]) rfl ⟨?_, ((Below.refl _ _).alloc (Nat.le_refl _) _).alloc (by simp) _⟩
  rw [show (min (part.size : Int) 1100).toNat = min part.size 1100 by omega]

theorem cut_lit {s : ByteArray} {id : Nat} {k size : Int} {fs : List Sough.Frag} {er : Nat} (hc : Sough.cut s.data.toList id size = (fs, er)) (hk : k = id) (w : World) :
    Calls Try.prog 10 #[.string s, .int .u64 k, .int .i64 size] w (CutsTo fs er w) := by
  subst hk; exact cut_as hc w
theorem encode_lit {id : Nat} {k index count : Int} {part : ByteArray} {l : List UInt8} (hE : Sough.Frag.encode ⟨id, index, count, part.data.toList⟩ = l) (hk : k = id) (w : World) :
    Calls Try.prog 19 #[.agg #[.int .u64 k, .int .i64 index, .int .i64 count, .string part]] w fun e w' => e = .returned (.string ⟨l.toArray⟩) ∧ Below w.heap.size w w' := by
  subst hk hE; exact encode_walk _ _ _ _ w
theorem right_lit {id : Nat} {k index count : Int} {part : ByteArray} {b : Bool} (hE : Sough.Frag.right ⟨id, index, count, part.data.toList⟩ = b) (hk : k = id) (w : World) :
    Calls Try.prog 20 #[.agg #[.int .u64 k, .int .i64 index, .int .i64 count, .string part]] w fun e w' => e = .returned (.bool b) ∧ Below w.heap.size w w' := by
  subst hk hE; exact right_walk _ _ _ _ w
theorem dec_lit {s : ByteArray} {id : Nat} {k index count : Int} {part : List UInt8} {er : Nat} (hd : Sough.decode s.data.toList = (⟨id, index, count, part⟩, er)) (hk : k = id) (w : World) (hs : s.size ≤ maxLen) :
    Calls Try.prog 17 #[.string s] w fun e w' => e = .returned (.tuple #[.agg #[.int .u64 k, .int .i64 index, .int .i64 count, .string ⟨part.toArray⟩], .int .i64 er]) ∧ Below w.heap.size w w' := by
  subst hk; exact dec_as hd w hs


end Go.Proofs.Ytkogjhdcakjpeaa
