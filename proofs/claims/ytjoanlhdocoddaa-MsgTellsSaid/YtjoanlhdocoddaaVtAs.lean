/- The contracts of Get and Put (both packages) in the form that a caller wants. (For seats other than layer 1's own.) -/
import Derived.Test.YtjoanlhdocoddaaVtRPut
import Derived.Test.YtjoanlhdocoddaaRet
namespace Go.Proofs.Ytjoanlhdocoddaa
open Go.RowKit

set_option maxRecDepth 100000 in
set_option maxHeartbeats 400000 in
theorem get_out (s : ByteArray) (k : Int) (w : World) (hs : s.size ≤ maxLen) (h : k < 0 ∨ (s.size : Int) < k) :
    Calls Try.prog 21 #[.string s, .int .i64 k] w fun e w' => e = .returned (.tuple #[.int .u64 0, .int .i64 0, .int .i64 1]) ∧ w = w' := by
  unfold maxLen at hs
  rcases h with h | h
  · go_enter Try.func21, Try.ntmps21
    go_wp2
    go_ret3
    exact ⟨rfl, rfl⟩
  · have h0 : ¬ k < 0 := by omega
    go_enter Try.func21, Try.ntmps21
    go_wp2
    go_ret3
    exact ⟨rfl, rfl⟩

set_option maxRecDepth 100000 in
set_option maxHeartbeats 400000 in
theorem rget_out (s : ByteArray) (k : Int) (w : World) (hs : s.size ≤ maxLen) (h : k < 0 ∨ (s.size : Int) < k) :
    Calls Try.prog 24 #[.string s, .int .i64 k] w fun e w' => e = .returned (.tuple #[.int .u64 0, .int .i64 0, .int .i64 1]) ∧ w = w' := by
  unfold maxLen at hs
  rcases h with h | h
  · go_enter Try.func24, Try.ntmps24
    go_wp2
    go_ret3
    exact ⟨rfl, rfl⟩
  · have h0 : ¬ k < 0 := by omega
    go_enter Try.func24, Try.ntmps24
    go_wp2
    go_ret3
    exact ⟨rfl, rfl⟩

/-- vint.Get. -/
theorem get_as {s : ByteArray} {k : Int} {n p er : Nat} (hg : Sough.get s.data.toList k = (n, p, er)) (w : World) (hs : s.size ≤ maxLen) :
    Calls Try.prog 21 #[.string s, .int .i64 k] w fun e w' => e = .returned (.tuple #[.int .u64 n, .int .i64 p, .int .i64 er]) ∧ Below w.heap.size w w' := by
  unfold Sough.get at hg
  split at hg
  · rename_i h
    simp only [Prod.mk.injEq] at hg
    obtain ⟨rfl, rfl, rfl⟩ := hg
    exact (get_out s k w hs (by simpa using h)).mono fun _ _ ⟨he, hw⟩ => ⟨he, hw ▸ Below.refl _ _⟩
  · rename_i h
    obtain ⟨j, rfl⟩ := Int.eq_ofNat_of_zero_le (show 0 ≤ k by omega)
    have hw := get_walk s j w hs (by simp at h; omega)
    simp only [Int.toNat_natCast] at hg
    rw [hg] at hw
    exact hw

/-- soughref01.Get. -/
theorem rget_as {s : ByteArray} {k : Int} {n p er : Nat} (hg : Sough.get s.data.toList k = (n, p, er)) (w : World) (hs : s.size ≤ maxLen) :
    Calls Try.prog 24 #[.string s, .int .i64 k] w fun e w' => e = .returned (.tuple #[.int .u64 n, .int .i64 p, .int .i64 er]) ∧ Below w.heap.size w w' := by
  unfold Sough.get at hg
  split at hg
  · rename_i h
    simp only [Prod.mk.injEq] at hg
    obtain ⟨rfl, rfl, rfl⟩ := hg
    exact (rget_out s k w hs (by simpa using h)).mono fun _ _ ⟨he, hw⟩ => ⟨he, hw ▸ Below.refl _ _⟩
  · rename_i h
    obtain ⟨j, rfl⟩ := Int.eq_ofNat_of_zero_le (show 0 ≤ k by omega)
    have hw := rget_walk s j w hs (by simp at h; omega)
    simp only [Int.toNat_natCast] at hg
    rw [hg] at hw
    exact hw.mono fun _ _ ⟨he, hw⟩ => ⟨he, hw ▸ Below.refl _ _⟩

theorem get_bounds {s : List UInt8} {k : Int} {n p er : Nat} (hg : Sough.get s k = (n, p, er)) : p ≤ s.length ∧ n < 18446744073709551616 := by
  have := Sough.get_bound s k
  rw [hg] at this
  exact this
/-- vint.Put, soughref01.Put at any number. -/
theorem put_any (k : Int) (h0 : 0 ≤ k) (h1 : k < 18446744073709551616) (w : World) :
    Calls Try.prog 33 #[.int .u64 k] w fun e w' => e = .returned (.string ⟨(Sough.put k.toNat).toArray⟩) ∧ Below w.heap.size w w' := by
  obtain ⟨n, rfl⟩ := Int.eq_ofNat_of_zero_le h0
  exact put_walk n w (by omega)
theorem rput_any (k : Int) (h0 : 0 ≤ k) (h1 : k < 18446744073709551616) (w : World) :
    Calls Try.prog 36 #[.int .u64 k] w fun e w' => e = .returned (.string ⟨(Sough.put k.toNat).toArray⟩) ∧ Below w.heap.size w w' := by
  obtain ⟨n, rfl⟩ := Int.eq_ofNat_of_zero_le h0
  exact rput_walk n w (by omega)
theorem append_eq (l : List UInt8) (s : ByteArray) : (⟨l.toArray⟩ : ByteArray) ++ s = ⟨(l ++ s.data.toList).toArray⟩ := by
  rw [← bytes_append, bytes_toArray]
end Go.Proofs.Ytjoanlhdocoddaa
