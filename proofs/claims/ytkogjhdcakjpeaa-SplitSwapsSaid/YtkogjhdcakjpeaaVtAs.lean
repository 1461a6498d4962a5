/- The contracts of Get and Put (both packages) in the form that a caller wants. (For seats other than layer 1's own.) -/
import Derived.Test.YtkogjhdcakjpeaaVtRPut
namespace Go.Proofs.Ytkogjhdcakjpeaa
open Go.RowKit

set_option maxRecDepth 100000 in
set_option maxHeartbeats 400000 in
theorem get_out (s : ByteArray) (k : Int) (w : World) (hs : s.size ≤ maxLen) (h : k < 0 ∨ (s.size : Int) < k) :
    Calls Try.prog 25 #[.string s, .int .i64 k] w fun e w' => e = .returned (.tuple #[.int .u64 0, .int .i64 0, .int .i64 1]) ∧ w = w' := by
  unfold maxLen at hs
  rcases h with h | h
  · go_enter Try.func25, Try.ntmps25
    go_wp2
    go_ret3
    exact ⟨rfl, rfl⟩
  · have h0 : ¬ k < 0 := by omega
    go_enter Try.func25, Try.ntmps25
    go_wp2
    go_ret3
    exact ⟨rfl, rfl⟩

set_option maxRecDepth 100000 in
set_option maxHeartbeats 400000 in
theorem rget_out (s : ByteArray) (k : Int) (w : World) (hs : s.size ≤ maxLen) (h : k < 0 ∨ (s.size : Int) < k) :
    Calls Try.prog 26 #[.string s, .int .i64 k] w fun e w' => e = .returned (.tuple #[.int .u64 0, .int .i64 0, .int .i64 1]) ∧ w = w' := by
  unfold maxLen at hs
  rcases h with h | h
  · go_enter Try.func26, Try.ntmps26
    go_wp2
    go_ret3
    exact ⟨rfl, rfl⟩
  · have h0 : ¬ k < 0 := by omega
    go_enter Try.func26, Try.ntmps26
    go_wp2
    go_ret3
    exact ⟨rfl, rfl⟩

/-- vint.Get. -/
theorem get_as {s : ByteArray} {k : Int} {n p er : Nat} (hg : Sough.get s.data.toList k = (n, p, er)) (w : World) (hs : s.size ≤ maxLen) :
    Calls Try.prog 25 #[.string s, .int .i64 k] w fun e w' => e = .returned (.tuple #[.int .u64 n, .int .i64 p, .int .i64 er]) ∧ Below w.heap.size w w' := by
  unfold Sough.get at hg
  split at hg
  · rename_i h
    simp only [Prod.mk.injEq] at hg
    obtain ⟨rfl, rfl, rfl⟩ := hg
    exact (get_out s k w hs (by simpa using h)).mono fun _ _ ⟨he, hw⟩ => ⟨he, hw ▸ Below.refl _ _⟩
  · rename_i h
    obtain ⟨j, rfl⟩ := Int.eq_ofNat_of_zero_le (show 0 ≤ k by omega)
    have hw := get_walk s j w hs (by simp at h; omega)
    simp only [Int.toNat_natCast] at hg
    rw [hg] at hw
    exact hw

/-- soughref01.Get. -/
theorem rget_as {s : ByteArray} {k : Int} {n p er : Nat} (hg : Sough.get s.data.toList k = (n, p, er)) (w : World) (hs : s.size ≤ maxLen) :
    Calls Try.prog 26 #[.string s, .int .i64 k] w fun e w' => e = .returned (.tuple #[.int .u64 n, .int .i64 p, .int .i64 er]) ∧ Below w.heap.size w w' := by
  unfold Sough.get at hg
  split at hg
  · rename_i h
    simp only [Prod.mk.injEq] at hg
    obtain ⟨rfl, rfl, rfl⟩ := hg
    exact (rget_out s k w hs (by simpa using h)).mono fun _ _ ⟨he, hw⟩ => ⟨he, hw ▸ Below.refl _ _⟩
  · rename_i h
    obtain ⟨j, rfl⟩ := Int.eq_ofNat_of_zero_le (show 0 ≤ k by omega)
    have hw := rget_walk s j w hs (by simp at h; omega)
    simp only [Int.toNat_natCast] at hg
    rw [hg] at hw
    exact hw.mono fun _ _ ⟨he, hw⟩ => ⟨he, hw ▸ Below.refl _ _⟩

theorem get_bounds {s : List UInt8} {k : Int} {n p er : Nat} (hg : Sough.get s k = (n, p, er)) : p ≤ s.length ∧ n < 18446744073709551616 := by
  have := Sough.get_bound s k
  rw [hg] at this
  exact this
/-- vint.Put, soughref01.Put at any number. -/
theorem put_any (k : Int) (h0 : 0 ≤ k) (h1 : k < 18446744073709551616) (w : World) :
    Calls Try.prog 27 #[.int .u64 k] w fun e w' => e = .returned (.string ⟨(Sough.put k.toNat).toArray⟩) ∧ Below w.heap.size w w' := by
  obtain ⟨n, rfl⟩ := Int.eq_ofNat_of_zero_le h0
  exact put_walk n w (by omega)
theorem rput_any (k : Int) (h0 : 0 ≤ k) (h1 : k < 18446744073709551616) (w : World) :
    Calls Try.prog 28 #[.int .u64 k] w fun e w' => e = .returned (.string ⟨(Sough.put k.toNat).toArray⟩) ∧ Below w.heap.size w w' := by
  obtain ⟨n, rfl⟩ := Int.eq_ofNat_of_zero_le h0
  exact rput_walk n w (by omega)
theorem ret_bool {a b : Bool} (h : a = b) : Ending.returned (.bool a) = .returned (.bool b) := by rw [h]
theorem ret_true {b : Bool} (h : b = true) : Ending.returned (.bool b) = .returned (.bool true) := by rw [h]
theorem ret_str {a b : ByteArray} (h : a = b) : Ending.returned (.string a) = .returned (.string b) := by rw [h]
theorem bytes_toArray (s : ByteArray) : (⟨s.data.toList.toArray⟩ : ByteArray) = s := by cases s; rfl
theorem append_eq (l : List UInt8) (s : ByteArray) : (⟨l.toArray⟩ : ByteArray) ++ s = ⟨(l ++ s.data.toList).toArray⟩ := by
  rw [← bytes_append, bytes_toArray]
theorem ext_trans {a b c : World} (h : Below a.heap.size a b) (k : Below b.heap.size b c) : Below a.heap.size a c := h.trans (k.mono h.size)
theorem extract_eq (s : ByteArray) (p n : Nat) : s.extract p (p + n) = ⟨((s.data.toList.drop p).take n).toArray⟩ := by
  apply ByteArray.ext
  apply Array.ext'
  simp [List.take_drop]
theorem extract_toList (l : List UInt8) (k : Nat) : ((⟨l.toArray⟩ : ByteArray).extract 0 k).toList = l.take k := by
  have h := extract_eq ⟨l.toArray⟩ 0 k
  rw [Nat.zero_add] at h
  rw [h]
  simp
theorem list_of (s : ByteArray) : ∃ l : List UInt8, s = ⟨l.toArray⟩ ∧ s.size = l.length := ⟨s.data.toList, (bytes_toArray s).symm, by simp⟩
theorem mk_size (l : List UInt8) : (⟨l.toArray⟩ : ByteArray).size = l.length := rfl
theorem mk_le {l : List UInt8} (h : l.length ≤ 100000) : (⟨l.toArray⟩ : ByteArray).size ≤ maxLen := by rw [mk_size]; unfold maxLen; omega
theorem wf_u64 {n : Int} (h : (Lit.int .u64 n).wf = true) : ∃ m : Nat, n = m ∧ m < 18446744073709551616 := by
  have := bounds_u64 h
  exact ⟨n.toNat, by omega, by omega⟩

end Go.Proofs.Ytkogjhdcakjpeaa
