/- Plain law: a number's bytes, one by one, and how many there are. -/
import Derived.Test.YtjoanlhdocoddaaVtPlain
namespace Sough

/-- The byte at place i of 'many'. -/
def dig (n many i : Nat) : Nat := n / 2 ^ (7 * (many - 1 - i)) % 128 + if i + 1 < many then 128 else 0

theorem pow7 (k : Nat) : 2 ^ (7 * k) = 128 ^ k := by rw [Nat.pow_mul]

theorem putHi_map : ∀ (f x : Nat), putHi f x = (List.range (putHi f x).length).map fun i => UInt8.ofNat (128 + x / 128 ^ ((putHi f x).length - 1 - i) % 128)
  | 0, x => by simp [putHi]
  | f + 1, x => by
    by_cases h0 : x = 0
    · subst h0; simp [putHi]
    · have ih := putHi_map f (x / 128)
      rw [putHi_succ f h0]
      simp only [List.length_append, List.length_cons, List.length_nil, Nat.zero_add, List.range_succ, List.map_append, List.map_cons, List.map_nil]
      congr 1
      · conv => lhs; rw [ih]
        refine List.map_congr_left fun i hi => ?_
        have hi' : i < (putHi f (x / 128)).length := List.mem_range.1 hi
        rw [Nat.div_div_eq_div_mul, show 128 * 128 ^ ((putHi f (x / 128)).length - 1 - i) = 128 ^ ((putHi f (x / 128)).length + 1 - 1 - i) from by
          rw [Nat.mul_comm, ← Nat.pow_succ]; congr 1; omega]
      · rw [show (putHi f (x / 128)).length + 1 - 1 - (putHi f (x / 128)).length = 0 by omega]; simp

theorem put_map (n : Nat) : put n = (List.range (put n).length).map fun i => UInt8.ofNat (dig n (put n).length i) := by
  have hl : (put n).length = (putHi 9 (n / 128)).length + 1 := by simp [put]
  rw [hl, List.range_succ, List.map_append, List.map_cons, List.map_nil]
  unfold put
  congr 1
  · conv => lhs; rw [putHi_map]
    refine List.map_congr_left fun i hi => ?_
    have hi' : i < (putHi 9 (n / 128)).length := List.mem_range.1 hi
    unfold dig
    rw [if_pos (by omega), pow7, Nat.div_div_eq_div_mul, show 128 * 128 ^ ((putHi 9 (n / 128)).length - 1 - i) = 128 ^ ((putHi 9 (n / 128)).length + 1 - 1 - i) from by
      rw [Nat.mul_comm, ← Nat.pow_succ]; congr 1; omega, Nat.add_comm]
  · unfold dig
    rw [if_neg (by omega), show (putHi 9 (n / 128)).length + 1 - 1 - (putHi 9 (n / 128)).length = 0 by omega]; simp

theorem bitLen_pos {x : Nat} (h : x ≠ 0) : 1 ≤ Go.Lib.bitLen x := by
  unfold Go.Lib.bitLen
  rw [show (64 : Nat) = 63 + 1 from rfl, Go.Lib.bitLenAux, if_neg h]
  omega
theorem bitLenAux_le : ∀ f x, Go.Lib.bitLenAux f x ≤ f := by
  intro f
  induction f with
  | zero => intro x; simp [Go.Lib.bitLenAux]
  | succ f ih =>
    intro x
    simp only [Go.Lib.bitLenAux]
    split
    · omega
    · have := ih (x / 2); omega
theorem bitLen_7 {x : Nat} (h : x < 128) : Go.Lib.bitLen x ≤ 7 := by
  unfold Go.Lib.bitLen
  rw [Go.Lib.bitLenAux_fuel 7 x (by omega) 64 (by omega)]
  exact bitLenAux_le _ _
theorem bitLen_0 : Go.Lib.bitLen 0 = 0 := by simp [Go.Lib.bitLen, Go.Lib.bitLenAux]

theorem putHi_len : ∀ (f x : Nat), x < 128 ^ f → x < 18446744073709551616 → (putHi f x).length = (Go.Lib.bitLen x + 6) / 7
  | 0, x, h, _ => by
    have : x = 0 := by simp at h; omega
    subst this; simp [putHi, bitLen_0]
  | f + 1, x, h, hx => by
    by_cases h0 : x = 0
    · subst h0; simp [putHi, bitLen_0]
    · rw [putHi_succ f h0, List.length_append, putHi_len f (x / 128) (by rw [Nat.pow_succ] at h; omega) (by omega)]
      by_cases h1 : x < 128
      · have := bitLen_7 h1
        have := bitLen_pos h0
        rw [show x / 128 = 0 by omega, bitLen_0]
        simp; omega
      · rw [Go.Lib.bitLen_shift 7 x (by omega) (by have : (2 : Nat) ^ 64 = 18446744073709551616 := by decide
                                                   omega)]
        simp; omega

theorem put_length {n : Nat} (hn : n < 18446744073709551616) : (put n).length = max 1 ((Go.Lib.bitLen n + 6) / 7) := by
  have h9 : (128 : Nat) ^ 9 = 9223372036854775808 := by decide
  have hl : (put n).length = (putHi 9 (n / 128)).length + 1 := by simp [put]
  rw [hl, putHi_len 9 _ (by omega) (by omega)]
  by_cases h1 : n < 128
  · have := bitLen_7 h1
    rw [show n / 128 = 0 by omega, bitLen_0]
    omega
  · rw [Go.Lib.bitLen_shift 7 n (by omega) (by have : (2 : Nat) ^ 64 = 18446744073709551616 := by decide
                                               omega), show (2 : Nat) ^ 7 = 128 from rfl]
    omega

theorem put_get {n i : Nat} (hi : i < (put n).length) : (put n).take (i + 1) = (put n).take i ++ [UInt8.ofNat (dig n (put n).length i)] := by
  rw [List.take_succ_eq_append_getElem hi]
  congr 2
  have h := put_map n
  have : (put n)[i] = ((List.range (put n).length).map fun i => UInt8.ofNat (dig n (put n).length i))[i]'(by simpa using hi) := by
    congr 1
  rw [this]; simp
end Sough
