/- Plain law: of two numbers the greater one's bytes are never fewer; of as many, they are the greater text; neither one's begin the other one's. -/
import Derived.Test.YtnolpbkeheiadaaVtPutPlain
import GoSem.Op.String
namespace Sough
open Go

theorem less_append : ∀ (a b x y : List UInt8), a.length = b.length → Op.bytesLess (a ++ x) (b ++ y) = (Op.bytesLess a b || (a == b && Op.bytesLess x y))
  | [], [], x, y, _ => by simp [Op.bytesLess]
  | [], _ :: _, _, _, h => by simp at h
  | _ :: _, [], _, _, h => by simp at h
  | c :: a, d :: b, x, y, h => by
    simp only [List.cons_append, Op.bytesLess]
    rw [less_append a b x y (by simpa using h)]
    have h1 : (c :: a == d :: b) = (c == d && a == b) := rfl
    rw [h1]
    cases (decide (c < d)) <;> cases (c == d) <;> cases (Op.bytesLess a b) <;> cases (a == b) <;> simp

theorem putHi_inj (f : Nat) : ∀ m n, m < 128 ^ f → n < 128 ^ f → putHi f m = putHi f n → m = n := by
  induction f with
  | zero => intro m n hm hn _; simp at hm hn; omega
  | succ f ih =>
    intro m n hm hn h
    by_cases h0 : m = 0
    · by_cases h1 : n = 0
      · omega
      · rw [h0, putHi_zero, putHi_succ f h1] at h; simp at h
    · by_cases h1 : n = 0
      · rw [h1, putHi_zero, putHi_succ f h0] at h; simp at h
      · rw [putHi_succ f h0, putHi_succ f h1] at h
        have hl := congrArg List.length h
        simp at hl
        obtain ⟨h2, h3⟩ := List.append_inj h hl
        have := ih (m / 128) (n / 128) (by rw [Nat.pow_succ] at hm; omega) (by rw [Nat.pow_succ] at hn; omega) h2
        simp only [List.cons.injEq, and_true] at h3
        have h4 := congrArg UInt8.toNat h3
        rw [u8_of _ (by omega), u8_of _ (by omega)] at h4
        omega

theorem putHi_less (f : Nat) : ∀ m n, m < 128 ^ f → n < 128 ^ f → m < n → (putHi f m).length = (putHi f n).length → Op.bytesLess (putHi f m) (putHi f n) = true := by
  induction f with
  | zero => intro m n hm hn; simp at hm hn; omega
  | succ f ih =>
    intro m n hm hn h hl
    by_cases h0 : m = 0
    · rw [h0, putHi_zero, putHi_succ f (by omega : n ≠ 0)] at hl
      simp at hl
    · rw [putHi_succ f h0, putHi_succ f (by omega : n ≠ 0)] at hl ⊢
      have hl' : (putHi f (m / 128)).length = (putHi f (n / 128)).length := by simpa using hl
      rw [less_append _ _ _ _ hl']
      rw [Nat.pow_succ] at hm hn
      by_cases hd : m / 128 < n / 128
      · rw [ih _ _ (by omega) (by omega) hd hl']; simp
      · have he : m / 128 = n / 128 := by omega
        have hlast : UInt8.ofNat (128 + m % 128) < UInt8.ofNat (128 + n % 128) := by
          rw [UInt8.lt_iff_toNat_lt, u8_of _ (by omega), u8_of _ (by omega)]; omega
        rw [he]
        generalize UInt8.ofNat (128 + m % 128) = x at *
        generalize UInt8.ofNat (128 + n % 128) = y at *
        simp [Op.bytesLess, hlast]

theorem put_less {m n : Nat} (hm : m < 18446744073709551616) (hn : n < 18446744073709551616) (h : m < n) (hl : (put m).length = (put n).length) : Op.bytesLess (put m) (put n) = true := by
  have h9 : (128 : Nat) ^ 9 = 9223372036854775808 := by decide
  unfold put at hl ⊢
  have hl' : (putHi 9 (m / 128)).length = (putHi 9 (n / 128)).length := by simpa using hl
  rw [less_append _ _ _ _ hl']
  by_cases hd : m / 128 < n / 128
  · rw [putHi_less 9 _ _ (by omega) (by omega) hd hl']; simp
  · have he : m / 128 = n / 128 := by omega
    have hlast : UInt8.ofNat (m % 128) < UInt8.ofNat (n % 128) := by
      rw [UInt8.lt_iff_toNat_lt, u8_of _ (by omega), u8_of _ (by omega)]; omega
    rw [he]
    simp [Op.bytesLess, hlast]

theorem put_ne {m n : Nat} (hm : m < 18446744073709551616) (hn : n < 18446744073709551616) (h : m ≠ n) : put m ≠ put n := fun he =>
  h (put_inj (r := []) (s := []) hm hn (by rw [he]))

theorem put_begin {m n : Nat} (hm : m < 18446744073709551616) (hn : n < 18446744073709551616) (h : m ≠ n) (k : Nat) : (put n).take k ≠ put m := fun he =>
  h (put_inj (r := (put n).drop k) (s := []) hm hn (by rw [← he, List.take_append_drop, List.append_nil]))

end Sough
