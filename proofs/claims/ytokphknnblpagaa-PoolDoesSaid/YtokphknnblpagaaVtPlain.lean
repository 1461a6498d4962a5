/- Plain law, no program in sight: the bytes of a number to the base 128 ('put'), the number at a place ('getAt'), texts with their length ahead ('getText'). No conditions beyond those typed. -/
import Derived.Lib.BitFns
namespace Sough

/-- The digits above the last one, each with 128 added. -/
def putHi : Nat → Nat → List UInt8
  | 0, _ => []
  | f + 1, n => if n = 0 then [] else putHi f (n / 128) ++ [UInt8.ofNat (128 + n % 128)]

/-- A number's bytes. -/
def put (n : Nat) : List UInt8 := putHi 9 (n / 128) ++ [UInt8.ofNat (n % 128)]

/-- The number that stands at the front of these bytes, 'i' bytes of it being read; 'a' is where it began. (value, place behind, error) -/
def getL (a : Nat) : Nat → Nat → List UInt8 → Nat × Nat × Nat
  | _, _, [] => (0, 0, 2)
  | i, n, c :: r => if (i = 0 ∧ c.toNat = 128) ∨ 144115188075855871 < n then (0, 0, 3)
      else if c.toNat < 128 then (n * 128 + c.toNat % 128, a + i + 1, 0) else getL a (i + 1) (n * 128 + c.toNat % 128) r

def get (s : List UInt8) (at_ : Int) : Nat × Nat × Nat :=
  if at_ < 0 ∨ (s.length : Int) < at_ then (0, 0, 1) else getL at_.toNat 0 0 (s.drop at_.toNat)

def putText (s : List UInt8) : List UInt8 := put s.length ++ s

def getText (s : List UInt8) (at_ most : Int) : List UInt8 × Nat × Nat :=
  let g := get s at_
  if g.2.2 ≠ 0 then ([], 0, g.2.2)
  else if max 0 most < (g.1 : Int) then ([], 0, 4)
  else if s.length - g.2.1 < g.1 then ([], 0, 2)
  else ((s.drop g.2.1).take g.1, g.2.1 + g.1, 0)

theorem u8_lt (c : UInt8) : c.toNat < 256 := UInt8.toNat_lt c

theorem u8_of (n : Nat) (h : n < 256) : (UInt8.ofNat n).toNat = n := by
  simp [UInt8.toNat_ofNat']; omega

theorem u8_ext {a b : UInt8} (h : a.toNat = b.toNat) : a = b := UInt8.toNat_inj.1 h

theorem putHi_zero (f : Nat) : putHi f 0 = [] := by cases f <;> simp [putHi]

theorem putHi_fuel : ∀ (f g n : Nat), n < 128 ^ f → n < 128 ^ g → putHi f n = putHi g n
  | 0, g, n, hf, _ => by
    have : n = 0 := by simp at hf; omega
    subst this; rw [putHi_zero, putHi_zero]
  | f + 1, 0, n, _, hg => by
    have : n = 0 := by simp at hg; omega
    subst this; rw [putHi_zero, putHi_zero]
  | f + 1, g + 1, n, hf, hg => by
    simp only [putHi]
    split
    · rfl
    · rw [putHi_fuel f g (n / 128) (by rw [Nat.pow_succ] at hf; omega) (by rw [Nat.pow_succ] at hg; omega)]

theorem putHi_succ {n : Nat} (f : Nat) (h : n ≠ 0) : putHi (f + 1) n = putHi f (n / 128) ++ [UInt8.ofNat (128 + n % 128)] := by
  simp [putHi, h]

theorem putHi_nil {f n : Nat} (h : n < 128 ^ f) (he : (putHi f n).length = 0) : n = 0 := by
  cases f with
  | zero => simp at h; omega
  | succ f =>
    by_cases h0 : n = 0
    · exact h0
    · rw [putHi_succ f h0] at he; simp at he

theorem putHi_len_le (f : Nat) : ∀ n, (putHi f n).length ≤ f := by
  induction f with
  | zero => intro n; simp [putHi]
  | succ f ih =>
    intro n
    simp only [putHi]
    split
    · simp
    · have := ih (n / 128); simp; omega

theorem putHi_len_mono (f : Nat) : ∀ m n, m ≤ n → (putHi f m).length ≤ (putHi f n).length := by
  induction f with
  | zero => intro m n _; simp [putHi]
  | succ f ih =>
    intro m n h
    by_cases h0 : m = 0
    · subst h0; rw [putHi_zero]; simp
    · rw [putHi_succ f h0, putHi_succ f (by omega)]
      have := ih (m / 128) (n / 128) (by omega)
      simp; omega

theorem put_len (n : Nat) : 1 ≤ (put n).length ∧ (put n).length ≤ 10 := by
  have := putHi_len_le 9 (n / 128)
  unfold put; simp; omega

theorem put_len_mono {m n : Nat} (h : m ≤ n) : (put m).length ≤ (put n).length := by
  have := putHi_len_mono 9 (m / 128) (n / 128) (by omega)
  unfold put; simp; omega

theorem getL_hi (a : Nat) : ∀ (f n : Nat) (r : List UInt8), n < 128 ^ f → n < 18446744073709551616 →
    getL a 0 0 (putHi f n ++ r) = getL a (putHi f n).length n r
  | 0, n, r, hf, _ => by
    have : n = 0 := by simp at hf; omega
    subst this; simp [putHi]
  | f + 1, n, r, hf, hn => by
    by_cases h0 : n = 0
    · subst h0; rw [putHi_zero]; simp
    · rw [putHi_succ f h0, List.append_assoc, getL_hi a f (n / 128) _ (by rw [Nat.pow_succ] at hf; omega) (by omega)]
      have hc := u8_of (128 + n % 128) (by omega)
      simp only [List.cons_append, List.nil_append, getL, hc]
      rw [if_neg, if_neg (by omega)]
      · have : n / 128 * 128 + (128 + n % 128) % 128 = n := by omega
        rw [this]; simp
      · intro h
        rcases h with ⟨h1, h2⟩ | h
        · have := putHi_nil (n := n / 128) (by rw [Nat.pow_succ] at hf; omega) h1
          omega
        · omega

theorem getL_put (a n : Nat) (r : List UInt8) (hn : n < 18446744073709551616) :
    getL a 0 0 (put n ++ r) = (n, a + (put n).length, 0) := by
  unfold put
  rw [List.append_assoc, getL_hi a 9 (n / 128) _ (by have : (128:Nat) ^ 9 = 9223372036854775808 := by decide
                                                     omega) (by omega)]
  have hc := u8_of (n % 128) (by omega)
  simp only [List.cons_append, List.nil_append, getL, hc]
  rw [if_neg (by omega), if_pos (by omega)]
  have : n / 128 * 128 + n % 128 % 128 = n := by omega
  rw [this]; simp; omega

theorem get_put (p r : List UInt8) (n : Nat) (hn : n < 18446744073709551616) :
    get (p ++ (put n ++ r)) (p.length : Int) = (n, p.length + (put n).length, 0) := by
  unfold get
  rw [if_neg (by simp; omega)]
  simp only [Int.toNat_natCast]
  rw [List.drop_left, getL_put _ _ _ hn]

/-- What is told has just the bytes of which it was told. -/
theorem getL_inv (a : Nat) : ∀ (l : List UInt8) (i n v p : Nat), (putHi 10 n).length = i → n < 18446744073709551616 → getL a i n l = (v, p, 0) →
    ∃ r, putHi 10 n ++ l = put v ++ r ∧ p = a + (put v).length ∧ v < 18446744073709551616
  | [], _, _, _, _, _, _, h => by simp [getL] at h
  | c :: r, i, n, v, p, hi, hn, h => by
    have hc := u8_lt c
    have h10 : (128 : Nat) ^ 10 = 1180591620717411303424 := by decide
    have h9 : (128 : Nat) ^ 9 = 9223372036854775808 := by decide
    simp only [getL] at h
    split at h
    · simp at h
    · rename_i hno
      have hn' : n ≤ 144115188075855871 := by omega
      split at h
      · rename_i hlt
        simp only [Prod.mk.injEq, and_true] at h
        obtain ⟨h1, h2⟩ := h
        have hd : v / 128 = n := by omega
        have hm : v % 128 = c.toNat := by omega
        have hpv : put v = putHi 10 n ++ [c] := by
          unfold put
          rw [hd, hm, putHi_fuel 10 9 n (by omega) (by omega)]
          congr 2
          exact u8_ext (u8_of _ (by omega))
        refine ⟨r, by rw [hpv]; simp, ?_, by omega⟩
        rw [hpv]; simp; omega
      · rename_i hge
        have hne : n * 128 + c.toNat % 128 ≠ 0 := by
          intro h0
          have hn0 : n = 0 := by omega
          rw [hn0, putHi_zero] at hi
          simp at hi
          omega
        have hp : putHi 10 (n * 128 + c.toNat % 128) = putHi 10 n ++ [c] := by
          rw [putHi_succ 9 hne, show (n * 128 + c.toNat % 128) / 128 = n by omega, putHi_fuel 10 9 n (by omega) (by omega)]
          congr 2
          exact u8_ext (by rw [u8_of _ (by omega)]; omega)
        obtain ⟨r', h1, h2, h3⟩ := getL_inv a r (i + 1) (n * 128 + c.toNat % 128) v p (by rw [hp]; simp; omega) (by omega) h
        exact ⟨r', by rw [← h1, hp]; simp, h2, h3⟩

theorem getL_ok {a v p : Nat} {l : List UInt8} (h : getL a 0 0 l = (v, p, 0)) : ∃ r, l = put v ++ r ∧ p = a + (put v).length ∧ v < 18446744073709551616 := by
  have := getL_inv a l 0 0 v p (by simp [putHi]) (by omega) h
  simpa [putHi] using this

/-- The errors of a number at a place. -/
theorem getL_err (a : Nat) : ∀ (l : List UInt8) (i n : Nat), ((getL a i n l).2.2 = 0 ∨ (getL a i n l) = (0, 0, 2) ∨ getL a i n l = (0, 0, 3))
  | [], i, n => by simp [getL]
  | c :: r, i, n => by
    simp only [getL]
    split
    · simp
    · split
      · simp
      · exact getL_err a r _ _

theorem get_err (s : List UInt8) (k : Int) : (get s k).2.2 = 0 ∨ get s k = (0, 0, 1) ∨ get s k = (0, 0, 2) ∨ get s k = (0, 0, 3) := by
  unfold get
  split
  · simp
  · rcases getL_err k.toNat (s.drop k.toNat) 0 0 with h | h | h <;> simp [h]

theorem get_ok {s : List UInt8} {k : Int} (h : (get s k).2.2 = 0) :
    ∃ (r : List UInt8), 0 ≤ k ∧ k ≤ s.length ∧ s = s.take k.toNat ++ (put (get s k).1 ++ r) ∧ (get s k).2.1 = k.toNat + (put (get s k).1).length ∧ (get s k).1 < 18446744073709551616 ∧ (get s k).2.1 ≤ s.length := by
  unfold get at h ⊢
  split at h
  · simp at h
  · rename_i hno
    rw [if_neg hno]
    obtain ⟨r, h1, h2, h3⟩ := getL_ok (a := k.toNat) (v := (getL k.toNat 0 0 (s.drop k.toNat)).1) (p := (getL k.toNat 0 0 (s.drop k.toNat)).2.1) (l := s.drop k.toNat) (Prod.ext rfl (Prod.ext rfl h))
    refine ⟨r, by omega, by omega, ?_, h2, h3, ?_⟩
    · rw [← h1, List.take_append_drop]
    · have := congrArg List.length h1
      simp at this
      omega

theorem get_bound (s : List UInt8) (k : Int) : (get s k).2.1 ≤ s.length ∧ (get s k).1 < 18446744073709551616 := by
  rcases get_err s k with h | h | h | h
  · obtain ⟨r, _, _, _, _, h5, h6⟩ := get_ok h
    exact ⟨h6, h5⟩
  all_goals simp [h]

theorem put_inj {m n : Nat} {r s : List UInt8} (hm : m < 18446744073709551616) (hn : n < 18446744073709551616) (h : put m ++ r = put n ++ s) : m = n := by
  have h1 := getL_put 0 m r hm
  rw [h, getL_put 0 n s hn] at h1
  simp only [Prod.mk.injEq] at h1
  exact h1.1.symm

/-- Bytes that follow make no difference to what is told, or to what is wrong, unless there were too few. -/
theorem getL_more (a : Nat) (t : List UInt8) : ∀ (l : List UInt8) (i n : Nat), (getL a i n l).2.2 ≠ 2 → getL a i n (l ++ t) = getL a i n l
  | [], i, n, h => by simp [getL] at h
  | c :: r, i, n, h => by
    simp only [getL, List.cons_append] at h ⊢
    split
    · rfl
    · rename_i h1
      rw [if_neg h1] at h
      split
      · rfl
      · rename_i h2
        rw [if_neg h2] at h
        exact getL_more a t r _ _ h

/-- Where it stands makes no difference but to the place. -/
theorem getL_shift (a d : Nat) : ∀ (l : List UInt8) (i n : Nat), getL (a + d) i n l = ((getL a i n l).1, (getL a i n l).2.1 + (if (getL a i n l).2.2 = 0 then d else 0), (getL a i n l).2.2)
  | [], i, n => by simp [getL]
  | c :: r, i, n => by
    simp only [getL]
    split
    · simp
    · split
      · simp; omega
      · exact getL_shift a d r _ _

/-- Cut off ahead of its last byte it is too short. -/
theorem getL_cut (a : Nat) : ∀ (l : List UInt8) (i n k : Nat), (getL a i n l).2.2 = 0 → a + i + k < (getL a i n l).2.1 → getL a i n (l.take k) = (0, 0, 2)
  | [], i, n, k, h, _ => by simp [getL] at h
  | c :: r, i, n, 0, h, _ => by simp [getL]
  | c :: r, i, n, k + 1, h, hk => by
    simp only [getL, List.take_succ_cons] at h hk ⊢
    split
    · rename_i h1; rw [if_pos h1] at h; simp at h
    · rename_i h1
      rw [if_neg h1] at h hk
      split
      · rename_i h2
        rw [if_pos h2] at hk
        simp at hk
      · rename_i h2
        rw [if_neg h2] at h hk
        exact getL_cut a r (i + 1) _ k h (by omega)

theorem put_cut {n k : Nat} (hn : n < 18446744073709551616) (hk : k < (put n).length) : get ((put n).take k) 0 = (0, 0, 2) := by
  unfold get
  rw [if_neg (by omega)]
  have h := getL_put 0 n [] hn
  rw [List.append_nil] at h
  simpa using getL_cut 0 (put n) 0 0 k (by rw [h]) (by rw [h]; simpa using hk)

end Sough
