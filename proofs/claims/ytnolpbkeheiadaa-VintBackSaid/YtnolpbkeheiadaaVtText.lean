/- The contracts of Get at any place, and the walks of GetText and PutText (both packages). -/
import Derived.Test.YtnolpbkeheiadaaVtRPut
namespace Go.Proofs.Ytnolpbkeheiadaa
open Go.RowKit

set_option maxRecDepth 100000 in
set_option maxHeartbeats 400000 in
theorem get_out (s : ByteArray) (k : Int) (w : World) (hs : s.size ≤ maxLen) (h : k < 0 ∨ (s.size : Int) < k) :
    Calls Try.prog 11 #[.string s, .int .i64 k] w fun e w' => e = .returned (.tuple #[.int .u64 0, .int .i64 0, .int .i64 1]) ∧ w = w' := by
  unfold maxLen at hs
  rcases h with h | h
  · go_enter Try.func11, Try.ntmps11
    go_wp2
    go_ret3
    exact ⟨rfl, rfl⟩
  · have h0 : ¬ k < 0 := by omega
    go_enter Try.func11, Try.ntmps11
    go_wp2
    go_ret3
    exact ⟨rfl, rfl⟩

set_option maxRecDepth 100000 in
set_option maxHeartbeats 400000 in
theorem rget_out (s : ByteArray) (k : Int) (w : World) (hs : s.size ≤ maxLen) (h : k < 0 ∨ (s.size : Int) < k) :
    Calls Try.prog 12 #[.string s, .int .i64 k] w fun e w' => e = .returned (.tuple #[.int .u64 0, .int .i64 0, .int .i64 1]) ∧ w = w' := by
  unfold maxLen at hs
  rcases h with h | h
  · go_enter Try.func12, Try.ntmps12
    go_wp2
    go_ret3
    exact ⟨rfl, rfl⟩
  · have h0 : ¬ k < 0 := by omega
    go_enter Try.func12, Try.ntmps12
    go_wp2
    go_ret3
    exact ⟨rfl, rfl⟩

/-- vint.Get. -/
theorem get_as {s : ByteArray} {k : Int} {n p er : Nat} (hg : Sough.get s.data.toList k = (n, p, er)) (w : World) (hs : s.size ≤ maxLen) :
    Calls Try.prog 11 #[.string s, .int .i64 k] w fun e w' => e = .returned (.tuple #[.int .u64 n, .int .i64 p, .int .i64 er]) ∧ Below w.heap.size w w' := by
  unfold Sough.get at hg
  split at hg
  · rename_i h
    simp only [Prod.mk.injEq] at hg
    obtain ⟨rfl, rfl, rfl⟩ := hg
    exact (get_out s k w hs (by simpa using h)).mono fun _ _ ⟨he, hw⟩ => ⟨he, hw ▸ Below.refl _ _⟩
  · rename_i h
    obtain ⟨j, rfl⟩ := Int.eq_ofNat_of_zero_le (show 0 ≤ k by omega)
    have hw := get_walk s j w hs (by simp at h; omega)
    simp only [Int.toNat_natCast] at hg
    rw [hg] at hw
    exact hw

/-- soughref01.Get. -/
theorem rget_as {s : ByteArray} {k : Int} {n p er : Nat} (hg : Sough.get s.data.toList k = (n, p, er)) (w : World) (hs : s.size ≤ maxLen) :
    Calls Try.prog 12 #[.string s, .int .i64 k] w fun e w' => e = .returned (.tuple #[.int .u64 n, .int .i64 p, .int .i64 er]) ∧ Below w.heap.size w w' := by
  unfold Sough.get at hg
  split at hg
  · rename_i h
    simp only [Prod.mk.injEq] at hg
    obtain ⟨rfl, rfl, rfl⟩ := hg
    exact (rget_out s k w hs (by simpa using h)).mono fun _ _ ⟨he, hw⟩ => ⟨he, hw ▸ Below.refl _ _⟩
  · rename_i h
    obtain ⟨j, rfl⟩ := Int.eq_ofNat_of_zero_le (show 0 ≤ k by omega)
    have hw := rget_walk s j w hs (by simp at h; omega)
    simp only [Int.toNat_natCast] at hg
    rw [hg] at hw
    exact hw.mono fun _ _ ⟨he, hw⟩ => ⟨he, hw ▸ Below.refl _ _⟩

/-- A text and a place, as values. -/
def TextRes (r : List UInt8 × Nat × Nat) (w : World) (e : Ending) (w' : World) : Prop := e = .returned (.tuple #[.string ⟨r.1.toArray⟩, .int .i64 r.2.1, .int .i64 r.2.2]) ∧ Below w.heap.size w w'

theorem text_err {s : List UInt8} {k most : Int} {n p er : Nat} (hg : Sough.get s k = (n, p, er)) (he : er ≠ 0) : Sough.getText s k most = ([], 0, er) := by
  simp [Sough.getText, hg, he]
theorem text_big {s : List UInt8} {k most : Int} {n p : Nat} (hg : Sough.get s k = (n, p, 0)) (h : max 0 most < n) : Sough.getText s k most = ([], 0, 4) := by
  unfold Sough.getText
  simp only [hg]
  rw [if_neg (by simp), if_pos h]
theorem text_short {s : List UInt8} {k most : Int} {n p : Nat} (hg : Sough.get s k = (n, p, 0)) (h : ¬ max 0 most < n) (h2 : s.length - p < n) : Sough.getText s k most = ([], 0, 2) := by
  unfold Sough.getText
  simp only [hg]
  rw [if_neg (by simp), if_neg h, if_pos h2]
theorem text_ok {s : List UInt8} {k most : Int} {n p : Nat} (hg : Sough.get s k = (n, p, 0)) (h : ¬ max 0 most < n) (h2 : ¬ s.length - p < n) : Sough.getText s k most = ((s.drop p).take n, p + n, 0) := by
  unfold Sough.getText
  simp only [hg]
  rw [if_neg (by simp), if_neg h, if_neg h2]
theorem extract_eq (s : ByteArray) (p n : Nat) : s.extract p (p + n) = ⟨((s.data.toList.drop p).take n).toArray⟩ := by
  apply ByteArray.ext
  apply Array.ext'
  simp [List.take_drop]

set_option maxRecDepth 100000 in
set_option maxHeartbeats 800000 in
theorem gett_walk {s : ByteArray} {k most : Int} {n p er : Nat} (hg : Sough.get s.data.toList k = (n, p, er)) (w : World) (hs : s.size ≤ maxLen) (hm : most ≤ 9223372036854775807) (hp : p ≤ s.size) (hn : n < 18446744073709551616) :
    Calls Try.prog 16 #[.string s, .int .i64 k, .int .i64 most] w (TextRes (Sough.getText s.data.toList k most) w) := by
  have HG := Lib.hid hg; have HN := Lib.hid hn; clear hg hn
  have HS := Lib.hid hs
  unfold maxLen at hs
  by_cases he : er = 0
  · subst he
    by_cases h1 : max 0 most < n
    · go_enter Try.func16, Try.ntmps16
      go_wp2_with (go_at_call 11; refine (get_as HG.out _ HS.out).mono ?_; rintro e w' ⟨rfl, hb⟩)
      go_ret3
      rw [text_big HG.out (by omega)]
      exact ⟨rfl, hb⟩
    · by_cases h2 : s.size - p < n
      · go_enter Try.func16, Try.ntmps16
        go_wp2_with (go_at_call 11; refine (get_as HG.out _ HS.out).mono ?_; rintro e w' ⟨rfl, hb⟩)
        go_ret3
        rw [text_short HG.out (by omega) (by simp; omega)]
        exact ⟨rfl, hb⟩
      · go_enter Try.func16, Try.ntmps16
        go_wp2_with (go_at_call 11; refine (get_as HG.out _ HS.out).mono ?_; rintro e w' ⟨rfl, hb⟩)
        go_ret3
        rw [text_ok HG.out (by omega) (by simp; omega)]
        exact ⟨by rw [extract_eq]; rfl, hb⟩
  · go_enter Try.func16, Try.ntmps16
    go_wp2_with (go_at_call 11; refine (get_as HG.out _ HS.out).mono ?_; rintro e w' ⟨rfl, hb⟩)
    go_ret3
    rw [text_err HG.out he]
    exact ⟨rfl, hb⟩

set_option maxRecDepth 100000 in
set_option maxHeartbeats 800000 in
theorem rgett_walk {s : ByteArray} {k most : Int} {n p er : Nat} (hg : Sough.get s.data.toList k = (n, p, er)) (w : World) (hs : s.size ≤ maxLen) (hm : most ≤ 9223372036854775807) (hp : p ≤ s.size) (hn : n < 18446744073709551616) :
    Calls Try.prog 17 #[.string s, .int .i64 k, .int .i64 most] w (TextRes (Sough.getText s.data.toList k most) w) := by
  have HG := Lib.hid hg; have HN := Lib.hid hn; clear hg hn
  have HS := Lib.hid hs
  unfold maxLen at hs
  by_cases he : er = 0
  · subst he
    by_cases h1 : max 0 most < n
    · have h3 : 0 < n := by omega
      by_cases hm0 : most < 0
      all_goals
        go_enter Try.func17, Try.ntmps17
        go_wp2_with (go_at_call 12; refine (rget_as HG.out _ HS.out).mono ?_; rintro e w' ⟨rfl, hb⟩)
        go_ret3
        rw [text_big HG.out (by omega)]
        exact ⟨rfl, hb⟩
    · by_cases h2 : s.size - p < n
      · have h3 : 0 < n := by omega
        have hm0 : ¬ most < 0 := by omega
        go_enter Try.func17, Try.ntmps17
        go_wp2_with (go_at_call 12; refine (rget_as HG.out _ HS.out).mono ?_; rintro e w' ⟨rfl, hb⟩)
        go_ret3
        rw [text_short HG.out (by omega) (by simp; omega)]
        exact ⟨rfl, hb⟩
      · by_cases h3 : 0 < n
        · have hm0 : ¬ most < 0 := by omega
          go_enter Try.func17, Try.ntmps17
          go_wp2_with (go_at_call 12; refine (rget_as HG.out _ HS.out).mono ?_; rintro e w' ⟨rfl, hb⟩)
          go_ret3
          rw [text_ok HG.out (by omega) (by simp; omega)]
          exact ⟨by rw [extract_eq]; rfl, hb⟩
        · go_enter Try.func17, Try.ntmps17
          go_wp2_with (go_at_call 12; refine (rget_as HG.out _ HS.out).mono ?_; rintro e w' ⟨rfl, hb⟩)
          go_ret3
          rw [text_ok HG.out (by omega) (by simp; omega)]
          exact ⟨by rw [extract_eq]; rfl, hb⟩
  · go_enter Try.func17, Try.ntmps17
    go_wp2_with (go_at_call 12; refine (rget_as HG.out _ HS.out).mono ?_; rintro e w' ⟨rfl, hb⟩)
    go_ret3
    rw [text_err HG.out he]
    exact ⟨rfl, hb⟩

theorem bytes_toArray (s : ByteArray) : (⟨s.data.toList.toArray⟩ : ByteArray) = s := by cases s; rfl
theorem append_eq (l : List UInt8) (s : ByteArray) : (⟨l.toArray⟩ : ByteArray) ++ s = ⟨(l ++ s.data.toList).toArray⟩ := by
  rw [← bytes_append, bytes_toArray]

set_option maxRecDepth 100000 in
set_option maxHeartbeats 800000 in
theorem putt_walk (s : ByteArray) (w : World) (hs : s.size ≤ 140737488351232) :
    Calls Try.prog 18 #[.string s] w fun e w' => e = .returned (.string ⟨(Sough.putText s.data.toList).toArray⟩) ∧ Below w.heap.size w w' := by
  have hL := (Sough.put_len s.size).2
  go_enter Try.func18, Try.ntmps18
  go_wp2_with (go_at_call 13; refine (put_walk s.size _ (by omega)).mono ?_; rintro e w' ⟨rfl, hb⟩)
  go_ret
  exact ⟨by rw [append_eq]; simp [Sough.putText], hb⟩

set_option maxRecDepth 100000 in
set_option maxHeartbeats 800000 in
theorem rputt_walk (s : ByteArray) (w : World) (hs : s.size ≤ 140737488351232) :
    Calls Try.prog 19 #[.string s] w fun e w' => e = .returned (.string ⟨(Sough.putText s.data.toList).toArray⟩) ∧ Below w.heap.size w w' := by
  have hL := (Sough.put_len s.size).2
  go_enter Try.func19, Try.ntmps19
  go_wp2_with (go_at_call 14; refine (rput_walk s.size _ (by omega)).mono ?_; rintro e w' ⟨rfl, hb⟩)
  go_ret
  exact ⟨by rw [append_eq]; simp [Sough.putText], hb⟩

end Go.Proofs.Ytnolpbkeheiadaa
