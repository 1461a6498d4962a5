/- The contracts of Get at any place, and the walks of GetText and PutText (both packages). -/
import Derived.Test.YtjoanlhdocoddaaVtAs
namespace Go.Proofs.Ytjoanlhdocoddaa
open Go.RowKit

/-- A text and a place, as values. -/
def TextRes (r : List UInt8 × Nat × Nat) (w : World) (e : Ending) (w' : World) : Prop := e = .returned (.tuple #[.string ⟨r.1.toArray⟩, .int .i64 r.2.1, .int .i64 r.2.2]) ∧ Below w.heap.size w w'

theorem text_err {s : List UInt8} {k most : Int} {n p er : Nat} (hg : Sough.get s k = (n, p, er)) (he : er ≠ 0) : Sough.getText s k most = ([], 0, er) := by
  simp [Sough.getText, hg, he]
theorem text_big {s : List UInt8} {k most : Int} {n p : Nat} (hg : Sough.get s k = (n, p, 0)) (h : max 0 most < n) : Sough.getText s k most = ([], 0, 4) := by
  unfold Sough.getText
  simp only [hg]
  rw [if_neg (by simp), if_pos h]
theorem text_short {s : List UInt8} {k most : Int} {n p : Nat} (hg : Sough.get s k = (n, p, 0)) (h : ¬ max 0 most < n) (h2 : s.length - p < n) : Sough.getText s k most = ([], 0, 2) := by
  unfold Sough.getText
  simp only [hg]
  rw [if_neg (by simp), if_neg h, if_pos h2]
theorem text_ok {s : List UInt8} {k most : Int} {n p : Nat} (hg : Sough.get s k = (n, p, 0)) (h : ¬ max 0 most < n) (h2 : ¬ s.length - p < n) : Sough.getText s k most = ((s.drop p).take n, p + n, 0) := by
  unfold Sough.getText
  simp only [hg]
  rw [if_neg (by simp), if_neg h, if_neg h2]
set_option maxRecDepth 100000 in
set_option maxHeartbeats 800000 in
theorem gett_walk {s : ByteArray} {k most : Int} {n p er : Nat} (hg : Sough.get s.data.toList k = (n, p, er)) (w : World) (hs : s.size ≤ maxLen) (hm : most ≤ 9223372036854775807) (hp : p ≤ s.size) (hn : n < 18446744073709551616) :
    Calls Try.prog 41 #[.string s, .int .i64 k, .int .i64 most] w (TextRes (Sough.getText s.data.toList k most) w) := by
  have HG := Lib.hid hg; have HN := Lib.hid hn; clear hg hn
  have HS := Lib.hid hs
  unfold maxLen at hs
  by_cases he : er = 0
  · subst he
    by_cases h1 : max 0 most < n
    · go_enter Try.func41, Try.ntmps41
      go_wp2_with (go_at_call 21; refine (get_as HG.out _ HS.out).mono ?_; rintro e w' ⟨rfl, hb⟩)
      go_ret3
      rw [text_big HG.out (by omega)]
      exact ⟨rfl, hb⟩
    · by_cases h2 : s.size - p < n
      · go_enter Try.func41, Try.ntmps41
        go_wp2_with (go_at_call 21; refine (get_as HG.out _ HS.out).mono ?_; rintro e w' ⟨rfl, hb⟩)
        go_ret3
        rw [text_short HG.out (by omega) (by simp; omega)]
        exact ⟨rfl, hb⟩
      · go_enter Try.func41, Try.ntmps41
        go_wp2_with (go_at_call 21; refine (get_as HG.out _ HS.out).mono ?_; rintro e w' ⟨rfl, hb⟩)
        go_ret3
        rw [text_ok HG.out (by omega) (by simp; omega)]
        exact ⟨by rw [extract_eq]; rfl, hb⟩
  · go_enter Try.func41, Try.ntmps41
    go_wp2_with (go_at_call 21; refine (get_as HG.out _ HS.out).mono ?_; rintro e w' ⟨rfl, hb⟩)
    go_ret3
    rw [text_err HG.out he]
    exact ⟨rfl, hb⟩

set_option maxRecDepth 100000 in
set_option maxHeartbeats 800000 in
theorem rgett_walk {s : ByteArray} {k most : Int} {n p er : Nat} (hg : Sough.get s.data.toList k = (n, p, er)) (w : World) (hs : s.size ≤ maxLen) (hm : most ≤ 9223372036854775807) (hp : p ≤ s.size) (hn : n < 18446744073709551616) :
    Calls Try.prog 43 #[.string s, .int .i64 k, .int .i64 most] w (TextRes (Sough.getText s.data.toList k most) w) := by
  have HG := Lib.hid hg; have HN := Lib.hid hn; clear hg hn
  have HS := Lib.hid hs
  unfold maxLen at hs
  by_cases he : er = 0
  · subst he
    by_cases h1 : max 0 most < n
    · have h3 : 0 < n := by omega
      by_cases hm0 : most < 0
      all_goals
        go_enter Try.func43, Try.ntmps43
        go_wp2_with (go_at_call 24; refine (rget_as HG.out _ HS.out).mono ?_; rintro e w' ⟨rfl, hb⟩)
        go_ret3
        rw [text_big HG.out (by omega)]
        exact ⟨rfl, hb⟩
    · by_cases h2 : s.size - p < n
      · have h3 : 0 < n := by omega
        have hm0 : ¬ most < 0 := by omega
        go_enter Try.func43, Try.ntmps43
        go_wp2_with (go_at_call 24; refine (rget_as HG.out _ HS.out).mono ?_; rintro e w' ⟨rfl, hb⟩)
        go_ret3
        rw [text_short HG.out (by omega) (by simp; omega)]
        exact ⟨rfl, hb⟩
      · by_cases h3 : 0 < n
        · have hm0 : ¬ most < 0 := by omega
          go_enter Try.func43, Try.ntmps43
          go_wp2_with (go_at_call 24; refine (rget_as HG.out _ HS.out).mono ?_; rintro e w' ⟨rfl, hb⟩)
          go_ret3
          rw [text_ok HG.out (by omega) (by simp; omega)]
          exact ⟨by rw [extract_eq]; rfl, hb⟩
        · go_enter Try.func43, Try.ntmps43
          go_wp2_with (go_at_call 24; refine (rget_as HG.out _ HS.out).mono ?_; rintro e w' ⟨rfl, hb⟩)
          go_ret3
          rw [text_ok HG.out (by omega) (by simp; omega)]
          exact ⟨by rw [extract_eq]; rfl, hb⟩
  · go_enter Try.func43, Try.ntmps43
    go_wp2_with (go_at_call 24; refine (rget_as HG.out _ HS.out).mono ?_; rintro e w' ⟨rfl, hb⟩)
    go_ret3
    rw [text_err HG.out he]
    exact ⟨rfl, hb⟩

set_option maxRecDepth 100000 in
set_option maxHeartbeats 800000 in
theorem putt_walk (s : ByteArray) (w : World) (hs : s.size ≤ 140737488351232) :
    Calls Try.prog 34 #[.string s] w fun e w' => e = .returned (.string ⟨(Sough.putText s.data.toList).toArray⟩) ∧ Below w.heap.size w w' := by
  have hL := (Sough.put_len s.size).2
  go_enter Try.func34, Try.ntmps34
  go_wp2_with (go_at_call 33; refine (put_walk s.size _ (by omega)).mono ?_; rintro e w' ⟨rfl, hb⟩)
  go_ret
  exact ⟨by rw [append_eq]; simp [Sough.putText], hb⟩

set_option maxRecDepth 100000 in
set_option maxHeartbeats 800000 in
theorem rputt_walk (s : ByteArray) (w : World) (hs : s.size ≤ 140737488351232) :
    Calls Try.prog 37 #[.string s] w fun e w' => e = .returned (.string ⟨(Sough.putText s.data.toList).toArray⟩) ∧ Below w.heap.size w w' := by
  have hL := (Sough.put_len s.size).2
  go_enter Try.func37, Try.ntmps37
  go_wp2_with (go_at_call 36; refine (rput_walk s.size _ (by omega)).mono ?_; rintro e w' ⟨rfl, hb⟩)
  go_ret
  exact ⟨by rw [append_eq]; simp [Sough.putText], hb⟩

end Go.Proofs.Ytjoanlhdocoddaa
