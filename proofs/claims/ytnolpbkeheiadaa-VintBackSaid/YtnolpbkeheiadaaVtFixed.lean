/- The contracts in the form that a law wants, and the walk of soughlaw01.fixed. -/
import Derived.Test.YtnolpbkeheiadaaVtText
namespace Go.Proofs.Ytnolpbkeheiadaa
open Go.RowKit

theorem ext_trans {a b c : World} (h : Below a.heap.size a b) (k : Below b.heap.size b c) : Below a.heap.size a c := h.trans (k.mono h.size)

theorem get_bounds {s : List UInt8} {k : Int} {n p er : Nat} (hg : Sough.get s k = (n, p, er)) : p ≤ s.length ∧ n < 18446744073709551616 := by
  have := Sough.get_bound s k
  rw [hg] at this
  exact this

/-- vint.GetText. -/
theorem gett_as {s : ByteArray} {k most : Int} {t : List UInt8} {p er : Nat} (hg : Sough.getText s.data.toList k most = (t, p, er)) (w : World) (hs : s.size ≤ maxLen) (hm : most ≤ 9223372036854775807) :
    Calls Try.prog 16 #[.string s, .int .i64 k, .int .i64 most] w fun e w' => e = .returned (.tuple #[.string ⟨t.toArray⟩, .int .i64 p, .int .i64 er]) ∧ Below w.heap.size w w' := by
  obtain ⟨n, q, er', hg2⟩ : ∃ n q er', Sough.get s.data.toList k = (n, q, er') := ⟨_, _, _, rfl⟩
  have h := get_bounds hg2
  refine (gett_walk hg2 w hs hm (by simpa using h.1) h.2).mono fun e w' hr => ?_
  rw [hg] at hr
  exact hr

/-- soughref01.GetText. -/
theorem rgett_as {s : ByteArray} {k most : Int} {t : List UInt8} {p er : Nat} (hg : Sough.getText s.data.toList k most = (t, p, er)) (w : World) (hs : s.size ≤ maxLen) (hm : most ≤ 9223372036854775807) :
    Calls Try.prog 17 #[.string s, .int .i64 k, .int .i64 most] w fun e w' => e = .returned (.tuple #[.string ⟨t.toArray⟩, .int .i64 p, .int .i64 er]) ∧ Below w.heap.size w w' := by
  obtain ⟨n, q, er', hg2⟩ : ∃ n q er', Sough.get s.data.toList k = (n, q, er') := ⟨_, _, _, rfl⟩
  have h := get_bounds hg2
  refine (rgett_walk hg2 w hs hm (by simpa using h.1) h.2).mono fun e w' hr => ?_
  rw [hg] at hr
  exact hr

/-- vint.Put at a number whose bytes are known. -/
theorem put_as {k : Int} {n : Nat} {l : List UInt8} (hl : Sough.put n = l) (hk : k = n) (hn : n < 18446744073709551616) (w : World) :
    Calls Try.prog 13 #[.int .u64 k] w fun e w' => e = .returned (.string ⟨l.toArray⟩) ∧ Below w.heap.size w w' := by
  subst hl hk; exact put_walk n w hn

set_option maxRecDepth 100000 in
set_option maxHeartbeats 1600000 in
theorem fixed_walk (w : World) :
    Calls Try.prog 15 #[] w fun e w' => e = .returned (.bool true) ∧ Below w.heap.size w w' := by
  go_enter Try.func15, Try.ntmps15
  go_wp2_with fail
  refine (get_as (n := 300) (p := 3) (er := 0) (by decide) _ (by decide)).mono ?_; rintro e w1 ⟨rfl, hb1⟩
  go_wp2_with fail
  refine (get_as (n := 0) (p := 0) (er := 3) (by decide) _ (by decide)).mono ?_; rintro e w2 ⟨rfl, hb2⟩
  go_wp2_with fail
  refine (get_as (n := 0) (p := 0) (er := 3) (by decide) _ (by decide)).mono ?_; rintro e w3 ⟨rfl, hb3⟩
  go_wp2_with fail
  refine (get_as (n := 0) (p := 0) (er := 2) (by decide) _ (by decide)).mono ?_; rintro e w4 ⟨rfl, hb4⟩
  go_wp2_with fail
  refine (get_as (n := 0) (p := 0) (er := 1) (by decide) _ (by decide)).mono ?_; rintro e w5 ⟨rfl, hb5⟩
  go_wp2_with fail
  refine (gett_as (t := [97, 98, 99]) (p := 4) (er := 0) (by decide) _ (by decide) (by decide)).mono ?_; rintro e w6 ⟨rfl, hb6⟩
  go_wp2_with fail
  refine (gett_as (t := []) (p := 0) (er := 4) (by decide) _ (by decide) (by decide)).mono ?_; rintro e w7 ⟨rfl, hb7⟩
  go_wp2_with fail
  refine (gett_as (t := []) (p := 0) (er := 2) (by decide) _ (by decide) (by decide)).mono ?_; rintro e w8 ⟨rfl, hb8⟩
  go_wp2_with fail
  refine (put_as (n := 127) (l := [127]) (by decide) (by decide) (by decide) _).mono ?_; rintro e w9 ⟨rfl, hb9⟩
  go_wp2_with fail
  refine (put_as (n := 128) (l := [129, 0]) (by decide) (by decide) (by decide) _).mono ?_; rintro e w10 ⟨rfl, hb10⟩
  go_wp2_with fail
  refine (put_as (n := 300) (l := [130, 44]) (by decide) (by decide) (by decide) _).mono ?_; rintro e w11 ⟨rfl, hb11⟩
  go_wp2_with fail
  refine (put_as (n := 0) (l := [0]) (by decide) (by decide) (by decide) _).mono ?_; rintro e w12 ⟨rfl, hb12⟩
  go_wp2_with fail
  refine (putt_walk _ _ (by decide)).mono ?_; rintro e w13 ⟨rfl, hb13⟩
  go_wp2_with fail
  go_ret
  exact ⟨rfl, ext_trans (ext_trans (ext_trans (ext_trans (ext_trans (ext_trans (ext_trans (ext_trans (ext_trans (ext_trans (ext_trans (ext_trans hb1 hb2) hb3) hb4) hb5) hb6) hb7) hb8) hb9) hb10) hb11) hb12) hb13⟩

end Go.Proofs.Ytnolpbkeheiadaa
