/- The walk of the law VintShort. -/
import Derived.Test.YtnolpbkeheiadaaVtMost
import Derived.Test.YtnolpbkeheiadaaRegion
namespace Go.Proofs.Ytnolpbkeheiadaa
open Go.RowKit

/-- What is told at the front. -/
theorem get_front (l : List UInt8) : (∃ m r, l = Sough.put m ++ r ∧ m < 18446744073709551616 ∧ Sough.get l 0 = (m, (Sough.put m).length, 0)) ∨ (∃ er, er ≠ 0 ∧ Sough.get l 0 = (0, 0, er)) := by
  rcases Sough.get_err l 0 with h | h | h | h
  · obtain ⟨r, _, _, h1, h2, h3, _⟩ := Sough.get_ok h
    refine .inl ⟨(Sough.get l 0).1, r, by simpa using h1, h3, ?_⟩
    refine Prod.ext rfl (Prod.ext ?_ h)
    simpa using h2
  · exact .inr ⟨1, by omega, h⟩
  · exact .inr ⟨2, by omega, h⟩
  · exact .inr ⟨3, by omega, h⟩

set_option maxRecDepth 100000 in
set_option maxHeartbeats 1600000 in
theorem vintShort_walk (n cut : Int) (s : ByteArray) (w : World) (wn : (Lit.int .u64 n).wf = true) (wc : (Lit.int .u8 cut).wf = true) (hs : s.size ≤ maxLen) :
    Calls Try.prog 7 #[.int .u64 n, .int .u8 cut, .string s] w fun e w' => e = .returned (.bool true) ∧ Below w.heap.size w w' := by
  obtain ⟨n, rfl, hn⟩ := wf_u64 wn
  have hc := bounds_u8 wc
  obtain ⟨cut, rfl⟩ := Int.eq_ofNat_of_zero_le hc.1
  have HN := Lib.hid hn; clear hn wn wc
  unfold maxLen at hs
  have la := Sough.put_len n
  have hr : 0 ≤ (cut : Int) % ((Sough.put n).length : Int) ∧ (cut : Int) % ((Sough.put n).length : Int) ≤ ((Sough.put n).length : Int) :=
    ⟨Int.emod_nonneg _ (by omega), Int.le_of_lt (Int.emod_lt_of_pos _ (by omega))⟩
  have HC := Lib.hid (show Sough.get ((⟨(Sough.put n).toArray⟩ : ByteArray).extract 0 (cut % (Sough.put n).length)).data.toList 0 = (0, 0, 2) by
    have h := extract_eq ⟨(Sough.put n).toArray⟩ 0 (cut % (Sough.put n).length)
    rw [Nat.zero_add] at h
    rw [h]
    simpa using Sough.put_cut HN.out (Nat.mod_lt cut (by omega)))
  have hE : ((⟨(Sough.put n).toArray⟩ : ByteArray).extract 0 (cut % (Sough.put n).length)).size ≤ 300 := by simp; omega
  have HE := Lib.hid (maxLen_le hE); clear hE
  go_enter Try.func7, Try.ntmps7
  go_wp2_with fail
  refine (put_walk n _ HN.out).mono ?_; rintro e w1 ⟨rfl, hb1⟩
  go_wp2_with fail
  refine (get_as HC.out _ HE.out).mono ?_; rintro e w2 ⟨rfl, hb2⟩
  go_wp2_with fail
  have ht : (s.extract 0 (min (s.size : Int) 100).toNat).size ≤ 100 := by simp; omega
  generalize s.extract 0 (min (s.size : Int) 100).toNat = t at *
  obtain ⟨l, rfl, hl⟩ := list_of t
  rw [hl] at ht
  have HT := Lib.hid (maxLen_le (show (⟨l.toArray⟩ : ByteArray).size ≤ 300 by rw [hl]; omega))
  clear hl hs
  rcases get_front l with ⟨m, r, rfl, hm, hg⟩ | ⟨er, her, hg⟩
  · have HG := Lib.hid hg; clear hg
    have HM := Lib.hid hm; clear hm
    have hpm := Sough.put_len m
    have hex : ((⟨(Sough.put m ++ r).toArray⟩ : ByteArray).extract 0 (Sough.put m).length).toList = Sough.put m := by rw [extract_toList]; simp
    refine (get_as HG.out _ HT.out).mono ?_; rintro e w3 ⟨rfl, hb3⟩
    have g1 := fun W => cut_front (Sough.put m) r W
    go_wp2_with fail
    have d2 : decide (((Sough.put m).length : Int) + (r.length : Int) < ((Sough.put m).length : Int)) = false := by simp; omega
    have d1 : decide (((Sough.put m).length : Int) < 1) = false := by simp; omega
    refine wp_region_later (by kernel_rfl) (by kernel_rfl) ?_
    repeat (go_big_quiet_step ((go_at_call 13; exact Calls.later (put_walk m _ HM.out))))
    refine wpQuiet_nil ?_
    rintro ⟨w4, hb4⟩
    go_wp2_with (go_at_call 15; refine (fixed_walk _).mono ?_; rintro e w5 ⟨rfl, hb5⟩)
    go_ret
    exact ⟨by first | rfl | exact ret_true (by simp), ext_trans (ext_trans (ext_trans (ext_trans hb1 hb2) hb3) hb4) hb5⟩
  · have HG := Lib.hid hg; clear hg
    have h1 : ((er : Int) == 0) = false := by simp; omega
    have h2 : ((er : Int) != 0) = true := by simp; omega
    refine (get_as HG.out _ HT.out).mono ?_; rintro e w3 ⟨rfl, hb3⟩
    go_wp2_with fail
    refine wp_region_later (by kernel_rfl) (by kernel_rfl) ?_
    repeat (go_big_quiet_step (fail))
    refine wpQuiet_nil ?_
    rintro ⟨w4, hb4⟩
    go_wp2_with (go_at_call 15; refine (fixed_walk _).mono ?_; rintro e w5 ⟨rfl, hb5⟩)
    go_ret
    exact ⟨by first | rfl | exact ret_true (by simp), ext_trans (ext_trans (ext_trans (ext_trans hb1 hb2) hb3) hb4) hb5⟩

end Go.Proofs.Ytnolpbkeheiadaa
