/- The walks of the laws VintTells and VintTexts. -/
import Derived.Test.YtnolpbkeheiadaaVtFixed
namespace Go.Proofs.Ytnolpbkeheiadaa
open Go.RowKit

theorem wf_u64 {n : Int} (h : (Lit.int .u64 n).wf = true) : ∃ m : Nat, n = m ∧ m < 18446744073709551616 := by
  have := bounds_u64 h
  exact ⟨n.toNat, by omega, by omega⟩
theorem maxLen_le {n : Nat} (h : n ≤ 300) : n ≤ maxLen := by unfold maxLen; omega

set_option maxRecDepth 100000 in
set_option maxHeartbeats 1600000 in
theorem vintTells_walk (n : Int) (s : ByteArray) (k : Int) (w : World) (wn : (Lit.int .u64 n).wf = true) (hs : s.size ≤ maxLen) (_wk : (Lit.int .i64 k).wf = true) :
    Calls Try.prog 3 #[.int .u64 n, .string s, .int .i64 k] w fun e w' => e = .returned (.bool true) ∧ Below w.heap.size w w' := by
  obtain ⟨m, rfl, hm⟩ := wf_u64 wn
  have HM := Lib.hid hm; clear hm wn
  unfold maxLen at hs
  go_enter Try.func3, Try.ntmps3
  go_wp2_with fail
  have ht : (s.extract 0 (min (s.size : Int) 100).toNat).size ≤ 100 := by simp; omega
  generalize s.extract 0 (min (s.size : Int) 100).toNat = t at *
  obtain ⟨v, p, er, hg⟩ : ∃ v p er, Sough.get t.data.toList k = (v, p, er) := ⟨_, _, _, rfl⟩
  have HG := Lib.hid hg; clear hg
  have HT := Lib.hid (maxLen_le (show t.size ≤ 300 by omega))
  refine (get_as HG.out _ HT.out).mono ?_; rintro e w1 ⟨rfl, hb1⟩
  go_wp2_with fail
  refine (rget_as HG.out _ HT.out).mono ?_; rintro e w2 ⟨rfl, hb2⟩
  go_wp2_with fail
  refine (put_walk m _ HM.out).mono ?_; rintro e w3 ⟨rfl, hb3⟩
  go_wp2_with fail
  refine (rput_walk m _ HM.out).mono ?_; rintro e w4 ⟨rfl, hb4⟩
  go_wp2_with fail
  refine (fixed_walk _).mono ?_; rintro e w5 ⟨rfl, hb5⟩
  go_wp2_with fail
  go_ret
  exact ⟨rfl, ext_trans (ext_trans (ext_trans (ext_trans hb1 hb2) hb3) hb4) hb5⟩

set_option maxRecDepth 100000 in
set_option maxHeartbeats 1600000 in
theorem vintTexts_walk (s : ByteArray) (k most : Int) (w : World) (hs : s.size ≤ maxLen) (_wk : (Lit.int .i64 k).wf = true) (wm : (Lit.int .i64 most).wf = true) :
    Calls Try.prog 4 #[.string s, .int .i64 k, .int .i64 most] w fun e w' => e = .returned (.bool true) ∧ Below w.heap.size w w' := by
  have HM := Lib.hid (bounds_i64 wm).2; clear wm
  unfold maxLen at hs
  go_enter Try.func4, Try.ntmps4
  go_wp2_with fail
  have ht : (s.extract 0 (min (s.size : Int) 300).toNat).size ≤ 300 := by simp; omega
  generalize s.extract 0 (min (s.size : Int) 300).toNat = t at *
  obtain ⟨v, p, er, hg⟩ : ∃ v p er, Sough.getText t.data.toList k most = (v, p, er) := ⟨_, _, _, rfl⟩
  have HG := Lib.hid hg; clear hg
  have HT := Lib.hid (maxLen_le ht)
  refine (gett_as HG.out _ HT.out HM.out).mono ?_; rintro e w1 ⟨rfl, hb1⟩
  go_wp2_with fail
  refine (rgett_as HG.out _ HT.out HM.out).mono ?_; rintro e w2 ⟨rfl, hb2⟩
  go_wp2_with fail
  refine (putt_walk t _ (by omega)).mono ?_; rintro e w3 ⟨rfl, hb3⟩
  go_wp2_with fail
  refine (rputt_walk t _ (by omega)).mono ?_; rintro e w4 ⟨rfl, hb4⟩
  go_wp2_with fail
  refine (fixed_walk _).mono ?_; rintro e w5 ⟨rfl, hb5⟩
  go_wp2_with fail
  go_ret
  exact ⟨rfl, ext_trans (ext_trans (ext_trans (ext_trans hb1 hb2) hb3) hb4) hb5⟩

end Go.Proofs.Ytnolpbkeheiadaa
