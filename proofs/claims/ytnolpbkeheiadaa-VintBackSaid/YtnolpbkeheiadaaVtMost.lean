/- The walks of the law VintMost. -/
import Derived.Test.YtnolpbkeheiadaaVtDigits
namespace Go.Proofs.Ytnolpbkeheiadaa
open Go.RowKit

theorem getText_putText (l : List UInt8) (r : List UInt8) (most : Int) (hl : l.length < 18446744073709551616) :
    Sough.getText (Sough.putText l ++ r) 0 most = if (l.length : Int) ≤ max 0 most then (l, (Sough.putText l).length, 0) else ([], 0, 4) := by
  have hg : Sough.get (Sough.putText l ++ r) 0 = (l.length, (Sough.put l.length).length, 0) := by
    have := Sough.get_put [] (l ++ r) l.length hl
    simpa [Sough.putText] using this
  split
  · rename_i h
    rw [text_ok hg (by omega) (by simp [Sough.putText])]
    simp [Sough.putText]
  · rename_i h
    rw [text_big hg (by omega)]

theorem list_of (s : ByteArray) : ∃ l : List UInt8, s = ⟨l.toArray⟩ ∧ s.size = l.length := ⟨s.data.toList, (bytes_toArray s).symm, by simp⟩

set_option maxRecDepth 100000 in
set_option maxHeartbeats 1600000 in
theorem vintMost_walk (s : ByteArray) (most : Int) (w : World) (hs : s.size ≤ maxLen) (wm : (Lit.int .i64 most).wf = true) :
    Calls Try.prog 10 #[.string s, .int .i64 most] w fun e w' => e = .returned (.bool true) ∧ Below w.heap.size w w' := by
  have HM := Lib.hid (bounds_i64 wm).2; clear wm
  unfold maxLen at hs
  go_enter Try.func10, Try.ntmps10
  go_wp2_with fail
  have ht : (s.extract 0 (min (s.size : Int) 300).toNat).size ≤ 300 := by simp; omega
  generalize s.extract 0 (min (s.size : Int) 300).toNat = t at *
  obtain ⟨l, rfl, hl⟩ := list_of t
  rw [hl] at ht
  clear hl hs
  have HL := Lib.hid (getText_putText l [] most (by omega))
  have hpl := (Sough.put_len l.length).2
  have hp1 : (Sough.putText l).length ≤ 310 := by simp [Sough.putText]; omega
  refine (putt_walk _ _ (by show l.toArray.size ≤ _; simp; omega)).mono ?_; rintro e w1 ⟨rfl, hb1⟩
  rcases Int.lt_or_le most l.length with hc | hc
  · by_cases h0 : l = []
    · subst h0
      have HG' := Lib.hid (show Sough.getText (Sough.putText []) 0 most = ([], (Sough.putText []).length, 0) by have := HL.out; rw [if_pos (by simp; omega), List.append_nil] at this; exact this)
      go_wp2_with fail
      refine (gett_as HG'.out _ (by show (Sough.putText []).toArray.size ≤ maxLen; unfold maxLen; simp; omega) HM.out).mono ?_; rintro e w2 ⟨rfl, hb2⟩
      go_wp2_with (go_at_call 15; refine (fixed_walk _).mono ?_; rintro e w3 ⟨rfl, hb3⟩)
      go_ret
      exact ⟨by first | rfl | exact ret_true (by simp), ext_trans (ext_trans hb1 hb2) hb3⟩
    · have hpos : 0 < l.length := by cases l <;> simp_all
      have h0b : ((l.length : Int) == 0) = false := by simp; omega
      have HG' := Lib.hid (show Sough.getText (Sough.putText l) 0 most = ([], 0, 4) by have := HL.out; rw [if_neg (by omega), List.append_nil] at this; exact this)
      go_wp2_with fail
      refine (gett_as HG'.out _ (by show (Sough.putText l).toArray.size ≤ maxLen; unfold maxLen; simp; omega) HM.out).mono ?_; rintro e w2 ⟨rfl, hb2⟩
      go_wp2_with (go_at_call 15; refine (fixed_walk _).mono ?_; rintro e w3 ⟨rfl, hb3⟩)
      go_ret
      exact ⟨by first | rfl | exact ret_true (by simp), ext_trans (ext_trans hb1 hb2) hb3⟩
  · have HG' := Lib.hid (show Sough.getText (Sough.putText l) 0 most = (l, (Sough.putText l).length, 0) by have := HL.out; rw [if_pos (by omega), List.append_nil] at this; exact this)
    go_wp2_with fail
    refine (gett_as HG'.out _ (by show (Sough.putText l).toArray.size ≤ maxLen; unfold maxLen; simp; omega) HM.out).mono ?_; rintro e w2 ⟨rfl, hb2⟩
    go_wp2_with (go_at_call 15; refine (fixed_walk _).mono ?_; rintro e w3 ⟨rfl, hb3⟩)
    go_ret
    exact ⟨by first | rfl | exact ret_true (by simp), ext_trans (ext_trans hb1 hb2) hb3⟩

end Go.Proofs.Ytnolpbkeheiadaa
