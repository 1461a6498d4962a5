/- The walks of the laws VintOrder, VintDigits, VintMost and VintShort. -/
import Derived.Test.YtnolpbkeheiadaaVtLaws
import Derived.Test.YtnolpbkeheiadaaVtOrderPlain
namespace Go.Proofs.Ytnolpbkeheiadaa
open Go.RowKit

theorem ret_true {b : Bool} (h : b = true) : Ending.returned (.bool b) = .returned (.bool true) := by rw [h]
theorem extract_toList (l : List UInt8) (k : Nat) : ((⟨l.toArray⟩ : ByteArray).extract 0 k).toList = l.take k := by
  have h := extract_eq ⟨l.toArray⟩ 0 k
  rw [Nat.zero_add] at h
  rw [h]
  simp

set_option maxRecDepth 100000 in
set_option maxHeartbeats 1600000 in
theorem vintOrder_walk (m n : Int) (w : World) (wm : (Lit.int .u64 m).wf = true) (wn : (Lit.int .u64 n).wf = true) :
    Calls Try.prog 6 #[.int .u64 m, .int .u64 n] w fun e w' => e = .returned (.bool true) ∧ Below w.heap.size w w' := by
  obtain ⟨m, rfl, hm⟩ := wf_u64 wm
  obtain ⟨n, rfl, hn⟩ := wf_u64 wn
  have HM := Lib.hid hm; have HN := Lib.hid hn
  have la := Sough.put_len m
  have lb := Sough.put_len n
  rcases Nat.lt_trichotomy m n with h | h | h
  · have hlen := Sough.put_len_mono (show m ≤ n by omega)
    have hne : ¬ Sough.put m = Sough.put n := Sough.put_ne hm hn (by omega)
    have hneb : (Sough.put m == Sough.put n) = false := by simpa using hne
    have hmn : ((m : Int) == (n : Int)) = false := by simp; omega
    have hex : ∀ k, ¬ ((⟨(Sough.put n).toArray⟩ : ByteArray).extract 0 k).toList = Sough.put m := fun k => by rw [extract_toList]; exact Sough.put_begin hm hn (by omega) k
    have hexb : ∀ k, (((⟨(Sough.put n).toArray⟩ : ByteArray).extract 0 k).toList == Sough.put m) = false := fun k => by simpa using hex k
    rcases Nat.lt_or_ge (Sough.put m).length (Sough.put n).length with hl | hl
    · clear hm wm hn wn
      go_enter Try.func6, Try.ntmps6
      go_wp2_with fail
      refine (put_walk m _ HM.out).mono ?_; rintro e w1 ⟨rfl, hb1⟩
      go_wp2_with fail
      refine (put_walk n _ HN.out).mono ?_; rintro e w2 ⟨rfl, hb2⟩
      go_wp2_with (go_at_call 15; refine (fixed_walk _).mono ?_; rintro e w3 ⟨rfl, hb3⟩)
      go_ret
      exact ⟨by first | rfl | exact ret_true (by simp [hexb]), ext_trans (ext_trans hb1 hb2) hb3⟩
    · have hless := Sough.put_less hm hn h (by omega)
      clear hm wm hn wn
      go_enter Try.func6, Try.ntmps6
      go_wp2_with fail
      refine (put_walk m _ HM.out).mono ?_; rintro e w1 ⟨rfl, hb1⟩
      go_wp2_with fail
      refine (put_walk n _ HN.out).mono ?_; rintro e w2 ⟨rfl, hb2⟩
      go_wp2_with (go_at_call 15; refine (fixed_walk _).mono ?_; rintro e w3 ⟨rfl, hb3⟩)
      go_ret
      exact ⟨by first | rfl | exact ret_true (by simp [hexb]), ext_trans (ext_trans hb1 hb2) hb3⟩
  · subst h
    clear hm wm hn wn
    go_enter Try.func6, Try.ntmps6
    go_wp2_with fail
    refine (put_walk m _ HM.out).mono ?_; rintro e w1 ⟨rfl, hb1⟩
    go_wp2_with fail
    refine (put_walk m _ HN.out).mono ?_; rintro e w2 ⟨rfl, hb2⟩
    go_wp2_with (go_at_call 15; refine (fixed_walk _).mono ?_; rintro e w3 ⟨rfl, hb3⟩)
    go_ret
    exact ⟨by first | rfl | exact ret_true (by simp [hexb]), ext_trans (ext_trans hb1 hb2) hb3⟩
  · have hlen := Sough.put_len_mono (show n ≤ m by omega)
    have hne : ¬ Sough.put m = Sough.put n := Sough.put_ne hm hn (by omega)
    have hneb : (Sough.put m == Sough.put n) = false := by simpa using hne
    have hmn : ((m : Int) == (n : Int)) = false := by simp; omega
    have hex : ∀ k, ¬ ((⟨(Sough.put n).toArray⟩ : ByteArray).extract 0 k).toList = Sough.put m := fun k => by rw [extract_toList]; exact Sough.put_begin hm hn (by omega) k
    have hexb : ∀ k, (((⟨(Sough.put n).toArray⟩ : ByteArray).extract 0 k).toList == Sough.put m) = false := fun k => by simpa using hex k
    rcases Nat.lt_or_ge (Sough.put n).length (Sough.put m).length with hl | hl
    all_goals
      clear hm wm hn wn
      go_enter Try.func6, Try.ntmps6
      go_wp2_with fail
      refine (put_walk m _ HM.out).mono ?_; rintro e w1 ⟨rfl, hb1⟩
      go_wp2_with fail
      refine (put_walk n _ HN.out).mono ?_; rintro e w2 ⟨rfl, hb2⟩
      go_wp2_with (go_at_call 15; refine (fixed_walk _).mono ?_; rintro e w3 ⟨rfl, hb3⟩)
      go_ret
      exact ⟨by first | rfl | exact ret_true (by simp [hexb]), ext_trans (ext_trans hb1 hb2) hb3⟩

end Go.Proofs.Ytnolpbkeheiadaa
