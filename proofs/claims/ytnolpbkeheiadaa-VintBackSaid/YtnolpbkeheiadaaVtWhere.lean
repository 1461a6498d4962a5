/- The walk of the law VintWhere. -/
import Derived.Test.YtnolpbkeheiadaaVtShort
import Derived.Test.YtnolpbkeheiadaaVtWherePlain
namespace Go.Proofs.Ytnolpbkeheiadaa
open Go.RowKit

theorem mk_size (l : List UInt8) : (⟨l.toArray⟩ : ByteArray).size = l.length := rfl
theorem mk_le {l : List UInt8} (h : l.length ≤ 300) : (⟨l.toArray⟩ : ByteArray).size ≤ maxLen := maxLen_le (by rw [mk_size]; exact h)

set_option maxRecDepth 100000 in
set_option maxHeartbeats 3200000 in
theorem vintWhere_walk (a b c : ByteArray) (at_ : Int) (w : World) (ha : a.size ≤ maxLen) (hb : b.size ≤ maxLen) (hc : c.size ≤ maxLen) (wk : (Lit.int .u8 at_).wf = true) :
    Calls Try.prog 8 #[.agg #[.string a, .string b, .string c], .int .u8 at_] w fun e w' => e = .returned (.bool true) ∧ Below w.heap.size w w' := by
  have hat := bounds_u8 wk
  obtain ⟨at_, rfl⟩ := Int.eq_ofNat_of_zero_le hat.1
  clear wk
  unfold maxLen at ha hb hc
  go_enter Try.func8, Try.ntmps8
  go_wp2_with fail
  obtain ⟨P, hP, hPl⟩ := list_of (a.extract 0 (min (a.size : Int) 60).toNat)
  obtain ⟨S, hS, hSl⟩ := list_of (b.extract 0 (min (b.size : Int) 60).toNat)
  obtain ⟨T, hT, hTl⟩ := list_of (c.extract 0 (min (c.size : Int) 60).toNat)
  have lP : P.length ≤ 60 := by rw [← hPl]; simp; omega
  have lS : S.length ≤ 60 := by rw [← hSl]; simp; omega
  have lT : T.length ≤ 60 := by rw [← hTl]; simp; omega
  obtain ⟨k, hk, hkl⟩ : ∃ k : Nat, ((at_ : Int) % (((min (min (b.size : Int) 60).toNat b.size : Nat) : Int) + 1)) = k ∧ k ≤ S.length := by
    refine ⟨at_ % (min (min (b.size : Int) 60).toNat b.size + 1), by push_cast; rfl, ?_⟩
    have h1 : S.length = min (min (b.size : Int) 60).toNat b.size := by rw [← hSl]; simp
    have h2 := Nat.mod_lt at_ (show 0 < min (min (b.size : Int) 60).toNat b.size + 1 by omega)
    omega
  rw [hP, hS, hT, hk]
  clear hP hS hT hk hPl hSl hTl ha hb hc hat
  obtain ⟨n, q, e, hq⟩ : ∃ n q e, Sough.get S (k : Int) = (n, q, e) := ⟨_, _, _, rfl⟩
  obtain ⟨x, i, h, hx⟩ : ∃ x i h, Sough.getText S (k : Int) 100 = (x, i, h) := ⟨_, _, _, rfl⟩
  obtain ⟨u, v, g, hu⟩ : ∃ u v g, Sough.get (S ++ T) (k : Int) = (u, v, g) := ⟨_, _, _, rfl⟩
  have hq2 := Sough.get_shift P S k hkl hq
  have hx2 := Sough.getText_shift P S k 100 hkl hx
  have lq : q ≤ 60 := by have := (Sough.get_bound S k).1; rw [hq] at this; exact Nat.le_trans this lS
  have hE := Sough.getText_err hx hq
  have hM := Sough.get_more S T k hkl hq
  have hZ := fun he => Sough.get_zero hq he
  have H1 := Lib.hid (mk_le (show S.length ≤ 300 by omega))
  have H2 := Lib.hid (mk_le (show (P ++ S).length ≤ 300 by simp; omega))
  have H3 := Lib.hid (mk_le (show (S ++ T).length ≤ 300 by simp; omega))
  have HW := Lib.hid ((Below.refl w.heap.size w).alloc (Nat.le_refl _) (.cells #[.string a, .string b, .string c] 37))
  by_cases he : e = 0
  · subst he
    rw [hM (by omega)] at hu
    simp only [Prod.mk.injEq] at hu
    obtain ⟨rfl, rfl, rfl⟩ := hu
    rw [if_pos rfl] at hq2
    have HU := Lib.hid (hM (by omega))
    have li : i ≤ 60 ∨ h ≠ 0 := by
      by_cases h0 : h = 0
      · refine .inl ?_
        unfold Sough.getText at hx
        simp only [hq] at hx
        subst h0
        by_cases c1 : max 0 100 < (n : Int)
        · rw [if_neg (by simp), if_pos c1] at hx; simp at hx
        · by_cases c2 : S.length - q < n
          · rw [if_neg (by simp), if_neg c1, if_pos c2] at hx; simp at hx
          · rw [if_neg (by simp), if_neg c1, if_neg c2] at hx; simp only [Prod.mk.injEq] at hx; omega
      · exact .inr h0
    by_cases h0 : h = 0
    · subst h0
      have li' : i ≤ 60 := by rcases li with l | l; exact l; exact absurd rfl l
      rw [if_pos rfl] at hx2
      have HQ := Lib.hid hq; have HX := Lib.hid hx; have HQ2 := Lib.hid hq2; have HX2 := Lib.hid hx2
      clear hq hx hq2 hx2 hE hM hZ li
      refine (get_as HQ.out _ H1.out).mono ?_; rintro _ w1 ⟨rfl, hb1⟩
      go_wp2_with fail
      rw [bytes_append]
      refine (get_as HQ2.out _ H2.out).mono ?_; rintro _ w2 ⟨rfl, hb2⟩
      go_wp2_with fail
      rw [bytes_append]
      refine (get_as HU.out _ H3.out).mono ?_; rintro _ w3 ⟨rfl, hb3⟩
      go_wp2_with fail
      refine (gett_as HX.out _ H1.out (by decide)).mono ?_; rintro _ w4 ⟨rfl, hb4⟩
      go_wp2_with fail
      rw [bytes_append]
      refine (gett_as HX2.out _ H2.out (by decide)).mono ?_; rintro _ w5 ⟨rfl, hb5⟩
      go_wp2_with (go_at_call 15; refine (fixed_walk _).mono ?_; rintro _ w6 ⟨rfl, hb6⟩)
      go_ret
      exact ⟨by first | rfl | exact ret_true (by simp), HW.out.trans ((ext_trans (ext_trans (ext_trans (ext_trans (ext_trans hb1 hb2) hb3) hb4) hb5) hb6).mono (by simp))⟩
    · rw [if_neg h0, Nat.add_zero] at hx2
      have t0 : ((h : Int) == 0) = false := by simp; omega
      have t1 : ((h : Int) != 0) = true := by simp; omega
      have HQ := Lib.hid hq; have HX := Lib.hid hx; have HQ2 := Lib.hid hq2; have HX2 := Lib.hid hx2
      clear hq hx hq2 hx2 hE hM hZ li
      refine (get_as HQ.out _ H1.out).mono ?_; rintro _ w1 ⟨rfl, hb1⟩
      go_wp2_with fail
      rw [bytes_append]
      refine (get_as HQ2.out _ H2.out).mono ?_; rintro _ w2 ⟨rfl, hb2⟩
      go_wp2_with fail
      rw [bytes_append]
      refine (get_as HU.out _ H3.out).mono ?_; rintro _ w3 ⟨rfl, hb3⟩
      go_wp2_with fail
      refine (gett_as HX.out _ H1.out (by decide)).mono ?_; rintro _ w4 ⟨rfl, hb4⟩
      go_wp2_with fail
      rw [bytes_append]
      refine (gett_as HX2.out _ H2.out (by decide)).mono ?_; rintro _ w5 ⟨rfl, hb5⟩
      go_wp2_with (go_at_call 15; refine (fixed_walk _).mono ?_; rintro _ w6 ⟨rfl, hb6⟩)
      go_ret
      exact ⟨by first | rfl | exact ret_true (by simp), HW.out.trans ((ext_trans (ext_trans (ext_trans (ext_trans (ext_trans hb1 hb2) hb3) hb4) hb5) hb6).mono (by simp))⟩
  · obtain ⟨rfl, rfl⟩ := hZ he
    obtain rfl : h = e := by rcases hE with h1 | h1; exact absurd h1 he; exact h1
    rw [if_neg he, Nat.add_zero] at hq2 hx2
    have t0 : ((h : Int) == 0) = false := by simp; omega
    have t1 : ((h : Int) != 0) = true := by simp; omega
    by_cases h2 : h = 2
    · subst h2
      have HQ := Lib.hid hq; have HX := Lib.hid hx; have HQ2 := Lib.hid hq2; have HX2 := Lib.hid hx2; have HU := Lib.hid hu
      clear hq hx hq2 hx2 hE hM hZ hu
      refine (get_as HQ.out _ H1.out).mono ?_; rintro _ w1 ⟨rfl, hb1⟩
      go_wp2_with fail
      rw [bytes_append]
      refine (get_as HQ2.out _ H2.out).mono ?_; rintro _ w2 ⟨rfl, hb2⟩
      go_wp2_with fail
      rw [bytes_append]
      refine (get_as HU.out _ H3.out).mono ?_; rintro _ w3 ⟨rfl, hb3⟩
      go_wp2_with fail
      refine (gett_as HX.out _ H1.out (by decide)).mono ?_; rintro _ w4 ⟨rfl, hb4⟩
      go_wp2_with fail
      rw [bytes_append]
      refine (gett_as HX2.out _ H2.out (by decide)).mono ?_; rintro _ w5 ⟨rfl, hb5⟩
      go_wp2_with (go_at_call 15; refine (fixed_walk _).mono ?_; rintro _ w6 ⟨rfl, hb6⟩)
      go_ret
      exact ⟨by first | rfl | exact ret_true (by simp), HW.out.trans ((ext_trans (ext_trans (ext_trans (ext_trans (ext_trans hb1 hb2) hb3) hb4) hb5) hb6).mono (by simp))⟩
    · have t2 : ((h : Int) == 2) = false := by simp; omega
      have HQ := Lib.hid hq; have HX := Lib.hid hx; have HQ2 := Lib.hid hq2; have HX2 := Lib.hid hx2; have HU := Lib.hid (hM h2)
      clear hq hx hq2 hx2 hE hM hZ hu
      refine (get_as HQ.out _ H1.out).mono ?_; rintro _ w1 ⟨rfl, hb1⟩
      go_wp2_with fail
      rw [bytes_append]
      refine (get_as HQ2.out _ H2.out).mono ?_; rintro _ w2 ⟨rfl, hb2⟩
      go_wp2_with fail
      rw [bytes_append]
      refine (get_as HU.out _ H3.out).mono ?_; rintro _ w3 ⟨rfl, hb3⟩
      go_wp2_with fail
      refine (gett_as HX.out _ H1.out (by decide)).mono ?_; rintro _ w4 ⟨rfl, hb4⟩
      go_wp2_with fail
      rw [bytes_append]
      refine (gett_as HX2.out _ H2.out (by decide)).mono ?_; rintro _ w5 ⟨rfl, hb5⟩
      go_wp2_with (go_at_call 15; refine (fixed_walk _).mono ?_; rintro _ w6 ⟨rfl, hb6⟩)
      go_ret
      exact ⟨by first | rfl | exact ret_true (by simp), HW.out.trans ((ext_trans (ext_trans (ext_trans (ext_trans (ext_trans hb1 hb2) hb3) hb4) hb5) hb6).mono (by simp))⟩

end Go.Proofs.Ytnolpbkeheiadaa
