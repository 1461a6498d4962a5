/- The walk of the law PoolBounds. -/
import Derived.Test.YtokphknnblpagaaPoAns
import Derived.Test.YtokphknnblpagaaPoLaw
import Derived.Test.YtokphknnblpagaaSpArg
namespace Go.Proofs.Ytokphknnblpagaa
open Go.RowKit Go.Maps Go.ChangeMaps Go.Shelf

/-- So many parts have come. -/
def BoundsR (w : World) (p slots room n : Nat) (iv : Value) (wr : World) : Prop := ∃ (k : Nat) (st : Sough.Pool), k ≤ n ∧ iv = .int .i64 k ∧ LS w wr p st [] ∧ st.slots = slots ∧ st.room = room


set_option maxRecDepth 100000 in
set_option maxHeartbeats 6400000 in
theorem bounds_any {q0 q1 slots room len cap len2 cap2 n : Nat} {A a : Option Addr} {fs : List Sough.Frag} {zs : List Int} (h0 : q0 ≤ 255) (h1 : q1 ≤ 255) (hsl : (1 : Int) + (q0 : Int) % 16 = slots) (hro : (1 : Int) + (q1 : Int) = room) (hn : min len 60 = n) (w : World) (hA : FragArg w A len cap fs) (hz : IsRow .u16 w a len2 cap2 zs) :
    Calls Try.prog 4 #[.agg #[.int .u8 q0, .int .u8 q1], .slice A len cap, .slice a len2 cap2] w fun e w' => e = .returned (.bool true) ∧ Below w.heap.size w w' := by
  have HA := Lib.hid hA; have HZ := Lib.hid hz; have HN := Lib.hid hn; have HSL := Lib.hid hsl; have HRO := Lib.hid hro
  have hlm : len ≤ 9223372036854775807 := by have := hA.hcap; unfold maxLen at this; omega
  have M0 := Lib.hid ((Mem.start w).alloc (.cells #[.int .u8 q0, .int .u8 q1] 46))
  clear hA hz hn hsl hro
  go_enter Try.func4, Try.ntmps4
  go_wp2_with fail
  generalize w.alloc (.cells #[.int .u8 q0, .int .u8 q1] 46) = W1 at *
  have r1 := M0.out.rulesL; simp only [AllCells, CellsAt, Nat.zero_add] at r1
  have e1 := HSL.out
  have e2 := HRO.out
  refine wp_region_later (by kernel_rfl) (by kernel_rfl) ?_
  repeat go_big_quiet_step (fail)
  refine wpQuiet_nil ?_
  rintro ⟨w2, hb2⟩
  change Exit.then _ _ _ _ w2
  have HB2 := Lib.hid (M0.out.bel.trans (hb2.mono M0.out.bel.size))
  clear hb2 r1 e1 e2 M0
  go_wp2_with fail
  refine (new_ls (slots := slots) (room := room) HB2.out (by have := HSL.out; omega) (by have := HSL.out; omega) (by have := HRO.out; omega) (by have := HRO.out; omega)).mono ?_
  rintro e w3 ⟨p, rfl, hL⟩
  have L3 := Lib.hid hL; clear hL HB2
  go_wp2_with fail
  go_loopw [11] (fun iv wr => BoundsR w p slots room n iv wr) (fun iv _ => n - (intOf iv).toNat)
  case atStart => exact ⟨0, _, Nat.zero_le _, rfl, L3.out, rfl, rfl⟩
  case round =>
    obtain ⟨k, st, hk, rfl, hL, hs1, hs2⟩ := hrel
    have LK := Lib.hid hL; have HS1 := Lib.hid hs1; have HS2 := Lib.hid hs2
    by_cases hlt : k < n
    · have k1 : k < len := by have := HN.out; omega
      have k2 : k < 60 := by have := HN.out; omega
      obtain ⟨b, o, rfl, hf⟩ := HA.out.hat (by omega)
      have hfl : k < fs.length := by rw [HA.out.hlen]; omega
      have HF := Lib.hid hf
      have hpt := HA.out.hpart k (by omega)
      obtain ⟨f, hff⟩ : ∃ f, f = Sough.fragAt fs k := ⟨_, rfl⟩
      obtain ⟨c, hcf⟩ : ∃ c, Sough.cutF f = c := ⟨_, rfl⟩
      rw [← hff] at hpt
      have HFF := Lib.hid hff
      have CG := Lib.hid (fun w => lcut_as hcf hpt w)
      have HFL := Lib.hid hfl
      clear hL hs1 hs2 hf hpt hff hcf hfl
      have HT : ∃ t : Nat, t < 65536 ∧ ((k < len2 ∧ ∃ x, a = some x ∧ zs.getD k 0 = (t : Int) ∧ w.cell? (x.add k) = some (.int .u16 t)) ∨ (¬ k < len2 ∧ t = 0)) := by
        by_cases h2 : k < len2
        · rcases HZ.out with ⟨_, h0, _, _⟩ | ⟨x, rfl, hl, _, hzl, hc, hw⟩
          · omega
          · have hin : zs.getD k 0 ∈ zs := by rw [List.getD_eq_getElem?_getD, List.getElem?_eq_getElem (by omega)]; simp
            have hb := bounds_u16 (hw _ hin)
            refine ⟨(zs.getD k 0).toNat, by omega, .inl ⟨h2, x, rfl, by omega, ?_⟩⟩
            rw [hc k (by omega)]
            congr 2
            omega
        · exact ⟨0, by omega, .inr ⟨h2, rfl⟩⟩
      obtain ⟨t, ht, hT⟩ := HT
      rcases hr : st.add c t with ⟨q, ts, is, er⟩
      have hans := Sough.add_ans hr
      have HR := Lib.hid hr
      have HANS := Lib.hid hans
      clear hr hans
      rcases hT with ⟨h2, x, rfl, hzt, hcell⟩ | ⟨h2, rfl⟩
      · have hcell' := (LK.out.bel.cell (World.block_lt_of_cell? w _ hcell)).trans hcell
        have hlm2 : len2 ≤ 9223372036854775807 := by
          rcases HZ.out with ⟨h, _⟩ | ⟨_, _, hl, hm, _⟩
          · cases h
          · unfold maxLen at hm; omega
        clear hcell hzt
        go_wp2_with fail
        refine (held_ls LK.out).mono ?_
        rintro e w4 ⟨rfl, hL⟩
        have L4 := Lib.hid hL; clear hL
        have F := HF.out.later L4.out.bel k HFL.out
        rw [← HFF.out] at F
        obtain ⟨c0, c1, c2, c3⟩ := F
        go_wp2_with fail
        refine (CG.out _).mono ?_
        rintro e w5 ⟨rfl, hb5⟩
        have L5 := Lib.hid (L4.out.later hb5); clear hb5 L4 c0 c1 c2 c3
        go_wp2_with fail
        refine (add_at (f := c) (now := t) L5.out HR.out (by omega) rfl (by omega)).mono ?_
        rintro e w6 ⟨rfl, hL⟩
        have L6 := Lib.hid hL; clear hL L5
        simp only at L6 ⊢
        go_wp2_with fail
        refine (held_ls L6.out).mono ?_
        rintro e w7 ⟨rfl, hL⟩
        have L7 := Lib.hid hL; clear hL L6
        have hsl : q.slots = slots := by rw [← HS1.out]; exact HANS.out.1
        have hro : q.room = room := by rw [← HS2.out]; exact HANS.out.2.1
        have h51 : q.l.length ≤ slots := by rw [← hsl]; exact L7.out.ok.len
        have h52 : q.held ≤ room := by rw [← hro]; exact L7.out.ok.held
        have HNX : Hid (BoundsR w p slots room n (.int .i64 (k + 1 : Nat)) w7) := Lib.hid ⟨k + 1, q, by omega, rfl, L7.out, hsl, hro⟩
        clear hsl hro
        have HA3 : Sough.Ans st (q, ts, is, er) := HANS.out.2.2
        rcases HA3 with ⟨e1, e2, e3⟩ | ⟨e1, e2, e3⟩ | ⟨e1, e2, e3, e4, e5⟩
        · simp only at e1 e2 e3
          subst e1 e2
          have t1 : ts.isEmpty = false := by cases ts with | nil => exact absurd rfl e3 | cons _ _ => rfl
          go_wp2_with fail
          go_roundw
          case rel => exact HNX.out
          case measure => simp [intOf]; omega
        · simp only at e1 e2 e3
          subst e1 e2 e3
          go_wp2_with fail
          go_roundw
          case rel => exact HNX.out
          case measure => simp [intOf]; omega
        · simp only at e1 e2 e3 e4 e5
          subst e2 e3
          have b1 : ((er : Int) == 0) = false := by simp; exact e1
          have b2 : ((er : Int) != 0) = true := by simp; exact e1
          clear e1
          go_wp2_with fail
          go_roundw
          case rel => exact HNX.out
          case measure => simp [intOf]; omega
      · have h3 : ¬ k < len2 := h2
        clear h2
        go_wp2_with fail
        refine (held_ls LK.out).mono ?_
        rintro e w4 ⟨rfl, hL⟩
        have L4 := Lib.hid hL; clear hL
        have F := HF.out.later L4.out.bel k HFL.out
        rw [← HFF.out] at F
        obtain ⟨c0, c1, c2, c3⟩ := F
        go_wp2_with fail
        refine (CG.out _).mono ?_
        rintro e w5 ⟨rfl, hb5⟩
        have L5 := Lib.hid (L4.out.later hb5); clear hb5 L4 c0 c1 c2 c3
        go_wp2_with fail
        refine (add_at (f := c) (now := 0) L5.out HR.out (by omega) rfl (by omega)).mono ?_
        rintro e w6 ⟨rfl, hL⟩
        have L6 := Lib.hid hL; clear hL L5
        simp only at L6 ⊢
        go_wp2_with fail
        refine (held_ls L6.out).mono ?_
        rintro e w7 ⟨rfl, hL⟩
        have L7 := Lib.hid hL; clear hL L6
        have hsl : q.slots = slots := by rw [← HS1.out]; exact HANS.out.1
        have hro : q.room = room := by rw [← HS2.out]; exact HANS.out.2.1
        have h51 : q.l.length ≤ slots := by rw [← hsl]; exact L7.out.ok.len
        have h52 : q.held ≤ room := by rw [← hro]; exact L7.out.ok.held
        have HNX : Hid (BoundsR w p slots room n (.int .i64 (k + 1 : Nat)) w7) := Lib.hid ⟨k + 1, q, by omega, rfl, L7.out, hsl, hro⟩
        clear hsl hro
        have HA3 : Sough.Ans st (q, ts, is, er) := HANS.out.2.2
        rcases HA3 with ⟨e1, e2, e3⟩ | ⟨e1, e2, e3⟩ | ⟨e1, e2, e3, e4, e5⟩
        · simp only at e1 e2 e3
          subst e1 e2
          have t1 : ts.isEmpty = false := by cases ts with | nil => exact absurd rfl e3 | cons _ _ => rfl
          go_wp2_with fail
          go_roundw
          case rel => exact HNX.out
          case measure => simp [intOf]; omega
        · simp only at e1 e2 e3
          subst e1 e2 e3
          go_wp2_with fail
          go_roundw
          case rel => exact HNX.out
          case measure => simp [intOf]; omega
        · simp only at e1 e2 e3 e4 e5
          subst e2 e3
          have b1 : ((er : Int) == 0) = false := by simp; exact e1
          have b2 : ((er : Int) != 0) = true := by simp; exact e1
          clear e1
          go_wp2_with fail
          go_roundw
          case rel => exact HNX.out
          case measure => simp [intOf]; omega
    · have hkn : k = n := by omega
      have hge : ((k < len ∧ 60 ≤ k) ∨ len ≤ k) := by have := HN.out; omega
      clear hL hs1 hs2 hlt hkn
      rcases hge with ⟨g1, g2⟩ | g1
      · go_wp2_with fail
        refine (fixed_walk _).mono ?_
        rintro e w10 ⟨rfl, hb⟩
        go_wp2_with fail
        go_ret
        exact ⟨rfl, LK.out.bel.trans (hb.mono LK.out.bel.size)⟩
      · go_wp2_with fail
        refine (fixed_walk _).mono ?_
        rintro e w10 ⟨rfl, hb⟩
        go_wp2_with fail
        go_ret
        exact ⟨rfl, LK.out.bel.trans (hb.mono LK.out.bel.size)⟩

theorem poolBounds_walk (p q : Int) (A : Option Addr) (len cap : Nat) (fs : List Sough.Frag) (a : Option Addr) (len2 cap2 : Nat) (zs : List Int) (w : World) (wp : (Lit.int .u8 p).wf = true) (wq : (Lit.int .u8 q).wf = true) (hA : FragArg w A len cap fs) (hz : IsRow .u16 w a len2 cap2 zs) :
    Calls Try.prog 4 #[.agg #[.int .u8 p, .int .u8 q], .slice A len cap, .slice a len2 cap2] w fun e w' => e = .returned (.bool true) ∧ Below w.heap.size w w' := by
  have b0 := bounds_u8 wp
  have b1 := bounds_u8 wq
  obtain ⟨q0, rfl⟩ := Int.eq_ofNat_of_zero_le b0.1
  obtain ⟨q1, rfl⟩ := Int.eq_ofNat_of_zero_le b1.1
  exact bounds_any (slots := 1 + q0 % 16) (room := 1 + q1) (by omega) (by omega) (by omega) (by omega) rfl w hA hz

end Go.Proofs.Ytokphknnblpagaa
