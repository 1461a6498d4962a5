/- The walk of HandMeets, 01. (Printed by wip/tools/mkmeets.py.) -/
import Derived.Test.YtlfgempjjoclbaaLHdMeetsBase
namespace Go.Proofs.Ytlfgempjjoclbaa
open Go.RowKit Go.Maps Go.ChangeMaps

set_option maxRecDepth 100000 in
set_option maxHeartbeats 6400000 in
theorem meets_01 {W : World} {a0 a1 : Option Addr} {len0 cap0 len1 cap1 n k : Nat} {ns0 ns1 : Nat → Nat} (h0 : BytesIn W a0 len0 ns0) (h1 : BytesIn W a1 len1 ns1) (hl0 : len0 ≤ 140737488355328) (hl1 : len1 ≤ 140737488355328) (hk : ((len0 : Int) + (len1 : Int)) % 2 = (k : Int)) (hn : n < 18446744073709551616) (c0 : len0 ≤ 8) (c1 : 8 < len1) :
    Calls Try.prog 8 #[.slice a0 len0 cap0, .slice a1 len1 cap1, .int .u64 n] W fun e w' => e = .returned (.bool true) ∧ Below W.heap.size W w' := by
  have HB0 := Lib.hid h0; have HB1 := Lib.hid h1; have HN := Lib.hid hn
  obtain ⟨iI, hinfI, hzI, hsI, hbI⟩ := info_parts infoInt
  clear h0 h1 hn
  go_enter Try.func8, Try.ntmps8
  go_wp2_with fail
  refine (two_any _).mono ?_
  rintro e w1 ⟨p, rfl, g⟩
  have F1 := Lib.hid g
  have F2 := Lib.hid (F1.out.alloc (.cells #[.int .i64 1, .int .i64 2, .int .i64 3, .int .i64 4] 25))
  try simp only [World.size_alloc, size_setCell] at F2
  have F3 := Lib.hid (F2.out.alloc (.cells #[.int .i64 17, .int .i64 18, .int .i64 5, .int .i64 6, .int .i64 15, .int .i64 16, .int .i64 5, .int .i64 6] 29))
  try simp only [World.size_alloc, size_setCell] at F3
  clear g
  have F4 := Lib.hid (F3.out.alloc (.cells #[] 3))
  try simp only [World.size_alloc, size_setCell] at F4
  have F5 := Lib.hid (F4.out.alloc (.cells #[] 3))
  try simp only [World.size_alloc, size_setCell] at F5
  have r0 := F1.out.mem.rules; simp only [AllCells, CellsAt, Nat.zero_add, Nat.reduceAdd, talkC] at r0
  have r1 := F2.out.mem.rules; simp only [AllCells, CellsAt, Nat.zero_add, Nat.reduceAdd, talkC] at r1
  have r2 := F3.out.mem.rules; simp only [AllCells, CellsAt, Nat.zero_add, Nat.reduceAdd, talkC] at r2
  have r3 := F4.out.mem.rules; simp only [AllCells, CellsAt, Nat.zero_add, Nat.reduceAdd, talkC] at r3
  have r4 := F5.out.mem.rules; simp only [AllCells, CellsAt, Nat.zero_add, Nat.reduceAdd, talkC] at r4
  go_wp2_with fail
  clear r0 r1 r2 r3 r4
  have HWZ := Lib.hid (F5.out.tur.toBelow (B := W.heap.size) (by simp) (Nat.le_refl _))
  have hA := F5.out.get 1 rfl
  have hB := F5.out.get 0 rfl
  have hAl := lt_of_block hA
  have hBl := lt_of_block hB
  clear F1 F2 F3 F4
  generalize (((w1.alloc _).alloc _).alloc _).alloc _ = wz at *
  have HA := Lib.hid hA; have HB := Lib.hid hB
  clear hA hB
  go_loopw [11, 13] (fun av iv wr => MeetA (w1.heap.size + 1 + 1) wz.heap.size (Sough.versL ns0 len0) wz av iv wr) (fun _ iv _ => 8 - (intOf iv).toNat)
  case atStart => exact ⟨0, Nat.zero_le _, rfl, .inl ⟨rfl, rfl⟩, Below.refl _ _⟩
  case round =>
    obtain ⟨k, hk, rfl, hrow, hbel⟩ := hrel
    rw [Sough.vers_len] at hk
    have hbz : wz.heap.size ≤ wr.heap.size := hbel.size
    by_cases hlt : k < len0 ∧ k < 8
    · obtain ⟨hlt1, hlt2⟩ := hlt
      obtain ⟨b, off, rfl, hbW, hc, hy⟩ := HB0.out k hlt1
      have hkl : k < (Sough.versL ns0 len0).length := by rw [Sough.vers_len]; omega
      have hxl := Sough.vers_at hkl
      obtain ⟨y, hyy⟩ : ∃ y, y = ns0 k := ⟨_, rfl⟩
      rw [← hyy] at hc hy hxl
      obtain ⟨x, hx⟩ : ∃ x, x = 1 + y % 255 := ⟨_, rfl⟩
      have hxi : (1 : Int) + (y : Int) % 255 = (x : Int) := by omega
      have HXL := Lib.hid (hx.trans hxl.symm)
      have hcw : wr.cell? ⟨b, off + k, none⟩ = some (.int .u8 (y : Int)) := by
        have hb2 := HWZ.out.block b hbW
        have hb3 := hbel.block b (Nat.lt_of_lt_of_le hbW HWZ.out.size)
        rw [← hc]; simp only [World.cell?, hb3, hb2]
      have HBL := Lib.hid hbel; have HKL := Lib.hid hkl
      clear hx hxl hyy hc hbW hbel
      rcases hrow with ⟨rfl, rfl⟩ | ⟨hk0, hown⟩
      · simp only [Nat.add_zero] at hcw
        go_wp2_with (at_builtin; refine wpList_append_grows _ rfl _ _ 61 rfl 3 iI (.int .i64 0) 1 8 Try.underlying61 hinfI hzI hsI hbI rfl (by decide) (some ⟨w1.heap.size + 1 + 1, 0, none⟩) 0 0 [] rfl (by simp) rfl (by simp) ⟨wr.heap.size, 0, none⟩ 1 1 [.int .i64 (x : Int)] rfl rfl ?c1 ?c2 (by omega) (by unfold maxLen; omega) (by omega) ?_)
        case c1 =>
          intro j u hj
          match j, hj with
          | 0, hj => simp at hj; subst hj; simp [Addr.add]
        case c2 => intro u hu; simp at hu; subst hu; rfl
        intro v' w2 hown' hgrow'
        have HR := Lib.hid (MeetA.first (B := w1.heap.size + 1 + 1) _ HKL.out HXL.out HBL.out hbz hown' hgrow')
        clear hown' hgrow'
        go_wp2_with fail
        go_roundw
        case rel => exact HR.out
        case measure => simp [intOf]
      · have HO := Lib.hid hown
        go_wp2_with (at_builtin; refine wpList_append_own _ rfl _ _ 61 rfl wz.heap.size 3 iI (.int .i64 0) 1 8 Try.underlying61 hinfI hzI hsI hbI rfl (by decide) _ _ _ rfl (hown.alloc _) ⟨wr.heap.size, 0, none⟩ 1 1 [.int .i64 (x : Int)] rfl rfl ?c1 ?c2 ?c3 ?c4 ?c5 ?_)
        case c1 =>
          intro j u hj
          match j, hj with
          | 0, hj => simp at hj; subst hj; simp [Addr.add]
        case c2 => intro u hu; simp at hu; subst hu; rfl
        case c3 => unfold maxLen; omega
        case c4 => omega
        case c5 => simp; omega
        intro v' w2 hown' hgrow' _
        have HR := Lib.hid (MeetA.next (B := w1.heap.size + 1 + 1) _ HKL.out HXL.out HBL.out hbz HO.out hown' hgrow')
        clear hown' hgrow' hown
        go_wp2_with fail
        go_roundw
        case rel => exact HR.out
        case measure => simp [intOf]; omega
    · obtain rfl : len0 = k := by omega
      have hkl : len0 = (Sough.versL ns0 len0).length := by rw [Sough.vers_len]; omega
      obtain ⟨hown, hblk⟩ := MeetA.own (l := Sough.versL ns0 len0) hAl HA.out hkl hrow hbel
      obtain ⟨la, hla⟩ : ∃ l, l = Sough.versL ns0 len0 := ⟨_, rfl⟩
      have hla8 : la.length ≤ 8 := by rw [hla, Sough.vers_len]; omega
      have hlaok : ∀ v ∈ la, 1 ≤ v ∧ v < 256 := by rw [hla]; exact Sough.vers_ok ns0 len0
      rw [← hla] at hown
      have hav : ∃ a c, u11 = .slice a la.length c := by
        rcases hown.2 with ⟨e, h0⟩ | ⟨g, cap, cur, e, _⟩
        · exact ⟨none, 0, by rw [e, h0]⟩
        · exact ⟨_, _, e⟩
      obtain ⟨aa, ca, rfl⟩ := hav
      obtain ⟨wA, rfl⟩ : ∃ w, w = wr := ⟨_, rfl⟩
      have HOA := Lib.hid hown; have HBA := Lib.hid hblk; have HLA8 := Lib.hid hla8; have HLAOK := Lib.hid hlaok
      have HWA := Lib.hid (HWZ.out.trans (hbel.mono HWZ.out.size))
      have FA := Lib.hid (F5.out.later hbel)
      have HB2 := Lib.hid ((hbel.block _ hBl).trans HB.out)
      have hB2l := lt_of_block HB2.out
      obtain ⟨ma, hma⟩ : ∃ m, m = la.length := ⟨_, rfl⟩
      have HMA := Lib.hid hma
      rw [← hma] at hla8 ⊢
      clear hown hblk hlaok hla hbel hrow hkl hma HA HB hAl hBl
      go_wp2_with fail
      go_loopw [12, 14] (fun av iv wr => MeetA (w1.heap.size + 1 + 1 + 1) wA.heap.size (Sough.versL ns1 len1) wA av iv wr) (fun _ iv _ => 8 - (intOf iv).toNat)
      case atStart => exact ⟨0, Nat.zero_le _, rfl, .inl ⟨rfl, rfl⟩, Below.refl _ _⟩
      case round =>
        obtain ⟨k, hk, rfl, hrow, hbel⟩ := hrel
        rw [Sough.vers_len] at hk
        have hbz : wA.heap.size ≤ wr.heap.size := hbel.size
        by_cases hlt : k < len1 ∧ k < 8
        · obtain ⟨hlt1, hlt2⟩ := hlt
          obtain ⟨b, off, rfl, hbW, hc, hy⟩ := HB1.out k hlt1
          have hkl : k < (Sough.versL ns1 len1).length := by rw [Sough.vers_len]; omega
          have hxl := Sough.vers_at hkl
          obtain ⟨y, hyy⟩ : ∃ y, y = ns1 k := ⟨_, rfl⟩
          rw [← hyy] at hc hy hxl
          obtain ⟨x, hx⟩ : ∃ x, x = 1 + y % 255 := ⟨_, rfl⟩
          have hxi : (1 : Int) + (y : Int) % 255 = (x : Int) := by omega
          have HXL := Lib.hid (hx.trans hxl.symm)
          have hcw : wr.cell? ⟨b, off + k, none⟩ = some (.int .u8 (y : Int)) := by
            have hb2 := HWA.out.block b hbW
            have hb3 := hbel.block b (Nat.lt_of_lt_of_le hbW HWA.out.size)
            rw [← hc]; simp only [World.cell?, hb3, hb2]
          have HBL := Lib.hid hbel; have HKL := Lib.hid hkl
          clear hx hxl hyy hc hbW hbel
          rcases hrow with ⟨rfl, rfl⟩ | ⟨hk0, hown⟩
          · simp only [Nat.add_zero] at hcw
            go_wp2_with (at_builtin; refine wpList_append_grows _ rfl _ _ 61 rfl 3 iI (.int .i64 0) 1 8 Try.underlying61 hinfI hzI hsI hbI rfl (by decide) (some ⟨w1.heap.size + 1 + 1 + 1, 0, none⟩) 0 0 [] rfl (by simp) rfl (by simp) ⟨wr.heap.size, 0, none⟩ 1 1 [.int .i64 (x : Int)] rfl rfl ?c1 ?c2 (by omega) (by unfold maxLen; omega) (by omega) ?_)
            case c1 =>
              intro j u hj
              match j, hj with
              | 0, hj => simp at hj; subst hj; simp [Addr.add]
            case c2 => intro u hu; simp at hu; subst hu; rfl
            intro v' w2 hown' hgrow'
            have HR := Lib.hid (MeetA.first (B := w1.heap.size + 1 + 1 + 1) _ HKL.out HXL.out HBL.out hbz hown' hgrow')
            clear hown' hgrow'
            go_wp2_with fail
            go_roundw
            case rel => exact HR.out
            case measure => simp [intOf]
          · have HO := Lib.hid hown
            go_wp2_with (at_builtin; refine wpList_append_own _ rfl _ _ 61 rfl wA.heap.size 3 iI (.int .i64 0) 1 8 Try.underlying61 hinfI hzI hsI hbI rfl (by decide) _ _ _ rfl (hown.alloc _) ⟨wr.heap.size, 0, none⟩ 1 1 [.int .i64 (x : Int)] rfl rfl ?c1 ?c2 ?c3 ?c4 ?c5 ?_)
            case c1 =>
              intro j u hj
              match j, hj with
              | 0, hj => simp at hj; subst hj; simp [Addr.add]
            case c2 => intro u hu; simp at hu; subst hu; rfl
            case c3 => unfold maxLen; omega
            case c4 => omega
            case c5 => simp; omega
            intro v' w2 hown' hgrow' _
            have HR := Lib.hid (MeetA.next (B := w1.heap.size + 1 + 1 + 1) _ HKL.out HXL.out HBL.out hbz HO.out hown' hgrow')
            clear hown' hgrow' hown
            go_wp2_with fail
            go_roundw
            case rel => exact HR.out
            case measure => simp [intOf]; omega
        · obtain rfl : k = 8 := by omega
          have hkl : 8 = (Sough.versL ns1 len1).length := by rw [Sough.vers_len]; omega
          obtain ⟨hown, hblk⟩ := MeetA.own (l := Sough.versL ns1 len1) hB2l HB2.out hkl hrow hbel
          obtain ⟨lb, hlb⟩ : ∃ l, l = Sough.versL ns1 len1 := ⟨_, rfl⟩
          have hlb8 : lb.length ≤ 8 := by rw [hlb, Sough.vers_len]; omega
          have hlbok : ∀ v ∈ lb, 1 ≤ v ∧ v < 256 := by rw [hlb]; exact Sough.vers_ok ns1 len1
          rw [← hlb] at hown
          have hbv : ∃ a c, u12 = .slice a lb.length c := by
            rcases hown.2 with ⟨e, h0⟩ | ⟨g, cap, cur, e, _⟩
            · exact ⟨none, 0, by rw [e, h0]⟩
            · exact ⟨_, _, e⟩
          obtain ⟨ab, cb, rfl⟩ := hbv
          obtain ⟨wB, rfl⟩ : ∃ w, w = wr := ⟨_, rfl⟩
          have HOB := Lib.hid hown; have HLB8 := Lib.hid hlb8; have HLBOK := Lib.hid hlbok
          have HOA2 := Lib.hid (own_stay HOA.out HBA.out hbel)
          have FB := Lib.hid (FA.out.later hbel)
          obtain ⟨mb, hmb⟩ : ∃ m, m = lb.length := ⟨_, rfl⟩
          have HMB := Lib.hid hmb
          rw [← hmb] at hlb8 ⊢
          clear hown hblk hlbok hlb hbel hrow hkl hmb HBA HB2 HOA hB2l
          have hmka := make_any (l := la) HOA2.out HLA8.out HLAOK.out
          rw [← HMA.out] at hmka
          have hmkb := fun w (h : w.ownsRow 0 3 1 (.slice ab lb.length cb) lb.length (intsV lb)) => make_any (W := w) (l := lb) h HLB8.out HLBOK.out
          rw [← HMB.out] at hmkb
          by_cases hae : la = []
          · rw [if_pos hae, if_pos hae] at hmka
            have hma0 : ma = 0 := by rw [HMA.out, hae]; rfl
            subst hma0
            by_cases hbe : lb = []
            · rw [if_pos hbe, if_pos hbe] at hmkb
              have hmb0 : mb = 0 := by rw [HMB.out, hbe]; rfl
              subst hmb0
              have HMKA := Lib.hid hmka; have HMKB := Lib.hid hmkb
              clear hmka hmkb
              go_wp2_with fail
              refine HMKA.out.mono ?_
              rintro e w3 ⟨rfl, hb3⟩
              have HOB2 := Lib.hid (own_stay (own_wide HOB.out (Nat.le_refl 0)) (B := wB.heap.size) (fun g hg => by
                rcases HOB.out.2 with ⟨e, _⟩ | ⟨g', cap, cur, e, _, hh, _⟩
                · rw [e] at hg; simp [Value.ownBlock] at hg
                · rw [e] at hg; simp only [Value.ownBlock, Option.some.injEq] at hg; subst hg; exact lt_of_block hh) hb3)
              have FC := Lib.hid (FB.out.later hb3)
              clear hb3 HMKA FB FA
              go_wp2_with fail
              refine (HMKB.out _ (by have h := HOB2.out; rw [← HMB.out] at h; exact h)).mono ?_
              rintro e w4 ⟨rfl, hb4⟩
              have FD := Lib.hid (FC.out.later hb4)
              clear hb4 HMKB FC
              go_wp2_with fail
              refine (fixed_walk _).mono ?_
              rintro e wF ⟨rfl, hbF⟩
              have FF := Lib.hid (FD.out.later hbF)
              clear hbF
              go_wp2_with fail
              go_ret
              exact ⟨rfl, FF.out.tur.toBelow (by simp) (Nat.le_refl _)⟩
            · rw [if_neg hbe, if_neg hbe] at hmkb
              have hmb1 : 1 ≤ mb := by rw [HMB.out]; exact List.length_pos_iff.2 hbe
              have b1 : ((mb : Int) == 0) = false := by simp; omega
              have HMKA := Lib.hid hmka; have HMKB := Lib.hid hmkb
              clear hmka hmkb
              go_wp2_with fail
              refine HMKA.out.mono ?_
              rintro e w3 ⟨rfl, hb3⟩
              have HOB2 := Lib.hid (own_stay (own_wide HOB.out (Nat.le_refl 0)) (B := wB.heap.size) (fun g hg => by
                rcases HOB.out.2 with ⟨e, _⟩ | ⟨g', cap, cur, e, _, hh, _⟩
                · rw [e] at hg; simp [Value.ownBlock] at hg
                · rw [e] at hg; simp only [Value.ownBlock, Option.some.injEq] at hg; subst hg; exact lt_of_block hh) hb3)
              have FC := Lib.hid (FB.out.later hb3)
              clear hb3 HMKA FB FA
              go_wp2_with fail
              refine (HMKB.out _ (by have h := HOB2.out; rw [← HMB.out] at h; exact h)).mono ?_
              rintro e w4 ⟨rfl, hb4⟩
              have FD := Lib.hid (FC.out.later hb4)
              clear hb4 HMKB FC
              go_wp2_with fail
              refine (fixed_walk _).mono ?_
              rintro e wF ⟨rfl, hbF⟩
              have FF := Lib.hid (FD.out.later hbF)
              clear hbF
              go_wp2_with fail
              go_ret
              exact ⟨rfl, FF.out.tur.toBelow (by simp) (Nat.le_refl _)⟩
          rw [if_neg hae, if_neg hae] at hmka
          have hma1 : 1 ≤ ma := by rw [HMA.out]; exact List.length_pos_iff.2 hae
          have b1 : ((ma : Int) == 0) = false := by simp; omega
          by_cases hbe : lb = []
          · rw [if_pos hbe, if_pos hbe] at hmkb
            have hmb0 : mb = 0 := by rw [HMB.out, hbe]; rfl
            subst hmb0
            have HMKA := Lib.hid hmka; have HMKB := Lib.hid hmkb
            clear hmka hmkb
            go_wp2_with fail
            refine HMKA.out.mono ?_
            rintro e w3 ⟨rfl, hb3⟩
            have HOB2 := Lib.hid (own_stay (own_wide HOB.out (Nat.le_refl 0)) (B := wB.heap.size) (fun g hg => by
              rcases HOB.out.2 with ⟨e, _⟩ | ⟨g', cap, cur, e, _, hh, _⟩
              · rw [e] at hg; simp [Value.ownBlock] at hg
              · rw [e] at hg; simp only [Value.ownBlock, Option.some.injEq] at hg; subst hg; exact lt_of_block hh) hb3)
            have FC := Lib.hid (FB.out.later hb3)
            clear hb3 HMKA FB FA
            go_wp2_with fail
            refine (HMKB.out _ (by have h := HOB2.out; rw [← HMB.out] at h; exact h)).mono ?_
            rintro e w4 ⟨rfl, hb4⟩
            have FD := Lib.hid (FC.out.later hb4)
            clear hb4 HMKB FC
            go_wp2_with fail
            refine (fixed_walk _).mono ?_
            rintro e wF ⟨rfl, hbF⟩
            have FF := Lib.hid (FD.out.later hbF)
            clear hbF
            go_wp2_with fail
            go_ret
            exact ⟨rfl, FF.out.tur.toBelow (by simp) (Nat.le_refl _)⟩
          rw [if_neg hbe, if_neg hbe] at hmkb
          obtain ⟨x, hx⟩ : ∃ x, x = Sough.makeO la := ⟨_, rfl⟩
          obtain ⟨y, hy⟩ : ∃ y, y = Sough.makeO lb := ⟨_, rfl⟩
          have hxo : Sough.offerOk x = true := by rw [hx]; exact Sough.make_ok hae HLA8.out HLAOK.out
          have hxl : x.length ≤ 8 := by rw [hx]; exact Nat.le_trans (Sough.make_len la) HLA8.out
          have hyl : y.length ≤ 8 := by rw [hy]; exact Nat.le_trans (Sough.make_len lb) HLB8.out
          obtain ⟨hbest, hb11⟩ := Sough.best_make hae hbe HLA8.out HLB8.out HLAOK.out HLBOK.out
          rw [← hx, ← hy] at hbest hb11
          rw [← hx] at hmka
          rw [← hy] at hmkb
          have hk01 : (k : Int) = 0 ∨ (k : Int) = 1 := by omega
          obtain ⟨sB, m, q, hB1, ho, hv4, hbad, hgood⟩ := (Sough.meets (y := y) hxo (by omega) hk01 HN.out).go
          obtain ⟨v, er, hbst⟩ : ∃ v er, Sough.bestO x y = (v, er) := ⟨_, _, rfl⟩
          rw [← hbest, hbst] at hbad
          rw [← hbest, hbst] at hgood
          rw [hbst] at hb11
          have CBE := Lib.hid fun w => best_any hbst (show x.length ≤ maxLen by unfold maxLen; omega) (show y.length ≤ maxLen by unfold maxLen; omega) w
          have hf1 : Sough.beginR Sough.twoS Sough.me0 Sough.peer0 (Sough.reqM 7 x k) n 7 8 9 = (sB, m, q, 0) := by unfold Sough.beginR; rw [hB1]; rfl
          have HF1 := Lib.hid hf1; have HXL := Lib.hid hxl; have HYL := Lib.hid hyl; have HHO := Lib.hid ho; have HHV := Lib.hid hv4; have HBAD := Lib.hid hbad; have HGOOD := Lib.hid hgood; have HB11 := Lib.hid hb11
          have HKI := Lib.hid (show Sough.Int64 (k : Int) from ⟨by omega, by omega⟩)
          clear hx hy hxo hxl hyl hbest hb11 hk01 hB1 ho hv4 hbad hgood hbst hf1 hma1 b1 hae hbe hla8 hlb8
          have HMKA := Lib.hid hmka; have HMKB := Lib.hid hmkb
          clear hmka hmkb
          go_wp2_with fail
          refine HMKA.out.mono ?_
          rintro e w3 ⟨rfl, hb3⟩
          have HOB2 := Lib.hid (own_stay (own_wide HOB.out (Nat.le_refl 0)) (B := wB.heap.size) (fun g hg => by
            rcases HOB.out.2 with ⟨e, _⟩ | ⟨g', cap, cur, e, _, hh, _⟩
            · rw [e] at hg; simp [Value.ownBlock] at hg
            · rw [e] at hg; simp only [Value.ownBlock, Option.some.injEq] at hg; subst hg; exact lt_of_block hh) hb3)
          have FC := Lib.hid (FB.out.later hb3)
          clear hb3 HMKA FB FA
          go_wp2_with fail
          refine (HMKB.out _ (by have h := HOB2.out; rw [← HMB.out] at h; exact h)).mono ?_
          rintro e w4 ⟨rfl, hb4⟩
          have FD := Lib.hid (FC.out.later hb4)
          clear hb4 HMKB FC
          go_wp2_with fail
          refine (CBE.out _).mono ?_
          rintro e w5 ⟨rfl, hb5⟩
          have FE := Lib.hid (FD.out.later hb5)
          clear hb5 CBE FD
          have HC := (begin_at (me := Sough.me0) (pr := Sough.peer0) (m := Sough.reqM 7 x k) (stamp := n) (d0 := 7) (d1 := 8) (d2 := 9) FE.out (Sough.reqM_wf (by decide) HKI.out (by have := HXL.out; omega)) HN.out ⟨⟨by decide, by decide⟩, ⟨by decide, by decide⟩⟩ ⟨⟨by decide, by decide⟩, ⟨by decide, by decide⟩, ⟨by decide, by decide⟩, ⟨by decide, by decide⟩⟩ ⟨⟨by decide, by decide⟩, ⟨by decide, by decide⟩, ⟨by decide, by decide⟩⟩ HF1.out : (Calls Try.prog 12 #[.pointer (some ⟨p, 0, none⟩), .agg #[.int .i64 1, .int .i64 2], .agg #[.int .i64 17, .int .i64 18, .int .i64 5, .int .i64 6], .agg #[.int .i64 0, .int .u64 7, .int .u64 0, .string ⟨x.toArray⟩, .int .i64 (k : Int), .int .i64 0, .int .i64 0, .int .i64 0, .int .i64 0, .int .i64 0, .int .i64 0, .int .u64 0, .int .u64 0], .int .u64 (n : Int), .agg #[.int .i64 7, .int .i64 8, .int .i64 9]] _ _) ∧ m.Wf ∧ q.Wf)
          obtain ⟨HC, wm1, wq1⟩ := HC
          have WM1 := Lib.hid wm1
          have WQ1 := Lib.hid wq1
          clear wm1 wq1
          rw [HHO.out, HHV.out] at HC
          have HC := Lib.hid HC
          have r0 := FE.out.mem.rules; simp only [AllCells, CellsAt, Nat.zero_add, Nat.reduceAdd, talkC] at r0
          go_wp2_with fail
          clear r0
          refine HC.out.mono ?_
          rintro e w6 ⟨rfl, g⟩
          clear HC
          have F6 := Lib.hid g
          have F7 := Lib.hid (F6.out.alloc (.cells #[.int .i64 (m.v 0), .int .u64 (m.v 1), .int .u64 (m.v 2), .string ⟨x.toArray⟩, .int .i64 (k : Int), .int .i64 (m.v 5), .int .i64 (m.v 6), .int .i64 (m.v 7), .int .i64 (m.v 8), .int .i64 (m.v 9), .int .i64 (m.v 10), .int .u64 (m.v 11), .int .u64 (m.v 12)] 34))
          try simp only [World.size_alloc, size_setCell] at F7
          have F8 := Lib.hid (F7.out.alloc (.cells #[.int .i64 q.y.ck, .int .i64 q.y.k, .int .i64 q.y.h, .int .u64 q.y.n, .int .i64 q.e, .int .i64 q.ek, .string ⟨q.offer.toArray⟩] 38))
          try simp only [World.size_alloc, size_setCell] at F8
          clear g
          clear FE
          have F9 := Lib.hid (F8.out.alloc (.cells #[.int .i64 15, .int .i64 16, .int .i64 5, .int .i64 6] 28))
          try simp only [World.size_alloc, size_setCell] at F9
          by_cases her : er = 0
          rotate_left
          · have he11 : er = 11 := HB11.out.resolve_left her
            subst he11
            have hf2 : Sough.openR sB Sough.me1 [Sough.peer1] y m = (sB, Sough.zeroO, 11) := by unfold Sough.openR; rw [HBAD.out (by simp)]; rfl
            have HC := (open_at (me := Sough.me1) (peers := [Sough.peer1]) (text := y) (m := m) F9.out ⟨⟨by decide, by decide⟩, ⟨by decide, by decide⟩⟩ (.inr ⟨_, 1, _, rfl, Nat.le_refl _, by omega, List.mem_cons_self ..⟩) (by intro q hq; simp only [List.mem_cons, List.not_mem_nil, or_false] at hq; subst hq; exact ⟨⟨by decide, by decide⟩, ⟨by decide, by decide⟩⟩) (by have := HYL.out; unfold maxLen; omega) WM1.out hf2 : (Calls Try.prog 13 #[.pointer (some ⟨p, 0, none⟩), .agg #[.int .i64 3, .int .i64 4], .slice (some ⟨w6.heap.size + 1 + 1, 0, none⟩) 1 1, .string ⟨y.toArray⟩, .agg #[.int .i64 (m.v 0), .int .u64 (m.v 1), .int .u64 (m.v 2), .string ⟨m.offer.toArray⟩, .int .i64 (m.v 4), .int .i64 (m.v 5), .int .i64 (m.v 6), .int .i64 (m.v 7), .int .i64 (m.v 8), .int .i64 (m.v 9), .int .i64 (m.v 10), .int .u64 (m.v 11), .int .u64 (m.v 12)]] _ _) ∧ Sough.zeroO.Wf)
            obtain ⟨HC, wo2⟩ := HC
            have WO2 := Lib.hid wo2
            clear wo2
            rw [HHO.out, HHV.out] at HC
            have HC := Lib.hid HC
            have r0 := F6.out.mem.rules; simp only [AllCells, CellsAt, Nat.zero_add, Nat.reduceAdd, talkC] at r0
            have r1 := F7.out.mem.rules; simp only [AllCells, CellsAt, Nat.zero_add, Nat.reduceAdd, talkC] at r1
            have r2 := F8.out.mem.rules; simp only [AllCells, CellsAt, Nat.zero_add, Nat.reduceAdd, talkC] at r2
            have r3 := F9.out.mem.rules; simp only [AllCells, CellsAt, Nat.zero_add, Nat.reduceAdd, talkC] at r3
            go_wp2_with fail
            clear r0 r1 r2 r3
            refine HC.out.mono ?_
            rintro e w7 ⟨rfl, g⟩
            clear HC
            clear F6 F7 F8
            have F10 := Lib.hid g
            have F11 := Lib.hid (F10.out.alloc (.cells #[.int .i64 Sough.zeroO.y.ck, .int .i64 Sough.zeroO.y.k, .int .i64 Sough.zeroO.y.h, .int .u64 Sough.zeroO.y.n, .int .i64 Sough.zeroO.peer, .int .i64 Sough.zeroO.version, .int .u64 Sough.zeroO.stamp, .int .i64 Sough.zeroO.e, .int .i64 Sough.zeroO.ek, .int .i64 Sough.zeroO.pub] 44))
            try simp only [World.size_alloc, size_setCell] at F11
            clear g
            clear F9
            have r0 := F10.out.mem.rules; simp only [AllCells, CellsAt, Nat.zero_add, Nat.reduceAdd, talkC] at r0
            have r1 := F11.out.mem.rules; simp only [AllCells, CellsAt, Nat.zero_add, Nat.reduceAdd, talkC] at r1
            go_wp2_with fail
            clear r0 r1
            refine (fixed_walk _).mono ?_
            rintro e wF ⟨rfl, hbF⟩
            have FF := Lib.hid (F11.out.later hbF)
            clear hbF
            go_wp2_with fail
            go_ret
            exact ⟨rfl, FF.out.tur.toBelow (by simp) (Nat.le_refl _)⟩
          subst her
          obtain ⟨sO, o, sA, r, u, sF, z, hO, hAA, hFF, g1, g2, g3, g4, g5, g6, g7, g8, g9⟩ := HGOOD.out v rfl
          have hf2 : Sough.openR sB Sough.me1 [Sough.peer1] y m = (sO, o, 0) := by unfold Sough.openR; rw [hO]; rfl
          have HF3 := Lib.hid (show Sough.answerR sO o 9 7 10 11 = (sA, r, u, 0) by unfold Sough.answerR; rw [hAA]; rfl)
          have HF4 := Lib.hid (show Sough.finishR sA Sough.me0 q r = (sF, z, 0) by unfold Sough.finishR; rw [hFF]; rfl)
          have HG := Lib.hid (And.intro g1 (And.intro g2 (And.intro g3 (And.intro g4 (And.intro g5 (And.intro g6 (And.intro g7 (And.intro g8 g9))))))))
          clear hO hAA hFF g1 g2 g3 g4 g5 g6 g7 g8 g9
          have HC := (open_at (me := Sough.me1) (peers := [Sough.peer1]) (text := y) (m := m) F9.out ⟨⟨by decide, by decide⟩, ⟨by decide, by decide⟩⟩ (.inr ⟨_, 1, _, rfl, Nat.le_refl _, by omega, List.mem_cons_self ..⟩) (by intro q hq; simp only [List.mem_cons, List.not_mem_nil, or_false] at hq; subst hq; exact ⟨⟨by decide, by decide⟩, ⟨by decide, by decide⟩⟩) (by have := HYL.out; unfold maxLen; omega) WM1.out hf2 : (Calls Try.prog 13 #[.pointer (some ⟨p, 0, none⟩), .agg #[.int .i64 3, .int .i64 4], .slice (some ⟨w6.heap.size + 1 + 1, 0, none⟩) 1 1, .string ⟨y.toArray⟩, .agg #[.int .i64 (m.v 0), .int .u64 (m.v 1), .int .u64 (m.v 2), .string ⟨m.offer.toArray⟩, .int .i64 (m.v 4), .int .i64 (m.v 5), .int .i64 (m.v 6), .int .i64 (m.v 7), .int .i64 (m.v 8), .int .i64 (m.v 9), .int .i64 (m.v 10), .int .u64 (m.v 11), .int .u64 (m.v 12)]] _ _) ∧ o.Wf)
          obtain ⟨HC, wo2⟩ := HC
          have WO2 := Lib.hid wo2
          clear wo2
          rw [HHO.out, HHV.out, HG.out.1, HG.out.2.1, HG.out.2.2.1] at HC
          have HC := Lib.hid HC
          have r0 := F6.out.mem.rules; simp only [AllCells, CellsAt, Nat.zero_add, Nat.reduceAdd, talkC] at r0
          have r1 := F7.out.mem.rules; simp only [AllCells, CellsAt, Nat.zero_add, Nat.reduceAdd, talkC] at r1
          have r2 := F8.out.mem.rules; simp only [AllCells, CellsAt, Nat.zero_add, Nat.reduceAdd, talkC] at r2
          have r3 := F9.out.mem.rules; simp only [AllCells, CellsAt, Nat.zero_add, Nat.reduceAdd, talkC] at r3
          go_wp2_with fail
          clear r0 r1 r2 r3
          refine HC.out.mono ?_
          rintro e w7 ⟨rfl, g⟩
          clear HC
          clear F6 F7 F8
          have F10 := Lib.hid g
          have F11 := Lib.hid (F10.out.alloc (.cells #[.int .i64 o.y.ck, .int .i64 o.y.k, .int .i64 o.y.h, .int .u64 o.y.n, .int .i64 0, .int .i64 (v : Int), .int .u64 (n : Int), .int .i64 o.e, .int .i64 o.ek, .int .i64 o.pub] 44))
          try simp only [World.size_alloc, size_setCell] at F11
          clear g
          clear F9
          have HC := (answer_at (o := o) (frm := 9) (to := 7) (d0 := 10) (d1 := 11) F11.out WO2.out ⟨by decide, by decide⟩ ⟨⟨by decide, by decide⟩, ⟨by decide, by decide⟩⟩ HF3.out : (Calls Try.prog 14 #[.pointer (some ⟨p, 0, none⟩), .agg #[.int .i64 o.y.ck, .int .i64 o.y.k, .int .i64 o.y.h, .int .u64 o.y.n, .int .i64 o.peer, .int .i64 o.version, .int .u64 o.stamp, .int .i64 o.e, .int .i64 o.ek, .int .i64 o.pub], .int .u64 9, .int .u64 7, .agg #[.int .i64 10, .int .i64 11]] _ _) ∧ r.Wf ∧ u.Wf)
          obtain ⟨HC, wy3, wu3⟩ := HC
          have WY3 := Lib.hid wy3
          have WU3 := Lib.hid wu3
          clear wy3 wu3
          rw [HG.out.1, HG.out.2.1, HG.out.2.2.1, HG.out.2.2.2.1] at HC
          have HC := Lib.hid HC
          have r0 := F10.out.mem.rules; simp only [AllCells, CellsAt, Nat.zero_add, Nat.reduceAdd, talkC] at r0
          have r1 := F11.out.mem.rules; simp only [AllCells, CellsAt, Nat.zero_add, Nat.reduceAdd, talkC] at r1
          go_wp2_with fail
          clear r0 r1
          refine HC.out.mono ?_
          rintro e w8 ⟨rfl, g⟩
          clear HC
          clear F10
          have F12 := Lib.hid g
          have F13 := Lib.hid (F12.out.alloc (.cells #[.int .i64 (r.v 0), .int .u64 (r.v 1), .int .u64 (r.v 2), .string ⟨r.offer.toArray⟩, .int .i64 (r.v 4), .int .i64 (r.v 5), .int .i64 (r.v 6), .int .i64 (r.v 7), .int .i64 (r.v 8), .int .i64 (r.v 9), .int .i64 (r.v 10), .int .u64 (r.v 11), .int .u64 (r.v 12)] 34))
          try simp only [World.size_alloc, size_setCell] at F13
          have F14 := Lib.hid (F13.out.alloc (.cells #[.int .i64 u.h, .int .i64 u.send, .int .i64 u.recv, .int .i64 (v : Int)] 49))
          try simp only [World.size_alloc, size_setCell] at F14
          clear g
          clear F11
          have HC := (finish_at (me := Sough.me0) (q := q) (m := r) F14.out ⟨by decide, by decide⟩ WQ1.out WY3.out HF4.out : (Calls Try.prog 16 #[.pointer (some ⟨p, 0, none⟩), .agg #[.int .i64 1, .int .i64 2], .agg #[.int .i64 q.y.ck, .int .i64 q.y.k, .int .i64 q.y.h, .int .u64 q.y.n, .int .i64 q.e, .int .i64 q.ek, .string ⟨q.offer.toArray⟩], .agg #[.int .i64 (r.v 0), .int .u64 (r.v 1), .int .u64 (r.v 2), .string ⟨r.offer.toArray⟩, .int .i64 (r.v 4), .int .i64 (r.v 5), .int .i64 (r.v 6), .int .i64 (r.v 7), .int .i64 (r.v 8), .int .i64 (r.v 9), .int .i64 (r.v 10), .int .u64 (r.v 11), .int .u64 (r.v 12)]] _ _) ∧ z.Wf)
          obtain ⟨HC, wz4⟩ := HC
          have WZ4 := Lib.hid wz4
          clear wz4
          rw [HG.out.2.2.2.2.1, HG.out.2.2.2.2.2.1, HG.out.2.2.2.2.2.2.1, HG.out.2.2.2.2.2.2.2.2] at HC
          have HC := Lib.hid HC
          have r0 := F12.out.mem.rules; simp only [AllCells, CellsAt, Nat.zero_add, Nat.reduceAdd, talkC] at r0
          have r1 := F13.out.mem.rules; simp only [AllCells, CellsAt, Nat.zero_add, Nat.reduceAdd, talkC] at r1
          have r2 := F14.out.mem.rules; simp only [AllCells, CellsAt, Nat.zero_add, Nat.reduceAdd, talkC] at r2
          go_wp2_with fail
          clear r0 r1 r2
          refine HC.out.mono ?_
          rintro e w9 ⟨rfl, g⟩
          clear HC
          clear F12 F13
          have F15 := Lib.hid g
          have F16 := Lib.hid (F15.out.alloc (.cells #[.int .i64 u.h, .int .i64 u.recv, .int .i64 u.send, .int .i64 (v : Int)] 49))
          try simp only [World.size_alloc, size_setCell] at F16
          clear g
          clear F14
          have hne : u.recv ≠ u.send := by
            have h := HG.out.2.2.2.2.2.2.2.1
            rw [HG.out.2.2.2.2.2.1, HG.out.2.2.2.2.2.2.1] at h
            exact h
          have n1 : (u.recv == u.send) = false := beq_eq_false_iff_ne.2 hne
          have n2 : (u.recv != u.send) = true := by unfold bne; rw [n1]; rfl
          have r0 := F15.out.mem.rules; simp only [AllCells, CellsAt, Nat.zero_add, Nat.reduceAdd, talkC] at r0
          have r1 := F16.out.mem.rules; simp only [AllCells, CellsAt, Nat.zero_add, Nat.reduceAdd, talkC] at r1
          go_wp2_with fail
          clear r0 r1
          refine (fixed_walk _).mono ?_
          rintro e wF ⟨rfl, hbF⟩
          have FF := Lib.hid (F16.out.later hbF)
          clear hbF
          go_wp2_with fail
          go_ret
          exact ⟨rfl, FF.out.tur.toBelow (by simp) (Nat.le_refl _)⟩

end Go.Proofs.Ytlfgempjjoclbaa
