/- The walk of the law SplitBack. -/
import Derived.Test.YtkogjhdcakjpeaaSpRow
import Derived.Test.YtkogjhdcakjpeaaSpSizes
namespace Go.Proofs.Ytkogjhdcakjpeaa
open Go.RowKit Go.Shelf

theorem fragsAt_drop {w : World} {g : Nat} {fs : List Sough.Frag} (h : FragsAt w g 0 fs) : FragsAt w g 4 (fs.drop 1) := fun i hi => by
  have hi' : i + 1 < fs.length := by rw [List.length_drop] at hi; omega
  have := h (i + 1) hi'
  have e : Sough.fragAt (fs.drop 1) i = Sough.fragAt fs (i + 1) := by simp [Sough.fragAt, List.getD_eq_getElem?_getD]
  rw [e, show 4 + i * 4 = 0 + (i + 1) * 4 by omega]
  exact this

set_option maxRecDepth 100000 in
set_option maxHeartbeats 3200000 in
theorem back_none (FX : FixedOk) {s : ByteArray} {id sz n nid : Nat} (h1 : s.extract 0 (min (s.size : Int) 4096).toNat = ⟨#[]⟩) (hn : (1 : Int) + (sz : Int) % 1000 = n) (hi : (1 : Int) + (id : Int) = nid) (hid : id < 4294967296) (hz : sz < 65536)
    (hs : s.size ≤ maxLen) (w : World) :
    Calls Try.prog 5 #[.string s, .int .u32 id, .int .u16 sz] w fun e w' => e = .returned (.bool true) ∧ Below w.heap.size w w' := by
  have hn1 : 1 ≤ n := by omega
  have hn2 : n ≤ 1000 := by omega
  have hc : Sough.cut (⟨#[]⟩ : ByteArray).data.toList nid n = ([], 1) := by
    unfold Sough.cut
    rw [if_pos (by right; right; right; right; left; exact Nat.zero_lt_one)]
  have CC := Lib.hid (fun w => cut_as hc w)
  have FX' := Lib.hid FX
  have hsm : s.size ≤ 9223372036854775807 := hs
  clear hs hc FX
  go_enter Try.func5, Try.ntmps5
  go_wp2_with fail
  refine (CC.out _).mono ?_
  rintro e w1 ⟨v, rfl, hown, hb1⟩
  obtain ⟨a, cap, rfl⟩ := own_shape hown
  have HB := Lib.hid hb1
  clear hown hb1
  go_wp2_with fail
  refine (FX'.out _).mono ?_; rintro e w4 ⟨rfl, hb4⟩
  go_wp2_with fail
  go_ret
  exact ⟨by first | rfl | exact ret_true (by simp), ext_trans HB.out hb4⟩

set_option maxRecDepth 100000 in
set_option maxHeartbeats 3200000 in
theorem back_many (FX : FixedOk) {s s1 : ByteArray} {id sz n nid m : Nat} (h1 : s.extract 0 (min (s.size : Int) 4096).toNat = s1) (hn : (1 : Int) + (sz : Int) % 1000 = n) (hi : (1 : Int) + (id : Int) = nid) (hid : id < 4294967296) (hz : sz < 65536)
    (hm : pcs s1.size n = m) (h5 : 1 ≤ s1.size) (h16 : 16 < m) (hs : s.size ≤ maxLen) (w : World) :
    Calls Try.prog 5 #[.string s, .int .u32 id, .int .u16 sz] w fun e w' => e = .returned (.bool true) ∧ Below w.heap.size w w' := by
  have h6 := (take_size (k := 4096) h1).1
  have hn1 : 1 ≤ n := by omega
  have hn2 : n ≤ 1000 := by omega
  have hc : Sough.cut s1.data.toList nid n = ([], 4) := cut_big (by omega) (by omega) (by omega) (by omega) (by omega) (by omega) (by omega)
  have hlong : 16 * n < s1.size := pcs_lt hn1 (by rw [hm]; exact h16)
  have CC := Lib.hid (fun w => cut_as hc w)
  have FX' := Lib.hid FX
  have hsm : s.size ≤ 9223372036854775807 := hs
  have hne : (s1 == (⟨#[]⟩ : ByteArray)) = false := by
    obtain ⟨l, rfl, hl⟩ := list_of s1
    cases l with
    | nil => rw [hl] at h5; simp at h5
    | cons x l => rfl
  have hne2 : s1.toList.isEmpty = false := by
    rw [Bool.eq_false_iff]; intro h
    obtain ⟨l, rfl, hl⟩ := list_of s1
    rw [hl] at h5
    simp at h
    subst h; simp at h5
  clear hs hm hc FX
  go_enter Try.func5, Try.ntmps5
  go_wp2_with fail
  refine (CC.out _).mono ?_
  rintro e w1 ⟨v, rfl, hown, hb1⟩
  obtain ⟨a, cap, rfl⟩ := own_shape hown
  have HB := Lib.hid hb1
  clear hown hb1
  go_wp2_with fail
  refine (FX'.out _).mono ?_; rintro e w4 ⟨rfl, hb4⟩
  go_wp2_with fail
  go_ret
  exact ⟨by first | rfl | exact ret_true (by simp), ext_trans HB.out hb4⟩

theorem join_rest {a : Option Addr} {cap n : Nat} {fs : List Sough.Frag} (hj : Sough.join fs = ([], 3)) (hn : fs.length = n) (w : World) (hf : n = 0 ∨ ∃ b o, a = some ⟨b, o, none⟩ ∧ FragsAt w b o fs) :
    Calls Try.prog 12 #[.slice a n cap] w fun e w' => e = .returned (.tuple #[.string ⟨#[]⟩, .int .i64 3]) ∧ Below w.heap.size w w' := by
  rcases hf with rfl | ⟨b, o, rfl, hf⟩
  · exact join_none _ _ w
  · subst hn; exact join_at hj w hf

set_option maxRecDepth 100000 in
set_option maxHeartbeats 6400000 in
theorem back_good (FX : FixedOk) {s s1 : ByteArray} {id sz n nid m : Nat} (h1 : s.extract 0 (min (s.size : Int) 4096).toNat = s1) (hn : (1 : Int) + (sz : Int) % 1000 = n) (hi : (1 : Int) + (id : Int) = nid) (hid : id < 4294967296) (hz : sz < 65536)
    (hm : pcs s1.size n = m) (h5 : 1 ≤ s1.size) (h16 : m ≤ 16) (hs : s.size ≤ maxLen) (w : World) :
    Calls Try.prog 5 #[.string s, .int .u32 id, .int .u16 sz] w fun e w' => e = .returned (.bool true) ∧ Below w.heap.size w w' := by
  have h6 := (take_size (k := 4096) h1).1
  have hn1 : 1 ≤ n := by omega
  have hn2 : n ≤ 1000 := by omega
  have hl0 : s1.data.toList.length = s1.size := by simp
  have OK : Sough.CutOk s1.data.toList nid n := ⟨by omega, by omega, hn1, hn2, by rw [hl0]; exact h5, by rw [hl0]; exact h6, by rw [hl0]; show pcs s1.size n ≤ 16; rw [hm]; exact h16⟩
  have hmany : Sough.many s1.data.toList.length n = m := by rw [hl0]; exact hm
  have hm1 : 1 ≤ m := by have := OK.pos; rw [hmany] at this; exact this
  have hlen : (Sough.cutAll s1.data.toList nid n).length = m := by rw [Sough.cutAll_len, hmany]
  obtain ⟨fs, hfs⟩ : ∃ fs, fs = Sough.cutAll s1.data.toList nid n := ⟨_, rfl⟩
  rw [← hfs] at hlen
  have CC := Lib.hid (fun w => cut_as OK.cuts w)
  rw [← hfs] at CC
  have HK := Lib.hid OK; have HM := Lib.hid hmany; have HP := Lib.hid hm; have HL := Lib.hid hlen; have HFS := Lib.hid hfs; have FX' := Lib.hid FX
  have hsm : s.size ≤ 9223372036854775807 := hs
  obtain ⟨i0, hinf, hz0, hz1, hz2⟩ := info_parts infoFrag'
  clear hs hm hmany hlen hfs OK FX hl0
  go_enter Try.func5, Try.ntmps5
  go_wp2_with fail
  refine (CC.out _).mono ?_
  rintro e w1 ⟨v, rfl, hown, hb1⟩
  rw [HL.out] at hown
  obtain ⟨g, cap, rfl, hcap1, hcap2⟩ := own_head hown hm1
  unfold maxLen at hcap2
  rw [← HL.out] at hown
  have HF := Lib.hid (fragsAt_own hown); have HB := Lib.hid hb1
  clear hown hb1
  go_wp2_with fail
  go_loopw [10, 11] (fun ov iv wr => RowR 26 fs w1 ov iv wr) (fun _ iv _ => m - (intOf iv).toNat)
  case atStart => exact ⟨0, Nat.zero_le _, rfl, World.ownsRow_made w1 #[] 0 (Nat.le_refl _) (Nat.zero_le _) rfl, (Below.refl _ _).alloc (Nat.le_refl _) _⟩
  case round =>
    obtain ⟨k, hk, rfl, hown, hbel⟩ := hrel
    rw [HL.out] at hk
    have HB2 := Lib.hid hbel
    have HO := Lib.hid hown
    by_cases hlt : k < m
    · obtain ⟨f, hf⟩ : ∃ f, f = Sough.fragAt fs k := ⟨_, rfl⟩
      obtain ⟨c0, c1, c2, c3⟩ := HF.out.later hbel k (by rw [HL.out]; exact hlt)
      rw [← hf] at c0 c1 c2 c3
      simp only [Nat.zero_add] at c0 c1 c2 c3
      have hsucc := take_cells (fs := fs) (k := k) (by rw [HL.out]; exact hlt)
      rw [← hf] at hsucc
      have hok : f.ok := by rw [hf, HFS.out]; exact HK.out.ok (by rw [HM.out]; exact hlt)
      have CE := Lib.hid (fun w => encode_as (Sough.encode_ok hok) w)
      have CD := Lib.hid (fun w => dec_f (s := ⟨f.bytes.toArray⟩) (Sough.decode_bytes hok) (enc_len hok) w)
      have hpl : f.part.length ≤ n ∧ (k + 1 < m → n ≤ f.part.length) := by
        have e := Sough.cutAll_at (s := s1.data.toList) (id := nid) (n := n) (k := k) (by rw [HM.out]; exact hlt)
        rw [← HFS.out, ← hf] at e
        rw [e]
        simp only [List.length_take, List.length_drop]
        refine ⟨by omega, fun h => ?_⟩
        have := Sough.many_lt (L := s1.data.toList.length) (k := k + 1) hn1 (by rw [HM.out]; exact h)
        rw [Nat.succ_mul] at this
        omega
      obtain ⟨hp1, hp2⟩ := hpl
      have hp3 : (k + 1 < m ∧ n ≤ f.part.length) ∨ ¬ k + 1 < m := by
        by_cases h : k + 1 < m
        · exact .inl ⟨h, hp2 h⟩
        · exact .inr h
      clear hp2
      obtain ⟨xs, hxs⟩ : ∃ xs, xs = (fs.take k).flatMap fragCells := ⟨_, rfl⟩
      rw [← hxs] at hsucc
      rw [← hxs] at hown
      have HO1 := Lib.hid hown
      have HS := Lib.hid hsucc
      clear hbel hown hsucc hxs hf hok HO
      go_wp2_with fail
      refine (CE.out _).mono ?_; rintro e w2 ⟨rfl, hb2⟩
      have HB3 := Lib.hid hb2
      clear hb2
      go_wp2_with fail
      refine (CD.out _).mono ?_; rintro e w3 ⟨rfl, hb3⟩
      have HB4 := Lib.hid (ext_trans HB3.out hb3)
      clear hb3 HB3
      have M4 := Lib.hid ((Mem.start w3).alloc (.cells #[.int .u64 f.id, .int .i64 f.index, .int .i64 f.count, .string ⟨f.part.toArray⟩] 26))
      have d0 := (HB4.out.cell (World.block_lt_of_cell? wr _ c0)).trans c0
      have d1 := (HB4.out.cell (World.block_lt_of_cell? wr _ c1)).trans c1
      have d2 := (HB4.out.cell (World.block_lt_of_cell? wr _ c2)).trans c2
      have d3 := (HB4.out.cell (World.block_lt_of_cell? wr _ c3)).trans c3
      have e0 := (M4.out.bel.cell (World.block_lt_of_cell? w3 _ d0)).trans d0
      have e1 := (M4.out.bel.cell (World.block_lt_of_cell? w3 _ d1)).trans d1
      have e2 := (M4.out.bel.cell (World.block_lt_of_cell? w3 _ d2)).trans d2
      have e3 := (M4.out.bel.cell (World.block_lt_of_cell? w3 _ d3)).trans d3
      have HE0 := Lib.hid e0; have HE1 := Lib.hid e1; have HE2 := Lib.hid e2; have HE3 := Lib.hid e3
      clear c0 c1 c2 c3 d0 d1 d2 d3 e0 e1 e2 e3
      go_wp2_with fail
      have HO4 := Lib.hid ((own_later HO1.out HB4.out).alloc (.cells #[.int .u64 f.id, .int .i64 f.index, .int .i64 f.count, .string ⟨f.part.toArray⟩] 26))
      generalize w3.alloc (.cells #[.int .u64 f.id, .int .i64 f.index, .int .i64 f.count, .string ⟨f.part.toArray⟩] 26) = W4 at *
      have x0 : ∀ x : Later W4, x.world.cell? ⟨g, k * 4, none⟩ = some (.int .u64 f.id) := fun x => x.cell HE0.out
      have x1 : ∀ x : Later W4, x.world.cell? ⟨g, k * 4 + 1, none⟩ = some (.int .i64 f.index) := fun x => x.cell HE1.out
      have x2 : ∀ x : Later W4, x.world.cell? ⟨g, k * 4 + 2, none⟩ = some (.int .i64 f.count) := fun x => x.cell HE2.out
      have x3 : ∀ x : Later W4, x.world.cell? ⟨g, k * 4 + 3, none⟩ = some (.string ⟨f.part.toArray⟩) := fun x => x.cell HE3.out
      have r4 := M4.out.rulesL; simp only [AllCells, CellsAt, Nat.zero_add, Nat.reduceAdd] at r4
      have g1 : decide (n < f.part.length) = false := by simp; exact hp1
      have g2 : decide ((n : Int) < (f.part.length : Int)) = false := by simp; omega
      obtain ⟨b3, b4, hd⟩ : ∃ b3 b4 : Bool, decide ((k : Int) + 1 < (m : Int)) = b3 ∧ ((f.part.length : Int) != (n : Int)) = b4 ∧ (b3 = false ∨ (b3 = true ∧ b4 = false)) := by
        refine ⟨_, _, rfl, rfl, ?_⟩
        rcases hp3 with ⟨hk1, hp2⟩ | hk1
        · exact .inr ⟨by simp; omega, by simp; omega⟩
        · exact .inl (by simp; omega)
      obtain ⟨g3, g4, hb34⟩ := hd
      clear hp3
      rcases hb34 with rfl | ⟨rfl, rfl⟩
      all_goals
        refine wp_region_later (by kernel_rfl) (by kernel_rfl) ?_
        iterate 31 go_big_quiet_step (fail)
        refine wpQuiet_nil ?_
        rintro ⟨w5, hb5⟩
        change Exit.then _ _ _ _ w5
        have M5 := Lib.hid (M4.out.later hb5)
        have HO5 := Lib.hid (own_later HO4.out hb5)
        clear r4 x0 x1 x2 x3 hb5
        have r5 := M5.out.rules; simp only [AllCells, CellsAt, Nat.zero_add, Nat.reduceAdd] at r5
        have hown5 := HO5.out
        go_wp2_with (at_builtin; refine wpList_append_own _ rfl _ _ 23 rfl w1.heap.size 26 i0 fragZero 4 40 Try.underlying23 hinf hz0 hz1 hz2 rfl (by decide) _ _ _ rfl (hown5.alloc _) ⟨w5.heap.size, 0, none⟩ 1 1 (fragCells f) rfl rfl (own_cells w5 26 f) (frag_one f) (by unfold maxLen; omega) (by omega) (by have := HB2.out.size; have := HB4.out.size; have := M5.out.bel.size; simp; omega) ?_)
        intro v' w6 hown' hgrow _
        have HR := Lib.hid (RowR.next HL.out.symm hlt HS.out HB2.out (ext_trans HB4.out M5.out.bel) hown5 hown' hgrow)
        clear hown' hgrow hown5 r5
        go_wp2
        go_roundw
        case rel => exact HR.out
        case measure => simp [intOf]; omega
    · obtain rfl : k = m := by omega
      have HO2 := Lib.hid (by have h := HO.out; rw [List.take_of_length_le (by rw [HL.out]; omega)] at h; exact h : wr.ownsRow w1.heap.size 26 4 _ k (fs.flatMap fragCells))
      obtain ⟨g2, cap2, rfl, hc1, hc2⟩ := own_head hown hm1
      clear hbel hown HO
      have HJ := Lib.hid (fun w hv => join_str (fs := fs) (s := s1) (er := 0) (by rw [HFS.out]; exact HK.out.whole) w hv : ∀ (w : World) (hv : w.ownsRow w1.heap.size 26 4 (.slice (some ⟨g2, 0, none⟩) k cap2) fs.length (fs.flatMap fragCells)), _)
      go_wp2_with fail
      refine (HJ.out _ (by rw [HL.out]; exact HO2.out)).mono ?_; rintro e w2 ⟨rfl, hb2⟩
      have HB3 := Lib.hid (ext_trans HB2.out hb2)
      have HO3 := Lib.hid (own_later HO2.out hb2)
      clear hb2 HJ HO2 HB2
      obtain ⟨f, hf⟩ : ∃ f, f = Sough.fragAt fs 0 := ⟨_, rfl⟩
      have hfr : FragsAt w2 g2 0 fs := fragsAt_own (by rw [HL.out]; exact HO3.out)
      have HR := Lib.hid hfr
      have HJ2 := Lib.hid (show Sough.join (fs.drop 1) = ([], 3) by rw [HFS.out]; exact Sough.cut_drop _ _ _)
      have HJ3 := Lib.hid (show Sough.join (fs ++ [f]) = ([], 3) by rw [hf, HFS.out]; exact HK.out.snoc)
      have hd1 : (fs.drop 1).length = k - 1 := by rw [List.length_drop, HL.out]
      have HD1 := Lib.hid hd1; have HFF := Lib.hid hf
      clear hfr hf hd1
      have hcd : (cap2 = 1 ∧ k ≤ cap2) ∨ (cap2 ≠ 1 ∧ k ≤ cap2 ∧ cap2 ≤ 9223372036854775807) := by
        unfold maxLen at hc2
        omega
      clear hc1 hc2
      rcases hcd with ⟨hcc, hc1⟩ | ⟨hcc, hc1, hc2⟩
      all_goals
        go_wp2_with fail
        refine (join_rest HJ2.out HD1.out _ (by first | exact .inl (by omega) | exact .inr ⟨_, _, rfl, fragsAt_drop HR.out⟩)).mono ?_; rintro e w3 ⟨rfl, hb3⟩
        have HB4 := Lib.hid (ext_trans HB3.out hb3)
        have HO4 := Lib.hid (own_later HO3.out hb3)
        obtain ⟨c0, c1, c2, c3⟩ := HR.out.later hb3 0 (by rw [HL.out]; omega)
        rw [← HFF.out] at c0 c1 c2 c3
        simp only [Nat.zero_add, Nat.zero_mul] at c0 c1 c2 c3
        clear hb3
        have hown4 := HO4.out
        try rw [hcc] at hown4
        go_wp2_with (at_builtin; refine wpList_append_own _ rfl _ _ 23 rfl w1.heap.size 26 i0 fragZero 4 40 Try.underlying23 hinf hz0 hz1 hz2 rfl (by decide) _ _ _ rfl (hown4.alloc _) ⟨w3.heap.size, 0, none⟩ 1 1 (fragCells f) rfl rfl (own_cells w3 26 f) (frag_one f) (by unfold maxLen; omega) (by omega) (by have := HB4.out.size; simp; omega) ?_)
        intro v' w6 hown' hgrow _
        have HB6 := Lib.hid ((HB4.out.alloc HB4.out.size (.cells #[.int .u64 f.id, .int .i64 f.index, .int .i64 f.count, .string ⟨f.part.toArray⟩] 26)).grown hgrow (by have := HB4.out.size; simp; omega) (fun r e => (hown4.lt r e).1))
        have HO6 := Lib.hid (show w6.ownsRow w1.heap.size 26 4 v' (fs ++ [f]).length ((fs ++ [f]).flatMap fragCells) by rw [List.length_append, HL.out, List.flatMap_append, List.flatMap_singleton]; exact hown')
        clear hown' hgrow hown4 c0 c1 c2 c3
        go_wp2_with fail
        refine (join_as HJ3.out _ HO6.out).mono ?_; rintro e w7 ⟨rfl, hb7⟩
        have HB7 := Lib.hid (ext_trans HB6.out hb7)
        clear hb7
        go_wp2_with fail
        refine (FX'.out _).mono ?_; rintro e w8 ⟨rfl, hb8⟩
        go_wp2_with fail
        go_ret
        exact ⟨by first | rfl | exact ret_true (by simp), ext_trans HB.out (ext_trans HB7.out hb8)⟩

theorem splitBack_walk (s : ByteArray) (a1 a2 : Int) (w : World) (hs : s.size ≤ maxLen) (w1 : (Lit.int .u32 a1).wf = true) (w2 : (Lit.int .u16 a2).wf = true) :
    Calls Try.prog 5 #[.string s, .int .u32 a1, .int .u16 a2] w fun e w' => e = .returned (.bool true) ∧ Below w.heap.size w w' := by
  have b1 := bounds_u32 w1
  have b2 := bounds_u16 w2
  obtain ⟨id, rfl⟩ := Int.eq_ofNat_of_zero_le b1.1
  obtain ⟨sz, rfl⟩ := Int.eq_ofNat_of_zero_le b2.1
  obtain ⟨s1, h1⟩ : ∃ s1, s.extract 0 (min (s.size : Int) 4096).toNat = s1 := ⟨_, rfl⟩
  have hn : (1 : Int) + (sz : Int) % 1000 = (1 + sz % 1000 : Nat) := by omega
  have hi : (1 : Int) + (id : Int) = (1 + id : Nat) := by omega
  by_cases h5 : 1 ≤ s1.size
  · by_cases h16 : pcs s1.size (1 + sz % 1000) ≤ 16
    · exact back_good fixed_walk h1 hn hi (by omega) (by omega) rfl h5 h16 hs w
    · exact back_many fixed_walk h1 hn hi (by omega) (by omega) rfl h5 (by omega) hs w
  · obtain rfl := byte_empty (s := s1) (by omega)
    exact back_none fixed_walk h1 hn hi (by omega) (by omega) hs w

end Go.Proofs.Ytkogjhdcakjpeaa
