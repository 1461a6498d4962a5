/- The walk of the law SplitSizes. -/
import Derived.Test.YtkogjhdcakjpeaaSpF
import Derived.Test.YtkogjhdcakjpeaaSpFixed
import Derived.Test.YtkogjhdcakjpeaaSpRCut
import Derived.Test.YtkogjhdcakjpeaaSpSame
namespace Go.Proofs.Ytkogjhdcakjpeaa
open Go.RowKit Go.Shelf

theorem take_size {s s1 : ByteArray} {k : Nat} (h1 : s.extract 0 (min (s.size : Int) k).toNat = s1) : s1.size ≤ k ∧ s1.size ≤ s.size := by
  rw [← h1]
  simp only [ByteArray.size_extract]
  omega

/-- The cells of one part that was cut. -/
theorem cut_cells {w : World} {s : ByteArray} {id size g k : Nat} (hk : k < pcs s.size size) (hf : FragsAt w g 0 (Sough.cutAll s.data.toList id size)) :
    w.cell? ⟨g, k * 4, none⟩ = some (.int .u64 id) ∧ w.cell? ⟨g, k * 4 + 1, none⟩ = some (.int .i64 k) ∧ w.cell? ⟨g, k * 4 + 2, none⟩ = some (.int .i64 (pcs s.size size)) ∧ w.cell? ⟨g, k * 4 + 3, none⟩ = some (.string (piece s size k)) := by
  have e : Sough.many s.size size = pcs s.size size := rfl
  have h := hf k (by simp only [Sough.cutAll, List.length_map, List.length_range]; simpa [e] using hk)
  have hx : Sough.fragAt (Sough.cutAll s.data.toList id size) k = ⟨id, k, pcs s.size size, (s.data.toList.drop (k * size)).take size⟩ := by
    simp [Sough.fragAt, Sough.cutAll, List.getD_eq_getElem?_getD, hk, e]
  rw [hx] at h
  simpa [piece] using h

theorem piece_size {s : ByteArray} {size k : Nat} (h3 : 1 ≤ size) (hk : k < pcs s.size size) : 1 ≤ (piece s size k).size ∧ (piece s size k).size ≤ size := by
  have := pcs_lt h3 hk
  have e : (piece s size k).size = min size (s.size - k * size) := by simp [piece, mk_size]
  rw [e]; omega

set_option maxRecDepth 100000 in
set_option maxHeartbeats 3200000 in
theorem sizes_good (FX : FixedOk) {s s1 : ByteArray} {id sz n nid m : Nat} (h1 : s.extract 0 (min (s.size : Int) 4096).toNat = s1) (hn : (1 : Int) + (sz : Int) % 1000 = n) (hi : (1 : Int) + (id : Int) = nid) (hid : id < 4294967296) (hz : sz < 65536)
    (hm : pcs s1.size n = m) (h5 : 1 ≤ s1.size) (h16 : m ≤ 16) (hs : s.size ≤ maxLen) (w : World) :
    Calls Try.prog 6 #[.string s, .int .u32 id, .int .u16 sz] w fun e w' => e = .returned (.bool true) ∧ Below w.heap.size w w' := by
  have h6 := (take_size (k := 4096) h1).1
  have hn1 : 1 ≤ n := by omega
  have hn2 : n ≤ 1000 := by omega
  have hq := pcs_int hn1 h5
  rw [hm] at hq
  have hm1 : 1 ≤ m := by rw [← hm]; exact Nat.pos_of_ne_zero (fun h => by have := pcs_ge hn1 (k := 0) (L := s1.size) (by omega); omega)
  have hc : Sough.cut s1.data.toList nid n = (Sough.cutAll s1.data.toList nid n, 0) := by
    have := cut_fine (s := s1) (id := nid) (size := n) (by omega) (by omega) (by omega) (by omega) (by omega) (by omega) (by omega)
    rwa [mixed_all] at this
  have hlen : (Sough.cutAll s1.data.toList nid n).length = m := by simp [Sough.cutAll, Sough.many, ← hm, pcs]
  have CC := Lib.hid (fun w => cut_as hc w)
  have HM := Lib.hid hm; have HL := Lib.hid hlen; have FX' := Lib.hid FX
  have hsm : s.size ≤ 9223372036854775807 := hs
  clear hs hm hc hlen FX
  go_enter Try.func6, Try.ntmps6
  go_wp2_with fail
  refine (CC.out _).mono ?_
  rintro e w1 ⟨v, rfl, hown, hb1⟩
  rw [HL.out] at hown
  obtain ⟨g, cap, rfl, hcap1, hcap2⟩ := own_head hown hm1
  unfold maxLen at hcap2
  rw [← HL.out] at hown
  have HF := Lib.hid (fragsAt_own hown); have HB := Lib.hid hb1
  clear hown hb1
  go_wp2_with fail
  go_loopw [11] (fun iv wr => SameR m w1 iv wr) (fun iv _ => m - (intOf iv).toNat)
  case atStart => exact ⟨0, Nat.zero_le _, rfl, Below.refl _ _⟩
  case round =>
    obtain ⟨k, hk, rfl, hbel⟩ := hrel
    have HB2 := Lib.hid hbel
    by_cases hlt : k < m
    · obtain ⟨c0, c1, c2, c3⟩ := cut_cells (by rw [HM.out]; exact hlt) (HF.out.later hbel)
      rw [HM.out] at c2
      have hpz := piece_size (s := s1) (k := k) hn1 (by rw [HM.out]; exact hlt)
      have hql := pcs_lt (L := s1.size) (k := k) hn1 (by rw [HM.out]; exact hlt)
      obtain ⟨q, hqk⟩ : ∃ q, q = k * n := ⟨_, rfl⟩
      have hsl := slice_piece (s := s1) hqk (by rw [hqk]; exact hql)
      have hmul : (k : Int) * (n : Int) = (q : Int) := by rw [hqk]; exact (Int.natCast_mul k n).symm
      rw [← hqk] at hql
      have hqn : q ≤ 4096 := by omega
      generalize piece s1 n k = p at *
      have RT : Sough.Frag.right ⟨nid, k, m, p.data.toList⟩ = true := (Sough.right_iff _).2 ⟨by show 1 ≤ nid; omega, by show nid ≤ 4294967296; omega, by show (1 : Int) ≤ m; omega, by show (m : Int) ≤ 16; omega, by show (0 : Int) ≤ k; omega, by show (k : Int) < m; omega, by show 1 ≤ p.data.toList.length; simpa using hpz.1, by show p.data.toList.length ≤ 1000; simp; omega⟩
      have CR := Lib.hid (fun w => right_lit RT rfl w)
      clear RT hbel hqk hpz
      have M2 := Lib.hid ((Mem.start wr).alloc (.cells #[.int .u64 nid, .int .i64 k, .int .i64 m, .string p] 26))
      go_wp2_with fail
      generalize wr.alloc (.cells #[.int .u64 nid, .int .i64 k, .int .i64 m, .string p] 26) = W2 at *
      clear c0 c1 c2 c3
      have r2 := M2.out.rulesL; simp only [AllCells, CellsAt, Nat.zero_add, Nat.reduceAdd] at r2
      refine wp_region_later (by kernel_rfl) (by kernel_rfl) ?_
      iterate 20 go_big_quiet_step (fail)
      go_big_quiet_step ((go_at_call 20; exact Calls.later (CR.out _)))
      iterate 20 go_big_quiet_step (fail)
      refine wpQuiet_nil ?_
      rintro ⟨w3, hb3⟩
      change Exit.then _ _ _ _ w3
      have HB3 := Lib.hid (ext_trans HB2.out (M2.out.later hb3).bel)
      clear r2 hb3 M2
      go_wp2_with fail
      go_roundw
      case rel => exact ⟨k + 1, by omega, by go_num, HB3.out⟩
      case measure => simp [intOf]; omega
    · obtain rfl : k = m := by omega
      clear hbel
      go_wp2_with fail
      refine (FX'.out _).mono ?_; rintro e w4 ⟨rfl, hb4⟩
      go_wp2_with fail
      go_ret
      exact ⟨rfl, ext_trans HB.out (ext_trans HB2.out hb4)⟩

set_option maxRecDepth 100000 in
set_option maxHeartbeats 3200000 in
theorem sizes_none (FX : FixedOk) {s : ByteArray} {id sz n nid : Nat} (h1 : s.extract 0 (min (s.size : Int) 4096).toNat = ⟨#[]⟩) (hn : (1 : Int) + (sz : Int) % 1000 = n) (hi : (1 : Int) + (id : Int) = nid) (hid : id < 4294967296) (hz : sz < 65536)
    (hs : s.size ≤ maxLen) (w : World) :
    Calls Try.prog 6 #[.string s, .int .u32 id, .int .u16 sz] w fun e w' => e = .returned (.bool true) ∧ Below w.heap.size w w' := by
  have hn1 : 1 ≤ n := by omega
  have hn2 : n ≤ 1000 := by omega
  have hc : Sough.cut (⟨#[]⟩ : ByteArray).data.toList nid n = ([], 1) := by
    unfold Sough.cut
    rw [if_pos (by right; right; right; right; left; exact Nat.zero_lt_one)]
  have CC := Lib.hid (fun w => cut_as hc w)
  have FX' := Lib.hid FX
  have hsm : s.size ≤ 9223372036854775807 := hs
  clear hs hc FX
  go_enter Try.func6, Try.ntmps6
  go_wp2_with fail
  refine (CC.out _).mono ?_
  rintro e w1 ⟨v, rfl, hown, hb1⟩
  obtain ⟨a, cap, rfl⟩ := own_shape hown
  have HB := Lib.hid hb1
  clear hown hb1
  go_wp2_with fail
  refine (FX'.out _).mono ?_; rintro e w4 ⟨rfl, hb4⟩
  go_wp2_with fail
  go_ret
  exact ⟨by first | rfl | exact ret_true (by simp), ext_trans HB.out hb4⟩

set_option maxRecDepth 100000 in
set_option maxHeartbeats 3200000 in
theorem sizes_many (FX : FixedOk) {s s1 : ByteArray} {id sz n nid m : Nat} (h1 : s.extract 0 (min (s.size : Int) 4096).toNat = s1) (hn : (1 : Int) + (sz : Int) % 1000 = n) (hi : (1 : Int) + (id : Int) = nid) (hid : id < 4294967296) (hz : sz < 65536)
    (hm : pcs s1.size n = m) (h5 : 1 ≤ s1.size) (h16 : 16 < m) (hs : s.size ≤ maxLen) (w : World) :
    Calls Try.prog 6 #[.string s, .int .u32 id, .int .u16 sz] w fun e w' => e = .returned (.bool true) ∧ Below w.heap.size w w' := by
  have h6 := (take_size (k := 4096) h1).1
  have hn1 : 1 ≤ n := by omega
  have hn2 : n ≤ 1000 := by omega
  have hq := pcs_int hn1 h5
  rw [hm] at hq
  have hc : Sough.cut s1.data.toList nid n = ([], 4) := cut_big (by omega) (by omega) (by omega) (by omega) (by omega) (by omega) (by omega)
  have CC := Lib.hid (fun w => cut_as hc w)
  have FX' := Lib.hid FX
  have hsm : s.size ≤ 9223372036854775807 := hs
  have d16 : decide ((16 : Int) < m) = true := by simp; omega
  clear hs hm hc FX
  go_enter Try.func6, Try.ntmps6
  go_wp2_with fail
  refine (CC.out _).mono ?_
  rintro e w1 ⟨v, rfl, hown, hb1⟩
  obtain ⟨a, cap, rfl⟩ := own_shape hown
  have HB := Lib.hid hb1
  clear hown hb1
  go_wp2_with fail
  refine (FX'.out _).mono ?_; rintro e w4 ⟨rfl, hb4⟩
  go_wp2_with fail
  go_ret
  exact ⟨by first | rfl | exact ret_true (by simp), ext_trans HB.out hb4⟩

theorem byte_empty {s : ByteArray} (h : s.size = 0) : s = ⟨#[]⟩ := by
  obtain ⟨l, rfl, hl⟩ := list_of s
  rw [h] at hl
  rw [List.length_eq_zero_iff.1 hl.symm]

/-- As the frame wants it. -/
theorem splitSizes_any (FX : FixedOk) (s : ByteArray) (a1 a2 : Int) (w : World) (hs : s.size ≤ maxLen) (w1 : (Lit.int .u32 a1).wf = true) (w2 : (Lit.int .u16 a2).wf = true) :
    Calls Try.prog 6 #[.string s, .int .u32 a1, .int .u16 a2] w fun e w' => e = .returned (.bool true) ∧ Below w.heap.size w w' := by
  have b1 := bounds_u32 w1
  have b2 := bounds_u16 w2
  obtain ⟨id, rfl⟩ := Int.eq_ofNat_of_zero_le b1.1
  obtain ⟨sz, rfl⟩ := Int.eq_ofNat_of_zero_le b2.1
  obtain ⟨s1, h1⟩ : ∃ s1, s.extract 0 (min (s.size : Int) 4096).toNat = s1 := ⟨_, rfl⟩
  have hn : (1 : Int) + (sz : Int) % 1000 = (1 + sz % 1000 : Nat) := by omega
  have hi : (1 : Int) + (id : Int) = (1 + id : Nat) := by omega
  by_cases h5 : 1 ≤ s1.size
  · by_cases h16 : pcs s1.size (1 + sz % 1000) ≤ 16
    · exact sizes_good FX h1 hn hi (by omega) (by omega) rfl h5 h16 hs w
    · exact sizes_many FX h1 hn hi (by omega) (by omega) rfl h5 (by omega) hs w
  · obtain rfl := byte_empty (s := s1) (by omega)
    exact sizes_none FX h1 hn hi (by omega) (by omega) hs w

theorem splitSizes_walk (s : ByteArray) (a1 a2 : Int) (w : World) (hs : s.size ≤ maxLen) (w1 : (Lit.int .u32 a1).wf = true) (w2 : (Lit.int .u16 a2).wf = true) :
    Calls Try.prog 6 #[.string s, .int .u32 a1, .int .u16 a2] w fun e w' => e = .returned (.bool true) ∧ Below w.heap.size w w' := splitSizes_any fixed_walk s a1 a2 w hs w1 w2

end Go.Proofs.Ytkogjhdcakjpeaa
