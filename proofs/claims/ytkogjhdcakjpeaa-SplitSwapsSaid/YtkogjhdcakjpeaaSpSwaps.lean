/- The walk of the law SplitSwaps. -/
import Derived.Test.YtkogjhdcakjpeaaSpSwapsPlain
import Derived.Test.YtkogjhdcakjpeaaSpSizes
import Derived.Test.YtkogjhdcakjpeaaSpArg
import Derived.Deep.Cut
namespace Go.Proofs.Ytkogjhdcakjpeaa
open Go.RowKit Go.Shelf

theorem set_id : ∀ (fs : List Sough.Frag) (i c : Nat) (hi : i < fs.length), (fs.flatMap fragCells).set (i * 4) (.int .u64 c) = (fs.set i ⟨c, fs[i].index, fs[i].count, fs[i].part⟩).flatMap fragCells
  | [], i, c, hi => absurd hi (by simp)
  | f :: fs, 0, c, hi => by simp [fragCells]
  | f :: fs, i + 1, c, hi => by
    have h := set_id fs i c (by simpa using hi)
    rw [List.flatMap_cons, show (i + 1) * 4 = i * 4 + 4 by omega]
    simp only [fragCells, List.cons_append, List.nil_append, List.set_cons_succ]
    simp only [List.flatMap_cons, List.getElem_cons_succ, fragCells, List.cons_append, List.nil_append]
    rw [h]
theorem set_index : ∀ (fs : List Sough.Frag) (i : Nat) (c : Int) (hi : i < fs.length), (fs.flatMap fragCells).set (i * 4 + 1) (.int .i64 c) = (fs.set i ⟨fs[i].id, c, fs[i].count, fs[i].part⟩).flatMap fragCells
  | [], i, c, hi => absurd hi (by simp)
  | f :: fs, 0, c, hi => by simp [fragCells]
  | f :: fs, i + 1, c, hi => by
    have h := set_index fs i c (by simpa using hi)
    rw [List.flatMap_cons, show (i + 1) * 4 + 1 = i * 4 + 1 + 4 by omega]
    simp only [fragCells, List.cons_append, List.nil_append, List.set_cons_succ]
    simp only [List.flatMap_cons, List.getElem_cons_succ, fragCells, List.cons_append, List.nil_append]
    rw [h]
theorem set_all : ∀ (fs : List Sough.Frag) (i : Nat) (f : Sough.Frag) (_hi : i < fs.length), (((((fs.flatMap fragCells).set (i * 4) (.int .u64 f.id)).set (i * 4 + 1) (.int .i64 f.index)).set (i * 4 + 2) (.int .i64 f.count)).set (i * 4 + 3) (.string ⟨f.part.toArray⟩)) = (fs.set i f).flatMap fragCells
  | [], i, c, hi => absurd hi (by simp)
  | f :: fs, 0, c, hi => by simp [fragCells]
  | g :: fs, i + 1, f, hi => by
    have h := set_all fs i f (by simpa using hi)
    rw [List.flatMap_cons, show (i + 1) * 4 = i * 4 + 4 by omega, show i * 4 + 4 + 1 = i * 4 + 1 + 4 by omega, show i * 4 + 4 + 2 = i * 4 + 2 + 4 by omega, show i * 4 + 4 + 3 = i * 4 + 3 + 4 by omega]
    simp only [fragCells, List.cons_append, List.nil_append, List.set_cons_succ]
    simp only [List.flatMap_cons, fragCells, List.cons_append, List.nil_append]
    rw [h]

theorem _root_.Go.Mem.skip {w W : World} {L : List (Nat × Obj)} (h : Mem w L W) {k : Nat} (hk : w.heap.size ≤ k) (hL : ∀ p ∈ L, p.1 ≠ k) (i : Nat) (v : Value) : Mem w L (W.setCell ⟨k, i, none⟩ v) :=
  ⟨h.bel.setCell hk v, fun p hp => by rw [Below.heap_setCell _ _ _ _ (hL p hp)]; exact h.blk p hp⟩


set_option maxRecDepth 100000 in
set_option maxHeartbeats 6400000 in
theorem swaps_one (FX : FixedOk) {s s1 : ByteArray} {sz n m a b r i k : Nat} (h1 : s.extract 0 (min (s.size : Int) 1000).toNat = s1) (hn : (1 : Int) + (sz : Int) = n) (hz : sz < 256) (ha : a < 256) (hb : b < 256) (hr : r < 256)
    (hm : pcs s1.size n = m) (h5 : 1 ≤ s1.size) (h2 : 2 ≤ m) (h16 : m ≤ 16) (hi : a % m = i) (hk : b % m = k) (hc : r % 4 = 1) (hs : s.size ≤ maxLen) (w : World) :
    Calls Try.prog 7 #[.string s, .int .u8 sz, .agg #[.int .u8 a, .int .u8 b, .int .u8 r]] w fun e w' => e = .returned (.bool true) ∧ Below w.heap.size w w' := by
  have h6 := (take_size (k := 1000) h1).1
  have hn1 : 1 ≤ n := by omega
  have hn2 : n ≤ 1000 := by omega
  have hl0 : s1.data.toList.length = s1.size := by simp
  have OK : Sough.CutOk s1.data.toList 7 n := ⟨by omega, by omega, hn1, hn2, by rw [hl0]; exact h5, by rw [hl0]; omega, by rw [hl0]; show pcs s1.size n ≤ 16; rw [hm]; exact h16⟩
  have hmany : Sough.many s1.data.toList.length n = m := by rw [hl0]; exact hm
  have hlen : (Sough.cutAll s1.data.toList 7 n).length = m := by rw [Sough.cutAll_len, hmany]
  have him : i < m := by rw [← hi]; exact Nat.mod_lt _ (by omega)
  have hkm : k < m := by rw [← hk]; exact Nat.mod_lt _ (by omega)
  obtain ⟨fs, hfs⟩ : ∃ fs, fs = Sough.cutAll s1.data.toList 7 n := ⟨_, rfl⟩
  have CC := Lib.hid (fun w => cut_lit (id := 7) (k := 7) OK.cuts rfl w)
  rw [← hfs] at hlen CC
  have e1 : (a : Int) % (m : Int) = i := by omega
  have e2 : (a : Int).tmod (m : Int) = i := by rw [Int.tmod_eq_emod_of_nonneg (by omega)]; omega
  have e3 : (b : Int) % (m : Int) = k := by omega
  have e4 : (b : Int).tmod (m : Int) = k := by rw [Int.tmod_eq_emod_of_nonneg (by omega)]; omega
  have e5 : (r : Int) % 4 = 1 := by omega
  have e6 : (r : Int).tmod 4 = 1 := by rw [Int.tmod_eq_emod_of_nonneg (by omega)]; omega
  have E1 := Lib.hid e1; have E2 := Lib.hid e2; have E3 := Lib.hid e3; have E4 := Lib.hid e4; have E5 := Lib.hid e5; have E6 := Lib.hid e6
  have HK := Lib.hid OK; have HM := Lib.hid hmany; have HL := Lib.hid hlen; have HFS := Lib.hid hfs; have FX' := Lib.hid FX; have HI := Lib.hid him; have HKM := Lib.hid hkm
  have hsm : s.size ≤ 9223372036854775807 := hs
  have M0 := Lib.hid ((Mem.start w).alloc (.cells #[.int .u8 a, .int .u8 b, .int .u8 r] 55))
  clear hs hm hmany hlen hfs OK FX hl0 hi hk hc e1 e2 e3 e4 e5 e6
  go_enter Try.func7, Try.ntmps7
  go_wp2_with fail
  have HW1 := Lib.hid (World.size_alloc w (.cells #[.int .u8 a, .int .u8 b, .int .u8 r] 55))
  generalize w.alloc (.cells #[.int .u8 a, .int .u8 b, .int .u8 r] 55) = W1 at *
  refine (CC.out _).mono ?_
  rintro e w1 ⟨v, rfl, hown, hb1⟩
  rw [HL.out] at hown
  obtain ⟨g, cap, rfl, hcap1, hcap2⟩ := own_head hown (by omega)
  unfold maxLen at hcap2
  have hg := (hown.lt g rfl).1
  rw [HW1.out] at hg
  rw [← HL.out] at hown
  have HF := Lib.hid (fragsAt_own hown)
  rw [HL.out] at hown
  have HO := Lib.hid hown
  have M1 := Lib.hid (M0.out.later hb1)
  clear hown hb1
  have r1 := M1.out.rulesL; simp only [AllCells, CellsAt, Nat.zero_add, Nat.reduceAdd] at r1
  have e1 := E1.out; have e2 := E2.out; have e3 := E3.out; have e4 := E4.out
  go_wp2_with fail
  refine wp_region_later (by kernel_rfl) (by kernel_rfl) ?_
  iterate 14 go_big_quiet_step (fail)
  refine wpQuiet_nil ?_
  rintro ⟨w2, hb2⟩
  change Exit.then _ _ _ _ w2
  have M2 := Lib.hid (M1.out.later hb2)
  have HO2 := Lib.hid (own_later HO.out hb2)
  have HF2 := Lib.hid (HF.out.later hb2)
  clear r1 e1 e2 e3 e4 hb2 M1 HO HF
  have r2 := M2.out.rules; simp only [AllCells, CellsAt, Nat.zero_add, Nat.reduceAdd] at r2
  have e5 := E5.out; have e6 := E6.out
  have q1 : (i : Int) < m := by omega
  have q2 : (k : Int) < m := by omega
  have f0 := HO2.out.frozenAt (i * 4)
  obtain ⟨c0, c1, c2, c3⟩ := HF2.out i (by rw [HL.out]; exact HI.out)
  simp only [Nat.zero_add] at c0 c1 c2 c3
  have hil : i < fs.length := by rw [HL.out]; exact HI.out
  have HJ := Lib.hid (show Sough.join (fs.set i ⟨8, fs[i].index, fs[i].count, fs[i].part⟩) = ([], 3) by
    have := Sough.swap_id (s := s1.data.toList) (n := n) (i := i) (by rw [HM.out]; exact HI.out) (by rw [HM.out]; exact h2)
    rw [← HFS.out, Sough.fragAt_eq hil] at this
    exact this)
  have M3 := Lib.hid (M2.out.skip (k := g) (by omega) (by simp; omega) (i * 4) (.int .u64 8))
  have HO3 := Lib.hid (show (w2.setCell ⟨g, i * 4, none⟩ (.int .u64 8)).ownsRow W1.heap.size 26 4 (.slice (some ⟨g, 0, none⟩) m cap) (fs.set i ⟨8, fs[i].index, fs[i].count, fs[i].part⟩).length ((fs.set i ⟨8, fs[i].index, fs[i].count, fs[i].part⟩).flatMap fragCells) by
    rw [List.length_set, HL.out, ← set_id fs i 8 hil]
    exact (HO2.out.stored (i * 4) (.int .u64 8)).1)
  go_wp2_with fail
  refine (join_as HJ.out _ HO3.out).mono ?_; rintro e w4 ⟨rfl, hb4⟩
  have M4 := Lib.hid (M3.out.later hb4)
  clear hb4
  go_wp2_with fail
  refine (FX'.out _).mono ?_; rintro e w5 ⟨rfl, hb⟩
  have M5 := Lib.hid (M4.out.later hb); clear hb M4
  go_wp2_with fail
  go_ret
  exact ⟨by first | rfl | exact ret_true (by simp), M5.out.bel⟩

set_option maxRecDepth 100000 in
set_option maxHeartbeats 6400000 in
theorem swaps_two (FX : FixedOk) {s s1 : ByteArray} {sz n m a b r i k : Nat} (h1 : s.extract 0 (min (s.size : Int) 1000).toNat = s1) (hn : (1 : Int) + (sz : Int) = n) (hz : sz < 256) (ha : a < 256) (hb : b < 256) (hr : r < 256)
    (hm : pcs s1.size n = m) (h5 : 1 ≤ s1.size) (h2 : 2 ≤ m) (h16 : m ≤ 16) (hi : a % m = i) (hk : b % m = k) (hc : r % 4 = 2) (hs : s.size ≤ maxLen) (w : World) :
    Calls Try.prog 7 #[.string s, .int .u8 sz, .agg #[.int .u8 a, .int .u8 b, .int .u8 r]] w fun e w' => e = .returned (.bool true) ∧ Below w.heap.size w w' := by
  have h6 := (take_size (k := 1000) h1).1
  have hn1 : 1 ≤ n := by omega
  have hn2 : n ≤ 1000 := by omega
  have hl0 : s1.data.toList.length = s1.size := by simp
  have OK : Sough.CutOk s1.data.toList 7 n := ⟨by omega, by omega, hn1, hn2, by rw [hl0]; exact h5, by rw [hl0]; omega, by rw [hl0]; show pcs s1.size n ≤ 16; rw [hm]; exact h16⟩
  have hmany : Sough.many s1.data.toList.length n = m := by rw [hl0]; exact hm
  have hlen : (Sough.cutAll s1.data.toList 7 n).length = m := by rw [Sough.cutAll_len, hmany]
  have him : i < m := by rw [← hi]; exact Nat.mod_lt _ (by omega)
  have hkm : k < m := by rw [← hk]; exact Nat.mod_lt _ (by omega)
  obtain ⟨fs, hfs⟩ : ∃ fs, fs = Sough.cutAll s1.data.toList 7 n := ⟨_, rfl⟩
  have CC := Lib.hid (fun w => cut_lit (id := 7) (k := 7) OK.cuts rfl w)
  rw [← hfs] at hlen CC
  have e1 : (a : Int) % (m : Int) = i := by omega
  have e2 : (a : Int).tmod (m : Int) = i := by rw [Int.tmod_eq_emod_of_nonneg (by omega)]; omega
  have e3 : (b : Int) % (m : Int) = k := by omega
  have e4 : (b : Int).tmod (m : Int) = k := by rw [Int.tmod_eq_emod_of_nonneg (by omega)]; omega
  have e5 : (r : Int) % 4 = 2 := by omega
  have e6 : (r : Int).tmod 4 = 2 := by rw [Int.tmod_eq_emod_of_nonneg (by omega)]; omega
  have E1 := Lib.hid e1; have E2 := Lib.hid e2; have E3 := Lib.hid e3; have E4 := Lib.hid e4; have E5 := Lib.hid e5; have E6 := Lib.hid e6
  have HK := Lib.hid OK; have HM := Lib.hid hmany; have HL := Lib.hid hlen; have HFS := Lib.hid hfs; have FX' := Lib.hid FX; have HI := Lib.hid him; have HKM := Lib.hid hkm
  have hsm : s.size ≤ 9223372036854775807 := hs
  have M0 := Lib.hid ((Mem.start w).alloc (.cells #[.int .u8 a, .int .u8 b, .int .u8 r] 55))
  clear hs hm hmany hlen hfs OK FX hl0 hi hk hc e1 e2 e3 e4 e5 e6
  go_enter Try.func7, Try.ntmps7
  go_wp2_with fail
  have HW1 := Lib.hid (World.size_alloc w (.cells #[.int .u8 a, .int .u8 b, .int .u8 r] 55))
  generalize w.alloc (.cells #[.int .u8 a, .int .u8 b, .int .u8 r] 55) = W1 at *
  refine (CC.out _).mono ?_
  rintro e w1 ⟨v, rfl, hown, hb1⟩
  rw [HL.out] at hown
  obtain ⟨g, cap, rfl, hcap1, hcap2⟩ := own_head hown (by omega)
  unfold maxLen at hcap2
  have hg := (hown.lt g rfl).1
  rw [HW1.out] at hg
  rw [← HL.out] at hown
  have HF := Lib.hid (fragsAt_own hown)
  rw [HL.out] at hown
  have HO := Lib.hid hown
  have M1 := Lib.hid (M0.out.later hb1)
  clear hown hb1
  have r1 := M1.out.rulesL; simp only [AllCells, CellsAt, Nat.zero_add, Nat.reduceAdd] at r1
  have e1 := E1.out; have e2 := E2.out; have e3 := E3.out; have e4 := E4.out
  go_wp2_with fail
  refine wp_region_later (by kernel_rfl) (by kernel_rfl) ?_
  iterate 14 go_big_quiet_step (fail)
  refine wpQuiet_nil ?_
  rintro ⟨w2, hb2⟩
  change Exit.then _ _ _ _ w2
  have M2 := Lib.hid (M1.out.later hb2)
  have HO2 := Lib.hid (own_later HO.out hb2)
  have HF2 := Lib.hid (HF.out.later hb2)
  clear r1 e1 e2 e3 e4 hb2 M1 HO HF
  have r2 := M2.out.rules; simp only [AllCells, CellsAt, Nat.zero_add, Nat.reduceAdd] at r2
  have e5 := E5.out; have e6 := E6.out
  have q1 : (i : Int) < m := by omega
  have q2 : (k : Int) < m := by omega
  have f2 := HO2.out.frozenAt (i * 4 + 2)
  obtain ⟨c0, c1, c2, c3⟩ := HF2.out i (by rw [HL.out]; exact HI.out)
  simp only [Nat.zero_add] at c0 c1 c2 c3
  have hil : i < fs.length := by rw [HL.out]; exact HI.out
  have hcn : (Sough.fragAt fs i).count = (m : Int) := by
    rw [HFS.out, Sough.cutAll_at (by rw [HM.out]; exact HI.out)]
    show ((Sough.many s1.data.toList.length n : Nat) : Int) = m
    rw [HM.out]
  rw [hcn] at c2
  have hcn' : fs[i].count = (m : Int) := by rw [← Sough.fragAt_eq hil]; exact hcn
  have HJ := Lib.hid (show Sough.join (fs.set i ⟨fs[i].id, fs[i].index, (m : Int) + 1, fs[i].part⟩) = ([], 3) by
    have := Sough.swap_count (s := s1.data.toList) (n := n) (i := i) (by rw [HM.out]; exact HI.out)
    rw [← HFS.out, Sough.fragAt_eq hil, hcn'] at this
    exact this)
  have M3 := Lib.hid (M2.out.skip (k := g) (by omega) (by simp; omega) (i * 4 + 2) (.int .i64 ((m : Int) + 1)))
  have HO3 := Lib.hid (show (w2.setCell ⟨g, i * 4 + 2, none⟩ (.int .i64 ((m : Int) + 1))).ownsRow W1.heap.size 26 4 (.slice (some ⟨g, 0, none⟩) m cap) (fs.set i ⟨fs[i].id, fs[i].index, (m : Int) + 1, fs[i].part⟩).length ((fs.set i ⟨fs[i].id, fs[i].index, (m : Int) + 1, fs[i].part⟩).flatMap fragCells) by
    rw [List.length_set, HL.out, ← set_count fs i _ hil]
    exact (HO2.out.stored (i * 4 + 2) _).1)
  clear hcn hcn'
  go_wp2_with fail
  refine (join_as HJ.out _ HO3.out).mono ?_; rintro e w4 ⟨rfl, hb4⟩
  have M4 := Lib.hid (M3.out.later hb4)
  clear hb4
  go_wp2_with fail
  refine (FX'.out _).mono ?_; rintro e w5 ⟨rfl, hb⟩
  have M5 := Lib.hid (M4.out.later hb); clear hb M4
  go_wp2_with fail
  go_ret
  exact ⟨by first | rfl | exact ret_true (by simp), M5.out.bel⟩

set_option maxRecDepth 100000 in
set_option maxHeartbeats 6400000 in
theorem swaps_three (FX : FixedOk) {s s1 : ByteArray} {sz n m a b r i k : Nat} (h1 : s.extract 0 (min (s.size : Int) 1000).toNat = s1) (hn : (1 : Int) + (sz : Int) = n) (hz : sz < 256) (ha : a < 256) (hb : b < 256) (hr : r < 256)
    (hm : pcs s1.size n = m) (h5 : 1 ≤ s1.size) (h2 : 2 ≤ m) (h16 : m ≤ 16) (hi : a % m = i) (hk : b % m = k) (hc : r % 4 = 3) (hs : s.size ≤ maxLen) (w : World) :
    Calls Try.prog 7 #[.string s, .int .u8 sz, .agg #[.int .u8 a, .int .u8 b, .int .u8 r]] w fun e w' => e = .returned (.bool true) ∧ Below w.heap.size w w' := by
  have h6 := (take_size (k := 1000) h1).1
  have hn1 : 1 ≤ n := by omega
  have hn2 : n ≤ 1000 := by omega
  have hl0 : s1.data.toList.length = s1.size := by simp
  have OK : Sough.CutOk s1.data.toList 7 n := ⟨by omega, by omega, hn1, hn2, by rw [hl0]; exact h5, by rw [hl0]; omega, by rw [hl0]; show pcs s1.size n ≤ 16; rw [hm]; exact h16⟩
  have hmany : Sough.many s1.data.toList.length n = m := by rw [hl0]; exact hm
  have hlen : (Sough.cutAll s1.data.toList 7 n).length = m := by rw [Sough.cutAll_len, hmany]
  have him : i < m := by rw [← hi]; exact Nat.mod_lt _ (by omega)
  have hkm : k < m := by rw [← hk]; exact Nat.mod_lt _ (by omega)
  obtain ⟨fs, hfs⟩ : ∃ fs, fs = Sough.cutAll s1.data.toList 7 n := ⟨_, rfl⟩
  have CC := Lib.hid (fun w => cut_lit (id := 7) (k := 7) OK.cuts rfl w)
  rw [← hfs] at hlen CC
  have e1 : (a : Int) % (m : Int) = i := by omega
  have e2 : (a : Int).tmod (m : Int) = i := by rw [Int.tmod_eq_emod_of_nonneg (by omega)]; omega
  have e3 : (b : Int) % (m : Int) = k := by omega
  have e4 : (b : Int).tmod (m : Int) = k := by rw [Int.tmod_eq_emod_of_nonneg (by omega)]; omega
  have e5 : (r : Int) % 4 = 3 := by omega
  have e6 : (r : Int).tmod 4 = 3 := by rw [Int.tmod_eq_emod_of_nonneg (by omega)]; omega
  have E1 := Lib.hid e1; have E2 := Lib.hid e2; have E3 := Lib.hid e3; have E4 := Lib.hid e4; have E5 := Lib.hid e5; have E6 := Lib.hid e6
  have HK := Lib.hid OK; have HM := Lib.hid hmany; have HL := Lib.hid hlen; have HFS := Lib.hid hfs; have FX' := Lib.hid FX; have HI := Lib.hid him; have HKM := Lib.hid hkm
  have hsm : s.size ≤ 9223372036854775807 := hs
  have M0 := Lib.hid ((Mem.start w).alloc (.cells #[.int .u8 a, .int .u8 b, .int .u8 r] 55))
  clear hs hm hmany hlen hfs OK FX hl0 hi hk hc e1 e2 e3 e4 e5 e6
  go_enter Try.func7, Try.ntmps7
  go_wp2_with fail
  have HW1 := Lib.hid (World.size_alloc w (.cells #[.int .u8 a, .int .u8 b, .int .u8 r] 55))
  generalize w.alloc (.cells #[.int .u8 a, .int .u8 b, .int .u8 r] 55) = W1 at *
  refine (CC.out _).mono ?_
  rintro e w1 ⟨v, rfl, hown, hb1⟩
  rw [HL.out] at hown
  obtain ⟨g, cap, rfl, hcap1, hcap2⟩ := own_head hown (by omega)
  unfold maxLen at hcap2
  have hg := (hown.lt g rfl).1
  rw [HW1.out] at hg
  rw [← HL.out] at hown
  have HF := Lib.hid (fragsAt_own hown)
  rw [HL.out] at hown
  have HO := Lib.hid hown
  have M1 := Lib.hid (M0.out.later hb1)
  clear hown hb1
  have r1 := M1.out.rulesL; simp only [AllCells, CellsAt, Nat.zero_add, Nat.reduceAdd] at r1
  have e1 := E1.out; have e2 := E2.out; have e3 := E3.out; have e4 := E4.out
  go_wp2_with fail
  refine wp_region_later (by kernel_rfl) (by kernel_rfl) ?_
  iterate 14 go_big_quiet_step (fail)
  refine wpQuiet_nil ?_
  rintro ⟨w2, hb2⟩
  change Exit.then _ _ _ _ w2
  have M2 := Lib.hid (M1.out.later hb2)
  have HO2 := Lib.hid (own_later HO.out hb2)
  have HF2 := Lib.hid (HF.out.later hb2)
  clear r1 e1 e2 e3 e4 hb2 M1 HO HF
  have r2 := M2.out.rules; simp only [AllCells, CellsAt, Nat.zero_add, Nat.reduceAdd] at r2
  have e5 := E5.out; have e6 := E6.out
  have q1 : (i : Int) < m := by omega
  have q2 : (k : Int) < m := by omega
  have f1 := HO2.out.frozenAt (i * 4 + 1)
  obtain ⟨c0, c1, c2, c3⟩ := HF2.out i (by rw [HL.out]; exact HI.out)
  simp only [Nat.zero_add] at c0 c1 c2 c3
  have hil : i < fs.length := by rw [HL.out]; exact HI.out
  rcases hj : Sough.join (fs.set i ⟨fs[i].id, (k : Int), fs[i].count, fs[i].part⟩) with ⟨t, er⟩
  have hans : Sough.SwapAns s1.data.toList (decide (i = k)) t er := by
    refine Sough.swap_index (s := s1.data.toList) (n := n) (i := i) (k := k) HK.out (by rw [HM.out]; exact HI.out) ?_
    rw [← HFS.out, Sough.fragAt_eq hil]
    exact hj
  have M3 := Lib.hid (M2.out.skip (k := g) (by omega) (by simp; omega) (i * 4 + 1) (.int .i64 k))
  have HO3 := Lib.hid (show (w2.setCell ⟨g, i * 4 + 1, none⟩ (.int .i64 k)).ownsRow W1.heap.size 26 4 (.slice (some ⟨g, 0, none⟩) m cap) (fs.set i ⟨fs[i].id, (k : Int), fs[i].count, fs[i].part⟩).length ((fs.set i ⟨fs[i].id, (k : Int), fs[i].count, fs[i].part⟩).flatMap fragCells) by
    rw [List.length_set, HL.out, ← set_index fs i _ hil]
    exact (HO2.out.stored (i * 4 + 1) _).1)
  rcases hans with ⟨rfl, hd, rfl⟩ | ⟨rfl, hd, rfl⟩
  · have hik : ((i : Int) == (k : Int)) = true := by have h := of_decide_eq_true hd; simp [h]
    have HJ := Lib.hid hj
    clear hj hd
    go_wp2_with fail
    refine (join_str HJ.out _ HO3.out).mono ?_; rintro e w4 ⟨rfl, hb4⟩
    have M4 := Lib.hid (M3.out.later hb4)
    clear hb4
    go_wp2_with fail
    refine (FX'.out _).mono ?_; rintro e w5 ⟨rfl, hb⟩
    have M5 := Lib.hid (M4.out.later hb); clear hb M4
    go_wp2_with fail
    go_ret
    exact ⟨by first | rfl | exact ret_true (by simp), M5.out.bel⟩
  · have hik : ((i : Int) == (k : Int)) = false := by simp; have := of_decide_eq_false hd; omega
    have HJ := Lib.hid hj
    clear hj hd
    go_wp2_with fail
    refine (join_as HJ.out _ HO3.out).mono ?_; rintro e w4 ⟨rfl, hb4⟩
    have M4 := Lib.hid (M3.out.later hb4)
    clear hb4
    go_wp2_with fail
    refine (FX'.out _).mono ?_; rintro e w5 ⟨rfl, hb⟩
    have M5 := Lib.hid (M4.out.later hb); clear hb M4
    go_wp2_with fail
    go_ret
    exact ⟨by first | rfl | exact ret_true (by simp), M5.out.bel⟩

theorem own_all {W : World} {base g cap m i : Nat} {e : TypeId} {fs : List Sough.Frag} (h : W.ownsRow base e 4 (.slice (some ⟨g, 0, none⟩) m cap) m (fs.flatMap fragCells)) (hi : i < fs.length) (f : Sough.Frag) :
    ((((W.setCell ⟨g, i * 4, none⟩ (.int .u64 f.id)).setCell ⟨g, i * 4 + 1, none⟩ (.int .i64 f.index)).setCell ⟨g, i * 4 + 2, none⟩ (.int .i64 f.count)).setCell ⟨g, i * 4 + 3, none⟩ (.string ⟨f.part.toArray⟩)).ownsRow base e 4 (.slice (some ⟨g, 0, none⟩) m cap) m ((fs.set i f).flatMap fragCells) := by
  rw [← set_all fs i f hi]
  exact ((((h.stored _ _).1.stored _ _).1.stored _ _).1.stored _ _).1
theorem _root_.Go.Mem.skip4 {w W : World} {L : List (Nat × Obj)} (h : Mem w L W) {g : Nat} (hk : w.heap.size ≤ g) (hL : ∀ p ∈ L, p.1 ≠ g) (i : Nat) (f : Sough.Frag) : Mem w L ((((W.setCell ⟨g, i * 4, none⟩ (.int .u64 f.id)).setCell ⟨g, i * 4 + 1, none⟩ (.int .i64 f.index)).setCell ⟨g, i * 4 + 2, none⟩ (.int .i64 f.count)).setCell ⟨g, i * 4 + 3, none⟩ (.string ⟨f.part.toArray⟩)) :=
  (((h.skip hk hL _ _).skip hk hL _ _).skip hk hL _ _).skip hk hL _ _

set_option maxRecDepth 100000 in
set_option maxHeartbeats 6400000 in
theorem swaps_zero (FX : FixedOk) {s s1 : ByteArray} {sz n m a b r i k : Nat} (h1 : s.extract 0 (min (s.size : Int) 1000).toNat = s1) (hn : (1 : Int) + (sz : Int) = n) (hz : sz < 256) (ha : a < 256) (hb : b < 256) (hr : r < 256)
    (hm : pcs s1.size n = m) (h5 : 1 ≤ s1.size) (h2 : 2 ≤ m) (h16 : m ≤ 16) (hi : a % m = i) (hk : b % m = k) (hc : r % 4 = 0) (hs : s.size ≤ maxLen) (w : World) :
    Calls Try.prog 7 #[.string s, .int .u8 sz, .agg #[.int .u8 a, .int .u8 b, .int .u8 r]] w fun e w' => e = .returned (.bool true) ∧ Below w.heap.size w w' := by
  have h6 := (take_size (k := 1000) h1).1
  have hn1 : 1 ≤ n := by omega
  have hn2 : n ≤ 1000 := by omega
  have hl0 : s1.data.toList.length = s1.size := by simp
  have OK : Sough.CutOk s1.data.toList 7 n := ⟨by omega, by omega, hn1, hn2, by rw [hl0]; exact h5, by rw [hl0]; omega, by rw [hl0]; show pcs s1.size n ≤ 16; rw [hm]; exact h16⟩
  have hmany : Sough.many s1.data.toList.length n = m := by rw [hl0]; exact hm
  have hlen : (Sough.cutAll s1.data.toList 7 n).length = m := by rw [Sough.cutAll_len, hmany]
  have him : i < m := by rw [← hi]; exact Nat.mod_lt _ (by omega)
  have hkm : k < m := by rw [← hk]; exact Nat.mod_lt _ (by omega)
  obtain ⟨fs, hfs⟩ : ∃ fs, fs = Sough.cutAll s1.data.toList 7 n := ⟨_, rfl⟩
  have CC := Lib.hid (fun w => cut_lit (id := 7) (k := 7) OK.cuts rfl w)
  rw [← hfs] at hlen CC
  have e1 : (a : Int) % (m : Int) = i := by omega
  have e2 : (a : Int).tmod (m : Int) = i := by rw [Int.tmod_eq_emod_of_nonneg (by omega)]; omega
  have e3 : (b : Int) % (m : Int) = k := by omega
  have e4 : (b : Int).tmod (m : Int) = k := by rw [Int.tmod_eq_emod_of_nonneg (by omega)]; omega
  have e5 : (r : Int) % 4 = 0 := by omega
  have e6 : (r : Int).tmod 4 = 0 := by rw [Int.tmod_eq_emod_of_nonneg (by omega)]; omega
  have E1 := Lib.hid e1; have E2 := Lib.hid e2; have E3 := Lib.hid e3; have E4 := Lib.hid e4; have E5 := Lib.hid e5; have E6 := Lib.hid e6
  have HK := Lib.hid OK; have HM := Lib.hid hmany; have HL := Lib.hid hlen; have HFS := Lib.hid hfs; have FX' := Lib.hid FX; have HI := Lib.hid him; have HKM := Lib.hid hkm
  have hsm : s.size ≤ 9223372036854775807 := hs
  have M0 := Lib.hid ((Mem.start w).alloc (.cells #[.int .u8 a, .int .u8 b, .int .u8 r] 55))
  clear hs hm hmany hlen hfs OK FX hl0 hi hk hc e1 e2 e3 e4 e5 e6
  go_enter Try.func7, Try.ntmps7
  go_wp2_with fail
  have HW1 := Lib.hid (World.size_alloc w (.cells #[.int .u8 a, .int .u8 b, .int .u8 r] 55))
  generalize w.alloc (.cells #[.int .u8 a, .int .u8 b, .int .u8 r] 55) = W1 at *
  refine (CC.out _).mono ?_
  rintro e w1 ⟨v, rfl, hown, hb1⟩
  rw [HL.out] at hown
  obtain ⟨g, cap, rfl, hcap1, hcap2⟩ := own_head hown (by omega)
  unfold maxLen at hcap2
  have hg := (hown.lt g rfl).1
  rw [HW1.out] at hg
  rw [← HL.out] at hown
  have HF := Lib.hid (fragsAt_own hown)
  rw [HL.out] at hown
  have HO := Lib.hid hown
  have M1 := Lib.hid (M0.out.later hb1)
  clear hown hb1
  have r1 := M1.out.rulesL; simp only [AllCells, CellsAt, Nat.zero_add, Nat.reduceAdd] at r1
  have e1 := E1.out; have e2 := E2.out; have e3 := E3.out; have e4 := E4.out
  go_wp2_with fail
  refine wp_region_later (by kernel_rfl) (by kernel_rfl) ?_
  iterate 14 go_big_quiet_step (fail)
  refine wpQuiet_nil ?_
  rintro ⟨w2, hb2⟩
  change Exit.then _ _ _ _ w2
  have M2 := Lib.hid (M1.out.later hb2)
  have HO2 := Lib.hid (own_later HO.out hb2)
  have HF2 := Lib.hid (HF.out.later hb2)
  clear r1 e1 e2 e3 e4 hb2 M1 HO HF
  have r2 := M2.out.rules; simp only [AllCells, CellsAt, Nat.zero_add, Nat.reduceAdd] at r2
  have e5 := E5.out; have e6 := E6.out
  have q1 : (i : Int) < m := by omega
  have q2 : (k : Int) < m := by omega
  have hil : i < fs.length := by rw [HL.out]; exact HI.out
  have hkl : k < fs.length := by rw [HL.out]; exact HKM.out
  have f0 := HO2.out.frozenAt (i * 4)
  have f1 := HO2.out.frozenAt (i * 4 + 1)
  have f2 := HO2.out.frozenAt (i * 4 + 2)
  have f3 := HO2.out.frozenAt (i * 4 + 3)
  obtain ⟨c0, c1, c2, c3⟩ := HF2.out i hil
  obtain ⟨d0, d1, d2, d3⟩ := HF2.out k hkl
  simp only [Nat.zero_add] at c0 c1 c2 c3 d0 d1 d2 d3
  have hgl : g < w2.heap.size := (HO2.out.lt g rfl).2
  have hgn : g ≠ w2.heap.size := by omega
  rcases hj : Sough.join ((fs.set i (Sough.fragAt fs k)).set k (Sough.fragAt fs i)) with ⟨t, er⟩
  have hans : Sough.SwapAns s1.data.toList (decide (i = k)) t er := by
    refine Sough.swap_two (s := s1.data.toList) (n := n) (i := i) (k := k) HK.out (by rw [HM.out]; exact HI.out) (by rw [HM.out]; exact HKM.out) ?_
    rw [← HFS.out]
    exact hj
  have HJ := Lib.hid hj
  have HA := Lib.hid hans
  obtain ⟨fi, hfi⟩ : ∃ f, f = Sough.fragAt fs i := ⟨_, rfl⟩
  obtain ⟨fk, hfk⟩ : ∃ f, f = Sough.fragAt fs k := ⟨_, rfl⟩
  rw [← hfi] at c0 c1 c2 c3 HJ
  rw [← hfk] at d0 d1 d2 d3 HJ
  have HFK := Lib.hid hfk
  clear hj hans hfi hfk
  have hsz : ((((w2.setCell ⟨g, i * 4, none⟩ (.int .u64 fk.id)).setCell ⟨g, i * 4 + 1, none⟩ (.int .i64 fk.index)).setCell ⟨g, i * 4 + 2, none⟩ (.int .i64 fk.count)).setCell ⟨g, i * 4 + 3, none⟩ (.string ⟨fk.part.toArray⟩)).heap.size = w2.heap.size := by simp [World.setCell]
  have HO3 := own_all HO2.out hil fk
  have M3 := M2.out.skip4 (g := g) (by omega) (by simp; omega) i fk
  have M4 := Lib.hid (M3.alloc (.cells #[.int .u64 fi.id, .int .i64 fi.index, .int .i64 fi.count, .string ⟨fi.part.toArray⟩] 26))
  rw [hsz] at M4
  have HO4 := Lib.hid (HO3.alloc (.cells #[.int .u64 fi.id, .int .i64 fi.index, .int .i64 fi.count, .string ⟨fi.part.toArray⟩] 26))
  have hs4 : (((((w2.setCell ⟨g, i * 4, none⟩ (.int .u64 fk.id)).setCell ⟨g, i * 4 + 1, none⟩ (.int .i64 fk.index)).setCell ⟨g, i * 4 + 2, none⟩ (.int .i64 fk.count)).setCell ⟨g, i * 4 + 3, none⟩ (.string ⟨fk.part.toArray⟩)).alloc (.cells #[.int .u64 fi.id, .int .i64 fi.index, .int .i64 fi.count, .string ⟨fi.part.toArray⟩] 26)).heap.size = w2.heap.size + 1 := by simp [World.setCell]
  have HS4 := Lib.hid hs4
  clear hsz HO3 M3 hs4
  go_upto_region 11 with (fail)
  generalize ((((w2.setCell ⟨g, i * 4, none⟩ (.int .u64 fk.id)).setCell ⟨g, i * 4 + 1, none⟩ (.int .i64 fk.index)).setCell ⟨g, i * 4 + 2, none⟩ (.int .i64 fk.count)).setCell ⟨g, i * 4 + 3, none⟩ (.string ⟨fk.part.toArray⟩)).alloc (.cells #[.int .u64 fi.id, .int .i64 fi.index, .int .i64 fi.count, .string ⟨fi.part.toArray⟩] 26) = W4 at *
  have hs4 := HS4.out
  clear c0 c1 c2 c3 d0 d1 d2 d3 f0 f1 f2 f3 r2
  have hkl4 : k < (fs.set i fk).length := by rw [List.length_set]; exact hkl
  have hF4 : FragsAt W4 g 0 (fs.set i fk) := fragsAt_own (by rw [List.length_set, HL.out]; exact HO4.out)
  have ek : Sough.fragAt (fs.set i fk) k = fk := by
    rw [Sough.fragAt_set _ hil]
    split
    · rfl
    · exact HFK.out.symm
  obtain ⟨d0, d1, d2, d3⟩ := hF4 k hkl4
  rw [ek] at d0 d1 d2 d3
  simp only [Nat.zero_add] at d0 d1 d2 d3
  have f0 := HO4.out.frozenAt (k * 4)
  have f1 := HO4.out.frozenAt (k * 4 + 1)
  have f2 := HO4.out.frozenAt (k * 4 + 2)
  have f3 := HO4.out.frozenAt (k * 4 + 3)
  have r4 := M4.out.rules; simp only [AllCells, CellsAt, Nat.zero_add, Nat.reduceAdd] at r4
  have M3 := Lib.hid (M4.out.skip4 (g := g) (by omega) (by simp; omega) k fi)
  have HO5 := Lib.hid (own_all HO4.out hkl4 fi)
  have HO6 := Lib.hid (show ((((W4.setCell ⟨g, k * 4, none⟩ (.int .u64 fi.id)).setCell ⟨g, k * 4 + 1, none⟩ (.int .i64 fi.index)).setCell ⟨g, k * 4 + 2, none⟩ (.int .i64 fi.count)).setCell ⟨g, k * 4 + 3, none⟩ (.string ⟨fi.part.toArray⟩)).ownsRow W1.heap.size 26 4 (.slice (some ⟨g, 0, none⟩) m cap) ((fs.set i fk).set k fi).length (((fs.set i fk).set k fi).flatMap fragCells) by
    rw [List.length_set, List.length_set, HL.out]
    exact HO5.out)
  clear hF4 ek hkl4 hil hkl hs4
  rcases HA.out with ⟨rfl, hd, rfl⟩ | ⟨rfl, hd, rfl⟩
  · have hik : ((i : Int) == (k : Int)) = true := by have h := of_decide_eq_true hd; simp [h]
    clear hd
    go_wp2_with fail
    refine (join_str HJ.out _ HO6.out).mono ?_; rintro e w4 ⟨rfl, hb4⟩
    have M4 := Lib.hid (M3.out.later hb4)
    clear hb4
    go_wp2_with fail
    refine (FX'.out _).mono ?_; rintro e w5 ⟨rfl, hb⟩
    have M5 := Lib.hid (M4.out.later hb); clear hb M4
    go_wp2_with fail
    go_ret
    exact ⟨by first | rfl | exact ret_true (by simp), M5.out.bel⟩
  · have hik : ((i : Int) == (k : Int)) = false := by simp; have := of_decide_eq_false hd; omega
    clear hd
    go_wp2_with fail
    refine (join_as HJ.out _ HO6.out).mono ?_; rintro e w4 ⟨rfl, hb4⟩
    have M4 := Lib.hid (M3.out.later hb4)
    clear hb4
    go_wp2_with fail
    refine (FX'.out _).mono ?_; rintro e w5 ⟨rfl, hb⟩
    have M5 := Lib.hid (M4.out.later hb); clear hb M4
    go_wp2_with fail
    go_ret
    exact ⟨by first | rfl | exact ret_true (by simp), M5.out.bel⟩

set_option maxRecDepth 100000 in
set_option maxHeartbeats 3200000 in
theorem swaps_few (FX : FixedOk) {s s1 : ByteArray} {sz n a b r : Nat} {v0 : List Sough.Frag} {er : Nat} (h1 : s.extract 0 (min (s.size : Int) 1000).toNat = s1) (hn : (1 : Int) + (sz : Int) = n) (hz : sz < 256)
    (hc : Sough.cut s1.data.toList 7 n = (v0, er)) (hbad : er = 1 ∨ er = 4 ∨ (er = 0 ∧ v0.length = 1)) (hs : s.size ≤ maxLen) (w : World) :
    Calls Try.prog 7 #[.string s, .int .u8 sz, .agg #[.int .u8 a, .int .u8 b, .int .u8 r]] w fun e w' => e = .returned (.bool true) ∧ Below w.heap.size w w' := by
  have hn2 : n ≤ 1000 := by omega
  have CC := Lib.hid (fun w => cut_lit (id := 7) (k := 7) hc rfl w)
  have FX' := Lib.hid FX
  have hsm : s.size ≤ 9223372036854775807 := hs
  have M0 := Lib.hid ((Mem.start w).alloc (.cells #[.int .u8 a, .int .u8 b, .int .u8 r] 55))
  clear hs hc FX
  go_enter Try.func7, Try.ntmps7
  go_wp2_with fail
  generalize w.alloc (.cells #[.int .u8 a, .int .u8 b, .int .u8 r] 55) = W1 at *
  refine (CC.out _).mono ?_
  rintro e w1 ⟨v, rfl, hown, hb1⟩
  obtain ⟨aa, cap, rfl⟩ := own_shape hown
  have M1 := Lib.hid (M0.out.later hb1)
  clear hown hb1 CC M0
  rcases hbad with rfl | rfl | ⟨rfl, hl⟩
  · go_wp2_with fail
    refine (FX'.out _).mono ?_; rintro e w5 ⟨rfl, hb⟩
    have M5 := Lib.hid (M1.out.later hb); clear hb M1
    go_wp2_with fail
    go_ret
    exact ⟨by first | rfl | exact ret_true (by simp), M5.out.bel⟩
  · go_wp2_with fail
    refine (FX'.out _).mono ?_; rintro e w5 ⟨rfl, hb⟩
    have M5 := Lib.hid (M1.out.later hb); clear hb M1
    go_wp2_with fail
    go_ret
    exact ⟨by first | rfl | exact ret_true (by simp), M5.out.bel⟩
  · go_wp2_with fail
    refine (FX'.out _).mono ?_; rintro e w5 ⟨rfl, hb⟩
    have M5 := Lib.hid (M1.out.later hb); clear hb M1
    go_wp2_with fail
    go_ret
    exact ⟨by first | rfl | exact ret_true (by simp), M5.out.bel⟩

theorem splitSwaps_walk (s : ByteArray) (z p q r : Int) (w : World) (hs : s.size ≤ maxLen) (wz : (Lit.int .u8 z).wf = true) (wp : (Lit.int .u8 p).wf = true) (wq : (Lit.int .u8 q).wf = true) (wr : (Lit.int .u8 r).wf = true) :
    Calls Try.prog 7 #[.string s, .int .u8 z, .agg #[.int .u8 p, .int .u8 q, .int .u8 r]] w fun e w' => e = .returned (.bool true) ∧ Below w.heap.size w w' := by
  have b0 := bounds_u8 wz
  have b1 := bounds_u8 wp
  have b2 := bounds_u8 wq
  have b3 := bounds_u8 wr
  obtain ⟨sz, rfl⟩ := Int.eq_ofNat_of_zero_le b0.1
  obtain ⟨a, rfl⟩ := Int.eq_ofNat_of_zero_le b1.1
  obtain ⟨b, rfl⟩ := Int.eq_ofNat_of_zero_le b2.1
  obtain ⟨r, rfl⟩ := Int.eq_ofNat_of_zero_le b3.1
  obtain ⟨s1, h1⟩ : ∃ s1, s.extract 0 (min (s.size : Int) 1000).toNat = s1 := ⟨_, rfl⟩
  have hn : (1 : Int) + (sz : Int) = (1 + sz : Nat) := by omega
  have h6 := (take_size (k := 1000) h1).1
  by_cases h5 : 1 ≤ s1.size
  · have hpos : 1 ≤ pcs s1.size (1 + sz) := Nat.pos_of_ne_zero (fun h => by have := pcs_ge (size := 1 + sz) (k := 0) (L := s1.size) (by omega) (by omega); omega)
    by_cases h16 : pcs s1.size (1 + sz) ≤ 16
    · by_cases h2 : 2 ≤ pcs s1.size (1 + sz)
      · obtain h | h | h | h : r % 4 = 0 ∨ r % 4 = 1 ∨ r % 4 = 2 ∨ r % 4 = 3 := by omega
        · exact swaps_zero fixed_walk h1 hn (by omega) (by omega) (by omega) (by omega) rfl h5 h2 h16 rfl rfl h hs w
        · exact swaps_one fixed_walk h1 hn (by omega) (by omega) (by omega) (by omega) rfl h5 h2 h16 rfl rfl h hs w
        · exact swaps_two fixed_walk h1 hn (by omega) (by omega) (by omega) (by omega) rfl h5 h2 h16 rfl rfl h hs w
        · exact swaps_three fixed_walk h1 hn (by omega) (by omega) (by omega) (by omega) rfl h5 h2 h16 rfl rfl h hs w
      · refine swaps_few fixed_walk h1 hn (by omega) (cut_fine (by omega) (by omega) (by omega) (by omega) h5 (by omega) (by omega)) (.inr (.inr ⟨rfl, ?_⟩)) hs w
        rw [mixed_len]; omega
    · exact swaps_few fixed_walk h1 hn (by omega) (cut_big (by omega) (by omega) (by omega) (by omega) h5 (by omega) (by omega)) (.inr (.inl rfl)) hs w
  · refine swaps_few fixed_walk h1 hn (by omega) (v0 := []) (er := 1) ?_ (.inl rfl) hs w
    unfold Sough.cut
    have e : s1.data.toList.length = s1.size := by simp
    rw [if_pos (by right; right; right; right; left; omega)]

end Go.Proofs.Ytkogjhdcakjpeaa
