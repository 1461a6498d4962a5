/- The walk of the law PoolTwice. -/
import Derived.Test.YtokphknnblpagaaPoMine
import Derived.Test.YtokphknnblpagaaPoLaw
import Derived.Deep.Cut
import Derived.Lib.MinMax
namespace Sough
def TW (s : List UInt8) (n k : Nat) : Pool := ⟨1, 1000, mine 3 (many s.length n) 0 (pp (part s n) (List.range (many s.length n)) k)⟩

section
variable {s : List UInt8} {n k : Nat}
theorem tw_frag (h : CutOk s 3 n) (hk : k < many s.length n) : Frag.ok ⟨3, k, many s.length n, part s n k⟩ := by
  have := h.ok hk; rwa [cut_part hk] at this
theorem tw_ne (hk : 0 < k) (hm : k ≤ many s.length n) : pp (part s n) (List.range (many s.length n)) k ≠ [] := fun e => by
  have := congrArg List.length e
  rw [pp_len (by rw [List.length_range]; exact hm)] at this
  simp at this; omega
theorem tw_len (hm : k ≤ many s.length n) : (pp (part s n) (List.range (many s.length n)) k).length = k := pp_len (by rw [List.length_range]; exact hm)
theorem tw_succ (hk : k < many s.length n) : pp (part s n) (List.range (many s.length n)) (k + 1) = pp (part s n) (List.range (many s.length n)) k ++ [(k, part s n k)] := by
  rw [pp_succ (by rw [List.length_range]; exact hk), List.getElem_range]
theorem tw_no (hk : k < many s.length n) : ((pp (part s n) (List.range (many s.length n)) k).any fun p => p.1 == k) = false := by
  have := pp_has (part := part s n) (Idx.range (many s.length n)) (k := k) (by rw [List.length_range]; exact hk)
  rwa [List.getElem_range] at this
theorem tw_was {j : Nat} (hj : j < k) (hk : k ≤ many s.length n) : ((pp (part s n) (List.range (many s.length n)) k).any fun p => p.1 == j) = true := by
  have := pp_was (part := part s n) (idx := List.range (many s.length n)) hj (by rw [List.length_range]; exact hk)
  rwa [List.getElem_range] at this
theorem tw_room (h : CutOk s 3 n) (hk : k < many s.length n) : psum (pp (part s n) (List.range (many s.length n)) k) + (part s n k).length ≤ s.length := by
  have := pp_sum (part := part s n) (k := k + 1) (Idx.range (many s.length n))
  rw [parts_sum h, tw_succ hk, psum_snoc] at this
  exact this
theorem side_nil {d now : Nat} : Side d now [] := ⟨fun _ h => absurd h (by simp), fun _ h => absurd h (by simp)⟩

theorem tw_next (h : CutOk s 3 n) (hs : s.length ≤ 1000) (hk : k + 1 < many s.length n) : (TW s n k).add ⟨3, k, many s.length n, part s n k⟩ k = (TW s n (k + 1), [], false, 0) := by
  have hroom := tw_room h (show k < many s.length n by omega)
  have hm16 := h.m
  unfold TW
  rw [tw_succ (by omega)]
  rcases Nat.eq_zero_or_pos k with rfl | hp
  · rw [pp_zero, mine_nil]
    rw [pp_zero] at hroom
    exact mine_begin side_nil (tw_frag h (by omega)) (by omega) (by simp) (by simp only [psum, List.map_nil, List.sum_nil] at hroom; simp only [heldOf, List.map_nil, List.sum_nil]; omega)
  · have := mine_put (sl := 1) (rm := 1000) (since := 0) (now := k) (pre := []) (post := []) side_nil side_nil (tw_ne (s := s) (n := n) hp (by omega)) (by omega) (tw_frag h (by omega)) (by omega) (tw_no (k := k) (by omega)) (by rw [tw_len (by omega)]; omega) (by simp only [heldOf, List.map_nil, List.sum_nil]; omega)
    simpa using this
theorem tw_last (h : CutOk s 3 n) (hs : s.length ≤ 1000) (hk : k + 1 = many s.length n) (hp : 0 < k) : (TW s n k).add ⟨3, k, many s.length n, part s n k⟩ 20 = (⟨1, 1000, []⟩, s, true, 0) := by
  have hroom := tw_room h (show k < many s.length n by omega)
  have hm16 := h.m
  have hw := pp_whole (part := part s n) (Idx.range (many s.length n))
  rw [parts_all h] at hw
  have e : pp (part s n) (List.range (many s.length n)) (many s.length n) = pp (part s n) (List.range (many s.length n)) (k + 1) := by rw [hk]
  rw [e, tw_succ (by omega)] at hw
  unfold TW
  have := mine_whole (sl := 1) (rm := 1000) (since := 0) (now := 20) (pre := []) (post := []) (t := s) side_nil side_nil (tw_ne (s := s) (n := n) hp (by omega)) (by omega) (tw_frag h (by omega)) (by omega) (tw_no (k := k) (by omega)) (by rw [tw_len (by omega)]; omega) (by simp only [heldOf, List.map_nil, List.sum_nil]; omega) hw (by omega)
  simpa using this
theorem tw_twice (h : CutOk s 3 n) {j now : Nat} (hj : j < k) (hk : k ≤ many s.length n) (hm : 2 ≤ many s.length n) (hn : now ≤ 50) : (TW s n k).add ⟨3, j, many s.length n, part s n j⟩ now = (TW s n k, [], false, 6) := by
  unfold TW
  have := mine_twice (sl := 1) (rm := 1000) (since := 0) (now := now) (pre := []) (post := []) side_nil side_nil (tw_ne (by omega) hk) (by omega) (tw_frag h (by omega)) hm (tw_was hj hk)
  simpa using this
theorem tw_form (h : CutOk s 3 n) {j now : Nat} (hj : j < k) (hk : k ≤ many s.length n) (hm : 2 ≤ many s.length n) (h16 : many s.length n + 1 ≤ 16) (hn : now ≤ 50) : (TW s n k).add ⟨3, j, (many s.length n : Int) + 1, part s n j⟩ now = (TW s n k, [], false, 3) := by
  unfold TW
  obtain ⟨k1, k2, k3, k4, k5, k6, k7, k8⟩ := tw_frag h (show j < many s.length n by omega)
  have := mine_form (sl := 1) (rm := 1000) (since := 0) (now := now) (pre := []) (post := []) (m := many s.length n) (c := (many s.length n : Int) + 1) (s := part s n j) (j := j) (d := 3) side_nil side_nil (tw_ne (by omega) hk) (by omega) ⟨k1, k2, by show (1 : Int) ≤ _ + 1; omega, by show (_ : Int) + 1 ≤ 16; omega, k5, by show (j : Int) < _ + 1; omega, k7, k8⟩ (by omega) (by omega)
  simpa using this
theorem tw_arg {j now : Nat} (h16 : ¬ many s.length n + 1 ≤ 16) : (TW s n k).add ⟨3, j, (many s.length n : Int) + 1, part s n j⟩ now = (TW s n k, [], false, 1) :=
  add_arg fun hok => by have : ((many s.length n : Int) + 1) ≤ 16 := hok.2.2.2.1; omega
theorem tw_one (hk : 0 < k) (hm : k ≤ many s.length n) : (TW s n k).l.length = 1 := by unfold TW; rw [mine_some (tw_ne hk hm)]; rfl
end
end Sough
namespace Go.Proofs.Ytokphknnblpagaa
open Go.RowKit Go.Maps Go.ChangeMaps Go.Shelf

/-- So many parts have come. -/
def TwiceR (w : World) (p g n : Nat) (s : List UInt8) (fs : List Sough.Frag) (iv : Value) (wr : World) : Prop := ∃ k : Nat, k + 1 ≤ Sough.many s.length n ∧ iv = .int .i64 k ∧ LS w wr p (Sough.TW s n k) [(g, fs)]

theorem take_size {s s1 : ByteArray} {k : Nat} (h1 : s.extract 0 (min (s.size : Int) k).toNat = s1) : s1.size ≤ k ∧ s1.size ≤ s.size := by
  rw [← h1]
  simp only [ByteArray.size_extract]
  omega

theorem frag_count {W : World} {k : Nat} {f : Sough.Frag} {c : Int} (h : FragsAt W k 0 [f]) : FragsAt (W.setCell ⟨k, 2, none⟩ (.int .i64 c)) k 0 [⟨f.id, f.index, c, f.part⟩] := fun i hi => by
  have : i = 0 := by simp at hi; omega
  subst this
  obtain ⟨h0, h1, h2, h3⟩ := h 0 (by simp)
  refine ⟨(World.cell?_setCell_other W _ _ _ (by simp)).trans h0, (World.cell?_setCell_other W _ _ _ (by simp)).trans h1, World.cell?_setCell_same W _ _ h2, (World.cell?_setCell_other W _ _ _ (by simp)).trans h3⟩
theorem cut_cell {W : World} {g id n k m : Nat} {s : List UInt8} {fs : List Sough.Frag} (h : FragsAt W g 0 fs) (hfs : fs = Sough.cutAll s id n) (hm : Sough.many s.length n = m) (hk : k < m) :
    W.cell? ⟨g, k * 4, none⟩ = some (.int .u64 id) ∧ W.cell? ⟨g, k * 4 + 1, none⟩ = some (.int .i64 k) ∧ W.cell? ⟨g, k * 4 + 2, none⟩ = some (.int .i64 m) ∧ W.cell? ⟨g, k * 4 + 3, none⟩ = some (.string ⟨(Sough.part s n k).toArray⟩) := by
  subst hfs hm
  obtain ⟨h0, h1, h2, h3⟩ := h k (by rw [Sough.cutAll_len]; exact hk)
  simp only [Sough.cut_part hk, Nat.zero_add] at h0 h1 h2 h3
  exact ⟨h0, h1, h2, h3⟩
theorem one_cell {W : World} {k : Nat} {f : Sough.Frag} (h : FragsAt W k 0 [f]) : W.cell? ⟨k, 0, none⟩ = some (.int .u64 f.id) ∧ W.cell? ⟨k, 1, none⟩ = some (.int .i64 f.index) ∧ W.cell? ⟨k, 2, none⟩ = some (.int .i64 f.count) ∧ W.cell? ⟨k, 3, none⟩ = some (.string ⟨f.part.toArray⟩) := h 0 (by simp)

set_option maxRecDepth 100000 in
set_option maxHeartbeats 6400000 in
theorem twice_good {s s1 : ByteArray} {sz nn n m : Nat} (h1 : s.extract 0 (min (s.size : Int) 200).toNat = s1) (hn : (1 : Int) + (sz : Int) = n) (hz : sz < 256) (hnn : nn < 256) (OK : Sough.CutOk s1.data.toList 3 n) (hm : Sough.many s1.data.toList.length n = m) (h2 : 2 ≤ m) (hs : s.size ≤ maxLen) (w : World) :
    Calls Try.prog 7 #[.string s, .int .u8 sz, .int .u8 nn] w fun e w' => e = .returned (.bool true) ∧ Below w.heap.size w w' := by
  have h6 := (take_size (k := 200) h1).1
  have hsm : s.size ≤ 9223372036854775807 := hs
  have hm16 : m ≤ 16 := by rw [← hm]; exact OK.m
  obtain ⟨fs, hfs⟩ : ∃ fs, fs = Sough.cutAll s1.data.toList 3 n := ⟨_, rfl⟩
  have hlen : fs.length = m := by rw [hfs, Sough.cutAll_len, hm]
  have CC := Lib.hid (fun w => cut_lit (id := 3) (k := 3) OK.cuts rfl w)
  rw [← hfs] at CC
  have HOK := Lib.hid OK; have HM := Lib.hid hm; have HL := Lib.hid hlen; have HFS := Lib.hid hfs
  have h6' : s1.data.toList.length ≤ 200 := by rw [show s1.data.toList.length = s1.size by simp]; exact h6
  have H6 := Lib.hid h6'
  clear hs OK hm hlen hfs h6' h6
  go_enter Try.func7, Try.ntmps7
  go_wp2_with fail
  refine (CC.out _).mono ?_
  rintro e w1 ⟨v, rfl, hown, hb1⟩
  rw [HL.out] at hown
  obtain ⟨g, cap, rfl, hcap1, hcap2⟩ := own_head hown (by omega)
  unfold maxLen at hcap2
  have HR1 := Lib.hid (RowIn.own (w := w) (W := w1) hown HL.out)
  have HB1 := Lib.hid hb1
  clear hown hb1 CC
  go_wp2_with fail
  refine (new_rows (slots := 1) (room := 1000) (R := [(g, fs)]) HB1.out (fun x hx => by simp only [List.mem_singleton] at hx; subst hx; exact HR1.out) (by decide) (by decide) (by decide) (by decide)).mono ?_
  rintro e w2 ⟨p, rfl, hL⟩
  have L2 := Lib.hid hL; clear hL HR1 HB1
  go_wp2_with fail
  go_loopw [11] (fun iv wr => TwiceR w p g n s1.data.toList fs iv wr) (fun iv _ => m - (intOf iv).toNat)
  case atStart => exact ⟨0, by rw [HM.out]; omega, rfl, L2.out⟩
  case round =>
    obtain ⟨k, hk, rfl, hL⟩ := hrel
    rw [HM.out] at hk
    have L3 := Lib.hid hL
    have ck := cut_cell (k := k) (hL.rows (g, fs) (by simp)).1 HFS.out HM.out (by omega)
    clear hL
    by_cases hlt : k + 1 < m
    · obtain ⟨j, hj⟩ : ∃ j, nn % (k + 1) = j := ⟨_, rfl⟩
      have hjk : j < k + 1 := by rw [← hj]; exact Nat.mod_lt _ (by omega)
      have e1 : (nn : Int) % ((k : Int) + 1) = j := by rw [← hj]; norm_cast
      have e2 : (nn : Int).tmod ((k : Int) + 1) = j := by rw [Int.tmod_eq_emod_of_nonneg (by omega)]; omega
      have E1 := Lib.hid e1; have E2 := Lib.hid e2
      have cj := cut_cell (k := j) (L3.out.rows (g, fs) (by simp)).1 HFS.out HM.out (by omega)
      have N1 := Lib.hid (Sough.tw_next (k := k) HOK.out (by have := H6.out; omega) (by rw [HM.out]; exact hlt))
      have N2 := Lib.hid (Sough.tw_twice (k := k + 1) (j := j) (now := k) HOK.out hjk (by rw [HM.out]; omega) (by rw [HM.out]; exact h2) (by omega))
      have N3 := Lib.hid (Sough.tw_one (s := s1.data.toList) (n := n) (k := k + 1) (by omega) (by rw [HM.out]; omega))
      obtain ⟨er, her, n4⟩ : ∃ er : Nat, ((m + 1 ≤ 16 ∧ er = 3) ∨ (16 < m + 1 ∧ er = 1)) ∧ (Sough.TW s1.data.toList n (k + 1)).add ⟨3, j, (m : Int) + 1, Sough.part s1.data.toList n j⟩ k = (Sough.TW s1.data.toList n (k + 1), [], false, er) := by
        by_cases h16 : m + 1 ≤ 16
        · have := Sough.tw_form (k := k + 1) (j := j) (now := k) HOK.out hjk (by rw [HM.out]; omega) (by rw [HM.out]; exact h2) (by rw [HM.out]; exact h16) (by omega)
          rw [HM.out] at this
          exact ⟨3, .inl ⟨h16, rfl⟩, this⟩
        · have := Sough.tw_arg (s := s1.data.toList) (n := n) (k := k + 1) (j := j) (now := k) (by rw [HM.out]; exact h16)
          rw [HM.out] at this
          exact ⟨1, .inr ⟨by omega, rfl⟩, this⟩
      have N4 := Lib.hid n4; have HER := Lib.hid her
      clear n4 her
      rw [HM.out] at N1 N2
      clear e1 e2 hj
      go_wp2_with fail
      refine (add_at (f := ⟨3, k, m, Sough.part s1.data.toList n k⟩) (now := k) (id := 3) L3.out N1.out (by omega) rfl (by omega)).mono ?_
      rintro e w4 ⟨rfl, hL⟩
      have L4 := Lib.hid hL; clear hL L3 ck cj
      simp only at L4 ⊢
      go_wp2_with fail
      obtain ⟨hb, hhb⟩ : ∃ b, (Sough.TW s1.data.toList n (k + 1)).held = b := ⟨_, rfl⟩
      refine (held_at L4.out N3.out hhb).mono ?_
      rintro e w5 ⟨rfl, hL⟩
      have L5 := Lib.hid hL; clear hL L4
      have HHB := Lib.hid hhb
      have cj := cut_cell (k := j) (L5.out.rows (g, fs) (by simp)).1 HFS.out HM.out (by omega)
      have L6 := Lib.hid (L5.out.box (f := ⟨3, j, m, Sough.part s1.data.toList n j⟩) (T := 35))
      have e1 := E1.out; have e2 := E2.out
      clear hhb
      go_wp2_with fail
      clear e1 e2
      obtain ⟨bx, hbx⟩ : ∃ bx, bx = w5.heap.size := ⟨_, rfl⟩
      refine (add_at (f := ⟨3, j, m, Sough.part s1.data.toList n j⟩) (now := k) (id := 3) L6.out N2.out (by omega) rfl (by omega)).mono ?_
      rintro e w7 ⟨rfl, hL⟩
      have hgb : g ≠ bx := by have := (L5.out.rows (g, fs) (by simp)).2.1; omega
      rw [← hbx] at hL ⊢
      have L7 := Lib.hid hL; clear hL L6 L5 cj hbx
      simp only at L7 ⊢
      have hbr := L7.out.rows (bx, [⟨3, j, m, Sough.part s1.data.toList n j⟩]) (by simp)
      have cb := one_cell hbr.1
      have fb := hbr.2.2.2 2
      have L8 := Lib.hid (L7.out.store (v := .int .i64 ((m : Int) + 1)) (fun x hx => by simp only [List.mem_singleton] at hx; subst hx; exact hgb) (frag_count (c := (m : Int) + 1) hbr.1))
      simp only at cb
      clear hbr
      go_wp2_with fail
      clear cb fb L7
      generalize w7.setCell ⟨bx, 2, none⟩ (.int .i64 ((m : Int) + 1)) = w8 at *
      refine (add_at (f := ⟨3, j, (m : Int) + 1, Sough.part s1.data.toList n j⟩) (now := k) (id := 3) L8.out N4.out (by omega) rfl (by omega)).mono ?_
      rintro e w9 ⟨rfl, hL⟩
      have L9 := Lib.hid hL; clear hL L8
      simp only at L9 ⊢
      go_wp2_with fail
      refine (held_at L9.out N3.out HHB.out).mono ?_
      rintro e w10 ⟨rfl, hL⟩
      have L10 := Lib.hid hL; clear hL L9
      have cb := one_cell (L10.out.rows (bx, [⟨3, j, (m : Int) + 1, Sough.part s1.data.toList n j⟩]) (by simp)).1
      simp only at cb
      have HNX : Hid (TwiceR w p g n s1.data.toList fs (.int .i64 (k + 1 : Nat)) w10) := Lib.hid ⟨k + 1, by rw [HM.out]; omega, rfl, L10.out.sub (fun x hx => List.mem_cons_of_mem _ hx)⟩
      rcases HER.out with ⟨h16, rfl⟩ | ⟨h16, rfl⟩
      · go_wp2_with fail
        go_roundw
        case rel => exact HNX.out
        case measure => simp [intOf]; omega
      · go_wp2_with fail
        go_roundw
        case rel => exact HNX.out
        case measure => simp [intOf]; omega
    · have hkm : k + 1 = m := by omega
      have N1 := Lib.hid (Sough.tw_last (k := k) HOK.out (by have := H6.out; omega) (by rw [HM.out]; exact hkm) (by omega))
      rw [HM.out] at N1
      obtain rfl : m = k + 1 := by omega
      clear hlt
      go_wp2_with fail
      refine (add_at (f := ⟨3, k, (k + 1 : Nat), Sough.part s1.data.toList n k⟩) (now := 20) (id := 3) L3.out N1.out (by omega) rfl (by omega)).mono ?_
      rintro e w4 ⟨rfl, hL⟩
      have L4 := Lib.hid hL; clear hL L3 ck
      simp only at L4 ⊢
      have est : (⟨s1.data.toList.toArray⟩ : ByteArray) = s1 := bytes_toArray s1
      rw [est]
      clear est
      go_wp2_with fail
      refine (fixed_walk _).mono ?_
      rintro e w5 ⟨rfl, hb⟩
      go_wp2_with fail
      go_ret
      exact ⟨by first | rfl | exact ret_true (by simp), L4.out.bel.trans (hb.mono L4.out.bel.size)⟩

set_option maxRecDepth 100000 in
set_option maxHeartbeats 3200000 in
theorem twice_few {s s1 : ByteArray} {sz nn n er : Nat} {v0 : List Sough.Frag} (h1 : s.extract 0 (min (s.size : Int) 200).toNat = s1) (hn : (1 : Int) + (sz : Int) = n) (hz : sz < 256) (hc : Sough.cut s1.data.toList 3 n = (v0, er)) (hbad : er = 1 ∨ er = 4 ∨ (er = 0 ∧ v0.length = 1)) (hs : s.size ≤ maxLen) (w : World) :
    Calls Try.prog 7 #[.string s, .int .u8 sz, .int .u8 nn] w fun e w' => e = .returned (.bool true) ∧ Below w.heap.size w w' := by
  have CC := Lib.hid (fun w => cut_lit (id := 3) (k := 3) hc rfl w)
  have hsm : s.size ≤ 9223372036854775807 := hs
  clear hs hc
  go_enter Try.func7, Try.ntmps7
  go_wp2_with fail
  refine (CC.out _).mono ?_
  rintro e w1 ⟨v, rfl, hown, hb1⟩
  obtain ⟨aa, cap, rfl⟩ := own_shape hown
  have HB1 := Lib.hid hb1
  clear hown hb1 CC
  go_wp2_with fail
  refine (new_ls (slots := 1) (room := 1000) HB1.out (by decide) (by decide) (by decide) (by decide)).mono ?_
  rintro e w2 ⟨p, rfl, hL⟩
  have L2 := Lib.hid hL; clear hL HB1
  rcases hbad with rfl | rfl | ⟨rfl, hl⟩
  all_goals
    go_wp2_with fail
    refine (fixed_walk _).mono ?_
    rintro e w5 ⟨rfl, hb⟩
    go_wp2_with fail
    go_ret
    exact ⟨by first | rfl | exact ret_true (by simp), L2.out.bel.trans (hb.mono L2.out.bel.size)⟩

theorem poolTwice_walk (s : ByteArray) (a1 a2 : Int) (w : World) (hs : s.size ≤ maxLen) (w1 : (Lit.int .u8 a1).wf = true) (w2 : (Lit.int .u8 a2).wf = true) :
    Calls Try.prog 7 #[.string s, .int .u8 a1, .int .u8 a2] w fun e w' => e = .returned (.bool true) ∧ Below w.heap.size w w' := by
  have b1 := bounds_u8 w1
  have b2 := bounds_u8 w2
  obtain ⟨sz, rfl⟩ := Int.eq_ofNat_of_zero_le b1.1
  obtain ⟨nn, rfl⟩ := Int.eq_ofNat_of_zero_le b2.1
  obtain ⟨s1, h1⟩ : ∃ s1, s.extract 0 (min (s.size : Int) 200).toNat = s1 := ⟨_, rfl⟩
  have hn : (1 : Int) + (sz : Int) = (1 + sz : Nat) := by omega
  have h6 := (take_size (k := 200) h1).1
  have hl : s1.data.toList.length = s1.size := by simp
  by_cases h5 : 1 ≤ s1.size
  · by_cases h16 : Sough.many s1.data.toList.length (1 + sz) ≤ 16
    · have OK : Sough.CutOk s1.data.toList 3 (1 + sz) := ⟨by omega, by omega, by omega, by omega, by omega, by omega, h16⟩
      by_cases h2 : 2 ≤ Sough.many s1.data.toList.length (1 + sz)
      · exact twice_good h1 hn (by omega) (by omega) OK rfl h2 hs w
      · refine twice_few h1 hn (by omega) OK.cuts (.inr (.inr ⟨rfl, ?_⟩)) hs w
        rw [Sough.cutAll_len]
        have := OK.pos
        omega
    · refine twice_few h1 hn (by omega) (v0 := []) (er := 4) ?_ (.inr (.inl rfl)) hs w
      unfold Sough.cut
      rw [if_neg (by omega), if_pos (by rw [Int.toNat_natCast]; omega)]
  · refine twice_few h1 hn (by omega) (v0 := []) (er := 1) ?_ (.inl rfl) hs w
    unfold Sough.cut
    rw [if_pos (by right; right; right; right; left; omega)]

end Go.Proofs.Ytokphknnblpagaa
