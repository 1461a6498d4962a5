/- The walk of the law PoolApart. -/
import Derived.Test.YtokphknnblpagaaPoTwice
namespace Sough
def cur (d : Nat) (s : List UInt8) (n k : Nat) : List PMsg := if k < many s.length n then mine d (many s.length n) 9 (pp (part s n) (List.range (many s.length n)) k) else []
def AP (s t : List UInt8) (n i j : Nat) : Pool := ⟨2, 400, cur 3 s n i ++ cur 4 t n j⟩

section
variable {s t : List UInt8} {n k d d' : Nat}
theorem cur_zero : cur d s n 0 = [] := by
  unfold cur; split
  · rw [pp_zero, mine_nil]
  · rfl
theorem cur_end (h : many s.length n ≤ k) : cur d s n k = [] := by unfold cur; rw [if_neg (by omega)]
theorem cur_mid (h : k < many s.length n) : cur d s n k = mine d (many s.length n) 9 (pp (part s n) (List.range (many s.length n)) k) := if_pos h
theorem mine_side {m : Nat} {ps : List (Nat × List UInt8)} (hd : d ≠ d') : Side d' 9 (mine d m 9 ps) := by
  unfold mine; split
  · exact side_nil
  · exact ⟨fun x hx => by simp only [List.mem_singleton] at hx; subst hx; exact hd, fun x hx => by simp only [List.mem_singleton] at hx; subst hx; simp [PMsg.old]⟩
theorem cur_side (hd : d ≠ d') : Side d' 9 (cur d s n k) := by
  unfold cur; split
  · exact mine_side hd
  · exact side_nil
theorem room {id : Nat} (h : CutOk s id n) (hk : k < many s.length n) : psum (pp (part s n) (List.range (many s.length n)) k) + (part s n k).length ≤ s.length := by
  have := pp_sum (part := part s n) (k := k + 1) (Idx.range (many s.length n))
  rw [parts_sum h, tw_succ hk, psum_snoc] at this
  exact this
theorem cur_held {id : Nat} (h : CutOk s id n) : heldOf (cur d s n k) ≤ s.length := by
  unfold cur; split
  · rw [mine_held]
    have := pp_sum (part := part s n) (k := k) (Idx.range (many s.length n))
    rwa [parts_sum h] at this
  · simp [heldOf]
theorem cur_len : (cur d s n k).length ≤ 1 := by
  unfold cur mine; split
  · split <;> simp
  · simp
theorem frag_ok {id : Nat} (h : CutOk s id n) (hk : k < many s.length n) : Frag.ok ⟨id, k, many s.length n, part s n k⟩ := by
  have := h.ok hk; rwa [cut_part hk] at this

/-- One part more of one of two messages. -/
theorem cur_add {pre post : List PMsg} {id : Nat} (h : CutOk s id n) (hk : k < many s.length n) (h1 : Side id 9 pre) (h2 : Side id 9 post) (h0 : k = 0 → post = []) (hl : pre.length ≤ 1) (hr : heldOf pre + heldOf post + s.length ≤ 400) (hs : s.length ≤ 4096) :
    (Pool.mk 2 400 (pre ++ cur id s n k ++ post)).add ⟨id, k, many s.length n, part s n k⟩ 9 = (⟨2, 400, pre ++ cur id s n (k + 1) ++ post⟩, if k + 1 = many s.length n then s else [], decide (k + 1 = many s.length n), 0) := by
  have hroom := room h hk
  rw [cur_mid hk]
  rcases Nat.lt_or_ge (k + 1) (many s.length n) with hlt | hge
  · rw [if_neg (by omega), decide_eq_false (by omega), cur_mid hlt, tw_succ hk]
    rcases Nat.eq_zero_or_pos k with rfl | hp
    · rw [pp_zero, mine_nil, h0 rfl, List.append_nil, List.append_nil, List.append_nil]
      exact mine_begin h1 (frag_ok h (by omega)) (by omega) (by omega) (by omega)
    · exact mine_put h1 h2 (tw_ne (s := s) (n := n) hp (by omega)) (by omega) (frag_ok h hk) (by omega) (tw_no (by omega)) (by rw [tw_len (by omega)]; omega) (by omega)
  · have e : k + 1 = many s.length n := by omega
    rw [if_pos e, decide_eq_true e, cur_end (by omega), List.append_nil]
    rcases Nat.eq_zero_or_pos k with rfl | hp
    · -- the only part
      rw [pp_zero, mine_nil, List.append_nil]
      have hp0 : part s n 0 = s := by
        have := parts_all h
        rw [← e] at this
        simpa using this
      have hk1 : (Pool.mk 2 400 (pre ++ post)).expire 9 = ⟨2, 400, pre ++ post⟩ := by unfold Pool.expire; simp only [List.filter_append, h1.keep, h2.keep]
      have := add_single (q := ⟨2, 400, pre ++ post⟩) (d := id) (s := part s n 0) (now := 9) (by have := frag_ok h hk; rw [← e] at this; exact this) hk1
      rw [hp0] at this ⊢
      rw [← e]
      exact this
    · have hw := pp_whole (part := part s n) (Idx.range (many s.length n))
      rw [parts_all h] at hw
      have e' : pp (part s n) (List.range (many s.length n)) (many s.length n) = pp (part s n) (List.range (many s.length n)) (k + 1) := by rw [e]
      rw [e', tw_succ (by omega)] at hw
      exact mine_whole h1 h2 (tw_ne (s := s) (n := n) hp (by omega)) (by omega) (frag_ok h hk) (by omega) (tw_no (by omega)) (by rw [tw_len (by omega)]; omega) (by omega) hw hs

theorem ap_a (h : CutOk s 3 n) (ht : CutOk t 4 n) (hk : k < many s.length n) (hs : s.length ≤ 200) (hl : t.length ≤ 200) :
    (AP s t n k k).add ⟨3, k, many s.length n, part s n k⟩ 9 = (AP s t n (k + 1) k, if k + 1 = many s.length n then s else [], decide (k + 1 = many s.length n), 0) := by
  have hh := cur_held (d := 4) (k := k) ht
  have := cur_add (pre := []) (post := cur 4 t n k) h hk side_nil (cur_side (by decide)) (fun e => by rw [e]; exact cur_zero) (by simp) (by simp only [heldOf, List.map_nil, List.sum_nil] at hh ⊢; omega) (by omega)
  simpa [AP] using this
theorem ap_b {i : Nat} (h : CutOk s 3 n) (ht : CutOk t 4 n) (hk : k < many t.length n) (hs : s.length ≤ 200) (hl : t.length ≤ 200) :
    (AP s t n i k).add ⟨4, k, many t.length n, part t n k⟩ 9 = (AP s t n i (k + 1), if k + 1 = many t.length n then t else [], decide (k + 1 = many t.length n), 0) := by
  have hh := cur_held (d := 3) (k := i) h
  have := cur_add (pre := cur 3 s n i) (post := []) ht hk (cur_side (by decide)) side_nil (fun _ => rfl) cur_len (by simp only [heldOf, List.map_nil, List.sum_nil] at hh ⊢; omega) (by omega)
  simpa [AP] using this
theorem ap_one {i j : Nat} : (AP s t n i j).add ⟨3, 0, 1, [120]⟩ 9 = (AP s t n i j, [120], true, 0) := by
  refine add_single (by decide) ?_
  have h1 : Side 5 9 (cur 3 s n i) := cur_side (by decide)
  have h2 : Side 5 9 (cur 4 t n j) := cur_side (by decide)
  unfold Pool.expire AP
  simp only [List.filter_append, h1.keep, h2.keep]
theorem ap_skip_a {i j : Nat} (h : many s.length n ≤ i) : AP s t n (i + 1) j = AP s t n i j := by unfold AP; rw [cur_end h, cur_end (by omega)]
theorem ap_skip_b {i j : Nat} (h : many t.length n ≤ j) : AP s t n i (j + 1) = AP s t n i j := by unfold AP; rw [cur_end h, cur_end (k := j + 1) (by omega)]
theorem ap_end {k : Nat} (h : many s.length n ≤ k) (h' : many t.length n ≤ k) : AP s t n k k = ⟨2, 400, []⟩ := by unfold AP; rw [cur_end h, cur_end h']; rfl
theorem ap_start : AP s t n 0 0 = ⟨2, 400, []⟩ := by unfold AP; rw [cur_zero, cur_zero]; rfl
end
end Sough
namespace Go.Proofs.Ytokphknnblpagaa
open Go.RowKit Go.Maps Go.ChangeMaps Go.Shelf

/-- So many parts of each have come. -/
def ApartR (w : World) (p ga gb n ma mb : Nat) (s t : List UInt8) (fa fb : List Sough.Frag) (iv : Value) (wr : World) : Prop := ∃ k : Nat, (k ≤ ma ∨ k ≤ mb) ∧ iv = .int .i64 k ∧ LS w wr p (Sough.AP s t n k k) [(ga, fa), (gb, fb)]


set_option maxRecDepth 100000 in
set_option maxHeartbeats 6400000 in
theorem apart_good {s s1 t t1 : ByteArray} {sz n ma mb : Nat} (h1 : s.extract 0 (min (s.size : Int) 200).toNat = s1) (h1' : t.extract 0 (min (t.size : Int) 200).toNat = t1) (hn : (13 : Int) + (sz : Int) = n) (hz : sz < 256) (OKA : Sough.CutOk s1.data.toList 3 n) (OKB : Sough.CutOk t1.data.toList 4 n) (hma : Sough.many s1.data.toList.length n = ma) (hmb : Sough.many t1.data.toList.length n = mb) (hs : s.size ≤ maxLen) (ht : t.size ≤ maxLen) (w : World) :
    Calls Try.prog 8 #[.string s, .string t, .int .u8 sz] w fun e w' => e = .returned (.bool true) ∧ Below w.heap.size w w' := by
  have h6 := (take_size (k := 200) h1).1
  have h7 := (take_size (k := 200) h1').1
  have hsm : s.size ≤ 9223372036854775807 := hs
  have htm : t.size ≤ 9223372036854775807 := ht
  have ha16 : ma ≤ 16 := by rw [← hma]; exact OKA.m
  have hb16 : mb ≤ 16 := by rw [← hmb]; exact OKB.m
  have ha0 : 1 ≤ ma := by rw [← hma]; exact OKA.pos
  have hb0 : 1 ≤ mb := by rw [← hmb]; exact OKB.pos
  obtain ⟨fa, hfa⟩ : ∃ fs, fs = Sough.cutAll s1.data.toList 3 n := ⟨_, rfl⟩
  obtain ⟨fb, hfb⟩ : ∃ fs, fs = Sough.cutAll t1.data.toList 4 n := ⟨_, rfl⟩
  have hlena : fa.length = ma := by rw [hfa, Sough.cutAll_len, hma]
  have hlenb : fb.length = mb := by rw [hfb, Sough.cutAll_len, hmb]
  have CA := Lib.hid (fun w => cut_lit (id := 3) (k := 3) OKA.cuts rfl w)
  have CB := Lib.hid (fun w => cut_lit (id := 4) (k := 4) OKB.cuts rfl w)
  rw [← hfa] at CA
  rw [← hfb] at CB
  have HOKA := Lib.hid OKA; have HMA := Lib.hid hma; have HA := Lib.hid hlena; have HFA := Lib.hid hfa
  have HOKB := Lib.hid OKB; have HMB := Lib.hid hmb; have HB := Lib.hid hlenb; have HFB := Lib.hid hfb
  have hla : s1.data.toList.length ≤ 200 := by rw [show s1.data.toList.length = s1.size by simp]; exact h6
  have hlb : t1.data.toList.length ≤ 200 := by rw [show t1.data.toList.length = t1.size by simp]; exact h7
  have HLA := Lib.hid hla; have HLB := Lib.hid hlb
  clear hs ht OKA OKB hma hmb hlena hlenb hfa hfb hla hlb h6 h7
  go_enter Try.func8, Try.ntmps8
  go_wp2_with fail
  refine (CA.out _).mono ?_
  rintro e w1 ⟨v, rfl, hown, hb1⟩
  rw [HA.out] at hown
  obtain ⟨ga, capa, rfl, _, hcapa⟩ := own_head hown (by omega)
  unfold maxLen at hcapa
  have HR1 := Lib.hid (RowIn.own (w := w) (W := w1) hown HA.out)
  have HB1 := Lib.hid hb1
  clear hown hb1 CA
  go_wp2_with fail
  refine (CB.out _).mono ?_
  rintro e w2 ⟨v, rfl, hown, hb2⟩
  rw [HB.out] at hown
  obtain ⟨gb, capb, rfl, _, hcapb⟩ := own_head hown (by omega)
  unfold maxLen at hcapb
  have HR2 : Hid (RowIn w w2 (gb, fb)) := by
    have h := RowIn.own (w := w1) (W := w2) hown HB.out
    exact Lib.hid ⟨h.1, h.2.1, Nat.le_trans HB1.out.size h.2.2.1, h.2.2.2⟩
  have HR1' := Lib.hid (HR1.out.same (hb2.block _ HR1.out.2.1) hb2.size)
  have HB2 := Lib.hid (HB1.out.trans (hb2.mono HB1.out.size))
  clear hown hb2 CB HR1 HB1
  go_wp2_with fail
  refine (new_rows (slots := 2) (room := 400) (R := [(ga, fa), (gb, fb)]) HB2.out (fun x hx => by
    simp only [List.mem_cons, List.not_mem_nil, or_false] at hx
    rcases hx with rfl | rfl
    · exact HR1'.out
    · exact HR2.out) (by decide) (by decide) (by decide) (by decide)).mono ?_
  rintro e w3 ⟨p, rfl, hL⟩
  have L2 := Lib.hid hL; clear hL HR1' HR2 HB2
  go_wp2_with fail
  go_loopw [13] (fun iv wr => ApartR w p ga gb n ma mb s1.data.toList t1.data.toList fa fb iv wr) (fun iv _ => 16 - (intOf iv).toNat)
  case atStart => exact ⟨0, by omega, rfl, by rw [Sough.ap_start]; exact L2.out⟩
  case round =>
    obtain ⟨k, hk, rfl, hL⟩ := hrel
    have L3 := Lib.hid hL
    clear hL
    by_cases hlt : k < ma ∨ k < mb
    · by_cases ha : k < ma
      · have ck := cut_cell (k := k) (L3.out.rows (ga, fa) (by simp)).1 HFA.out HMA.out ha
        have na := Sough.ap_a (s := s1.data.toList) (t := t1.data.toList) (n := n) (k := k) HOKA.out HOKB.out (by rw [HMA.out]; exact ha) HLA.out HLB.out
        rw [HMA.out] at na
        by_cases hal : k + 1 = ma
        · rw [if_pos hal, decide_eq_true hal] at na
          have NA := Lib.hid na
          have hal' : ((k : Int) == (ma : Int) - 1) = true := by simp; omega
          clear na
          go_wp2_with fail
          refine (add_at (f := ⟨3, k, ma, Sough.part s1.data.toList n k⟩) (now := 9) (id := 3) L3.out NA.out (by omega) rfl (by omega)).mono ?_
          rintro e w3a ⟨rfl, hL⟩
          have L3a := Lib.hid hL; clear hL L3 ck
          simp only at L3a ⊢
          rw [bytes_toArray]
          clear hlt
          go_wp2_with fail
          refine (add_at (f := ⟨3, 0, 1, [120]⟩) (now := 9) (id := 3) L3a.out Sough.ap_one (by omega) rfl (by omega)).mono ?_
          rintro e w4 ⟨rfl, hL⟩
          have L4 := Lib.hid hL; clear hL L3a
          simp only at L4 ⊢
          clear hal'
          by_cases hb : k < mb
          · have _t := hb
            have nb := Sough.ap_b (s := s1.data.toList) (t := t1.data.toList) (n := n) (k := k) (i := k + 1) HOKA.out HOKB.out (by rw [HMB.out]; exact hb) (by have := HLA.out; omega) (by have := HLB.out; omega)
            rw [HMB.out] at nb
            by_cases hbl : k + 1 = mb
            · rw [if_pos hbl, decide_eq_true hbl] at nb
              have NB := Lib.hid nb
              clear nb
              have cb := cut_cell (k := k) (L4.out.rows (gb, fb) (by simp)).1 HFB.out HMB.out (by omega)
              go_wp2_with fail
              refine (add_at (f := ⟨4, k, mb, Sough.part t1.data.toList n k⟩) (now := 9) (id := 4) L4.out NB.out (by omega) rfl (by omega)).mono ?_
              rintro e w5 ⟨rfl, hL⟩
              have L5 := Lib.hid hL; clear hL L4 cb
              simp only at L5 ⊢
              rw [bytes_toArray]
              have HNX : Hid (ApartR w p ga gb n ma mb s1.data.toList t1.data.toList fa fb (.int .i64 (k + 1 : Nat)) w5) := Lib.hid ⟨k + 1, by omega, rfl, L5.out⟩
              have hbl' : ((k : Int) == (mb : Int) - 1) = true := by simp; omega
              clear hbl
              go_wp2_with fail
              go_roundw
              case rel => exact HNX.out
              case measure => simp [intOf]; omega
            · rw [if_neg hbl, decide_eq_false hbl] at nb
              have NB := Lib.hid nb
              clear nb
              have cb := cut_cell (k := k) (L4.out.rows (gb, fb) (by simp)).1 HFB.out HMB.out (by omega)
              go_wp2_with fail
              refine (add_at (f := ⟨4, k, mb, Sough.part t1.data.toList n k⟩) (now := 9) (id := 4) L4.out NB.out (by omega) rfl (by omega)).mono ?_
              rintro e w5 ⟨rfl, hL⟩
              have L5 := Lib.hid hL; clear hL L4 cb
              simp only at L5 ⊢
              have HNX : Hid (ApartR w p ga gb n ma mb s1.data.toList t1.data.toList fa fb (.int .i64 (k + 1 : Nat)) w5) := Lib.hid ⟨k + 1, by omega, rfl, L5.out⟩
              have hbl' : ((k : Int) == (mb : Int) - 1) = false := by simp; omega
              clear hbl
              go_wp2_with fail
              go_roundw
              case rel => exact HNX.out
              case measure => simp [intOf]; omega
          · have HNX0 := Lib.hid (Sough.ap_skip_b (s := s1.data.toList) (t := t1.data.toList) (n := n) (i := k + 1) (j := k) (by rw [HMB.out]; omega))
            go_wp2_with fail
            have HNX : Hid (ApartR w p ga gb n ma mb s1.data.toList t1.data.toList fa fb (.int .i64 (k + 1 : Nat)) w4) := Lib.hid ⟨k + 1, by omega, rfl, by rw [HNX0.out]; exact L4.out⟩
            go_roundw
            case rel => exact HNX.out
            case measure => simp [intOf]; omega
        · rw [if_neg hal, decide_eq_false hal] at na
          have NA := Lib.hid na
          have hal' : ((k : Int) == (ma : Int) - 1) = false := by simp; omega
          clear na
          go_wp2_with fail
          refine (add_at (f := ⟨3, k, ma, Sough.part s1.data.toList n k⟩) (now := 9) (id := 3) L3.out NA.out (by omega) rfl (by omega)).mono ?_
          rintro e w3a ⟨rfl, hL⟩
          have L3a := Lib.hid hL; clear hL L3 ck
          simp only at L3a ⊢
          clear hlt
          go_wp2_with fail
          refine (add_at (f := ⟨3, 0, 1, [120]⟩) (now := 9) (id := 3) L3a.out Sough.ap_one (by omega) rfl (by omega)).mono ?_
          rintro e w4 ⟨rfl, hL⟩
          have L4 := Lib.hid hL; clear hL L3a
          simp only at L4 ⊢
          clear hal'
          by_cases hb : k < mb
          · have _t := hb
            have nb := Sough.ap_b (s := s1.data.toList) (t := t1.data.toList) (n := n) (k := k) (i := k + 1) HOKA.out HOKB.out (by rw [HMB.out]; exact hb) (by have := HLA.out; omega) (by have := HLB.out; omega)
            rw [HMB.out] at nb
            by_cases hbl : k + 1 = mb
            · rw [if_pos hbl, decide_eq_true hbl] at nb
              have NB := Lib.hid nb
              clear nb
              have cb := cut_cell (k := k) (L4.out.rows (gb, fb) (by simp)).1 HFB.out HMB.out (by omega)
              go_wp2_with fail
              refine (add_at (f := ⟨4, k, mb, Sough.part t1.data.toList n k⟩) (now := 9) (id := 4) L4.out NB.out (by omega) rfl (by omega)).mono ?_
              rintro e w5 ⟨rfl, hL⟩
              have L5 := Lib.hid hL; clear hL L4 cb
              simp only at L5 ⊢
              rw [bytes_toArray]
              have HNX : Hid (ApartR w p ga gb n ma mb s1.data.toList t1.data.toList fa fb (.int .i64 (k + 1 : Nat)) w5) := Lib.hid ⟨k + 1, by omega, rfl, L5.out⟩
              have hbl' : ((k : Int) == (mb : Int) - 1) = true := by simp; omega
              clear hbl
              go_wp2_with fail
              go_roundw
              case rel => exact HNX.out
              case measure => simp [intOf]; omega
            · rw [if_neg hbl, decide_eq_false hbl] at nb
              have NB := Lib.hid nb
              clear nb
              have cb := cut_cell (k := k) (L4.out.rows (gb, fb) (by simp)).1 HFB.out HMB.out (by omega)
              go_wp2_with fail
              refine (add_at (f := ⟨4, k, mb, Sough.part t1.data.toList n k⟩) (now := 9) (id := 4) L4.out NB.out (by omega) rfl (by omega)).mono ?_
              rintro e w5 ⟨rfl, hL⟩
              have L5 := Lib.hid hL; clear hL L4 cb
              simp only at L5 ⊢
              have HNX : Hid (ApartR w p ga gb n ma mb s1.data.toList t1.data.toList fa fb (.int .i64 (k + 1 : Nat)) w5) := Lib.hid ⟨k + 1, by omega, rfl, L5.out⟩
              have hbl' : ((k : Int) == (mb : Int) - 1) = false := by simp; omega
              clear hbl
              go_wp2_with fail
              go_roundw
              case rel => exact HNX.out
              case measure => simp [intOf]; omega
          · have HNX0 := Lib.hid (Sough.ap_skip_b (s := s1.data.toList) (t := t1.data.toList) (n := n) (i := k + 1) (j := k) (by rw [HMB.out]; omega))
            go_wp2_with fail
            have HNX : Hid (ApartR w p ga gb n ma mb s1.data.toList t1.data.toList fa fb (.int .i64 (k + 1 : Nat)) w4) := Lib.hid ⟨k + 1, by omega, rfl, by rw [HNX0.out]; exact L4.out⟩
            go_roundw
            case rel => exact HNX.out
            case measure => simp [intOf]; omega
      · have hb : k < mb := by omega
        have L3a : Hid (LS w wr p (Sough.AP s1.data.toList t1.data.toList n (k + 1) k) [(ga, fa), (gb, fb)]) := by
          have e := Sough.ap_skip_a (s := s1.data.toList) (t := t1.data.toList) (n := n) (i := k) (j := k) (by rw [HMA.out]; omega)
          rw [e]; exact L3
        clear hlt L3
        go_wp2_with fail
        refine (add_at (f := ⟨3, 0, 1, [120]⟩) (now := 9) (id := 3) L3a.out Sough.ap_one (by omega) rfl (by omega)).mono ?_
        rintro e w4 ⟨rfl, hL⟩
        have L4 := Lib.hid hL; clear hL L3a
        simp only at L4 ⊢
        have nb := Sough.ap_b (s := s1.data.toList) (t := t1.data.toList) (n := n) (k := k) (i := k + 1) HOKA.out HOKB.out (by rw [HMB.out]; exact hb) (by have := HLA.out; omega) (by have := HLB.out; omega)
        rw [HMB.out] at nb
        by_cases hbl : k + 1 = mb
        · rw [if_pos hbl, decide_eq_true hbl] at nb
          have NB := Lib.hid nb
          clear nb
          have cb := cut_cell (k := k) (L4.out.rows (gb, fb) (by simp)).1 HFB.out HMB.out (by omega)
          go_wp2_with fail
          refine (add_at (f := ⟨4, k, mb, Sough.part t1.data.toList n k⟩) (now := 9) (id := 4) L4.out NB.out (by omega) rfl (by omega)).mono ?_
          rintro e w5 ⟨rfl, hL⟩
          have L5 := Lib.hid hL; clear hL L4 cb
          simp only at L5 ⊢
          rw [bytes_toArray]
          have HNX : Hid (ApartR w p ga gb n ma mb s1.data.toList t1.data.toList fa fb (.int .i64 (k + 1 : Nat)) w5) := Lib.hid ⟨k + 1, by omega, rfl, L5.out⟩
          have hbl' : ((k : Int) == (mb : Int) - 1) = true := by simp; omega
          clear hbl
          go_wp2_with fail
          go_roundw
          case rel => exact HNX.out
          case measure => simp [intOf]; omega
        · rw [if_neg hbl, decide_eq_false hbl] at nb
          have NB := Lib.hid nb
          clear nb
          have cb := cut_cell (k := k) (L4.out.rows (gb, fb) (by simp)).1 HFB.out HMB.out (by omega)
          go_wp2_with fail
          refine (add_at (f := ⟨4, k, mb, Sough.part t1.data.toList n k⟩) (now := 9) (id := 4) L4.out NB.out (by omega) rfl (by omega)).mono ?_
          rintro e w5 ⟨rfl, hL⟩
          have L5 := Lib.hid hL; clear hL L4 cb
          simp only at L5 ⊢
          have HNX : Hid (ApartR w p ga gb n ma mb s1.data.toList t1.data.toList fa fb (.int .i64 (k + 1 : Nat)) w5) := Lib.hid ⟨k + 1, by omega, rfl, L5.out⟩
          have hbl' : ((k : Int) == (mb : Int) - 1) = false := by simp; omega
          clear hbl
          go_wp2_with fail
          go_roundw
          case rel => exact HNX.out
          case measure => simp [intOf]; omega
    · have he := Sough.ap_end (s := s1.data.toList) (t := t1.data.toList) (n := n) (k := k) (by rw [HMA.out]; omega) (by rw [HMB.out]; omega)
      rw [he] at L3
      have hka : ma ≤ k := by omega
      have hkb : mb ≤ k := by omega
      clear he hlt
      go_wp2_with fail
      refine (held_at (n := 0) (b := 0) L3.out (by rfl) (by rfl)).mono ?_
      rintro e w5 ⟨rfl, hL⟩
      have L4 := Lib.hid hL; clear hL L3
      go_wp2_with fail
      refine (fixed_walk _).mono ?_
      rintro e w6 ⟨rfl, hb⟩
      go_wp2_with fail
      go_ret
      exact ⟨by first | rfl | exact ret_true (by simp), L4.out.bel.trans (hb.mono L4.out.bel.size)⟩

set_option maxRecDepth 100000 in
set_option maxHeartbeats 6400000 in
theorem apart_few {s s1 t t1 : ByteArray} {sz n ea eb : Nat} {fa fb : List Sough.Frag} (h1 : s.extract 0 (min (s.size : Int) 200).toNat = s1) (h1' : t.extract 0 (min (t.size : Int) 200).toNat = t1) (hn : (13 : Int) + (sz : Int) = n) (hz : sz < 256)
    (hca : Sough.cut s1.data.toList 3 n = (fa, ea)) (hcb : Sough.cut t1.data.toList 4 n = (fb, eb)) (hea : (s1.toList = [] ∧ ea = 1) ∨ (s1.toList ≠ [] ∧ ea = 0)) (heb : (t1.toList = [] ∧ eb = 1) ∨ (t1.toList ≠ [] ∧ eb = 0)) (hbad : ¬ (ea = 0 ∧ eb = 0)) (hs : s.size ≤ maxLen) (ht : t.size ≤ maxLen) (w : World) :
    Calls Try.prog 8 #[.string s, .string t, .int .u8 sz] w fun e w' => e = .returned (.bool true) ∧ Below w.heap.size w w' := by
  have hsm : s.size ≤ 9223372036854775807 := hs
  have htm : t.size ≤ 9223372036854775807 := ht
  have CA := Lib.hid (fun w => cut_lit (id := 3) (k := 3) hca rfl w)
  have CB := Lib.hid (fun w => cut_lit (id := 4) (k := 4) hcb rfl w)
  have HEA := Lib.hid hea; have HEB := Lib.hid heb; have HBAD := Lib.hid hbad
  clear hs ht hca hcb hea heb hbad
  go_enter Try.func8, Try.ntmps8
  go_wp2_with fail
  refine (CA.out _).mono ?_
  rintro e w1 ⟨v, rfl, hown, hb1⟩
  obtain ⟨aa, capa, rfl⟩ := own_shape hown
  have HB1 := Lib.hid hb1
  clear hown hb1 CA
  go_wp2_with fail
  refine (CB.out _).mono ?_
  rintro e w2 ⟨v, rfl, hown, hb2⟩
  obtain ⟨ab, capb, rfl⟩ := own_shape hown
  have HB2 := Lib.hid (HB1.out.trans (hb2.mono HB1.out.size))
  clear hown hb2 CB HB1
  go_wp2_with fail
  refine (new_ls (slots := 2) (room := 400) HB2.out (by decide) (by decide) (by decide) (by decide)).mono ?_
  rintro e w3 ⟨p, rfl, hL⟩
  have L2 := Lib.hid hL; clear hL HB2
  rcases HEA.out with ⟨q1, rfl⟩ | ⟨q1, rfl⟩ <;> rcases HEB.out with ⟨q2, rfl⟩ | ⟨q2, rfl⟩
  · have q1' : s1.toList.isEmpty = true := by rw [q1]; rfl
    have q2' : t1.toList.isEmpty = true := by rw [q2]; rfl
    clear q1 q2
    go_wp2_with fail
    refine (fixed_walk _).mono ?_
    rintro e w5 ⟨rfl, hb⟩
    go_wp2_with fail
    go_ret
    exact ⟨by first | rfl | exact ret_true (by simp), L2.out.bel.trans (hb.mono L2.out.bel.size)⟩
  · have q1' : s1.toList.isEmpty = true := by rw [q1]; rfl
    have q2' : t1.toList.isEmpty = false := by cases h : t1.toList with | nil => exact absurd h q2 | cons _ _ => rfl
    clear q1
    go_wp2_with fail
    refine (fixed_walk _).mono ?_
    rintro e w5 ⟨rfl, hb⟩
    go_wp2_with fail
    go_ret
    exact ⟨by first | rfl | exact ret_true (by simp), L2.out.bel.trans (hb.mono L2.out.bel.size)⟩
  · have q2' : t1.toList.isEmpty = true := by rw [q2]; rfl
    have q1' : s1.toList.isEmpty = false := by cases h : s1.toList with | nil => exact absurd h q1 | cons _ _ => rfl
    clear q2
    go_wp2_with fail
    refine (fixed_walk _).mono ?_
    rintro e w5 ⟨rfl, hb⟩
    go_wp2_with fail
    go_ret
    exact ⟨by first | rfl | exact ret_true (by simp), L2.out.bel.trans (hb.mono L2.out.bel.size)⟩
  · exact absurd ⟨rfl, rfl⟩ HBAD.out

theorem cut_either (s1 : ByteArray) {id n : Nat} (h1 : 1 ≤ id) (h2 : id ≤ 4294967296) (h3 : 13 ≤ n) (h4 : n ≤ 1000) (h5 : s1.size ≤ 200) : (s1.toList ≠ [] ∧ Sough.CutOk s1.data.toList id n) ∨ (s1.toList = [] ∧ Sough.cut s1.data.toList id n = ([], 1)) := by
  have hl : s1.data.toList.length = s1.size := by simp
  have he : s1.toList = [] ↔ s1.size = 0 := by
    have : s1.toList.length = s1.size := by rw [Lib.toList_data]; simp
    constructor
    · intro h; rw [h] at this; simpa using this.symm
    · intro h; rw [h] at this; exact List.eq_nil_of_length_eq_zero this
  by_cases h : s1.size = 0
  · right
    refine ⟨he.2 h, ?_⟩
    unfold Sough.cut
    rw [if_pos (by right; right; right; right; left; omega)]
  · left
    refine ⟨fun e => h (he.1 e), ⟨h1, h2, by omega, h4, by omega, by omega, ?_⟩⟩
    unfold Sough.many
    rw [hl]
    have : (s1.size + n - 1) / n ≤ 16 := by
      apply Nat.le_of_lt_succ
      rw [Nat.div_lt_iff_lt_mul (by omega)]
      have : 17 * 13 ≤ 17 * n := Nat.mul_le_mul_left _ h3
      omega
    exact this

theorem poolApart_walk (s t : ByteArray) (a2 : Int) (w : World) (hs : s.size ≤ maxLen) (ht : t.size ≤ maxLen) (w2 : (Lit.int .u8 a2).wf = true) :
    Calls Try.prog 8 #[.string s, .string t, .int .u8 a2] w fun e w' => e = .returned (.bool true) ∧ Below w.heap.size w w' := by
  have b2 := bounds_u8 w2
  obtain ⟨sz, rfl⟩ := Int.eq_ofNat_of_zero_le b2.1
  obtain ⟨s1, h1⟩ : ∃ s1, s.extract 0 (min (s.size : Int) 200).toNat = s1 := ⟨_, rfl⟩
  obtain ⟨t1, h1'⟩ : ∃ s1, t.extract 0 (min (t.size : Int) 200).toNat = s1 := ⟨_, rfl⟩
  have hn : (13 : Int) + (sz : Int) = (13 + sz : Nat) := by omega
  have h6 := (take_size (k := 200) h1).1
  have h7 := (take_size (k := 200) h1').1
  rcases cut_either s1 (id := 3) (n := 13 + sz) (by omega) (by omega) (by omega) (by omega) h6 with ⟨qa, oa⟩ | ⟨qa, ca⟩ <;> rcases cut_either t1 (id := 4) (n := 13 + sz) (by omega) (by omega) (by omega) (by omega) h7 with ⟨qb, ob⟩ | ⟨qb, cb⟩
  · exact apart_good h1 h1' hn (by omega) oa ob rfl rfl hs ht w
  · exact apart_few h1 h1' hn (by omega) oa.cuts cb (.inr ⟨qa, rfl⟩) (.inl ⟨qb, rfl⟩) (by omega) hs ht w
  · exact apart_few h1 h1' hn (by omega) ca ob.cuts (.inl ⟨qa, rfl⟩) (.inr ⟨qb, rfl⟩) (by omega) hs ht w
  · exact apart_few h1 h1' hn (by omega) ca cb (.inl ⟨qa, rfl⟩) (.inl ⟨qb, rfl⟩) (by omega) hs ht w

end Go.Proofs.Ytokphknnblpagaa
