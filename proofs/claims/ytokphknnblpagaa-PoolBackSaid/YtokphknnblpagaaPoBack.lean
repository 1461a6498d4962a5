/- The walk of the law PoolBack. -/
import Derived.Test.YtokphknnblpagaaPoTwice
import Derived.Test.YtokphknnblpagaaSpArg
namespace Sough
theorem Idx.inj {idx : List Nat} {m a b : Nat} (h : Idx idx m) (ha : a < idx.length) (hb : b < idx.length) (e : idx[a] = idx[b]) : a = b := by
  have hp := List.pairwise_iff_getElem.1 h.nodup
  rcases Nat.lt_trichotomy a b with hlt | he | hlt
  · exact absurd e (hp a b ha hb hlt)
  · exact he
  · exact absurd e.symm (hp b a hb ha hlt)
/-- Two places of an order are exchanged. -/
def swapI (idx : List Nat) (i k : Nat) (hi : i < idx.length) (hk : k < idx.length) : List Nat := (idx.set i idx[k]).set k idx[i]
theorem Idx.swap {idx : List Nat} {m i k : Nat} (h : Idx idx m) (hi : i < idx.length) (hk : k < idx.length) : Idx (swapI idx i k hi hk) m := by
  have hl : (swapI idx i k hi hk).length = idx.length := by simp [swapI]
  have hg : ∀ x (hx : x < (swapI idx i k hi hk).length), ∃ y, ∃ hy : y < idx.length, (swapI idx i k hi hk)[x] = idx[y] ∧ y = if x = k then i else if x = i then k else x := fun x hx => by
    rw [hl] at hx
    simp only [swapI, List.getElem_set]
    by_cases h1 : k = x
    · refine ⟨i, hi, ?_, ?_⟩
      · simp [h1]
      · simp [h1.symm]
    · by_cases h2 : i = x
      · refine ⟨k, hk, ?_, ?_⟩
        · simp [h1, h2]
        · simp [h2.symm]; intro e; omega
      · refine ⟨x, hx, ?_, ?_⟩
        · simp [h1, h2]
        · simp [Ne.symm h1, Ne.symm h2]
  refine ⟨?_, by rw [hl]; exact h.len, fun j hj => ?_⟩
  · rw [List.Nodup, List.pairwise_iff_getElem]
    intro a b ha hb hab e
    obtain ⟨x, hx, ex, exx⟩ := hg a ha
    obtain ⟨y, hy, ey, eyy⟩ := hg b hb
    rw [ex, ey] at e
    have hxy := h.inj hx hy e
    rw [exx, eyy] at hxy
    split at hxy <;> split at hxy <;> (try split at hxy) <;> (try split at hxy) <;> omega
  · obtain ⟨x, hx, rfl⟩ := List.getElem_of_mem hj
    obtain ⟨y, hy, ey, _⟩ := hg x hx
    rw [ey]
    exact h.lt _ (List.getElem_mem hy)

def M4 : PMsg := ⟨4, 2, 0, [(0, [111, 116, 104, 101, 114])]⟩
def Oa : Frag := ⟨4, 0, 2, [111, 116, 104, 101, 114]⟩
def Ob : Frag := ⟨4, 1, 2, [32, 111, 110, 101]⟩
def fr (s : List UInt8) (n j : Nat) : Frag := ⟨3, j, many s.length n, part s n j⟩
def curB (s : List UInt8) (n : Nat) (idx : List Nat) (k : Nat) : List PMsg := if k < many s.length n then mine 3 (many s.length n) 0 (pp (part s n) idx k) else []
def BK (s : List UInt8) (n : Nat) (idx : List Nat) (k : Nat) : Pool := ⟨2, 2000, [M4] ++ curB s n idx k⟩

section
variable {s : List UInt8} {n k : Nat} {idx : List Nat}
theorem side4 {now : Nat} (h : now ≤ 50) : Side 3 now [M4] := ⟨fun x hx => by simp only [List.mem_singleton] at hx; subst hx; decide, fun x hx => by simp only [List.mem_singleton] at hx; subst hx; exact decide_eq_false (by show ¬ (0 < now ∧ 50 < now - 0); omega)⟩
theorem bk_start : BK s n idx 0 = ⟨2, 2000, [M4]⟩ := by
  unfold BK curB; split
  · rw [pp_zero, mine_nil]; rfl
  · rfl
theorem bk_end : BK s n idx (many s.length n) = ⟨2, 2000, [M4]⟩ := by unfold BK curB; rw [if_neg (by omega)]; rfl
theorem fr_ok (h : CutOk s 3 n) {j : Nat} (hj : j < many s.length n) : (fr s n j).ok := by
  have := h.ok hj; rwa [cut_part hj] at this
theorem back_add (h : CutOk s 3 n) (hi : Idx idx (many s.length n)) (hs : s.length ≤ 1000) (hk : k < idx.length) :
    (BK s n idx k).add (fr s n idx[k]) k = (BK s n idx (k + 1), if k + 1 = many s.length n then s else [], decide (k + 1 = many s.length n), 0) := by
  have hm16 := h.m
  have hkm : k < many s.length n := by rw [← hi.len]; exact hk
  have hj := hi.lt _ (List.getElem_mem hk)
  have hok := fr_ok h hj
  have hsum := pp_sum (part := part s n) (k := k + 1) hi
  rw [parts_sum h, pp_succ hk, psum_snoc] at hsum
  have hno := pp_has (part := part s n) hi hk
  have h4 : heldOf [M4] = 5 := by rfl
  have h0 : heldOf ([] : List PMsg) = 0 := rfl
  have hlen : (pp (part s n) idx k).length = k := pp_len (by omega)
  have hne : 0 < k → pp (part s n) idx k ≠ [] := fun hp e => by rw [e] at hlen; simp at hlen; omega
  unfold BK
  rw [show curB s n idx k = mine 3 (many s.length n) 0 (pp (part s n) idx k) from if_pos hkm]
  rcases Nat.lt_or_ge (k + 1) (many s.length n) with hlt | hge
  · rw [if_neg (by omega), decide_eq_false (by omega), show curB s n idx (k + 1) = mine 3 (many s.length n) 0 (pp (part s n) idx (k + 1)) from if_pos hlt, pp_succ hk]
    rcases Nat.eq_zero_or_pos k with rfl | hp
    · rw [pp_zero, mine_nil, List.append_nil, List.nil_append]
      exact mine_begin (side4 (by omega)) hok (by omega) (by decide) (by omega)
    · have := mine_put (sl := 2) (rm := 2000) (since := 0) (post := []) (side4 (now := k) (by omega)) side_nil (hne hp) (by omega) hok (by omega) hno (by rw [hlen]; omega) (by omega)
      simpa [fr] using this
  · have e : k + 1 = many s.length n := by omega
    rw [if_pos e, decide_eq_true e, show curB s n idx (k + 1) = [] from if_neg (by omega)]
    rcases Nat.eq_zero_or_pos k with rfl | hp
    · rw [pp_zero, mine_nil, List.append_nil]
      have hj0 : idx[0] = 0 := by omega
      have hp0 : part s n 0 = s := by
        have := parts_all h
        rw [← e] at this
        simpa using this
      have := add_single (q := ⟨2, 2000, [M4]⟩) (d := 3) (s := part s n 0) (now := 0) (by have := fr_ok h hkm; unfold fr at this; rw [← e] at this; exact this) (by rfl)
      unfold fr
      rw [hj0, ← e]
      rw [hp0] at this ⊢
      exact this
    · have hw := pp_whole (part := part s n) hi
      rw [parts_all h] at hw
      have e' : pp (part s n) idx (many s.length n) = pp (part s n) idx (k + 1) := by rw [e]
      rw [e', pp_succ hk] at hw
      have := mine_whole (sl := 2) (rm := 2000) (since := 0) (post := []) (side4 (now := k) (by omega)) side_nil (hne hp) (by omega) hok (by omega) hno (by rw [hlen]; omega) (by omega) hw (by omega)
      simpa [fr] using this
end
end Sough
namespace Go.Proofs.Ytokphknnblpagaa
open Go.RowKit Go.Maps Go.ChangeMaps Go.Shelf

theorem heap_put4 {W : World} {g i j : Nat} {f : Sough.Frag} (hj : j ≠ g) : ((((W.setCell ⟨g, i * 4, none⟩ (.int .u64 f.id)).setCell ⟨g, i * 4 + 1, none⟩ (.int .i64 f.index)).setCell ⟨g, i * 4 + 2, none⟩ (.int .i64 f.count)).setCell ⟨g, i * 4 + 3, none⟩ (.string ⟨f.part.toArray⟩)).heap[j]? = W.heap[j]? := by
  rw [Below.heap_setCell _ _ _ _ hj, Below.heap_setCell _ _ _ _ hj, Below.heap_setCell _ _ _ _ hj, Below.heap_setCell _ _ _ _ hj]
theorem cell_far {W : World} {g i j : Nat} {v : Value} (h : i ≠ j) : (W.setCell ⟨g, i, none⟩ v).cell? ⟨g, j, none⟩ = W.cell? ⟨g, j, none⟩ := World.cell?_setCell_other W _ _ _ (fun e => h (Addr.mk.inj e).2.1)
theorem frag_put {W : World} {g i : Nat} {fs : List Sough.Frag} {f : Sough.Frag} (h : FragsAt W g 0 fs) (hi : i < fs.length) : FragsAt ((((W.setCell ⟨g, i * 4, none⟩ (.int .u64 f.id)).setCell ⟨g, i * 4 + 1, none⟩ (.int .i64 f.index)).setCell ⟨g, i * 4 + 2, none⟩ (.int .i64 f.count)).setCell ⟨g, i * 4 + 3, none⟩ (.string ⟨f.part.toArray⟩)) g 0 (fs.set i f) := fun j hj => by
  rw [List.length_set] at hj
  obtain ⟨c0, c1, c2, c3⟩ := h j hj
  simp only [Nat.zero_add] at c0 c1 c2 c3 ⊢
  by_cases e : i = j
  · subst e
    have ef : Sough.fragAt (fs.set i f) i = f := by rw [Sough.fragAt_eq (by rw [List.length_set]; exact hi)]; simp
    rw [ef]
    refine ⟨?_, ?_, ?_, ?_⟩
    · rw [cell_far (by omega), cell_far (by omega), cell_far (by omega)]; exact World.cell?_setCell_same W _ _ c0
    · rw [cell_far (by omega), cell_far (by omega)]; exact World.cell?_setCell_same _ _ _ (by rw [cell_far (by omega)]; exact c1)
    · rw [cell_far (by omega)]; exact World.cell?_setCell_same _ _ _ (by rw [cell_far (by omega), cell_far (by omega)]; exact c2)
    · exact World.cell?_setCell_same _ _ _ (by rw [cell_far (by omega), cell_far (by omega), cell_far (by omega)]; exact c3)
  · have ef : Sough.fragAt (fs.set i f) j = Sough.fragAt fs j := by rw [Sough.fragAt_eq (by rw [List.length_set]; exact hj), Sough.fragAt_eq hj, List.getElem_set_ne e]
    rw [ef]
    refine ⟨?_, ?_, ?_, ?_⟩
    · rw [cell_far (by omega), cell_far (by omega), cell_far (by omega), cell_far (by omega)]; exact c0
    · rw [cell_far (by omega), cell_far (by omega), cell_far (by omega), cell_far (by omega)]; exact c1
    · rw [cell_far (by omega), cell_far (by omega), cell_far (by omega), cell_far (by omega)]; exact c2
    · rw [cell_far (by omega), cell_far (by omega), cell_far (by omega), cell_far (by omega)]; exact c3
theorem LS.put {w W : World} {p g i : Nat} {st : Sough.Pool} {R : List (Nat × List Sough.Frag)} {fs : List Sough.Frag} (h : LS w W p st ((g, fs) :: R)) (hR : ∀ x ∈ R, x.1 ≠ g) (hi : i < fs.length) (f : Sough.Frag) : LS w ((((W.setCell ⟨g, i * 4, none⟩ (.int .u64 f.id)).setCell ⟨g, i * 4 + 1, none⟩ (.int .i64 f.index)).setCell ⟨g, i * 4 + 2, none⟩ (.int .i64 f.count)).setCell ⟨g, i * 4 + 3, none⟩ (.string ⟨f.part.toArray⟩)) p st ((g, fs.set i f) :: R) := by
  obtain ⟨S, h1, h2, h3⟩ := h.pool
  have hg := h.rows (g, fs) (List.mem_cons_self ..)
  have hgS : g ∉ S := h3 (g, fs) (List.mem_cons_self ..)
  have hz : ((((W.setCell ⟨g, i * 4, none⟩ (.int .u64 f.id)).setCell ⟨g, i * 4 + 1, none⟩ (.int .i64 f.index)).setCell ⟨g, i * 4 + 2, none⟩ (.int .i64 f.count)).setCell ⟨g, i * 4 + 3, none⟩ (.string ⟨f.part.toArray⟩)).heap.size = W.heap.size := by simp [World.setCell]
  refine ⟨⟨S, h1.same fun j hj => heap_put4 (fun e => hgS (e ▸ hj)), h2, fun x hx => ?_⟩, h.ok, (((h.bel.setCell hg.2.2.1 _).setCell hg.2.2.1 _).setCell hg.2.2.1 _).setCell hg.2.2.1 _, fun x hx => ?_⟩
  · rcases List.mem_cons.1 hx with rfl | hx
    · exact hgS
    · exact h3 x (List.mem_cons_of_mem _ hx)
  · rcases List.mem_cons.1 hx with rfl | hx
    · exact ⟨frag_put hg.1 hi, by rw [hz]; exact hg.2.1, hg.2.2.1, fun j => by rw [World.frozen?_setCell, World.frozen?_setCell, World.frozen?_setCell, World.frozen?_setCell]; exact hg.2.2.2 j⟩
    · exact (h.rows x (List.mem_cons_of_mem _ hx)).same (heap_put4 (hR x hx)) (by rw [hz]; exact Nat.le_refl _)

/-- The parts are turned. -/
def BackS (w : World) (p g go n m : Nat) (s : List UInt8) (iv : Value) (wr : World) : Prop := ∃ (k : Nat) (idx : List Nat), k ≤ m ∧ iv = .int .i64 k ∧ Sough.Idx idx m ∧ LS w wr p ⟨2, 2000, []⟩ [(g, idx.map (Sough.fr s n)), (go, [Sough.Oa, Sough.Ob])]
/-- The parts come. -/
def BackA (w : World) (p g go n m : Nat) (s : List UInt8) (idx : List Nat) (iv : Value) (wr : World) : Prop := ∃ k : Nat, k ≤ m ∧ iv = .int .i64 k ∧ LS w wr p (Sough.BK s n idx k) [(g, idx.map (Sough.fr s n)), (go, [Sough.Oa, Sough.Ob])]

theorem idx_cell {W : World} {g n k : Nat} {s : List UInt8} {idx : List Nat} (h : FragsAt W g 0 (idx.map (Sough.fr s n))) (hk : k < idx.length) :
    W.cell? ⟨g, k * 4, none⟩ = some (.int .u64 (Sough.fr s n idx[k]).id) ∧ W.cell? ⟨g, k * 4 + 1, none⟩ = some (.int .i64 (Sough.fr s n idx[k]).index) ∧ W.cell? ⟨g, k * 4 + 2, none⟩ = some (.int .i64 (Sough.fr s n idx[k]).count) ∧ W.cell? ⟨g, k * 4 + 3, none⟩ = some (.string ⟨(Sough.fr s n idx[k]).part.toArray⟩) := by
  obtain ⟨h0, h1, h2, h3⟩ := h k (by simpa using hk)
  have ef : Sough.fragAt (idx.map (Sough.fr s n)) k = Sough.fr s n idx[k] := by rw [Sough.fragAt_eq (by simpa using hk)]; simp
  rw [ef] at h0 h1 h2 h3
  simp only [Nat.zero_add] at h0 h1 h2 h3
  exact ⟨h0, h1, h2, h3⟩

set_option maxRecDepth 100000 in
set_option maxHeartbeats 6400000 in
theorem back_good {s s1 : ByteArray} {sz n m len cap : Nat} {a : Option Addr} {zs : List Int} (h1 : s.extract 0 (min (s.size : Int) 1000).toNat = s1) (hn : (1 : Int) + (sz : Int) = n) (hz : sz < 256) (OK : Sough.CutOk s1.data.toList 3 n) (hm : Sough.many s1.data.toList.length n = m) (hs : s.size ≤ maxLen) (w : World) (hzs : IsRow .u8 w a len cap zs) :
    Calls Try.prog 5 #[.string s, .int .u8 sz, .slice a len cap] w fun e w' => e = .returned (.bool true) ∧ Below w.heap.size w w' := by
  have h6 := (take_size (k := 1000) h1).1
  have hsm : s.size ≤ 9223372036854775807 := hs
  have hm16 : m ≤ 16 := by rw [← hm]; exact OK.m
  have hm1 : 1 ≤ m := by rw [← hm]; exact OK.pos
  have hlm : len ≤ 9223372036854775807 := by
    rcases hzs with ⟨_, h, _⟩ | ⟨_, _, hl, hm, _⟩
    · omega
    · unfold maxLen at hm; omega
  obtain ⟨fs, hfs⟩ : ∃ fs, fs = Sough.cutAll s1.data.toList 3 n := ⟨_, rfl⟩
  have hlen : fs.length = m := by rw [hfs, Sough.cutAll_len, hm]
  have hfr : fs = (List.range m).map (Sough.fr s1.data.toList n) := by rw [hfs, ← hm]; rfl
  have CC := Lib.hid (fun w => cut_lit (id := 3) (k := 3) OK.cuts rfl w)
  rw [← hfs] at CC
  have HOK := Lib.hid OK; have HM := Lib.hid hm; have HL := Lib.hid hlen; have HFR := Lib.hid hfr; have HZS := Lib.hid hzs
  have h6' : s1.data.toList.length ≤ 1000 := by rw [show s1.data.toList.length = s1.size by simp]; exact h6
  have H6 := Lib.hid h6'
  clear hs OK hm hlen hfs hfr h6' h6 hzs
  go_enter Try.func5, Try.ntmps5
  go_wp2_with fail
  refine (CC.out _).mono ?_
  rintro e w1 ⟨v, rfl, hown, hb1⟩
  rw [HL.out] at hown
  obtain ⟨g, capg, rfl, hcap1, hcap2⟩ := own_head hown (by omega)
  unfold maxLen at hcap2
  have HR1 := Lib.hid (RowIn.own (w := w) (W := w1) hown HL.out)
  have HB1 := Lib.hid hb1
  clear hown hb1 CC
  go_wp2_with fail
  refine (new_rows (slots := 2) (room := 2000) (R := [(g, fs)]) HB1.out (fun x hx => by simp only [List.mem_singleton] at hx; subst hx; exact HR1.out) (by decide) (by decide) (by decide) (by decide)).mono ?_
  rintro e w2 ⟨p, rfl, hL⟩
  have L2 := Lib.hid hL; clear hL HR1 HB1
  go_wp2_with fail
  refine (cut_lit (id := 4) (fs := [Sough.Oa, Sough.Ob]) (er := 0) (by kernel_rfl) (by decide) _).mono ?_
  rintro e w3 ⟨v, rfl, hown, hb⟩
  obtain ⟨go, capo, rfl, _, _⟩ := own_head hown (by decide)
  have hgo : go ≠ g := by have := (L2.out.rows (g, fs) (by simp)).2.1; have := (hown.lt go rfl).1; omega
  have l3 := L2.out.row hb (hown.lt go rfl).1 (fragsAt_own hown) (hown.lt go rfl).2 (fun i => hown.frozenAt i)
  rw [HFR.out] at l3
  have L3 : Hid (LS w w3 p ⟨2, 2000, []⟩ [(g, (List.range m).map (Sough.fr s1.data.toList n)), (go, [Sough.Oa, Sough.Ob])]) := Lib.hid (l3.sub (fun x hx => by simp only [List.mem_cons, List.not_mem_nil, or_false] at hx ⊢; exact hx.symm))
  clear hown hb l3 L2
  go_wp2_with fail
  go_loopw [13] (fun iv wr => BackS w p g go n m s1.data.toList iv wr) (fun iv _ => 16 - (intOf iv).toNat)
  case atStart => exact ⟨0, _, by omega, rfl, Sough.Idx.range m, L3.out⟩
  case round =>
    obtain ⟨i, idx, hi, rfl, hidx, hL⟩ := hrel
    have L4 := Lib.hid hL; have HIX := Lib.hid hidx
    have hil := hidx.len
    clear hL hidx L3
    by_cases hlt : i < len ∧ i < m
    · obtain ⟨i1, i2⟩ := hlt
      obtain ⟨x, rfl, t, hcell, ht⟩ : ∃ x, a = some x ∧ ∃ t : Nat, w.cell? (x.add i) = some (.int .u8 t) ∧ t < 256 := by
        rcases HZS.out with ⟨_, h0, _, _⟩ | ⟨x, rfl, hl, _, hzl, hc, hw⟩
        · omega
        · have hin : zs.getD i 0 ∈ zs := by rw [List.getD_eq_getElem?_getD, List.getElem?_eq_getElem (by omega)]; simp
          have hb := bounds_u8 (hw _ hin)
          refine ⟨x, rfl, (zs.getD i 0).toNat, ?_, by omega⟩
          rw [hc i (by omega)]
          congr 2
          omega
      have hcell' := (L4.out.bel.cell (World.block_lt_of_cell? w _ hcell)).trans hcell
      clear hcell
      obtain ⟨k, hk⟩ : ∃ k, t % m = k := ⟨_, rfl⟩
      have hkm : k < m := by rw [← hk]; exact Nat.mod_lt _ (by omega)
      have e1 : (t : Int) % (m : Int) = k := by rw [← hk]; norm_cast
      have e2 : (t : Int).tmod (m : Int) = k := by rw [Int.tmod_eq_emod_of_nonneg (by omega)]; exact e1
      have hI : i < idx.length := by omega
      have hK : k < idx.length := by omega
      have ci := idx_cell (L4.out.rows _ (List.mem_cons_self ..)).1 hI
      have ck := idx_cell (L4.out.rows _ (List.mem_cons_self ..)).1 hK
      have fz := (L4.out.rows _ (List.mem_cons_self ..)).2.2.2
      obtain ⟨fi, hfi⟩ : ∃ f, f = Sough.fr s1.data.toList n idx[i] := ⟨_, rfl⟩
      obtain ⟨fk, hfk⟩ : ∃ f, f = Sough.fr s1.data.toList n idx[k] := ⟨_, rfl⟩
      rw [← hfi] at ci
      rw [← hfk] at ck
      simp only at fz
      have hgl := (L4.out.rows _ (List.mem_cons_self ..)).2.1
      simp only at hgl
      have hgn : g ≠ wr.heap.size := by omega
      -- behind the first store
      have l5 := L4.out.put (fun x hx => by simp only [List.mem_singleton] at hx; subst hx; exact hgo) (by simpa using hI) fk (i := i)
      have hsz : ((((wr.setCell ⟨g, i * 4, none⟩ (.int .u64 fk.id)).setCell ⟨g, i * 4 + 1, none⟩ (.int .i64 fk.index)).setCell ⟨g, i * 4 + 2, none⟩ (.int .i64 fk.count)).setCell ⟨g, i * 4 + 3, none⟩ (.string ⟨fk.part.toArray⟩)).heap.size = wr.heap.size := by simp [World.setCell]
      have l6 := l5.box (f := fi) (T := 35)
      rw [hsz] at l6
      have hbx := heap_alloc_new ((((wr.setCell ⟨g, i * 4, none⟩ (.int .u64 fk.id)).setCell ⟨g, i * 4 + 1, none⟩ (.int .i64 fk.index)).setCell ⟨g, i * 4 + 2, none⟩ (.int .i64 fk.count)).setCell ⟨g, i * 4 + 3, none⟩ (.string ⟨fk.part.toArray⟩)) (.cells #[.int .u64 fi.id, .int .i64 fi.index, .int .i64 fi.count, .string ⟨fi.part.toArray⟩] 35)
      rw [hsz] at hbx
      have L6 := Lib.hid l6; have HBX := Lib.hid hbx
      have HFI := Lib.hid hfi; have HFK := Lib.hid hfk
      have E1 := Lib.hid e1
      clear l5 l6 hsz hfi hfk hbx hk
      go_upto_region 13 with (fail)
      generalize ((((wr.setCell ⟨g, i * 4, none⟩ (.int .u64 fk.id)).setCell ⟨g, i * 4 + 1, none⟩ (.int .i64 fk.index)).setCell ⟨g, i * 4 + 2, none⟩ (.int .i64 fk.count)).setCell ⟨g, i * 4 + 3, none⟩ (.string ⟨fk.part.toArray⟩)).alloc (.cells #[.int .u64 fi.id, .int .i64 fi.index, .int .i64 fi.count, .string ⟨fi.part.toArray⟩] 35) = W4 at *
      have cb := cells4 HBX.out
      obtain ⟨d0, d1, d2, d3⟩ := (L6.out.rows (g, (idx.map (Sough.fr s1.data.toList n)).set i fk) (by simp)).1 k (by rw [List.length_set]; simpa using hK)
      simp only [Nat.zero_add] at d0 d1 d2 d3
      generalize Sough.fragAt ((idx.map (Sough.fr s1.data.toList n)).set i fk) k = fd at d0 d1 d2 d3
      have fz := (L6.out.rows (g, (idx.map (Sough.fr s1.data.toList n)).set i fk) (by simp)).2.2.2
      simp only at fz
      have l7 := (L6.out.sub (R' := [(g, (idx.map (Sough.fr s1.data.toList n)).set i fk), (go, [Sough.Oa, Sough.Ob])]) (fun x hx => List.mem_cons_of_mem _ hx)).put (fun x hx => by simp only [List.mem_singleton] at hx; subst hx; exact hgo) (by rw [List.length_set]; simpa using hK) fi (i := k)
      have eidx : ((idx.map (Sough.fr s1.data.toList n)).set i fk).set k fi = (Sough.swapI idx i k hI hK).map (Sough.fr s1.data.toList n) := by
        unfold Sough.swapI
        rw [HFI.out, HFK.out, List.map_set, List.map_set]
      rw [eidx] at l7
      have HNX : Hid (BackS w p g go n m s1.data.toList (.int .i64 (i + 1 : Nat)) ((((W4.setCell ⟨g, k * 4, none⟩ (.int .u64 fi.id)).setCell ⟨g, k * 4 + 1, none⟩ (.int .i64 fi.index)).setCell ⟨g, k * 4 + 2, none⟩ (.int .i64 fi.count)).setCell ⟨g, k * 4 + 3, none⟩ (.string ⟨fi.part.toArray⟩))) := Lib.hid ⟨i + 1, _, by omega, rfl, HIX.out.swap hI hK, l7⟩
      clear l7 eidx ci ck
      go_wp2_with fail
      go_roundw
      case rel => exact HNX.out
      case measure => simp [intOf]; omega
    · have HK : Hid (Sough.Idx idx m) := HIX
      have hge : ((i < len ∧ m ≤ i) ∨ len ≤ i) := by omega
      have c0 := two_cells (L4.out.rows (go, [Sough.Oa, Sough.Ob]) (by simp)).1
      simp only [Sough.Oa, Sough.Ob] at c0
      have hc0 := Lib.hid c0
      clear hlt
      have hgo2 : ∀ (iv : Value) (W : World), Hid (LS w W p (Sough.BK s1.data.toList n idx 0) [(g, idx.map (Sough.fr s1.data.toList n)), (go, [Sough.Oa, Sough.Ob])]) → BackA w p g go n m s1.data.toList idx (.int .i64 0) W := fun _ W h => ⟨0, by omega, rfl, h.out⟩
      rcases hge with ⟨g1, g2⟩ | g1
      all_goals
        go_wp2_with fail
        refine (add_at (f := Sough.Oa) (now := 0) (id := 4) (r := (⟨2, 2000, [Sough.M4]⟩, [], false, 0)) L4.out (by kernel_rfl) (by decide) (by decide) (by decide)).mono ?_
        rintro e w5 ⟨rfl, hL⟩
        have L5 : Hid (LS w w5 p (Sough.BK s1.data.toList n idx 0) [(g, idx.map (Sough.fr s1.data.toList n)), (go, [Sough.Oa, Sough.Ob])]) := by rw [Sough.bk_start]; exact Lib.hid hL
        clear hL c0
        go_wp2_with fail
        go_loopw [16] (fun iv wr => BackA w p g go n m s1.data.toList idx iv wr) (fun iv _ => 16 - (intOf iv).toNat)
        case atStart => exact ⟨0, by omega, rfl, L5.out⟩
        case round =>
          obtain ⟨k, hk, rfl, hL⟩ := hrel
          have L6 := Lib.hid hL
          clear hL L5
          by_cases hlt : k < m
          · have hK : k < idx.length := by omega
            have ck := idx_cell (L6.out.rows _ (List.mem_cons_self ..)).1 hK
            have na := Sough.back_add (k := k) HOK.out (by rw [HM.out]; exact HIX.out) H6.out hK
            rw [HM.out] at na
            generalize Sough.fr s1.data.toList n idx[k] = f at *
            by_cases hal : k + 1 = m
            · rw [if_pos hal, decide_eq_true hal] at na
              have NA := Lib.hid na
              have hal' : ((k : Int) + 1 == (m : Int)) = true := by simp; omega
              clear na
              go_wp2_with fail
              refine (add_at (f := f) (now := k) (id := f.id) L6.out NA.out (by omega) rfl (by omega)).mono ?_
              rintro e w7 ⟨rfl, hL⟩
              have HNX : Hid (BackA w p g go n m s1.data.toList idx (.int .i64 (k + 1 : Nat)) w7) := Lib.hid ⟨k + 1, by omega, rfl, hL⟩
              clear hL ck L6
              simp only
              rw [bytes_toArray]
              clear hal
              go_wp2_with fail
              go_roundw
              case rel => exact HNX.out
              case measure => simp [intOf]; omega
            · rw [if_neg hal, decide_eq_false hal] at na
              have NA := Lib.hid na
              have hal' : ((k : Int) + 1 == (m : Int)) = false := by simp; omega
              clear na
              go_wp2_with fail
              refine (add_at (f := f) (now := k) (id := f.id) L6.out NA.out (by omega) rfl (by omega)).mono ?_
              rintro e w7 ⟨rfl, hL⟩
              have HNX : Hid (BackA w p g go n m s1.data.toList idx (.int .i64 (k + 1 : Nat)) w7) := Lib.hid ⟨k + 1, by omega, rfl, hL⟩
              clear hL ck L6
              simp only
              clear hal
              go_wp2_with fail
              go_roundw
              case rel => exact HNX.out
              case measure => simp [intOf]; omega
          · obtain rfl : k = m := by omega
            have l7 := L6.out
            rw [← HM.out, Sough.bk_end] at l7
            have L7 := Lib.hid l7
            clear l7 L6
            go_wp2_with fail
            refine (held_at (n := 1) (b := 5) L7.out (by rfl) (by rfl)).mono ?_
            rintro e w8 ⟨rfl, hL⟩
            have L8 := Lib.hid hL; clear hL L7
            have c8 := two_cells (L8.out.rows (go, [Sough.Oa, Sough.Ob]) (by simp)).1
            simp only [Sough.Oa, Sough.Ob] at c8
            go_wp2_with fail
            refine (add_at (f := Sough.Ob) (now := 50) (id := 4) (r := (⟨2, 2000, []⟩, [111, 116, 104, 101, 114, 32, 111, 110, 101], true, 0)) L8.out (by kernel_rfl) (by decide) (by decide) (by decide)).mono ?_
            rintro e w9 ⟨rfl, hL⟩
            have L9 := Lib.hid hL; clear hL L8 c8
            go_wp2_with fail
            refine (fixed_walk _).mono ?_
            rintro e w10 ⟨rfl, hb⟩
            go_wp2_with fail
            go_ret
            exact ⟨by first | rfl | exact ret_true (by simp), L9.out.bel.trans (hb.mono L9.out.bel.size)⟩

set_option maxRecDepth 100000 in
set_option maxHeartbeats 3200000 in
theorem back_few {s s1 : ByteArray} {sz n er len cap : Nat} {a : Option Addr} {v0 : List Sough.Frag} (h1 : s.extract 0 (min (s.size : Int) 1000).toNat = s1) (hn : (1 : Int) + (sz : Int) = n) (hz : sz < 256) (hc : Sough.cut s1.data.toList 3 n = (v0, er)) (hbad : er = 1 ∨ er = 4) (hs : s.size ≤ maxLen) (w : World) :
    Calls Try.prog 5 #[.string s, .int .u8 sz, .slice a len cap] w fun e w' => e = .returned (.bool true) ∧ Below w.heap.size w w' := by
  have CC := Lib.hid (fun w => cut_lit (id := 3) (k := 3) hc rfl w)
  have hsm : s.size ≤ 9223372036854775807 := hs
  clear hs hc
  go_enter Try.func5, Try.ntmps5
  go_wp2_with fail
  refine (CC.out _).mono ?_
  rintro e w1 ⟨v, rfl, hown, hb1⟩
  obtain ⟨aa, cap, rfl⟩ := own_shape hown
  have HB1 := Lib.hid hb1
  clear hown hb1 CC
  go_wp2_with fail
  refine (new_ls (slots := 2) (room := 2000) HB1.out (by decide) (by decide) (by decide) (by decide)).mono ?_
  rintro e w2 ⟨p, rfl, hL⟩
  have L2 := Lib.hid hL; clear hL HB1
  rcases hbad with rfl | rfl
  all_goals
    go_wp2_with fail
    refine (fixed_walk _).mono ?_
    rintro e w5 ⟨rfl, hb⟩
    go_wp2_with fail
    go_ret
    exact ⟨by first | rfl | exact ret_true (by simp), L2.out.bel.trans (hb.mono L2.out.bel.size)⟩

theorem poolBack_walk (s : ByteArray) (a1 : Int) (a : Option Addr) (len cap : Nat) (zs : List Int) (w : World) (hs : s.size ≤ maxLen) (w1 : (Lit.int .u8 a1).wf = true) (hz : IsRow .u8 w a len cap zs) :
    Calls Try.prog 5 #[.string s, .int .u8 a1, .slice a len cap] w fun e w' => e = .returned (.bool true) ∧ Below w.heap.size w w' := by
  have b1 := bounds_u8 w1
  obtain ⟨sz, rfl⟩ := Int.eq_ofNat_of_zero_le b1.1
  obtain ⟨s1, h1⟩ : ∃ s1, s.extract 0 (min (s.size : Int) 1000).toNat = s1 := ⟨_, rfl⟩
  have hn : (1 : Int) + (sz : Int) = (1 + sz : Nat) := by omega
  have h6 := (take_size (k := 1000) h1).1
  have hl : s1.data.toList.length = s1.size := by simp
  by_cases h5 : 1 ≤ s1.size
  · by_cases h16 : Sough.many s1.data.toList.length (1 + sz) ≤ 16
    · exact back_good h1 hn (by omega) ⟨by omega, by omega, by omega, by omega, by omega, by omega, h16⟩ rfl hs w hz
    · refine back_few h1 hn (by omega) (v0 := []) (er := 4) ?_ (.inr rfl) hs w
      unfold Sough.cut
      rw [if_neg (by omega), if_pos (by rw [Int.toNat_natCast]; omega)]
  · refine back_few h1 hn (by omega) (v0 := []) (er := 1) ?_ (.inl rfl) hs w
    unfold Sough.cut
    rw [if_pos (by right; right; right; right; left; omega)]

end Go.Proofs.Ytokphknnblpagaa
