/- Texts YtlfgempjjoclbaaTmPut2 .. YtlfgempjjoclbaaHdTkBase, joined. What they prove: the contracts of the functions that the law reaches, and plain law. -/
import Derived.Test.YtlfgempjjoclbaaG1
import Derived.Lib.MinMax
import Derived.Deep.AppendLies
import Derived.StillTailTactics
import Derived.Lib.BitFns
import Derived.ScopeJumps
import Derived.WalkMore
import Derived.Control
import Derived.WalkLawsBesides
namespace Go.Proofs.Ytlfgempjjoclbaa
open Go.RowKit Go.Maps Go.ChangeMaps
theorem infoTerm : (Try.prog.info? 76).map (fun i => (i.zero, i.size, i.bytes)) = some (some (.agg #[.int .i64 0, .string ⟨#[]⟩, .int .u64 0, .int .i64 0, .int .i64 0, .int .i64 0]), 6, 56) := by kernel_rfl
theorem infoInt : (Try.prog.info? 3).map (fun i => (i.zero, i.size, i.bytes)) = some (some (.int .i64 0), 1, 8) := by kernel_rfl
def DeepR (l : List Int) (m : Nat) (W : World) (dv iv : Value) (wr : World) : Prop := ∃ i d : Nat, i ≤ l.length ∧ iv = .int .i64 i ∧ dv = .int .i64 d ∧ d ≤ m ∧ wr = W
set_option maxRecDepth 100000 in
set_option maxHeartbeats 6400000 in
theorem put_new {p : Nat} {st : Sough.Store} {S : List Nat} {t : Sough.Term} (w : World) (h : StoreAt w p st S) (hok : st.Ok) (ht : t.Wf) (hm : st.may t = true) (hf : st.find t = none) (hfull : ¬ st.most ≤ st.l.length) : Calls Try.prog 24 #[.pointer (some ⟨p, 0, none⟩), .agg #[.int .i64 t.k, .string ⟨t.s.toArray⟩, .int .u64 t.n, .int .i64 t.a, .int .i64 t.b, .int .i64 t.c]] w (PutTo w S p ⟨st.l ++ [t], st.most⟩ (st.l.length + 1) 0) := by
  obtain ⟨nm, hnm⟩ : ∃ nm : Nat, nm = 0 := ⟨_, rfl⟩
  have HFD : Hid (nameIn st.l t = nm ∧ decide (t ∈ st.l) = false) := Lib.hid (by rw [hnm]; exact not_in_of_find hf)
  obtain ⟨l, hl⟩ : ∃ l, Sough.partsOf t = l := ⟨_, rfl⟩
  have HL := Lib.hid hl
  have hin : l.all (inside st) = true := by
    have h1 := hm
    unfold Sough.Store.may at h1
    rw [Bool.and_eq_true] at h1
    have h2 := h1.2
    rw [hl] at h2
    exact h2
  have HIN := Lib.hid hin
  have HMT := Lib.hid hm
  have HLN := Lib.hid (show st.l.length ≤ 1048576 by have h1 := hok.len; have h2 := hok.most; omega)
  have HNF := Lib.hid hf
  have HFU := Lib.hid hfull
  clear hf hnm hl hin
  have d1 : decide ((st.most : Int) ≤ st.l.length) = false := by simp; omega
  have d1' : decide (st.most ≤ st.l.length) = false := by simp; omega
  clear hfull
  have HS := Lib.hid h; have HOK := Lib.hid hok; have HT := Lib.hid ht
  have hl : st.l.length ≤ 1048576 := by have h1 := hok.len; have h2 := hok.most; omega
  have CM := Lib.hid fun (W : World) (hb : Below w.heap.size w W) => may_any (z := true) W (HS.out.later hb) hl hm
  have CL := Lib.hid fun (W : World) (hb : Below w.heap.size w W) => len_any W (HS.out.later hb) hl
  clear h hok ht hm
  have M : Hid (Mem w [(w.heap.size, .cells #[.int .i64 t.k, .string ⟨t.s.toArray⟩, .int .u64 t.n, .int .i64 t.a, .int .i64 t.b, .int .i64 t.c] 76 (0, 0))] (w.alloc (.cells #[.int .i64 t.k, .string ⟨t.s.toArray⟩, .int .u64 t.n, .int .i64 t.a, .int .i64 t.b, .int .i64 t.c] 76))) := Lib.hid ((Mem.start w).alloc _)
  have r := M.out.rules; simp only [AllCells, CellsAt, Nat.zero_add] at r
  go_enter Try.func24, Try.ntmps24
  go_wp2_with fail
  generalize w.alloc (.cells #[.int .i64 t.k, .string ⟨t.s.toArray⟩, .int .u64 t.n, .int .i64 t.a, .int .i64 t.b, .int .i64 t.c] 76) = W1 at *
  refine (CM.out W1 M.out.bel).mono ?_
  rintro e w2 ⟨rfl, hb2⟩
  have M2 := Lib.hid (M.out.later hb2)
  clear hb2 r
  have r := M2.out.rulesL; simp only [AllCells, CellsAt, Nat.zero_add] at r
  have HS2 := Lib.hid (HS.out.later M2.out.bel)
  obtain ⟨lb, cap, db, dcap, mb, ds, D, hc, hS⟩ := HS2.out
  have HC := Lib.hid hc; have HSS := Lib.hid hS
  clear hc hS
  have q2 : ∀ x : Later w2, x.world.cell? ⟨p, 2, none⟩ = some (.map (some mb)) := fun x => x.cell (storeCells HC.out).1.2.2.1
  have lk := HC.out.look HT.out HFD.out
  go_wp2_with fail
  refine wp_region_later (by kernel_rfl) (by kernel_rfl) ?_
  repeat go_big_quiet_step (fail)
  refine wpQuiet_nil ?_
  rintro ⟨w3, hb3⟩
  change Exit.then _ _ _ _ w3
  have M3 := Lib.hid (M2.out.later hb3)
  have HC3 := Lib.hid (HC.out.later hb3)
  clear hb3 r lk q2
  have CL3 : ∀ x : Later w3, Calls Try.prog 15 #[.pointer (some ⟨p, 0, none⟩)] x.world fun e w' => e = .returned (.int .i64 st.l.length) ∧ x.world = w' := fun x => CL.out _ (M3.out.later x.below).bel
  have q3 : ∀ x : Later w3, x.world.cell? ⟨p, 3, none⟩ = some (.int .i64 st.most) := fun x => x.cell (storeCells HC3.out).1.2.2.2
  go_wp2_with fail
  refine wp_region_later (by kernel_rfl) (by kernel_rfl) ?_
  repeat (first | go_big_quiet_step (fail) | go_big_quiet_step ((go_at_call 15; exact Calls.later_same (CL3 _))))
  refine wpQuiet_nil ?_
  rintro ⟨w4, hb4⟩
  change Exit.then _ _ _ _ w4
  have M4 := Lib.hid (M3.out.later hb4)
  have HC4 := Lib.hid (HC3.out.later hb4)
  clear hb4 CL3 q3
  clear d1 d1'
  have r := M4.out.rules; simp only [AllCells, CellsAt, Nat.zero_add] at r
  go_wp2_with fail
  refine (parts_any (t := t) (l := l) HL.out _).mono ?_
  rintro e w5 ⟨v, rfl, hrow, hb5⟩
  have M5 := Lib.hid (M4.out.later hb5)
  have HC5 := Lib.hid (HC4.out.later hb5)
  clear hb5 r
  obtain ⟨m, hm⟩ : ∃ m, m = l.length := ⟨_, rfl⟩
  have HM := Lib.hid hm
  obtain ⟨x, hv, hx⟩ : ∃ x, v = .slice x m m ∧ ∀ i, i < l.length → ∃ g, x = some ⟨g, 0, none⟩ ∧ w5.cell? ⟨g, i, none⟩ = some (.int .i64 (l.getD i 0)) := by
    rcases hrow with ⟨rfl, rfl⟩ | ⟨g, rfl, hg⟩
    · subst hm; exact ⟨none, rfl, fun i hi => absurd hi (by simp)⟩
    · exact ⟨some ⟨g, 0, none⟩, by rw [hm], fun i hi => ⟨g, rfl, row_cell hg hi⟩⟩
  subst hv
  have HX := Lib.hid hx
  have hm3 : m ≤ 3 := by have := HL.out; have h3 := Sough.partsOf_few t; rw [this, ← hm] at h3; exact h3
  clear hrow hx hm
  obtain ⟨q0, q1⟩ := (storeCells HC5.out).1
  obtain ⟨q1, _⟩ := q1
  have hln : st.l.length ≤ 1048576 := HLN.out
  go_wp2_with fail
  go_loopw [8, 37] (fun dv iv wr => DeepR l st.l.length w5 dv iv wr) (fun dv iv _ => m - (intOf iv).toNat)
  case atStart => exact ⟨0, 0, Nat.zero_le _, rfl, rfl, Nat.zero_le _, rfl⟩
  case round =>
    obtain ⟨i, d, hi, rfl, rfl, hd, rfl⟩ := hrel
    rw [← HM.out] at hi
    by_cases hlt : i < m
    · obtain ⟨g, rfl, hc⟩ := HX.out i (by rw [← HM.out]; exact hlt)
      have hil : i < l.length := by rw [← HM.out]; exact hlt
      have hy : inside st (l.getD i 0) = true := by
        have := List.all_eq_true.1 HIN.out l[i] (List.getElem_mem hil)
        rw [List.getD_eq_getElem?_getD, List.getElem?_eq_getElem hil]; exact this
      clear hil
      generalize l.getD i 0 = y at *
      unfold inside at hy
      rw [Bool.and_eq_true, decide_eq_true_eq, decide_eq_true_eq] at hy
      obtain ⟨k, rfl⟩ := Int.eq_ofNat_of_zero_le (show 0 ≤ y by omega)
      have hdl : ds.length = st.l.length + 1 := by have := HC5.out.deep.1; rw [List.length_map] at this; omega
      have hkd : k < ds.length := by omega
      have hdk : ds[k] ≤ st.l.length := HC5.out.low _ (List.getElem_mem hkd)
      have cd := ownsRow_cell HC5.out.deep (i := k) (v := .int .i64 (ds[k] : Nat)) (by rw [List.getElem?_map, List.getElem?_eq_getElem hkd]; rfl)
      generalize ds[k] = dk at *
      have hk1 : (0 : Int) ≤ k := by omega
      have hk2 : (k : Int) < (st.l.length : Int) + 1 := by omega
      have hk3 : k < st.l.length + 1 := by omega
      clear hdl hkd hy
      go_wp2_with fail
      go_roundw
      case rel => exact ⟨i + 1, max d dk, by rw [← HM.out]; omega, rfl, by first | rfl | (congr 1; omega), by omega, rfl⟩
      case measure => simp [intOf]; omega
    · obtain rfl : i = m := by omega
      clear hlt
      have b5 := M5.out.get 0 rfl
      have t0 : wr.cell? ⟨w.heap.size, 0, none⟩ = some (.int .i64 t.k) := by simp [World.cell?, b5]
      have t1 : wr.cell? ⟨w.heap.size, 1, none⟩ = some (.string ⟨t.s.toArray⟩) := by simp [World.cell?, b5]
      have t2 : wr.cell? ⟨w.heap.size, 2, none⟩ = some (.int .u64 t.n) := by simp [World.cell?, b5]
      have t3 : wr.cell? ⟨w.heap.size, 3, none⟩ = some (.int .i64 t.a) := by simp [World.cell?, b5]
      have t4 : wr.cell? ⟨w.heap.size, 4, none⟩ = some (.int .i64 t.b) := by simp [World.cell?, b5]
      have t5 : wr.cell? ⟨w.heap.size, 5, none⟩ = some (.int .i64 t.c) := by simp [World.cell?, b5]
      have HBX : Hid ((⟨w.heap.size, 0, none⟩ : Addr).block ∉ [p, lb, db]) := Lib.hid (by have h := HS.out.lt; rw [HSS.out] at h; have h1 := h p (by simp); have h2 := h lb (by simp); have h3 := h db (by simp); simp; omega)
      have hd1 : IntKind.i64.wrap ((d : Int) + 1) = (d : Int) + 1 := IntWalk.i64_in _ (by omega)
      have HBX : Hid ((⟨w.heap.size, 0, none⟩ : Addr).block ∉ [p, lb, db]) := Lib.hid (by have h := HS.out.lt; rw [HSS.out] at h; have h1 := h p (by simp); have h2 := h lb (by simp); have h3 := h db (by simp); simp; omega)
      have hd1 : IntKind.i64.wrap ((d : Int) + 1) = (d : Int) + 1 := IntWalk.i64_in _ (by omega)
      have HBX : Hid ((⟨w.heap.size, 0, none⟩ : Addr).block ∉ [p, lb, db]) := Lib.hid (by have h := HS.out.lt; rw [HSS.out] at h; have h1 := h p (by simp); have h2 := h lb (by simp); have h3 := h db (by simp); simp; omega)
      have hd1 : IntKind.i64.wrap ((d : Int) + 1) = (d : Int) + 1 := IntWalk.i64_in _ (by omega)
      have HBX : Hid ((⟨w.heap.size, 0, none⟩ : Addr).block ∉ [p, lb, db]) := Lib.hid (by have h := HS.out.lt; rw [HSS.out] at h; have h1 := h p (by simp); have h2 := h lb (by simp); have h3 := h db (by simp); simp; omega)
      have hd1 : IntKind.i64.wrap ((d : Int) + 1) = (d : Int) + 1 := IntWalk.i64_in _ (by omega)
      go_wp2_with fail
      refine wp_vals (n := 84) (fun k => match k with
        | 0 => some (.pointer (some ⟨p, 0, none⟩))
        | 1 => some (.pointer (some ⟨p, 0, none⟩))
        | 2 => some (.pointer (some ⟨p, 0, none⟩))
        | 3 => some (.pointer (some ⟨p, 0, none⟩))
        | 4 => some (.pointer (some ⟨p, 0, none⟩))
        | 5 => some (.slice (some ⟨lb, 0, none⟩) (st.l.length + 1) cap)
        | 6 => some (.agg #[.int .i64 t.k, .string ⟨t.s.toArray⟩, .int .u64 t.n, .int .i64 t.a, .int .i64 t.b, .int .i64 t.c])
        | 9 => some (.pointer (some ⟨p, 0, none⟩))
        | 10 => some (.pointer (some ⟨p, 0, none⟩))
        | 11 => some (.pointer (some ⟨p, 1, none⟩))
        | 12 => some (.slice (some ⟨db, 0, none⟩) (st.l.length + 1) dcap)
        | 13 => some (.int .i64 d)
        | 14 => some (.int .i64 (d + 1))
        | 17 => some (.pointer (some ⟨p, 0, none⟩))
        | 18 => some (.pointer (some ⟨p, 0, none⟩))
        | 20 => some (.pointer (some ⟨p, 0, none⟩))
        | 21 => some (.pointer (some ⟨p, 1, none⟩))
        | _ => none) (fun L v x => ∃ g1 k1 g2 k2, TwoRows wr p 76 3 102 6 1 (st.l.length + 1) (rowT st) (termC t) (ds.map fun d : Nat => Value.int .i64 (d : Int)) [.int .i64 (d + 1)] (.slice (some ⟨lb, 0, none⟩) (st.l.length + 1) cap) (.slice (some ⟨db, 0, none⟩) (st.l.length + 1) dcap) (.map (some mb)) (.int .i64 st.most) [p, lb, db] (L 7) (L 8) (L 19) (L 15) (L 16) (L 22) (v 7) (v 8) (v 15) (v 16) g1 k1 g2 k2 x) (by kernel_rfl) (by kernel_rfl) ?_ ?_ ?_ ?_
      · intro L v hL
        rw [hL 7 (by simp), hL 8 (by simp), hL 15 (by simp), hL 16 (by simp), hL 19 (by simp), hL 22 (by simp)]
        have h0 : TwoRows wr p 76 3 102 6 1 (st.l.length + 1) (rowT st) (termC t) (ds.map fun d : Nat => Value.int .i64 (d : Int)) [.int .i64 (d + 1)] (.slice (some ⟨lb, 0, none⟩) (st.l.length + 1) cap) (.slice (some ⟨db, 0, none⟩) (st.l.length + 1) dcap) (.map (some mb)) (.int .i64 st.most) [p, lb, db] false false false false false false (v 7) (v 8) (v 15) (v 16) lb cap db dcap wr :=
          { tur := Turned.refl _ _, new1 := fun h => absurd h (by simp), new2 := fun h => absurd h (by simp), val1 := rfl, val2 := rfl, row1 := by simpa using HC5.out.row, row2 := by simpa using HC5.out.deep, box := HC5.out.box, in1 := .inl (by simp), in2 := .inl (by simp), cb1 := fun h => absurd h (by simp), cb2 := fun h => absurd h (by simp) }
        exact ⟨lb, cap, db, dcap, h0.later (Below.refl _ _).drew⟩
      · intro L L' v v' x hk
        rintro ⟨g1, k1, g2, k2, h⟩
        have e7 := hk 7 (by simp) rfl
        have e8 := hk 8 (by simp) rfl
        have e15 := hk 15 (by simp) rfl
        have e16 := hk 16 (by simp) rfl
        rw [e7.1, e8.1, e15.1, e16.1, (hk 19 (by simp) rfl).1, (hk 22 (by simp) rfl).1] at h
        exact ⟨g1, k1, g2, k2, h.congr (fun h => e7.2 (e7.1.trans h)) (fun h => e8.2 (e8.1.trans h)) (fun h => e15.2 (e15.1.trans h)) (fun h => e16.2 (e16.1.trans h))⟩
      · refine ⟨?_, ?_, ?_, ?_, ?_, ?_, ?_, ?_, ?_, ?_, ?_, ?_, ?_, ?_, ?_, ?_, ?_, ?_, ?_, ?_, ?_, ?_, ?_, trivial⟩
        · intro L v x hLk hW hF hbk hM
          obtain ⟨g1, k1, g2, k2, hR⟩ := hM
          refine ⟨wanted_none rfl, ?_⟩
          simp only [putAll, Act.put, List.setIfInBounds_toArray, List.set_cons_succ, List.set_cons_zero]
          refine vstep_pure rfl (fun y hb => ⟨rfl, g1, k1, g2, k2, hR.later hb⟩) ?_
          go_big_quiet_step (fail)
          exact wpQuiet_nil rfl
        · intro L v x hLk hW hF hbk hM
          obtain ⟨g1, k1, g2, k2, hR⟩ := hM
          refine ⟨wanted_none rfl, ?_⟩
          simp only [putAll, Act.put, List.setIfInBounds_toArray, List.set_cons_succ, List.set_cons_zero]
          refine vstep_pure rfl (fun y hb => ⟨rfl, g1, k1, g2, k2, hR.later hb⟩) ?_
          go_big_quiet_step (fail)
          exact wpQuiet_nil rfl
        · intro L v x hLk hW hF hbk hM
          obtain ⟨g1, k1, g2, k2, hR⟩ := hM
          refine ⟨wanted_none rfl, ?_⟩
          simp only [putAll, Act.put, List.setIfInBounds_toArray, List.set_cons_succ, List.set_cons_zero]
          refine vstep_pure rfl (fun y hb => ⟨rfl, g1, k1, g2, k2, hR.later hb⟩) ?_
          go_big_quiet_step (fail)
          exact wpQuiet_nil rfl
        · intro L v x hLk hW hF hbk hM
          have e2 : v 2 = .pointer (some ⟨p, 0, none⟩) := hF 2 _ (by decide) rfl
          obtain ⟨g1, k1, g2, k2, hR⟩ := hM
          refine ⟨wanted_none rfl, ?_⟩
          simp only [putAll, Act.put, List.setIfInBounds_toArray, List.set_cons_succ, List.set_cons_zero, e2]
          refine vstep_pure rfl (fun y hb => ⟨rfl, g1, k1, g2, k2, hR.later hb⟩) ?_
          go_big_quiet_step (fail)
          exact wpQuiet_nil rfl
        · intro L v x hLk hW hF hbk hM
          have e3 : v 3 = .pointer (some ⟨p, 0, none⟩) := hF 3 _ (by decide) rfl
          obtain ⟨g1, k1, g2, k2, hR⟩ := hM
          refine ⟨wanted_none rfl, ?_⟩
          simp only [putAll, Act.put, List.setIfInBounds_toArray, List.set_cons_succ, List.set_cons_zero, e3]
          refine vstep_pure rfl (fun y hb => ⟨rfl, g1, k1, g2, k2, hR.later hb⟩) ?_
          go_big_quiet_step (fail)
          exact wpQuiet_nil rfl
        · intro L v x hLk hW hF hbk hM
          have e4 : v 4 = .pointer (some ⟨p, 0, none⟩) := hF 4 _ (by decide) rfl
          obtain ⟨g1, k1, g2, k2, hR⟩ := hM
          have c19 : L 19 = false := by
            cases hc : L 19 with
            | false => rfl
            | true =>
              have h8 := hbk 19 8 _ rfl (by decide) hc
              have h5 := hbk 8 5 _ rfl (by decide) h8
              rw [hLk] at h5
              cases h5
          have hbx := hR.box
          rw [c19] at hbx
          have y0 : ∀ z : Later x, z.world.cell? ⟨p, 0, none⟩ = some (.slice (some ⟨lb, 0, none⟩) (st.l.length + 1) cap) := fun z => z.cell (by simp [World.cell?, hbx])
          clear hbx
          refine ⟨wanted_none rfl, ?_⟩
          simp only [putAll, Act.put, List.setIfInBounds_toArray, List.set_cons_succ, List.set_cons_zero, e4]
          refine vstep_pure rfl (fun y hb => ⟨rfl, g1, k1, g2, k2, hR.later hb⟩) ?_
          go_big_quiet_step (fail)
          exact wpQuiet_nil rfl
        · intro L v x hLk hW hF hbk hM
          obtain ⟨g1, k1, g2, k2, hR⟩ := hM
          have y0 := turned_cells hR.tur t0 HBX.out
          have y1 := turned_cells hR.tur t1 HBX.out
          have y2 := turned_cells hR.tur t2 HBX.out
          have y3 := turned_cells hR.tur t3 HBX.out
          have y4 := turned_cells hR.tur t4 HBX.out
          have y5 := turned_cells hR.tur t5 HBX.out
          refine ⟨wanted_none rfl, ?_⟩
          simp only [putAll, Act.put, List.setIfInBounds_toArray, List.set_cons_succ, List.set_cons_zero]
          refine vstep_pure rfl (fun y hb => ⟨rfl, g1, k1, g2, k2, hR.later hb⟩) ?_
          go_big_quiet_step (fail)
          exact wpQuiet_nil rfl
        · intro L v x hLk hW hF hbk hM
          have e6 : v 6 = .agg #[.int .i64 t.k, .string ⟨t.s.toArray⟩, .int .u64 t.n, .int .i64 t.a, .int .i64 t.b, .int .i64 t.c] := hF 6 _ (by decide) rfl
          obtain ⟨g1, k1, g2, k2, hR⟩ := hM
          rw [hLk] at hR
          have HR := Lib.hid hR.alloc1
          clear hR
          refine ⟨wanted_none rfl, ?_⟩
          simp only [putAll, Act.put, List.setIfInBounds_toArray, List.set_cons_succ, List.set_cons_zero, e6]
          refine vstep_one (W := x.alloc (.cells (termC t).toArray 76)) ⟨.slice (some ⟨x.heap.size, 0, none⟩) 1 1, rfl, g1, k1, g2, k2, by simp only [Nat.zero_add, Nat.reduceAdd, Nat.reduceBEq, beq_self_eq_true, Bool.or_true, Bool.or_false, Nat.reduceEqDiff, if_true, if_false, reduceIte]; exact HR.out⟩ ?_
          unfold Oper.wp
          go_simp
          rfl
        · intro L v x hLk hW hF hbk hM
          have e5 : v 5 = .slice (some ⟨lb, 0, none⟩) (st.l.length + 1) cap := hF 5 _ (by decide) rfl
          have hn := hW 7 (by decide)
          have cs : L 19 = false := by
            cases hc : L 19 with
            | false => rfl
            | true =>
              have h8 := hbk 19 8 _ rfl (by decide) hc
              rw [hLk] at h8
              cases h8
          obtain ⟨g1, k1, g2, k2, hR⟩ := hM
          rw [hLk, cs] at hR
          obtain ⟨gn, en, _, _, hgn⟩ := hR.new1 hn
          have hval := hR.val1
          simp only [Bool.false_eq_true, if_false, Value.slice.injEq, Option.some.injEq, Addr.mk.injEq] at hval
          obtain ⟨⟨rfl, _⟩, _, rfl⟩ := hval
          have hrow := hR.row1
          rw [if_neg (by simp), List.append_nil] at hrow
          obtain ⟨i0, hi0, hz0, hz1, hz2⟩ := info_parts infoTerm
          have HR := Lib.hid hR
          clear hR hF hW hbk
          refine ⟨wanted_none rfl, ?_⟩
          simp only [putAll, Act.put, List.setIfInBounds_toArray, List.set_cons_succ, List.set_cons_zero, e5, en]
          refine wp_append_lies x (.tmp 61) (.tmp 63) 99 rfl 0 76 i0 _ 6 56 Try.underlying99 hi0 hz0 hz1 hz2 rfl (by omega) (.slice (some ⟨lb, 0, none⟩) (st.l.length + 1) cap) (st.l.length + 1) (rowT st) rfl hrow ⟨gn, 0, none⟩ 1 1 (termC t) rfl rfl (World.news_of_block hgn) (by simp [Value.oneCell', termC]) (by omega) (by unfold maxLen; omega) (by omega) (Nat.zero_le _) x.heap.size rfl ?_
          intro g cap2 y hown hgr hg _
          refine ⟨_, rfl, ?_⟩
          have := HR.out.app1 ⟨by decide, by decide, by decide⟩ hown hgr hg
          rw [en] at this
          refine ⟨g, cap2, g2, k2, ?_⟩
          simp only [Nat.zero_add, Nat.reduceAdd, Nat.reduceBEq, beq_self_eq_true, Bool.or_true, Bool.or_false, Nat.reduceEqDiff, if_true, if_false, reduceIte]
          rw [cs]
          exact this
        · intro L v x hLk hW hF hbk hM
          obtain ⟨g1, k1, g2, k2, hR⟩ := hM
          refine ⟨wanted_none rfl, ?_⟩
          simp only [putAll, Act.put, List.setIfInBounds_toArray, List.set_cons_succ, List.set_cons_zero]
          refine vstep_pure rfl (fun y hb => ⟨rfl, g1, k1, g2, k2, hR.later hb⟩) ?_
          go_big_quiet_step (fail)
          exact wpQuiet_nil rfl
        · intro L v x hLk hW hF hbk hM
          have e9 : v 9 = .pointer (some ⟨p, 0, none⟩) := hF 9 _ (by decide) rfl
          obtain ⟨g1, k1, g2, k2, hR⟩ := hM
          refine ⟨wanted_none rfl, ?_⟩
          simp only [putAll, Act.put, List.setIfInBounds_toArray, List.set_cons_succ, List.set_cons_zero, e9]
          refine vstep_pure rfl (fun y hb => ⟨rfl, g1, k1, g2, k2, hR.later hb⟩) ?_
          go_big_quiet_step (fail)
          exact wpQuiet_nil rfl
        · intro L v x hLk hW hF hbk hM
          have e10 : v 10 = .pointer (some ⟨p, 0, none⟩) := hF 10 _ (by decide) rfl
          obtain ⟨g1, k1, g2, k2, hR⟩ := hM
          refine ⟨wanted_none rfl, ?_⟩
          simp only [putAll, Act.put, List.setIfInBounds_toArray, List.set_cons_succ, List.set_cons_zero, e10]
          refine vstep_pure rfl (fun y hb => ⟨rfl, g1, k1, g2, k2, hR.later hb⟩) ?_
          go_big_quiet_step (fail)
          exact wpQuiet_nil rfl
        · intro L v x hLk hW hF hbk hM
          have e11 : v 11 = .pointer (some ⟨p, 1, none⟩) := hF 11 _ (by decide) rfl
          obtain ⟨g1, k1, g2, k2, hR⟩ := hM
          have c22 : L 22 = false := by
            cases hc : L 22 with
            | false => rfl
            | true =>
              have h8 := hbk 22 16 _ rfl (by decide) hc
              have h5 := hbk 16 12 _ rfl (by decide) h8
              rw [hLk] at h5
              cases h5
          have hbx := hR.box
          rw [c22] at hbx
          have y0 : ∀ z : Later x, z.world.cell? ⟨p, 1, none⟩ = some (.slice (some ⟨db, 0, none⟩) (st.l.length + 1) dcap) := fun z => z.cell (by simp [World.cell?, hbx])
          clear hbx
          refine ⟨wanted_none rfl, ?_⟩
          simp only [putAll, Act.put, List.setIfInBounds_toArray, List.set_cons_succ, List.set_cons_zero, e11]
          refine vstep_pure rfl (fun y hb => ⟨rfl, g1, k1, g2, k2, hR.later hb⟩) ?_
          go_big_quiet_step (fail)
          exact wpQuiet_nil rfl
        · intro L v x hLk hW hF hbk hM
          obtain ⟨g1, k1, g2, k2, hR⟩ := hM
          refine ⟨wanted_none rfl, ?_⟩
          simp only [putAll, Act.put, List.setIfInBounds_toArray, List.set_cons_succ, List.set_cons_zero]
          refine vstep_pure rfl (fun y hb => ⟨rfl, g1, k1, g2, k2, hR.later hb⟩) ?_
          go_big_quiet_step (fail)
          exact wpQuiet_nil rfl
        · intro L v x hLk hW hF hbk hM
          have e13 : v 13 = .int .i64 d := hF 13 _ (by decide) rfl
          obtain ⟨g1, k1, g2, k2, hR⟩ := hM
          refine ⟨wanted_none rfl, ?_⟩
          simp only [putAll, Act.put, List.setIfInBounds_toArray, List.set_cons_succ, List.set_cons_zero, e13]
          refine vstep_pure rfl (fun y hb => ⟨rfl, g1, k1, g2, k2, hR.later hb⟩) ?_
          go_big_quiet_step (fail)
          exact wpQuiet_nil rfl
        · intro L v x hLk hW hF hbk hM
          have e14 : v 14 = .int .i64 (d + 1) := hF 14 _ (by decide) rfl
          obtain ⟨g1, k1, g2, k2, hR⟩ := hM
          rw [hLk] at hR
          have HR := Lib.hid hR.alloc2
          clear hR
          refine ⟨wanted_none rfl, ?_⟩
          simp only [putAll, Act.put, List.setIfInBounds_toArray, List.set_cons_succ, List.set_cons_zero, e14]
          refine vstep_one (W := x.alloc (.cells [.int .i64 (d + 1)].toArray 3)) ⟨.slice (some ⟨x.heap.size, 0, none⟩) 1 1, rfl, g1, k1, g2, k2, by simp only [Nat.zero_add, Nat.reduceAdd, Nat.reduceBEq, beq_self_eq_true, Bool.or_true, Bool.or_false, Nat.reduceEqDiff, if_true, if_false, reduceIte]; exact HR.out⟩ ?_
          unfold Oper.wp
          go_simp
        · intro L v x hLk hW hF hbk hM
          have e12 : v 12 = .slice (some ⟨db, 0, none⟩) (st.l.length + 1) dcap := hF 12 _ (by decide) rfl
          have hn := hW 15 (by decide)
          have cs : L 22 = false := by
            cases hc : L 22 with
            | false => rfl
            | true =>
              have h8 := hbk 22 16 _ rfl (by decide) hc
              rw [hLk] at h8
              cases h8
          obtain ⟨g1, k1, g2, k2, hR⟩ := hM
          rw [hLk, cs] at hR
          obtain ⟨gn, en, _, _, hgn⟩ := hR.new2 hn
          have hval := hR.val2
          simp only [Bool.false_eq_true, if_false, Value.slice.injEq, Option.some.injEq, Addr.mk.injEq] at hval
          obtain ⟨⟨rfl, _⟩, _, rfl⟩ := hval
          have hrow := hR.row2
          rw [if_neg (by simp), List.append_nil] at hrow
          obtain ⟨i0, hi0, hz0, hz1, hz2⟩ := info_parts infoInt
          have HR := Lib.hid hR
          clear hR hF hW hbk
          refine ⟨wanted_none rfl, ?_⟩
          simp only [putAll, Act.put, List.setIfInBounds_toArray, List.set_cons_succ, List.set_cons_zero, e12, en]
          refine wp_append_lies x (.tmp 68) (.tmp 71) 61 rfl 0 3 i0 _ 1 8 Try.underlying61 hi0 hz0 hz1 hz2 rfl (by omega) (.slice (some ⟨db, 0, none⟩) (st.l.length + 1) dcap) (st.l.length + 1) (ds.map fun d : Nat => Value.int .i64 (d : Int)) rfl hrow ⟨gn, 0, none⟩ 1 1 [.int .i64 (d + 1)] rfl rfl (World.news_of_block hgn) (by simp [Value.oneCell', termC]) (by omega) (by unfold maxLen; omega) (by omega) (Nat.zero_le _) x.heap.size rfl ?_
          intro g cap2 y hown hgr hg _
          refine ⟨_, rfl, ?_⟩
          have := HR.out.app2 ⟨by decide, by decide, by decide⟩ hown hgr hg
          rw [en] at this
          refine ⟨g1, k1, g, cap2, ?_⟩
          simp only [Nat.zero_add, Nat.reduceAdd, Nat.reduceBEq, beq_self_eq_true, Bool.or_true, Bool.or_false, Nat.reduceEqDiff, if_true, if_false, reduceIte]
          rw [cs]
          exact this
        · intro L v x hLk hW hF hbk hM
          have e0 : v 0 = .pointer (some ⟨p, 0, none⟩) := hF 0 _ (by decide) rfl
          obtain ⟨g1, k1, g2, k2, hR⟩ := hM
          refine ⟨wanted_none rfl, ?_⟩
          simp only [putAll, Act.put, List.setIfInBounds_toArray, List.set_cons_succ, List.set_cons_zero, e0]
          refine vstep_pure rfl (fun y hb => ⟨rfl, g1, k1, g2, k2, hR.later hb⟩) ?_
          go_big_quiet_step (fail)
          exact wpQuiet_nil rfl
        · intro L v x hLk hW hF hbk hM
          have e17 : v 17 = .pointer (some ⟨p, 0, none⟩) := hF 17 _ (by decide) rfl
          obtain ⟨g1, k1, g2, k2, hR⟩ := hM
          refine ⟨wanted_none rfl, ?_⟩
          simp only [putAll, Act.put, List.setIfInBounds_toArray, List.set_cons_succ, List.set_cons_zero, e17]
          refine vstep_pure rfl (fun y hb => ⟨rfl, g1, k1, g2, k2, hR.later hb⟩) ?_
          go_big_quiet_step (fail)
          exact wpQuiet_nil rfl
        · intro L v x hLk hW hF hbk hM
          have e18 : v 18 = .pointer (some ⟨p, 0, none⟩) := hF 18 _ (by decide) rfl
          have hn := hW 8 (by decide)
          obtain ⟨g1, k1, g2, k2, hR⟩ := hM
          rw [hLk, hn] at hR
          have hbx := hR.box
          rw [if_neg (show ¬ false = true by simp)] at hbx
          have HR := Lib.hid (hR.sto1 ⟨by decide, by decide, by decide⟩ (by simp))
          clear hR hF hW hbk
          have hu := HR.out.val1
          rw [if_pos rfl] at hu
          have c0 : x.cell? ⟨p, 0, none⟩ = some (.slice (some ⟨lb, 0, none⟩) (st.l.length + 1) cap) := by simp [World.cell?, hbx]
          have f0 : x.frozen? ⟨p, 0, none⟩ = false := by simp [World.frozen?, hbx]
          clear hbx
          refine ⟨wanted_none rfl, ?_⟩
          simp only [putAll, Act.put, List.setIfInBounds_toArray, List.set_cons_succ, List.set_cons_zero, e18]
          refine vstep_one (W := x.setCell ⟨p, 0, none⟩ (v 8)) ⟨undef, rfl, g1, k1, g2, k2, by simp only [Nat.zero_add, Nat.reduceAdd, Nat.reduceBEq, beq_self_eq_true, Bool.or_true, Bool.or_false, Nat.reduceEqDiff, if_true, if_false, reduceIte]; rw [hn]; exact HR.out⟩ ?_
          unfold Oper.wp
          rw [hu]
          go_simp
        · intro L v x hLk hW hF hbk hM
          have e1 : v 1 = .pointer (some ⟨p, 0, none⟩) := hF 1 _ (by decide) rfl
          obtain ⟨g1, k1, g2, k2, hR⟩ := hM
          refine ⟨wanted_none rfl, ?_⟩
          simp only [putAll, Act.put, List.setIfInBounds_toArray, List.set_cons_succ, List.set_cons_zero, e1]
          refine vstep_pure rfl (fun y hb => ⟨rfl, g1, k1, g2, k2, hR.later hb⟩) ?_
          go_big_quiet_step (fail)
          exact wpQuiet_nil rfl
        · intro L v x hLk hW hF hbk hM
          have e20 : v 20 = .pointer (some ⟨p, 0, none⟩) := hF 20 _ (by decide) rfl
          obtain ⟨g1, k1, g2, k2, hR⟩ := hM
          refine ⟨wanted_none rfl, ?_⟩
          simp only [putAll, Act.put, List.setIfInBounds_toArray, List.set_cons_succ, List.set_cons_zero, e20]
          refine vstep_pure rfl (fun y hb => ⟨rfl, g1, k1, g2, k2, hR.later hb⟩) ?_
          go_big_quiet_step (fail)
          exact wpQuiet_nil rfl
        · intro L v x hLk hW hF hbk hM
          have e21 : v 21 = .pointer (some ⟨p, 1, none⟩) := hF 21 _ (by decide) rfl
          have hn := hW 16 (by decide)
          obtain ⟨g1, k1, g2, k2, hR⟩ := hM
          rw [hLk, hn] at hR
          have hbx := hR.box
          rw [if_neg (show ¬ false = true by simp)] at hbx
          have HR := Lib.hid (hR.sto2 ⟨by decide, by decide, by decide⟩ (by simp))
          clear hR hF hW hbk
          have hu := HR.out.val2
          rw [if_pos rfl] at hu
          have c0 : x.cell? ⟨p, 1, none⟩ = some (.slice (some ⟨db, 0, none⟩) (st.l.length + 1) dcap) := by simp [World.cell?, hbx]
          have f0 : x.frozen? ⟨p, 1, none⟩ = false := by simp [World.frozen?, hbx]
          clear hbx
          refine ⟨wanted_none rfl, ?_⟩
          simp only [putAll, Act.put, List.setIfInBounds_toArray, List.set_cons_succ, List.set_cons_zero, e21]
          refine vstep_one (W := x.setCell ⟨p, 1, none⟩ (v 16)) ⟨undef, rfl, g1, k1, g2, k2, by simp only [Nat.zero_add, Nat.reduceAdd, Nat.reduceBEq, beq_self_eq_true, Bool.or_true, Bool.or_false, Nat.reduceEqDiff, if_true, if_false, reduceIte]; rw [hn]; exact HR.out⟩ ?_
          unfold Oper.wp
          rw [hu]
          go_simp
      · intro L v x hL hF hM
        obtain ⟨g1, k1, g2, k2, hR⟩ := hM
        rw [hL 7 (by simp), hL 8 (by simp), hL 15 (by simp), hL 16 (by simp), hL 19 (by simp), hL 22 (by simp)] at hR
        have hb0 : w.heap.size ≤ wr.heap.size := M5.out.bel.size
        have y0 := hR.tur.block _ (lt_of_block b5) HBX.out
        have hxb := y0.trans b5
        have r0 : x.cell? ⟨w.heap.size, 0, none⟩ = some (.int .i64 t.k) := by simp [World.cell?, hxb]
        have r1 : x.cell? ⟨w.heap.size, 1, none⟩ = some (.string ⟨t.s.toArray⟩) := by simp [World.cell?, hxb]
        have r2 : x.cell? ⟨w.heap.size, 2, none⟩ = some (.int .u64 t.n) := by simp [World.cell?, hxb]
        have r3 : x.cell? ⟨w.heap.size, 3, none⟩ = some (.int .i64 t.a) := by simp [World.cell?, hxb]
        have r4 : x.cell? ⟨w.heap.size, 4, none⟩ = some (.int .i64 t.b) := by simp [World.cell?, hxb]
        have r5 : x.cell? ⟨w.heap.size, 5, none⟩ = some (.int .i64 t.c) := by simp [World.cell?, hxb]
        have hbx := hR.box
        rw [if_pos rfl, if_pos rfl] at hbx
        have hv1 := hR.val1
        have hv2 := hR.val2
        rw [if_pos rfl] at hv1 hv2
        rw [hv1, hv2] at hbx
        have q2 : x.cell? ⟨p, 2, none⟩ = some (.map (some mb)) := by simp [World.cell?, hbx]
        have HBX2 := Lib.hid hbx
        have HR := Lib.hid hR
        clear hR hbx hv1 hv2 y0 hxb t0 t1 t2 t3 t4 t5 hF hL q0 q1 b5
        simp only [putAll, Act.put, List.setIfInBounds_toArray, List.set_cons_succ, List.set_cons_zero]
        go_wp2_with fail
        go_still_tail 6, (by kernel_rfl)
        change wpList _ _ _ _ _ x.drew
        have hap := HC5.out.apart
        simp only [List.nodup_cons, List.mem_cons, List.not_mem_nil, or_false, not_or, not_false_eq_true, List.nodup_nil, and_true] at hap
        have hmap : x.ownsMap Try.prog 76 (plainElem (H := Unit) Try.prog 3) mb st.l.length D := by
          obtain ⟨es, clock, hb, r⟩ := HC5.out.map
          exact ⟨es, clock, (HR.out.tur.block _ HC5.out.map.lt (by simp; exact ⟨fun e => hap.1.2.2 e.symm, fun e => hap.2.1.2 e.symm, fun e => hap.2.2 e.symm⟩)).trans hb, r⟩
        have HAP := Lib.hid hap
        have HMAP := Lib.hid hmap
        clear hap hmap
        refine wpList_mapUpdate_own _ rfl _ _ _ 100 rfl 76 3 lawT Try.underlying100 _ mb st.l.length D rfl HMAP.out.drew (by unfold maxLen; omega) _ _ _ rfl rfl (keyOfT HT.out) (mkI (st.l.length + 1)) [] (plainElem_int Try.underlying3 (WalkArith.wf_i64 (by omega))) ?_
        intro w7 hown7 hg7
        have hwr : wr.heap.size ≤ x.heap.size := HR.out.tur.size
        have HG : Hid (PutTo w S p ⟨st.l ++ [t], st.most⟩ (st.l.length + 1) 0 (.returned (.tuple #[.int .i64 (st.l.length + 1 : Nat), .int .i64 0])) w7) := by
          refine Lib.hid ⟨rfl, [p, g1, g2, mb], ⟨g1, k1, g2, k2, mb, ds ++ [d + 1], D.put (keyT t) (mkI (st.l.length + 1)), ?_, rfl⟩, fun i hi => ?_, ?_⟩
          · have hTT : 76 ≠ 3 ∧ 76 ≠ 102 ∧ 3 ≠ 102 := ⟨by decide, by decide, by decide⟩
            obtain ⟨es, clock, hmb, _⟩ := HMAP.out
            obtain ⟨cu1, hg1, _⟩ := ownsRow_block HR.out.row1
            obtain ⟨cu2, hg2, _⟩ := ownsRow_block HR.out.row2
            have n1 : g1 ≠ mb := fun e => by subst e; rw [hg1] at hmb; cases hmb
            have n2 : g2 ≠ mb := fun e => by subst e; rw [hg2] at hmb; cases hmb
            have n3 : p ≠ mb := HAP.out.1.2.2
            have old : ∀ i, i < x.heap.size → i ≠ mb → w7.heap[i]? = x.heap[i]? := fun i hi hne => hg7.block i hi (by simpa using hne)
            have e1 : (st.l ++ [t]).length = st.l.length + 1 := by simp
            refine ⟨?_, ?_, ?_, ?_, ?_, ?_, ?_⟩
            · refine ((old p (lt_of_block HBX2.out) n3).trans HBX2.out).trans ?_
              simp only [storeC, e1]
              rfl
            · have := ownsRow_same HR.out.row1 (old g1 HR.out.lt1 n1)
              simp only [if_true, Bool.toNat_true] at this
              simp only [e1, rowT, List.flatMap_append, List.flatMap_cons, List.flatMap_nil, List.append_nil]
              rw [← List.append_assoc]
              exact this
            · have := ownsRow_same HR.out.row2 (old g2 HR.out.lt2 n2)
              simp only [if_true, Bool.toNat_true] at this
              simp only [e1, List.map_append, List.map_cons, List.map_nil]
              exact this
            · intro y hy
              rw [e1]
              rcases List.mem_append.1 hy with hy | hy
              · have := HC5.out.low y hy; omega
              · simp only [List.mem_singleton] at hy; omega
            · rw [e1]; exact hown7
            · refine HC5.out.names.put HT.out HOK.out.wf fun hin => ?_
              have := HFD.out.2
              rw [decide_eq_false_iff_not] at this
              exact this hin
            · simp only [List.nodup_cons, List.mem_cons, List.not_mem_nil, or_false, not_or, not_false_eq_true, List.nodup_nil, and_true]
              exact ⟨⟨HR.out.ne1 hTT, HR.out.ne2 hTT, n3⟩, ⟨HR.out.ne12 hTT, n1⟩, n2⟩
          · simp only [List.mem_cons, List.not_mem_nil, or_false] at hi
            have hSl : ∀ q ∈ [p, lb, db, mb], q ∈ S := fun q hq => by rw [HSS.out]; exact hq
            have hin : ∀ q, q ∈ [p, lb, db] ∨ wr.heap.size ≤ q → q ∈ S ∨ w.heap.size ≤ q := fun q hq => by
              rcases hq with hq | hq
              · left
                refine hSl q ?_
                simp only [List.mem_cons, List.not_mem_nil, or_false] at hq ⊢
                rcases hq with e | e | e
                · exact .inl e
                · exact .inr (.inl e)
                · exact .inr (.inr (.inl e))
              · exact .inr (by omega)
            rcases hi with rfl | rfl | rfl | rfl
            · exact .inl (hSl _ (by simp))
            · exact hin _ HR.out.in1
            · exact hin _ HR.out.in2
            · exact .inl (hSl _ (by simp))
          · have hSl : ∀ q ∈ [p, lb, db, mb], q ∈ S := fun q hq => by rw [HSS.out]; exact hq
            refine ((Turned.below (S := S) M5.out.bel).trans HR.out.tur fun i hi => .inl (hSl i ?_)).trans (Turned.grown (S := [mb]) (w := x) (row := some mb) ?_ (fun i hi => ?_)) fun i hi => .inl (hSl i ?_)
            · simp only [List.mem_cons, List.not_mem_nil, or_false] at hi ⊢
              rcases hi with e | e | e
              · exact .inl e
              · exact .inr (.inl e)
              · exact .inr (.inr (.inl e))
            · exact ⟨hg7.os, hg7.tape, hg7.output, hg7.size, hg7.block⟩
            · cases hi; exact .inl (by simp)
            · simp only [List.mem_singleton] at hi; subst hi; simp
        clear hown7 hg7 q2 r0 r1 r2 r3 r4 r5
        go_wp2_with fail
        go_ret2
        exact HG.out
theorem put_any {p n er : Nat} {st st' : Sough.Store} {S : List Nat} {t : Sough.Term} (w : World) (h : StoreAt w p st S) (hok : st.Ok) (ht : t.Wf) (hp : st.put t = (st', n, er)) : Calls Try.prog 24 #[.pointer (some ⟨p, 0, none⟩), .agg #[.int .i64 t.k, .string ⟨t.s.toArray⟩, .int .u64 t.n, .int .i64 t.a, .int .i64 t.b, .int .i64 t.c]] w (PutTo w S p st' n er) := by
  unfold Sough.Store.put at hp
  split at hp
  · rename_i hm
    simp only [Prod.mk.injEq] at hp
    obtain ⟨rfl, rfl, rfl⟩ := hp
    exact put_bad w h hok ht hm
  · rename_i hm
    have hm : st.may t = true := by simpa using hm
    split at hp
    · rename_i i hf
      simp only [Prod.mk.injEq] at hp
      obtain ⟨rfl, rfl, rfl⟩ := hp
      exact put_found w h hok ht hm hf
    · rename_i hf
      split at hp
      · rename_i hl
        simp only [Prod.mk.injEq] at hp
        obtain ⟨rfl, rfl, rfl⟩ := hp
        exact put_full w h hok ht hm hf hl
      · rename_i hl
        simp only [Prod.mk.injEq] at hp
        obtain ⟨rfl, rfl, rfl⟩ := hp
        exact put_new w h hok ht hm hf hl
end Go.Proofs.Ytlfgempjjoclbaa
namespace Sough
def putHi : Nat → Nat → List UInt8
  | 0, _ => []
  | f + 1, n => if n = 0 then [] else putHi f (n / 128) ++ [UInt8.ofNat (128 + n % 128)]
def put (n : Nat) : List UInt8 := putHi 9 (n / 128) ++ [UInt8.ofNat (n % 128)]
def getL (a : Nat) : Nat → Nat → List UInt8 → Nat × Nat × Nat
  | _, _, [] => (0, 0, 2)
  | i, n, c :: r => if (i = 0 ∧ c.toNat = 128) ∨ 144115188075855871 < n then (0, 0, 3)
      else if c.toNat < 128 then (n * 128 + c.toNat % 128, a + i + 1, 0) else getL a (i + 1) (n * 128 + c.toNat % 128) r
def get (s : List UInt8) (at_ : Int) : Nat × Nat × Nat :=
  if at_ < 0 ∨ (s.length : Int) < at_ then (0, 0, 1) else getL at_.toNat 0 0 (s.drop at_.toNat)
def putText (s : List UInt8) : List UInt8 := put s.length ++ s
theorem u8_lt (c : UInt8) : c.toNat < 256 := UInt8.toNat_lt c
theorem u8_of (n : Nat) (h : n < 256) : (UInt8.ofNat n).toNat = n := by
  simp [UInt8.toNat_ofNat']; omega
theorem u8_ext {a b : UInt8} (h : a.toNat = b.toNat) : a = b := UInt8.toNat_inj.1 h
theorem putHi_zero (f : Nat) : putHi f 0 = [] := by cases f <;> simp [putHi]
theorem putHi_fuel : ∀ (f g n : Nat), n < 128 ^ f → n < 128 ^ g → putHi f n = putHi g n
  | 0, g, n, hf, _ => by
    have : n = 0 := by simp at hf; omega
    subst this; rw [putHi_zero, putHi_zero]
  | f + 1, 0, n, _, hg => by
    have : n = 0 := by simp at hg; omega
    subst this; rw [putHi_zero, putHi_zero]
  | f + 1, g + 1, n, hf, hg => by
    simp only [putHi]
    split
    · rfl
    · rw [putHi_fuel f g (n / 128) (by rw [Nat.pow_succ] at hf; omega) (by rw [Nat.pow_succ] at hg; omega)]
theorem putHi_succ {n : Nat} (f : Nat) (h : n ≠ 0) : putHi (f + 1) n = putHi f (n / 128) ++ [UInt8.ofNat (128 + n % 128)] := by
  simp [putHi, h]
theorem putHi_nil {f n : Nat} (h : n < 128 ^ f) (he : (putHi f n).length = 0) : n = 0 := by
  cases f with
  | zero => simp at h; omega
  | succ f =>
    by_cases h0 : n = 0
    · exact h0
    · rw [putHi_succ f h0] at he; simp at he
theorem putHi_len_le (f : Nat) : ∀ n, (putHi f n).length ≤ f := by
  induction f with
  | zero => intro n; simp [putHi]
  | succ f ih =>
    intro n
    simp only [putHi]
    split
    · simp
    · have := ih (n / 128); simp; omega
theorem put_len (n : Nat) : 1 ≤ (put n).length ∧ (put n).length ≤ 10 := by
  have := putHi_len_le 9 (n / 128)
  unfold put; simp; omega
theorem getL_hi (a : Nat) : ∀ (f n : Nat) (r : List UInt8), n < 128 ^ f → n < 18446744073709551616 →
    getL a 0 0 (putHi f n ++ r) = getL a (putHi f n).length n r
  | 0, n, r, hf, _ => by
    have : n = 0 := by simp at hf; omega
    subst this; simp [putHi]
  | f + 1, n, r, hf, hn => by
    by_cases h0 : n = 0
    · subst h0; rw [putHi_zero]; simp
    · rw [putHi_succ f h0, List.append_assoc, getL_hi a f (n / 128) _ (by rw [Nat.pow_succ] at hf; omega) (by omega)]
      have hc := u8_of (128 + n % 128) (by omega)
      simp only [List.cons_append, List.nil_append, getL, hc]
      rw [if_neg, if_neg (by omega)]
      · have : n / 128 * 128 + (128 + n % 128) % 128 = n := by omega
        rw [this]; simp
      · intro h
        rcases h with ⟨h1, h2⟩ | h
        · have := putHi_nil (n := n / 128) (by rw [Nat.pow_succ] at hf; omega) h1
          omega
        · omega
theorem getL_put (a n : Nat) (r : List UInt8) (hn : n < 18446744073709551616) :
    getL a 0 0 (put n ++ r) = (n, a + (put n).length, 0) := by
  unfold put
  rw [List.append_assoc, getL_hi a 9 (n / 128) _ (by have : (128:Nat) ^ 9 = 9223372036854775808 := by decide
                                                     omega) (by omega)]
  have hc := u8_of (n % 128) (by omega)
  simp only [List.cons_append, List.nil_append, getL, hc]
  rw [if_neg (by omega), if_pos (by omega)]
  have : n / 128 * 128 + n % 128 % 128 = n := by omega
  rw [this]; simp; omega
theorem get_put (p r : List UInt8) (n : Nat) (hn : n < 18446744073709551616) :
    get (p ++ (put n ++ r)) (p.length : Int) = (n, p.length + (put n).length, 0) := by
  unfold get
  rw [if_neg (by simp; omega)]
  simp only [Int.toNat_natCast]
  rw [List.drop_left, getL_put _ _ _ hn]
theorem getL_inv (a : Nat) : ∀ (l : List UInt8) (i n v p : Nat), (putHi 10 n).length = i → n < 18446744073709551616 → getL a i n l = (v, p, 0) →
    ∃ r, putHi 10 n ++ l = put v ++ r ∧ p = a + (put v).length ∧ v < 18446744073709551616
  | [], _, _, _, _, _, _, h => by simp [getL] at h
  | c :: r, i, n, v, p, hi, hn, h => by
    have hc := u8_lt c
    have h10 : (128 : Nat) ^ 10 = 1180591620717411303424 := by decide
    have h9 : (128 : Nat) ^ 9 = 9223372036854775808 := by decide
    simp only [getL] at h
    split at h
    · simp at h
    · rename_i hno
      have hn' : n ≤ 144115188075855871 := by omega
      split at h
      · rename_i hlt
        simp only [Prod.mk.injEq, and_true] at h
        obtain ⟨h1, h2⟩ := h
        have hd : v / 128 = n := by omega
        have hm : v % 128 = c.toNat := by omega
        have hpv : put v = putHi 10 n ++ [c] := by
          unfold put
          rw [hd, hm, putHi_fuel 10 9 n (by omega) (by omega)]
          congr 2
          exact u8_ext (u8_of _ (by omega))
        refine ⟨r, by rw [hpv]; simp, ?_, by omega⟩
        rw [hpv]; simp; omega
      · rename_i hge
        have hne : n * 128 + c.toNat % 128 ≠ 0 := by
          intro h0
          have hn0 : n = 0 := by omega
          rw [hn0, putHi_zero] at hi
          simp at hi
          omega
        have hp : putHi 10 (n * 128 + c.toNat % 128) = putHi 10 n ++ [c] := by
          rw [putHi_succ 9 hne, show (n * 128 + c.toNat % 128) / 128 = n by omega, putHi_fuel 10 9 n (by omega) (by omega)]
          congr 2
          exact u8_ext (by rw [u8_of _ (by omega)]; omega)
        obtain ⟨r', h1, h2, h3⟩ := getL_inv a r (i + 1) (n * 128 + c.toNat % 128) v p (by rw [hp]; simp; omega) (by omega) h
        exact ⟨r', by rw [← h1, hp]; simp, h2, h3⟩
theorem getL_ok {a v p : Nat} {l : List UInt8} (h : getL a 0 0 l = (v, p, 0)) : ∃ r, l = put v ++ r ∧ p = a + (put v).length ∧ v < 18446744073709551616 := by
  have := getL_inv a l 0 0 v p (by simp [putHi]) (by omega) h
  simpa [putHi] using this
theorem getL_err (a : Nat) : ∀ (l : List UInt8) (i n : Nat), ((getL a i n l).2.2 = 0 ∨ (getL a i n l) = (0, 0, 2) ∨ getL a i n l = (0, 0, 3))
  | [], i, n => by simp [getL]
  | c :: r, i, n => by
    simp only [getL]
    split
    · simp
    · split
      · simp
      · exact getL_err a r _ _
theorem get_err (s : List UInt8) (k : Int) : (get s k).2.2 = 0 ∨ get s k = (0, 0, 1) ∨ get s k = (0, 0, 2) ∨ get s k = (0, 0, 3) := by
  unfold get
  split
  · simp
  · rcases getL_err k.toNat (s.drop k.toNat) 0 0 with h | h | h <;> simp [h]
theorem get_ok {s : List UInt8} {k : Int} (h : (get s k).2.2 = 0) :
    ∃ (r : List UInt8), 0 ≤ k ∧ k ≤ s.length ∧ s = s.take k.toNat ++ (put (get s k).1 ++ r) ∧ (get s k).2.1 = k.toNat + (put (get s k).1).length ∧ (get s k).1 < 18446744073709551616 ∧ (get s k).2.1 ≤ s.length := by
  unfold get at h ⊢
  split at h
  · simp at h
  · rename_i hno
    rw [if_neg hno]
    obtain ⟨r, h1, h2, h3⟩ := getL_ok (a := k.toNat) (v := (getL k.toNat 0 0 (s.drop k.toNat)).1) (p := (getL k.toNat 0 0 (s.drop k.toNat)).2.1) (l := s.drop k.toNat) (Prod.ext rfl (Prod.ext rfl h))
    refine ⟨r, by omega, by omega, ?_, h2, h3, ?_⟩
    · rw [← h1, List.take_append_drop]
    · have := congrArg List.length h1
      simp at this
      omega
theorem get_bound (s : List UInt8) (k : Int) : (get s k).2.1 ≤ s.length ∧ (get s k).1 < 18446744073709551616 := by
  rcases get_err s k with h | h | h | h
  · obtain ⟨r, _, _, _, _, h5, h6⟩ := get_ok h
    exact ⟨h6, h5⟩
  all_goals simp [h]
theorem put_inj {m n : Nat} {r s : List UInt8} (hm : m < 18446744073709551616) (hn : n < 18446744073709551616) (h : put m ++ r = put n ++ s) : m = n := by
  have h1 := getL_put 0 m r hm
  rw [h, getL_put 0 n s hn] at h1
  simp only [Prod.mk.injEq] at h1
  exact h1.1.symm
end Sough
namespace Sough
structure Msg where
  v : Nat → Int
  offer : List UInt8
structure Fld where
  c : Nat
  lo : Nat
  hi : Nat
deriving DecidableEq
def u64cell (c : Nat) : Bool := c == 1 || c == 2 || c == 11 || c == 12
def number (c : Nat) : Fld := ⟨c, 1, 4294967296⟩
def name (c : Nat) : Fld := ⟨c, 1, 1048576⟩
def flds1 : List Fld := [number 1, ⟨3, 0, 0⟩, ⟨4, 0, 1⟩, name 6, name 7, name 8, name 9, name 10]
def flds2 : List Fld := [number 1, number 2, name 6, name 8, name 9]
def flds3 : List Fld := [number 2, ⟨5, 1, 15⟩]
def flds4 : List Fld := [number 2, ⟨11, 0, 1000⟩, ⟨12, 0, 255⟩, name 9]
def flds (k : Int) : List Fld := if k = 1 then flds1 else if k = 2 then flds2 else if k = 3 then flds3 else if k = 4 then flds4 else []
theorem flds_cases (k : Int) : (k = 1 ∧ flds k = flds1) ∨ (k = 2 ∧ flds k = flds2) ∨ (k = 3 ∧ flds k = flds3) ∨ (k = 4 ∧ flds k = flds4) ∨ (¬ k = 1 ∧ ¬ k = 2 ∧ ¬ k = 3 ∧ ¬ k = 4 ∧ flds k = []) := by
  unfold flds
  by_cases h1 : k = 1
  · simp [h1]
  · by_cases h2 : k = 2
    · simp [h2]
    · by_cases h3 : k = 3
      · simp [h3]
      · by_cases h4 : k = 4
        · simp [h4]
        · simp [h1, h2, h3, h4]
end Sough
namespace Sough
def hasF (l : List Fld) (c : Nat) : Bool := l.any fun f => f.c == c
def onlyL (m : Msg) (l : List Fld) : Msg := ⟨fun c => if c = 0 then m.v 0 else if hasF l c = true ∧ c ≠ 3 then m.v c else 0, if hasF l 3 = true then m.offer else []⟩
def offDec (last : Nat) : List UInt8 → Bool
  | [] => true
  | x :: r => decide (1 ≤ x.toNat ∧ x.toNat < last) && offDec x.toNat r
def offerOk (s : List UInt8) : Bool := offDec 256 s && decide (1 ≤ s.length ∧ s.length ≤ 8)
def fldOk (m : Msg) (f : Fld) : Bool := if f.c = 3 then offerOk m.offer else decide ((f.lo : Int) ≤ m.v f.c ∧ m.v f.c ≤ f.hi)
def cellsN : List Nat := [0, 1, 2, 4, 5, 6, 7, 8, 9, 10, 11, 12]
def Msg.same (a b : Msg) : Bool := cellsN.all (fun c => decide (a.v c = b.v c)) && decide (a.offer = b.offer)
def Msg.right (m : Msg) : Bool := !(flds (m.v 0)).isEmpty && (flds (m.v 0)).all (fldOk m) && m.same (onlyL m (flds (m.v 0)))
structure Msg.Wf (m : Msg) : Prop where
  ints : ∀ c ∈ [0, 4, 5, 6, 7, 8, 9, 10], -9223372036854775808 ≤ m.v c ∧ m.v c ≤ 9223372036854775807
  nats : ∀ c ∈ [1, 2, 11, 12], 0 ≤ m.v c ∧ m.v c ≤ 18446744073709551615
  text : m.offer.length ≤ 9223372036854775807
def fldBytes (m : Msg) (f : Fld) : List UInt8 := if f.c = 3 then putText m.offer else put (m.v f.c).toNat
def Msg.bytes (m : Msg) : List UInt8 := put (m.v 0).toNat ++ (flds (m.v 0)).flatMap (fldBytes m)
def setV (v : Nat → Int) (c : Nat) (x : Int) : Nat → Int := fun k => if k = c then x else v k
def zeroMsg : Msg := ⟨fun _ => 0, []⟩
def kindMsg (k : Int) : Msg := ⟨fun c => if c = 0 then k else 0, []⟩
theorem cell_cases {f : Fld} {k : Int} (h : f ∈ flds k) : f.c = 1 ∨ f.c = 2 ∨ f.c = 3 ∨ f.c = 4 ∨ f.c = 5 ∨ f.c = 6 ∨ f.c = 7 ∨ f.c = 8 ∨ f.c = 9 ∨ f.c = 10 ∨ f.c = 11 ∨ f.c = 12 := by
  have h1 : ∀ f ∈ flds1 ++ flds2 ++ flds3 ++ flds4, f.c = 1 ∨ f.c = 2 ∨ f.c = 3 ∨ f.c = 4 ∨ f.c = 5 ∨ f.c = 6 ∨ f.c = 7 ∨ f.c = 8 ∨ f.c = 9 ∨ f.c = 10 ∨ f.c = 11 ∨ f.c = 12 := by decide
  refine h1 f ?_
  rcases flds_cases k with ⟨_, e⟩ | ⟨_, e⟩ | ⟨_, e⟩ | ⟨_, e⟩ | ⟨_, _, _, _, e⟩ <;> rw [e] at h
  · simp [h]
  · simp [h]
  · simp [h]
  · simp [h]
  · simp at h
theorem fld_bounds {f : Fld} {k : Int} (h : f ∈ flds k) : f.lo ≤ 1 ∧ f.hi ≤ 4294967296 ∧ (f.c ≠ 3 → u64cell f.c = false → f.hi ≤ 1048576) := by
  have h1 : ∀ f ∈ flds1 ++ flds2 ++ flds3 ++ flds4, f.lo ≤ 1 ∧ f.hi ≤ 4294967296 ∧ (f.c ≠ 3 → u64cell f.c = false → f.hi ≤ 1048576) := by decide
  refine h1 f ?_
  rcases flds_cases k with ⟨_, e⟩ | ⟨_, e⟩ | ⟨_, e⟩ | ⟨_, e⟩ | ⟨_, _, _, _, e⟩ <;> rw [e] at h
  · simp [h]
  · simp [h]
  · simp [h]
  · simp [h]
  · simp at h
theorem flds_len (k : Int) : (flds k).length ≤ 8 := by
  rcases flds_cases k with ⟨_, e⟩ | ⟨_, e⟩ | ⟨_, e⟩ | ⟨_, e⟩ | ⟨_, _, _, _, e⟩ <;> rw [e] <;> decide
theorem Msg.Wf.cell {m : Msg} (h : m.Wf) {f : Fld} {k : Int} (hf : f ∈ flds k) (h3 : f.c ≠ 3) : (u64cell f.c = true → 0 ≤ m.v f.c ∧ m.v f.c < 18446744073709551616) ∧ (u64cell f.c = false → -9223372036854775808 ≤ m.v f.c ∧ m.v f.c ≤ 9223372036854775807) := by
  have hi := h.ints
  have hn := h.nats
  rcases cell_cases hf with e | e | e | e | e | e | e | e | e | e | e | e <;> rw [e] at h3 ⊢ <;> simp [u64cell] at h3 ⊢
  · have := hn 1 (by simp); omega
  · have := hn 2 (by simp); omega
  · have := hi 4 (by simp); omega
  · have := hi 5 (by simp); omega
  · have := hi 6 (by simp); omega
  · have := hi 7 (by simp); omega
  · have := hi 8 (by simp); omega
  · have := hi 9 (by simp); omega
  · have := hi 10 (by simp); omega
  · have := hn 11 (by simp); omega
  · have := hn 12 (by simp); omega
theorem onlyL_nil (m : Msg) : onlyL m [] = kindMsg (m.v 0) := by simp [onlyL, kindMsg, hasF]
theorem hasF_snoc (l : List Fld) (f : Fld) (c : Nat) : hasF (l ++ [f]) c = (hasF l c || f.c == c) := by simp [hasF]
theorem onlyL_num {m : Msg} {l : List Fld} {f : Fld} (h0 : f.c ≠ 0) (h3 : f.c ≠ 3) : onlyL m (l ++ [f]) = ⟨setV (onlyL m l).v f.c (m.v f.c), (onlyL m l).offer⟩ := by
  unfold onlyL setV
  congr 1
  · funext c
    simp only [hasF_snoc]
    by_cases e : c = f.c
    · subst e; simp [h0, h3]
    · have : (f.c == c) = false := by simpa using Ne.symm e
      simp [this, e]
  · rw [hasF_snoc]
    have : (f.c == 3) = false := by simpa using h3
    rw [this, Bool.or_false]
theorem onlyL_text {m : Msg} {l : List Fld} {f : Fld} (h3 : f.c = 3) : onlyL m (l ++ [f]) = ⟨(onlyL m l).v, m.offer⟩ := by
  unfold onlyL
  congr 1
  · funext c
    simp only [hasF_snoc]
    by_cases e : c = 3
    · simp [e]
    · have : (f.c == c) = false := by rw [h3]; simpa using Ne.symm e
      simp [this]
  · rw [hasF_snoc, h3]; simp
end Sough
namespace Sough
abbrev Res (α : Type) := Store × Except Nat α
def bnd {α β : Type} (r : Res α) (f : Store → α → Res β) : Res β := match r with
  | (st, .ok a) => f st a
  | (st, .error e) => (st, .error e)
def need (b : Bool) (e : Nat) (st : Store) : Res Unit := if b = true then (st, .ok ()) else (st, .error e)
def res1 (r : Store × Nat × Nat) : Res Int := (r.1, if r.2.2 = 0 then .ok (r.2.1 : Int) else .error r.2.2)
def textT (st : Store) (s : List UInt8) : Res Int := res1 (st.putText s)
def publicT (st : Store) (x : Int) : Res Int := res1 (dhPublic st x)
def wrappingT (st : Store) (x : Int) : Res Int := res1 (kemPublic st x)
def agreedT (st : Store) (x p : Int) : Res Int := res1 (dhAgree st x p)
def unwrappedT (st : Store) (x b : Int) : Res Int := res1 (kemOpen st x b)
def resY (r : Store × Sym × Nat) : Res Sym := (r.1, if r.2.2 = 0 then .ok r.2.1 else .error r.2.2)
def hashT (st : Store) (y : Sym) (x : Int) : Res Sym := resY (symHash st y x)
def mixT (st : Store) (y : Sym) (x : Int) : Res Sym := resY (symMix st y x)
def resYX (r : Store × Sym × Int × Nat) : Res (Sym × Int) := (r.1, if r.2.2.2 = 0 then .ok (r.2.1, r.2.2.1) else .error r.2.2.2)
def sealT (st : Store) (y : Sym) (x : Int) : Res (Sym × Int) := resYX (symSeal st y x)
def openT (st : Store) (y : Sym) (c : Int) : Res (Sym × Int) := resYX (symOpen st y c)
def res2 (r : Store × Nat × Nat × Nat) : Res (Int × Int) := (r.1, if r.2.2.2 = 0 then .ok ((r.2.1 : Int), (r.2.2.1 : Int)) else .error r.2.2.2)
def splitT (st : Store) (y : Sym) : Res (Int × Int) := res2 (symSplit st y)
def wrapT (st : Store) (y : Sym) (p d : Int) : Res (Sym × Int) :=
  bnd (res2 (kemWrap st p d)) fun st b => bnd (hashT st y b.1) fun st y => bnd (mixT st y b.2) fun st y => (st, .ok (y, b.1))
def readT (st : Store) (x : Int) : Res (List UInt8) := if (st.at x).k = 1 then (st, .ok (st.at x).s) else (st, .error 3)
structure Pair where
  dh : Int
  kem : Int
deriving DecidableEq
structure Peer where
  pub : Pair
  p0 : Int
  p1 : Int
deriving DecidableEq
def Peer.psk (p : Peer) (slot : Int) : Int := if slot = 0 then p.p0 else p.p1
structure Pending where
  y : Sym
  e : Int
  ek : Int
  offer : List UInt8
deriving DecidableEq
structure Opened where
  y : Sym
  peer : Int
  version : Int
  stamp : Nat
  e : Int
  ek : Int
  pub : Int
deriving DecidableEq
structure Sesn where
  h : Int
  send : Int
  recv : Int
  version : Int
deriving DecidableEq
def sough : List UInt8 := [115, 111, 117, 103, 104]
def slotText (slot : Int) : List UInt8 := if slot = 0 then [48] else [49]
def firstT (st : Store) (text : List UInt8) (slot : Int) (p : Pair) : Res Sym :=
  bnd (resY (symBegin st sough)) fun st y =>
  bnd (textT st text) fun st x => bnd (hashT st y x) fun st y =>
  bnd (textT st (slotText slot)) fun st x => bnd (hashT st y x) fun st y =>
  bnd (hashT st y p.dh) fun st y => hashT st y p.kem
def publicsT (st : Store) (me : Pair) : Res Pair :=
  bnd (publicT st me.dh) fun st a => bnd (wrappingT st me.kem) fun st b => (st, .ok ⟨a, b⟩)
def initM (frm : Int) (offer : List UInt8) (slot e ek box c1 c2 : Int) : Msg :=
  ⟨fun c => if c = 0 then 1 else if c = 1 then frm else if c = 4 then slot else if c = 6 then e else if c = 7 then ek else if c = 8 then box else if c = 9 then c1 else if c = 10 then c2 else 0, offer⟩
def respM (frm to e box c1 : Int) : Msg :=
  ⟨fun c => if c = 0 then 2 else if c = 1 then frm else if c = 2 then to else if c = 6 then e else if c = 8 then box else if c = 9 then c1 else 0, []⟩
def beginT (st : Store) (me : Pair) (p : Peer) (m : Msg) (stamp : Nat) (d0 d1 d2 : Int) : Res (Msg × Pending) :=
  bnd (need (decide (m.v 4 = 0 ∨ m.v 4 = 1)) 1 st) fun st _ =>
  bnd (firstT st m.offer (m.v 4) p.pub) fun st y =>
  bnd (publicT st d0) fun st e => bnd (hashT st y e) fun st y =>
  bnd (wrappingT st d1) fun st ek => bnd (hashT st y ek) fun st y =>
  bnd (agreedT st d0 p.pub.dh) fun st x => bnd (mixT st y x) fun st y =>
  bnd (wrapT st y p.pub.kem d2) fun st yb =>
  bnd (publicT st me.dh) fun st x => bnd (sealT st yb.1 x) fun st yc =>
  bnd (agreedT st me.dh p.pub.dh) fun st x => bnd (mixT st yc.1 x) fun st y =>
  bnd (mixT st y (p.psk (m.v 4))) fun st y =>
  bnd (textT st (put stamp)) fun st x => bnd (sealT st y x) fun st yd =>
  bnd (need (initM (m.v 1) m.offer (m.v 4) e ek yb.2 yc.2 yd.2).right 3 st) fun st _ =>
  (st, .ok (initM (m.v 1) m.offer (m.v 4) e ek yb.2 yc.2 yd.2, ⟨yd.1, d0, d1, m.offer⟩))
def whoT (st : Store) (peers : List Peer) (x : Int) : Res Nat := match peers.findIdx? fun p => decide (p.pub.dh = x) with
  | some i => (st, .ok i)
  | none => (st, .error 5)
def bothO (a b : List UInt8) : List UInt8 := if offerOk a = true ∧ offerOk b = true then a.filter fun c => b.contains c else []
def bestO (a b : List UInt8) : Nat × Nat :=
  if offerOk a = false ∨ offerOk b = false then (0, 3) else if bothO a b = [] then (0, 11) else (((bothO a b).headD 0).toNat, 0)
def stampT (st : Store) (s : List UInt8) : Res Nat := if (get s 0).2.2 = 0 ∧ (get s 0).2.1 = s.length then (st, .ok (get s 0).1) else (st, .error 3)
def openedT (st : Store) (me : Pair) (peers : List Peer) (text : List UInt8) (m : Msg) : Res Opened :=
  bnd (need (decide (m.v 0 = 1) && m.right) 3 st) fun st _ =>
  bnd (need (decide ((bestO text m.offer).2 = 0)) (bestO text m.offer).2 st) fun st _ =>
  bnd (publicsT st me) fun st p =>
  bnd (firstT st m.offer (m.v 4) p) fun st y =>
  bnd (hashT st y (m.v 6)) fun st y => bnd (hashT st y (m.v 7)) fun st y =>
  bnd (agreedT st me.dh (m.v 6)) fun st x => bnd (mixT st y x) fun st y =>
  bnd (hashT st y (m.v 8)) fun st y =>
  bnd (unwrappedT st me.kem (m.v 8)) fun st x => bnd (mixT st y x) fun st y =>
  bnd (openT st y (m.v 9)) fun st yp =>
  bnd (whoT st peers yp.2) fun st i =>
  bnd (agreedT st me.dh yp.2) fun st x => bnd (mixT st yp.1 x) fun st y =>
  bnd (mixT st y ((peers.getD i ⟨⟨0, 0⟩, 0, 0⟩).psk (m.v 4))) fun st y =>
  bnd (openT st y (m.v 10)) fun st yx => bnd (readT st yx.2) fun st s =>
  bnd (stampT st s) fun st n =>
  (st, .ok ⟨yx.1, i, (bestO text m.offer).1, n, m.v 6, m.v 7, yp.2⟩)
def answerT (st : Store) (o : Opened) (frm to : Int) (d0 d1 : Int) : Res (Msg × Sesn) :=
  bnd (publicT st d0) fun st e => bnd (hashT st o.y e) fun st y =>
  bnd (agreedT st d0 o.e) fun st x => bnd (mixT st y x) fun st y =>
  bnd (agreedT st d0 o.pub) fun st x => bnd (mixT st y x) fun st y =>
  bnd (wrapT st y o.ek d1) fun st yb =>
  bnd (textT st [UInt8.ofNat (o.version % 256).toNat]) fun st x => bnd (sealT st yb.1 x) fun st yc =>
  bnd (splitT st yc.1) fun st ab =>
  bnd (need (respM frm to e yb.2 yc.2).right 3 st) fun st _ =>
  (st, .ok (respM frm to e yb.2 yc.2, ⟨yc.1.h, ab.2, ab.1, o.version⟩))
def finishT (st : Store) (me : Pair) (p : Pending) (m : Msg) : Res Sesn :=
  bnd (need (decide (m.v 0 = 2) && m.right) 3 st) fun st _ =>
  bnd (hashT st p.y (m.v 6)) fun st y =>
  bnd (agreedT st p.e (m.v 6)) fun st x => bnd (mixT st y x) fun st y =>
  bnd (agreedT st me.dh (m.v 6)) fun st x => bnd (mixT st y x) fun st y =>
  bnd (hashT st y (m.v 8)) fun st y =>
  bnd (unwrappedT st p.ek (m.v 8)) fun st x => bnd (mixT st y x) fun st y =>
  bnd (openT st y (m.v 9)) fun st yv => bnd (readT st yv.2) fun st v =>
  bnd (need (decide (v.length = 1)) 3 st) fun st _ =>
  bnd (need (p.offer.contains (v.headD 0)) 11 st) fun st _ =>
  bnd (splitT st yv.1) fun st ab =>
  (st, .ok ⟨yv.1.h, ab.1, ab.2, (v.headD 0).toNat⟩)
end Sough
namespace Go.Proofs.Ytlfgempjjoclbaa
open Go.RowKit Go.Maps Go.ChangeMaps
section
variable {S : List Nat} {w0 W : World} {p : Nat} {st : Sough.Store} {L : List (Nat × Obj)}
theorem SF.put {st' : Sough.Store} {t : Sough.Term} {n er : Nat} (h : SF S w0 W p st L) (ht : t.Wf) (hp : st.put t = (st', n, er)) : Calls Try.prog 24 #[.pointer (some ⟨p, 0, none⟩), .agg #[.int .i64 t.k, .string ⟨t.s.toArray⟩, .int .u64 t.n, .int .i64 t.a, .int .i64 t.b, .int .i64 t.c]] W fun e w' => e = .returned (.tuple #[.int .i64 n, .int .i64 er]) ∧ SF S w0 w' p st' L :=
  h.call (by have := h.ok.put ht; rw [hp] at this; exact this) fun S1 hs => put_any W hs h.ok ht hp
theorem Store.Ok.small {st : Sough.Store} (h : st.Ok) : st.l.length ≤ 1048576 := by have h1 := h.len; have h2 := h.most; omega
theorem SF.get1 {x : Int} {t : Sough.Term} {b : Bool} (h : SF S w0 W p st L) (ht : st.at x = t) (hb : st.has x = b) : Calls Try.prog 68 #[.pointer (some ⟨p, 0, none⟩), .int .i64 x] W fun e w' => e = .returned (.tuple #[.agg #[.int .i64 t.k, .string ⟨t.s.toArray⟩, .int .u64 t.n, .int .i64 t.a, .int .i64 t.b, .int .i64 t.c], .bool b]) ∧ SF S w0 w' p st L := by
  obtain ⟨S1, h1, _⟩ := h.store
  refine (get_any W h1 (Store.Ok.small h.ok) ht hb).mono ?_
  rintro e w' ⟨rfl, hb⟩
  exact ⟨rfl, h.later hb⟩
theorem SF.done {n er : Nat} (h : SF S w0 W p st L) : PutTo w0 S p st n er (.returned (.tuple #[.int .i64 n, .int .i64 er])) W := ⟨rfl, h.to⟩
end
theorem wfT {k a b c : Int} {n : Nat} {s : List UInt8} (hk : 0 ≤ k ∧ k ≤ 100) (hs : s.length ≤ 9223372036854775807) (hn : n < 18446744073709551616) (ha : Sough.Int64 a) (hb : Sough.Int64 b) (hc : Sough.Int64 c) : (⟨k, s, n, a, b, c⟩ : Sough.Term).Wf := ⟨by simp only; omega, ha, hb, hc, hn, hs⟩
theorem int64_zero : Sough.Int64 0 := ⟨by decide, by decide⟩
theorem int64_nat {n : Nat} (h : n ≤ 1048576) : Sough.Int64 n := ⟨by omega, by omega⟩
theorem at_int {st : Sough.Store} (h : st.Ok) (x : Int) : Sough.Int64 (st.at x).a ∧ Sough.Int64 (st.at x).b ∧ Sough.Int64 (st.at x).c := ⟨(Sough.at_wf h x).a, (Sough.at_wf h x).b, (Sough.at_wf h x).c⟩
-- a function that puts one term, and hands on what Put told
set_option maxRecDepth 100000 in
theorem public_any {p n er : Nat} {st st' : Sough.Store} {S : List Nat} {x : Int} (w : World) (h : StoreAt w p st S) (hok : st.Ok) (hx : Sough.Int64 x) (hf : Sough.dhPublic st x = (st', n, er)) : Calls Try.prog 54 #[.pointer (some ⟨p, 0, none⟩), .int .i64 x] w (PutTo w S p st' n er) := by
  have F0 := Lib.hid (SF.start h hok)
  have CP := Lib.hid (F0.out.put (t := ⟨3, [], 0, x, 0, 0⟩) (wfT (by omega) (by simp) (by omega) hx int64_zero int64_zero) hf)
  clear h hok hf
  go_enter Try.func54, Try.ntmps54
  go_wp2_with fail
  refine CP.out.mono ?_
  rintro e w1 ⟨rfl, h1⟩
  have F1 := Lib.hid h1
  clear h1
  go_wp2_with fail
  go_ret2
  exact F1.out.done
set_option maxRecDepth 100000 in
theorem wrapping_any {p n er : Nat} {st st' : Sough.Store} {S : List Nat} {x : Int} (w : World) (h : StoreAt w p st S) (hok : st.Ok) (hx : Sough.Int64 x) (hf : Sough.kemPublic st x = (st', n, er)) : Calls Try.prog 56 #[.pointer (some ⟨p, 0, none⟩), .int .i64 x] w (PutTo w S p st' n er) := by
  have F0 := Lib.hid (SF.start h hok)
  have CP := Lib.hid (F0.out.put (t := ⟨5, [], 0, x, 0, 0⟩) (wfT (by omega) (by simp) (by omega) hx int64_zero int64_zero) hf)
  clear h hok hf
  go_enter Try.func56, Try.ntmps56
  go_wp2_with fail
  refine CP.out.mono ?_
  rintro e w1 ⟨rfl, h1⟩
  have F1 := Lib.hid h1
  clear h1
  go_wp2_with fail
  go_ret2
  exact F1.out.done
set_option maxRecDepth 100000 in
theorem khash_any {p n er : Nat} {st st' : Sough.Store} {S : List Nat} {a b : Int} (w : World) (h : StoreAt w p st S) (hok : st.Ok) (ha : Sough.Int64 a) (hb : Sough.Int64 b) (hf : Sough.kdfHash st a b = (st', n, er)) : Calls Try.prog 74 #[.pointer (some ⟨p, 0, none⟩), .int .i64 a, .int .i64 b] w (PutTo w S p st' n er) := by
  have F0 := Lib.hid (SF.start h hok)
  have CP := Lib.hid (F0.out.put (t := ⟨8, [], 0, a, b, 0⟩) (wfT (by omega) (by simp) (by omega) ha hb int64_zero) hf)
  clear h hok hf
  go_enter Try.func74, Try.ntmps74
  go_wp2_with fail
  refine CP.out.mono ?_
  rintro e w1 ⟨rfl, h1⟩
  have F1 := Lib.hid h1
  clear h1
  go_wp2_with fail
  go_ret2
  exact F1.out.done
set_option maxRecDepth 100000 in
theorem derive_any {p n er k : Nat} {st st' : Sough.Store} {S : List Nat} {a : Int} (w : World) (h : StoreAt w p st S) (hok : st.Ok) (ha : Sough.Int64 a) (hk : k < 18446744073709551616) (hf : Sough.kdfDerive st a k = (st', n, er)) : Calls Try.prog 95 #[.pointer (some ⟨p, 0, none⟩), .int .i64 a, .int .u64 k] w (PutTo w S p st' n er) := by
  have F0 := Lib.hid (SF.start h hok)
  have CP := Lib.hid (F0.out.put (t := ⟨9, [], k, a, 0, 0⟩) (wfT (by omega) (by simp) hk ha int64_zero int64_zero) hf)
  clear h hok hf
  go_enter Try.func95, Try.ntmps95
  go_wp2_with fail
  refine CP.out.mono ?_
  rintro e w1 ⟨rfl, h1⟩
  have F1 := Lib.hid h1
  clear h1
  go_wp2_with fail
  go_ret2
  exact F1.out.done
set_option maxRecDepth 100000 in
theorem aseal_any {p n er k : Nat} {st st' : Sough.Store} {S : List Nat} {a b c : Int} (w : World) (h : StoreAt w p st S) (hok : st.Ok) (ha : Sough.Int64 a) (hb : Sough.Int64 b) (hc : Sough.Int64 c) (hk : k < 18446744073709551616) (hf : Sough.aeadSeal st a k b c = (st', n, er)) : Calls Try.prog 78 #[.pointer (some ⟨p, 0, none⟩), .int .i64 a, .int .u64 k, .int .i64 b, .int .i64 c] w (PutTo w S p st' n er) := by
  have F0 := Lib.hid (SF.start h hok)
  have CP := Lib.hid (F0.out.put (t := ⟨10, [], k, a, b, c⟩) (wfT (by omega) (by simp) hk ha hb hc) hf)
  clear h hok hf
  go_enter Try.func78, Try.ntmps78
  go_wp2_with fail
  refine CP.out.mono ?_
  rintro e w1 ⟨rfl, h1⟩
  have F1 := Lib.hid h1
  clear h1
  go_wp2_with fail
  go_ret2
  exact F1.out.done
set_option maxRecDepth 100000 in
set_option maxHeartbeats 1600000 in
theorem agree_no {p : Nat} {st : Sough.Store} {S : List Nat} {x pb : Int} {t : Sough.Term} (w : World) (h : StoreAt w p st S) (hok : st.Ok) (hb : st.has x = false) (ht : st.at pb = t) : Calls Try.prog 58 #[.pointer (some ⟨p, 0, none⟩), .int .i64 x, .int .i64 pb] w (PutTo w S p st 0 1) := by
  have F0 := Lib.hid (SF.start h hok)
  have CX := Lib.hid (F0.out.get1 (x := x) (t := st.at x) (b := false) rfl hb)
  clear h hok
  go_enter Try.func58, Try.ntmps58
  go_wp2_with fail
  refine (CX.out).mono ?_
  rintro e w1 ⟨rfl, h1⟩
  have F1 := Lib.hid (h1.alloc (.cells #[.int .i64 (st.at x).k, .string ⟨(st.at x).s.toArray⟩, .int .u64 (st.at x).n, .int .i64 (st.at x).a, .int .i64 (st.at x).b, .int .i64 (st.at x).c] 76))
  clear h1 F0
  go_wp2_with fail
  generalize w1.alloc (.cells #[.int .i64 (st.at x).k, .string ⟨(st.at x).s.toArray⟩, .int .u64 (st.at x).n, .int .i64 (st.at x).a, .int .i64 (st.at x).b, .int .i64 (st.at x).c] 76) = W1 at *
  have CP := Lib.hid (F1.out.get1 (x := pb) (t := t) (b := st.has pb) ht rfl)
  refine (CP.out).mono ?_
  rintro e w2 ⟨rfl, h1⟩
  have F2 := Lib.hid (h1.alloc (.cells #[.int .i64 t.k, .string ⟨t.s.toArray⟩, .int .u64 t.n, .int .i64 t.a, .int .i64 t.b, .int .i64 t.c] 76))
  clear h1 F1
  generalize hW : w2.alloc (.cells #[.int .i64 t.k, .string ⟨t.s.toArray⟩, .int .u64 t.n, .int .i64 t.a, .int .i64 t.b, .int .i64 t.c] 76) = W2 at *
  have r := F2.out.mem.rules; simp only [AllCells, CellsAt, Nat.zero_add, Nat.reduceAdd] at r
  go_wp2_with fail
  go_ret2
  exact F2.out.done
set_option maxRecDepth 100000 in
set_option maxHeartbeats 1600000 in
theorem agree_kind {p : Nat} {st : Sough.Store} {S : List Nat} {x pb : Int} {t : Sough.Term} (w : World) (h : StoreAt w p st S) (hok : st.Ok) (hb : st.has x = true) (ht : st.at pb = t) (hk : (t.k == 3) = false) : Calls Try.prog 58 #[.pointer (some ⟨p, 0, none⟩), .int .i64 x, .int .i64 pb] w (PutTo w S p st 0 1) := by
  have F0 := Lib.hid (SF.start h hok)
  have CX := Lib.hid (F0.out.get1 (x := x) (t := st.at x) (b := true) rfl hb)
  clear h hok
  go_enter Try.func58, Try.ntmps58
  go_wp2_with fail
  refine (CX.out).mono ?_
  rintro e w1 ⟨rfl, h1⟩
  have F1 := Lib.hid (h1.alloc (.cells #[.int .i64 (st.at x).k, .string ⟨(st.at x).s.toArray⟩, .int .u64 (st.at x).n, .int .i64 (st.at x).a, .int .i64 (st.at x).b, .int .i64 (st.at x).c] 76))
  clear h1 F0
  go_wp2_with fail
  generalize w1.alloc (.cells #[.int .i64 (st.at x).k, .string ⟨(st.at x).s.toArray⟩, .int .u64 (st.at x).n, .int .i64 (st.at x).a, .int .i64 (st.at x).b, .int .i64 (st.at x).c] 76) = W1 at *
  have CP := Lib.hid (F1.out.get1 (x := pb) (t := t) (b := st.has pb) ht rfl)
  refine (CP.out).mono ?_
  rintro e w2 ⟨rfl, h1⟩
  have F2 := Lib.hid (h1.alloc (.cells #[.int .i64 t.k, .string ⟨t.s.toArray⟩, .int .u64 t.n, .int .i64 t.a, .int .i64 t.b, .int .i64 t.c] 76))
  clear h1 F1
  generalize hW : w2.alloc (.cells #[.int .i64 t.k, .string ⟨t.s.toArray⟩, .int .u64 t.n, .int .i64 t.a, .int .i64 t.b, .int .i64 t.c] 76) = W2 at *
  have r := F2.out.mem.rules; simp only [AllCells, CellsAt, Nat.zero_add, Nat.reduceAdd] at r
  go_wp2_with fail
  go_ret2
  exact F2.out.done
set_option maxRecDepth 100000 in
set_option maxHeartbeats 1600000 in
theorem agree_up {p n er : Nat} {st st' : Sough.Store} {S : List Nat} {x pb : Int} {t : Sough.Term} (w : World) (h : StoreAt w p st S) (hok : st.Ok) (hx : Sough.Int64 x) (hta : Sough.Int64 t.a) (hb : st.has x = true) (ht : st.at pb = t) (hk : (t.k == 3) = true) (hl : ¬ t.a < x) (hf : st.put ⟨4, [], 0, x, t.a, 0⟩ = (st', n, er)) : Calls Try.prog 58 #[.pointer (some ⟨p, 0, none⟩), .int .i64 x, .int .i64 pb] w (PutTo w S p st' n er) := by
  have HX := Lib.hid hx; have HA := Lib.hid hta; have HF := Lib.hid hf
  clear hf hx hta
  have hl2 : x ≤ t.a := by omega
  have F0 := Lib.hid (SF.start h hok)
  have CX := Lib.hid (F0.out.get1 (x := x) (t := st.at x) (b := true) rfl hb)
  clear h hok
  go_enter Try.func58, Try.ntmps58
  go_wp2_with fail
  refine (CX.out).mono ?_
  rintro e w1 ⟨rfl, h1⟩
  have F1 := Lib.hid (h1.alloc (.cells #[.int .i64 (st.at x).k, .string ⟨(st.at x).s.toArray⟩, .int .u64 (st.at x).n, .int .i64 (st.at x).a, .int .i64 (st.at x).b, .int .i64 (st.at x).c] 76))
  clear h1 F0
  go_wp2_with fail
  generalize w1.alloc (.cells #[.int .i64 (st.at x).k, .string ⟨(st.at x).s.toArray⟩, .int .u64 (st.at x).n, .int .i64 (st.at x).a, .int .i64 (st.at x).b, .int .i64 (st.at x).c] 76) = W1 at *
  have CP := Lib.hid (F1.out.get1 (x := pb) (t := t) (b := st.has pb) ht rfl)
  refine (CP.out).mono ?_
  rintro e w2 ⟨rfl, h1⟩
  have F2 := Lib.hid (h1.alloc (.cells #[.int .i64 t.k, .string ⟨t.s.toArray⟩, .int .u64 t.n, .int .i64 t.a, .int .i64 t.b, .int .i64 t.c] 76))
  clear h1 F1
  generalize hW : w2.alloc (.cells #[.int .i64 t.k, .string ⟨t.s.toArray⟩, .int .u64 t.n, .int .i64 t.a, .int .i64 t.b, .int .i64 t.c] 76) = W2 at *
  have r := F2.out.mem.rules; simp only [AllCells, CellsAt, Nat.zero_add, Nat.reduceAdd] at r
  go_wp2_with fail
  have F3 := Lib.hid (F2.out.alloc (.cells #[.int .i64 x, .int .i64 t.a] 26))
  refine (F3.out.put (t := ⟨4, [], 0, x, t.a, 0⟩) (wfT (by omega) (by simp) (by omega) HX.out HA.out int64_zero) HF.out).mono ?_
  rintro e w3 ⟨rfl, h1⟩
  have F4 := Lib.hid h1
  clear h1 r
  go_wp2_with fail
  go_ret2
  exact F4.out.done
set_option maxRecDepth 100000 in
set_option maxHeartbeats 1600000 in
theorem agree_down {p n er : Nat} {st st' : Sough.Store} {S : List Nat} {x pb : Int} {t : Sough.Term} (w : World) (h : StoreAt w p st S) (hok : st.Ok) (hx : Sough.Int64 x) (hta : Sough.Int64 t.a) (hb : st.has x = true) (ht : st.at pb = t) (hk : (t.k == 3) = true) (hl : t.a < x) (hf : st.put ⟨4, [], 0, t.a, x, 0⟩ = (st', n, er)) : Calls Try.prog 58 #[.pointer (some ⟨p, 0, none⟩), .int .i64 x, .int .i64 pb] w (PutTo w S p st' n er) := by
  have HX := Lib.hid hx; have HA := Lib.hid hta; have HF := Lib.hid hf
  clear hf hx hta
  have F0 := Lib.hid (SF.start h hok)
  have CX := Lib.hid (F0.out.get1 (x := x) (t := st.at x) (b := true) rfl hb)
  clear h hok
  go_enter Try.func58, Try.ntmps58
  go_wp2_with fail
  refine (CX.out).mono ?_
  rintro e w1 ⟨rfl, h1⟩
  have F1 := Lib.hid (h1.alloc (.cells #[.int .i64 (st.at x).k, .string ⟨(st.at x).s.toArray⟩, .int .u64 (st.at x).n, .int .i64 (st.at x).a, .int .i64 (st.at x).b, .int .i64 (st.at x).c] 76))
  clear h1 F0
  go_wp2_with fail
  generalize w1.alloc (.cells #[.int .i64 (st.at x).k, .string ⟨(st.at x).s.toArray⟩, .int .u64 (st.at x).n, .int .i64 (st.at x).a, .int .i64 (st.at x).b, .int .i64 (st.at x).c] 76) = W1 at *
  have CP := Lib.hid (F1.out.get1 (x := pb) (t := t) (b := st.has pb) ht rfl)
  refine (CP.out).mono ?_
  rintro e w2 ⟨rfl, h1⟩
  have F2 := Lib.hid (h1.alloc (.cells #[.int .i64 t.k, .string ⟨t.s.toArray⟩, .int .u64 t.n, .int .i64 t.a, .int .i64 t.b, .int .i64 t.c] 76))
  clear h1 F1
  generalize hW : w2.alloc (.cells #[.int .i64 t.k, .string ⟨t.s.toArray⟩, .int .u64 t.n, .int .i64 t.a, .int .i64 t.b, .int .i64 t.c] 76) = W2 at *
  have r := F2.out.mem.rules; simp only [AllCells, CellsAt, Nat.zero_add, Nat.reduceAdd] at r
  go_wp2_with fail
  have F3 := Lib.hid (F2.out.alloc (.cells #[.int .i64 t.a, .int .i64 x] 26))
  refine (F3.out.put (t := ⟨4, [], 0, t.a, x, 0⟩) (wfT (by omega) (by simp) (by omega) HA.out HX.out int64_zero) HF.out).mono ?_
  rintro e w3 ⟨rfl, h1⟩
  have F4 := Lib.hid h1
  clear h1 r
  go_wp2_with fail
  go_ret2
  exact F4.out.done
theorem agree_any {p n er : Nat} {st st' : Sough.Store} {S : List Nat} {x pb : Int} (w : World) (h : StoreAt w p st S) (hok : st.Ok) (hx : Sough.Int64 x) (hf : Sough.dhAgree st x pb = (st', n, er)) : Calls Try.prog 58 #[.pointer (some ⟨p, 0, none⟩), .int .i64 x, .int .i64 pb] w (PutTo w S p st' n er) := by
  unfold Sough.dhAgree at hf
  by_cases hb : st.has x = true
  · by_cases hk : (st.at pb).k = 3
    · rw [if_neg (by simp [hb, hk])] at hf
      have ha := (at_int hok pb).1
      by_cases hl : (st.at pb).a < x
      · rw [if_pos hl] at hf
        exact agree_down w h hok hx ha hb rfl (by simpa using hk) hl hf
      · rw [if_neg hl] at hf
        exact agree_up w h hok hx ha hb rfl (by simpa using hk) hl hf
    · rw [if_pos (.inr hk)] at hf
      simp only [Prod.mk.injEq] at hf
      obtain ⟨rfl, rfl, rfl⟩ := hf
      exact agree_kind w h hok hb rfl (by simpa using hk)
  · rw [if_pos (.inl (by simpa using hb))] at hf
    simp only [Prod.mk.injEq] at hf
    obtain ⟨rfl, rfl, rfl⟩ := hf
    exact agree_no w h hok (by simpa using hb) rfl
end Go.Proofs.Ytlfgempjjoclbaa
namespace Go.Proofs.Ytlfgempjjoclbaa
open Go.RowKit Go.Maps Go.ChangeMaps
def ThereR (l : List Int) (st : Sough.Store) (w : World) (iv : Value) (wr : World) : Prop := ∃ i : Nat, i ≤ l.length ∧ iv = .int .i64 i ∧ (l.take i).all st.has = true ∧ Below w.heap.size w wr
set_option maxRecDepth 100000 in
set_option maxHeartbeats 400000 in
theorem there_any {p g : Nat} {st : Sough.Store} {S : List Nat} {l : List Int} {z : Bool} {T : TypeId} (w : World) (h : StoreAt w p st S) (hok : st.Ok) (hl : l.length ≤ 2) (hg : w.heap[g]? = some (.cells (l.map (Value.int .i64)).toArray T (0, 0))) (hz : l.all st.has = z) :
    Calls Try.prog 76 #[.pointer (some ⟨p, 0, none⟩), .slice (some ⟨g, 0, none⟩) l.length l.length] w fun e w' => e = .returned (.bool z) ∧ Below w.heap.size w w' := by
  have HS := Lib.hid h; have HOK := Lib.hid hok; have HG := Lib.hid hg; have HZ := Lib.hid hz
  clear h hok hg hz
  obtain ⟨m, hm⟩ : ∃ m, m = l.length := ⟨_, rfl⟩
  have HM := Lib.hid hm
  rw [← hm]
  rw [← hm] at hl
  clear hm
  go_enter Try.func76, Try.ntmps76
  go_wp2_with fail
  go_loopw [11] (fun iv wr => ThereR l st w iv wr) (fun iv _ => m - (intOf iv).toNat)
  case atStart => exact ⟨0, Nat.zero_le _, rfl, rfl, Below.refl _ _⟩
  case round =>
    obtain ⟨i, hi, rfl, hok, hbel⟩ := hrel
    rw [← HM.out] at hi
    have HB := Lib.hid hbel; have HT := Lib.hid hok
    clear hbel hok
    by_cases hlt : i < m
    · have hil : i < l.length := by rw [← HM.out]; exact hlt
      have hc := row_cell (w := wr) ((HB.out.block _ (lt_of_block HG.out)).trans HG.out) hil
      have htk : l.take (i + 1) = l.take i ++ [l.getD i 0] := by
        rw [List.take_succ_eq_append_getElem hil, List.getD_eq_getElem?_getD, List.getElem?_eq_getElem hil]; rfl
      have HTK := Lib.hid htk
      clear htk hil
      obtain ⟨y, hy⟩ : ∃ y, y = l.getD i 0 := ⟨_, rfl⟩
      have HY := Lib.hid hy
      rw [← hy] at hc
      clear hy
      obtain ⟨b, hb⟩ : ∃ b, st.has y = b := ⟨_, rfl⟩
      have HBB := Lib.hid hb
      clear hb
      go_wp2_with fail
      refine (get_any wr (HS.out.later HB.out) (Store.Ok.small HOK.out) rfl HBB.out).mono ?_
      rintro e w2 ⟨rfl, hb2⟩
      have HB2 := Lib.hid (ext_trans HB.out (hb2.alloc hb2.size (.cells #[.int .i64 (st.at y).k, .string ⟨(st.at y).s.toArray⟩, .int .u64 (st.at y).n, .int .i64 (st.at y).a, .int .i64 (st.at y).b, .int .i64 (st.at y).c] 76)))
      clear hb2
      cases b
      · have HR : Hid (z = false) := Lib.hid (by
          rw [← HZ.out, ← List.take_append_drop (i + 1) l, HTK.out, List.all_append, List.all_append, List.all_cons, ← HY.out, HBB.out]; simp)
        go_wp2_with fail
        go_ret
        exact ⟨ret_bool HR.out.symm, HB2.out⟩
      · have HR : Hid ((l.take (i + 1)).all st.has = true) := Lib.hid (by
          rw [HTK.out, List.all_append, List.all_cons, ← HY.out, HBB.out, HT.out]; rfl)
        go_wp2_with fail
        go_roundw
        case rel => exact ⟨i + 1, by rw [← HM.out]; omega, rfl, HR.out, HB2.out⟩
        case measure => simp [intOf]; omega
    · obtain rfl : i = m := by omega
      have HR : Hid (z = true) := Lib.hid (by have := HT.out; rw [HM.out, List.take_length] at this; rw [← HZ.out]; exact this)
      go_wp2_with fail
      go_ret
      exact ⟨ret_bool HR.out.symm, HB.out⟩
def PutTo2 (w : World) (S : List Nat) (p : Nat) (st : Sough.Store) (a b er : Nat) (e : Ending) (w' : World) : Prop := e = .returned (.tuple #[.int .i64 a, .int .i64 b, .int .i64 er]) ∧ StoreTo w S p st w'
section
variable {S : List Nat} {w0 W : World} {p : Nat} {st : Sough.Store} {L : List (Nat × Obj)}
theorem SF.done2 {a b er : Nat} (h : SF S w0 W p st L) : PutTo2 w0 S p st a b er (.returned (.tuple #[.int .i64 a, .int .i64 b, .int .i64 er])) W := ⟨rfl, h.to⟩
theorem SF.there {g : Nat} {l : List Int} {z : Bool} {T : TypeId} (h : SF S w0 W p st L) (hl : l.length ≤ 2) (hg : W.heap[g]? = some (.cells (l.map (Value.int .i64)).toArray T (0, 0))) (hz : l.all st.has = z) :
    Calls Try.prog 76 #[.pointer (some ⟨p, 0, none⟩), .slice (some ⟨g, 0, none⟩) l.length l.length] W fun e w' => e = .returned (.bool z) ∧ SF S w0 w' p st L := by
  obtain ⟨S1, h1, _⟩ := h.store
  refine (there_any W h1 h.ok hl hg hz).mono ?_
  rintro e w' ⟨rfl, hb⟩
  exact ⟨rfl, h.later hb⟩
end
set_option maxRecDepth 100000 in
set_option maxHeartbeats 400000 in
theorem wrap_kind {p : Nat} {st : Sough.Store} {S : List Nat} {pb d : Int} {t : Sough.Term} (w : World) (h : StoreAt w p st S) (hok : st.Ok) (ht : st.at pb = t) (hk : (t.k == 5) = false) : Calls Try.prog 59 #[.pointer (some ⟨p, 0, none⟩), .int .i64 pb, .int .i64 d] w (PutTo2 w S p st 0 0 1) := by
  have hk2 : (t.k != 5) = true := by rw [bne, hk]; rfl
  have F0 := Lib.hid (SF.start h hok)
  have CP := Lib.hid (F0.out.get1 (x := pb) (t := t) (b := st.has pb) ht rfl)
  clear h hok ht
  go_enter Try.func59, Try.ntmps59
  go_wp2_with fail
  refine (CP.out).mono ?_
  rintro e w1 ⟨rfl, h1⟩
  have F1 := Lib.hid (h1.alloc (.cells #[.int .i64 t.k, .string ⟨t.s.toArray⟩, .int .u64 t.n, .int .i64 t.a, .int .i64 t.b, .int .i64 t.c] 76))
  clear h1 F0
  go_wp2_with fail
  go_ret3
  exact F1.out.done2
set_option maxRecDepth 100000 in
set_option maxHeartbeats 400000 in
theorem wrap_no {p : Nat} {st : Sough.Store} {S : List Nat} {pb d : Int} {t : Sough.Term} (w : World) (h : StoreAt w p st S) (hok : st.Ok) (ht : st.at pb = t) (hk : (t.k == 5) = true) (hd : st.has d = false) : Calls Try.prog 59 #[.pointer (some ⟨p, 0, none⟩), .int .i64 pb, .int .i64 d] w (PutTo2 w S p st 0 0 1) := by
  have hk2 : (t.k != 5) = false := by rw [bne, hk]; rfl
  have F0 := Lib.hid (SF.start h hok)
  have CP := Lib.hid (F0.out.get1 (x := pb) (t := t) (b := st.has pb) ht rfl)
  clear h hok ht
  go_enter Try.func59, Try.ntmps59
  go_wp2_with fail
  refine (CP.out).mono ?_
  rintro e w1 ⟨rfl, h1⟩
  have F1 := Lib.hid (h1.alloc (.cells #[.int .i64 t.k, .string ⟨t.s.toArray⟩, .int .u64 t.n, .int .i64 t.a, .int .i64 t.b, .int .i64 t.c] 76))
  clear h1 F0
  go_wp2_with fail
  have F2 := Lib.hid (F1.out.alloc (.cells #[.int .i64 d] 3))
  simp only [World.size_alloc] at F2
  refine (F2.out.there (l := [d]) (z := false) (by simp) (F2.out.get 0 rfl) (by simpa using hd)).mono ?_
  rintro e w2 ⟨rfl, h1⟩
  have F3 := Lib.hid h1
  clear h1 F2
  have r := F3.out.mem.rules; simp only [AllCells, CellsAt, Nat.zero_add, Nat.reduceAdd] at r
  go_wp2_with fail
  go_ret3
  exact F3.out.done2
set_option maxRecDepth 100000 in
set_option maxHeartbeats 400000 in
theorem wrap_first {p n er : Nat} {st st' : Sough.Store} {S : List Nat} {pb d : Int} {t : Sough.Term} (w : World) (h : StoreAt w p st S) (hok : st.Ok) (hx : Sough.Int64 d) (hta : Sough.Int64 t.a) (ht : st.at pb = t) (hk : (t.k == 5) = true) (hd : st.has d = true) (hf : st.put ⟨6, [], 0, t.a, d, 0⟩ = (st', n, er)) (he : er ≠ 0) : Calls Try.prog 59 #[.pointer (some ⟨p, 0, none⟩), .int .i64 pb, .int .i64 d] w (PutTo2 w S p st' 0 0 er) := by
  have HF := Lib.hid hf
  clear hf
  have e1 : ((er : Int) == 0) = false := by simp; omega
  have e2 : (er == 0) = false := by simp; omega
  have HX := Lib.hid hx; have HA := Lib.hid hta
  clear hx hta
  have hk2 : (t.k != 5) = false := by rw [bne, hk]; rfl
  have F0 := Lib.hid (SF.start h hok)
  have CP := Lib.hid (F0.out.get1 (x := pb) (t := t) (b := st.has pb) ht rfl)
  clear h hok ht
  go_enter Try.func59, Try.ntmps59
  go_wp2_with fail
  refine (CP.out).mono ?_
  rintro e w1 ⟨rfl, h1⟩
  have F1 := Lib.hid (h1.alloc (.cells #[.int .i64 t.k, .string ⟨t.s.toArray⟩, .int .u64 t.n, .int .i64 t.a, .int .i64 t.b, .int .i64 t.c] 76))
  clear h1 F0
  go_wp2_with fail
  have F2 := Lib.hid (F1.out.alloc (.cells #[.int .i64 d] 3))
  simp only [World.size_alloc] at F2
  refine (F2.out.there (l := [d]) (z := true) (by simp) (F2.out.get 0 rfl) (by simpa using hd)).mono ?_
  rintro e w2 ⟨rfl, h1⟩
  have F3 := Lib.hid h1
  clear h1 F2
  have r := F3.out.mem.rules; simp only [AllCells, CellsAt, Nat.zero_add, Nat.reduceAdd] at r
  go_wp2_with fail
  refine (F3.out.put (t := ⟨6, [], 0, t.a, d, 0⟩) (wfT (by omega) (by simp) (by omega) HA.out HX.out int64_zero) HF.out).mono ?_
  rintro e w3 ⟨rfl, h1⟩
  have F4 := Lib.hid h1
  clear h1 r
  have r := F4.out.mem.rules; simp only [AllCells, CellsAt, Nat.zero_add, Nat.reduceAdd] at r
  go_wp2_with fail
  go_ret3
  exact F4.out.done2
set_option maxRecDepth 100000 in
set_option maxHeartbeats 400000 in
theorem wrap_second {p n n' er : Nat} {st st' st'' : Sough.Store} {S : List Nat} {pb d : Int} {t : Sough.Term} (w : World) (h : StoreAt w p st S) (hok : st.Ok) (hx : Sough.Int64 d) (hta : Sough.Int64 t.a) (ht : st.at pb = t) (hk : (t.k == 5) = true) (hd : st.has d = true) (hf : st.put ⟨6, [], 0, t.a, d, 0⟩ = (st', n, 0)) (hg : st'.put ⟨7, [], 0, t.a, d, 0⟩ = (st'', n', er)) (he : er ≠ 0) : Calls Try.prog 59 #[.pointer (some ⟨p, 0, none⟩), .int .i64 pb, .int .i64 d] w (PutTo2 w S p st'' 0 0 er) := by
  have HF := Lib.hid hf; have HG := Lib.hid hg
  clear hf hg
  have e1 : ((er : Int) == 0) = false := by simp; omega
  have e2 : (er == 0) = false := by simp; omega
  have HX := Lib.hid hx; have HA := Lib.hid hta
  clear hx hta
  have hk2 : (t.k != 5) = false := by rw [bne, hk]; rfl
  have F0 := Lib.hid (SF.start h hok)
  have CP := Lib.hid (F0.out.get1 (x := pb) (t := t) (b := st.has pb) ht rfl)
  clear h hok ht
  go_enter Try.func59, Try.ntmps59
  go_wp2_with fail
  refine (CP.out).mono ?_
  rintro e w1 ⟨rfl, h1⟩
  have F1 := Lib.hid (h1.alloc (.cells #[.int .i64 t.k, .string ⟨t.s.toArray⟩, .int .u64 t.n, .int .i64 t.a, .int .i64 t.b, .int .i64 t.c] 76))
  clear h1 F0
  go_wp2_with fail
  have F2 := Lib.hid (F1.out.alloc (.cells #[.int .i64 d] 3))
  simp only [World.size_alloc] at F2
  refine (F2.out.there (l := [d]) (z := true) (by simp) (F2.out.get 0 rfl) (by simpa using hd)).mono ?_
  rintro e w2 ⟨rfl, h1⟩
  have F3 := Lib.hid h1
  clear h1 F2
  have r := F3.out.mem.rules; simp only [AllCells, CellsAt, Nat.zero_add, Nat.reduceAdd] at r
  go_wp2_with fail
  refine (F3.out.put (t := ⟨6, [], 0, t.a, d, 0⟩) (wfT (by omega) (by simp) (by omega) HA.out HX.out int64_zero) HF.out).mono ?_
  rintro e w3 ⟨rfl, h1⟩
  have F4 := Lib.hid h1
  clear h1 r
  have r := F4.out.mem.rules; simp only [AllCells, CellsAt, Nat.zero_add, Nat.reduceAdd] at r
  go_wp2_with fail
  refine (F4.out.put (t := ⟨7, [], 0, t.a, d, 0⟩) (wfT (by omega) (by simp) (by omega) HA.out HX.out int64_zero) HG.out).mono ?_
  rintro e w4 ⟨rfl, h1⟩
  have F5 := Lib.hid h1
  clear h1 r
  go_wp2_with fail
  go_ret3
  exact F5.out.done2
set_option maxRecDepth 100000 in
set_option maxHeartbeats 400000 in
theorem wrap_ok {p n n' : Nat} {st st' st'' : Sough.Store} {S : List Nat} {pb d : Int} {t : Sough.Term} (w : World) (h : StoreAt w p st S) (hok : st.Ok) (hx : Sough.Int64 d) (hta : Sough.Int64 t.a) (ht : st.at pb = t) (hk : (t.k == 5) = true) (hd : st.has d = true) (hf : st.put ⟨6, [], 0, t.a, d, 0⟩ = (st', n, 0)) (hg : st'.put ⟨7, [], 0, t.a, d, 0⟩ = (st'', n', 0)) : Calls Try.prog 59 #[.pointer (some ⟨p, 0, none⟩), .int .i64 pb, .int .i64 d] w (PutTo2 w S p st'' n n' 0) := by
  have HF := Lib.hid hf; have HG := Lib.hid hg
  clear hf hg
  have HX := Lib.hid hx; have HA := Lib.hid hta
  clear hx hta
  have hk2 : (t.k != 5) = false := by rw [bne, hk]; rfl
  have F0 := Lib.hid (SF.start h hok)
  have CP := Lib.hid (F0.out.get1 (x := pb) (t := t) (b := st.has pb) ht rfl)
  clear h hok ht
  go_enter Try.func59, Try.ntmps59
  go_wp2_with fail
  refine (CP.out).mono ?_
  rintro e w1 ⟨rfl, h1⟩
  have F1 := Lib.hid (h1.alloc (.cells #[.int .i64 t.k, .string ⟨t.s.toArray⟩, .int .u64 t.n, .int .i64 t.a, .int .i64 t.b, .int .i64 t.c] 76))
  clear h1 F0
  go_wp2_with fail
  have F2 := Lib.hid (F1.out.alloc (.cells #[.int .i64 d] 3))
  simp only [World.size_alloc] at F2
  refine (F2.out.there (l := [d]) (z := true) (by simp) (F2.out.get 0 rfl) (by simpa using hd)).mono ?_
  rintro e w2 ⟨rfl, h1⟩
  have F3 := Lib.hid h1
  clear h1 F2
  have r := F3.out.mem.rules; simp only [AllCells, CellsAt, Nat.zero_add, Nat.reduceAdd] at r
  go_wp2_with fail
  refine (F3.out.put (t := ⟨6, [], 0, t.a, d, 0⟩) (wfT (by omega) (by simp) (by omega) HA.out HX.out int64_zero) HF.out).mono ?_
  rintro e w3 ⟨rfl, h1⟩
  have F4 := Lib.hid h1
  clear h1 r
  have r := F4.out.mem.rules; simp only [AllCells, CellsAt, Nat.zero_add, Nat.reduceAdd] at r
  go_wp2_with fail
  refine (F4.out.put (t := ⟨7, [], 0, t.a, d, 0⟩) (wfT (by omega) (by simp) (by omega) HA.out HX.out int64_zero) HG.out).mono ?_
  rintro e w4 ⟨rfl, h1⟩
  have F5 := Lib.hid h1
  clear h1 r
  go_wp2_with fail
  go_ret3
  exact F5.out.done2
theorem wrap_any {p a b er : Nat} {st st' : Sough.Store} {S : List Nat} {pb d : Int} (w : World) (h : StoreAt w p st S) (hok : st.Ok) (hx : Sough.Int64 d) (hf : Sough.kemWrap st pb d = (st', a, b, er)) : Calls Try.prog 59 #[.pointer (some ⟨p, 0, none⟩), .int .i64 pb, .int .i64 d] w (PutTo2 w S p st' a b er) := by
  unfold Sough.kemWrap at hf
  have ha := (at_int hok pb).1
  by_cases hk : (st.at pb).k = 5
  rotate_left
  · rw [if_pos (.inl hk)] at hf
    simp only [Prod.mk.injEq] at hf
    obtain ⟨rfl, rfl, rfl, rfl⟩ := hf
    exact wrap_kind w h hok rfl (by simpa using hk)
  have hk' : ((st.at pb).k == 5) = true := by simpa using hk
  by_cases hd : st.has d = true
  rotate_left
  · have hd : st.has d = false := by simpa using hd
    rw [if_pos (.inr hd)] at hf
    simp only [Prod.mk.injEq] at hf
    obtain ⟨rfl, rfl, rfl, rfl⟩ := hf
    exact wrap_no w h hok rfl hk' hd
  rw [if_neg (by simp [hd, hk])] at hf
  unfold Sough.Store.put2 at hf
  obtain ⟨st1, n1, r1, hp⟩ : ∃ st1 n1 r1, st.put ⟨6, [], 0, (st.at pb).a, d, 0⟩ = (st1, n1, r1) := ⟨_, _, _, rfl⟩
  rw [hp] at hf
  obtain ⟨st2, n2, r2, hq⟩ : ∃ st2 n2 r2, st1.put ⟨7, [], 0, (st.at pb).a, d, 0⟩ = (st2, n2, r2) := ⟨_, _, _, rfl⟩
  simp only [hq] at hf
  by_cases h1 : r1 = 0
  · subst h1
    by_cases h2 : r2 = 0
    · subst h2
      simp only [ne_eq, not_true_eq_false, if_false, Prod.mk.injEq] at hf
      obtain ⟨rfl, rfl, rfl, rfl⟩ := hf
      exact wrap_ok w h hok hx ha rfl hk' hd hp hq
    · simp only [ne_eq, not_true_eq_false, if_false, if_pos h2, h2, not_false_eq_true, if_true, Prod.mk.injEq] at hf
      obtain ⟨rfl, rfl, rfl, rfl⟩ := hf
      exact wrap_second w h hok hx ha rfl hk' hd hp hq h2
  · simp only [ne_eq, h1, not_false_eq_true, if_true, Prod.mk.injEq] at hf
    obtain ⟨rfl, rfl, rfl, rfl⟩ := hf
    exact wrap_first w h hok hx ha rfl hk' hd hp h1
set_option maxRecDepth 100000 in
set_option maxHeartbeats 400000 in
theorem kopen_no {p : Nat} {st : Sough.Store} {S : List Nat} {x c : Int} {t : Sough.Term} (w : World) (h : StoreAt w p st S) (hok : st.Ok) (ht : st.at c = t) (hd : (st.has x && st.has c) = false) : Calls Try.prog 66 #[.pointer (some ⟨p, 0, none⟩), .int .i64 x, .int .i64 c] w (PutTo w S p st 0 1) := by
  have F0 := Lib.hid (SF.start h hok)
  have CP := Lib.hid (F0.out.get1 (x := c) (t := t) (b := st.has c) ht rfl)
  clear h hok ht
  go_enter Try.func66, Try.ntmps66
  go_wp2_with fail
  refine (CP.out).mono ?_
  rintro e w1 ⟨rfl, h1⟩
  have F1 := Lib.hid (h1.alloc (.cells #[.int .i64 t.k, .string ⟨t.s.toArray⟩, .int .u64 t.n, .int .i64 t.a, .int .i64 t.b, .int .i64 t.c] 76))
  clear h1 F0
  go_wp2_with fail
  have F2 := Lib.hid (F1.out.alloc (.cells #[.int .i64 x, .int .i64 c] 3))
  simp only [World.size_alloc] at F2
  refine (F2.out.there (l := [x, c]) (z := false) (by simp) (F2.out.get 0 rfl) (by simpa using hd)).mono ?_
  rintro e w2 ⟨rfl, h1⟩
  have F3 := Lib.hid h1
  clear h1 F2 hd
  have r := F3.out.mem.rules; simp only [AllCells, CellsAt, Nat.zero_add, Nat.reduceAdd] at r
  go_wp2_with fail
  go_ret2
  exact F3.out.done
set_option maxRecDepth 100000 in
set_option maxHeartbeats 400000 in
theorem kopen_kind {p : Nat} {st : Sough.Store} {S : List Nat} {x c : Int} {t : Sough.Term} (w : World) (h : StoreAt w p st S) (hok : st.Ok) (ht : st.at c = t) (hd : (st.has x && st.has c) = true) (hk : (t.k == 6) = false) : Calls Try.prog 66 #[.pointer (some ⟨p, 0, none⟩), .int .i64 x, .int .i64 c] w (PutTo w S p st 0 10) := by
  have hk2 : (t.k != 6) = true := by rw [bne, hk]; rfl
  have F0 := Lib.hid (SF.start h hok)
  have CP := Lib.hid (F0.out.get1 (x := c) (t := t) (b := st.has c) ht rfl)
  clear h hok ht
  go_enter Try.func66, Try.ntmps66
  go_wp2_with fail
  refine (CP.out).mono ?_
  rintro e w1 ⟨rfl, h1⟩
  have F1 := Lib.hid (h1.alloc (.cells #[.int .i64 t.k, .string ⟨t.s.toArray⟩, .int .u64 t.n, .int .i64 t.a, .int .i64 t.b, .int .i64 t.c] 76))
  clear h1 F0
  go_wp2_with fail
  have F2 := Lib.hid (F1.out.alloc (.cells #[.int .i64 x, .int .i64 c] 3))
  simp only [World.size_alloc] at F2
  refine (F2.out.there (l := [x, c]) (z := true) (by simp) (F2.out.get 0 rfl) (by simpa using hd)).mono ?_
  rintro e w2 ⟨rfl, h1⟩
  have F3 := Lib.hid h1
  clear h1 F2 hd
  have r := F3.out.mem.rules; simp only [AllCells, CellsAt, Nat.zero_add, Nat.reduceAdd] at r
  go_wp2_with fail
  go_ret2
  exact F3.out.done
set_option maxRecDepth 100000 in
set_option maxHeartbeats 400000 in
theorem kopen_other {p : Nat} {st : Sough.Store} {S : List Nat} {x c : Int} {t : Sough.Term} (w : World) (h : StoreAt w p st S) (hok : st.Ok) (ht : st.at c = t) (hd : (st.has x && st.has c) = true) (hk : (t.k == 6) = true) (ha : (t.a == x) = false) : Calls Try.prog 66 #[.pointer (some ⟨p, 0, none⟩), .int .i64 x, .int .i64 c] w (PutTo w S p st 0 10) := by
  have hk2 : (t.k != 6) = false := by rw [bne, hk]; rfl
  have ha2 : (t.a != x) = true := by rw [bne, ha]; rfl
  have F0 := Lib.hid (SF.start h hok)
  have CP := Lib.hid (F0.out.get1 (x := c) (t := t) (b := st.has c) ht rfl)
  clear h hok ht
  go_enter Try.func66, Try.ntmps66
  go_wp2_with fail
  refine (CP.out).mono ?_
  rintro e w1 ⟨rfl, h1⟩
  have F1 := Lib.hid (h1.alloc (.cells #[.int .i64 t.k, .string ⟨t.s.toArray⟩, .int .u64 t.n, .int .i64 t.a, .int .i64 t.b, .int .i64 t.c] 76))
  clear h1 F0
  go_wp2_with fail
  have F2 := Lib.hid (F1.out.alloc (.cells #[.int .i64 x, .int .i64 c] 3))
  simp only [World.size_alloc] at F2
  refine (F2.out.there (l := [x, c]) (z := true) (by simp) (F2.out.get 0 rfl) (by simpa using hd)).mono ?_
  rintro e w2 ⟨rfl, h1⟩
  have F3 := Lib.hid h1
  clear h1 F2 hd
  have r := F3.out.mem.rules; simp only [AllCells, CellsAt, Nat.zero_add, Nat.reduceAdd] at r
  go_wp2_with fail
  go_ret2
  exact F3.out.done
set_option maxRecDepth 100000 in
set_option maxHeartbeats 400000 in
theorem kopen_ok {p n er : Nat} {st st' : Sough.Store} {S : List Nat} {x c : Int} {t : Sough.Term} (w : World) (h : StoreAt w p st S) (hok : st.Ok) (hx : Sough.Int64 x) (htb : Sough.Int64 t.b) (ht : st.at c = t) (hd : (st.has x && st.has c) = true) (hk : (t.k == 6) = true) (ha : (t.a == x) = true) (hf : st.put ⟨7, [], 0, x, t.b, 0⟩ = (st', n, er)) : Calls Try.prog 66 #[.pointer (some ⟨p, 0, none⟩), .int .i64 x, .int .i64 c] w (PutTo w S p st' n er) := by
  have HX := Lib.hid hx; have HA := Lib.hid htb; have HF := Lib.hid hf
  clear hf hx htb
  have hk2 : (t.k != 6) = false := by rw [bne, hk]; rfl
  have ha2 : (t.a != x) = false := by rw [bne, ha]; rfl
  have F0 := Lib.hid (SF.start h hok)
  have CP := Lib.hid (F0.out.get1 (x := c) (t := t) (b := st.has c) ht rfl)
  clear h hok ht
  go_enter Try.func66, Try.ntmps66
  go_wp2_with fail
  refine (CP.out).mono ?_
  rintro e w1 ⟨rfl, h1⟩
  have F1 := Lib.hid (h1.alloc (.cells #[.int .i64 t.k, .string ⟨t.s.toArray⟩, .int .u64 t.n, .int .i64 t.a, .int .i64 t.b, .int .i64 t.c] 76))
  clear h1 F0
  go_wp2_with fail
  have F2 := Lib.hid (F1.out.alloc (.cells #[.int .i64 x, .int .i64 c] 3))
  simp only [World.size_alloc] at F2
  refine (F2.out.there (l := [x, c]) (z := true) (by simp) (F2.out.get 0 rfl) (by simpa using hd)).mono ?_
  rintro e w2 ⟨rfl, h1⟩
  have F3 := Lib.hid h1
  clear h1 F2 hd
  have r := F3.out.mem.rules; simp only [AllCells, CellsAt, Nat.zero_add, Nat.reduceAdd] at r
  go_wp2_with fail
  refine (F3.out.put (t := ⟨7, [], 0, x, t.b, 0⟩) (wfT (by omega) (by simp) (by omega) HX.out HA.out int64_zero) HF.out).mono ?_
  rintro e w3 ⟨rfl, h1⟩
  have F4 := Lib.hid h1
  clear h1 r
  go_wp2_with fail
  go_ret2
  exact F4.out.done
theorem kopen_any {p n er : Nat} {st st' : Sough.Store} {S : List Nat} {x c : Int} (w : World) (h : StoreAt w p st S) (hok : st.Ok) (hx : Sough.Int64 x) (hf : Sough.kemOpen st x c = (st', n, er)) : Calls Try.prog 66 #[.pointer (some ⟨p, 0, none⟩), .int .i64 x, .int .i64 c] w (PutTo w S p st' n er) := by
  unfold Sough.kemOpen at hf
  by_cases hd : (st.has x && st.has c) = true
  rotate_left
  · have hd : (st.has x && st.has c) = false := by simpa using hd
    have hd' := hd
    rw [Bool.and_eq_false_iff] at hd'
    rw [if_pos hd'] at hf
    simp only [Prod.mk.injEq] at hf
    obtain ⟨rfl, rfl, rfl⟩ := hf
    exact kopen_no w h hok rfl hd
  have hd' := hd
  rw [Bool.and_eq_true] at hd'
  rw [if_neg (by simp [hd'.1, hd'.2])] at hf
  by_cases hk : (st.at c).k = 6
  rotate_left
  · rw [if_pos (.inl hk)] at hf
    simp only [Prod.mk.injEq] at hf
    obtain ⟨rfl, rfl, rfl⟩ := hf
    exact kopen_kind w h hok rfl hd (by simpa using hk)
  by_cases ha : (st.at c).a = x
  rotate_left
  · rw [if_pos (.inr ha)] at hf
    simp only [Prod.mk.injEq] at hf
    obtain ⟨rfl, rfl, rfl⟩ := hf
    exact kopen_other w h hok rfl hd (by simpa using hk) (by simpa using ha)
  rw [if_neg (by simp [hk, ha])] at hf
  exact kopen_ok w h hok hx (at_int hok c).2.1 rfl hd (by simpa using hk) (by simpa using ha) hf
end Go.Proofs.Ytlfgempjjoclbaa
namespace Go.Proofs.Ytlfgempjjoclbaa
open Go.RowKit Go.Maps Go.ChangeMaps
section
variable {S : List Nat} {w0 W : World} {p : Nat} {st st' : Sough.Store} {L : List (Nat × Obj)}
theorem SF.khash {a b : Int} {n er : Nat} (h : SF S w0 W p st L) (ha : Sough.Int64 a) (hb : Sough.Int64 b) (hf : Sough.kdfHash st a b = (st', n, er)) : Calls Try.prog 74 #[.pointer (some ⟨p, 0, none⟩), .int .i64 a, .int .i64 b] W fun e w' => e = .returned (.tuple #[.int .i64 n, .int .i64 er]) ∧ SF S w0 w' p st' L :=
  h.call (by have := h.ok.put (t := ⟨8, [], 0, a, b, 0⟩) (wfT (by omega) (by simp) (by omega) ha hb int64_zero); unfold Sough.kdfHash at hf; rw [hf] at this; exact this) fun S1 hs => khash_any W hs h.ok ha hb hf
theorem SF.derive {a : Int} {k n er : Nat} (h : SF S w0 W p st L) (ha : Sough.Int64 a) (hk : k < 18446744073709551616) (hf : Sough.kdfDerive st a k = (st', n, er)) : Calls Try.prog 95 #[.pointer (some ⟨p, 0, none⟩), .int .i64 a, .int .u64 k] W fun e w' => e = .returned (.tuple #[.int .i64 n, .int .i64 er]) ∧ SF S w0 w' p st' L :=
  h.call (by have := h.ok.put (t := ⟨9, [], k, a, 0, 0⟩) (wfT (by omega) (by simp) hk ha int64_zero int64_zero); unfold Sough.kdfDerive at hf; rw [hf] at this; exact this) fun S1 hs => derive_any W hs h.ok ha hk hf
end
set_option maxRecDepth 100000 in
set_option maxHeartbeats 400000 in
theorem mix1_no {S : List Nat} {w0 W : World} {p be bh bs k er : Nat} {hh : Int} {st : Sough.Store} (h : SF S w0 W p st [(be, .cells #[.int .i64 er] 39 (0, 0)), (bh, .cells #[.int .i64 hh] 3 (0, 0)), (bs, .cells #[.pointer (some ⟨p, 0, none⟩)] 22 (0, 0))]) (he : er ≠ 0) :
    Calls Try.prog 94 #[.int .u64 k, .pointer (some ⟨be, 0, none⟩), .pointer (some ⟨bs, 0, none⟩), .pointer (some ⟨bh, 0, none⟩)] W fun e w' => e = .returned (.int .i64 0) ∧ SF S w0 w' p st [(be, .cells #[.int .i64 er] 39 (0, 0)), (bh, .cells #[.int .i64 hh] 3 (0, 0)), (bs, .cells #[.pointer (some ⟨p, 0, none⟩)] 22 (0, 0))] := by
  have F := Lib.hid h
  clear h
  have r := F.out.mem.rules; simp only [AllCells, CellsAt, Nat.zero_add, Nat.reduceAdd] at r
  have e1 : ((er : Int) == 0) = false := by simp; omega
  have e2 : (er == 0) = false := by simp; omega
  go_enter Try.func94, Try.ntmps94
  go_wp2_with fail
  go_ret
  exact ⟨rfl, F.out⟩
set_option maxRecDepth 100000 in
set_option maxHeartbeats 400000 in
theorem mix1_yes {S : List Nat} {w0 W : World} {p be bh bs k n er : Nat} {hh : Int} {st st' : Sough.Store} (h : SF S w0 W p st [(be, .cells #[.int .i64 0] 39 (0, 0)), (bh, .cells #[.int .i64 hh] 3 (0, 0)), (bs, .cells #[.pointer (some ⟨p, 0, none⟩)] 22 (0, 0))]) (hk : k < 100) (hi : Sough.Int64 hh) (hf : Sough.kdfDerive st hh k = (st', n, er)) :
    Calls Try.prog 94 #[.int .u64 k, .pointer (some ⟨be, 0, none⟩), .pointer (some ⟨bs, 0, none⟩), .pointer (some ⟨bh, 0, none⟩)] W fun e w' => e = .returned (.int .i64 n) ∧ SF S w0 w' p st' [(be, .cells #[.int .i64 er] 39 (0, 0)), (bh, .cells #[.int .i64 hh] 3 (0, 0)), (bs, .cells #[.pointer (some ⟨p, 0, none⟩)] 22 (0, 0))] := by
  have F := Lib.hid h
  have CD := Lib.hid (F.out.derive hi (by omega) hf)
  clear h hi hf
  have r := F.out.mem.rules; simp only [AllCells, CellsAt, Nat.zero_add, Nat.reduceAdd] at r
  go_enter Try.func94, Try.ntmps94
  go_wp2_with fail
  refine CD.out.mono ?_
  rintro e w1 ⟨rfl, h1⟩
  have F1 := Lib.hid h1
  clear h1 r F
  have r := F1.out.mem.rules; simp only [AllCells, CellsAt, Nat.zero_add, Nat.reduceAdd] at r
  have F2 := Lib.hid (F1.out.set 0 (.int .i64 er))
  go_wp2_with fail
  go_ret
  exact ⟨rfl, F2.out⟩
set_option maxRecDepth 100000 in
set_option maxHeartbeats 400000 in
theorem mix_hash {p n er : Nat} {st st' : Sough.Store} {S : List Nat} {a b : Int} (w : World) (h : StoreAt w p st S) (hok : st.Ok) (ha : Sough.Int64 a) (hb : Sough.Int64 b) (hf : Sough.kdfHash st a b = (st', n, er)) (he : er ≠ 0) : Calls Try.prog 75 #[.pointer (some ⟨p, 0, none⟩), .int .i64 a, .int .i64 b] w (PutTo2 w S p st' 0 0 er) := by
  have e1 : ((er : Int) == 0) = false := by simp; omega
  have e2 : (er == 0) = false := by simp; omega
  have F0 := Lib.hid ((SF.start h hok).alloc (.cells #[.pointer (some ⟨p, 0, none⟩)] 22))
  have CH := Lib.hid (F0.out.khash ha hb hf)
  clear h hok hf ha hb
  have hmf : ∀ (fn : Fn) (first cap : Array Value) (w : World), (Instr.makeFunc fn first cap).run Try.prog w = .ok (.func fn first cap) w := fun _ _ _ _ => rfl
  go_enter Try.func75, Try.ntmps75
  go_wp2_with fail
  refine CH.out.mono ?_
  rintro e w1 ⟨rfl, h1⟩
  have F1 := Lib.hid ((h1.alloc (.cells #[.int .i64 n] 3)).alloc (.cells #[.int .i64 er] 39))
  simp only [World.size_alloc] at F1
  clear h1 CH F0
  go_wp2_with fail
  have rq := F1.out.mem.rulesL; simp only [AllCells, CellsAt, Nat.zero_add, Nat.reduceAdd] at rq
  refine wp_region_later (by kernel_rfl) (by kernel_rfl) ?_
  repeat go_big_quiet_step (fail)
  refine wpQuiet_nil ?_
  rintro ⟨w2, hb⟩
  change Exit.then _ _ _ _ w2
  have F2 := Lib.hid (F1.out.later hb)
  clear hb rq F1
  go_wp2_with fail
  go_ret3
  exact F2.out.done2
theorem int64_of_put {st st' : Sough.Store} {n er : Nat} {t : Sough.Term} (hok : st.Ok) (hf : st.put t = (st', n, er)) : Sough.Int64 n := by
  have := Sough.put_name hok t
  rw [hf] at this
  exact int64_nat this
set_option maxRecDepth 100000 in
set_option maxHeartbeats 400000 in
theorem mix_first {p n n1 er : Nat} {st st' st1 : Sough.Store} {S : List Nat} {a b : Int} (w : World) (h : StoreAt w p st S) (hok : st.Ok) (ha : Sough.Int64 a) (hb : Sough.Int64 b) (hf : Sough.kdfHash st a b = (st', n, 0)) (hd : Sough.kdfDerive st' n 1 = (st1, n1, er)) (he : er ≠ 0) : Calls Try.prog 75 #[.pointer (some ⟨p, 0, none⟩), .int .i64 a, .int .i64 b] w (PutTo2 w S p st1 0 0 er) := by
  have HI := Lib.hid (int64_of_put hok hf)
  have HD := Lib.hid hd
  clear hd
  have e1 : ((er : Int) == 0) = false := by simp; omega
  have e2 : (er == 0) = false := by simp; omega
  have HE := Lib.hid he
  clear he
  have F0 := Lib.hid ((SF.start h hok).alloc (.cells #[.pointer (some ⟨p, 0, none⟩)] 22))
  have CH := Lib.hid (F0.out.khash ha hb hf)
  clear h hok hf ha hb
  have hmf : ∀ (fn : Fn) (first cap : Array Value) (w : World), (Instr.makeFunc fn first cap).run Try.prog w = .ok (.func fn first cap) w := fun _ _ _ _ => rfl
  go_enter Try.func75, Try.ntmps75
  go_wp2_with fail
  refine CH.out.mono ?_
  rintro e w1 ⟨rfl, h1⟩
  have F1 := Lib.hid ((h1.alloc (.cells #[.int .i64 n] 3)).alloc (.cells #[.int .i64 0] 39))
  simp only [World.size_alloc] at F1
  clear h1 CH F0
  go_wp2_with fail
  refine (mix1_yes (k := 1) (be := w1.heap.size + 1) (bh := w1.heap.size) (bs := w.heap.size) F1.out (by omega) HI.out HD.out).mono ?_
  rintro e w2 ⟨rfl, h1⟩
  have F2 := Lib.hid h1
  clear h1 F1
  have r := F2.out.mem.rules; simp only [AllCells, CellsAt, Nat.zero_add, Nat.reduceAdd] at r
  go_wp2_with fail
  clear r
  refine (mix1_no (k := 2) (be := w1.heap.size + 1) (bh := w1.heap.size) (bs := w.heap.size) F2.out HE.out).mono ?_
  rintro e w3 ⟨rfl, h1⟩
  have F3 := Lib.hid h1
  clear h1 F2
  have r := F3.out.mem.rules; simp only [AllCells, CellsAt, Nat.zero_add, Nat.reduceAdd] at r
  go_wp2_with fail
  clear r
  have rq := F3.out.mem.rulesL; simp only [AllCells, CellsAt, Nat.zero_add, Nat.reduceAdd] at rq
  refine wp_region_later (by kernel_rfl) (by kernel_rfl) ?_
  repeat go_big_quiet_step (fail)
  refine wpQuiet_nil ?_
  rintro ⟨w4, hb⟩
  change Exit.then _ _ _ _ w4
  have F4 := Lib.hid (F3.out.later hb)
  clear hb rq F3
  go_wp2_with fail
  go_ret3
  exact F4.out.done2
set_option maxRecDepth 100000 in
set_option maxHeartbeats 400000 in
theorem mix_second {p n n1 n2 er : Nat} {st st' st1 st2 : Sough.Store} {S : List Nat} {a b : Int} (w : World) (h : StoreAt w p st S) (hok : st.Ok) (ha : Sough.Int64 a) (hb : Sough.Int64 b) (hf : Sough.kdfHash st a b = (st', n, 0)) (hd : Sough.kdfDerive st' n 1 = (st1, n1, 0)) (hg : Sough.kdfDerive st1 n 2 = (st2, n2, er)) (he : er ≠ 0) : Calls Try.prog 75 #[.pointer (some ⟨p, 0, none⟩), .int .i64 a, .int .i64 b] w (PutTo2 w S p st2 0 0 er) := by
  have HI := Lib.hid (int64_of_put hok hf)
  have HD := Lib.hid hd; have HG := Lib.hid hg
  clear hd hg
  have e1 : ((er : Int) == 0) = false := by simp; omega
  have e2 : (er == 0) = false := by simp; omega
  clear he
  have F0 := Lib.hid ((SF.start h hok).alloc (.cells #[.pointer (some ⟨p, 0, none⟩)] 22))
  have CH := Lib.hid (F0.out.khash ha hb hf)
  clear h hok hf ha hb
  have hmf : ∀ (fn : Fn) (first cap : Array Value) (w : World), (Instr.makeFunc fn first cap).run Try.prog w = .ok (.func fn first cap) w := fun _ _ _ _ => rfl
  go_enter Try.func75, Try.ntmps75
  go_wp2_with fail
  refine CH.out.mono ?_
  rintro e w1 ⟨rfl, h1⟩
  have F1 := Lib.hid ((h1.alloc (.cells #[.int .i64 n] 3)).alloc (.cells #[.int .i64 0] 39))
  simp only [World.size_alloc] at F1
  clear h1 CH F0
  go_wp2_with fail
  refine (mix1_yes (k := 1) (be := w1.heap.size + 1) (bh := w1.heap.size) (bs := w.heap.size) F1.out (by omega) HI.out HD.out).mono ?_
  rintro e w2 ⟨rfl, h1⟩
  have F2 := Lib.hid h1
  clear h1 F1
  have r := F2.out.mem.rules; simp only [AllCells, CellsAt, Nat.zero_add, Nat.reduceAdd] at r
  go_wp2_with fail
  clear r
  refine (mix1_yes (k := 2) (be := w1.heap.size + 1) (bh := w1.heap.size) (bs := w.heap.size) F2.out (by omega) HI.out HG.out).mono ?_
  rintro e w3 ⟨rfl, h1⟩
  have F3 := Lib.hid h1
  clear h1 F2
  have r := F3.out.mem.rules; simp only [AllCells, CellsAt, Nat.zero_add, Nat.reduceAdd] at r
  go_wp2_with fail
  clear r
  have rq := F3.out.mem.rulesL; simp only [AllCells, CellsAt, Nat.zero_add, Nat.reduceAdd] at rq
  refine wp_region_later (by kernel_rfl) (by kernel_rfl) ?_
  repeat go_big_quiet_step (fail)
  refine wpQuiet_nil ?_
  rintro ⟨w4, hb⟩
  change Exit.then _ _ _ _ w4
  have F4 := Lib.hid (F3.out.later hb)
  clear hb rq F3
  go_wp2_with fail
  go_ret3
  exact F4.out.done2
set_option maxRecDepth 100000 in
set_option maxHeartbeats 400000 in
theorem mix_ok {p n n1 n2 : Nat} {st st' st1 st2 : Sough.Store} {S : List Nat} {a b : Int} (w : World) (h : StoreAt w p st S) (hok : st.Ok) (ha : Sough.Int64 a) (hb : Sough.Int64 b) (hf : Sough.kdfHash st a b = (st', n, 0)) (hd : Sough.kdfDerive st' n 1 = (st1, n1, 0)) (hg : Sough.kdfDerive st1 n 2 = (st2, n2, 0)) : Calls Try.prog 75 #[.pointer (some ⟨p, 0, none⟩), .int .i64 a, .int .i64 b] w (PutTo2 w S p st2 n1 n2 0) := by
  have HI := Lib.hid (int64_of_put hok hf)
  have HD := Lib.hid hd; have HG := Lib.hid hg
  clear hd hg
  have F0 := Lib.hid ((SF.start h hok).alloc (.cells #[.pointer (some ⟨p, 0, none⟩)] 22))
  have CH := Lib.hid (F0.out.khash ha hb hf)
  clear h hok hf ha hb
  have hmf : ∀ (fn : Fn) (first cap : Array Value) (w : World), (Instr.makeFunc fn first cap).run Try.prog w = .ok (.func fn first cap) w := fun _ _ _ _ => rfl
  go_enter Try.func75, Try.ntmps75
  go_wp2_with fail
  refine CH.out.mono ?_
  rintro e w1 ⟨rfl, h1⟩
  have F1 := Lib.hid ((h1.alloc (.cells #[.int .i64 n] 3)).alloc (.cells #[.int .i64 0] 39))
  simp only [World.size_alloc] at F1
  clear h1 CH F0
  go_wp2_with fail
  refine (mix1_yes (k := 1) (be := w1.heap.size + 1) (bh := w1.heap.size) (bs := w.heap.size) F1.out (by omega) HI.out HD.out).mono ?_
  rintro e w2 ⟨rfl, h1⟩
  have F2 := Lib.hid h1
  clear h1 F1
  have r := F2.out.mem.rules; simp only [AllCells, CellsAt, Nat.zero_add, Nat.reduceAdd] at r
  go_wp2_with fail
  clear r
  refine (mix1_yes (k := 2) (be := w1.heap.size + 1) (bh := w1.heap.size) (bs := w.heap.size) F2.out (by omega) HI.out HG.out).mono ?_
  rintro e w3 ⟨rfl, h1⟩
  have F3 := Lib.hid h1
  clear h1 F2
  have r := F3.out.mem.rules; simp only [AllCells, CellsAt, Nat.zero_add, Nat.reduceAdd] at r
  go_wp2_with fail
  clear r
  go_ret3
  exact F3.out.done2
theorem kmix_any {p n1 n2 er : Nat} {st st' : Sough.Store} {S : List Nat} {a b : Int} (w : World) (h : StoreAt w p st S) (hok : st.Ok) (ha : Sough.Int64 a) (hb : Sough.Int64 b) (hf : Sough.kdfMix st a b = (st', n1, n2, er)) : Calls Try.prog 75 #[.pointer (some ⟨p, 0, none⟩), .int .i64 a, .int .i64 b] w (PutTo2 w S p st' n1 n2 er) := by
  unfold Sough.kdfMix at hf
  obtain ⟨s1, m1, r1, h1⟩ : ∃ s1 m1 r1, Sough.kdfHash st a b = (s1, m1, r1) := ⟨_, _, _, rfl⟩
  simp only [h1] at hf
  by_cases e1 : r1 = 0
  rotate_left
  · simp only [ne_eq, e1, not_false_eq_true, if_true, Prod.mk.injEq] at hf
    obtain ⟨rfl, rfl, rfl, rfl⟩ := hf
    exact mix_hash w h hok ha hb h1 e1
  subst e1
  simp only [ne_eq, not_true_eq_false, if_false] at hf
  unfold Sough.Store.put2 at hf
  obtain ⟨s2, m2, r2, h2⟩ : ∃ s2 m2 r2, s1.put ⟨9, [], 1, (m1 : Int), 0, 0⟩ = (s2, m2, r2) := ⟨_, _, _, rfl⟩
  simp only [h2] at hf
  obtain ⟨s3, m3, r3, h3⟩ : ∃ s3 m3 r3, s2.put ⟨9, [], 2, (m1 : Int), 0, 0⟩ = (s3, m3, r3) := ⟨_, _, _, rfl⟩
  simp only [h3] at hf
  by_cases e2 : r2 = 0
  rotate_left
  · simp only [ne_eq, e2, not_false_eq_true, if_true, Prod.mk.injEq] at hf
    obtain ⟨rfl, rfl, rfl, rfl⟩ := hf
    exact mix_first w h hok ha hb h1 h2 e2
  subst e2
  by_cases e3 : r3 = 0
  rotate_left
  · simp only [ne_eq, not_true_eq_false, if_false, e3, not_false_eq_true, if_true, Prod.mk.injEq] at hf
    obtain ⟨rfl, rfl, rfl, rfl⟩ := hf
    exact mix_second w h hok ha hb h1 h2 h3 e3
  subst e3
  simp only [ne_eq, not_true_eq_false, if_false, Prod.mk.injEq] at hf
  obtain ⟨rfl, rfl, rfl, rfl⟩ := hf
  exact mix_ok w h hok ha hb h1 h2 h3
set_option maxRecDepth 100000 in
set_option maxHeartbeats 400000 in
theorem is_any {p : Nat} {st : Sough.Store} {S : List Nat} {x : Int} {b : Bool} (w : World) (h : StoreAt w p st S) (hok : st.Ok) (hb : st.has x = b) : Calls Try.prog 96 #[.pointer (some ⟨p, 0, none⟩), .int .i64 x] w fun e w' => e = .returned (.bool b) ∧ Below w.heap.size w w' := by
  have CG := Lib.hid (get_any w h (Store.Ok.small hok) (x := x) rfl hb)
  clear h hok hb
  go_enter Try.func96, Try.ntmps96
  go_wp2_with fail
  refine CG.out.mono ?_
  rintro e w1 ⟨rfl, h1⟩
  have HB := Lib.hid (h1.alloc h1.size (.cells #[.int .i64 (st.at x).k, .string ⟨(st.at x).s.toArray⟩, .int .u64 (st.at x).n, .int .i64 (st.at x).a, .int .i64 (st.at x).b, .int .i64 (st.at x).c] 76))
  clear h1
  go_wp2_with fail
  go_ret
  exact ⟨rfl, HB.out⟩
theorem SF.is1 {S : List Nat} {w0 W : World} {p : Nat} {st : Sough.Store} {L : List (Nat × Obj)} {x : Int} {b : Bool} (h : SF S w0 W p st L) (hb : st.has x = b) : Calls Try.prog 96 #[.pointer (some ⟨p, 0, none⟩), .int .i64 x] W fun e w' => e = .returned (.bool b) ∧ SF S w0 w' p st L := by
  obtain ⟨S1, h1, _⟩ := h.store
  refine (is_any W h1 h.ok hb).mono ?_
  rintro e w' ⟨rfl, hb⟩
  exact ⟨rfl, h.later hb⟩
def AOTo (w : World) (S : List Nat) (p : Nat) (st : Sough.Store) (x : Int) (er : Nat) (e : Ending) (w' : World) : Prop := e = .returned (.tuple #[.int .i64 x, .int .i64 er]) ∧ StoreTo w S p st w'
theorem SF.doneI {S : List Nat} {w0 W : World} {p : Nat} {st : Sough.Store} {L : List (Nat × Obj)} {x : Int} {er : Nat} (h : SF S w0 W p st L) : AOTo w0 S p st x er (.returned (.tuple #[.int .i64 x, .int .i64 er])) W := ⟨rfl, h.to⟩
set_option maxRecDepth 100000 in
set_option maxHeartbeats 400000 in
theorem ao_1 {p n : Nat} {st : Sough.Store} {S : List Nat} {k b c : Int} (w : World) (h : StoreAt w p st S) (hok : st.Ok) (h1 : st.has k = false) : Calls Try.prog 83 #[.pointer (some ⟨p, 0, none⟩), .int .i64 k, .int .u64 n, .int .i64 b, .int .i64 c] w (AOTo w S p st 0 1) := by
  have H1 := Lib.hid h1
  clear h1
  have F0 := Lib.hid (SF.start h hok)
  clear h hok
  go_enter Try.func83, Try.ntmps83
  go_wp2_with fail
  refine (F0.out.is1 (x := k) (b := false) H1.out).mono ?_
  rintro e w1 ⟨rfl, h1⟩
  have F1 := Lib.hid h1
  clear h1 F0
  go_wp2_with fail
  go_ret2
  exact F1.out.doneI
set_option maxRecDepth 100000 in
set_option maxHeartbeats 400000 in
theorem ao_2 {p n : Nat} {st : Sough.Store} {S : List Nat} {k b c : Int} (w : World) (h : StoreAt w p st S) (hok : st.Ok) (h1 : st.has k = true) (h2 : st.has b = false) : Calls Try.prog 83 #[.pointer (some ⟨p, 0, none⟩), .int .i64 k, .int .u64 n, .int .i64 b, .int .i64 c] w (AOTo w S p st 0 1) := by
  have H1 := Lib.hid h1; have H2 := Lib.hid h2
  clear h1 h2
  have F0 := Lib.hid (SF.start h hok)
  clear h hok
  go_enter Try.func83, Try.ntmps83
  go_wp2_with fail
  refine (F0.out.is1 (x := k) (b := true) H1.out).mono ?_
  rintro e w1 ⟨rfl, h1⟩
  have F1 := Lib.hid h1
  clear h1 F0
  go_wp2_with fail
  refine (F1.out.is1 (x := b) (b := false) H2.out).mono ?_
  rintro e w2 ⟨rfl, h1⟩
  have F2 := Lib.hid h1
  clear h1 F1
  go_wp2_with fail
  go_ret2
  exact F2.out.doneI
set_option maxRecDepth 100000 in
set_option maxHeartbeats 400000 in
theorem ao_3 {p n : Nat} {st : Sough.Store} {S : List Nat} {k b c : Int} (w : World) (h : StoreAt w p st S) (hok : st.Ok) (h1 : st.has k = true) (h2 : st.has b = true) (h3 : st.has c = false) : Calls Try.prog 83 #[.pointer (some ⟨p, 0, none⟩), .int .i64 k, .int .u64 n, .int .i64 b, .int .i64 c] w (AOTo w S p st 0 1) := by
  have H1 := Lib.hid h1; have H2 := Lib.hid h2; have H3 := Lib.hid h3
  clear h1 h2 h3
  have F0 := Lib.hid (SF.start h hok)
  clear h hok
  go_enter Try.func83, Try.ntmps83
  go_wp2_with fail
  refine (F0.out.is1 (x := k) (b := true) H1.out).mono ?_
  rintro e w1 ⟨rfl, h1⟩
  have F1 := Lib.hid h1
  clear h1 F0
  go_wp2_with fail
  refine (F1.out.is1 (x := b) (b := true) H2.out).mono ?_
  rintro e w2 ⟨rfl, h1⟩
  have F2 := Lib.hid h1
  clear h1 F1
  go_wp2_with fail
  refine (F2.out.is1 (x := c) (b := false) H3.out).mono ?_
  rintro e w3 ⟨rfl, h1⟩
  have F3 := Lib.hid h1
  clear h1 F2
  go_wp2_with fail
  go_ret2
  exact F3.out.doneI
set_option maxRecDepth 100000 in
set_option maxHeartbeats 400000 in
theorem ao_kind {p n : Nat} {st : Sough.Store} {S : List Nat} {k b c : Int} {t : Sough.Term} (w : World) (h : StoreAt w p st S) (hok : st.Ok) (h1 : st.has k = true) (h2 : st.has b = true) (h3 : st.has c = true) (ht : st.at c = t) (e1 : (t.k != 10) = true) : Calls Try.prog 83 #[.pointer (some ⟨p, 0, none⟩), .int .i64 k, .int .u64 n, .int .i64 b, .int .i64 c] w (AOTo w S p st 0 9) := by
  have H1 := Lib.hid h1; have H2 := Lib.hid h2; have H3 := Lib.hid h3; have HT := Lib.hid ht
  clear h1 h2 h3 ht
  have F0 := Lib.hid (SF.start h hok)
  clear h hok
  go_enter Try.func83, Try.ntmps83
  go_wp2_with fail
  refine (F0.out.is1 (x := k) (b := true) H1.out).mono ?_
  rintro e w1 ⟨rfl, h1⟩
  have F1 := Lib.hid h1
  clear h1 F0
  go_wp2_with fail
  refine (F1.out.is1 (x := b) (b := true) H2.out).mono ?_
  rintro e w2 ⟨rfl, h1⟩
  have F2 := Lib.hid h1
  clear h1 F1
  go_wp2_with fail
  refine (F2.out.is1 (x := c) (b := true) H3.out).mono ?_
  rintro e w3 ⟨rfl, h1⟩
  have F3 := Lib.hid h1
  clear h1 F2
  go_wp2_with fail
  refine (F3.out.get1 HT.out H3.out).mono ?_
  rintro e w4 ⟨rfl, h1⟩
  have F4 := Lib.hid (h1.alloc (.cells #[.int .i64 t.k, .string ⟨t.s.toArray⟩, .int .u64 t.n, .int .i64 t.a, .int .i64 t.b, .int .i64 t.c] 76))
  clear h1 F3
  go_wp2_with fail
  go_ret2
  exact F4.out.doneI
set_option maxRecDepth 100000 in
set_option maxHeartbeats 400000 in
theorem ao_key {p n : Nat} {st : Sough.Store} {S : List Nat} {k b c : Int} {t : Sough.Term} (w : World) (h : StoreAt w p st S) (hok : st.Ok) (h1 : st.has k = true) (h2 : st.has b = true) (h3 : st.has c = true) (ht : st.at c = t) (e1 : (t.k != 10) = false) (e2 : (t.a != k) = true) : Calls Try.prog 83 #[.pointer (some ⟨p, 0, none⟩), .int .i64 k, .int .u64 n, .int .i64 b, .int .i64 c] w (AOTo w S p st 0 9) := by
  have H1 := Lib.hid h1; have H2 := Lib.hid h2; have H3 := Lib.hid h3; have HT := Lib.hid ht
  clear h1 h2 h3 ht
  have F0 := Lib.hid (SF.start h hok)
  clear h hok
  go_enter Try.func83, Try.ntmps83
  go_wp2_with fail
  refine (F0.out.is1 (x := k) (b := true) H1.out).mono ?_
  rintro e w1 ⟨rfl, h1⟩
  have F1 := Lib.hid h1
  clear h1 F0
  go_wp2_with fail
  refine (F1.out.is1 (x := b) (b := true) H2.out).mono ?_
  rintro e w2 ⟨rfl, h1⟩
  have F2 := Lib.hid h1
  clear h1 F1
  go_wp2_with fail
  refine (F2.out.is1 (x := c) (b := true) H3.out).mono ?_
  rintro e w3 ⟨rfl, h1⟩
  have F3 := Lib.hid h1
  clear h1 F2
  go_wp2_with fail
  refine (F3.out.get1 HT.out H3.out).mono ?_
  rintro e w4 ⟨rfl, h1⟩
  have F4 := Lib.hid (h1.alloc (.cells #[.int .i64 t.k, .string ⟨t.s.toArray⟩, .int .u64 t.n, .int .i64 t.a, .int .i64 t.b, .int .i64 t.c] 76))
  clear h1 F3
  go_wp2_with fail
  go_ret2
  exact F4.out.doneI
set_option maxRecDepth 100000 in
set_option maxHeartbeats 400000 in
theorem ao_num {p n : Nat} {st : Sough.Store} {S : List Nat} {k b c : Int} {t : Sough.Term} (w : World) (h : StoreAt w p st S) (hok : st.Ok) (h1 : st.has k = true) (h2 : st.has b = true) (h3 : st.has c = true) (ht : st.at c = t) (e1 : (t.k != 10) = false) (e2 : (t.a != k) = false) (e3 : ((t.n : Int) != (n : Int)) = true) (e3' : (t.n != n) = true) : Calls Try.prog 83 #[.pointer (some ⟨p, 0, none⟩), .int .i64 k, .int .u64 n, .int .i64 b, .int .i64 c] w (AOTo w S p st 0 9) := by
  have H1 := Lib.hid h1; have H2 := Lib.hid h2; have H3 := Lib.hid h3; have HT := Lib.hid ht
  clear h1 h2 h3 ht
  have F0 := Lib.hid (SF.start h hok)
  clear h hok
  go_enter Try.func83, Try.ntmps83
  go_wp2_with fail
  refine (F0.out.is1 (x := k) (b := true) H1.out).mono ?_
  rintro e w1 ⟨rfl, h1⟩
  have F1 := Lib.hid h1
  clear h1 F0
  go_wp2_with fail
  refine (F1.out.is1 (x := b) (b := true) H2.out).mono ?_
  rintro e w2 ⟨rfl, h1⟩
  have F2 := Lib.hid h1
  clear h1 F1
  go_wp2_with fail
  refine (F2.out.is1 (x := c) (b := true) H3.out).mono ?_
  rintro e w3 ⟨rfl, h1⟩
  have F3 := Lib.hid h1
  clear h1 F2
  go_wp2_with fail
  refine (F3.out.get1 HT.out H3.out).mono ?_
  rintro e w4 ⟨rfl, h1⟩
  have F4 := Lib.hid (h1.alloc (.cells #[.int .i64 t.k, .string ⟨t.s.toArray⟩, .int .u64 t.n, .int .i64 t.a, .int .i64 t.b, .int .i64 t.c] 76))
  clear h1 F3
  go_wp2_with fail
  go_ret2
  exact F4.out.doneI
set_option maxRecDepth 100000 in
set_option maxHeartbeats 400000 in
theorem ao_beside {p n : Nat} {st : Sough.Store} {S : List Nat} {k b c : Int} {t : Sough.Term} (w : World) (h : StoreAt w p st S) (hok : st.Ok) (h1 : st.has k = true) (h2 : st.has b = true) (h3 : st.has c = true) (ht : st.at c = t) (e1 : (t.k != 10) = false) (e2 : (t.a != k) = false) (e3 : ((t.n : Int) != (n : Int)) = false) (e3' : (t.n != n) = false) (e4 : (t.b != b) = true) : Calls Try.prog 83 #[.pointer (some ⟨p, 0, none⟩), .int .i64 k, .int .u64 n, .int .i64 b, .int .i64 c] w (AOTo w S p st 0 9) := by
  have H1 := Lib.hid h1; have H2 := Lib.hid h2; have H3 := Lib.hid h3; have HT := Lib.hid ht
  clear h1 h2 h3 ht
  have F0 := Lib.hid (SF.start h hok)
  clear h hok
  go_enter Try.func83, Try.ntmps83
  go_wp2_with fail
  refine (F0.out.is1 (x := k) (b := true) H1.out).mono ?_
  rintro e w1 ⟨rfl, h1⟩
  have F1 := Lib.hid h1
  clear h1 F0
  go_wp2_with fail
  refine (F1.out.is1 (x := b) (b := true) H2.out).mono ?_
  rintro e w2 ⟨rfl, h1⟩
  have F2 := Lib.hid h1
  clear h1 F1
  go_wp2_with fail
  refine (F2.out.is1 (x := c) (b := true) H3.out).mono ?_
  rintro e w3 ⟨rfl, h1⟩
  have F3 := Lib.hid h1
  clear h1 F2
  go_wp2_with fail
  refine (F3.out.get1 HT.out H3.out).mono ?_
  rintro e w4 ⟨rfl, h1⟩
  have F4 := Lib.hid (h1.alloc (.cells #[.int .i64 t.k, .string ⟨t.s.toArray⟩, .int .u64 t.n, .int .i64 t.a, .int .i64 t.b, .int .i64 t.c] 76))
  clear h1 F3
  go_wp2_with fail
  go_ret2
  exact F4.out.doneI
set_option maxRecDepth 100000 in
set_option maxHeartbeats 400000 in
theorem ao_ok {p n : Nat} {st : Sough.Store} {S : List Nat} {k b c : Int} {t : Sough.Term} (w : World) (h : StoreAt w p st S) (hok : st.Ok) (h1 : st.has k = true) (h2 : st.has b = true) (h3 : st.has c = true) (ht : st.at c = t) (e1 : (t.k != 10) = false) (e2 : (t.a != k) = false) (e3 : ((t.n : Int) != (n : Int)) = false) (e3' : (t.n != n) = false) (e4 : (t.b != b) = false) : Calls Try.prog 83 #[.pointer (some ⟨p, 0, none⟩), .int .i64 k, .int .u64 n, .int .i64 b, .int .i64 c] w (AOTo w S p st t.c 0) := by
  have H1 := Lib.hid h1; have H2 := Lib.hid h2; have H3 := Lib.hid h3; have HT := Lib.hid ht
  clear h1 h2 h3 ht
  have F0 := Lib.hid (SF.start h hok)
  clear h hok
  go_enter Try.func83, Try.ntmps83
  go_wp2_with fail
  refine (F0.out.is1 (x := k) (b := true) H1.out).mono ?_
  rintro e w1 ⟨rfl, h1⟩
  have F1 := Lib.hid h1
  clear h1 F0
  go_wp2_with fail
  refine (F1.out.is1 (x := b) (b := true) H2.out).mono ?_
  rintro e w2 ⟨rfl, h1⟩
  have F2 := Lib.hid h1
  clear h1 F1
  go_wp2_with fail
  refine (F2.out.is1 (x := c) (b := true) H3.out).mono ?_
  rintro e w3 ⟨rfl, h1⟩
  have F3 := Lib.hid h1
  clear h1 F2
  go_wp2_with fail
  refine (F3.out.get1 HT.out H3.out).mono ?_
  rintro e w4 ⟨rfl, h1⟩
  have F4 := Lib.hid (h1.alloc (.cells #[.int .i64 t.k, .string ⟨t.s.toArray⟩, .int .u64 t.n, .int .i64 t.a, .int .i64 t.b, .int .i64 t.c] 76))
  clear h1 F3
  go_wp2_with fail
  go_ret2
  exact F4.out.doneI
theorem aopen_any {p n er : Nat} {st : Sough.Store} {S : List Nat} {k b c x : Int} (w : World) (h : StoreAt w p st S) (hok : st.Ok) (hf : Sough.aeadOpen st k n b c = (x, er)) : Calls Try.prog 83 #[.pointer (some ⟨p, 0, none⟩), .int .i64 k, .int .u64 n, .int .i64 b, .int .i64 c] w (AOTo w S p st x er) := by
  unfold Sough.aeadOpen at hf
  by_cases h1 : st.has k = true
  rotate_left
  · have h1 : st.has k = false := by simpa using h1
    rw [if_pos (.inl h1)] at hf
    obtain ⟨rfl, rfl⟩ := Prod.mk.inj hf
    exact ao_1 w h hok h1
  by_cases h2 : st.has b = true
  rotate_left
  · have h2 : st.has b = false := by simpa using h2
    rw [if_pos (.inr (.inl h2))] at hf
    obtain ⟨rfl, rfl⟩ := Prod.mk.inj hf
    exact ao_2 w h hok h1 h2
  by_cases h3 : st.has c = true
  rotate_left
  · have h3 : st.has c = false := by simpa using h3
    rw [if_pos (.inr (.inr h3))] at hf
    obtain ⟨rfl, rfl⟩ := Prod.mk.inj hf
    exact ao_3 w h hok h1 h2 h3
  rw [if_neg (by simp [h1, h2, h3])] at hf
  by_cases e1 : (st.at c).k = 10
  rotate_left
  · rw [if_pos (.inl e1)] at hf
    obtain ⟨rfl, rfl⟩ := Prod.mk.inj hf
    exact ao_kind w h hok h1 h2 h3 rfl (by simpa using e1)
  by_cases e2 : (st.at c).a = k
  rotate_left
  · rw [if_pos (.inr (.inl e2))] at hf
    obtain ⟨rfl, rfl⟩ := Prod.mk.inj hf
    exact ao_key w h hok h1 h2 h3 rfl (by simpa using e1) (by simpa using e2)
  by_cases e3 : (st.at c).n = n
  rotate_left
  · rw [if_pos (.inr (.inr (.inl e3)))] at hf
    obtain ⟨rfl, rfl⟩ := Prod.mk.inj hf
    exact ao_num w h hok h1 h2 h3 rfl (by simpa using e1) (by simpa using e2) (by simp; omega) (by simpa using e3)
  by_cases e4 : (st.at c).b = b
  rotate_left
  · rw [if_pos (.inr (.inr (.inr e4)))] at hf
    obtain ⟨rfl, rfl⟩ := Prod.mk.inj hf
    exact ao_beside w h hok h1 h2 h3 rfl (by simpa using e1) (by simpa using e2) (by simp; omega) (by simpa using e3) (by simpa using e4)
  rw [if_neg (by simp [e1, e2, e3, e4])] at hf
  obtain ⟨rfl, rfl⟩ := Prod.mk.inj hf
  exact ao_ok w h hok h1 h2 h3 rfl (by simpa using e1) (by simpa using e2) (by simp; omega) (by simpa using e3) (by simpa using e4)
end Go.Proofs.Ytlfgempjjoclbaa
namespace Go
def Exit.fwd (P : Program) (l : Nat) (rest : Code) (Q : Exit → Act → World → Prop) : Exit → Act → World → Prop
  | .goto l', a, w => l' = l ∧ rest.wp P (Exit.noGoto Q) a w
  | e, a, w => Q e a w
theorem Exit.fwd_ret {P : Program} {l : Nat} {rest : Code} {Q : Exit → Act → World → Prop} {a : Act} {w : World} (h : Q .ret a w) : Exit.fwd P l rest Q .ret a w := h
theorem Exit.noGoto_ret' {Q : Exit → Act → World → Prop} {a : Act} {w : World} (h : Q .ret a w) : Exit.noGoto Q .ret a w := h
theorem wp_scope_forward {P : Program} {a : Act} {w : World} {Q : Exit → Act → World → Prop} {c rest : Code} (l : Nat) (hf : findLabel c l = some rest) (h : c.wp P (Exit.fwd P l rest Q) a w) : (Code.scope c).wp P Q a w := by
  refine wp_scope_jumps l (fun a' w' => rest.wp P (Exit.noGoto Q) a' w') (fun _ _ => 0) hf (Code.wp_mono ?_ h) (fun a w hJ => Code.wp_mono ?_ hJ)
  · intro e a w he
    cases e <;> exact he
  · intro e a w he
    cases e <;> first | exact he | exact he.elim
end Go
namespace Go.Proofs.Ytlfgempjjoclbaa
open Go.RowKit Go.Maps Go.ChangeMaps
section
variable {S : List Nat} {w0 W : World} {p : Nat} {st : Sough.Store} {L : List (Nat × Obj)}
theorem SF.set2 {x : Nat × Obj} {k : Nat} {cs : Array Value} {T : TypeId} (h : SF S w0 W p st (x :: (k, .cells cs T (0, 0)) :: L)) (i : Nat) (v : Value) : SF S w0 (W.setCell ⟨k, i, none⟩ v) p st (x :: (k, .cells (cs.setIfInBounds i v) T (0, 0)) :: L) :=
  (((h.perm (List.Perm.swap _ _ _)).set i v).perm (List.Perm.swap _ _ _))
theorem SF.setY {k : Nat} {a b c d : Value} {T : TypeId} (h : SF S w0 W p st ((k, .cells #[a, b, c, d] T (0, 0)) :: L)) (v0 v1 v2 v3 : Value) : SF S w0 ((((W.setCell ⟨k, 0, none⟩ v0).setCell ⟨k, 1, none⟩ v1).setCell ⟨k, 2, none⟩ v2).setCell ⟨k, 3, none⟩ v3) p st ((k, .cells #[v0, v1, v2, v3] T (0, 0)) :: L) :=
  (((h.set 0 v0).set 1 v1).set 2 v2).set 3 v3
theorem SF.kmix {a b : Int} {n1 n2 er : Nat} {st' : Sough.Store} (h : SF S w0 W p st L) (ha : Sough.Int64 a) (hb : Sough.Int64 b) (hf : Sough.kdfMix st a b = (st', n1, n2, er)) : Calls Try.prog 75 #[.pointer (some ⟨p, 0, none⟩), .int .i64 a, .int .i64 b] W fun e w' => e = .returned (.tuple #[.int .i64 n1, .int .i64 n2, .int .i64 er]) ∧ SF S w0 w' p st' L :=
  h.call (by have := Sough.mix_ok h.ok ha hb; rw [hf] at this; exact this) fun S1 hs => kmix_any W hs h.ok ha hb hf
theorem SF.aseal {a b c : Int} {k n er : Nat} {st' : Sough.Store} (h : SF S w0 W p st L) (ha : Sough.Int64 a) (hb : Sough.Int64 b) (hc : Sough.Int64 c) (hk : k < 18446744073709551616) (hf : Sough.aeadSeal st a k b c = (st', n, er)) : Calls Try.prog 78 #[.pointer (some ⟨p, 0, none⟩), .int .i64 a, .int .u64 k, .int .i64 b, .int .i64 c] W fun e w' => e = .returned (.tuple #[.int .i64 n, .int .i64 er]) ∧ SF S w0 w' p st' L :=
  h.call (by have := h.ok.put (t := ⟨10, [], k, a, b, c⟩) (wfT (by omega) (by simp) hk ha hb hc); unfold Sough.aeadSeal at hf; rw [hf] at this; exact this) fun S1 hs => aseal_any W hs h.ok ha hb hc hk hf
theorem SF.aopen {k b c x : Int} {n er : Nat} (h : SF S w0 W p st L) (hf : Sough.aeadOpen st k n b c = (x, er)) : Calls Try.prog 83 #[.pointer (some ⟨p, 0, none⟩), .int .i64 k, .int .u64 n, .int .i64 b, .int .i64 c] W fun e w' => e = .returned (.tuple #[.int .i64 x, .int .i64 er]) ∧ SF S w0 w' p st L :=
  h.call h.ok fun S1 hs => aopen_any W hs h.ok hf
end
def SymTo (w : World) (S : List Nat) (p : Nat) (st : Sough.Store) (y : Sough.Sym) (er : Nat) (e : Ending) (w' : World) : Prop := e = .returned (.tuple #[.agg #[.int .i64 y.ck, .int .i64 y.k, .int .i64 y.h, .int .u64 y.n], .int .i64 er]) ∧ StoreTo w S p st w'
def SymTo3 (w : World) (S : List Nat) (p : Nat) (st : Sough.Store) (y : Sough.Sym) (x : Int) (er : Nat) (e : Ending) (w' : World) : Prop := e = .returned (.tuple #[.agg #[.int .i64 y.ck, .int .i64 y.k, .int .i64 y.h, .int .u64 y.n], .int .i64 x, .int .i64 er]) ∧ StoreTo w S p st w'
set_option maxRecDepth 100000 in
set_option maxHeartbeats 400000 in
theorem shash_er {p n er : Nat} {st st' : Sough.Store} {S : List Nat} {y : Sough.Sym} {x : Int} (w : World) (h : StoreAt w p st S) (hok : st.Ok) (hy : y.Wf) (hx : Sough.Int64 x) (hf : Sough.kdfHash st y.h x = (st', n, er)) (he : er ≠ 0) : Calls Try.prog 55 #[.agg #[.int .i64 y.ck, .int .i64 y.k, .int .i64 y.h, .int .u64 y.n], .pointer (some ⟨p, 0, none⟩), .int .i64 x] w (SymTo w S p st' Sough.zeroY er) := by
  have e1 : ((er : Int) == 0) = false := by simp; omega
  have e2 : (er == 0) = false := by simp; omega
  have e3 : ((er : Int) != 0) = true := by simp; omega
  have F0 := Lib.hid (((SF.start h hok).alloc (.cells #[.int .i64 y.ck, .int .i64 y.k, .int .i64 y.h, .int .u64 y.n] 36)).alloc (.cells #[.int .i64 0, .int .i64 0, .int .i64 0, .int .u64 0] 36))
  simp only [World.size_alloc] at F0
  have CH := Lib.hid (F0.out.khash hy.h hx hf)
  clear h hok hf hx hy
  go_enter Try.func55, Try.ntmps55
  go_wp2_with fail
  refine CH.out.mono ?_
  rintro e w1 ⟨rfl, h1⟩
  have F1 := Lib.hid h1
  clear h1 CH F0
  have r := F1.out.mem.rules; simp only [AllCells, CellsAt, Nat.zero_add, Nat.reduceAdd] at r
  go_wp2_with fail
  have F2 := Lib.hid (F1.out.setY (.int .i64 0) (.int .i64 0) (.int .i64 0) (.int .u64 0))
  have r := F2.out.mem.rules; simp only [AllCells, CellsAt, Nat.zero_add, Nat.reduceAdd] at r
  exact bodyPost_ret (v := .tuple #[.agg #[.int .i64 0, .int .i64 0, .int .i64 0, .int .u64 0], .int .i64 er]) (by simp [results, Try.results55, go_sem, r]) rfl ⟨rfl, F2.out.to⟩
set_option maxRecDepth 100000 in
set_option maxHeartbeats 400000 in
theorem shash_ok {p n : Nat} {st st' : Sough.Store} {S : List Nat} {y : Sough.Sym} {x : Int} (w : World) (h : StoreAt w p st S) (hok : st.Ok) (hy : y.Wf) (hx : Sough.Int64 x) (hf : Sough.kdfHash st y.h x = (st', n, 0)) : Calls Try.prog 55 #[.agg #[.int .i64 y.ck, .int .i64 y.k, .int .i64 y.h, .int .u64 y.n], .pointer (some ⟨p, 0, none⟩), .int .i64 x] w (SymTo w S p st' ⟨y.ck, y.k, n, y.n⟩ 0) := by
  have F0 := Lib.hid (((SF.start h hok).alloc (.cells #[.int .i64 y.ck, .int .i64 y.k, .int .i64 y.h, .int .u64 y.n] 36)).alloc (.cells #[.int .i64 0, .int .i64 0, .int .i64 0, .int .u64 0] 36))
  simp only [World.size_alloc] at F0
  have CH := Lib.hid (F0.out.khash hy.h hx hf)
  clear h hok hf hx hy
  go_enter Try.func55, Try.ntmps55
  go_wp2_with fail
  refine CH.out.mono ?_
  rintro e w1 ⟨rfl, h1⟩
  have F1 := Lib.hid h1
  clear h1 CH F0
  have r := F1.out.mem.rules; simp only [AllCells, CellsAt, Nat.zero_add, Nat.reduceAdd] at r
  go_wp2_with fail
  have F2 := Lib.hid ((F1.out.set2 2 (.int .i64 n)).setY (.int .i64 y.ck) (.int .i64 y.k) (.int .i64 n) (.int .u64 y.n))
  have r := F2.out.mem.rules; simp only [AllCells, CellsAt, Nat.zero_add, Nat.reduceAdd] at r
  exact bodyPost_ret (v := .tuple #[.agg #[.int .i64 y.ck, .int .i64 y.k, .int .i64 n, .int .u64 y.n], .int .i64 0]) (by simp [results, Try.results55, go_sem, r]) rfl ⟨rfl, F2.out.to⟩
theorem shash_any {p er : Nat} {st st' : Sough.Store} {S : List Nat} {y y' : Sough.Sym} {x : Int} (w : World) (h : StoreAt w p st S) (hok : st.Ok) (hy : y.Wf) (hx : Sough.Int64 x) (hf : Sough.symHash st y x = (st', y', er)) : Calls Try.prog 55 #[.agg #[.int .i64 y.ck, .int .i64 y.k, .int .i64 y.h, .int .u64 y.n], .pointer (some ⟨p, 0, none⟩), .int .i64 x] w (SymTo w S p st' y' er) := by
  unfold Sough.symHash at hf
  obtain ⟨s1, n1, r1, h1⟩ : ∃ s1 n1 r1, Sough.kdfHash st y.h x = (s1, n1, r1) := ⟨_, _, _, rfl⟩
  simp only [h1] at hf
  by_cases e1 : r1 = 0
  · subst e1
    simp only [ne_eq, not_true_eq_false, if_false, Prod.mk.injEq] at hf
    obtain ⟨rfl, rfl, rfl⟩ := hf
    exact shash_ok w h hok hy hx h1
  · simp only [ne_eq, e1, not_false_eq_true, if_true, Prod.mk.injEq] at hf
    obtain ⟨rfl, rfl, rfl⟩ := hf
    exact shash_er w h hok hy hx h1 e1
set_option maxRecDepth 100000 in
set_option maxHeartbeats 400000 in
theorem smix_er {p n1 n2 er : Nat} {st st' : Sough.Store} {S : List Nat} {y : Sough.Sym} {x : Int} (w : World) (h : StoreAt w p st S) (hok : st.Ok) (hy : y.Wf) (hx : Sough.Int64 x) (hf : Sough.kdfMix st y.ck x = (st', n1, n2, er)) (he : er ≠ 0) : Calls Try.prog 57 #[.agg #[.int .i64 y.ck, .int .i64 y.k, .int .i64 y.h, .int .u64 y.n], .pointer (some ⟨p, 0, none⟩), .int .i64 x] w (SymTo w S p st' Sough.zeroY er) := by
  have e1 : ((er : Int) == 0) = false := by simp; omega
  have e2 : (er == 0) = false := by simp; omega
  have e3 : ((er : Int) != 0) = true := by simp; omega
  have F0 := Lib.hid (((SF.start h hok).alloc (.cells #[.int .i64 y.ck, .int .i64 y.k, .int .i64 y.h, .int .u64 y.n] 36)).alloc (.cells #[.int .i64 0, .int .i64 0, .int .i64 0, .int .u64 0] 36))
  simp only [World.size_alloc] at F0
  have CH := Lib.hid (F0.out.kmix hy.ck hx hf)
  clear h hok hf hx hy
  go_enter Try.func57, Try.ntmps57
  go_wp2_with fail
  refine CH.out.mono ?_
  rintro e w1 ⟨rfl, h1⟩
  have F1 := Lib.hid h1
  clear h1 CH F0
  have r := F1.out.mem.rules; simp only [AllCells, CellsAt, Nat.zero_add, Nat.reduceAdd] at r
  go_wp2_with fail
  have F2 := Lib.hid (F1.out.setY (.int .i64 0) (.int .i64 0) (.int .i64 0) (.int .u64 0))
  have r := F2.out.mem.rules; simp only [AllCells, CellsAt, Nat.zero_add, Nat.reduceAdd] at r
  exact bodyPost_ret (v := .tuple #[.agg #[.int .i64 0, .int .i64 0, .int .i64 0, .int .u64 0], .int .i64 er]) (by simp [results, Try.results57, go_sem, r]) rfl ⟨rfl, F2.out.to⟩
set_option maxRecDepth 100000 in
set_option maxHeartbeats 400000 in
theorem smix_ok {p n1 n2 : Nat} {st st' : Sough.Store} {S : List Nat} {y : Sough.Sym} {x : Int} (w : World) (h : StoreAt w p st S) (hok : st.Ok) (hy : y.Wf) (hx : Sough.Int64 x) (hf : Sough.kdfMix st y.ck x = (st', n1, n2, 0)) : Calls Try.prog 57 #[.agg #[.int .i64 y.ck, .int .i64 y.k, .int .i64 y.h, .int .u64 y.n], .pointer (some ⟨p, 0, none⟩), .int .i64 x] w (SymTo w S p st' ⟨n1, n2, y.h, 0⟩ 0) := by
  have F0 := Lib.hid (((SF.start h hok).alloc (.cells #[.int .i64 y.ck, .int .i64 y.k, .int .i64 y.h, .int .u64 y.n] 36)).alloc (.cells #[.int .i64 0, .int .i64 0, .int .i64 0, .int .u64 0] 36))
  simp only [World.size_alloc] at F0
  have CH := Lib.hid (F0.out.kmix hy.ck hx hf)
  clear h hok hf hx hy
  go_enter Try.func57, Try.ntmps57
  go_wp2_with fail
  refine CH.out.mono ?_
  rintro e w1 ⟨rfl, h1⟩
  have F1 := Lib.hid h1
  clear h1 CH F0
  have r := F1.out.mem.rules; simp only [AllCells, CellsAt, Nat.zero_add, Nat.reduceAdd] at r
  go_wp2_with fail
  have F2 := Lib.hid (F1.out.setY (.int .i64 n1) (.int .i64 n2) (.int .i64 y.h) (.int .u64 0))
  have r := F2.out.mem.rules; simp only [AllCells, CellsAt, Nat.zero_add, Nat.reduceAdd] at r
  exact bodyPost_ret (v := .tuple #[.agg #[.int .i64 n1, .int .i64 n2, .int .i64 y.h, .int .u64 0], .int .i64 0]) (by simp [results, Try.results57, go_sem, r]) rfl ⟨rfl, F2.out.to⟩
theorem smix_any {p er : Nat} {st st' : Sough.Store} {S : List Nat} {y y' : Sough.Sym} {x : Int} (w : World) (h : StoreAt w p st S) (hok : st.Ok) (hy : y.Wf) (hx : Sough.Int64 x) (hf : Sough.symMix st y x = (st', y', er)) : Calls Try.prog 57 #[.agg #[.int .i64 y.ck, .int .i64 y.k, .int .i64 y.h, .int .u64 y.n], .pointer (some ⟨p, 0, none⟩), .int .i64 x] w (SymTo w S p st' y' er) := by
  unfold Sough.symMix at hf
  obtain ⟨s1, n1, n2, r1, h1⟩ : ∃ s1 n1 n2 r1, Sough.kdfMix st y.ck x = (s1, n1, n2, r1) := ⟨_, _, _, _, rfl⟩
  simp only [h1] at hf
  by_cases e1 : r1 = 0
  · subst e1
    simp only [ne_eq, not_true_eq_false, if_false, Prod.mk.injEq] at hf
    obtain ⟨rfl, rfl, rfl⟩ := hf
    exact smix_ok w h hok hy hx h1
  · simp only [ne_eq, e1, not_false_eq_true, if_true, Prod.mk.injEq] at hf
    obtain ⟨rfl, rfl, rfl⟩ := hf
    exact smix_er w h hok hy hx h1 e1
set_option maxRecDepth 100000 in
set_option maxHeartbeats 1600000 in
theorem eqSym (m q : Sough.Sym) (w : World) : (Op.equalIn 10000 36 (.agg #[.int .i64 m.ck, .int .i64 m.k, .int .i64 m.h, .int .u64 m.n]) (.agg #[.int .i64 q.ck, .int .i64 q.k, .int .i64 q.h, .int .u64 q.n])).run Try.prog w = .ok (decide (m = q)) w := by
  have u1 := Try.underlying3
  have a1 := Try.isAgg3
  have z1 := Try.sizeOf3
  have u2 := Try.underlying32
  have a2 := Try.isAgg32
  have z2 := Try.sizeOf32
  have hS : Try.prog.underlying 36 = some (.struct (Try.prog.fieldsOf 36)) := by kernel_rfl
  rw [show (10000 : Nat) = 9999 + 1 from rfl, run_equalIn_agg w 9999 36 _ _ hS (by kernel_rfl)]
  simp only [Program.fieldsOf, Try.underlying36]
  go_simp
  obtain ⟨a, b, c, d⟩ := m
  obtain ⟨a', b', c', d'⟩ := q
  by_cases h0 : a = a'
  rotate_left
  · simp [h0]
  subst h0
  by_cases h1 : b = b'
  rotate_left
  · simp [h1]
  subst h1
  by_cases h2 : c = c'
  rotate_left
  · simp [h2]
  subst h2
  by_cases h3 : d = d'
  rotate_left
  · simp [h3]
    omega
  subst h3
  simp
set_option maxRecDepth 100000 in
set_option maxHeartbeats 400000 in
theorem ready_any {y : Sough.Sym} {b : Bool} (hb : y.ready = b) (w : World) : Calls Try.prog 77 #[.agg #[.int .i64 y.ck, .int .i64 y.k, .int .i64 y.h, .int .u64 y.n]] w fun e w' => e = .returned (.bool b) ∧ Below w.heap.size w w' := by
  obtain ⟨ck, k, h, n⟩ := y
  unfold Sough.Sym.ready at hb
  simp only at hb ⊢
  have EQ : ∀ w, (Op.equalIn 10000 36 (.agg #[.int .i64 ck, .int .i64 k, .int .i64 h, .int .u64 n]) (.agg #[.int .i64 ck, .int .i64 0, .int .i64 h, .int .u64 n])).run Try.prog w = .ok (decide (k = 0)) w := fun w => (eqSym ⟨ck, k, h, n⟩ ⟨ck, 0, h, n⟩ w).trans (by simp)
  have EG : Try.prog.eqGuardType Try.prog.depth 36 = false := by kernel_rfl
  by_cases h0 : k = 0
  · subst h0
    simp at hb
    subst hb
    simp only [decide_true] at EQ
    go_enter Try.func77, Try.ntmps77
    go_wp2_with fail
    go_ret
    exact ⟨rfl, (Below.refl _ _).alloc (Nat.le_refl _) _⟩
  · rw [decide_eq_true (show k ≠ 0 from h0), Bool.true_and] at hb
    have e : decide (k = 0) = false := decide_eq_false h0
    rw [e] at EQ
    go_enter Try.func77, Try.ntmps77
    go_wp2_with fail
    go_ret
    refine ⟨ret_bool ?_, (Below.refl _ _).alloc (Nat.le_refl _) _⟩
    rw [← hb]
    exact decide_eq_decide.2 (by omega)
section
variable {S : List Nat} {w0 W : World} {p : Nat} {st : Sough.Store} {L : List (Nat × Obj)}
theorem SF.setY2 {q : Nat × Obj} {k : Nat} {a b c d : Value} {T : TypeId} (h : SF S w0 W p st (q :: (k, .cells #[a, b, c, d] T (0, 0)) :: L)) (v0 v1 v2 v3 : Value) : SF S w0 ((((W.setCell ⟨k, 0, none⟩ v0).setCell ⟨k, 1, none⟩ v1).setCell ⟨k, 2, none⟩ v2).setCell ⟨k, 3, none⟩ v3) p st (q :: (k, .cells #[v0, v1, v2, v3] T (0, 0)) :: L) :=
  (((h.set2 0 v0).set2 1 v1).set2 2 v2).set2 3 v3
theorem SF.shash {y y' : Sough.Sym} {x : Int} {er : Nat} {st' : Sough.Store} (h : SF S w0 W p st L) (hy : y.Wf) (hx : Sough.Int64 x) (hf : Sough.symHash st y x = (st', y', er)) : Calls Try.prog 55 #[.agg #[.int .i64 y.ck, .int .i64 y.k, .int .i64 y.h, .int .u64 y.n], .pointer (some ⟨p, 0, none⟩), .int .i64 x] W fun e w' => e = .returned (.tuple #[.agg #[.int .i64 y'.ck, .int .i64 y'.k, .int .i64 y'.h, .int .u64 y'.n], .int .i64 er]) ∧ SF S w0 w' p st' L :=
  h.call (by have := Sough.symHash_ok (y := y) h.ok hy.h hx; rw [hf] at this; exact this) fun S1 hs => shash_any W hs h.ok hy hx hf
theorem SF.smix {y y' : Sough.Sym} {x : Int} {er : Nat} {st' : Sough.Store} (h : SF S w0 W p st L) (hy : y.Wf) (hx : Sough.Int64 x) (hf : Sough.symMix st y x = (st', y', er)) : Calls Try.prog 57 #[.agg #[.int .i64 y.ck, .int .i64 y.k, .int .i64 y.h, .int .u64 y.n], .pointer (some ⟨p, 0, none⟩), .int .i64 x] W fun e w' => e = .returned (.tuple #[.agg #[.int .i64 y'.ck, .int .i64 y'.k, .int .i64 y'.h, .int .u64 y'.n], .int .i64 er]) ∧ SF S w0 w' p st' L :=
  h.call (by have := Sough.symMix_ok (y := y) h.ok hy.ck hx; rw [hf] at this; exact this) fun S1 hs => smix_any W hs h.ok hy hx hf
end
set_option maxRecDepth 100000 in
set_option maxHeartbeats 400000 in
theorem said_bad {p er : Nat} {st : Sough.Store} {S : List Nat} {y : Sough.Sym} {sl x : Int} (w : World) (h : StoreAt w p st S) (hok : st.Ok) (he : er ≠ 0) : Calls Try.prog 79 #[.agg #[.int .i64 y.ck, .int .i64 y.k, .int .i64 y.h, .int .u64 y.n], .pointer (some ⟨p, 0, none⟩), .int .i64 sl, .int .i64 x, .int .i64 er] w (SymTo3 w S p st Sough.zeroY 0 er) := by
  have e1 : ((er : Int) == 0) = false := by simp; omega
  have e2 : (er == 0) = false := by simp; omega
  have e3 : ((er : Int) != 0) = true := by simp; omega
  have F0 := Lib.hid ((((SF.start h hok).alloc (.cells #[.int .i64 y.ck, .int .i64 y.k, .int .i64 y.h, .int .u64 y.n] 36)).alloc (.cells #[.int .i64 0, .int .i64 0, .int .i64 0, .int .u64 0] 36)).alloc (.cells #[.int .i64 0, .int .i64 0, .int .i64 0, .int .u64 0] 36))
  simp only [World.size_alloc] at F0
  clear h hok he
  go_enter Try.func79, Try.ntmps79
  go_wp2_with fail
  refine wp_scope_forward 0 rfl ?_
  go_wp2_with fail
  go_step3
  refine ⟨rfl, ?_⟩
  go_wp2_with fail
  refine Exit.noGoto_ret' ?_
  have r := F0.out.mem.rules; simp only [AllCells, CellsAt, Nat.zero_add, Nat.reduceAdd] at r
  exact bodyPost_ret (v := .tuple #[.agg #[.int .i64 0, .int .i64 0, .int .i64 0, .int .u64 0], .int .i64 0, .int .i64 er]) (by simp [results, Try.results79, go_sem, r]) rfl ⟨rfl, F0.out.to⟩
set_option maxRecDepth 100000 in
set_option maxHeartbeats 1600000 in
theorem said_er {p er : Nat} {st st' : Sough.Store} {S : List Nat} {y z : Sough.Sym} {sl x : Int} (w : World) (h : StoreAt w p st S) (hok : st.Ok) (hy : y.Wf) (hx : Sough.Int64 sl) (hn : y.n < 18446744073709551615) (hf : Sough.symHash st ⟨y.ck, y.k, y.h, y.n + 1⟩ sl = (st', z, er)) (he : er ≠ 0) : Calls Try.prog 79 #[.agg #[.int .i64 y.ck, .int .i64 y.k, .int .i64 y.h, .int .u64 y.n], .pointer (some ⟨p, 0, none⟩), .int .i64 sl, .int .i64 x, .int .i64 0] w (SymTo3 w S p st' Sough.zeroY 0 er) := by
  have e1 : ((er : Int) == 0) = false := by simp; omega
  have e2 : (er == 0) = false := by simp; omega
  have e3 : ((er : Int) != 0) = true := by simp; omega
  have F0 := Lib.hid ((((SF.start h hok).alloc (.cells #[.int .i64 y.ck, .int .i64 y.k, .int .i64 y.h, .int .u64 (y.n + 1 : Nat)] 36)).alloc (.cells #[.int .i64 0, .int .i64 0, .int .i64 0, .int .u64 0] 36)).alloc (.cells #[.int .i64 0, .int .i64 0, .int .i64 0, .int .u64 0] 36))
  simp only [World.size_alloc] at F0
  have CH := Lib.hid (F0.out.shash (y := ⟨y.ck, y.k, y.h, y.n + 1⟩) ⟨hy.ck, hy.k, hy.h, by simp only; omega⟩ hx hf)
  clear h hok hf hx hy
  go_enter Try.func79, Try.ntmps79
  go_wp2_with fail
  refine wp_scope_forward 0 rfl ?_
  go_wp2_with fail
  refine CH.out.mono ?_
  rintro e w1 ⟨rfl, h1⟩
  have F1 := Lib.hid (h1.setY (.int .i64 z.ck) (.int .i64 z.k) (.int .i64 z.h) (.int .u64 z.n))
  clear CH F0
  have r := h1.mem.rules; simp only [AllCells, CellsAt, Nat.zero_add, Nat.reduceAdd] at r
  clear h1
  go_wp2_with fail
  go_step3
  go_wp2_with fail
  refine Exit.noGoto_ret' ?_
  have F2 := Lib.hid (F1.out.setY2 (.int .i64 0) (.int .i64 0) (.int .i64 0) (.int .u64 0))
  have r := F2.out.mem.rules; simp only [AllCells, CellsAt, Nat.zero_add, Nat.reduceAdd] at r
  exact bodyPost_ret (v := .tuple #[.agg #[.int .i64 0, .int .i64 0, .int .i64 0, .int .u64 0], .int .i64 0, .int .i64 er]) (by simp [results, Try.results79, go_sem, r]) rfl ⟨rfl, F2.out.to⟩
set_option maxRecDepth 100000 in
set_option maxHeartbeats 1600000 in
theorem said_ok {p : Nat} {st st' : Sough.Store} {S : List Nat} {y z : Sough.Sym} {sl x : Int} (w : World) (h : StoreAt w p st S) (hok : st.Ok) (hy : y.Wf) (hx : Sough.Int64 sl) (hn : y.n < 18446744073709551615) (hf : Sough.symHash st ⟨y.ck, y.k, y.h, y.n + 1⟩ sl = (st', z, 0)) : Calls Try.prog 79 #[.agg #[.int .i64 y.ck, .int .i64 y.k, .int .i64 y.h, .int .u64 y.n], .pointer (some ⟨p, 0, none⟩), .int .i64 sl, .int .i64 x, .int .i64 0] w (SymTo3 w S p st' z x 0) := by
  have F0 := Lib.hid ((((SF.start h hok).alloc (.cells #[.int .i64 y.ck, .int .i64 y.k, .int .i64 y.h, .int .u64 (y.n + 1 : Nat)] 36)).alloc (.cells #[.int .i64 0, .int .i64 0, .int .i64 0, .int .u64 0] 36)).alloc (.cells #[.int .i64 0, .int .i64 0, .int .i64 0, .int .u64 0] 36))
  simp only [World.size_alloc] at F0
  have CH := Lib.hid (F0.out.shash (y := ⟨y.ck, y.k, y.h, y.n + 1⟩) ⟨hy.ck, hy.k, hy.h, by simp only; omega⟩ hx hf)
  clear h hok hf hx hy
  go_enter Try.func79, Try.ntmps79
  go_wp2_with fail
  refine wp_scope_forward 0 rfl ?_
  go_wp2_with fail
  refine CH.out.mono ?_
  rintro e w1 ⟨rfl, h1⟩
  have F1 := Lib.hid (h1.setY (.int .i64 z.ck) (.int .i64 z.k) (.int .i64 z.h) (.int .u64 z.n))
  clear CH F0
  have r := h1.mem.rules; simp only [AllCells, CellsAt, Nat.zero_add, Nat.reduceAdd] at r
  clear h1
  go_wp2_with fail
  refine Exit.fwd_ret ?_
  have F2 := Lib.hid (F1.out.setY2 (.int .i64 z.ck) (.int .i64 z.k) (.int .i64 z.h) (.int .u64 z.n))
  have r := F2.out.mem.rules; simp only [AllCells, CellsAt, Nat.zero_add, Nat.reduceAdd] at r
  exact bodyPost_ret (v := .tuple #[.agg #[.int .i64 z.ck, .int .i64 z.k, .int .i64 z.h, .int .u64 z.n], .int .i64 x, .int .i64 0]) (by simp [results, Try.results79, go_sem, r]) rfl ⟨rfl, F2.out.to⟩
end Go.Proofs.Ytlfgempjjoclbaa
namespace Sough
theorem aseal_ok {st : Store} {k n : Nat} {a b c : Int} (h : st.Ok) (ha : Int64 a) (hb : Int64 b) (hc : Int64 c) (hn : n < 18446744073709551616) : (aeadSeal st a n b c).1.Ok := h.put (wf_of (by omega) (by simp) hn ha hb hc)
theorem symSaid_ok {st : Store} {y : Sym} {sl x : Int} {er : Nat} (h : st.Ok) (hy : y.Wf) (hs : Int64 sl) : (symSaid st y sl x er).1.Ok := by
  unfold symSaid
  split
  · exact h
  · split
    · exact symHash_ok h hy.h hs
    · exact symHash_ok h hy.h hs
theorem seal_name {st : Store} {k : Nat} {a b c : Int} (h : st.Ok) : Int64 (aeadSeal st a k b c).2.1 := i64_nat (put_name h _)
theorem symSeal_ok {st : Store} {y : Sym} {x : Int} (h : st.Ok) (hy : y.Wf) (hx : Int64 x) : (symSeal st y x).1.Ok := by
  unfold symSeal
  split
  · exact h
  · exact symSaid_ok (aseal_ok (k := 0) h hy.k hy.h hx hy.n) hy (seal_name h)
theorem symOpen_ok {st : Store} {y : Sym} {x : Int} (h : st.Ok) (hy : y.Wf) (hx : Int64 x) : (symOpen st y x).1.Ok := by
  unfold symOpen
  split
  · exact h
  · exact symSaid_ok h hy hx
theorem putText_ok {st : Store} {s : List UInt8} (h : st.Ok) (hs : s.length ≤ 9223372036854775807) : (st.putText s).1.Ok := h.put (wf_of (by omega) hs (by omega) i64_zero i64_zero i64_zero)
theorem symBegin_ok {st : Store} {s : List UInt8} (h : st.Ok) (hs : s.length ≤ 9223372036854775807) : (symBegin st s).1.Ok := by
  unfold symBegin
  split
  · exact putText_ok h hs
  · exact putText_ok h hs
theorem symSplit_ok {st : Store} {y : Sym} (h : st.Ok) (hy : y.Wf) : (symSplit st y).1.Ok := by
  unfold symSplit
  split
  · exact putText_ok h (by simp)
  · exact mix_ok (putText_ok h (by simp)) hy.ck (i64_nat (put_name h _))
theorem symHash_wf {st : Store} {y : Sym} {x : Int} (h : st.Ok) (hy : y.Wf) : (symHash st y x).2.1.Wf := by
  unfold symHash
  split
  · exact zeroY_wf
  · exact ⟨hy.ck, hy.k, i64_nat (put_name h _), hy.n⟩
theorem put2_names {st : Store} {t u : Term} (h : st.Ok) (ht : t.Wf) : Int64 (st.put2 t u).2.1 ∧ Int64 (st.put2 t u).2.2.1 := by
  unfold Store.put2
  split
  · exact ⟨i64_nat (Nat.zero_le _), i64_nat (Nat.zero_le _)⟩
  · split
    · exact ⟨i64_nat (Nat.zero_le _), i64_nat (Nat.zero_le _)⟩
    · exact ⟨i64_nat (put_name h _), i64_nat (put_name (h.put ht) _)⟩
theorem kdfMix_names {st : Store} {a b : Int} (h : st.Ok) (ha : Int64 a) (hb : Int64 b) : Int64 (kdfMix st a b).2.1 ∧ Int64 (kdfMix st a b).2.2.1 := by
  unfold kdfMix
  split
  · exact ⟨i64_nat (Nat.zero_le _), i64_nat (Nat.zero_le _)⟩
  · exact put2_names (hash_ok h ha hb) (wf_of (by omega) (by simp) (by omega) (i64_nat (put_name h _)) i64_zero i64_zero)
theorem symMix_wf {st : Store} {y : Sym} {x : Int} (h : st.Ok) (hy : y.Wf) (hx : Int64 x) : (symMix st y x).2.1.Wf := by
  unfold symMix
  split
  · exact zeroY_wf
  · exact ⟨(kdfMix_names h hy.ck hx).1, (kdfMix_names h hy.ck hx).2, hy.h, by show (0 : Nat) < _; omega⟩
theorem symSaid_wf {st : Store} {y : Sym} {sl x : Int} {er : Nat} (h : st.Ok) (hy : y.Wf) (hn : y.n < 18446744073709551615) : (symSaid st y sl x er).2.1.Wf := by
  unfold symSaid
  split
  · exact zeroY_wf
  · split
    · exact zeroY_wf
    · exact symHash_wf h ⟨hy.ck, hy.k, hy.h, by show y.n + 1 < _; omega⟩
theorem ready_lt {y : Sym} (h : y.ready = true) : y.n < 18446744073709551615 := by
  unfold Sym.ready at h
  rw [Bool.and_eq_true, decide_eq_true_eq, decide_eq_true_eq] at h
  exact h.2
theorem symSeal_wf {st : Store} {y : Sym} {x : Int} (h : st.Ok) (hy : y.Wf) (hx : Int64 x) : (symSeal st y x).2.1.Wf := by
  unfold symSeal
  split
  · exact zeroY_wf
  · rename_i hr
    exact symSaid_wf (aseal_ok (k := 0) h hy.k hy.h hx hy.n) hy (ready_lt (by simpa using hr))
theorem symOpen_wf {st : Store} {y : Sym} {x : Int} (h : st.Ok) (hy : y.Wf) : (symOpen st y x).2.1.Wf := by
  unfold symOpen
  split
  · exact zeroY_wf
  · rename_i hr
    exact symSaid_wf h hy (ready_lt (by simpa using hr))
end Sough
namespace Go.Proofs.Ytlfgempjjoclbaa
open Go.RowKit Go.Maps Go.ChangeMaps
theorem said_any {p er er' : Nat} {st st' : Sough.Store} {S : List Nat} {y z : Sough.Sym} {sl x x' : Int} (w : World) (h : StoreAt w p st S) (hok : st.Ok) (hy : y.Wf) (hx : Sough.Int64 sl) (hn : y.n < 18446744073709551615) (hf : Sough.symSaid st y sl x er = (st', z, x', er')) : Calls Try.prog 79 #[.agg #[.int .i64 y.ck, .int .i64 y.k, .int .i64 y.h, .int .u64 y.n], .pointer (some ⟨p, 0, none⟩), .int .i64 sl, .int .i64 x, .int .i64 er] w (SymTo3 w S p st' z x' er') := by
  unfold Sough.symSaid at hf
  by_cases e0 : er = 0
  rotate_left
  · rw [if_pos e0] at hf
    simp only [Prod.mk.injEq] at hf
    obtain ⟨rfl, rfl, rfl, rfl⟩ := hf
    exact said_bad w h hok e0
  subst e0
  rw [if_neg (by simp)] at hf
  obtain ⟨s1, z1, r1, h1⟩ : ∃ s1 z1 r1, Sough.symHash st ⟨y.ck, y.k, y.h, y.n + 1⟩ sl = (s1, z1, r1) := ⟨_, _, _, rfl⟩
  simp only [h1] at hf
  by_cases e1 : r1 = 0
  · subst e1
    simp only [ne_eq, not_true_eq_false, if_false, Prod.mk.injEq] at hf
    obtain ⟨rfl, rfl, rfl, rfl⟩ := hf
    exact said_ok w h hok hy hx hn h1
  · simp only [ne_eq, e1, not_false_eq_true, if_true, Prod.mk.injEq] at hf
    obtain ⟨rfl, rfl, rfl, rfl⟩ := hf
    exact said_er w h hok hy hx hn h1 e1
section
variable {S : List Nat} {w0 W : World} {p : Nat} {st : Sough.Store} {L : List (Nat × Obj)}
theorem SF.said {y z : Sough.Sym} {sl x x' : Int} {er er' : Nat} {st' : Sough.Store} (h : SF S w0 W p st L) (hy : y.Wf) (hx : Sough.Int64 sl) (hn : y.n < 18446744073709551615) (hf : Sough.symSaid st y sl x er = (st', z, x', er')) : Calls Try.prog 79 #[.agg #[.int .i64 y.ck, .int .i64 y.k, .int .i64 y.h, .int .u64 y.n], .pointer (some ⟨p, 0, none⟩), .int .i64 sl, .int .i64 x, .int .i64 er] W fun e w' => e = .returned (.tuple #[.agg #[.int .i64 z.ck, .int .i64 z.k, .int .i64 z.h, .int .u64 z.n], .int .i64 x', .int .i64 er']) ∧ SF S w0 w' p st' L :=
  h.call (by have := Sough.symSaid_ok (x := x) (er := er) h.ok hy hx; rw [hf] at this; exact this) fun S1 hs => said_any W hs h.ok hy hx hn hf
theorem SF.ready {y : Sough.Sym} {b : Bool} (h : SF S w0 W p st L) (hb : y.ready = b) : Calls Try.prog 77 #[.agg #[.int .i64 y.ck, .int .i64 y.k, .int .i64 y.h, .int .u64 y.n]] W fun e w' => e = .returned (.bool b) ∧ SF S w0 w' p st L := by
  refine (ready_any hb W).mono ?_
  rintro e w' ⟨rfl, hb⟩
  exact ⟨rfl, h.later hb⟩
end
set_option maxRecDepth 100000 in
set_option maxHeartbeats 400000 in
theorem seal_no {p : Nat} {st : Sough.Store} {S : List Nat} {y : Sough.Sym} {x : Int} (w : World) (h : StoreAt w p st S) (hok : st.Ok) (hy : y.Wf) (hx : Sough.Int64 x) (hr : y.ready = false) : Calls Try.prog 60 #[.agg #[.int .i64 y.ck, .int .i64 y.k, .int .i64 y.h, .int .u64 y.n], .pointer (some ⟨p, 0, none⟩), .int .i64 x] w (SymTo3 w S p st Sough.zeroY 0 7) := by
  have F0 := Lib.hid (((SF.start h hok).alloc (.cells #[.int .i64 y.ck, .int .i64 y.k, .int .i64 y.h, .int .u64 y.n] 36)).alloc (.cells #[.int .i64 0, .int .i64 0, .int .i64 0, .int .u64 0] 36))
  simp only [World.size_alloc] at F0
  have CR := Lib.hid (F0.out.ready (y := y) (b := false) hr)
  have HX := Lib.hid hx; have HY := Lib.hid hy; have HR := Lib.hid hr
  clear h hok hx hy hr
  go_enter Try.func60, Try.ntmps60
  go_wp2_with fail
  refine CR.out.mono ?_
  rintro e w1 ⟨rfl, h1⟩
  have F1 := Lib.hid h1
  clear h1 CR F0
  have r := F1.out.mem.rules; simp only [AllCells, CellsAt, Nat.zero_add, Nat.reduceAdd] at r
  go_wp2_with fail
  have F2 := Lib.hid (F1.out.setY (.int .i64 0) (.int .i64 0) (.int .i64 0) (.int .u64 0))
  have r := F2.out.mem.rules; simp only [AllCells, CellsAt, Nat.zero_add, Nat.reduceAdd] at r
  exact bodyPost_ret (v := .tuple #[.agg #[.int .i64 0, .int .i64 0, .int .i64 0, .int .u64 0], .int .i64 0, .int .i64 7]) (by simp [results, Try.results60, go_sem, r]) rfl ⟨rfl, F2.out.to⟩
set_option maxRecDepth 100000 in
set_option maxHeartbeats 400000 in
theorem seal_yes {p n er er' : Nat} {st st1 st' : Sough.Store} {S : List Nat} {y z : Sough.Sym} {x x' : Int} (w : World) (h : StoreAt w p st S) (hok : st.Ok) (hy : y.Wf) (hx : Sough.Int64 x) (hr : y.ready = true) (hf : Sough.aeadSeal st y.k y.n y.h x = (st1, n, er)) (hg : Sough.symSaid st1 y n n er = (st', z, x', er')) : Calls Try.prog 60 #[.agg #[.int .i64 y.ck, .int .i64 y.k, .int .i64 y.h, .int .u64 y.n], .pointer (some ⟨p, 0, none⟩), .int .i64 x] w (SymTo3 w S p st' z x' er') := by
  have HF := Lib.hid hf; have HG := Lib.hid hg
  have HN := Lib.hid (show Sough.Int64 n by have := Sough.seal_name (k := y.n) (a := y.k) (b := y.h) (c := x) hok; rw [hf] at this; exact this)
  clear hf hg
  have F0 := Lib.hid (((SF.start h hok).alloc (.cells #[.int .i64 y.ck, .int .i64 y.k, .int .i64 y.h, .int .u64 y.n] 36)).alloc (.cells #[.int .i64 0, .int .i64 0, .int .i64 0, .int .u64 0] 36))
  simp only [World.size_alloc] at F0
  have CR := Lib.hid (F0.out.ready (y := y) (b := true) hr)
  have HX := Lib.hid hx; have HY := Lib.hid hy; have HR := Lib.hid hr
  clear h hok hx hy hr
  go_enter Try.func60, Try.ntmps60
  go_wp2_with fail
  refine CR.out.mono ?_
  rintro e w1 ⟨rfl, h1⟩
  have F1 := Lib.hid h1
  clear h1 CR F0
  have r := F1.out.mem.rules; simp only [AllCells, CellsAt, Nat.zero_add, Nat.reduceAdd] at r
  go_wp2_with fail
  refine (F1.out.aseal HY.out.k HY.out.h HX.out HY.out.n HF.out).mono ?_
  rintro e w2 ⟨rfl, h1⟩
  have F2 := Lib.hid h1
  clear h1 F1 r
  have r := F2.out.mem.rules; simp only [AllCells, CellsAt, Nat.zero_add, Nat.reduceAdd] at r
  go_wp2_with fail
  refine (F2.out.said HY.out HN.out (Sough.ready_lt HR.out) HG.out).mono ?_
  rintro e w3 ⟨rfl, h1⟩
  have F3 := Lib.hid (h1.setY (.int .i64 z.ck) (.int .i64 z.k) (.int .i64 z.h) (.int .u64 z.n))
  clear F2 r
  have r := h1.mem.rules; simp only [AllCells, CellsAt, Nat.zero_add, Nat.reduceAdd] at r
  clear h1
  go_wp2_with fail
  clear r
  have r := F3.out.mem.rules; simp only [AllCells, CellsAt, Nat.zero_add, Nat.reduceAdd] at r
  exact bodyPost_ret (v := .tuple #[.agg #[.int .i64 z.ck, .int .i64 z.k, .int .i64 z.h, .int .u64 z.n], .int .i64 x', .int .i64 er']) (by simp [results, Try.results60, go_sem, r]) rfl ⟨rfl, F3.out.to⟩
theorem seal_any {p er : Nat} {st st' : Sough.Store} {S : List Nat} {y z : Sough.Sym} {x x' : Int} (w : World) (h : StoreAt w p st S) (hok : st.Ok) (hy : y.Wf) (hx : Sough.Int64 x) (hf : Sough.symSeal st y x = (st', z, x', er)) : Calls Try.prog 60 #[.agg #[.int .i64 y.ck, .int .i64 y.k, .int .i64 y.h, .int .u64 y.n], .pointer (some ⟨p, 0, none⟩), .int .i64 x] w (SymTo3 w S p st' z x' er) := by
  unfold Sough.symSeal at hf
  by_cases hr : y.ready = true
  · rw [if_neg (by simp [hr])] at hf
    exact seal_yes w h hok hy hx hr rfl hf
  · have hr : y.ready = false := by simpa using hr
    rw [if_pos hr] at hf
    simp only [Prod.mk.injEq] at hf
    obtain ⟨rfl, rfl, rfl, rfl⟩ := hf
    exact seal_no w h hok hy hx hr
set_option maxRecDepth 100000 in
set_option maxHeartbeats 400000 in
theorem open_no {p : Nat} {st : Sough.Store} {S : List Nat} {y : Sough.Sym} {x : Int} (w : World) (h : StoreAt w p st S) (hok : st.Ok) (hy : y.Wf) (hx : Sough.Int64 x) (hr : y.ready = false) : Calls Try.prog 67 #[.agg #[.int .i64 y.ck, .int .i64 y.k, .int .i64 y.h, .int .u64 y.n], .pointer (some ⟨p, 0, none⟩), .int .i64 x] w (SymTo3 w S p st Sough.zeroY 0 7) := by
  have F0 := Lib.hid (((SF.start h hok).alloc (.cells #[.int .i64 y.ck, .int .i64 y.k, .int .i64 y.h, .int .u64 y.n] 36)).alloc (.cells #[.int .i64 0, .int .i64 0, .int .i64 0, .int .u64 0] 36))
  simp only [World.size_alloc] at F0
  have CR := Lib.hid (F0.out.ready (y := y) (b := false) hr)
  have HX := Lib.hid hx; have HY := Lib.hid hy; have HR := Lib.hid hr
  clear h hok hx hy hr
  go_enter Try.func67, Try.ntmps67
  go_wp2_with fail
  refine CR.out.mono ?_
  rintro e w1 ⟨rfl, h1⟩
  have F1 := Lib.hid h1
  clear h1 CR F0
  have r := F1.out.mem.rules; simp only [AllCells, CellsAt, Nat.zero_add, Nat.reduceAdd] at r
  go_wp2_with fail
  have F2 := Lib.hid (F1.out.setY (.int .i64 0) (.int .i64 0) (.int .i64 0) (.int .u64 0))
  have r := F2.out.mem.rules; simp only [AllCells, CellsAt, Nat.zero_add, Nat.reduceAdd] at r
  exact bodyPost_ret (v := .tuple #[.agg #[.int .i64 0, .int .i64 0, .int .i64 0, .int .u64 0], .int .i64 0, .int .i64 7]) (by simp [results, Try.results67, go_sem, r]) rfl ⟨rfl, F2.out.to⟩
set_option maxRecDepth 100000 in
set_option maxHeartbeats 400000 in
theorem open_yes {p er er' : Nat} {st st' : Sough.Store} {S : List Nat} {y z : Sough.Sym} {x x1 x' : Int} (w : World) (h : StoreAt w p st S) (hok : st.Ok) (hy : y.Wf) (hx : Sough.Int64 x) (hr : y.ready = true) (hf : Sough.aeadOpen st y.k y.n y.h x = (x1, er)) (hg : Sough.symSaid st y x x1 er = (st', z, x', er')) : Calls Try.prog 67 #[.agg #[.int .i64 y.ck, .int .i64 y.k, .int .i64 y.h, .int .u64 y.n], .pointer (some ⟨p, 0, none⟩), .int .i64 x] w (SymTo3 w S p st' z x' er') := by
  have HF := Lib.hid hf; have HG := Lib.hid hg
  clear hf hg
  have F0 := Lib.hid (((SF.start h hok).alloc (.cells #[.int .i64 y.ck, .int .i64 y.k, .int .i64 y.h, .int .u64 y.n] 36)).alloc (.cells #[.int .i64 0, .int .i64 0, .int .i64 0, .int .u64 0] 36))
  simp only [World.size_alloc] at F0
  have CR := Lib.hid (F0.out.ready (y := y) (b := true) hr)
  have HX := Lib.hid hx; have HY := Lib.hid hy; have HR := Lib.hid hr
  clear h hok hx hy hr
  go_enter Try.func67, Try.ntmps67
  go_wp2_with fail
  refine CR.out.mono ?_
  rintro e w1 ⟨rfl, h1⟩
  have F1 := Lib.hid h1
  clear h1 CR F0
  have r := F1.out.mem.rules; simp only [AllCells, CellsAt, Nat.zero_add, Nat.reduceAdd] at r
  go_wp2_with fail
  refine (F1.out.aopen HF.out).mono ?_
  rintro e w2 ⟨rfl, h1⟩
  have F2 := Lib.hid h1
  clear h1 F1 r
  have r := F2.out.mem.rules; simp only [AllCells, CellsAt, Nat.zero_add, Nat.reduceAdd] at r
  go_wp2_with fail
  refine (F2.out.said HY.out HX.out (Sough.ready_lt HR.out) HG.out).mono ?_
  rintro e w3 ⟨rfl, h1⟩
  have F3 := Lib.hid (h1.setY (.int .i64 z.ck) (.int .i64 z.k) (.int .i64 z.h) (.int .u64 z.n))
  clear F2 r
  have r := h1.mem.rules; simp only [AllCells, CellsAt, Nat.zero_add, Nat.reduceAdd] at r
  clear h1
  go_wp2_with fail
  clear r
  have r := F3.out.mem.rules; simp only [AllCells, CellsAt, Nat.zero_add, Nat.reduceAdd] at r
  exact bodyPost_ret (v := .tuple #[.agg #[.int .i64 z.ck, .int .i64 z.k, .int .i64 z.h, .int .u64 z.n], .int .i64 x', .int .i64 er']) (by simp [results, Try.results67, go_sem, r]) rfl ⟨rfl, F3.out.to⟩
theorem sopen_any {p er : Nat} {st st' : Sough.Store} {S : List Nat} {y z : Sough.Sym} {x x' : Int} (w : World) (h : StoreAt w p st S) (hok : st.Ok) (hy : y.Wf) (hx : Sough.Int64 x) (hf : Sough.symOpen st y x = (st', z, x', er)) : Calls Try.prog 67 #[.agg #[.int .i64 y.ck, .int .i64 y.k, .int .i64 y.h, .int .u64 y.n], .pointer (some ⟨p, 0, none⟩), .int .i64 x] w (SymTo3 w S p st' z x' er) := by
  unfold Sough.symOpen at hf
  by_cases hr : y.ready = true
  · rw [if_neg (by simp [hr])] at hf
    exact open_yes w h hok hy hx hr rfl hf
  · have hr : y.ready = false := by simpa using hr
    rw [if_pos hr] at hf
    simp only [Prod.mk.injEq] at hf
    obtain ⟨rfl, rfl, rfl, rfl⟩ := hf
    exact open_no w h hok hy hx hr
set_option maxRecDepth 100000 in
set_option maxHeartbeats 400000 in
theorem sbegin_er {p n er : Nat} {st st' : Sough.Store} {S : List Nat} {s : List UInt8} (w : World) (h : StoreAt w p st S) (hok : st.Ok) (hs : s.length ≤ 9223372036854775807) (hf : st.putText s = (st', n, er)) (he : er ≠ 0) : Calls Try.prog 53 #[.pointer (some ⟨p, 0, none⟩), .string ⟨s.toArray⟩] w (SymTo w S p st' Sough.zeroY er) := by
  have e1 : ((er : Int) == 0) = false := by simp; omega
  have e2 : (er == 0) = false := by simp; omega
  have e3 : ((er : Int) != 0) = true := by simp; omega
  have F0 := Lib.hid ((SF.start h hok).alloc (.cells #[.int .i64 0, .int .i64 0, .int .i64 0, .int .u64 0] 36))
  have CP := Lib.hid (F0.out.put (t := ⟨1, s, 0, 0, 0, 0⟩) (Sough.wf_of (by omega) hs (by omega) Sough.i64_zero Sough.i64_zero Sough.i64_zero) hf)
  clear h hok hf hs he
  go_enter Try.func53, Try.ntmps53
  go_wp2_with fail
  refine CP.out.mono ?_
  rintro e w1 ⟨rfl, h1⟩
  have F1 := Lib.hid (h1.setY (.int .i64 0) (.int .i64 0) (.int .i64 0) (.int .u64 0))
  have r := h1.mem.rules; simp only [AllCells, CellsAt, Nat.zero_add, Nat.reduceAdd] at r
  clear h1 CP F0
  go_wp2_with fail
  clear r
  have r := F1.out.mem.rules; simp only [AllCells, CellsAt, Nat.zero_add, Nat.reduceAdd] at r
  exact bodyPost_ret (v := .tuple #[.agg #[.int .i64 0, .int .i64 0, .int .i64 0, .int .u64 0], .int .i64 er]) (by simp [results, Try.results53, go_sem, r]) rfl ⟨rfl, F1.out.to⟩
set_option maxRecDepth 100000 in
set_option maxHeartbeats 400000 in
theorem sbegin_ok {p n : Nat} {st st' : Sough.Store} {S : List Nat} {s : List UInt8} (w : World) (h : StoreAt w p st S) (hok : st.Ok) (hs : s.length ≤ 9223372036854775807) (hf : st.putText s = (st', n, 0)) : Calls Try.prog 53 #[.pointer (some ⟨p, 0, none⟩), .string ⟨s.toArray⟩] w (SymTo w S p st' ⟨n, 0, n, 0⟩ 0) := by
  have F0 := Lib.hid ((SF.start h hok).alloc (.cells #[.int .i64 0, .int .i64 0, .int .i64 0, .int .u64 0] 36))
  have CP := Lib.hid (F0.out.put (t := ⟨1, s, 0, 0, 0, 0⟩) (Sough.wf_of (by omega) hs (by omega) Sough.i64_zero Sough.i64_zero Sough.i64_zero) hf)
  clear h hok hf hs
  go_enter Try.func53, Try.ntmps53
  go_wp2_with fail
  refine CP.out.mono ?_
  rintro e w1 ⟨rfl, h1⟩
  have F1 := Lib.hid (h1.setY (.int .i64 n) (.int .i64 0) (.int .i64 n) (.int .u64 0))
  have r := h1.mem.rules; simp only [AllCells, CellsAt, Nat.zero_add, Nat.reduceAdd] at r
  clear h1 CP F0
  go_wp2_with fail
  clear r
  have r := F1.out.mem.rules; simp only [AllCells, CellsAt, Nat.zero_add, Nat.reduceAdd] at r
  exact bodyPost_ret (v := .tuple #[.agg #[.int .i64 n, .int .i64 0, .int .i64 n, .int .u64 0], .int .i64 0]) (by simp [results, Try.results53, go_sem, r]) rfl ⟨rfl, F1.out.to⟩
theorem sbegin_any {p er : Nat} {st st' : Sough.Store} {S : List Nat} {s : List UInt8} {y : Sough.Sym} (w : World) (h : StoreAt w p st S) (hok : st.Ok) (hs : s.length ≤ 9223372036854775807) (hf : Sough.symBegin st s = (st', y, er)) : Calls Try.prog 53 #[.pointer (some ⟨p, 0, none⟩), .string ⟨s.toArray⟩] w (SymTo w S p st' y er) := by
  unfold Sough.symBegin at hf
  obtain ⟨s1, n1, r1, h1⟩ : ∃ s1 n1 r1, st.putText s = (s1, n1, r1) := ⟨_, _, _, rfl⟩
  simp only [h1] at hf
  by_cases e1 : r1 = 0
  · subst e1
    simp only [ne_eq, not_true_eq_false, if_false, Prod.mk.injEq] at hf
    obtain ⟨rfl, rfl, rfl⟩ := hf
    exact sbegin_ok w h hok hs h1
  · simp only [ne_eq, e1, not_false_eq_true, if_true, Prod.mk.injEq] at hf
    obtain ⟨rfl, rfl, rfl⟩ := hf
    exact sbegin_er w h hok hs h1 e1
set_option maxRecDepth 100000 in
set_option maxHeartbeats 400000 in
theorem ssplit_er {p n er : Nat} {st st' : Sough.Store} {S : List Nat} {y : Sough.Sym} (w : World) (h : StoreAt w p st S) (hok : st.Ok) (hf : st.putText [] = (st', n, er)) (he : er ≠ 0) : Calls Try.prog 69 #[.agg #[.int .i64 y.ck, .int .i64 y.k, .int .i64 y.h, .int .u64 y.n], .pointer (some ⟨p, 0, none⟩)] w (PutTo2 w S p st' 0 0 er) := by
  have e1 : ((er : Int) == 0) = false := by simp; omega
  have e2 : (er == 0) = false := by simp; omega
  have e3 : ((er : Int) != 0) = true := by simp; omega
  clear he
  have F0 := Lib.hid ((SF.start h hok).alloc (.cells #[.int .i64 y.ck, .int .i64 y.k, .int .i64 y.h, .int .u64 y.n] 36))
  have CP := Lib.hid (F0.out.put (t := ⟨1, [], 0, 0, 0, 0⟩) (Sough.wf_of (by omega) (by simp) (by omega) Sough.i64_zero Sough.i64_zero Sough.i64_zero) hf)
  clear h hok hf
  go_enter Try.func69, Try.ntmps69
  go_wp2_with fail
  refine CP.out.mono ?_
  rintro e w1 ⟨rfl, h1⟩
  have F1 := Lib.hid h1
  clear h1 CP F0
  have r := F1.out.mem.rules; simp only [AllCells, CellsAt, Nat.zero_add, Nat.reduceAdd] at r
  go_wp2_with fail
  go_ret3
  exact F1.out.done2
set_option maxRecDepth 100000 in
set_option maxHeartbeats 400000 in
theorem ssplit_ok {p n a b er : Nat} {st st' st'' : Sough.Store} {S : List Nat} {y : Sough.Sym} (w : World) (h : StoreAt w p st S) (hok : st.Ok) (hy : y.Wf) (hf : st.putText [] = (st', n, 0)) (hg : Sough.kdfMix st' y.ck n = (st'', a, b, er)) : Calls Try.prog 69 #[.agg #[.int .i64 y.ck, .int .i64 y.k, .int .i64 y.h, .int .u64 y.n], .pointer (some ⟨p, 0, none⟩)] w (PutTo2 w S p st'' a b er) := by
  have HN := Lib.hid (int64_of_put hok hf)
  have HY := Lib.hid hy; have HG := Lib.hid hg
  clear hy hg
  have F0 := Lib.hid ((SF.start h hok).alloc (.cells #[.int .i64 y.ck, .int .i64 y.k, .int .i64 y.h, .int .u64 y.n] 36))
  have CP := Lib.hid (F0.out.put (t := ⟨1, [], 0, 0, 0, 0⟩) (Sough.wf_of (by omega) (by simp) (by omega) Sough.i64_zero Sough.i64_zero Sough.i64_zero) hf)
  clear h hok hf
  go_enter Try.func69, Try.ntmps69
  go_wp2_with fail
  refine CP.out.mono ?_
  rintro e w1 ⟨rfl, h1⟩
  have F1 := Lib.hid h1
  clear h1 CP F0
  have r := F1.out.mem.rules; simp only [AllCells, CellsAt, Nat.zero_add, Nat.reduceAdd] at r
  go_wp2_with fail
  refine (F1.out.kmix HY.out.ck HN.out HG.out).mono ?_
  rintro e w2 ⟨rfl, h1⟩
  have F2 := Lib.hid h1
  clear h1 F1 r
  go_wp2_with fail
  go_ret3
  exact F2.out.done2
theorem ssplit_any {p a b er : Nat} {st st' : Sough.Store} {S : List Nat} {y : Sough.Sym} (w : World) (h : StoreAt w p st S) (hok : st.Ok) (hy : y.Wf) (hf : Sough.symSplit st y = (st', a, b, er)) : Calls Try.prog 69 #[.agg #[.int .i64 y.ck, .int .i64 y.k, .int .i64 y.h, .int .u64 y.n], .pointer (some ⟨p, 0, none⟩)] w (PutTo2 w S p st' a b er) := by
  unfold Sough.symSplit at hf
  obtain ⟨s1, n1, r1, h1⟩ : ∃ s1 n1 r1, st.putText [] = (s1, n1, r1) := ⟨_, _, _, rfl⟩
  simp only [h1] at hf
  by_cases e1 : r1 = 0
  · subst e1
    rw [if_neg (by simp)] at hf
    exact ssplit_ok w h hok hy h1 hf
  · rw [if_pos e1] at hf
    simp only [Prod.mk.injEq] at hf
    obtain ⟨rfl, rfl, rfl, rfl⟩ := hf
    exact ssplit_er w h hok h1 e1
end Go.Proofs.Ytlfgempjjoclbaa
namespace Go
open Go.RowKit Go.Proofs.Ytlfgempjjoclbaa
def CallK (A : Act) (R : World → Prop) (a' : Act) (y : World) : Prop := a' = A ∧ R y
theorem vstep_call {P : Program} {Q : Exit → Act → World → Prop} {K : Act → World → Prop} {A : Act} {o : Oper} {a : Act} {x : World} (R : World → Prop) (hk : ∀ y, R y → K A y) (h : o.wp P a x (CallK A R) Q) : o.wp P a x K Q :=
  Oper.wp_mono (by rintro a' y ⟨rfl, hy⟩; exact hk y hy) h
end Go
namespace Go.Proofs.Ytlfgempjjoclbaa
open Go.RowKit Go.Maps Go.ChangeMaps
def talkC (p : Nat) (y : Sough.Sym) : Obj := .cells #[.pointer (some ⟨p, 0, none⟩), .int .i64 y.ck, .int .i64 y.k, .int .i64 y.h, .int .u64 y.n] 91 (0, 0)
def wrongP (er : Nat) : List PanicEntry := [{ v := .iface 120 (.agg #[.int .i64 er]), recovered := false }]
def TalkM (S : List Nat) (w0 : World) (p : Nat) (st st' : Sough.Store) (LB : List (Nat × Obj)) (T : TypeId) (z c : Array Value) (bc ba bs : Bool) (va : Value) (x : World) : Prop :=
  ∃ G, SF S w0 x p (if bc = true then st' else st) (if ba = true then (G, .cells (if bs = true then c else z) T (0, 0)) :: LB else LB) ∧ (ba = true → va = .pointer (some ⟨G, 0, none⟩)) ∧ (bs = true → ba = true)
section
variable {S : List Nat} {w0 x y : World} {p : Nat} {st st' : Sough.Store} {LB : List (Nat × Obj)} {T : TypeId} {z c : Array Value} {bc ba bs : Bool} {va : Value}
theorem TalkM.later (h : TalkM S w0 p st st' LB T z c bc ba bs va x) (hb : Below x.heap.size x y) : TalkM S w0 p st st' LB T z c bc ba bs va y := by
  obtain ⟨G, h1, h2, h3⟩ := h
  exact ⟨G, h1.later hb, h2, h3⟩
theorem TalkM.start {W : World} (h : SF S w0 W p st LB) : TalkM S w0 p st st' LB T z c false false false va W.drew := ⟨0, h.later (Below.refl _ _).drew, fun h => absurd h (by simp), fun h => absurd h (by simp)⟩
theorem TalkM.blk (h : TalkM S w0 p st st' LB T z c bc ba bs va x) {k : Nat} {o : Obj} (hk : (k, o) ∈ LB) : x.heap[k]? = some o := by
  obtain ⟨G, h1, _⟩ := h
  refine (h1.blk (k, o) ?_).1
  split
  · exact List.mem_cons_of_mem _ hk
  · exact hk
theorem TalkM.sf (h : TalkM S w0 p st st' LB T z c false ba bs va x) : ∃ L', SF S w0 x p st L' ∧ ∀ y, SF S w0 y p st' L' → TalkM S w0 p st st' LB T z c true ba bs va y := by
  obtain ⟨G, h1, h2, h3⟩ := h
  exact ⟨_, h1, fun y hy => ⟨G, hy, h2, h3⟩⟩
theorem TalkM.alloc (h : TalkM S w0 p st st' LB T z c bc false false va x) : TalkM S w0 p st st' LB T z c bc true false (.pointer (some ⟨x.heap.size, 0, none⟩)) (x.alloc (.cells z T)) := by
  obtain ⟨G, h1, h2, h3⟩ := h
  exact ⟨x.heap.size, h1.alloc _, fun _ => rfl, fun h => absurd h (by simp)⟩
theorem TalkM.ptr (h : TalkM S w0 p st st' LB T z c bc true false va x) : ∃ G, va = .pointer (some ⟨G, 0, none⟩) ∧ x.heap[G]? = some (.cells z T (0, 0)) := by
  obtain ⟨G, h1, h2, _⟩ := h
  exact ⟨G, h2 rfl, (h1.blk (G, .cells z T (0, 0)) (by simp)).1⟩
theorem TalkM.sto {a b d e v0 v1 v2 v3 : Value} {G : Nat} (h : TalkM S w0 p st st' LB T #[a, b, d, e] #[v0, v1, v2, v3] bc true false va x) (hv : va = .pointer (some ⟨G, 0, none⟩)) :
    TalkM S w0 p st st' LB T #[a, b, d, e] #[v0, v1, v2, v3] bc true true va ((((x.setCell ⟨G, 0, none⟩ v0).setCell ⟨G, 1, none⟩ v1).setCell ⟨G, 2, none⟩ v2).setCell ⟨G, 3, none⟩ v3) := by
  obtain ⟨G', h1, h2, _⟩ := h
  have e := h2 rfl
  rw [hv] at e
  cases e
  exact ⟨G, SF.setY h1 v0 v1 v2 v3, fun _ => hv, fun _ => rfl⟩
theorem TalkM.congr {va' : Value} (h : TalkM S w0 p st st' LB T z c bc ba bs va x) (e : ba = true → va = va') : TalkM S w0 p st st' LB T z c bc ba bs va' x := by
  obtain ⟨G, h1, h2, h3⟩ := h
  exact ⟨G, h1, fun hb => (e hb).symm.trans (h2 hb), h3⟩
end
theorem talk_cells {W : World} {t p : Nat} {y : Sough.Sym} (h : W.heap[t]? = some (talkC p y)) (z : Later W) : (z.world.cell? ⟨t, 0, none⟩ = some (.pointer (some ⟨p, 0, none⟩)) ∧ z.world.cell? ⟨t, 1, none⟩ = some (.int .i64 y.ck) ∧ z.world.cell? ⟨t, 2, none⟩ = some (.int .i64 y.k) ∧ z.world.cell? ⟨t, 3, none⟩ = some (.int .i64 y.h) ∧ z.world.cell? ⟨t, 4, none⟩ = some (.int .u64 y.n)) ∧
    z.world.frozen? ⟨t, 1, none⟩ = false ∧ z.world.frozen? ⟨t, 2, none⟩ = false ∧ z.world.frozen? ⟨t, 3, none⟩ = false ∧ z.world.frozen? ⟨t, 4, none⟩ = false := by
  have := (z.below.block t (lt_of_block h)).trans h
  simp [World.cell?, World.frozen?, this, talkC]
theorem talk_now {W : World} {t p : Nat} {y : Sough.Sym} (h : W.heap[t]? = some (talkC p y)) : (W.cell? ⟨t, 0, none⟩ = some (.pointer (some ⟨p, 0, none⟩)) ∧ W.cell? ⟨t, 1, none⟩ = some (.int .i64 y.ck) ∧ W.cell? ⟨t, 2, none⟩ = some (.int .i64 y.k) ∧ W.cell? ⟨t, 3, none⟩ = some (.int .i64 y.h) ∧ W.cell? ⟨t, 4, none⟩ = some (.int .u64 y.n)) ∧
    W.frozen? ⟨t, 1, none⟩ = false ∧ W.frozen? ⟨t, 2, none⟩ = false ∧ W.frozen? ⟨t, 3, none⟩ = false ∧ W.frozen? ⟨t, 4, none⟩ = false := talk_cells h ⟨W, Below.refl _ _⟩
set_option maxRecDepth 100000 in
theorem must_ok (w : World) : Calls Try.prog 39 #[.int .i64 0] w fun e w' => e = .returned (.tuple #[]) ∧ w = w' := by
  go_enter Try.func39, Try.ntmps39
  go_wp2_with fail
  go_end0
  exact ⟨rfl, rfl⟩
set_option maxRecDepth 100000 in
theorem must_er {er : Nat} (he : er ≠ 0) (w : World) : Calls Try.prog 39 #[.int .i64 er] w fun e w' => e = .panicked (wrongP er) ∧ w = w' := by
  have e1 : ((er : Int) == 0) = false := by simp; omega
  have e2 : (er == 0) = false := by simp; omega
  go_enter Try.func39, Try.ntmps39
  go_wp2_with fail
  exact ⟨rfl, rfl, rfl⟩
set_option maxRecDepth 100000 in
theorem need_ok {er : Int} (w : World) : Calls Try.prog 27 #[.bool true, .int .i64 er] w fun e w' => e = .returned (.tuple #[]) ∧ w = w' := by
  go_enter Try.func27, Try.ntmps27
  go_wp2_with fail
  go_end0
  exact ⟨rfl, rfl⟩
set_option maxRecDepth 100000 in
theorem need_er {er : Nat} (he : er ≠ 0) (w : World) : Calls Try.prog 27 #[.bool false, .int .i64 er] w fun e w' => e = .panicked (wrongP er) ∧ w = w' := by
  go_enter Try.func27, Try.ntmps27
  go_wp2_with fail
  refine (must_er he _).mono ?_
  rintro e w1 ⟨rfl, rfl⟩
  exact ⟨rfl, rfl, rfl⟩
end Go.Proofs.Ytlfgempjjoclbaa
