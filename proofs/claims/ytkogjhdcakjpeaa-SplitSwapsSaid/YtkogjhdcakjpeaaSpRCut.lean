/- The walk of soughref11.Cut. -/
import Derived.Test.YtkogjhdcakjpeaaSpRefs
namespace Go.Proofs.Ytkogjhdcakjpeaa
open Go.RowKit Go.Shelf

set_option maxRecDepth 100000 in
set_option maxHeartbeats 1600000 in
theorem rcut_arg (s : ByteArray) (id : Nat) (size : Int) (w : World) (h : id < 1 ∨ 4294967296 < id ∨ size < 1 ∨ 1000 < size ∨ s.size < 1 ∨ 4096 < s.size) :
    Calls Try.prog 11 #[.string s, .int .u64 id, .int .i64 size] w fun e w' => e = .returned (.tuple #[.slice none 0 0, .int .i64 1]) ∧ Below w.heap.size w w' := by
  by_cases a1 : id < 1
  · have d1 : decide ((id : Int) < 1) = true := by simp; omega
    clear h
    go_enter Try.func11, Try.ntmps11
    go_wp2
    go_ret2
    exact ⟨rfl, Below.refl _ _⟩
  · have d1 : decide ((id : Int) < 1) = false := by simp; omega
    by_cases a2 : 4294967296 < id
    · have d2 : decide ((4294967296 : Int) < id) = true := by simp; omega
      clear h
      go_enter Try.func11, Try.ntmps11
      go_wp2
      go_ret2
      exact ⟨rfl, Below.refl _ _⟩
    · have d2 : decide ((4294967296 : Int) < id) = false := by simp; omega
      by_cases a3 : size < 1
      · have d3 : decide (size < 1) = true := by simp; omega
        clear h
        go_enter Try.func11, Try.ntmps11
        go_wp2
        go_ret2
        exact ⟨rfl, Below.refl _ _⟩
      · have d3 : decide (size < 1) = false := by simp; omega
        by_cases a4 : 1000 < size
        · have d4 : decide (1000 < size) = true := by simp; omega
          clear h
          go_enter Try.func11, Try.ntmps11
          go_wp2
          go_ret2
          exact ⟨rfl, Below.refl _ _⟩
        · have d4 : decide (1000 < size) = false := by simp; omega
          by_cases a5 : s.size < 1
          · have d5 : decide ((s.size : Int) < 1) = true := by simp; omega
            clear h
            go_enter Try.func11, Try.ntmps11
            go_wp2
            go_ret2
            exact ⟨rfl, Below.refl _ _⟩
          · have d5 : decide ((s.size : Int) < 1) = false := by simp; omega
            have d6 : decide ((4096 : Int) < s.size) = true := by simp; omega
            have h6 : 4096 < s.size := by omega
            clear h
            go_enter Try.func11, Try.ntmps11
            go_wp2
            go_ret2
            exact ⟨rfl, Below.refl _ _⟩

/-- The parts with the counts that are set so far. -/
def mixed (s : ByteArray) (id size m j : Nat) : List Sough.Frag := (List.range m).map fun i : Nat => ⟨id, i, if i < j then m else 0, (s.data.toList.drop (i * size)).take size⟩
theorem fragRow_mixed (s : ByteArray) (id size m : Nat) : fragRow s id 0 size m = (mixed s id size m 0).flatMap fragCells := by
  simp [fragRow, mixed, List.flatMap_map, fragCells, piece]
theorem mixed_len (s : ByteArray) (id size m j : Nat) : (mixed s id size m j).length = m := by simp [mixed]
theorem mixed_all (s : ByteArray) (id size : Nat) : mixed s id size (pcs s.size size) (pcs s.size size) = Sough.cutAll s.data.toList id size := by
  unfold mixed Sough.cutAll
  have e : Sough.many s.data.toList.length size = pcs s.size size := by simp [Sough.many, pcs]
  rw [e]
  refine List.map_congr_left fun i hi => ?_
  rw [if_pos (List.mem_range.1 hi)]
theorem set_count : ∀ (fs : List Sough.Frag) (i : Nat) (c : Int) (hi : i < fs.length), (fs.flatMap fragCells).set (i * 4 + 2) (.int .i64 c) = (fs.set i ⟨fs[i].id, fs[i].index, c, fs[i].part⟩).flatMap fragCells
  | [], i, c, hi => absurd hi (by simp)
  | f :: fs, 0, c, hi => by simp [fragCells]
  | f :: fs, i + 1, c, hi => by
    have h := set_count fs i c (by simpa using hi)
    rw [List.flatMap_cons, show (i + 1) * 4 + 2 = i * 4 + 2 + 4 by omega]
    simp only [fragCells, List.cons_append, List.nil_append, List.set_cons_succ]
    simp only [List.flatMap_cons, List.getElem_cons_succ, fragCells, List.cons_append, List.nil_append]
    rw [h]
theorem mixed_set (s : ByteArray) (id size m j : Nat) (hj : j < m) : ((mixed s id size m j).flatMap fragCells).set (j * 4 + 2) (.int .i64 m) = (mixed s id size m (j + 1)).flatMap fragCells := by
  rw [set_count _ _ _ (by rw [mixed_len]; exact hj)]
  congr 1
  apply List.ext_getElem
  · simp [mixed]
  · intro i h1 h2
    rw [List.getElem_set]
    simp only [mixed, List.getElem_map, List.getElem_range]
    split
    · rename_i h; subst h; simp
    · rename_i h
      have : (i < j) ↔ (i < j + 1) := by omega
      simp [this]

def RCutR (s : ByteArray) (id size : Nat) (w : World) (ov av : Value) (wr : World) : Prop :=
  ∃ k q : Nat, q = k * size ∧ k ≤ pcs s.size size ∧ av = .int .i64 q ∧ wr.ownsRow w.heap.size 43 4 ov k (fragRow s id 0 size k) ∧ Below w.heap.size w wr
def RCutS (s : ByteArray) (id size m : Nat) (w : World) (g : Nat) (cap : Nat) (iv : Value) (wr : World) : Prop :=
  ∃ j : Nat, j ≤ m ∧ iv = .int .i64 j ∧ wr.ownsRow w.heap.size 43 4 (.slice (some ⟨g, 0, none⟩) m cap) m ((mixed s id size m j).flatMap fragCells) ∧ Below w.heap.size w wr
theorem cut_big {s : ByteArray} {id size : Nat} (h1 : 1 ≤ id) (h2 : id ≤ 4294967296) (h3 : 1 ≤ size) (h4 : size ≤ 1000) (h5 : 1 ≤ s.size) (h6 : s.size ≤ 4096) (h : 16 < pcs s.size size) : Sough.cut s.data.toList id size = ([], 4) := by
  have hl : s.data.toList.length = s.size := by simp
  unfold Sough.cut
  rw [hl, if_neg (by omega), if_pos (by simpa [Sough.many, pcs] using h)]
theorem cut_fine {s : ByteArray} {id size : Nat} (h1 : 1 ≤ id) (h2 : id ≤ 4294967296) (h3 : 1 ≤ size) (h4 : size ≤ 1000) (h5 : 1 ≤ s.size) (h6 : s.size ≤ 4096) (h : ¬ 16 < pcs s.size size) : Sough.cut s.data.toList id size = (mixed s id size (pcs s.size size) (pcs s.size size), 0) := by
  have hl : s.data.toList.length = s.size := by simp
  rw [mixed_all]
  unfold Sough.cut
  rw [hl, if_neg (by omega), if_neg (by simpa [Sough.many, pcs] using h)]
  rfl
theorem mixed_cell {wr : World} {s : ByteArray} {base id size m j g cap : Nat} {e : TypeId} (h : wr.ownsRow base e 4 (.slice (some ⟨g, 0, none⟩) m cap) m ((mixed s id size m j).flatMap fragCells)) (hj : j < m) : wr.cell? ⟨g, j * 4 + 2, none⟩ = some (.int .i64 0) := by
  have hc := (cells_at (mixed s id size m j) j (by rw [mixed_len]; exact hj)).2.2.1
  rw [h.cellAt (j * 4 + 2) (by omega), hc]
  simp [Sough.fragAt, mixed, List.getD_eq_getElem?_getD, hj]
theorem RCutS.next {s : ByteArray} {id size m j g cap : Nat} {w wr : World} (hj : j < m) (hown : wr.ownsRow w.heap.size 43 4 (.slice (some ⟨g, 0, none⟩) m cap) m ((mixed s id size m j).flatMap fragCells)) (hb : Below w.heap.size w wr) :
    RCutS s id size m w g cap (.int .i64 (j + 1 : Nat)) (wr.setCell ⟨g, j * 4 + 2, none⟩ (.int .i64 m)) :=
  ⟨j + 1, hj, rfl, by rw [← mixed_set _ _ _ _ _ hj]; exact (hown.stored _ _).1, hb.setCell (hown.lt g rfl).1 _⟩
theorem RCutR.next {s : ByteArray} {id size k q m : Nat} {w wr w2 : World} {v v' : Value} {o : Obj} (hq : q = k * size) (hk : k < pcs s.size size) (hm : (m : Int) = q + size) (hb : Below w.heap.size w wr) (hown : wr.ownsRow w.heap.size 43 4 v k (fragRow s id 0 size k))
    (hown' : w2.ownsRow w.heap.size 43 4 v' (k + 1) (fragRow s id 0 size k ++ [.int .u64 id, .int .i64 k, .int .i64 0, .string (piece s size k)])) (hg : (wr.alloc o).grownBy w2 v.ownBlock) : RCutR s id size w v' (.int .i64 m) w2 :=
  ⟨k + 1, m, by rw [Nat.succ_mul]; omega, hk, rfl, by rw [fragRow_succ]; exact hown', (hb.alloc hb.size o).grown hg (by have := hb.size; simp; omega) (fun r e => (hown.lt r e).1)⟩
theorem slice_piece {s : ByteArray} {size k q : Nat} (hq : q = k * size) (hlt : q < s.size) : s.extract q (min (s.size : Int) ((q : Int) + size)).toNat = piece s size k := by
  have e : (min (s.size : Int) ((q : Int) + size)).toNat = q + min size (s.size - q) := by omega
  rw [e, extract_eq, hq, piece]
  congr 2
  rcases Nat.le_total size (s.size - k * size) with h | h
  · rw [Nat.min_eq_left h]
  · rw [Nat.min_eq_right h, List.take_of_length_le (by simp), List.take_of_length_le (by simpa using h)]

set_option maxRecDepth 100000 in
set_option maxHeartbeats 1600000 in
theorem rcut_good (s : ByteArray) (id size : Nat) (w : World) (h1 : 1 ≤ id) (h2 : id ≤ 4294967296) (h3 : 1 ≤ size) (h4 : size ≤ 1000) (h5 : 1 ≤ s.size) (h6 : s.size ≤ 4096) :
    Calls Try.prog 11 #[.string s, .int .u64 id, .int .i64 size] w (fun e w' => ∃ v er fs, Sough.cut s.data.toList id size = (fs, er) ∧ e = .returned (.tuple #[v, .int .i64 er]) ∧ w'.ownsRow w.heap.size 43 4 v fs.length (fs.flatMap fragCells) ∧ Below w.heap.size w w') := by
  obtain ⟨i0, hinf, hz0, hz1, hz2⟩ := info_parts infoRFrag
  obtain ⟨m, hm⟩ : ∃ m, m = pcs s.size size := ⟨_, rfl⟩
  have hml : m ≤ 4096 := by have := pcs_le h3 (L := s.size); omega
  have HM := Lib.hid hm; clear hm
  go_enter Try.func11, Try.ntmps11
  go_wp2_with fail
  go_loopw [8, 9] (fun ov av wr => RCutR s id size w ov av wr) (fun _ av _ => s.size + 1000 - (intOf av).toNat)
  case atStart => exact ⟨0, 0, by omega, Nat.zero_le _, rfl, World.ownsRow_made w #[] 0 (Nat.le_refl _) (Nat.zero_le _) rfl, (Below.refl _ _).alloc (Nat.le_refl _) _⟩
  case round =>
    obtain ⟨k, q, hq, hk, rfl, hown, hbel⟩ := hrel
    obtain ⟨a, cap, rfl⟩ := own_shape hown
    rw [← HM.out] at hk
    have HB := Lib.hid hbel; have HO := Lib.hid hown; have HQ := Lib.hid hq
    clear hbel
    by_cases hlt : k < m
    · have hql : q < s.size := by rw [HQ.out]; exact pcs_lt h3 (by rw [← HM.out]; exact hlt)
      have hpc := slice_piece HQ.out hql
      clear hq
      go_wp2_with (at_builtin; refine wpList_append_own _ rfl _ _ 31 rfl w.heap.size 43 i0 fragZero 4 40 Try.underlying31 hinf hz0 hz1 hz2 rfl (by decide) _ _ _ rfl (hown.alloc _) ⟨wr.heap.size, 0, none⟩ 1 1 [.int .u64 id, .int .i64 k, .int .i64 0, .string (piece s size k)] rfl rfl ?c1 ?c2 ?c3 ?c4 ?c5 ?_)
      case c1 =>
        intro j u hj
        rw [show (⟨wr.heap.size, 0, none⟩ : Addr).add j = ⟨wr.heap.size, 0 + j, none⟩ from Go.WideShapes.add_plain _ _ _, Nat.zero_add, World.cell?_alloc_mark]
        simpa using hj
      case c2 => intro u hu; simp at hu; rcases hu with rfl | rfl | rfl | rfl <;> rfl
      case c3 => unfold maxLen; omega
      case c4 => omega
      case c5 => have := HB.out.size; simp; omega
      intro v' w2 hown' hgrow _
      have HR := fun m' e => Lib.hid (RCutR.next (m := m') HQ.out (by rw [← HM.out]; exact hlt) e HB.out hown hown' hgrow)
      clear hown' hgrow hown hpc
      go_wp2
      go_roundw
      case rel => exact (HR (q + size) (by omega)).out
      case measure => simp [intOf]; omega
    · have hge : s.size ≤ q := by rw [HQ.out]; exact pcs_ge h3 (by rw [← HM.out]; omega)
      obtain rfl : k = m := by omega
      clear hq hown
      by_cases h16 : 16 < k
      · have d1 : decide ((16 : Int) < k) = true := by simp; omega
        go_wp2
        go_ret2
        exact ⟨_, 4, [], cut_big h1 h2 h3 h4 h5 h6 (by rw [← HM.out]; exact h16), rfl, World.ownsRow_nil _ _ _ _, HB.out⟩
      · have d1 : decide ((16 : Int) < k) = false := by simp; omega
        obtain ⟨g, rfl⟩ : ∃ g, a = some ⟨g, 0, none⟩ := by
          obtain ⟨g, cap', e, _⟩ := own_head HO.out (Nat.pos_of_ne_zero (by rintro rfl; have := pcs_ge h3 (k := 0) (L := s.size) (by rw [← HM.out]; omega); omega))
          cases e; exact ⟨g, rfl⟩
        go_wp2_with fail
        go_loopw [10] (fun iv wr => RCutS s id size k w g cap iv wr) (fun iv _ => k - (intOf iv).toNat)
        case atStart => exact ⟨0, Nat.zero_le _, rfl, by rw [← fragRow_mixed]; exact HO.out, HB.out⟩
        case round =>
          obtain ⟨j, hj, rfl, hown, hbel⟩ := hrel
          have HB2 := Lib.hid hbel; have HO2 := Lib.hid hown
          clear hbel
          by_cases hlt : j < k
          · have c2 : wr.cell? ⟨g, j * 4 + 2, none⟩ = some (.int .i64 0) := mixed_cell hown hlt
            have f2 := hown.frozenAt (j * 4 + 2)
            clear hown
            go_wp2
            go_roundw
            case rel => exact (RCutS.next hlt HO2.out HB2.out)
            case measure => simp [intOf]; omega
          · obtain rfl : j = k := by omega
            clear hown
            go_wp2
            go_ret2
            have hm := HM.out
            refine ⟨_, 0, mixed s id size j j, ?_, rfl, ?_, HB2.out⟩
            · rw [cut_fine h1 h2 h3 h4 h5 h6 (by rw [← hm]; exact h16), ← hm]
            · rw [mixed_len]; exact HO2.out

/-- What soughref11.Cut gives back. -/
def RCutsTo (fs : List Sough.Frag) (er : Nat) (w : World) (e : Ending) (w' : World) : Prop :=
  ∃ v, e = .returned (.tuple #[v, .int .i64 er]) ∧ w'.ownsRow w.heap.size 43 4 v fs.length (fs.flatMap fragCells) ∧ Below w.heap.size w w'

theorem rcut_as {s : ByteArray} {id : Nat} {size : Int} {fs : List Sough.Frag} {er : Nat} (hc : Sough.cut s.data.toList id size = (fs, er)) (w : World) :
    Calls Try.prog 11 #[.string s, .int .u64 id, .int .i64 size] w (RCutsTo fs er w) := by
  have hl : s.data.toList.length = s.size := by simp
  by_cases h : id < 1 ∨ 4294967296 < id ∨ size < 1 ∨ 1000 < size ∨ s.size < 1 ∨ 4096 < s.size
  · unfold Sough.cut at hc
    rw [hl, if_pos h] at hc
    obtain ⟨rfl, rfl⟩ := Prod.mk.inj hc
    exact (rcut_arg s id size w h).mono fun e w' ⟨he, hb⟩ => ⟨_, he, World.ownsRow_nil _ _ _ _, hb⟩
  · obtain ⟨n, rfl⟩ := Int.eq_ofNat_of_zero_le (show 0 ≤ size by omega)
    refine (rcut_good s id n w (by omega) (by omega) (by omega) (by omega) (by omega) (by omega)).mono ?_
    rintro e w' ⟨v, er', fs', hc', he, hown, hb⟩
    obtain ⟨rfl, rfl⟩ := Prod.mk.inj (hc.symm.trans hc')
    exact ⟨v, he, hown, hb⟩

end Go.Proofs.Ytkogjhdcakjpeaa
