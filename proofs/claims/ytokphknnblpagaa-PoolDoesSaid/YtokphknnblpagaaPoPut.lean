/- The walks of (*pool.Pool).put, Held and pool.New. -/
import Derived.Test.YtokphknnblpagaaPoExpire
import Derived.Test.YtokphknnblpagaaSpFrag
import Derived.StillTailTactics
import Derived.Deep.QuietTactic
import Derived.BigQuiet
import Derived.Outline
import Derived.IntWalk
namespace Go.Proofs.Ytokphknnblpagaa
open Go.RowKit Go.Maps Go.ChangeMaps

/-- A part has been put to a message. -/
def PutTo (w : World) (p b mb slots room held cnt0 i : Nat) (l : List (Nat × List UInt8)) (s : List UInt8) (e : Ending) (w' : World) : Prop :=
  e = .returned (.bool (decide (l.length + 1 = cnt0))) ∧ w'.heap[p]? = some (.cells (pcells mb slots room (held + s.length : Nat)) 60 (0, 0)) ∧ PartsAt w' b (l ++ [(i, s)]) ∧ Turned [p, b] w w'

set_option maxRecDepth 100000 in
set_option maxHeartbeats 3200000 in
theorem put_any {p mb a b slots room cnt0 since i id held : Nat} {cf : Int} {D : DataW Unit} {l : List (Nat × List UInt8)} {s : List UInt8} (w : World)
    (hp : w.heap[p]? = some (.cells (pcells mb slots room held) 60 (0, 0))) (ha : w.heap[a]? = some (.cells #[.int .i64 cnt0, .map (some b), .int .u64 since] 67 (0, 0)))
    (ho : w.ownsMap Try.prog 3 (plainElem (H := Unit) Try.prog 9) b l.length D) (hM : MapsTo keyI mkS D l) (hno : (l.any fun q => q.1 == i) = false)
    (hpa : p ≠ a) (hpb : p ≠ b) (hab : a ≠ b) (hi : i < 1000) (hl : l.length < 1000) (hs : s.length ≤ 100000) (hh : held ≤ 100000) :
    Calls Try.prog 24 #[.pointer (some ⟨p, 0, none⟩), .pointer (some ⟨a, 0, none⟩), .agg #[.int .u64 id, .int .i64 i, .int .i64 cf, .string ⟨s.toArray⟩]] w (PutTo w p b mb slots room held cnt0 i l s) := by
  have hlp := lt_of_block hp
  have hla := lt_of_block ha
  have hlb := ho.lt
  have HW := Lib.hid (World.size_alloc w (.cells #[.int .u64 id, .int .i64 i, .int .i64 cf, .string ⟨s.toArray⟩] 35))
  have hp1 := (Below.heap_alloc w (.cells #[.int .u64 id, .int .i64 i, .int .i64 cf, .string ⟨s.toArray⟩] 35) p hlp).trans hp
  have ha1 := (Below.heap_alloc w (.cells #[.int .u64 id, .int .i64 i, .int .i64 cf, .string ⟨s.toArray⟩] 35) a hla).trans ha
  have ho1 := ho.alloc (.cells #[.int .u64 id, .int .i64 i, .int .i64 cf, .string ⟨s.toArray⟩] 35)
  have M1 := (Mem.start w).alloc (.cells #[.int .u64 id, .int .i64 i, .int .i64 cf, .string ⟨s.toArray⟩] 35)
  have r1 := M1.rules
  simp only [AllCells, CellsAt, Nat.zero_add, Nat.reduceAdd] at r1
  have HHA := Lib.hid ha1; have HHP := Lib.hid hp1; have HO := Lib.hid ho1; have HM := Lib.hid hM; have HNO := Lib.hid hno; have HT1 : Hid (Turned [p, b] w _) := Lib.hid (Turned.below M1.bel)
  have HM1 := Lib.hid M1
  obtain ⟨p0, p1, p2, p3, p4⟩ := cells4 hp1
  obtain ⟨a0, a1, a2⟩ := cells3 ha1
  clear hp ha hp1 ha1 ho ho1 hM hno M1
  go_enter Try.func24, Try.ntmps24
  go_wp2_with fail
  generalize w.alloc (.cells #[.int .u64 id, .int .i64 i, .int .i64 cf, .string ⟨s.toArray⟩] 35) = W1 at *
  go_still_tail 8, (by kernel_rfl)
  change wpList _ _ _ _ _ W1.drew
  refine wpList_mapUpdate_own _ rfl _ _ _ 65 rfl 3 9 lawI Try.underlying65 _ b l.length D rfl HO.out.drew (by unfold maxLen; omega) _ _ _ rfl rfl (keyOfI (i := i) (by omega)) (mkS s) [] (plainElem_string Try.underlying9 (by show s.length ≤ _; unfold maxLen; omega)) ?_
  intro w2 hown2 hg2
  have hp2 := (hg2.block p (lt_of_block HHP.out) (by simp; omega)).trans HHP.out
  have ha2 := (hg2.block a (lt_of_block HHA.out) (by simp; omega)).trans HHA.out
  have hm2 := (hg2.block w.heap.size (by have := HW.out; show _ < W1.heap.size; omega) (by simp; omega)).trans (HM1.out.get 0 rfl)
  have hpt : PartsAt w2 b (l ++ [(i, s)]) := ⟨_, by rw [List.length_append]; exact hown2, HM.out.put keyI_inj isKeyI s HNO.out⟩
  have ht2 := (HT1.out.trans (Turned.below (S := []) (Below.refl _ W1).drew) (fun j e => absurd e (by simp))).trans (Turned.grown (S := [b]) hg2 (fun j e => .inl (by cases e; simp))) (fun j e => .inl (by simp at e; simp [e]))
  have HP2 := Lib.hid hp2; have HA2 := Lib.hid ha2; have HPT := Lib.hid hpt; have HT2 := Lib.hid ht2
  obtain ⟨p0, p1, p2, p3, p4⟩ := cells4 hp2
  obtain ⟨a0, a1, a2⟩ := cells3 ha2
  have r2 := cells4 hm2
  clear hp2 ha2 hpt ht2 hm2 r1 hown2 hg2 HO HHA HHP HT1 HM1
  go_wp2_with fail
  go_still_tail 10, (by kernel_rfl)
  change wpList _ _ _ _ _ w2.drew
  have hp3 : w2.drew.heap[p]? = _ := HP2.out
  have ha3 : w2.drew.heap[a]? = _ := HA2.out
  have hpt3 : PartsAt w2.drew b (l ++ [(i, s)]) := HPT.out.same rfl
  have ht3 : Turned [p, b] w w2.drew := HT2.out.trans (Turned.below (S := []) (Below.refl _ w2).drew) (fun j e => absurd e (by simp))
  clear HP2 HA2 HPT HT2 r2 p0 p1 p2 p3 p4 a0 a1 a2
  generalize w2.drew = W at *
  have hx : ((held : Int) + s.length) = ((held + s.length : Nat) : Int) := by omega
  have hwr : IntKind.i64.wrap ((held : Int) + s.length) = (held : Int) + s.length := IntWalk.i64_in _ (by omega)
  have hp5 := heap_setCell3 hp3 (.int .i64 ((held : Int) + s.length))
  have ha5 := (Below.heap_setCell W ⟨p, 3, none⟩ (.int .i64 ((held : Int) + s.length)) a (by simp; omega)).trans ha3
  have hpt5 := hpt3.same (w' := W.setCell ⟨p, 3, none⟩ (.int .i64 ((held : Int) + s.length))) (Below.heap_setCell W ⟨p, 3, none⟩ (.int .i64 ((held : Int) + s.length)) b (by simp; omega))
  have ht5 := ht3.trans (Turned.setCell (S := [p]) (w := W) (a := ⟨p, 3, none⟩) (by simp) (.int .i64 ((held : Int) + s.length))) (fun j e => .inl (by simp at e; simp [e]))
  have HP5 := Lib.hid hp5; have HA5 := Lib.hid ha5; have HPT5 := Lib.hid hpt5; have HT5 := Lib.hid ht5; have HX := Lib.hid hx
  obtain ⟨p0, p1, p2, p3, p4⟩ := cells4 hp3
  clear hp5 ha5 hpt5 ht5 hp3 ha3 hpt3 ht3 hx
  go_wp2_with fail
  clear p0 p1 p2 p3 p4 hwr
  generalize W.setCell ⟨p, 3, none⟩ (.int .i64 ((held : Int) + s.length)) = W5 at *
  have a1 : ∀ x : Later W5, x.world.cell? ⟨a, 1, none⟩ = some (.map (some b)) := fun x => x.cell (cells3 HA5.out).2.1
  have a0 : ∀ x : Later W5, x.world.cell? ⟨a, 0, none⟩ = some (.int .i64 cnt0) := fun x => x.cell (cells3 HA5.out).1
  have hln : ∀ x : Later W5, (Builtin.len_ #[65] 3 #[.map (some b)]).run Try.prog x.world = .ok (.int .i64 (l.length + 1 : Nat)) x.world := fun x => by
    obtain ⟨D5, ho5, hM5⟩ := HPT5.out.same (x.below.block b HPT5.out.lt)
    have := ho5.len Try.underlying65 3
    rw [hM5.size, List.length_append] at this
    exact this
  refine wp_region_later (by kernel_rfl) (by kernel_rfl) ?_
  repeat go_big_quiet_step (fail)
  refine wpQuiet_nil ?_
  rintro ⟨w', hb'⟩
  go_wp2_with fail
  go_ret
  refine ⟨ret_bool (by rw [Bool.eq_iff_iff]; simp; omega), (hb'.block p (lt_of_block HP5.out)).trans (by rw [HP5.out, HX.out]; rfl), HPT5.out.same (hb'.block b HPT5.out.lt), HT5.out.trans (Turned.below (S := []) hb') (fun j e => absurd e (by simp))⟩

/-- The pool's map of messages, its length read. -/
theorem len_msgs {w : World} {mb n : Nat} {D : DataW Unit} {ml : List (Nat × Nat)} (ho : w.ownsMap Try.prog 32 ptrElem mb n D) (hM : MapsTo keyU mkP D ml) : (Builtin.len_ #[58] 3 #[.map (some mb)]).run Try.prog w = .ok (.int .i64 ml.length) w := by
  have := ho.len Try.underlying58 3
  rw [hM.size] at this
  exact this

set_option maxRecDepth 100000 in
set_option maxHeartbeats 3200000 in
theorem held_any {p : Nat} {st : Sough.Pool} {S : List Nat} (w : World) (h : PoolAt w p st S) :
    Calls Try.prog 17 #[.pointer (some ⟨p, 0, none⟩)] w fun e w' => e = .returned (.tuple #[.int .i64 st.l.length, .int .i64 st.held]) ∧ Below w.heap.size w w' := by
  obtain ⟨mb, A, D, hc, ho, _⟩ := h
  have a0 : ∀ x : Later w, x.world.cell? ⟨p, 0, none⟩ = some (.map (some mb)) := fun x => x.cell (cells4 hc.box).1
  have a3 : ∀ x : Later w, x.world.cell? ⟨p, 3, none⟩ = some (.int .i64 st.held) := fun x => x.cell (cells4 hc.box).2.2.2.1
  have hln : ∀ x : Later w, (Builtin.len_ #[58] 3 #[.map (some mb)]).run Try.prog x.world = .ok (.int .i64 st.l.length) x.world := fun x => by
    have := len_msgs (ho.same (x.below.block mb ho.lt)) hc.maps
    rw [List.length_map] at this
    exact this
  clear hc ho
  go_enter Try.func17, Try.ntmps17
  go_wp2_with fail
  refine wp_region_later (by kernel_rfl) (by kernel_rfl) ?_
  repeat go_big_quiet_step (fail)
  refine wpQuiet_nil ?_
  rintro ⟨w', hb'⟩
  go_wp2_with fail
  go_ret2
  exact ⟨rfl, hb'⟩

/-- A pool that is new. -/
def NewTo (slots room : Nat) (w : World) (e : Ending) (w' : World) : Prop :=
  ∃ p S, e = .returned (.tuple #[.pointer (some ⟨p, 0, none⟩), .int .i64 0]) ∧ PoolAt w' p ⟨slots, room, []⟩ S ∧ (∀ i ∈ S, w.heap.size ≤ i) ∧ Below w.heap.size w w'

set_option maxRecDepth 100000 in
set_option maxHeartbeats 3200000 in
theorem new_any {slots room : Nat} (w : World) (h1 : 1 ≤ slots) (h2 : slots ≤ 16) (h3 : 1 ≤ room) (h4 : room ≤ 65536) :
    Calls Try.prog 9 #[.int .i64 slots, .int .i64 room] w (NewTo slots room w) := by
  have hmm := @run_makeMap Try.prog
  have HN : Hid (NewTo slots room w (.returned (.tuple #[.pointer (some ⟨w.heap.size + 1, 0, none⟩), .int .i64 0])) ((w.alloc (.map #[] 0)).alloc (.cells #[.map (some w.heap.size), .int .i64 slots, .int .i64 room, .int .i64 0] 60))) := by
    refine Lib.hid ⟨w.heap.size + 1, [w.heap.size + 1, w.heap.size], rfl, ⟨w.heap.size, fun _ => (0, 0), .map [], ⟨?_, fun m hm => absurd hm (by simp), ?_, MapsTo.start⟩, ?_, rfl⟩, ?_, ((Below.refl _ _).alloc (Nat.le_refl _) _).alloc (by simp) _⟩
    · have := heap_alloc_new (w.alloc (.map #[] 0)) (.cells #[.map (some w.heap.size), .int .i64 slots, .int .i64 room, .int .i64 0] 60)
      rw [World.size_alloc] at this
      exact this
    · simp [blocksOf]
    · exact (World.ownsMap_made w Try.prog 32 ptrElem).alloc _
    · intro i hi
      simp at hi
      omega
  go_enter Try.func9, Try.ntmps9
  go_wp2_with fail
  go_ret2
  exact HN.out

theorem new_bad {slots room : Int} (w : World) (h : slots < 1 ∨ 16 < slots ∨ room < 1 ∨ 65536 < room) :
    Calls Try.prog 9 #[.int .i64 slots, .int .i64 room] w fun e w' => e = .returned (.tuple #[.pointer none, .int .i64 1]) ∧ w = w' := by
  by_cases h1 : slots < 1
  · clear h
    go_enter Try.func9, Try.ntmps9
    go_wp2_with fail
    go_ret2
    exact ⟨rfl, rfl⟩
  · by_cases h2 : 16 < slots
    · clear h
      go_enter Try.func9, Try.ntmps9
      go_wp2_with fail
      go_ret2
      exact ⟨rfl, rfl⟩
    · by_cases h3 : room < 1
      · clear h
        go_enter Try.func9, Try.ntmps9
        go_wp2_with fail
        go_ret2
        exact ⟨rfl, rfl⟩
      · have h4 : 65536 < room := by omega
        clear h
        go_enter Try.func9, Try.ntmps9
        go_wp2_with fail
        go_ret2
        exact ⟨rfl, rfl⟩

end Go.Proofs.Ytokphknnblpagaa
