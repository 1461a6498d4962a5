/- The walk of soughref13.Pool's without. -/
import Derived.Test.YtokphknnblpagaaPrHeld
namespace Go.Proofs.Ytokphknnblpagaa
open Go.RowKit Go.Maps Go.ChangeMaps

theorem box_set {w : World} {r : Nat} {a b c v : Value} {T : TypeId} (h : w.heap[r]? = some (.cells #[a, b, c] T (0, 0))) : (w.setCell ⟨r, 0, none⟩ v).heap[r]? = some (.cells #[v, b, c] T (0, 0)) := by
  simp [World.setCell, Array.getElem?_modify, h]
theorem type_ne {w : World} {i : Nat} {a b : Array Value} {T U : TypeId} (h : w.heap[i]? = some (.cells a T (0, 0))) (h' : w.heap[i]? = some (.cells b U (0, 0))) (hne : T ≠ U) : False := by
  have e := h.symm.trans h'
  injection e with e
  injection e with _ e
  exact hne e
theorem Turned.grownRow {S : List Nat} {w0 w w' : World} {v : Value} (ht : Turned S w0 w) (hg : w.grownBy w' v.ownBlock) (hv : ∀ k, v.ownBlock = some k → w0.heap.size ≤ k) : Turned S w0 w' :=
  ⟨hg.os.trans ht.os, hg.tape.trans ht.tape, hg.output.trans ht.output, Nat.le_trans ht.size hg.size, fun i hi hn => (hg.block i (Nat.lt_of_lt_of_le hi ht.size) (fun e => by have := hv i e.symm; omega)).trans (ht.block i hi hn)⟩
theorem own_base {w : World} {base base' size n : Nat} {e : TypeId} {v : Value} {xs : List Value} (h : w.ownsRow base e size v n xs) (hb : base' ≤ base) : w.ownsRow base' e size v n xs := by
  refine ⟨h.1, ?_⟩
  rcases h.2 with h0 | ⟨g, cap, cur, rfl, h1, rest⟩
  · exact .inl h0
  · exact .inr ⟨g, cap, cur, rfl, Nat.le_trans hb h1, rest⟩
theorem RCore.relaid {w w' : World} {b0 r : Nat} {lv lv' : Value} {st : Sough.Pool} {A : Nat → Nat × Nat} {l' : List Sough.PMsg} (h : RCore w b0 r lv st A) (ht : Turned [r] w w') (hb : w'.heap[r]? = some (.cells #[lv', .int .i64 st.slots, .int .i64 st.room] TP (0, 0)))
    (hr : w'.ownsRow b0 TM 2 lv' l'.length (l'.flatMap (rmsgC A))) (hs : ∀ m ∈ l', m ∈ st.l) : RCore w' b0 r lv' ⟨st.slots, st.room, l'⟩ A :=
  ⟨hb, hr, fun m hm => own_kept (h.parts m (hs m hm)) fun g cur hg => ht.block g (lt_of_block hg) fun e => by
    simp only [List.mem_singleton] at e
    subst e
    exact type_ne h.box hg (by decide), h.low⟩
theorem rmsg_one (A : Nat → Nat × Nat) (l : List Sough.PMsg) : ∀ u ∈ l.flatMap (rmsgC A), u.oneCell' = true := by
  intro u hu
  obtain ⟨m, _, hm⟩ := List.mem_flatMap.1 hu
  simp only [rmsgC, List.mem_cons, List.not_mem_nil, or_false] at hm
  rcases hm with rfl | rfl <;> rfl

def WithoutTo (w : World) (b0 r : Nat) (st : Sough.Pool) (A : Nat → Nat × Nat) (l' : List Sough.PMsg) (e : Ending) (w' : World) : Prop := e = .returned (.tuple #[]) ∧ ∃ lv', RCore w' b0 r lv' ⟨st.slots, st.room, l'⟩ A ∧ Turned [r] w w'

set_option maxRecDepth 100000 in
set_option maxHeartbeats 3200000 in
theorem rwithout_any {b0 r : Nat} {lv : Value} {st : Sough.Pool} {A : Nat → Nat × Nat} {l1 l2 : List Sough.PMsg} {m : Sough.PMsg} (w : World) (hc : RCore w b0 r lv st A) (hl : st.l = l1 ++ m :: l2) (h16 : st.l.length ≤ 16) :
    Calls Try.prog 22 #[.pointer (some ⟨r, 0, none⟩), .int .i64 l1.length] w (WithoutTo w b0 r st A (l1 ++ l2)) := by
  obtain ⟨i0, hinf, hz0, hz1, hz2⟩ := info_parts infoRMsg
  obtain ⟨n, hn⟩ : ∃ n, st.l.length = n := ⟨_, rfl⟩
  have hlen : l1.length + l2.length + 1 = n := by rw [← hn, hl]; simp; omega
  obtain ⟨g, cap, rfl, hcap, hmax⟩ := hc.head (by omega)
  rw [hn] at h16 hcap
  have hlow := hc.low
  have hlt := hc.lt
  have hgr : g < w.heap.size := (hc.row.lt g rfl).2
  have hgne : g ≠ r := fun e => by
    rcases hc.row.2 with ⟨h1, _⟩ | ⟨g', cap', cur, hv, _, h1, _⟩
    · cases h1
    · cases hv
      subst e
      exact type_ne hc.box h1 (by decide)
  have hcells : ∀ j u, (st.l.flatMap (rmsgC A))[j]? = some u → w.cell? ⟨g, j, none⟩ = some u := fun j u hj => by
    have := hc.row
    exact own_cell this hj
  obtain ⟨r0, r1, r2⟩ := cells3 hc.box
  have HC := Lib.hid hc; have HCL := Lib.hid hcells; have HL := Lib.hid hl; have HN := Lib.hid hn
  rw [hn] at r0
  clear hc hcells r1 r2 hl hn
  unfold maxLen at hmax
  have f1 := len2 (rmsgC A) (fun _ => rfl) l1
  have f2 := len2 (rmsgC A) (fun _ => rfl) l2
  have HF1 := Lib.hid f1; have HF2 := Lib.hid f2
  clear f1 f2
  go_enter Try.func22, Try.ntmps22
  go_wp2_with (at_builtin; refine wpList_append_own _ rfl _ _ 61 rfl w.heap.size 71 i0 rmsgZero 2 32 Try.underlying61 hinf hz0 hz1 hz2 rfl (by decide) _ _ _ rfl (World.ownsRow_made w #[] 0 (Nat.le_refl _) (Nat.zero_le _) rfl) ⟨g, 0, none⟩ l1.length cap (l1.flatMap (rmsgC A)) rfl HF1.out ?c1 (rmsg_one A l1) ?c3 ?c4 ?c5 ?_)
  case c1 =>
    intro j u hj
    rw [show (⟨g, 0, none⟩ : Addr).add j = ⟨g, 0 + j, none⟩ from Go.WideShapes.add_plain _ _ _, Nat.zero_add]
    refine ((World.cell?_of_block (w := w) (Below.heap_alloc _ _ _ hgr)).trans ?_)
    refine HCL.out j u ?_
    rw [HL.out, List.flatMap_append, List.getElem?_append_left (List.getElem?_eq_some_iff.1 hj).1]
    exact hj
  case c3 => unfold maxLen; omega
  case c4 => omega
  case c5 => simp
  intro v' w2 hown hgrow _
  try simp only [Nat.zero_add, List.nil_append] at hown
  have hvb := hown.lt
  have hr2 : w2.heap[r]? = w.heap[r]? := (hgrow.block r (by simp; omega) (by simp [Value.ownBlock]; omega)).trans (Below.heap_alloc _ _ _ hlt)
  have hg2 : w2.heap[g]? = w.heap[g]? := (hgrow.block g (by simp; omega) (by simp [Value.ownBlock]; omega)).trans (Below.heap_alloc _ _ _ hgr)
  have ht2 : Turned [r] w w2 := (Turned.below (S := []) ((Below.refl _ w).alloc (Nat.le_refl _) _)).trans (Turned.grown (S := [w.heap.size]) hgrow (fun j e => .inl (by cases e; simp))) (fun j e => .inr (by simp at e; omega)) |>.mono (fun j e => absurd e (by simp))
  have r0' : w2.cell? ⟨r, 0, none⟩ = some (.slice (some ⟨g, 0, none⟩) n cap) := (World.cell?_of_block (w := w) hr2).trans r0
  have HO := Lib.hid hown; have HR2 := Lib.hid hr2; have HG2 := Lib.hid hg2; have HT2 := Lib.hid ht2; have HVB := Lib.hid hvb
  clear hown hr2 hg2 ht2 hgrow hvb r0
  by_cases h0 : cap = l1.length + 1
  · have hl2 : l2 = [] := List.length_eq_zero_iff.1 (by omega)
    have e2 : (l2.flatMap (rmsgC A)).length = (n - (l1.length + 1)) * 2 := by rw [HF2.out]; omega
    have c1 : ∀ j u, (l2.flatMap (rmsgC A))[j]? = some u → w2.cell? ((⟨g, 0, none⟩ : Addr).add j) = some u := fun j u hj => by rw [hl2] at hj; simp at hj
    clear hl2
    have C1 := Lib.hid c1; have E2 := Lib.hid e2
    clear c1 e2
    go_wp2_with (at_builtin; refine wpList_append_own _ rfl _ _ 61 rfl w.heap.size 71 i0 rmsgZero 2 32 Try.underlying61 hinf hz0 hz1 hz2 rfl (by decide) _ _ _ rfl HO.out ⟨g, 0, none⟩ (n - (l1.length + 1)) _ (l2.flatMap (rmsgC A)) rfl E2.out C1.out (rmsg_one A l2) ?c3 ?c4 ?c5 ?_)
    case c3 => unfold maxLen; omega
    case c4 => omega
    case c5 => have := HT2.out.size; simp; omega
    intro v3 w3 hown3 hgrow3 _
    obtain ⟨a3, k3, rfl⟩ := own_shape hown3
    have hr3 : w3.heap[r]? = w.heap[r]? := (hgrow3.block r (by have := HT2.out.size; omega) (fun e => by have := (HVB.out r e.symm).1; omega)).trans HR2.out
    have r3 : w3.cell? ⟨r, 0, none⟩ = some (.slice (some ⟨g, 0, none⟩) n cap) := (World.cell?_of_block (w := w2) (hr3.trans HR2.out.symm)).trans r0'
    have f3 : w3.frozen? ⟨r, 0, none⟩ = false := by simp [World.frozen?, hr3, HC.out.box]
    have ht3 : Turned [r] w w3 := HT2.out.grownRow hgrow3 (fun k e => (HVB.out k e).1)
    have HD : Hid (WithoutTo w b0 r st A (l1 ++ l2) (.returned (.tuple #[])) (w3.setCell ⟨r, 0, none⟩ (.slice a3 (l1.length + (n - (l1.length + 1))) k3))) := by
      refine Lib.hid ⟨rfl, .slice a3 (l1.length + (n - (l1.length + 1))) k3, ?_⟩
      have ht4 := ht3.trans (Turned.setCell (S := [r]) (w := w3) (a := ⟨r, 0, none⟩) (by simp) (.slice a3 (l1.length + (n - (l1.length + 1))) k3)) (fun j e => .inl e)
      refine ⟨HC.out.relaid ht4 (box_set (hr3.trans HC.out.box)) ?_ ?_, ht4⟩
      · have hk := own_kept (w' := w3.setCell ⟨r, 0, none⟩ (.slice a3 (l1.length + (n - (l1.length + 1))) k3)) (own_base hown3 (base' := b0) (by omega)) fun g' cur hg' => Below.heap_setCell _ _ _ _ (fun e => by
          subst e
          exact type_ne (hr3.trans HC.out.box) hg' (by decide))
        rw [List.flatMap_append, show (l1 ++ l2).length = l1.length + (n - (l1.length + 1)) by rw [List.length_append]; omega]
        exact hk
      · intro x hx
        rw [HL.out]
        rcases List.mem_append.1 hx with h | h
        · exact List.mem_append_left _ h
        · exact List.mem_append_right _ (List.mem_cons_of_mem _ h)
    clear r0' hown3 hgrow3 hr3 ht3
    go_wp2_with fail
    go_end0
    exact HD.out
  · have e2 : (l2.flatMap (rmsgC A)).length = (n - (l1.length + 1)) * 2 := by rw [HF2.out]; omega
    have c1 : ∀ j u, (l2.flatMap (rmsgC A))[j]? = some u → w2.cell? ((⟨g, (l1.length + 1) * 2, none⟩ : Addr).add j) = some u := fun j u hj => by
      rw [show (⟨g, (l1.length + 1) * 2, none⟩ : Addr).add j = ⟨g, (l1.length + 1) * 2 + j, none⟩ from Go.WideShapes.add_plain _ _ _]
      refine (World.cell?_of_block (w := w) HG2.out).trans (HCL.out _ u ?_)
      rw [HL.out, List.flatMap_append, List.flatMap_cons, List.getElem?_append_right (by rw [HF1.out]; omega), HF1.out, List.getElem?_append_right (by simp [rmsgC]; omega)]
      rw [← hj]
      congr 1
      simp [rmsgC]; omega
    have C1 := Lib.hid c1; have E2 := Lib.hid e2
    clear c1 e2
    go_wp2_with (at_builtin; refine wpList_append_own _ rfl _ _ 61 rfl w.heap.size 71 i0 rmsgZero 2 32 Try.underlying61 hinf hz0 hz1 hz2 rfl (by decide) _ _ _ rfl HO.out ⟨g, (l1.length + 1) * 2, none⟩ (n - (l1.length + 1)) _ (l2.flatMap (rmsgC A)) rfl E2.out C1.out (rmsg_one A l2) ?c3 ?c4 ?c5 ?_)
    case c3 => unfold maxLen; omega
    case c4 => omega
    case c5 => have := HT2.out.size; simp; omega
    intro v3 w3 hown3 hgrow3 _
    obtain ⟨a3, k3, rfl⟩ := own_shape hown3
    have hr3 : w3.heap[r]? = w.heap[r]? := (hgrow3.block r (by have := HT2.out.size; omega) (fun e => by have := (HVB.out r e.symm).1; omega)).trans HR2.out
    have r3 : w3.cell? ⟨r, 0, none⟩ = some (.slice (some ⟨g, 0, none⟩) n cap) := (World.cell?_of_block (w := w2) (hr3.trans HR2.out.symm)).trans r0'
    have f3 : w3.frozen? ⟨r, 0, none⟩ = false := by simp [World.frozen?, hr3, HC.out.box]
    have ht3 : Turned [r] w w3 := HT2.out.grownRow hgrow3 (fun k e => (HVB.out k e).1)
    have HD : Hid (WithoutTo w b0 r st A (l1 ++ l2) (.returned (.tuple #[])) (w3.setCell ⟨r, 0, none⟩ (.slice a3 (l1.length + (n - (l1.length + 1))) k3))) := by
      refine Lib.hid ⟨rfl, .slice a3 (l1.length + (n - (l1.length + 1))) k3, ?_⟩
      have ht4 := ht3.trans (Turned.setCell (S := [r]) (w := w3) (a := ⟨r, 0, none⟩) (by simp) (.slice a3 (l1.length + (n - (l1.length + 1))) k3)) (fun j e => .inl e)
      refine ⟨HC.out.relaid ht4 (box_set (hr3.trans HC.out.box)) ?_ ?_, ht4⟩
      · have hk := own_kept (w' := w3.setCell ⟨r, 0, none⟩ (.slice a3 (l1.length + (n - (l1.length + 1))) k3)) (own_base hown3 (base' := b0) (by omega)) fun g' cur hg' => Below.heap_setCell _ _ _ _ (fun e => by
          subst e
          exact type_ne (hr3.trans HC.out.box) hg' (by decide))
        rw [List.flatMap_append, show (l1 ++ l2).length = l1.length + (n - (l1.length + 1)) by rw [List.length_append]; omega]
        exact hk
      · intro x hx
        rw [HL.out]
        rcases List.mem_append.1 hx with h | h
        · exact List.mem_append_left _ h
        · exact List.mem_append_right _ (List.mem_cons_of_mem _ h)
    clear r0' hown3 hgrow3 hr3 ht3
    go_wp2_with fail
    go_end0
    exact HD.out

end Go.Proofs.Ytokphknnblpagaa
