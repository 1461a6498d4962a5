/- Pools in memory: maps that read as lists. -/
import Derived.Test.YtokphknnblpagaaPoPlain
import Derived.Test.YtokphknnblpagaaProg
import Derived.Test.YtokphknnblpagaaMem
import Derived.Test.YtokphknnblpagaaTurned
import Derived.Maps.RangeWalk
import Derived.Maps.Ext
import Derived.WalkKit
import Derived.Lib.Hide
namespace Go.Proofs.Ytokphknnblpagaa
open Go.RowKit Go.Maps Go.ChangeMaps

/-- How a pointer to a whole block reads: as that block's number. -/
def ptrElem : Value → Option (DataW Unit × List MemPlace)
  | .pointer none => some (.nil, [])
  | .pointer (some ⟨b, 0, none⟩) => some (.lit (.int .u64 b), [])
  | _ => none

abbrev keyU (i : Nat) : Lit := .int .u64 i
abbrev keyI (i : Nat) : Lit := .int .i64 i
abbrev mkP (b : Nat) : DataW Unit := .lit (.int .u64 b)
abbrev mkS (s : List UInt8) : DataW Unit := .lit (.string s)
theorem lawU : Keyed Try.prog 32 := int_keyed Try.underlying32
theorem lawI : Keyed Try.prog 3 := int_keyed Try.underlying3
theorem keyU_inj {i j : Nat} (h : keyU i = keyU j) : i = j := Int.ofNat.inj (by simpa [keyU] using h)
theorem keyI_inj {i j : Nat} (h : keyI i = keyI j) : i = j := Int.ofNat.inj (by simpa [keyI] using h)
theorem keyOfU {i : Nat} (h : i < 18446744073709551616) : keyOf Try.prog 32 (.int .u64 i) = some (keyU i) := keyOf_int_mk Try.underlying32 (WalkArith.wf_u64 (by omega))
theorem keyOfI {i : Nat} (h : i < 9223372036854775808) : keyOf Try.prog 3 (.int .i64 i) = some (keyI i) := keyOf_int_mk Try.underlying3 (WalkArith.wf_i64 (by omega))

theorem ptrElem_mk (b : Nat) : ptrElem (.pointer (some ⟨b, 0, none⟩)) = some (mkP b, []) := rfl
theorem ptrElem_nil : ptrElem (.pointer none) = some (.nil, []) := rfl
theorem ptrElem_shape {v : Value} {y : DataW Unit × List MemPlace} (h : ptrElem v = some y) : v = .pointer none ∨ ∃ b, v = .pointer (some ⟨b, 0, none⟩) ∧ y.1 = mkP b := by
  unfold ptrElem at h
  split at h
  · exact .inl rfl
  · exact .inr ⟨_, rfl, by cases h; rfl⟩
  · cases h
theorem ptrElem_inv {v : Value} {b : Nat} {ps : List MemPlace} (h : ptrElem v = some (mkP b, ps)) : v = .pointer (some ⟨b, 0, none⟩) := by
  rcases ptrElem_shape h with rfl | ⟨b', rfl, e⟩
  · simp [ptrElem] at h
  · have : b = b' := keyU_inj (by simpa [mkP] using e)
    rw [this]
theorem ptrElem_inv_nil {v : Value} {ps : List MemPlace} (h : ptrElem v = some (.nil, ps)) : v = .pointer none := by
  rcases ptrElem_shape h with rfl | ⟨b', rfl, e⟩
  · rfl
  · simp [mkP] at e
theorem strElem_inv {v : Value} {s : List UInt8} {ps : List MemPlace} (h : plainElem (H := Unit) Try.prog 9 v = some (mkS s, ps)) : v = .string ⟨s.toArray⟩ := by
  unfold plainElem at h
  rw [Try.underlying9] at h
  cases v <;> simp at h
  obtain ⟨_, rfl, _⟩ := h
  simp

/-- A map as read is this list of keys and elements. -/
structure MapsTo {α : Type} (key : Nat → Lit) (mk : α → DataW Unit) (D : DataW Unit) (l : List (Nat × α)) : Prop where
  tidy : Tidy D
  has : ∀ i, Maps.has D (key i) = l.any fun p => p.1 == i
  at_ : ∀ p ∈ l, ∀ zd, D.atKey (key p.1) zd = mk p.2
  size : Maps.size D = l.length
  only : ∀ kl, Maps.has D kl = true → ∃ i, kl = key i

section
variable {α : Type} {key : Nat → Lit} {mk : α → DataW Unit} {D : DataW Unit} {l : List (Nat × α)}

theorem MapsTo.start : MapsTo key mk (.map []) [] := ⟨tidy_empty, fun _ => rfl, fun _ h => absurd h (by simp), rfl, fun _ h => absurd h (by simp [Maps.has])⟩
theorem MapsTo.put (h : MapsTo key mk D l) (inj : ∀ {i j}, key i = key j → i = j) (lit : ∀ i, WideAt.IsKeyLit (key i)) {k : Nat} (v : α) (hk : (l.any fun p => p.1 == k) = false) : MapsTo key mk (D.put (key k) (mk v)) (l ++ [(k, v)]) := by
  refine ⟨h.tidy.put (lit k) _, fun i => ?_, fun p hp zd => ?_, ?_, fun kl hkl => ?_⟩
  · rw [List.any_append, ← h.has i]
    by_cases e : i = k
    · subst e; rw [has_put_same h.tidy.isMap (lit i)]; simp
    · rw [has_put_other (fun e' => e (inj e'))]; simp [Ne.symm e]
  · rcases List.mem_append.1 hp with hp | hp
    · have e : p.1 ≠ k := fun e => by
        have := List.any_eq_false.1 hk p hp
        simp [e] at this
      rw [atKey_put_other (fun e' => e (inj e')), h.at_ p hp]
    · simp only [List.mem_singleton] at hp
      subst hp
      rw [atKey_put_same h.tidy.isMap (lit k)]
  · rw [size_put h.tidy, h.has k, hk, h.size]; simp
  · by_cases e : kl = key k
    · exact ⟨k, e⟩
    · rw [has_put_other e] at hkl; exact h.only kl hkl
theorem MapsTo.del (h : MapsTo key mk D l) (inj : ∀ {i j}, key i = key j → i = j) (hn : (l.map (·.1)).Nodup) (k : Nat) : MapsTo key mk (D.del (key k)) (l.filter fun p => !(p.1 == k)) := by
  refine ⟨h.tidy.del _, fun i => ?_, fun p hp zd => ?_, ?_, fun kl hkl => ?_⟩
  · by_cases e : i = k
    · subst e
      rw [has_del_same]
      symm
      rw [List.any_eq_false]
      intro p hp
      have := (List.mem_filter.1 hp).2
      simpa using this
    · rw [has_del_other (fun e' => e (inj e')), h.has i]
      exact (any_filter_keep (g := fun p : Nat × α => !(p.1 == k)) (fun p hp => by have : p.1 = i := by simpa using hp
                                                                                   simp [this, e]) l).symm
  · obtain ⟨hp1, hp2⟩ := List.mem_filter.1 hp
    have e : p.1 ≠ k := by simpa using hp2
    rw [atKey_del_other (fun e' => e (inj e')), h.at_ p hp1]
  · have h1 := size_del (k := key k) h.tidy
    rw [h.has k, h.size] at h1
    have h2 : (l.filter fun p => !(p.1 == k)).length + (if (l.any fun p => p.1 == k) = true then 1 else 0) = l.length := by
      clear h h1
      induction l with
      | nil => simp
      | cons x l ih =>
        rw [List.map_cons, List.nodup_cons] at hn
        have := ih hn.2
        by_cases e : x.1 = k
        · have hr : (l.any fun p => p.1 == k) = false := List.any_eq_false.2 fun p hp => by
            have : p.1 ≠ k := fun e' => hn.1 (by rw [e, ← e']; exact List.mem_map_of_mem hp)
            simpa using this
          rw [hr] at this
          simp [e] at this ⊢
          omega
        · have e' : (x.1 == k) = false := by simpa using e
          simp only [List.filter_cons, List.any_cons, e', Bool.not_false, if_true, List.length_cons, Bool.false_or]
          omega
    omega
  · by_cases e : kl = key k
    · exact ⟨k, e⟩
    · rw [has_del_other e] at hkl; exact h.only kl hkl
theorem MapsTo.find (h : MapsTo key mk D l) {k : Nat} (hk : Maps.has D (key k) = true) : ∃ v, (k, v) ∈ l := by
  rw [h.has k] at hk
  obtain ⟨p, hp, e⟩ := List.any_eq_true.1 hk
  have : p.1 = k := by simpa using e
  exact ⟨p.2, by rw [← this]; exact hp⟩
end

theorem isKeyU (i : Nat) : WideAt.IsKeyLit (keyU i) := by simp [WideAt.IsKeyLit]
theorem isKeyI (i : Nat) : WideAt.IsKeyLit (keyI i) := by simp [WideAt.IsKeyLit]

section
variable {H : Type} {P : Program} {k : TypeId} {R : Value → Option (DataW H × List MemPlace)} {w w' : World} {b n : Nat} {D : DataW H}
theorem _root_.Go.World.ownsMap.same (h : w.ownsMap P k R b n D) (e : w'.heap[b]? = w.heap[b]?) : w'.ownsMap P k R b n D := by
  obtain ⟨es, clock, hb, r⟩ := h
  exact ⟨es, clock, e.trans hb, r⟩
theorem _root_.Go.World.ownsMap.tight (h : w.ownsMap P k R b n D) : w.ownsMap P k R b (Maps.size D) D := by
  obtain ⟨es, clock, hb, F, _, rfl⟩ := h
  exact ⟨es, clock, hb, F, by simp [Maps.size, length_sorted], rfl⟩
theorem _root_.Go.World.ranges.same {r : Nat} {left : Lit → Bool} {cnt : Nat} (h : w.ranges P k R b r n D left cnt) (e : w'.heap[b]? = w.heap[b]?) (e' : w'.heap[r]? = w.heap[r]?) : w'.ranges P k R b r n D left cnt := by
  obtain ⟨es, clock, since, seen, c0, hb, F, hs, hD, hr, rest⟩ := h
  exact ⟨es, clock, since, seen, c0, e.trans hb, F, hs, hD, e'.trans hr, rest⟩
theorem _root_.Go.World.ranges.mono {r : Nat} {left : Lit → Bool} {cnt n' : Nat} (h : w.ranges P k R b r n D left cnt) (hn : n ≤ n') : w.ranges P k R b r n' D left cnt := by
  obtain ⟨es, clock, since, seen, c0, hb, F, hs, rest⟩ := h
  exact ⟨es, clock, since, seen, c0, hb, F, Nat.le_trans hs hn, rest⟩
end

/-- The parts that came, in memory. -/
def PartsAt (w : World) (b : Nat) (l : List (Nat × List UInt8)) : Prop := ∃ D, w.ownsMap Try.prog 3 (plainElem (H := Unit) Try.prog 9) b l.length D ∧ MapsTo keyI mkS D l
def msgCells (b : Nat) (m : Sough.PMsg) : Array Value := #[.int .i64 m.count, .map (some b), .int .u64 m.since]
def poolCells (mb : Nat) (st : Sough.Pool) : Array Value := #[.map (some mb), .int .i64 st.slots, .int .i64 st.room, .int .i64 st.held]
structure MsgAt (w : World) (a b : Nat) (m : Sough.PMsg) : Prop where
  box : w.heap[a]? = some (.cells (msgCells b m) 67 (0, 0))
  parts : PartsAt w b m.parts
def blocksOf (p mb : Nat) (A : Nat → Nat × Nat) (l : List Sough.PMsg) : List Nat := p :: mb :: l.flatMap fun m => [(A m.id).1, (A m.id).2]
/-- All of a pool but for its map. -/
structure PoolCore (w : World) (p mb : Nat) (st : Sough.Pool) (A : Nat → Nat × Nat) (D : DataW Unit) : Prop where
  box : w.heap[p]? = some (.cells (poolCells mb st) 60 (0, 0))
  msgs : ∀ m ∈ st.l, MsgAt w (A m.id).1 (A m.id).2 m
  apart : (blocksOf p mb A st.l).Nodup
  maps : MapsTo keyU mkP D (st.l.map fun m => (m.id, (A m.id).1))
/-- A pool in memory, in these blocks. -/
def PoolAt (w : World) (p : Nat) (st : Sough.Pool) (S : List Nat) : Prop :=
  ∃ mb A D, PoolCore w p mb st A D ∧ w.ownsMap Try.prog 32 ptrElem mb st.l.length D ∧ S = blocksOf p mb A st.l
theorem PartsAt.same {w w' : World} {b : Nat} {l : List (Nat × List UInt8)} (h : PartsAt w b l) (e : w'.heap[b]? = w.heap[b]?) : PartsAt w' b l := by
  obtain ⟨D, h1, h2⟩ := h
  exact ⟨D, h1.same e, h2⟩
theorem PartsAt.lt {w : World} {b : Nat} {l : List (Nat × List UInt8)} (h : PartsAt w b l) : b < w.heap.size := by
  obtain ⟨D, h1, _⟩ := h
  exact h1.lt
theorem MsgAt.same {w w' : World} {a b : Nat} {m : Sough.PMsg} (h : MsgAt w a b m) (e : w'.heap[a]? = w.heap[a]?) (e' : w'.heap[b]? = w.heap[b]?) : MsgAt w' a b m := ⟨e.trans h.box, h.parts.same e'⟩
theorem mem_blocks {p mb : Nat} {A : Nat → Nat × Nat} {l : List Sough.PMsg} {m : Sough.PMsg} (hm : m ∈ l) : (A m.id).1 ∈ blocksOf p mb A l ∧ (A m.id).2 ∈ blocksOf p mb A l := by
  have h1 : (A m.id).1 ∈ l.flatMap fun m => [(A m.id).1, (A m.id).2] := List.mem_flatMap.2 ⟨m, hm, by simp⟩
  have h2 : (A m.id).2 ∈ l.flatMap fun m => [(A m.id).1, (A m.id).2] := List.mem_flatMap.2 ⟨m, hm, by simp⟩
  exact ⟨List.mem_cons_of_mem _ (List.mem_cons_of_mem _ h1), List.mem_cons_of_mem _ (List.mem_cons_of_mem _ h2)⟩
theorem PoolCore.lt {w : World} {p mb : Nat} {st : Sough.Pool} {A : Nat → Nat × Nat} {D : DataW Unit} (h : PoolCore w p mb st A D) (hmb : mb < w.heap.size) : ∀ i ∈ blocksOf p mb A st.l, i < w.heap.size := by
  intro i hi
  simp only [blocksOf, List.mem_cons, List.mem_flatMap] at hi
  rcases hi with rfl | rfl | ⟨m, hm, hi⟩
  · exact lt_of_block h.box
  · exact hmb
  · simp only [List.not_mem_nil, or_false] at hi
    rcases hi with rfl | rfl
    · exact lt_of_block (h.msgs m hm).box
    · exact (h.msgs m hm).parts.lt
theorem PoolCore.same {w w' : World} {p mb : Nat} {st : Sough.Pool} {A : Nat → Nat × Nat} {D : DataW Unit} (h : PoolCore w p mb st A D) (e : ∀ i ∈ blocksOf p mb A st.l, i ≠ mb → w'.heap[i]? = w.heap[i]?) : PoolCore w' p mb st A D := by
  have ha := h.apart
  simp only [blocksOf, List.nodup_cons, List.mem_cons, not_or] at ha
  obtain ⟨⟨hpm, _⟩, hml, _⟩ := ha
  refine ⟨(e p (by simp [blocksOf]) hpm).trans h.box, fun m hm => ?_, h.apart, h.maps⟩
  have hb := mem_blocks (p := p) (mb := mb) (A := A) hm
  refine (h.msgs m hm).same (e _ hb.1 fun e1 => hml ?_) (e _ hb.2 fun e1 => hml ?_)
  · rw [← e1]; exact List.mem_flatMap.2 ⟨m, hm, by simp⟩
  · rw [← e1]; exact List.mem_flatMap.2 ⟨m, hm, by simp⟩
theorem PoolAt.same {w w' : World} {p : Nat} {st : Sough.Pool} {S : List Nat} (h : PoolAt w p st S) (e : ∀ i ∈ S, w'.heap[i]? = w.heap[i]?) : PoolAt w' p st S := by
  obtain ⟨mb, A, D, h1, h2, rfl⟩ := h
  exact ⟨mb, A, D, h1.same fun i hi _ => e i hi, h2.same (e mb (by simp [blocksOf])), rfl⟩
theorem PoolAt.lt {w : World} {p : Nat} {st : Sough.Pool} {S : List Nat} (h : PoolAt w p st S) : ∀ i ∈ S, i < w.heap.size := by
  obtain ⟨mb, A, D, h1, h2, rfl⟩ := h
  exact h1.lt h2.lt
theorem PoolAt.turned {w w' : World} {p : Nat} {st : Sough.Pool} {S S' : List Nat} (h : PoolAt w p st S) (ht : Turned S' w w') (hd : ∀ i ∈ S, i ∉ S') : PoolAt w' p st S := h.same fun i hi => ht.block i (h.lt i hi) (hd i hi)
theorem PoolAt.later {w w' : World} {p : Nat} {st : Sough.Pool} {S : List Nat} (h : PoolAt w p st S) (hb : Below w.heap.size w w') : PoolAt w' p st S := h.same fun i hi => hb.block i (h.lt i hi)
theorem PoolAt.mem {w : World} {p : Nat} {st : Sough.Pool} {S : List Nat} (h : PoolAt w p st S) : p ∈ S := by
  obtain ⟨mb, A, D, h1, h2, rfl⟩ := h
  simp [blocksOf]

/-! ### the laws at the operations -/
section
variable (w : World) {ops : Array Oper} {rest : List Oper} {o : Oper} {a : Act} {Q : Exit → Act → World → Prop}

/-- A step over the parts. -/
theorem next_parts (hg : o.guard = none) (it : Operand) (hop : o.op = Op.next it false) (b r n : Nat) (D : DataW Unit) (left : Lit → Bool) (cnt : Nat) (l : List (Nat × List UInt8)) (hit : a.eval it = .pointer (some ⟨r, 0, none⟩))
    (h : w.ranges Try.prog 3 (plainElem (H := Unit) Try.prog 9) b r n D left cnt) (hM : MapsTo keyI mkS D l) (hk : ∀ kl, left kl = true → ∃ i, kl = keyI i)
    (hDone : (∀ kl, left kl = false) → wpList Try.prog ops Q rest (a.put o.dst (.tuple #[.bool false])) w)
    (hMore : ∀ (i : Nat) (s : List UInt8) (w' : World) (cnt' : Nat), (i, s) ∈ l → left (keyI i) = true → w'.ranges Try.prog 3 (plainElem (H := Unit) Try.prog 9) b r n D (fun z => left z && !z.sameKey (keyI i)) cnt' → cnt' < cnt → w.grownBy w' (some r) → w'.heap.size = w.heap.size →
      (Instr.entry (.pointer (some ⟨r, 0, none⟩))).run Try.prog w' = .ok (.tuple #[.int .i64 i, .string ⟨s.toArray⟩]) w' → wpList Try.prog ops Q rest (a.put o.dst (.tuple #[.bool true, .int .i64 i, .string ⟨s.toArray⟩])) w') :
    wpList Try.prog ops Q (o :: rest) a w := by
  refine wpList_plain hg fun K' hK' => ?_
  unfold Oper.wp
  rcases h.next lawI o.type with ⟨h0, hl, hrun⟩ | ⟨key, v, kl, y, w', cnt', hkey, hlk, hv, hat, hrun, hrg, hlt, hgr, hsz, hen⟩
  · simp [execOp, hop, hit, hrun, Result.andThen]
    exact hK' _ _ (hDone hl)
  · obtain ⟨i, rfl⟩ := hk kl hlk
    obtain ⟨x, rfl, e1, _⟩ := Maps.keyOf_int_inv Try.underlying3 hkey
    obtain ⟨s, hs⟩ := hM.find (has_true_of_atKey hat)
    have e2 : x = (i : Int) := by simpa [keyI] using e1.symm
    subst e2
    have e3 := hM.at_ _ hs .nil
    rw [hat] at e3
    have e4 : v = .string ⟨s.toArray⟩ := strElem_inv (ps := y.2) (by rw [hv, ← e3])
    subst e4
    simp [execOp, hop, hit, hrun, Result.andThen]
    exact hK' _ _ (hMore i s w' cnt' hs hlk hrg hlt hgr hsz hen)

/-- A step over the messages. -/
theorem next_msgs (hg : o.guard = none) (it : Operand) (hop : o.op = Op.next it false) (b r n : Nat) (D : DataW Unit) (left : Lit → Bool) (cnt : Nat) (l : List (Nat × Nat)) (hit : a.eval it = .pointer (some ⟨r, 0, none⟩))
    (h : w.ranges Try.prog 32 ptrElem b r n D left cnt) (hM : MapsTo keyU mkP D l) (hk : ∀ kl, left kl = true → ∃ i, kl = keyU i)
    (hDone : (∀ kl, left kl = false) → wpList Try.prog ops Q rest (a.put o.dst (.tuple #[.bool false])) w)
    (hMore : ∀ (i s : Nat) (w' : World) (cnt' : Nat), (i, s) ∈ l → left (keyU i) = true → w'.ranges Try.prog 32 ptrElem b r n D (fun z => left z && !z.sameKey (keyU i)) cnt' → cnt' < cnt → w.grownBy w' (some r) → w'.heap.size = w.heap.size →
      (Instr.entry (.pointer (some ⟨r, 0, none⟩))).run Try.prog w' = .ok (.tuple #[.int .u64 i, .pointer (some ⟨s, 0, none⟩)]) w' → wpList Try.prog ops Q rest (a.put o.dst (.tuple #[.bool true, .int .u64 i, .pointer (some ⟨s, 0, none⟩)])) w') :
    wpList Try.prog ops Q (o :: rest) a w := by
  refine wpList_plain hg fun K' hK' => ?_
  unfold Oper.wp
  rcases h.next lawU o.type with ⟨h0, hl, hrun⟩ | ⟨key, v, kl, y, w', cnt', hkey, hlk, hv, hat, hrun, hrg, hlt, hgr, hsz, hen⟩
  · simp [execOp, hop, hit, hrun, Result.andThen]
    exact hK' _ _ (hDone hl)
  · obtain ⟨i, rfl⟩ := hk kl hlk
    obtain ⟨x, rfl, e1, _⟩ := Maps.keyOf_int_inv Try.underlying32 hkey
    obtain ⟨s, hs⟩ := hM.find (has_true_of_atKey hat)
    have e2 : x = (i : Int) := by simpa [keyU] using e1.symm
    subst e2
    have e3 := hM.at_ _ hs .nil
    rw [hat] at e3
    have e4 : v = .pointer (some ⟨s, 0, none⟩) := ptrElem_inv (ps := y.2) (by rw [hv, ← e3])
    subst e4
    simp [execOp, hop, hit, hrun, Result.andThen]
    exact hK' _ _ (hMore i s w' cnt' hs hlk hrg hlt hgr hsz hen)
end

theorem zeroP (w : World) : (zeroValue 64).run Try.prog w = .ok (.pointer none) w := by kernel_rfl
theorem zeroS (w : World) : (zeroValue 9).run Try.prog w = .ok (.string ⟨#[]⟩) w := by kernel_rfl

section
variable {w : World} {b n : Nat} {D : DataW Unit}
/-- 'm[k]' of the parts. -/
theorem look_part {l : List (Nat × List UInt8)} (h : w.ownsMap Try.prog 3 (plainElem (H := Unit) Try.prog 9) b n D) (hM : MapsTo keyI mkS D l) {i : Nat} (hi : i < 9223372036854775808) (hn : (l.map (·.1)).Nodup) :
    (Instr.lookup 65 (.map (some b)) (.int .i64 i) false).run Try.prog w = .ok (.string ⟨(Sough.partAt l i).toArray⟩) w := by
  obtain ⟨v, ps, hrun, hv⟩ := h.lookup lawI Try.underlying65 (zeroS w) (zd := mkS []) (zp := []) (plainElem_string Try.underlying9 (by decide)) (keyOfI hi)
  rw [hrun]
  congr 2
  cases hh : Maps.has D (keyI i)
  · rw [atKey_of_not_has hh] at hv
    have hno : Sough.partAt l i = [] := by
      rw [hM.has i] at hh
      unfold Sough.partAt
      rw [List.find?_eq_none.2 fun p hp => by simpa using List.any_eq_false.1 hh p hp]
      rfl
    rw [hno]
    exact strElem_inv hv
  · obtain ⟨s, hs⟩ := hM.find hh
    rw [hM.at_ _ hs] at hv
    have : Sough.partAt l i = s := by
      unfold Sough.partAt
      have hf : (l.find? fun p => p.1 == i) = some (i, s) := by
        clear hM hv hh hrun h
        induction l with
        | nil => simp at hs
        | cons x l ih =>
          rw [List.map_cons, List.nodup_cons] at hn
          rcases List.mem_cons.1 hs with rfl | hs
          · simp
          · have : x.1 ≠ i := fun e => hn.1 (by rw [e]; exact List.mem_map_of_mem (f := (·.1)) hs)
            rw [List.find?_cons_of_neg (by simpa using this)]
            exact ih hn.2 hs
      rw [hf]; rfl
    rw [this]
    exact strElem_inv hv
theorem partAt_val {l : List (Nat × List UInt8)} {v : Value} {ps : List MemPlace} {i : Nat} (hM : MapsTo keyI mkS D l) (hn : (l.map (·.1)).Nodup) (hv : plainElem (H := Unit) Try.prog 9 v = some (D.atKey (keyI i) (mkS []), ps)) : v = .string ⟨(Sough.partAt l i).toArray⟩ := by
  cases hh : Maps.has D (keyI i)
  · rw [atKey_of_not_has hh] at hv
    have hno : Sough.partAt l i = [] := by
      rw [hM.has i] at hh
      unfold Sough.partAt
      rw [List.find?_eq_none.2 fun p hp => by simpa using List.any_eq_false.1 hh p hp]
      rfl
    rw [hno]
    exact strElem_inv hv
  · obtain ⟨s, hs⟩ := hM.find hh
    rw [hM.at_ _ hs] at hv
    have : Sough.partAt l i = s := by
      unfold Sough.partAt
      have hf : (l.find? fun p => p.1 == i) = some (i, s) := by
        clear hM hv hh
        induction l with
        | nil => simp at hs
        | cons x l ih =>
          rw [List.map_cons, List.nodup_cons] at hn
          rcases List.mem_cons.1 hs with rfl | hs
          · simp
          · have : x.1 ≠ i := fun e => hn.1 (by rw [e]; exact List.mem_map_of_mem (f := (·.1)) hs)
            rw [List.find?_cons_of_neg (by simpa using this)]
            exact ih hn.2 hs
      rw [hf]; rfl
    rw [this]
    exact strElem_inv hv
/-- '_, was := m[k]' of the parts. -/
theorem look_part_ok {l : List (Nat × List UInt8)} (h : w.ownsMap Try.prog 3 (plainElem (H := Unit) Try.prog 9) b n D) (hM : MapsTo keyI mkS D l) {i : Nat} (hi : i < 9223372036854775808) (hn : (l.map (·.1)).Nodup) :
    (Instr.lookup 65 (.map (some b)) (.int .i64 i) true).run Try.prog w = .ok (.tuple #[.string ⟨(Sough.partAt l i).toArray⟩, .bool (l.any fun p => p.1 == i)]) w := by
  obtain ⟨v, ps, hrun, hv⟩ := h.look_ok lawI Try.underlying65 (zeroS w) (zd := mkS []) (zp := []) (plainElem_string Try.underlying9 (by decide)) (keyOfI hi)
  rw [hrun, hM.has i, partAt_val hM hn hv]
/-- 'm, is := l[id]', there. -/
theorem look_msg_ok {l : List (Nat × Nat)} (h : w.ownsMap Try.prog 32 ptrElem b n D) (hM : MapsTo keyU mkP D l) {i s : Nat} (hi : i < 18446744073709551616) (hs : (i, s) ∈ l) (c : Bool) :
    (Instr.lookup 58 (.map (some b)) (.int .u64 i) c).run Try.prog w = .ok (if c then .tuple #[.pointer (some ⟨s, 0, none⟩), .bool true] else .pointer (some ⟨s, 0, none⟩)) w := by
  have hh : Maps.has D (keyU i) = true := by rw [hM.has i]; exact List.any_eq_true.2 ⟨_, hs, by simp⟩
  cases c
  · obtain ⟨v, ps, hrun, hv⟩ := h.lookup lawU Try.underlying58 (zeroP w) ptrElem_nil (keyOfU hi)
    rw [hM.at_ _ hs] at hv
    rw [hrun, ptrElem_inv hv]; rfl
  · obtain ⟨v, ps, hrun, hv⟩ := h.look_ok lawU Try.underlying58 (zeroP w) ptrElem_nil (keyOfU hi)
    rw [hM.at_ _ hs] at hv
    rw [hrun, ptrElem_inv hv, hh]; rfl
/-- .. not there. -/
theorem look_msg_no {l : List (Nat × Nat)} (h : w.ownsMap Try.prog 32 ptrElem b n D) (hM : MapsTo keyU mkP D l) {i : Nat} (hi : i < 18446744073709551616) (hno : ∀ p ∈ l, p.1 ≠ i) :
    (Instr.lookup 58 (.map (some b)) (.int .u64 i) true).run Try.prog w = .ok (.tuple #[.pointer none, .bool false]) w := by
  have hh : Maps.has D (keyU i) = false := by rw [hM.has i]; exact List.any_eq_false.2 fun p hp => by simpa using hno p hp
  obtain ⟨v, ps, hrun, hv⟩ := h.look_ok lawU Try.underlying58 (zeroP w) ptrElem_nil (keyOfU hi)
  rw [atKey_of_not_has hh] at hv
  rw [hrun, ptrElem_inv_nil hv, hh]
end

end Go.Proofs.Ytokphknnblpagaa
