/- The walk of the law MsgApart. -/
import Derived.Test.YtjoanlhdocoddaaMsFixed
import Derived.Test.YtjoanlhdocoddaaMsLaw
import Derived.Test.YtjoanlhdocoddaaMsArg
namespace Go.Proofs.Ytjoanlhdocoddaa
open Go.RowKit Go.Maps Go.ChangeMaps

theorem cut_to {m a : Sough.Msg} (ha : a = cutM m) (w : World) (hwf : m.Wf) : Calls Try.prog 9 #[.agg #[.int .i64 (m.v 0), .int .u64 (m.v 1), .int .u64 (m.v 2), .string ⟨m.offer.toArray⟩, .int .i64 (m.v 4), .int .i64 (m.v 5), .int .i64 (m.v 6), .int .i64 (m.v 7), .int .i64 (m.v 8), .int .i64 (m.v 9), .int .i64 (m.v 10), .int .u64 (m.v 11), .int .u64 (m.v 12)]] w fun e w' => e = .returned (.agg #[.int .i64 (a.v 0), .int .u64 (a.v 1), .int .u64 (a.v 2), .string ⟨a.offer.toArray⟩, .int .i64 (a.v 4), .int .i64 (a.v 5), .int .i64 (a.v 6), .int .i64 (a.v 7), .int .i64 (a.v 8), .int .i64 (a.v 9), .int .i64 (a.v 10), .int .u64 (a.v 11), .int .u64 (a.v 12)]) ∧ Below w.heap.size w w' := by
  subst ha; exact cut_any m w hwf
theorem enc_lit {a : Sough.Msg} {l : List UInt8} (h : a.encode = l) (hwf : a.Wf) (w : World) : Calls Try.prog 15 #[.agg #[.int .i64 (a.v 0), .int .u64 (a.v 1), .int .u64 (a.v 2), .string ⟨a.offer.toArray⟩, .int .i64 (a.v 4), .int .i64 (a.v 5), .int .i64 (a.v 6), .int .i64 (a.v 7), .int .i64 (a.v 8), .int .i64 (a.v 9), .int .i64 (a.v 10), .int .u64 (a.v 11), .int .u64 (a.v 12)]] w fun e w' => e = .returned (.string ⟨l.toArray⟩) ∧ Below w.heap.size w w' := enc_as h w hwf
theorem right_lit {a : Sough.Msg} {b : Bool} (h : a.right = b) (hwf : a.Wf) (w : World) : Calls Try.prog 12 #[.agg #[.int .i64 (a.v 0), .int .u64 (a.v 1), .int .u64 (a.v 2), .string ⟨a.offer.toArray⟩, .int .i64 (a.v 4), .int .i64 (a.v 5), .int .i64 (a.v 6), .int .i64 (a.v 7), .int .i64 (a.v 8), .int .i64 (a.v 9), .int .i64 (a.v 10), .int .u64 (a.v 11), .int .u64 (a.v 12)]] w fun e w' => e = .returned (.bool b) ∧ Below w.heap.size w w' := right_as h w hwf
theorem right_enc {a : Sough.Msg} {l : List UInt8} (h : a.encode = l) : a.right = !l.isEmpty := by
  subst h
  cases hr : a.right
  · rw [Sough.encode_nil.2 hr]; rfl
  · have : a.encode ≠ [] := fun h => by rw [Sough.encode_nil.1 h] at hr; cases hr
    cases he : a.encode with
    | nil => exact absurd he this
    | cons x l => rfl
theorem enc_size {a : Sough.Msg} {l : List UInt8} (h : a.encode = l) : l.length ≤ 154 := by
  subst h
  unfold Sough.Msg.encode
  split
  · rename_i h
    rw [← Sough.acc_all]
    exact Sough.acc_len (Sough.right_spec h).2.1 _
  · simp
theorem size_put13 {W : World} {b : Nat} {m : Sough.Msg} : (put13 W b m).heap.size = W.heap.size := by simp [put13, World.setCell]
theorem Mem.put13 {w W : World} {L : List (Nat × Obj)} {k : Nat} {m0 m : Sough.Msg} {T : TypeId} (h : Mem w ((k, .cells (msgC m0) T (0, 0)) :: L) W) (hk : w.heap.size ≤ k) (hL : ∀ p ∈ L, p.1 ≠ k) :
    Mem w ((k, .cells (msgC m) T (0, 0)) :: L) (put13 W k m) :=
  ⟨put13_below h.bel hk, fun p hp => by
    rcases List.mem_cons.1 hp with rfl | hp'
    · exact put13_heap (h.blk (k, .cells (msgC m0) T (0, 0)) (List.mem_cons_self ..))
    · rw [put13_other (hL p hp')]
      exact h.blk p (List.mem_cons_of_mem _ hp')⟩


set_option maxRecDepth 100000 in
set_option maxHeartbeats 6400000 in
theorem apart_yes {m1 m2 a b : Sough.Msg} {la lb : List UInt8} (ht1 : a = cutM m1) (ht2 : b = cutM m2) (ea : a.encode = la) (eb : b.encode = lb) (qa : la.isEmpty = false) (qb : lb.isEmpty = false) (w : World) (hw1 : m1.Wf) (hw2 : m2.Wf) :
    Calls Try.prog 6 #[.agg (msgC m1), .agg (msgC m2)] w fun e w' => e = .returned (.bool true) ∧ Below w.heap.size w w' := by
  have hwa := Lib.hid (cut_wf hw1); have hwb := Lib.hid (cut_wf hw2)
  rw [← ht1] at hwa; rw [← ht2] at hwb
  have T1 := Lib.hid ht1; have T2 := Lib.hid ht2; clear ht1 ht2
  have H1 := Lib.hid hw1; have H2 := Lib.hid hw2; clear hw1 hw2
  have EA := Lib.hid ea; have EB := Lib.hid eb
  have RA := Lib.hid (right_enc ea); have RB := Lib.hid (right_enc eb)
  have la1 := enc_size ea; have lb1 := enc_size eb
  clear ea eb
  have M0 : Hid (Mem w [(w.heap.size, .cells #[.int .i64 (m1.v 0), .int .u64 (m1.v 1), .int .u64 (m1.v 2), .string ⟨m1.offer.toArray⟩, .int .i64 (m1.v 4), .int .i64 (m1.v 5), .int .i64 (m1.v 6), .int .i64 (m1.v 7), .int .i64 (m1.v 8), .int .i64 (m1.v 9), .int .i64 (m1.v 10), .int .u64 (m1.v 11), .int .u64 (m1.v 12)] 24 (0, 0)), (w.heap.size + 1, .cells #[.int .i64 (m2.v 0), .int .u64 (m2.v 1), .int .u64 (m2.v 2), .string ⟨m2.offer.toArray⟩, .int .i64 (m2.v 4), .int .i64 (m2.v 5), .int .i64 (m2.v 6), .int .i64 (m2.v 7), .int .i64 (m2.v 8), .int .i64 (m2.v 9), .int .i64 (m2.v 10), .int .u64 (m2.v 11), .int .u64 (m2.v 12)] 24 (0, 0))] ((w.alloc (.cells #[.int .i64 (m1.v 0), .int .u64 (m1.v 1), .int .u64 (m1.v 2), .string ⟨m1.offer.toArray⟩, .int .i64 (m1.v 4), .int .i64 (m1.v 5), .int .i64 (m1.v 6), .int .i64 (m1.v 7), .int .i64 (m1.v 8), .int .i64 (m1.v 9), .int .i64 (m1.v 10), .int .u64 (m1.v 11), .int .u64 (m1.v 12)] 24)).alloc (.cells #[.int .i64 (m2.v 0), .int .u64 (m2.v 1), .int .u64 (m2.v 2), .string ⟨m2.offer.toArray⟩, .int .i64 (m2.v 4), .int .i64 (m2.v 5), .int .i64 (m2.v 6), .int .i64 (m2.v 7), .int .i64 (m2.v 8), .int .i64 (m2.v 9), .int .i64 (m2.v 10), .int .u64 (m2.v 11), .int .u64 (m2.v 12)] 24))) := Lib.hid (by
    have := ((Mem.start w).alloc (.cells #[.int .i64 (m1.v 0), .int .u64 (m1.v 1), .int .u64 (m1.v 2), .string ⟨m1.offer.toArray⟩, .int .i64 (m1.v 4), .int .i64 (m1.v 5), .int .i64 (m1.v 6), .int .i64 (m1.v 7), .int .i64 (m1.v 8), .int .i64 (m1.v 9), .int .i64 (m1.v 10), .int .u64 (m1.v 11), .int .u64 (m1.v 12)] 24)).alloc (.cells #[.int .i64 (m2.v 0), .int .u64 (m2.v 1), .int .u64 (m2.v 2), .string ⟨m2.offer.toArray⟩, .int .i64 (m2.v 4), .int .i64 (m2.v 5), .int .i64 (m2.v 6), .int .i64 (m2.v 7), .int .i64 (m2.v 8), .int .i64 (m2.v 9), .int .i64 (m2.v 10), .int .u64 (m2.v 11), .int .u64 (m2.v 12)] 24)
    simp only [World.size_alloc] at this
    exact this.sub fun x hx => by
      simp only [List.mem_cons, List.not_mem_nil, or_false] at hx ⊢
      exact hx.symm)
  unfold msgC
  go_enter Try.func6, Try.ntmps6
  go_wp2_with fail
  generalize (w.alloc (.cells #[.int .i64 (m1.v 0), .int .u64 (m1.v 1), .int .u64 (m1.v 2), .string ⟨m1.offer.toArray⟩, .int .i64 (m1.v 4), .int .i64 (m1.v 5), .int .i64 (m1.v 6), .int .i64 (m1.v 7), .int .i64 (m1.v 8), .int .i64 (m1.v 9), .int .i64 (m1.v 10), .int .u64 (m1.v 11), .int .u64 (m1.v 12)] 24)).alloc (.cells #[.int .i64 (m2.v 0), .int .u64 (m2.v 1), .int .u64 (m2.v 2), .string ⟨m2.offer.toArray⟩, .int .i64 (m2.v 4), .int .i64 (m2.v 5), .int .i64 (m2.v 6), .int .i64 (m2.v 7), .int .i64 (m2.v 8), .int .i64 (m2.v 9), .int .i64 (m2.v 10), .int .u64 (m2.v 11), .int .u64 (m2.v 12)] 24) = W0 at *
  refine (cut_to T1.out W0 H1.out).mono ?_
  rintro e w1 ⟨rfl, hb⟩
  have M1 := Lib.hid (M0.out.later hb)
  clear hb M0
  have r := M1.out.rules; simp only [AllCells, CellsAt, Nat.zero_add, Nat.reduceAdd] at r
  have M2 := Lib.hid (Mem.put13 (m := a) M1.out (Nat.le_refl _) (by simp))
  clear M1
  go_wp2_with fail
  change Calls _ _ _ (put13 w1 w.heap.size a) _
  clear r
  generalize put13 w1 w.heap.size a = W1 at *
  refine (cut_to T2.out W1 H2.out).mono ?_
  rintro e w2 ⟨rfl, hb⟩
  have M3 : Hid (Mem w [(w.heap.size + 1, .cells #[.int .i64 (m2.v 0), .int .u64 (m2.v 1), .int .u64 (m2.v 2), .string ⟨m2.offer.toArray⟩, .int .i64 (m2.v 4), .int .i64 (m2.v 5), .int .i64 (m2.v 6), .int .i64 (m2.v 7), .int .i64 (m2.v 8), .int .i64 (m2.v 9), .int .i64 (m2.v 10), .int .u64 (m2.v 11), .int .u64 (m2.v 12)] 24 (0, 0)), (w.heap.size, .cells #[.int .i64 (a.v 0), .int .u64 (a.v 1), .int .u64 (a.v 2), .string ⟨a.offer.toArray⟩, .int .i64 (a.v 4), .int .i64 (a.v 5), .int .i64 (a.v 6), .int .i64 (a.v 7), .int .i64 (a.v 8), .int .i64 (a.v 9), .int .i64 (a.v 10), .int .u64 (a.v 11), .int .u64 (a.v 12)] 24 (0, 0))] w2) := Lib.hid ((M2.out.later hb).sub fun x hx => by
      simp only [List.mem_cons, List.not_mem_nil, or_false] at hx ⊢
      exact hx.symm)
  clear hb M2
  have r := M3.out.rules; simp only [AllCells, CellsAt, Nat.zero_add, Nat.reduceAdd] at r
  have M4 := Lib.hid (Mem.put13 (m := b) M3.out (Nat.le_succ _) (by simp))
  clear M3
  go_wp2_with fail
  change Code.wp _ _ _ _ (put13 w2 (w.heap.size + 1) b)
  clear r
  generalize put13 w2 (w.heap.size + 1) b = W2 at *
  have xa := fun x : Later W2 => cells13 ((M4.out.later x.below).get 1 rfl)
  have xb := fun x : Later W2 => cells13 ((M4.out.later x.below).get 0 rfl)
  have CA := enc_lit EA.out hwa.out
  have CB := enc_lit EB.out hwb.out
  refine wp_region_later (by kernel_rfl) (by kernel_rfl) ?_
  go_big_quiet_step (fail)
  go_big_quiet_step ((go_at_call 15; exact Calls.later (CA _)))
  go_big_quiet_step (fail)
  go_big_quiet_step ((go_at_call 15; exact Calls.later (CB _)))
  go_big_quiet_step (fail)
  go_big_quiet_step (fail)
  refine wpQuiet_nil ?_
  rintro ⟨w3, hb3⟩
  change Exit.then _ _ _ _ w3
  have M5 := Lib.hid (M4.out.later hb3)
  clear xa xb M4 hb3 CA CB
  have EQ := eqMsg a b
  have EG : Try.prog.eqGuardType Try.prog.depth 24 = false := by kernel_rfl
  have ca := cells13 (M5.out.get 1 rfl)
  have cb := cells13 (M5.out.get 0 rfl)
  have ra : a.right = true := by rw [RA.out, qa]; rfl
  have rb : b.right = true := by rw [RB.out, qb]; rfl
  have ba : a.bytes = la := by rw [← EA.out]; unfold Sough.Msg.encode; rw [if_pos ra]
  have bb : b.bytes = lb := by rw [← EB.out]; unfold Sough.Msg.encode; rw [if_pos rb]
  have HAB : Hid (∀ r, lb = la ++ r → a.same b = true) := Lib.hid fun r h => Sough.apart ra rb (by rw [ba, bb, h])
  have HBA : Hid (∀ r, la = lb ++ r → b.same a = true) := Lib.hid fun r h => Sough.apart rb ra (by rw [ba, bb, h])
  have HS : Hid (a.same b = true → la = lb) := Lib.hid fun h => by rw [← ba, ← bb, Sough.same_bytes h]
  clear ra rb ba bb EA EB RA RB
  cases hsame : a.same b
  · rw [hsame] at EQ
    have hne : la ≠ lb := fun h => by have := HAB.out [] (by rw [h, List.append_nil]); rw [hsame] at this; cases this
    have hl1 : (la == lb) = false := by simp [hne]
    have hl2 : decide (la = lb) = false := by simp [hne]
    have n1 : ¬ ((⟨lb.toArray⟩ : ByteArray).extract 0 la.length).toList = la := fun h => by
      rw [extract_toList] at h
      have := HAB.out (lb.drop la.length) (by conv => lhs; rw [← List.take_append_drop la.length lb, h])
      rw [hsame] at this; cases this
    have n2 : ¬ ((⟨la.toArray⟩ : ByteArray).extract 0 lb.length).toList = lb := fun h => by
      rw [extract_toList] at h
      have := HBA.out (la.drop lb.length) (by conv => lhs; rw [← List.take_append_drop lb.length la, h])
      rw [Sough.same_symm this] at hsame; cases hsame
    go_wp2_with fail
    all_goals
      refine (fixed_walk _).mono ?_
      rintro e w6 ⟨rfl, hb6⟩
      have M6 := Lib.hid (M5.out.later hb6)
      clear ca cb EQ EG
      go_wp2_with fail
      go_ret
      exact ⟨by first | rfl | exact ret_true (by simp [n1, n2]), M6.out.bel⟩
  · have he := HS.out hsame
    subst he
    rw [hsame] at EQ
    go_wp2_with fail
    refine (fixed_walk _).mono ?_
    rintro e w6 ⟨rfl, hb6⟩
    have M6 := Lib.hid (M5.out.later hb6)
    clear ca cb EQ EG
    go_wp2_with fail
    go_ret
    exact ⟨by first | rfl | exact ret_true (by simp), M6.out.bel⟩

set_option maxRecDepth 100000 in
set_option maxHeartbeats 6400000 in
theorem apart_no {m1 m2 a b : Sough.Msg} {la lb : List UInt8} (ht1 : a = cutM m1) (ht2 : b = cutM m2) (ea : a.encode = la) (eb : b.encode = lb) {pa pb : Bool} (qa : la.isEmpty = pa) (qb : lb.isEmpty = pb) (hno : pa = true ∨ pb = true) (w : World) (hw1 : m1.Wf) (hw2 : m2.Wf) :
    Calls Try.prog 6 #[.agg (msgC m1), .agg (msgC m2)] w fun e w' => e = .returned (.bool true) ∧ Below w.heap.size w w' := by
  have QA := Lib.hid qa; have QB := Lib.hid qb; have HNO := Lib.hid hno; clear qa qb hno
  have hwa := Lib.hid (cut_wf hw1); have hwb := Lib.hid (cut_wf hw2)
  rw [← ht1] at hwa; rw [← ht2] at hwb
  have T1 := Lib.hid ht1; have T2 := Lib.hid ht2; clear ht1 ht2
  have H1 := Lib.hid hw1; have H2 := Lib.hid hw2; clear hw1 hw2
  have EA := Lib.hid ea; have EB := Lib.hid eb
  have RA := Lib.hid (right_enc ea); have RB := Lib.hid (right_enc eb)
  have la1 := enc_size ea; have lb1 := enc_size eb
  clear ea eb
  have M0 : Hid (Mem w [(w.heap.size, .cells #[.int .i64 (m1.v 0), .int .u64 (m1.v 1), .int .u64 (m1.v 2), .string ⟨m1.offer.toArray⟩, .int .i64 (m1.v 4), .int .i64 (m1.v 5), .int .i64 (m1.v 6), .int .i64 (m1.v 7), .int .i64 (m1.v 8), .int .i64 (m1.v 9), .int .i64 (m1.v 10), .int .u64 (m1.v 11), .int .u64 (m1.v 12)] 24 (0, 0)), (w.heap.size + 1, .cells #[.int .i64 (m2.v 0), .int .u64 (m2.v 1), .int .u64 (m2.v 2), .string ⟨m2.offer.toArray⟩, .int .i64 (m2.v 4), .int .i64 (m2.v 5), .int .i64 (m2.v 6), .int .i64 (m2.v 7), .int .i64 (m2.v 8), .int .i64 (m2.v 9), .int .i64 (m2.v 10), .int .u64 (m2.v 11), .int .u64 (m2.v 12)] 24 (0, 0))] ((w.alloc (.cells #[.int .i64 (m1.v 0), .int .u64 (m1.v 1), .int .u64 (m1.v 2), .string ⟨m1.offer.toArray⟩, .int .i64 (m1.v 4), .int .i64 (m1.v 5), .int .i64 (m1.v 6), .int .i64 (m1.v 7), .int .i64 (m1.v 8), .int .i64 (m1.v 9), .int .i64 (m1.v 10), .int .u64 (m1.v 11), .int .u64 (m1.v 12)] 24)).alloc (.cells #[.int .i64 (m2.v 0), .int .u64 (m2.v 1), .int .u64 (m2.v 2), .string ⟨m2.offer.toArray⟩, .int .i64 (m2.v 4), .int .i64 (m2.v 5), .int .i64 (m2.v 6), .int .i64 (m2.v 7), .int .i64 (m2.v 8), .int .i64 (m2.v 9), .int .i64 (m2.v 10), .int .u64 (m2.v 11), .int .u64 (m2.v 12)] 24))) := Lib.hid (by
    have := ((Mem.start w).alloc (.cells #[.int .i64 (m1.v 0), .int .u64 (m1.v 1), .int .u64 (m1.v 2), .string ⟨m1.offer.toArray⟩, .int .i64 (m1.v 4), .int .i64 (m1.v 5), .int .i64 (m1.v 6), .int .i64 (m1.v 7), .int .i64 (m1.v 8), .int .i64 (m1.v 9), .int .i64 (m1.v 10), .int .u64 (m1.v 11), .int .u64 (m1.v 12)] 24)).alloc (.cells #[.int .i64 (m2.v 0), .int .u64 (m2.v 1), .int .u64 (m2.v 2), .string ⟨m2.offer.toArray⟩, .int .i64 (m2.v 4), .int .i64 (m2.v 5), .int .i64 (m2.v 6), .int .i64 (m2.v 7), .int .i64 (m2.v 8), .int .i64 (m2.v 9), .int .i64 (m2.v 10), .int .u64 (m2.v 11), .int .u64 (m2.v 12)] 24)
    simp only [World.size_alloc] at this
    exact this.sub fun x hx => by
      simp only [List.mem_cons, List.not_mem_nil, or_false] at hx ⊢
      exact hx.symm)
  unfold msgC
  go_enter Try.func6, Try.ntmps6
  go_wp2_with fail
  generalize (w.alloc (.cells #[.int .i64 (m1.v 0), .int .u64 (m1.v 1), .int .u64 (m1.v 2), .string ⟨m1.offer.toArray⟩, .int .i64 (m1.v 4), .int .i64 (m1.v 5), .int .i64 (m1.v 6), .int .i64 (m1.v 7), .int .i64 (m1.v 8), .int .i64 (m1.v 9), .int .i64 (m1.v 10), .int .u64 (m1.v 11), .int .u64 (m1.v 12)] 24)).alloc (.cells #[.int .i64 (m2.v 0), .int .u64 (m2.v 1), .int .u64 (m2.v 2), .string ⟨m2.offer.toArray⟩, .int .i64 (m2.v 4), .int .i64 (m2.v 5), .int .i64 (m2.v 6), .int .i64 (m2.v 7), .int .i64 (m2.v 8), .int .i64 (m2.v 9), .int .i64 (m2.v 10), .int .u64 (m2.v 11), .int .u64 (m2.v 12)] 24) = W0 at *
  refine (cut_to T1.out W0 H1.out).mono ?_
  rintro e w1 ⟨rfl, hb⟩
  have M1 := Lib.hid (M0.out.later hb)
  clear hb M0
  have r := M1.out.rules; simp only [AllCells, CellsAt, Nat.zero_add, Nat.reduceAdd] at r
  have M2 := Lib.hid (Mem.put13 (m := a) M1.out (Nat.le_refl _) (by simp))
  clear M1
  go_wp2_with fail
  change Calls _ _ _ (put13 w1 w.heap.size a) _
  clear r
  generalize put13 w1 w.heap.size a = W1 at *
  refine (cut_to T2.out W1 H2.out).mono ?_
  rintro e w2 ⟨rfl, hb⟩
  have M3 : Hid (Mem w [(w.heap.size + 1, .cells #[.int .i64 (m2.v 0), .int .u64 (m2.v 1), .int .u64 (m2.v 2), .string ⟨m2.offer.toArray⟩, .int .i64 (m2.v 4), .int .i64 (m2.v 5), .int .i64 (m2.v 6), .int .i64 (m2.v 7), .int .i64 (m2.v 8), .int .i64 (m2.v 9), .int .i64 (m2.v 10), .int .u64 (m2.v 11), .int .u64 (m2.v 12)] 24 (0, 0)), (w.heap.size, .cells #[.int .i64 (a.v 0), .int .u64 (a.v 1), .int .u64 (a.v 2), .string ⟨a.offer.toArray⟩, .int .i64 (a.v 4), .int .i64 (a.v 5), .int .i64 (a.v 6), .int .i64 (a.v 7), .int .i64 (a.v 8), .int .i64 (a.v 9), .int .i64 (a.v 10), .int .u64 (a.v 11), .int .u64 (a.v 12)] 24 (0, 0))] w2) := Lib.hid ((M2.out.later hb).sub fun x hx => by
      simp only [List.mem_cons, List.not_mem_nil, or_false] at hx ⊢
      exact hx.symm)
  clear hb M2
  have r := M3.out.rules; simp only [AllCells, CellsAt, Nat.zero_add, Nat.reduceAdd] at r
  have M4 := Lib.hid (Mem.put13 (m := b) M3.out (Nat.le_succ _) (by simp))
  clear M3
  go_wp2_with fail
  change Code.wp _ _ _ _ (put13 w2 (w.heap.size + 1) b)
  clear r
  generalize put13 w2 (w.heap.size + 1) b = W2 at *
  have xa := fun x : Later W2 => cells13 ((M4.out.later x.below).get 1 rfl)
  have xb := fun x : Later W2 => cells13 ((M4.out.later x.below).get 0 rfl)
  have CA := enc_lit EA.out hwa.out
  have CB := enc_lit EB.out hwb.out
  refine wp_region_later (by kernel_rfl) (by kernel_rfl) ?_
  go_big_quiet_step (fail)
  go_big_quiet_step ((go_at_call 15; exact Calls.later (CA _)))
  go_big_quiet_step (fail)
  go_big_quiet_step ((go_at_call 15; exact Calls.later (CB _)))
  go_big_quiet_step (fail)
  go_big_quiet_step (fail)
  refine wpQuiet_nil ?_
  rintro ⟨w3, hb3⟩
  change Exit.then _ _ _ _ w3
  have M5 := Lib.hid (M4.out.later hb3)
  clear xa xb M4 hb3 CA CB
  have ca := cells13 (M5.out.get 1 rfl)
  have cb := cells13 (M5.out.get 0 rfl)
  have ra := RA.out; have rb := RB.out
  rw [QA.out] at ra; rw [QB.out] at rb
  have CRA := right_lit ra hwa.out
  have CRB := right_lit rb hwb.out
  have qa := QA.out
  have qb := QB.out
  have hno := HNO.out
  clear ra rb RA RB QA QB HNO EA EB
  obtain ⟨rfl, rfl⟩ | ⟨rfl, rfl⟩ | ⟨rfl, rfl⟩ : (pa = true ∧ pb = true) ∨ (pa = true ∧ pb = false) ∨ (pa = false ∧ pb = true) := by revert hno; cases pa <;> cases pb <;> simp
  all_goals
    clear hno
    simp only [Bool.not_true, Bool.not_false] at CRA CRB
    go_wp2_with fail
    refine (CRA _).mono ?_
    rintro e w4 ⟨rfl, hb4⟩
    have M6 := Lib.hid (M5.out.later hb4)
    clear ca cb hb4 M5 CRA
    have cb := cells13 (M6.out.get 0 rfl)
    go_wp2_with fail
    refine (CRB _).mono ?_
    rintro e w5 ⟨rfl, hb5⟩
    have M7 := Lib.hid (M6.out.later hb5)
    clear cb hb5 M6 CRB
    go_wp2_with fail
    refine (fixed_walk _).mono ?_
    rintro e w6 ⟨rfl, hb6⟩
    have M8 := Lib.hid (M7.out.later hb6)
    go_wp2_with fail
    go_ret
    exact ⟨by first | rfl | exact ret_true (by simp), M8.out.bel⟩

/-- As the frame wants it. -/
theorem msgApart_walk (m1 m2 : Sough.Msg) (w : World) (hw1 : m1.Wf) (hw2 : m2.Wf) :
    Calls Try.prog 6 #[.agg (msgC m1), .agg (msgC m2)] w fun e w' => e = .returned (.bool true) ∧ Below w.heap.size w w' := by
  by_cases ha : (cutM m1).encode.isEmpty = true
  · exact apart_no rfl rfl rfl rfl rfl rfl (.inl ha) w hw1 hw2
  · by_cases hb : (cutM m2).encode.isEmpty = true
    · exact apart_no rfl rfl rfl rfl rfl rfl (.inr hb) w hw1 hw2
    · exact apart_yes rfl rfl rfl rfl (by simpa using ha) (by simpa using hb) w hw1 hw2

end Go.Proofs.Ytjoanlhdocoddaa
