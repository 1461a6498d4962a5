/- The document's Decode at any bytes; Ref; its Names; Same. -/
import Derived.Test.YtjoanlhdocoddaaMsRDecA
import Derived.Test.YtjoanlhdocoddaaMsRDecB
import Derived.Test.YtjoanlhdocoddaaMsArg
import Derived.Test.YtjoanlhdocoddaaMsBack
namespace Go.Proofs.Ytjoanlhdocoddaa
open Go.RowKit Go.Maps Go.ChangeMaps

theorem rchain_wf {s : List UInt8} : ∀ (l : List Sough.Fld) (x : Sough.Msg × Sough.Rd), x.1.Wf → (Sough.rchain s x l).1.Wf
  | [], _, h => h
  | f :: l, x, h => by
    refine rchain_wf l (Sough.rstep s x f) ?_
    unfold Sough.rstep
    split
    · refine ⟨h.ints, h.nats, ?_⟩
      simp only
      unfold Sough.roff
      split
      · simp
      · have := Sough.getText_len s x.2.k 8
        simp only
        omega
    · rcases hr : Sough.rnum s x.2 with ⟨n, q⟩
      exact Sough.Wf.set h (rnum_le hr)

set_option maxRecDepth 100000 in
set_option maxHeartbeats 3200000 in
theorem rdec_early {s : List UInt8} {er : Nat} {n k : Nat} (w : World) (hs : s.length ≤ 5000) (hg : Sough.get s 0 = (n, k, er)) (h : 4096 < s.length ∨ er ≠ 0 ∨ n < 1 ∨ 5 ≤ n) :
    Calls Try.prog 11 #[.string ⟨s.toArray⟩] w (DecTo w (Sough.decodeM s)) := by
  by_cases hbig : 4096 < s.length
  · rw [Sough.dec_kind hbig]
    clear h hg
    go_enter Try.func11, Try.ntmps11
    go_wp2_with fail
    refine bodyPost_ret (v := .tuple #[.agg #[.int .i64 0, .int .u64 0, .int .u64 0, .string ⟨#[]⟩, .int .i64 0, .int .i64 0, .int .i64 0, .int .i64 0, .int .i64 0, .int .i64 0, .int .i64 0, .int .u64 0, .int .u64 0], .int .i64 4]) (by simp [results, Try.results11, go_sem]) rfl ⟨rfl, (Below.refl _ _).alloc (Nat.le_refl _) _⟩
  · have hsm : s.length ≤ 4096 := by omega
    have CT := Lib.hid fun w => rget_as (s := ⟨s.toArray⟩) (k := 0) hg w (by rw [mk_size]; unfold maxLen; omega)
    have M0 : Hid (Mem w [(w.heap.size, .cells (msgC Sough.zeroMsg) 29 (0, 0))] (w.alloc (.cells #[.int .i64 0, .int .u64 0, .int .u64 0, .string ⟨#[]⟩, .int .i64 0, .int .i64 0, .int .i64 0, .int .i64 0, .int .i64 0, .int .i64 0, .int .i64 0, .int .u64 0, .int .u64 0] 29))) := Lib.hid ((Mem.start w).alloc _)
    by_cases he : er = 0
    · subst he
      have hn : n < 1 ∨ 5 ≤ n := by omega
      rw [Sough.dec_form hsm hg hn]
      have hn4 : n < 1 ∨ 4 < n := by omega
      clear hn h hg
      go_enter Try.func11, Try.ntmps11
      go_wp2_with fail
      generalize w.alloc (.cells #[.int .i64 0, .int .u64 0, .int .u64 0, .string ⟨#[]⟩, .int .i64 0, .int .i64 0, .int .i64 0, .int .i64 0, .int .i64 0, .int .i64 0, .int .i64 0, .int .u64 0, .int .u64 0] 29) = W at *
      refine (CT.out W).mono ?_
      rintro e w1 ⟨rfl, hb1⟩
      have M1 := Lib.hid (M0.out.later hb1)
      clear hb1 M0 CT
      by_cases h1 : n < 1
      · skip
        have hz : w1.heap[w.heap.size]? = some (.cells (msgC Sough.zeroMsg) 29 (0, 0)) := M1.out.get 0 rfl
        have MZ : Hid (Mem w [(w.heap.size, .cells #[.int .i64 0, .int .u64 0, .int .u64 0, .string ⟨#[]⟩, .int .i64 0, .int .i64 0, .int .i64 0, .int .i64 0, .int .i64 0, .int .i64 0, .int .i64 0, .int .u64 0, .int .u64 0] 29 (0, 0))] w1) := Lib.hid ((Mem.with ⟨M1.out.bel, fun _ h => absurd h (by simp)⟩ hz))
        have rz := MZ.out.rules; simp only [AllCells, CellsAt, Nat.zero_add, Nat.reduceAdd] at rz
        have HBL := Lib.hid (put13_below (m := Sough.zeroMsg) M1.out.bel (Nat.le_refl w.heap.size))
        have HZ := Lib.hid (cells13 (put13_heap (m := Sough.zeroMsg) hz))
        clear hz MZ
        go_wp2_with fail
        change bodyPost _ _ _ _ _ (put13 w1 w.heap.size Sough.zeroMsg)
        clear rz
        generalize put13 w1 w.heap.size Sough.zeroMsg = WW at *
        have rz := HZ.out
        refine bodyPost_ret (v := .tuple #[.agg #[.int .i64 0, .int .u64 0, .int .u64 0, .string ⟨#[]⟩, .int .i64 0, .int .i64 0, .int .i64 0, .int .i64 0, .int .i64 0, .int .i64 0, .int .i64 0, .int .u64 0, .int .u64 0], .int .i64 (3 : Nat)]) (by simp [results, Try.results11, go_sem, rz, Sough.zeroMsg]) rfl ?_
        exact ⟨rfl, HBL.out⟩
      · have h5 : 4 < n := by omega
        have hz : w1.heap[w.heap.size]? = some (.cells (msgC Sough.zeroMsg) 29 (0, 0)) := M1.out.get 0 rfl
        have MZ : Hid (Mem w [(w.heap.size, .cells #[.int .i64 0, .int .u64 0, .int .u64 0, .string ⟨#[]⟩, .int .i64 0, .int .i64 0, .int .i64 0, .int .i64 0, .int .i64 0, .int .i64 0, .int .i64 0, .int .u64 0, .int .u64 0] 29 (0, 0))] w1) := Lib.hid ((Mem.with ⟨M1.out.bel, fun _ h => absurd h (by simp)⟩ hz))
        have rz := MZ.out.rules; simp only [AllCells, CellsAt, Nat.zero_add, Nat.reduceAdd] at rz
        have HBL := Lib.hid (put13_below (m := Sough.zeroMsg) M1.out.bel (Nat.le_refl w.heap.size))
        have HZ := Lib.hid (cells13 (put13_heap (m := Sough.zeroMsg) hz))
        clear hz MZ
        go_wp2_with fail
        change bodyPost _ _ _ _ _ (put13 w1 w.heap.size Sough.zeroMsg)
        clear rz
        generalize put13 w1 w.heap.size Sough.zeroMsg = WW at *
        have rz := HZ.out
        refine bodyPost_ret (v := .tuple #[.agg #[.int .i64 0, .int .u64 0, .int .u64 0, .string ⟨#[]⟩, .int .i64 0, .int .i64 0, .int .i64 0, .int .i64 0, .int .i64 0, .int .i64 0, .int .i64 0, .int .u64 0, .int .u64 0], .int .i64 (3 : Nat)]) (by simp [results, Try.results11, go_sem, rz, Sough.zeroMsg]) rfl ?_
        exact ⟨rfl, HBL.out⟩
    · rw [Sough.dec_get hsm hg he]
      have b2 : ((er : Int) != 0) = true := by simpa using he
      clear h hg he
      go_enter Try.func11, Try.ntmps11
      go_wp2_with fail
      generalize w.alloc (.cells #[.int .i64 0, .int .u64 0, .int .u64 0, .string ⟨#[]⟩, .int .i64 0, .int .i64 0, .int .i64 0, .int .i64 0, .int .i64 0, .int .i64 0, .int .i64 0, .int .u64 0, .int .u64 0] 29) = W at *
      refine (CT.out W).mono ?_
      rintro e w1 ⟨rfl, hb1⟩
      have M1 := Lib.hid (M0.out.later hb1)
      clear hb1 M0 CT
      have hz : w1.heap[w.heap.size]? = some (.cells (msgC Sough.zeroMsg) 29 (0, 0)) := M1.out.get 0 rfl
      have MZ : Hid (Mem w [(w.heap.size, .cells #[.int .i64 0, .int .u64 0, .int .u64 0, .string ⟨#[]⟩, .int .i64 0, .int .i64 0, .int .i64 0, .int .i64 0, .int .i64 0, .int .i64 0, .int .i64 0, .int .u64 0, .int .u64 0] 29 (0, 0))] w1) := Lib.hid ((Mem.with ⟨M1.out.bel, fun _ h => absurd h (by simp)⟩ hz))
      have rz := MZ.out.rules; simp only [AllCells, CellsAt, Nat.zero_add, Nat.reduceAdd] at rz
      have HBL := Lib.hid (put13_below (m := Sough.zeroMsg) M1.out.bel (Nat.le_refl w.heap.size))
      have HZ := Lib.hid (cells13 (put13_heap (m := Sough.zeroMsg) hz))
      clear hz MZ
      go_wp2_with fail
      change bodyPost _ _ _ _ _ (put13 w1 w.heap.size Sough.zeroMsg)
      clear rz
      generalize put13 w1 w.heap.size Sough.zeroMsg = WW at *
      have rz := HZ.out
      refine bodyPost_ret (v := .tuple #[.agg #[.int .i64 0, .int .u64 0, .int .u64 0, .string ⟨#[]⟩, .int .i64 0, .int .i64 0, .int .i64 0, .int .i64 0, .int .i64 0, .int .i64 0, .int .i64 0, .int .u64 0, .int .u64 0], .int .i64 (er : Nat)]) (by simp [results, Try.results11, go_sem, rz, Sough.zeroMsg]) rfl ?_
      exact ⟨rfl, HBL.out⟩

theorem rdec_as {s : List UInt8} {r : Sough.Msg × Nat} (hr : Sough.decodeM s = r) (w : World) (hs : s.length ≤ 5000) : Calls Try.prog 11 #[.string ⟨s.toArray⟩] w (DecTo w r) := by
  subst hr
  rcases hg : Sough.get s 0 with ⟨n, k, er⟩
  by_cases h : 4096 < s.length ∨ er ≠ 0 ∨ n < 1 ∨ 5 ≤ n
  · exact rdec_early w hs hg h
  · have hsm : s.length ≤ 4096 := by omega
    have he : er = 0 := by omega
    subst he
    have hn1 : 1 ≤ n := by omega
    have hn2 : n < 5 := by omega
    obtain ⟨x, hx⟩ : ∃ x, Sough.rchain s (Sough.kindMsg n, ⟨k, 0⟩) (Sough.flds n) = x := ⟨_, rfl⟩
    have hd := Sough.dec_rchain hsm hg hn1 hn2 hx
    have hwf : x.1.Wf := by rw [← hx]; exact rchain_wf _ _ (Sough.Wf.kind (k := n) (by omega))
    have : n = 1 ∨ n = 2 ∨ n = 3 ∨ n = 4 := by omega
    rcases this with rfl | rfl | rfl | rfl
    · exact rd1 w hsm hg hx hd.symm hwf
    · exact rd2 w hsm hg hx hd.symm hwf
    · exact rd3 w hsm hg hx hd.symm hwf
    · exact rd4 w hsm hg hx hd.symm hwf

set_option maxRecDepth 100000 in
set_option maxHeartbeats 3200000 in
theorem ref_any (m : Sough.Msg) (w : World) : Calls Try.prog 14 #[.agg #[.int .i64 (m.v 0), .int .u64 (m.v 1), .int .u64 (m.v 2), .string ⟨m.offer.toArray⟩, .int .i64 (m.v 4), .int .i64 (m.v 5), .int .i64 (m.v 6), .int .i64 (m.v 7), .int .i64 (m.v 8), .int .i64 (m.v 9), .int .i64 (m.v 10), .int .u64 (m.v 11), .int .u64 (m.v 12)]] w fun e w' => e = .returned (.agg #[.int .i64 (m.v 0), .int .u64 (m.v 1), .int .u64 (m.v 2), .string ⟨m.offer.toArray⟩, .int .i64 (m.v 4), .int .i64 (m.v 5), .int .i64 (m.v 6), .int .i64 (m.v 7), .int .i64 (m.v 8), .int .i64 (m.v 9), .int .i64 (m.v 10), .int .u64 (m.v 11), .int .u64 (m.v 12)]) ∧ Below w.heap.size w w' := by
  go_enter Try.func14, Try.ntmps14
  go_wp2_with fail
  refine bodyPost_ret (v := .agg #[.int .i64 (m.v 0), .int .u64 (m.v 1), .int .u64 (m.v 2), .string ⟨m.offer.toArray⟩, .int .i64 (m.v 4), .int .i64 (m.v 5), .int .i64 (m.v 6), .int .i64 (m.v 7), .int .i64 (m.v 8), .int .i64 (m.v 9), .int .i64 (m.v 10), .int .u64 (m.v 11), .int .u64 (m.v 12)]) (by simp [results, Try.results14, go_sem]) rfl ⟨rfl, ?_⟩
  exact ((Below.refl _ _).alloc (Nat.le_refl _) _).alloc (by simp) _

/-- A row of integers of the call's own. -/
def RowTo (w : World) (l : List Int) (e : Ending) (w' : World) : Prop :=
  Below w.heap.size w w' ∧ ∃ g, e = .returned (.slice (some ⟨g, 0, none⟩) l.length l.length) ∧ w.heap.size ≤ g ∧ w'.heap[g]? = some (.cells (l.map (Value.int .i64)).toArray 3 (0, 0))

set_option maxRecDepth 100000 in
set_option maxHeartbeats 1600000 in
theorem rnames_any (m : Sough.Msg) (w : World) : Calls Try.prog 19 #[.agg #[.int .i64 (m.v 0), .int .u64 (m.v 1), .int .u64 (m.v 2), .string ⟨m.offer.toArray⟩, .int .i64 (m.v 4), .int .i64 (m.v 5), .int .i64 (m.v 6), .int .i64 (m.v 7), .int .i64 (m.v 8), .int .i64 (m.v 9), .int .i64 (m.v 10), .int .u64 (m.v 11), .int .u64 (m.v 12)]] w (RowTo w (namesL m)) := by
  by_cases h1 : m.v 0 = 1
  · have hl : namesL m = [m.v 6, m.v 7, m.v 8, m.v 9, m.v 10] := by unfold namesL; rw [if_pos h1]
    rw [hl]
    go_enter Try.func19, Try.ntmps19
    go_wp2_with fail
    go_ret
    exact ⟨((Below.refl _ _).alloc (Nat.le_refl _) _).alloc (by simp) _, _, rfl, by simp, names_new _ _ _⟩
  · by_cases h2 : m.v 0 = 2
    · have hl : namesL m = [m.v 6, m.v 8, m.v 9] := by unfold namesL; rw [if_neg h1, if_pos h2]
      rw [hl]
      go_enter Try.func19, Try.ntmps19
      go_wp2_with fail
      go_ret
      exact ⟨((Below.refl _ _).alloc (Nat.le_refl _) _).alloc (by simp) _, _, rfl, by simp, names_new _ _ _⟩
    · by_cases h4 : m.v 0 = 4
      · have hl : namesL m = [m.v 9] := by unfold namesL; rw [if_neg h1, if_neg h2, if_pos h4]
        rw [hl]
        go_enter Try.func19, Try.ntmps19
        go_wp2_with fail
        go_ret
        exact ⟨((Below.refl _ _).alloc (Nat.le_refl _) _).alloc (by simp) _, _, rfl, by simp, names_new _ _ _⟩
      · have hl : namesL m = [] := by unfold namesL; rw [if_neg h1, if_neg h2, if_neg h4]
        rw [hl]
        go_enter Try.func19, Try.ntmps19
        go_wp2_with fail
        go_ret
        exact ⟨((Below.refl _ _).alloc (Nat.le_refl _) _).alloc (by simp) _, _, rfl, by simp, names_new _ _ _⟩

set_option maxRecDepth 100000 in
set_option maxHeartbeats 1600000 in
theorem same_nil {a b : Option Addr} {c1 c2 : Nat} (w : World) : Calls Try.prog 17 #[.slice a 0 c1, .slice b 0 c2] w fun e w' => e = .returned (.bool true) ∧ Below w.heap.size w w' := by
  go_enter Try.func17, Try.ntmps17
  go_wp2_with fail
  go_loopw [5] (fun iv wr => SameR 0 w iv wr) (fun iv _ => 0 - (intOf iv).toNat)
  case atStart => exact ⟨0, Nat.zero_le _, rfl, Below.refl _ _⟩
  case round =>
    obtain ⟨k, hk, rfl, hbel⟩ := hrel
    obtain rfl : k = 0 := by omega
    have HB := Lib.hid hbel
    clear hbel
    go_wp2_with fail
    go_ret
    exact ⟨rfl, HB.out⟩

end Go.Proofs.Ytjoanlhdocoddaa
namespace Go
open Go.RowKit Go.Proofs.Ytjoanlhdocoddaa
section
variable {P : Program} {Q : Exit → Act → World → Prop}
theorem val_of_quiet_g {ops : Array Oper} {o : Oper} {a A : Act} {x : World} (hw : Region.wanted o (yielded ops a.tmps) = true) (h : wpQuiet P ops (fun y => ∃ z : Later x, y = z.world) (fun b => b = A) [o] a) :
    o.wp P a x (fun b y => b = A ∧ Below x.heap.size x y) Q := by
  unfold wpQuiet at h
  rw [hw] at h
  simp only [if_true] at h
  refine Oper.wp_of_quiet (C := fun y => ∃ z : Later x, y = z.world) (K := fun b => b = A) ⟨⟨x, Below.refl _ _⟩, rfl⟩ ?_ h
  rintro b y ⟨z, rfl⟩ hb
  exact ⟨hb, z.below⟩
theorem turned_block {w0 x : World} {S : List Nat} (h : Turned S w0 x) {b : Nat} {o : Obj} (hc : w0.heap[b]? = some o) (hn : b ∉ S) (z : Later x) : z.world.heap[b]? = some o :=
  (z.below.block _ (Nat.lt_of_lt_of_le (lt_of_block hc) h.size)).trans ((h.block _ (lt_of_block hc) hn).trans hc)
/-- What a call that makes memory leaves. -/
def ResK (A : Value → Act) (R : Value → List Nat → World → Prop) (x : World) (a' : Act) (y : World) : Prop := ∃ u FP, a' = A u ∧ Below x.heap.size x y ∧ R u FP y ∧ ∀ i ∈ FP, x.heap.size ≤ i ∧ i < y.heap.size
theorem resK_mk {A : Value → Act} {R : Value → List Nat → World → Prop} {x y : World} {a' : Act} {u : Value} {FP : List Nat} (h1 : a' = A u) (h2 : Below x.heap.size x y) (h3 : R u FP y) (h4 : ∀ i ∈ FP, x.heap.size ≤ i ∧ i < y.heap.size) : ResK A R x a' y := ⟨u, FP, h1, h2, h3, h4⟩
theorem res_of {o : Oper} {a : Act} {R : Value → List Nat → World → Prop} {x : World} (h : o.wp P a x (ResK (fun u => a.put o.dst u) R x) Q) : o.wp P a x (fun a' y => ∃ u FP, a' = a.put o.dst u ∧ Below x.heap.size x y ∧ R u FP y ∧ ∀ i ∈ FP, x.heap.size ≤ i ∧ i < y.heap.size) Q := h
theorem and_dep {p q : Prop} (hp : p) (hq : p → q) : p ∧ q := ⟨hp, hq hp⟩
end
end Go
namespace Go.Proofs.Ytjoanlhdocoddaa
open Go.RowKit Go.Maps Go.ChangeMaps

set_option maxRecDepth 100000 in
set_option maxHeartbeats 3200000 in
theorem renc_no {m : Sough.Msg} (hr : m.right = false) (w : World) (hwf : m.Wf) : Calls Try.prog 16 #[.agg (msgC m)] w fun e w' => e = .returned (.string ⟨#[]⟩) ∧ Below w.heap.size w w' := by
  have CN := Lib.hid fun w => rright_any hr w hwf
  unfold msgC at CN ⊢
  clear hr hwf
  have M0 : Hid (Mem w [(w.heap.size, .cells #[.int .i64 (m.v 0), .int .u64 (m.v 1), .int .u64 (m.v 2), .string ⟨m.offer.toArray⟩, .int .i64 (m.v 4), .int .i64 (m.v 5), .int .i64 (m.v 6), .int .i64 (m.v 7), .int .i64 (m.v 8), .int .i64 (m.v 9), .int .i64 (m.v 10), .int .u64 (m.v 11), .int .u64 (m.v 12)] 29 (0, 0))] (w.alloc (.cells #[.int .i64 (m.v 0), .int .u64 (m.v 1), .int .u64 (m.v 2), .string ⟨m.offer.toArray⟩, .int .i64 (m.v 4), .int .i64 (m.v 5), .int .i64 (m.v 6), .int .i64 (m.v 7), .int .i64 (m.v 8), .int .i64 (m.v 9), .int .i64 (m.v 10), .int .u64 (m.v 11), .int .u64 (m.v 12)] 29))) := Lib.hid ((Mem.start w).alloc _)
  go_enter Try.func16, Try.ntmps16
  go_wp2_with fail
  generalize w.alloc (.cells #[.int .i64 (m.v 0), .int .u64 (m.v 1), .int .u64 (m.v 2), .string ⟨m.offer.toArray⟩, .int .i64 (m.v 4), .int .i64 (m.v 5), .int .i64 (m.v 6), .int .i64 (m.v 7), .int .i64 (m.v 8), .int .i64 (m.v 9), .int .i64 (m.v 10), .int .u64 (m.v 11), .int .u64 (m.v 12)] 29) = W0 at *
  refine (CN.out _).mono ?_
  rintro e w1 ⟨rfl, hb⟩
  have M1 := Lib.hid (M0.out.later hb)
  clear hb M0
  go_wp2_with fail
  go_ret
  exact ⟨rfl, M1.out.bel⟩
theorem renc_any {m : Sough.Msg} {l : List UInt8} (hl : m.encode = l) (w : World) (hwf : m.Wf) : Calls Try.prog 16 #[.agg (msgC m)] w fun e w' => e = .returned (.string ⟨l.toArray⟩) ∧ Below w.heap.size w w' := by
  subst hl
  unfold Sough.Msg.encode
  by_cases hr : m.right = true
  · rw [if_pos hr]
    have hk := Sough.kind_of (Sough.right_spec hr).1
    have : m.v 0 = 1 ∨ m.v 0 = 2 ∨ m.v 0 = 3 ∨ m.v 0 = 4 := by omega
    rcases this with h | h | h | h
    · have := re1 m w hwf (by rw [Sough.wk_self h]; exact hr); rwa [Sough.wk_self h] at this
    · have := re2 m w hwf (by rw [Sough.wk_self h]; exact hr); rwa [Sough.wk_self h] at this
    · have := re3 m w hwf (by rw [Sough.wk_self h]; exact hr); rwa [Sough.wk_self h] at this
    · have := re4 m w hwf (by rw [Sough.wk_self h]; exact hr); rwa [Sough.wk_self h] at this
  · rw [if_neg hr]
    exact renc_no (by simpa using hr) w hwf

/-- Names as a call hands them back. -/
def NamesP (l : List Int) (u : Value) (FP : List Nat) (y : World) : Prop :=
  (l = [] ∧ u = .slice none 0 0) ∨ ∃ g, FP = [g] ∧ u = .slice (some ⟨g, 0, none⟩) l.length l.length ∧ y.heap[g]? = some (.cells (l.map (Value.int .i64)).toArray 3 (0, 0))
theorem NamesP.same {l : List Int} {u : Value} {FP : List Nat} {x y : World} (h : NamesP l u FP x) (e : ∀ i ∈ FP, y.heap[i]? = x.heap[i]?) : NamesP l u FP y := by
  rcases h with h | ⟨g, rfl, h2, h3⟩
  · exact .inl h
  · exact .inr ⟨g, rfl, h2, (e g (by simp)).trans h3⟩
theorem same_of {l : List Int} {u u' : Value} {FP FP' : List Nat} {x : World} (hl : l.length ≤ 100000) (h : NamesP l u FP x) (h' : NamesP l u' FP' x) (z : Later x) : Calls Try.prog 17 #[u, u'] z.world fun e w' => e = .returned (.bool true) ∧ Below z.world.heap.size z.world w' := by
  rcases h with ⟨h0, rfl⟩ | ⟨g, rfl, rfl, h3⟩
  · rcases h' with ⟨_, rfl⟩ | ⟨g', rfl, rfl, h3'⟩
    · exact same_nil _
    · subst h0; exact same_nil _
  · rcases h' with ⟨h0, rfl⟩ | ⟨g', rfl, rfl, h3'⟩
    · subst h0; exact same_nil _
    · exact same_some hl _ ((z.below.block _ (lt_of_block h3)).trans h3) ((z.below.block _ (lt_of_block h3')).trans h3')
theorem names_len (m : Sough.Msg) : (namesL m).length ≤ 100000 := by
  unfold namesL
  split
  · simp
  · split
    · simp
    · split <;> simp

set_option maxRecDepth 100000 in
set_option maxHeartbeats 12800000 in
theorem tells_any {m a : Sough.Msg} {s : ByteArray} {s1 : List UInt8} (ht : a = cutM m) (hx : s.extract 0 (min (s.size : Int) 5000).toNat = ⟨s1.toArray⟩) (w : World) (hw : m.Wf) (hs : s.size ≤ maxLen) :
    Calls Try.prog 3 #[.agg (msgC m), .string s] w fun e w' => e = .returned (.bool true) ∧ Below w.heap.size w w' := by
  have hsm : s.size ≤ 9223372036854775807 := hs
  clear hs
  have hwa := Lib.hid (cut_wf hw)
  rw [← ht] at hwa
  have T1 := Lib.hid ht; have H1 := Lib.hid hw; clear ht hw
  have hs1 : s1.length ≤ 5000 := by
    have h1 : (s.extract 0 (min (s.size : Int) 5000).toNat).size = s1.length := by rw [hx, mk_size]
    rw [← h1]; simp; omega
  obtain ⟨q, er, hq⟩ : ∃ q er, Sough.decodeM s1 = (q, er) := ⟨_, _, rfl⟩
  obtain ⟨br, hbr⟩ : ∃ br, a.right = br := ⟨_, rfl⟩
  obtain ⟨la, hla⟩ : ∃ la, a.encode = la := ⟨_, rfl⟩
  have hla2 : (if a.right = true then a.bytes else []) = la := hla
  have CD := Lib.hid fun w => dec_as (s := ⟨s1.toArray⟩) (r := (q, er)) hq w (by rw [mk_size]; unfold maxLen; omega)
  have CR := Lib.hid fun w => rdec_as hq w hs1
  have CM := Lib.hid fun w => right_lit hbr hwa.out w
  have CN := Lib.hid fun w => rright_any hbr w hwa.out
  have CE := Lib.hid fun w => enc_lit hla hwa.out w
  have CF := Lib.hid fun w => renc_any hla w hwa.out
  unfold DecTo msgC at CD CR
  unfold msgC at CN CF
  simp only at CD CR
  have EQ := eqMsgR q q
  have hsame : q.same q = true := Sough.same_iff.2 ⟨fun _ _ => rfl, rfl⟩
  rw [hsame] at EQ
  have EQ := Lib.hid EQ
  have EG : Try.prog.eqGuardType Try.prog.depth 29 = false := by kernel_rfl
  have EG := Lib.hid EG
  clear hq hbr hla hla2 hsame
  have M0 : Hid (Mem w [(w.heap.size, .cells #[.int .i64 (m.v 0), .int .u64 (m.v 1), .int .u64 (m.v 2), .string ⟨m.offer.toArray⟩, .int .i64 (m.v 4), .int .i64 (m.v 5), .int .i64 (m.v 6), .int .i64 (m.v 7), .int .i64 (m.v 8), .int .i64 (m.v 9), .int .i64 (m.v 10), .int .u64 (m.v 11), .int .u64 (m.v 12)] 24 (0, 0))] (w.alloc (.cells #[.int .i64 (m.v 0), .int .u64 (m.v 1), .int .u64 (m.v 2), .string ⟨m.offer.toArray⟩, .int .i64 (m.v 4), .int .i64 (m.v 5), .int .i64 (m.v 6), .int .i64 (m.v 7), .int .i64 (m.v 8), .int .i64 (m.v 9), .int .i64 (m.v 10), .int .u64 (m.v 11), .int .u64 (m.v 12)] 24))) := Lib.hid ((Mem.start w).alloc _)
  unfold msgC
  go_enter Try.func3, Try.ntmps3
  go_wp2_with fail
  generalize w.alloc (.cells #[.int .i64 (m.v 0), .int .u64 (m.v 1), .int .u64 (m.v 2), .string ⟨m.offer.toArray⟩, .int .i64 (m.v 4), .int .i64 (m.v 5), .int .i64 (m.v 6), .int .i64 (m.v 7), .int .i64 (m.v 8), .int .i64 (m.v 9), .int .i64 (m.v 10), .int .u64 (m.v 11), .int .u64 (m.v 12)] 24) = W0 at *
  refine (cut_to T1.out W0 H1.out).mono ?_
  rintro e w1 ⟨rfl, hb⟩
  have M1 := Lib.hid (M0.out.later hb)
  clear hb M0
  have r := M1.out.rules; simp only [AllCells, CellsAt, Nat.zero_add, Nat.reduceAdd] at r
  have M2 := Lib.hid (Mem.put13 (m := a) M1.out (Nat.le_refl _) (by simp))
  clear M1
  go_wp2_with fail
  change Calls _ _ _ (put13 w1 w.heap.size a) _
  clear r
  generalize put13 w1 w.heap.size a = W1 at *
  refine (CD.out W1).mono ?_
  rintro e w2 ⟨rfl, hb⟩
  have M3 := Lib.hid (M2.out.later hb)
  clear hb M2 CD
  go_wp2_with fail
  have M4 := Lib.hid (M3.out.alloc (.cells #[.int .i64 (q.v 0), .int .u64 (q.v 1), .int .u64 (q.v 2), .string ⟨q.offer.toArray⟩, .int .i64 (q.v 4), .int .i64 (q.v 5), .int .i64 (q.v 6), .int .i64 (q.v 7), .int .i64 (q.v 8), .int .i64 (q.v 9), .int .i64 (q.v 10), .int .u64 (q.v 11), .int .u64 (q.v 12)] 24))
  generalize w2.alloc (.cells #[.int .i64 (q.v 0), .int .u64 (q.v 1), .int .u64 (q.v 2), .string ⟨q.offer.toArray⟩, .int .i64 (q.v 4), .int .i64 (q.v 5), .int .i64 (q.v 6), .int .i64 (q.v 7), .int .i64 (q.v 8), .int .i64 (q.v 9), .int .i64 (q.v 10), .int .u64 (q.v 11), .int .u64 (q.v 12)] 24) = W4 at *
  refine (CR.out W4).mono ?_
  rintro e w5 ⟨rfl, hb⟩
  have M5 := Lib.hid (M4.out.later hb)
  clear hb M4 M3 CR
  go_wp2_with fail
  have M6 := Lib.hid (M5.out.alloc (.cells #[.int .i64 (q.v 0), .int .u64 (q.v 1), .int .u64 (q.v 2), .string ⟨q.offer.toArray⟩, .int .i64 (q.v 4), .int .i64 (q.v 5), .int .i64 (q.v 6), .int .i64 (q.v 7), .int .i64 (q.v 8), .int .i64 (q.v 9), .int .i64 (q.v 10), .int .u64 (q.v 11), .int .u64 (q.v 12)] 29))
  generalize w5.alloc (.cells #[.int .i64 (q.v 0), .int .u64 (q.v 1), .int .u64 (q.v 2), .string ⟨q.offer.toArray⟩, .int .i64 (q.v 4), .int .i64 (q.v 5), .int .i64 (q.v 6), .int .i64 (q.v 7), .int .i64 (q.v 8), .int .i64 (q.v 9), .int .i64 (q.v 10), .int .u64 (q.v 11), .int .u64 (q.v 12)] 29) = W6 at *
  clear M5
  -- REGION
  have HA := Lib.hid (M6.out.get 2 rfl); have HQ1 := Lib.hid (M6.out.get 1 rfl); have HQ2 := Lib.hid (M6.out.get 0 rfl)
  refine wp_facts (n := 62) [] [.val fun _ => .agg #[.int .i64 (a.v 0), .int .u64 (a.v 1), .int .u64 (a.v 2), .string ⟨a.offer.toArray⟩, .int .i64 (a.v 4), .int .i64 (a.v 5), .int .i64 (a.v 6), .int .i64 (a.v 7), .int .i64 (a.v 8), .int .i64 (a.v 9), .int .i64 (a.v 10), .int .u64 (a.v 11), .int .u64 (a.v 12)],
      .val fun _ => .bool br,
      .val fun _ => .agg #[.int .i64 (a.v 0), .int .u64 (a.v 1), .int .u64 (a.v 2), .string ⟨a.offer.toArray⟩, .int .i64 (a.v 4), .int .i64 (a.v 5), .int .i64 (a.v 6), .int .i64 (a.v 7), .int .i64 (a.v 8), .int .i64 (a.v 9), .int .i64 (a.v 10), .int .u64 (a.v 11), .int .u64 (a.v 12)],
      .val fun _ => .agg #[.int .i64 (a.v 0), .int .u64 (a.v 1), .int .u64 (a.v 2), .string ⟨a.offer.toArray⟩, .int .i64 (a.v 4), .int .i64 (a.v 5), .int .i64 (a.v 6), .int .i64 (a.v 7), .int .i64 (a.v 8), .int .i64 (a.v 9), .int .i64 (a.v 10), .int .u64 (a.v 11), .int .u64 (a.v 12)],
      .val fun _ => .bool br,
      .val fun _ => .bool true,
      .val fun _ => .bool true,
      .val fun _ => .agg #[.int .i64 (a.v 0), .int .u64 (a.v 1), .int .u64 (a.v 2), .string ⟨a.offer.toArray⟩, .int .i64 (a.v 4), .int .i64 (a.v 5), .int .i64 (a.v 6), .int .i64 (a.v 7), .int .i64 (a.v 8), .int .i64 (a.v 9), .int .i64 (a.v 10), .int .u64 (a.v 11), .int .u64 (a.v 12)],
      .val fun _ => .string ⟨la.toArray⟩,
      .val fun _ => .agg #[.int .i64 (a.v 0), .int .u64 (a.v 1), .int .u64 (a.v 2), .string ⟨a.offer.toArray⟩, .int .i64 (a.v 4), .int .i64 (a.v 5), .int .i64 (a.v 6), .int .i64 (a.v 7), .int .i64 (a.v 8), .int .i64 (a.v 9), .int .i64 (a.v 10), .int .u64 (a.v 11), .int .u64 (a.v 12)],
      .val fun _ => .agg #[.int .i64 (a.v 0), .int .u64 (a.v 1), .int .u64 (a.v 2), .string ⟨a.offer.toArray⟩, .int .i64 (a.v 4), .int .i64 (a.v 5), .int .i64 (a.v 6), .int .i64 (a.v 7), .int .i64 (a.v 8), .int .i64 (a.v 9), .int .i64 (a.v 10), .int .u64 (a.v 11), .int .u64 (a.v 12)],
      .val fun _ => .string ⟨la.toArray⟩,
      .val fun _ => .bool true,
      .val fun _ => .bool true,
      .val fun _ => .bool true,
      .val fun _ => .agg #[.int .i64 (a.v 0), .int .u64 (a.v 1), .int .u64 (a.v 2), .string ⟨a.offer.toArray⟩, .int .i64 (a.v 4), .int .i64 (a.v 5), .int .i64 (a.v 6), .int .i64 (a.v 7), .int .i64 (a.v 8), .int .i64 (a.v 9), .int .i64 (a.v 10), .int .u64 (a.v 11), .int .u64 (a.v 12)],
      .res,
      .val fun _ => .agg #[.int .i64 (a.v 0), .int .u64 (a.v 1), .int .u64 (a.v 2), .string ⟨a.offer.toArray⟩, .int .i64 (a.v 4), .int .i64 (a.v 5), .int .i64 (a.v 6), .int .i64 (a.v 7), .int .i64 (a.v 8), .int .i64 (a.v 9), .int .i64 (a.v 10), .int .u64 (a.v 11), .int .u64 (a.v 12)],
      .val fun _ => .agg #[.int .i64 (a.v 0), .int .u64 (a.v 1), .int .u64 (a.v 2), .string ⟨a.offer.toArray⟩, .int .i64 (a.v 4), .int .i64 (a.v 5), .int .i64 (a.v 6), .int .i64 (a.v 7), .int .i64 (a.v 8), .int .i64 (a.v 9), .int .i64 (a.v 10), .int .u64 (a.v 11), .int .u64 (a.v 12)],
      .res,
      .val fun _ => .bool true,
      .val fun _ => .bool true,
      .val fun _ => .bool true,
      .val fun _ => .agg #[.int .i64 (q.v 0), .int .u64 (q.v 1), .int .u64 (q.v 2), .string ⟨q.offer.toArray⟩, .int .i64 (q.v 4), .int .i64 (q.v 5), .int .i64 (q.v 6), .int .i64 (q.v 7), .int .i64 (q.v 8), .int .i64 (q.v 9), .int .i64 (q.v 10), .int .u64 (q.v 11), .int .u64 (q.v 12)],
      .val fun _ => .agg #[.int .i64 (q.v 0), .int .u64 (q.v 1), .int .u64 (q.v 2), .string ⟨q.offer.toArray⟩, .int .i64 (q.v 4), .int .i64 (q.v 5), .int .i64 (q.v 6), .int .i64 (q.v 7), .int .i64 (q.v 8), .int .i64 (q.v 9), .int .i64 (q.v 10), .int .u64 (q.v 11), .int .u64 (q.v 12)],
      .val fun _ => .agg #[.int .i64 (q.v 0), .int .u64 (q.v 1), .int .u64 (q.v 2), .string ⟨q.offer.toArray⟩, .int .i64 (q.v 4), .int .i64 (q.v 5), .int .i64 (q.v 6), .int .i64 (q.v 7), .int .i64 (q.v 8), .int .i64 (q.v 9), .int .i64 (q.v 10), .int .u64 (q.v 11), .int .u64 (q.v 12)],
      .val fun _ => .bool true,
      .val fun _ => .bool true,
      .val fun _ => .bool true,
      .val fun _ => .int .i64 er,
      .val fun _ => .int .i64 er,
      .val fun _ => .bool true,
      .val fun _ => .bool true,
      .val fun _ => .bool true,
      .val fun _ => .bool true,
      .val fun _ => .bool true,
      .val fun _ => .bool true] (fun _ => True) (fun _ u FP y => NamesP (namesL a) u FP y) (by kernel_rfl) (by kernel_rfl) rfl rfl (by simp) trivial (fun _ _ _ _ => trivial) (fun _ _ _ _ _ h e => h.same e) ?_ ?_
  · refine ⟨?_, ?_, ?_, ?_, ?_, ?_, ?_, ?_, ?_, ?_, ?_, ?_, ?_, ?_, ?_, ?_, ?_, ?_, ?_, ?_, ?_, ?_, ?_, ?_, ?_, ?_, ?_, ?_, ?_, ?_, ?_, ?_, ?_, ?_, ?_, ?_, ?_, trivial⟩
    · refine ⟨fun _ _ _ => rfl, ?_⟩
      intro v x hx hk
      have y0 := fun z : Later x => cells13 (m := a) (turned_block hx HA.out (by simp) z)
      refine .inl ⟨wanted_none rfl, ?_⟩
      simp only [putAll, Act.put, List.setIfInBounds_toArray, List.set_cons_succ, List.set_cons_zero]
      refine val_of_quiet (ops := #[]) rfl ?_
      go_big_quiet_step (fail)
      exact wpQuiet_nil (by first | rfl | simp)
    · refine ⟨fun _ _ _ => rfl, ?_⟩
      intro v x hx hk
      have e0 : v 0 = .agg #[.int .i64 (a.v 0), .int .u64 (a.v 1), .int .u64 (a.v 2), .string ⟨a.offer.toArray⟩, .int .i64 (a.v 4), .int .i64 (a.v 5), .int .i64 (a.v 6), .int .i64 (a.v 7), .int .i64 (a.v 8), .int .i64 (a.v 9), .int .i64 (a.v 10), .int .u64 (a.v 11), .int .u64 (a.v 12)] := hk 0 (by decide)
      refine .inl ⟨wanted_none rfl, ?_⟩
      simp only [putAll, Act.put, List.setIfInBounds_toArray, List.set_cons_succ, List.set_cons_zero, e0]
      refine val_of_quiet (ops := #[]) rfl ?_
      go_big_quiet_step ((go_at_call 12; exact Calls.later (CM.out _)))
      exact wpQuiet_nil (by first | rfl | simp)
    · refine ⟨fun _ _ _ => rfl, ?_⟩
      intro v x hx hk
      have y0 := fun z : Later x => cells13 (m := a) (turned_block hx HA.out (by simp) z)
      refine .inl ⟨wanted_none rfl, ?_⟩
      simp only [putAll, Act.put, List.setIfInBounds_toArray, List.set_cons_succ, List.set_cons_zero]
      refine val_of_quiet (ops := #[]) rfl ?_
      go_big_quiet_step (fail)
      exact wpQuiet_nil (by first | rfl | simp)
    · refine ⟨fun _ _ _ => rfl, ?_⟩
      intro v x hx hk
      have e2 : v 2 = .agg #[.int .i64 (a.v 0), .int .u64 (a.v 1), .int .u64 (a.v 2), .string ⟨a.offer.toArray⟩, .int .i64 (a.v 4), .int .i64 (a.v 5), .int .i64 (a.v 6), .int .i64 (a.v 7), .int .i64 (a.v 8), .int .i64 (a.v 9), .int .i64 (a.v 10), .int .u64 (a.v 11), .int .u64 (a.v 12)] := hk 2 (by decide)
      refine .inl ⟨wanted_none rfl, ?_⟩
      simp only [putAll, Act.put, List.setIfInBounds_toArray, List.set_cons_succ, List.set_cons_zero, e2]
      refine val_of_quiet (ops := #[]) rfl ?_
      go_big_quiet_step ((go_at_call 14; exact Calls.later (ref_any a _)))
      exact wpQuiet_nil (by first | rfl | simp)
    · refine ⟨fun _ _ _ => rfl, ?_⟩
      intro v x hx hk
      have e3 : v 3 = .agg #[.int .i64 (a.v 0), .int .u64 (a.v 1), .int .u64 (a.v 2), .string ⟨a.offer.toArray⟩, .int .i64 (a.v 4), .int .i64 (a.v 5), .int .i64 (a.v 6), .int .i64 (a.v 7), .int .i64 (a.v 8), .int .i64 (a.v 9), .int .i64 (a.v 10), .int .u64 (a.v 11), .int .u64 (a.v 12)] := hk 3 (by decide)
      refine .inl ⟨wanted_none rfl, ?_⟩
      simp only [putAll, Act.put, List.setIfInBounds_toArray, List.set_cons_succ, List.set_cons_zero, e3]
      refine val_of_quiet (ops := #[]) rfl ?_
      go_big_quiet_step ((go_at_call 13; exact Calls.later (CN.out _)))
      exact wpQuiet_nil (by first | rfl | simp)
    · refine ⟨fun _ _ _ => rfl, ?_⟩
      intro v x hx hk
      have e1 : v 1 = .bool br := hk 1 (by decide)
      have e4 : v 4 = .bool br := hk 4 (by decide)
      refine .inl ⟨wanted_none rfl, ?_⟩
      simp only [putAll, Act.put, List.setIfInBounds_toArray, List.set_cons_succ, List.set_cons_zero, e1, e4]
      refine val_of_quiet (ops := #[]) rfl ?_
      go_big_quiet_step (fail)
      exact wpQuiet_nil (by first | rfl | simp)
    · refine ⟨fun _ _ _ => rfl, ?_⟩
      intro v x hx hk
      have e5 : v 5 = .bool true := hk 5 (by decide)
      refine .inl ⟨wanted_none rfl, ?_⟩
      simp only [putAll, Act.put, List.setIfInBounds_toArray, List.set_cons_succ, List.set_cons_zero, e5]
      refine val_of_quiet (ops := #[]) rfl ?_
      go_big_quiet_step (fail)
      exact wpQuiet_nil (by first | rfl | simp)
    · refine ⟨fun _ _ _ => rfl, ?_⟩
      intro v x hx hk
      have e6 : v 6 = .bool true := hk 6 (by decide)
      have y0 := fun z : Later x => cells13 (m := a) (turned_block hx HA.out (by simp) z)
      refine .inl (and_dep ?_ ?_)
      · simp [Region.wanted, yielded, putAll, Act.put, e6]
      · intro hw
        simp only [putAll, Act.put, List.setIfInBounds_toArray, List.set_cons_succ, List.set_cons_zero, e6] at hw ⊢
        refine val_of_quiet_g hw ?_
        go_big_quiet_step (fail)
        exact wpQuiet_nil (by first | rfl | simp)
    · refine ⟨fun _ _ _ => rfl, ?_⟩
      intro v x hx hk
      have e7 : v 7 = .agg #[.int .i64 (a.v 0), .int .u64 (a.v 1), .int .u64 (a.v 2), .string ⟨a.offer.toArray⟩, .int .i64 (a.v 4), .int .i64 (a.v 5), .int .i64 (a.v 6), .int .i64 (a.v 7), .int .i64 (a.v 8), .int .i64 (a.v 9), .int .i64 (a.v 10), .int .u64 (a.v 11), .int .u64 (a.v 12)] := hk 7 (by decide)
      have e6 : v 6 = .bool true := hk 6 (by decide)
      refine .inl (and_dep ?_ ?_)
      · simp [Region.wanted, yielded, putAll, Act.put, e7, e6]
      · intro hw
        simp only [putAll, Act.put, List.setIfInBounds_toArray, List.set_cons_succ, List.set_cons_zero, e7, e6] at hw ⊢
        refine val_of_quiet_g hw ?_
        go_big_quiet_step ((go_at_call 15; exact Calls.later (CE.out _)))
        exact wpQuiet_nil (by first | rfl | simp)
    · refine ⟨fun _ _ _ => rfl, ?_⟩
      intro v x hx hk
      have e6 : v 6 = .bool true := hk 6 (by decide)
      have y0 := fun z : Later x => cells13 (m := a) (turned_block hx HA.out (by simp) z)
      refine .inl (and_dep ?_ ?_)
      · simp [Region.wanted, yielded, putAll, Act.put, e6]
      · intro hw
        simp only [putAll, Act.put, List.setIfInBounds_toArray, List.set_cons_succ, List.set_cons_zero, e6] at hw ⊢
        refine val_of_quiet_g hw ?_
        go_big_quiet_step (fail)
        exact wpQuiet_nil (by first | rfl | simp)
    · refine ⟨fun _ _ _ => rfl, ?_⟩
      intro v x hx hk
      have e9 : v 9 = .agg #[.int .i64 (a.v 0), .int .u64 (a.v 1), .int .u64 (a.v 2), .string ⟨a.offer.toArray⟩, .int .i64 (a.v 4), .int .i64 (a.v 5), .int .i64 (a.v 6), .int .i64 (a.v 7), .int .i64 (a.v 8), .int .i64 (a.v 9), .int .i64 (a.v 10), .int .u64 (a.v 11), .int .u64 (a.v 12)] := hk 9 (by decide)
      have e6 : v 6 = .bool true := hk 6 (by decide)
      refine .inl (and_dep ?_ ?_)
      · simp [Region.wanted, yielded, putAll, Act.put, e9, e6]
      · intro hw
        simp only [putAll, Act.put, List.setIfInBounds_toArray, List.set_cons_succ, List.set_cons_zero, e9, e6] at hw ⊢
        refine val_of_quiet_g hw ?_
        go_big_quiet_step ((go_at_call 14; exact Calls.later (ref_any a _)))
        exact wpQuiet_nil (by first | rfl | simp)
    · refine ⟨fun _ _ _ => rfl, ?_⟩
      intro v x hx hk
      have e10 : v 10 = .agg #[.int .i64 (a.v 0), .int .u64 (a.v 1), .int .u64 (a.v 2), .string ⟨a.offer.toArray⟩, .int .i64 (a.v 4), .int .i64 (a.v 5), .int .i64 (a.v 6), .int .i64 (a.v 7), .int .i64 (a.v 8), .int .i64 (a.v 9), .int .i64 (a.v 10), .int .u64 (a.v 11), .int .u64 (a.v 12)] := hk 10 (by decide)
      have e6 : v 6 = .bool true := hk 6 (by decide)
      refine .inl (and_dep ?_ ?_)
      · simp [Region.wanted, yielded, putAll, Act.put, e10, e6]
      · intro hw
        simp only [putAll, Act.put, List.setIfInBounds_toArray, List.set_cons_succ, List.set_cons_zero, e10, e6] at hw ⊢
        refine val_of_quiet_g hw ?_
        go_big_quiet_step ((go_at_call 16; exact Calls.later (CF.out _)))
        exact wpQuiet_nil (by first | rfl | simp)
    · refine ⟨fun _ _ _ => rfl, ?_⟩
      intro v x hx hk
      have e8 : v 8 = .string ⟨la.toArray⟩ := hk 8 (by decide)
      have e11 : v 11 = .string ⟨la.toArray⟩ := hk 11 (by decide)
      have e6 : v 6 = .bool true := hk 6 (by decide)
      refine .inl (and_dep ?_ ?_)
      · simp [Region.wanted, yielded, putAll, Act.put, e8, e11, e6]
      · intro hw
        simp only [putAll, Act.put, List.setIfInBounds_toArray, List.set_cons_succ, List.set_cons_zero, e8, e11, e6] at hw ⊢
        refine val_of_quiet_g hw ?_
        go_big_quiet_step (fail)
        exact wpQuiet_nil (by first | rfl | simp)
    · refine ⟨fun _ _ _ => rfl, ?_⟩
      intro v x hx hk
      have e6 : v 6 = .bool true := hk 6 (by decide)
      have e12 : v 12 = .bool true := hk 12 (by decide)
      refine .inl ⟨wanted_none rfl, ?_⟩
      simp only [putAll, Act.put, List.setIfInBounds_toArray, List.set_cons_succ, List.set_cons_zero, e6, e12]
      refine val_of_quiet (ops := #[]) rfl ?_
      go_big_quiet_step (fail)
      exact wpQuiet_nil (by first | rfl | simp)
    · refine ⟨fun _ _ _ => rfl, ?_⟩
      intro v x hx hk
      have e13 : v 13 = .bool true := hk 13 (by decide)
      refine .inl ⟨wanted_none rfl, ?_⟩
      simp only [putAll, Act.put, List.setIfInBounds_toArray, List.set_cons_succ, List.set_cons_zero, e13]
      refine val_of_quiet (ops := #[]) rfl ?_
      go_big_quiet_step (fail)
      exact wpQuiet_nil (by first | rfl | simp)
    · refine ⟨fun _ _ _ => rfl, ?_⟩
      intro v x hx hk
      have e14 : v 14 = .bool true := hk 14 (by decide)
      have y0 := fun z : Later x => cells13 (m := a) (turned_block hx HA.out (by simp) z)
      refine .inl (and_dep ?_ ?_)
      · simp [Region.wanted, yielded, putAll, Act.put, e14]
      · intro hw
        simp only [putAll, Act.put, List.setIfInBounds_toArray, List.set_cons_succ, List.set_cons_zero, e14] at hw ⊢
        refine val_of_quiet_g hw ?_
        go_big_quiet_step (fail)
        exact wpQuiet_nil (by first | rfl | simp)
    · skip
      intro v x hx hk
      have e15 : v 15 = .agg #[.int .i64 (a.v 0), .int .u64 (a.v 1), .int .u64 (a.v 2), .string ⟨a.offer.toArray⟩, .int .i64 (a.v 4), .int .i64 (a.v 5), .int .i64 (a.v 6), .int .i64 (a.v 7), .int .i64 (a.v 8), .int .i64 (a.v 9), .int .i64 (a.v 10), .int .u64 (a.v 11), .int .u64 (a.v 12)] := hk 15 (by decide)
      have e14 : v 14 = .bool true := hk 14 (by decide)
      refine and_dep ?_ ?_
      · simp [Region.wanted, yielded, putAll, Act.put, e15, e14]
      · intro _
        refine res_of ?_
        simp only [putAll, Act.put, List.setIfInBounds_toArray, List.set_cons_succ, List.set_cons_zero, e15, e14]
        unfold Oper.wp
        go_simp
        refine (names_any a _).mono ?_
        rintro e y ⟨hb, h⟩
        rcases h with ⟨hl, rfl⟩ | ⟨_, g, rfl, hg1, hg2⟩
        · exact resK_mk rfl hb (FP := []) (.inl ⟨hl, rfl⟩) (by simp)
        · exact resK_mk rfl hb (FP := [g]) (.inr ⟨g, rfl, rfl, hg2⟩) (by have := lt_of_block hg2; simp; omega)
    · refine ⟨fun _ _ _ => rfl, ?_⟩
      intro v x hx hk
      have e14 : v 14 = .bool true := hk 14 (by decide)
      have y0 := fun z : Later x => cells13 (m := a) (turned_block hx HA.out (by simp) z)
      refine .inl (and_dep ?_ ?_)
      · simp [Region.wanted, yielded, putAll, Act.put, e14]
      · intro hw
        simp only [putAll, Act.put, List.setIfInBounds_toArray, List.set_cons_succ, List.set_cons_zero, e14] at hw ⊢
        refine val_of_quiet_g hw ?_
        go_big_quiet_step (fail)
        exact wpQuiet_nil (by first | rfl | simp)
    · refine ⟨fun _ _ _ => rfl, ?_⟩
      intro v x hx hk
      have e17 : v 17 = .agg #[.int .i64 (a.v 0), .int .u64 (a.v 1), .int .u64 (a.v 2), .string ⟨a.offer.toArray⟩, .int .i64 (a.v 4), .int .i64 (a.v 5), .int .i64 (a.v 6), .int .i64 (a.v 7), .int .i64 (a.v 8), .int .i64 (a.v 9), .int .i64 (a.v 10), .int .u64 (a.v 11), .int .u64 (a.v 12)] := hk 17 (by decide)
      have e14 : v 14 = .bool true := hk 14 (by decide)
      refine .inl (and_dep ?_ ?_)
      · simp [Region.wanted, yielded, putAll, Act.put, e17, e14]
      · intro hw
        simp only [putAll, Act.put, List.setIfInBounds_toArray, List.set_cons_succ, List.set_cons_zero, e17, e14] at hw ⊢
        refine val_of_quiet_g hw ?_
        go_big_quiet_step ((go_at_call 14; exact Calls.later (ref_any a _)))
        exact wpQuiet_nil (by first | rfl | simp)
    · skip
      intro v x hx hk
      have e18 : v 18 = .agg #[.int .i64 (a.v 0), .int .u64 (a.v 1), .int .u64 (a.v 2), .string ⟨a.offer.toArray⟩, .int .i64 (a.v 4), .int .i64 (a.v 5), .int .i64 (a.v 6), .int .i64 (a.v 7), .int .i64 (a.v 8), .int .i64 (a.v 9), .int .i64 (a.v 10), .int .u64 (a.v 11), .int .u64 (a.v 12)] := hk 18 (by decide)
      have e14 : v 14 = .bool true := hk 14 (by decide)
      refine and_dep ?_ ?_
      · simp [Region.wanted, yielded, putAll, Act.put, e18, e14]
      · intro _
        refine res_of ?_
        simp only [putAll, Act.put, List.setIfInBounds_toArray, List.set_cons_succ, List.set_cons_zero, e18, e14]
        unfold Oper.wp
        go_simp
        refine (rnames_any a _).mono ?_
        rintro e y ⟨hb, g, rfl, hg1, hg2⟩
        exact resK_mk rfl hb (FP := [g]) (.inr ⟨g, rfl, rfl, hg2⟩) (by have := lt_of_block hg2; simp; omega)
    · refine ⟨fun _ _ _ => rfl, ?_⟩
      intro v x hx hk
      obtain ⟨FP16, hp16⟩ := hk 16 (by decide)
      obtain ⟨FP19, hp19⟩ := hk 19 (by decide)
      have e14 : v 14 = .bool true := hk 14 (by decide)
      refine .inl (and_dep ?_ ?_)
      · simp [Region.wanted, yielded, putAll, Act.put, e14]
      · intro hw
        simp only [putAll, Act.put, List.setIfInBounds_toArray, List.set_cons_succ, List.set_cons_zero, e14] at hw ⊢
        refine val_of_quiet_g hw ?_
        go_big_quiet_step ((go_at_call 17; exact Calls.later (same_of (names_len a) hp16 hp19 _)))
        exact wpQuiet_nil (by first | rfl | simp)
    · refine ⟨fun _ _ _ => rfl, ?_⟩
      intro v x hx hk
      have e14 : v 14 = .bool true := hk 14 (by decide)
      have e20 : v 20 = .bool true := hk 20 (by decide)
      refine .inl ⟨wanted_none rfl, ?_⟩
      simp only [putAll, Act.put, List.setIfInBounds_toArray, List.set_cons_succ, List.set_cons_zero, e14, e20]
      refine val_of_quiet (ops := #[]) rfl ?_
      go_big_quiet_step (fail)
      exact wpQuiet_nil (by first | rfl | simp)
    · refine ⟨fun _ _ _ => rfl, ?_⟩
      intro v x hx hk
      have e21 : v 21 = .bool true := hk 21 (by decide)
      refine .inl ⟨wanted_none rfl, ?_⟩
      simp only [putAll, Act.put, List.setIfInBounds_toArray, List.set_cons_succ, List.set_cons_zero, e21]
      refine val_of_quiet (ops := #[]) rfl ?_
      go_big_quiet_step (fail)
      exact wpQuiet_nil (by first | rfl | simp)
    · refine ⟨fun _ _ _ => rfl, ?_⟩
      intro v x hx hk
      have e22 : v 22 = .bool true := hk 22 (by decide)
      have y0 := fun z : Later x => cells13 (m := q) (turned_block hx HQ1.out (by simp) z)
      refine .inl (and_dep ?_ ?_)
      · simp [Region.wanted, yielded, putAll, Act.put, e22]
      · intro hw
        simp only [putAll, Act.put, List.setIfInBounds_toArray, List.set_cons_succ, List.set_cons_zero, e22] at hw ⊢
        refine val_of_quiet_g hw ?_
        go_big_quiet_step (fail)
        exact wpQuiet_nil (by first | rfl | simp)
    · refine ⟨fun _ _ _ => rfl, ?_⟩
      intro v x hx hk
      have e23 : v 23 = .agg #[.int .i64 (q.v 0), .int .u64 (q.v 1), .int .u64 (q.v 2), .string ⟨q.offer.toArray⟩, .int .i64 (q.v 4), .int .i64 (q.v 5), .int .i64 (q.v 6), .int .i64 (q.v 7), .int .i64 (q.v 8), .int .i64 (q.v 9), .int .i64 (q.v 10), .int .u64 (q.v 11), .int .u64 (q.v 12)] := hk 23 (by decide)
      have e22 : v 22 = .bool true := hk 22 (by decide)
      refine .inl (and_dep ?_ ?_)
      · simp [Region.wanted, yielded, putAll, Act.put, e23, e22]
      · intro hw
        simp only [putAll, Act.put, List.setIfInBounds_toArray, List.set_cons_succ, List.set_cons_zero, e23, e22] at hw ⊢
        refine val_of_quiet_g hw ?_
        go_big_quiet_step ((go_at_call 14; exact Calls.later (ref_any q _)))
        exact wpQuiet_nil (by first | rfl | simp)
    · refine ⟨fun _ _ _ => rfl, ?_⟩
      intro v x hx hk
      have e22 : v 22 = .bool true := hk 22 (by decide)
      have y0 := fun z : Later x => cells13 (m := q) (turned_block hx HQ2.out (by simp) z)
      refine .inl (and_dep ?_ ?_)
      · simp [Region.wanted, yielded, putAll, Act.put, e22]
      · intro hw
        simp only [putAll, Act.put, List.setIfInBounds_toArray, List.set_cons_succ, List.set_cons_zero, e22] at hw ⊢
        refine val_of_quiet_g hw ?_
        go_big_quiet_step (fail)
        exact wpQuiet_nil (by first | rfl | simp)
    · refine ⟨fun _ _ _ => rfl, ?_⟩
      intro v x hx hk
      have e24 : v 24 = .agg #[.int .i64 (q.v 0), .int .u64 (q.v 1), .int .u64 (q.v 2), .string ⟨q.offer.toArray⟩, .int .i64 (q.v 4), .int .i64 (q.v 5), .int .i64 (q.v 6), .int .i64 (q.v 7), .int .i64 (q.v 8), .int .i64 (q.v 9), .int .i64 (q.v 10), .int .u64 (q.v 11), .int .u64 (q.v 12)] := hk 24 (by decide)
      have e25 : v 25 = .agg #[.int .i64 (q.v 0), .int .u64 (q.v 1), .int .u64 (q.v 2), .string ⟨q.offer.toArray⟩, .int .i64 (q.v 4), .int .i64 (q.v 5), .int .i64 (q.v 6), .int .i64 (q.v 7), .int .i64 (q.v 8), .int .i64 (q.v 9), .int .i64 (q.v 10), .int .u64 (q.v 11), .int .u64 (q.v 12)] := hk 25 (by decide)
      have e22 : v 22 = .bool true := hk 22 (by decide)
      have EQ := EQ.out; have EG := EG.out
      refine .inl (and_dep ?_ ?_)
      · simp [Region.wanted, yielded, putAll, Act.put, e24, e25, e22]
      · intro hw
        simp only [putAll, Act.put, List.setIfInBounds_toArray, List.set_cons_succ, List.set_cons_zero, e24, e25, e22] at hw ⊢
        refine val_of_quiet_g hw ?_
        go_big_quiet_step (fail)
        exact wpQuiet_nil (by first | rfl | simp)
    · refine ⟨fun _ _ _ => rfl, ?_⟩
      intro v x hx hk
      have e22 : v 22 = .bool true := hk 22 (by decide)
      have e26 : v 26 = .bool true := hk 26 (by decide)
      refine .inl ⟨wanted_none rfl, ?_⟩
      simp only [putAll, Act.put, List.setIfInBounds_toArray, List.set_cons_succ, List.set_cons_zero, e22, e26]
      refine val_of_quiet (ops := #[]) rfl ?_
      go_big_quiet_step (fail)
      exact wpQuiet_nil (by first | rfl | simp)
    · refine ⟨fun _ _ _ => rfl, ?_⟩
      intro v x hx hk
      have e27 : v 27 = .bool true := hk 27 (by decide)
      refine .inl ⟨wanted_none rfl, ?_⟩
      simp only [putAll, Act.put, List.setIfInBounds_toArray, List.set_cons_succ, List.set_cons_zero, e27]
      refine val_of_quiet (ops := #[]) rfl ?_
      go_big_quiet_step (fail)
      exact wpQuiet_nil (by first | rfl | simp)
    · refine ⟨fun _ _ _ => rfl, ?_⟩
      intro v x hx hk
      have e28 : v 28 = .bool true := hk 28 (by decide)
      refine .inl (and_dep ?_ ?_)
      · simp [Region.wanted, yielded, putAll, Act.put, e28]
      · intro hw
        simp only [putAll, Act.put, List.setIfInBounds_toArray, List.set_cons_succ, List.set_cons_zero, e28] at hw ⊢
        refine val_of_quiet_g hw ?_
        go_big_quiet_step (fail)
        exact wpQuiet_nil (by first | rfl | simp)
    · refine ⟨fun _ _ _ => rfl, ?_⟩
      intro v x hx hk
      have e28 : v 28 = .bool true := hk 28 (by decide)
      refine .inl (and_dep ?_ ?_)
      · simp [Region.wanted, yielded, putAll, Act.put, e28]
      · intro hw
        simp only [putAll, Act.put, List.setIfInBounds_toArray, List.set_cons_succ, List.set_cons_zero, e28] at hw ⊢
        refine val_of_quiet_g hw ?_
        go_big_quiet_step (fail)
        exact wpQuiet_nil (by first | rfl | simp)
    · refine ⟨fun _ _ _ => rfl, ?_⟩
      intro v x hx hk
      have e29 : v 29 = .int .i64 er := hk 29 (by decide)
      have e30 : v 30 = .int .i64 er := hk 30 (by decide)
      have e28 : v 28 = .bool true := hk 28 (by decide)
      refine .inl (and_dep ?_ ?_)
      · simp [Region.wanted, yielded, putAll, Act.put, e29, e30, e28]
      · intro hw
        simp only [putAll, Act.put, List.setIfInBounds_toArray, List.set_cons_succ, List.set_cons_zero, e29, e30, e28] at hw ⊢
        refine val_of_quiet_g hw ?_
        go_big_quiet_step (fail)
        exact wpQuiet_nil (by first | rfl | simp)
    · refine ⟨fun _ _ _ => rfl, ?_⟩
      intro v x hx hk
      have e28 : v 28 = .bool true := hk 28 (by decide)
      have e31 : v 31 = .bool true := hk 31 (by decide)
      refine .inl ⟨wanted_none rfl, ?_⟩
      simp only [putAll, Act.put, List.setIfInBounds_toArray, List.set_cons_succ, List.set_cons_zero, e28, e31]
      refine val_of_quiet (ops := #[]) rfl ?_
      go_big_quiet_step (fail)
      exact wpQuiet_nil (by first | rfl | simp)
    · refine ⟨fun _ _ _ => rfl, ?_⟩
      intro v x hx hk
      have e32 : v 32 = .bool true := hk 32 (by decide)
      refine .inl ⟨wanted_none rfl, ?_⟩
      simp only [putAll, Act.put, List.setIfInBounds_toArray, List.set_cons_succ, List.set_cons_zero, e32]
      refine val_of_quiet (ops := #[]) rfl ?_
      go_big_quiet_step (fail)
      exact wpQuiet_nil (by first | rfl | simp)
    · refine ⟨fun _ _ _ => rfl, ?_⟩
      intro v x hx hk
      have e33 : v 33 = .bool true := hk 33 (by decide)
      refine .inl (and_dep ?_ ?_)
      · simp [Region.wanted, yielded, putAll, Act.put, e33]
      · intro hw
        simp only [putAll, Act.put, List.setIfInBounds_toArray, List.set_cons_succ, List.set_cons_zero, e33] at hw ⊢
        refine val_of_quiet_g hw ?_
        go_big_quiet_step ((go_at_call 20; exact Calls.later (fixed_walk _)))
        exact wpQuiet_nil (by first | rfl | simp)
    · refine ⟨fun _ _ _ => rfl, ?_⟩
      intro v x hx hk
      have e33 : v 33 = .bool true := hk 33 (by decide)
      have e34 : v 34 = .bool true := hk 34 (by decide)
      refine .inl ⟨wanted_none rfl, ?_⟩
      simp only [putAll, Act.put, List.setIfInBounds_toArray, List.set_cons_succ, List.set_cons_zero, e33, e34]
      refine val_of_quiet (ops := #[]) rfl ?_
      go_big_quiet_step (fail)
      exact wpQuiet_nil (by first | rfl | simp)
    · refine ⟨fun _ _ _ => rfl, ?_⟩
      intro v x hx hk
      have e35 : v 35 = .bool true := hk 35 (by decide)
      refine .inl ⟨wanted_none rfl, ?_⟩
      simp only [putAll, Act.put, List.setIfInBounds_toArray, List.set_cons_succ, List.set_cons_zero, e35]
      refine val_of_quiet (ops := #[]) rfl ?_
      go_big_quiet_step (fail)
      exact wpQuiet_nil (by first | rfl | simp)
  · intro v G x hF
    have z := hF.vals 36 _ rfl rfl
    simp only [putAll, Act.put, List.setIfInBounds_toArray, List.set_cons_succ, List.set_cons_zero, z]
    have HX := Lib.hid (M6.out.bel.trans (hF.tur.toBelow (by simp) M6.out.bel.size))
    clear hF z
    go_wp2_with fail
    go_ret
    exact ⟨rfl, HX.out⟩
  -- END

theorem msgTells_walk (m : Sough.Msg) (s : ByteArray) (w : World) (hw : m.Wf) (hs : s.size ≤ maxLen) :
    Calls Try.prog 3 #[.agg (msgC m), .string s] w fun e w' => e = .returned (.bool true) ∧ Below w.heap.size w w' :=
  tells_any (s1 := (s.extract 0 (min (s.size : Int) 5000).toNat).data.toList) rfl (bytes_toArray _).symm w hw hs

end Go.Proofs.Ytjoanlhdocoddaa
