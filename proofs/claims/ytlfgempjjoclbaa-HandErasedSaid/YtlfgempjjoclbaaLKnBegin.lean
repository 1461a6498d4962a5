/- The walk of know.begin (layer 8). (Printed by wip/tools/mkkn3.py.) -/
import Derived.Test.YtlfgempjjoclbaaLKnMind
import Derived.Test.YtlfgempjjoclbaaG1
namespace Go.Proofs.Ytlfgempjjoclbaa
open Go.RowKit Go.Maps Go.ChangeMaps
structure BegX (w0 : World) (mp lb cb pb kb mb n : Nat) (st : Sough.Store) (f : Sough.Flg) (C L P K : List Value) (ib : Nat) (x : World) : Prop where
  box : x.heap[mp]? = some (.cells #[.slice (some ⟨lb, 0, none⟩) n n, .slice (some ⟨cb, 0, none⟩) n n, .slice (some ⟨pb, 0, none⟩) n n, .slice (some ⟨kb, 0, none⟩) n n, .map (some mb), .bool f.dh, .bool f.kem] 115 (0, 0))
  cans : x.heap[cb]? = some (.cells C.toArray 4 (0, 0))
  lst : x.heap[lb]? = some (.cells L.toArray 76 (0, 0))
  pub : x.heap[pb]? = some (.cells P.toArray 3 (0, 0))
  kpub : x.heap[kb]? = some (.cells K.toArray 3 (0, 0))
  boxt : BoxT x mb st ib
  bel : Below w0.heap.size w0 x
  new : ∀ i ∈ [mp, lb, cb, pb, kb, mb], w0.heap.size ≤ i
  ne : pb ≠ kb
section
variable {w0 x y : World} {mp lb cb pb kb mb n ib : Nat} {st : Sough.Store} {f : Sough.Flg} {C L P K C' L' P' K' : List Value}
theorem BegX.nes (h : BegX w0 mp lb cb pb kb mb n st f C L P K ib x) : mp ≠ cb ∧ mp ≠ lb ∧ mp ≠ pb ∧ mp ≠ kb ∧ cb ≠ lb ∧ cb ≠ pb ∧ cb ≠ kb ∧ lb ≠ pb ∧ lb ≠ kb := by
  refine ⟨?_, ?_, ?_, ?_, ?_, ?_, ?_, ?_, ?_⟩ <;> rintro rfl
  · have := h.box.symm.trans h.cans; simp at this
  · have := h.box.symm.trans h.lst; simp at this
  · have := h.box.symm.trans h.pub; simp at this
  · have := h.box.symm.trans h.kpub; simp at this
  · have := h.cans.symm.trans h.lst; simp at this
  · have := h.cans.symm.trans h.pub; simp at this
  · have := h.cans.symm.trans h.kpub; simp at this
  · have := h.lst.symm.trans h.pub; simp at this
  · have := h.lst.symm.trans h.kpub; simp at this
theorem BegX.turn (h : BegX w0 mp lb cb pb kb mb n st f C L P K ib x) {b : Nat} (ht : Turned [b] x y) (hb : w0.heap.size ≤ b)
    (h1 : mp ≠ b) (h2 : if cb = b then y.heap[cb]? = some (.cells C'.toArray 4 (0, 0)) else C' = C) (h3 : if lb = b then y.heap[lb]? = some (.cells L'.toArray 76 (0, 0)) else L' = L)
    (h4 : if pb = b then y.heap[pb]? = some (.cells P'.toArray 3 (0, 0)) else P' = P) (h5 : if kb = b then y.heap[kb]? = some (.cells K'.toArray 3 (0, 0)) else K' = K) (h6 : mb ≠ b) : BegX w0 mp lb cb pb kb mb n st f C' L' P' K' ib y := by
  have k := fun {i : Nat} {o : Obj} (hh : x.heap[i]? = some o) (hn : i ≠ b) => (ht.block i (lt_of_block hh) (by simpa using hn)).trans hh
  refine ⟨k h.box h1, ?_, ?_, ?_, ?_, h.boxt.same (ht.block mb h.boxt.lt (by simpa using h6)), h.bel.trans (ht.toBelow (by simpa using hb) h.bel.size), h.new, h.ne⟩
  · split at h2
    · exact h2
    · subst h2; rename_i e; exact k h.cans e
  · split at h3
    · exact h3
    · subst h3; rename_i e; exact k h.lst e
  · split at h4
    · exact h4
    · subst h4; rename_i e; exact k h.pub e
  · split at h5
    · exact h5
    · subst h5; rename_i e; exact k h.kpub e
theorem BegX.later (h : BegX w0 mp lb cb pb kb mb n st f C L P K ib x) (hb : Below x.heap.size x y) : BegX w0 mp lb cb pb kb mb n st f C L P K ib y := by
  have k := fun {i : Nat} {o : Obj} (hh : x.heap[i]? = some o) => (hb.block i (lt_of_block hh)).trans hh
  exact ⟨k h.box, k h.cans, k h.lst, k h.pub, k h.kpub, h.boxt.same (hb.block _ h.boxt.lt), h.bel.trans (hb.mono h.bel.size), h.new, h.ne⟩
theorem BegX.setC (h : BegX w0 mp lb cb pb kb mb n st f C L P K ib x) {i : Nat} {v : Value} : BegX w0 mp lb cb pb kb mb n st f (C.set i v) L P K ib (x.setCell ⟨cb, i, none⟩ v) := by
  obtain ⟨n1, n2, n3, n4, n5, n6, n7, n8, n9⟩ := h.nes
  refine h.turn (b := cb) (Turned.setCell (a := ⟨cb, i, none⟩) (by simp) _) (h.new _ (by simp)) n1 ?_ ?_ ?_ ?_ (h.boxt.no h.cans)
  · rw [if_pos rfl, blk_set h.cans]; simp
  · rw [if_neg n5.symm]
  · rw [if_neg n6.symm]
  · rw [if_neg n7.symm]
theorem BegX.setL (h : BegX w0 mp lb cb pb kb mb n st f C L P K ib x) {i : Nat} {v : Value} : BegX w0 mp lb cb pb kb mb n st f C (L.set i v) P K ib (x.setCell ⟨lb, i, none⟩ v) := by
  obtain ⟨n1, n2, n3, n4, n5, n6, n7, n8, n9⟩ := h.nes
  refine h.turn (b := lb) (Turned.setCell (a := ⟨lb, i, none⟩) (by simp) _) (h.new _ (by simp)) n2 ?_ ?_ ?_ ?_ (h.boxt.no h.lst)
  · rw [if_neg n5]
  · rw [if_pos rfl, blk_set h.lst]; simp
  · rw [if_neg n8.symm]
  · rw [if_neg n9.symm]
theorem BegX.setP (h : BegX w0 mp lb cb pb kb mb n st f C L P K ib x) {i : Nat} {v : Value} : BegX w0 mp lb cb pb kb mb n st f C L (P.set i v) K ib (x.setCell ⟨pb, i, none⟩ v) := by
  obtain ⟨n1, n2, n3, n4, n5, n6, n7, n8, n9⟩ := h.nes
  refine h.turn (b := pb) (Turned.setCell (a := ⟨pb, i, none⟩) (by simp) _) (h.new _ (by simp)) n3 ?_ ?_ ?_ ?_ (h.boxt.no h.pub)
  · rw [if_neg n6]
  · rw [if_neg n8]
  · rw [if_pos rfl, blk_set h.pub]; simp
  · rw [if_neg h.ne.symm]
theorem BegX.setK (h : BegX w0 mp lb cb pb kb mb n st f C L P K ib x) {i : Nat} {v : Value} : BegX w0 mp lb cb pb kb mb n st f C L P (K.set i v) ib (x.setCell ⟨kb, i, none⟩ v) := by
  obtain ⟨n1, n2, n3, n4, n5, n6, n7, n8, n9⟩ := h.nes
  refine h.turn (b := kb) (Turned.setCell (a := ⟨kb, i, none⟩) (by simp) _) (h.new _ (by simp)) n4 ?_ ?_ ?_ ?_ (h.boxt.no h.kpub)
  · rw [if_neg n7]
  · rw [if_neg n9]
  · rw [if_neg h.ne]
  · rw [if_pos rfl, blk_set h.kpub]; simp
theorem BegX.setM (h : BegX w0 mp lb cb pb kb mb n st f C L P K ib x) {ib' : Nat} (hg : x.grownBy y (some mb)) (hB : BoxT y mb st ib') : BegX w0 mp lb cb pb kb mb n st f C L P K ib' y := by
  have ht : Turned [mb] x y := Turned.grown hg (fun j e => .inl (by cases e; simp))
  have k := fun {i : Nat} {c : Array Value} {T : TypeId} (hh : x.heap[i]? = some (.cells c T (0, 0))) => (ht.block i (lt_of_block hh) (by simpa using (h.boxt.no hh).symm)).trans hh
  exact ⟨k h.box, k h.cans, k h.lst, k h.pub, k h.kpub, hB, h.bel.trans (ht.toBelow (by simpa using h.new mb (by simp)) h.bel.size), h.new, h.ne⟩
theorem BegX.next (h : BegX w0 mp lb cb pb kb mb n st f C L P K ib x) (hk : (st.at ib).k ≠ 6) : BegX w0 mp lb cb pb kb mb n st f C L P K (ib + 1) x := { h with boxt := h.boxt.next hk }
end
def BegI (w0 : World) (mp lb cb pb kb mb n : Nat) (st : Sough.Store) (f : Sough.Flg) (iv : Value) (wr : World) : Prop :=
  ∃ i : Nat, iv = .int .i64 i ∧ 1 ≤ i ∧ i ≤ n ∧ BegX w0 mp lb cb pb kb mb n st f (List.replicate n (Value.bool false)) (tC st n i) (pC st n i) (kC st n i) i wr
theorem mind_of {w : World} {mp : Nat} {T : TypeId} {a b c d e f g : Value} (h : w.heap[mp]? = some (.cells #[a, b, c, d, e, f, g] T (0, 0))) : w.cell? ⟨mp, 0, none⟩ = some a ∧ w.cell? ⟨mp, 1, none⟩ = some b ∧ w.cell? ⟨mp, 2, none⟩ = some c ∧ w.cell? ⟨mp, 3, none⟩ = some d ∧ w.cell? ⟨mp, 4, none⟩ = some e ∧ w.cell? ⟨mp, 5, none⟩ = some f ∧ w.cell? ⟨mp, 6, none⟩ = some g := by
  simp [World.cell?, h]
theorem int_cell {w : World} {b n i : Nat} {T : TypeId} {F : Nat → Value} (h : w.heap[b]? = some (.cells ((List.range n).map F).toArray T (0, 0))) (hi : i < n) : w.cell? ⟨b, i, none⟩ = some (F i) := by
  simp [World.cell?, h, hi]
theorem lst_cells {w : World} {lb n i : Nat} {st : Sough.Store} {k : Nat} (h : w.heap[lb]? = some (.cells (tC st n k).toArray 76 (0, 0))) (hi : i < n) :
    (∃ v, w.cell? ⟨lb, i * 6, none⟩ = some v) ∧ (∃ v, w.cell? ⟨lb, i * 6 + 1, none⟩ = some v) ∧ (∃ v, w.cell? ⟨lb, i * 6 + 2, none⟩ = some v) ∧ (∃ v, w.cell? ⟨lb, i * 6 + 3, none⟩ = some v) ∧ (∃ v, w.cell? ⟨lb, i * 6 + 4, none⟩ = some v) ∧ (∃ v, w.cell? ⟨lb, i * 6 + 5, none⟩ = some v) ∧ (∀ j, w.frozen? ⟨lb, j, none⟩ = false) := by
  have key : ∀ j, j < n * 6 → ∃ v, w.cell? ⟨lb, j, none⟩ = some v := fun j hj => by
    have hl := tC_len st n k
    refine ⟨(tC st n k)[j]'(by omega), ?_⟩
    simp [World.cell?, h, List.getElem?_eq_getElem (show j < (tC st n k).length by omega)]
  exact ⟨key _ (by omega), key _ (by omega), key _ (by omega), key _ (by omega), key _ (by omega), key _ (by omega), fun j => by simp [World.frozen?, h]⟩
theorem termInfo0 : (Try.prog.info? 76).map (fun i => (i.zero, i.size, i.bytes)) = some (some (.agg (termC Sough.zeroT).toArray), 6, 56) := by kernel_rfl
theorem boolInfo0 : (Try.prog.info? 4).map (fun i => (i.zero, i.size, i.bytes)) = some (some (.bool false), 1, 1) := by kernel_rfl
theorem intInfo0 : (Try.prog.info? 3).map (fun i => (i.zero, i.size, i.bytes)) = some (some (.int .i64 0), 1, 8) := by kernel_rfl
theorem termInfo : ∃ i, Try.prog.info? 76 = some i ∧ i.zero = some (.agg (termC Sough.zeroT).toArray) ∧ i.size = 6 ∧ i.bytes = 56 := info_parts termInfo0
theorem boolInfo : ∃ i, Try.prog.info? 4 = some i ∧ i.zero = some (.bool false) ∧ i.size = 1 ∧ i.bytes = 1 := info_parts boolInfo0
theorem intInfo : ∃ i, Try.prog.info? 3 = some i ∧ i.zero = some (.int .i64 0) ∧ i.size = 1 ∧ i.bytes = 8 := info_parts intInfo0
theorem make_terms (st : Sough.Store) {n : Nat} (hn : n ≤ 1048577) (w : World) : (Instr.makeSlice 99 (.int .i64 (n : Int)) (.int .i64 (n : Int))).run Try.prog w = .ok (.slice (some ⟨w.heap.size, 0, none⟩) n n) (w.alloc (.cells (tC st n 1).toArray 76)) := by
  obtain ⟨i, hi, hz, hs, hb⟩ := termInfo
  have := run_make (P := Try.prog) w 99 76 i _ Try.underlying99 hi hz .i64 .i64 n n (by omega) (by omega) (by rw [hb]; omega) (by omega)
  simp only [Int.toNat_natCast] at this
  rw [this, hs]
  have e := made_tC st n
  rw [← e]
  rfl
theorem make_bools {n : Nat} (hn : n ≤ 1048577) (w : World) : (Instr.makeSlice 112 (.int .i64 (n : Int)) (.int .i64 (n : Int))).run Try.prog w = .ok (.slice (some ⟨w.heap.size, 0, none⟩) n n) (w.alloc (.cells (List.replicate n (Value.bool false)).toArray 4)) := by
  obtain ⟨i, hi, hz, hs, hb⟩ := boolInfo
  have := run_make (P := Try.prog) w 112 4 i _ Try.underlying112 hi hz .i64 .i64 n n (by omega) (by omega) (by rw [hb]; omega) (by omega)
  simp only [Int.toNat_natCast] at this
  rw [this, hs, Nat.mul_one, show Value.cells (.bool false) = #[Value.bool false] from rfl, made1]
theorem make_ints {n : Nat} (hn : n ≤ 1048577) (w : World) : (Instr.makeSlice 61 (.int .i64 (n : Int)) (.int .i64 (n : Int))).run Try.prog w = .ok (.slice (some ⟨w.heap.size, 0, none⟩) n n) (w.alloc (.cells (List.replicate n (Value.int .i64 0)).toArray 3)) := by
  obtain ⟨i, hi, hz, hs, hb⟩ := intInfo
  have := run_make (P := Try.prog) w 61 3 i _ Try.underlying61 hi hz .i64 .i64 n n (by omega) (by omega) (by rw [hb]; omega) (by omega)
  simp only [Int.toNat_natCast] at this
  rw [this, hs, Nat.mul_one, show Value.cells (.int .i64 0) = #[Value.int .i64 0] from rfl, made1]
theorem cells_of2 {W : World} {k : Nat} {T : TypeId} {a b : Value} (h : W.heap[k]? = some (.cells #[a, b] T (0, 0))) : W.cell? ⟨k, 0, none⟩ = some a ∧ W.cell? ⟨k, 1, none⟩ = some b := by
  simp [World.cell?, h]
def IntsIn (w : World) (a : Option Addr) (l : List Int) : Prop := ∀ i (hi : i < l.length), ∃ b off, a = some ⟨b, off, none⟩ ∧ b < w.heap.size ∧ w.cell? ⟨b, off + i, none⟩ = some (.int .i64 l[i])
theorem IntsIn.later {w w' : World} {a : Option Addr} {l : List Int} (h : IntsIn w a l) (hb : Below w.heap.size w w') : IntsIn w' a l := fun i hi => by
  obtain ⟨b, off, e, h1, h2⟩ := h i hi
  refine ⟨b, off, e, Nat.lt_of_lt_of_le h1 hb.size, ?_⟩
  rw [← h2]; simp only [World.cell?, hb.block b h1]
def BegK (w0 : World) (mp lb cb pb kb mb n : Nat) (st : Sough.Store) (f : Sough.Flg) (known : List Int) (iv : Value) (wr : World) : Prop :=
  ∃ k : Nat, iv = .int .i64 k ∧ k ≤ known.length ∧ ((known.take k).all fun y => st.has y) = true ∧ BegX w0 mp lb cb pb kb mb n st f ((Sough.knownK st (known.take k)).map Value.bool) (tC st n n) (pC st n n) (kC st n n) n wr
theorem knownK_len (st : Sough.Store) (known : List Int) : (Sough.knownK st known).length = st.l.length + 1 := by
  unfold Sough.knownK
  suffices h : ∀ (c : List Bool), (known.foldl (fun c x => c.set x.toNat true) c).length = c.length by rw [h]; simp
  induction known with
  | nil => intro c; rfl
  | cons x l ih => intro c; rw [List.foldl_cons, ih]; simp
theorem knownK_snoc (st : Sough.Store) (l : List Int) (x : Int) : Sough.knownK st (l ++ [x]) = (Sough.knownK st l).set x.toNat true := by
  unfold Sough.knownK; rw [List.foldl_append]; rfl
theorem BegK.next {w0 x : World} {mp lb cb pb kb mb n k xn : Nat} {st : Sough.Store} {f : Sough.Flg} {known : List Int} (hk : k < known.length) (hx : (xn : Int) = known[k]) (hh : st.has (xn : Int) = true) (ha : ((known.take k).all fun y => st.has y) = true) (hX : BegX w0 mp lb cb pb kb mb n st f ((Sough.knownK st (known.take k)).map Value.bool) (tC st n n) (pC st n n) (kC st n n) n x) :
    BegK w0 mp lb cb pb kb mb n st f known (.int .i64 ((k : Int) + 1)) (x.setCell ⟨cb, xn, none⟩ (.bool true)) := by
  have htk : known.take (k + 1) = known.take k ++ [(xn : Int)] := by rw [List.take_succ_eq_append_getElem hk, hx]
  refine ⟨k + 1, by push_cast; rfl, hk, ?_, ?_⟩
  · rw [htk, List.all_append, ha]; simp [hh]
  · rw [htk, knownK_snoc, Int.toNat_natCast, List.map_set]
    exact hX.setC
theorem BegX.done {w0 x : World} {mp lb cb pb kb mb n : Nat} {st : Sough.Store} {f : Sough.Flg} {can : List Bool} (hn : n = st.l.length + 1) (hl : can.length = n) (h : BegX w0 mp lb cb pb kb mb n st f (can.map Value.bool) (tC st n n) (pC st n n) (kC st n n) n x) :
    MindIn x mp lb cb pb kb mb n st f can ∧ BoxAt x mb st n ∧ x.heap[lb]? = some (.cells (termsC st n).toArray 76 (0, 0)) ∧ Below w0.heap.size w0 x ∧ w0.heap.size ≤ cb :=
  ⟨⟨h.box, h.cans, hl, h.pub, h.kpub, hn⟩, h.boxt.at, by rw [← tC_end]; exact h.lst, h.bel, h.new cb (by simp)⟩
set_option maxRecDepth 100000 in
set_option maxHeartbeats 16000000 in
theorem kbegin_any {w : World} {p cap n : Nat} {a : Option Addr} {st : Sough.Store} {S : List Nat} {f : Sough.Flg} {known : List Int} (h : StoreAt w p st S) (hok : st.Ok) (hn : n = st.l.length + 1) (hk : IntsIn w a known) (hkl : known.length ≤ 9223372036854775807) : Calls Try.prog 49 #[.pointer (some ⟨p, 0, none⟩), .slice a known.length cap, .agg #[.bool f.dh, .bool f.kem]] w fun e w' =>
    ((known.all fun y => st.has y) = true ∧ ∃ mp lb cb pb kb mb, e = .returned (.tuple #[.pointer (some ⟨mp, 0, none⟩), .bool true]) ∧ MindIn w' mp lb cb pb kb mb n st f (Sough.knownK st known) ∧ BoxAt w' mb st n ∧ w'.heap[lb]? = some (.cells (termsC st n).toArray 76 (0, 0)) ∧ Below w.heap.size w w' ∧ w.heap.size ≤ cb) ∨
    ((known.all fun y => st.has y) = false ∧ e = .returned (.tuple #[.pointer none, .bool false]) ∧ Below w.heap.size w w') := by
  have HKN := Lib.hid hk
  clear hk
  have HS := Lib.hid h
  have hl9 : st.l.length ≤ 1048576 := Nat.le_trans hok.len hok.most
  have HOK := Lib.hid hok
  have hmt := Lib.hid (make_terms st (n := n) (by omega))
  have hmb := Lib.hid (make_bools (n := n) (by omega))
  have hmi : Hid _ := Lib.hid (make_ints (n := n) (by omega))
  have hmk := hmi
  have hrp := rep_pC st n
  have hrk := rep_kC st n
  rw [hrp] at hmi
  rw [hrk] at hmk
  clear hrp hrk
  have hmm := @run_makeMap Try.prog
  have CL := Lib.hid (len_any _ (HS.out.later ((Below.refl _ w).alloc (Nat.le_refl _) (.cells #[.bool f.dh, .bool f.kem] 69))) hl9)
  have HF := Lib.hid (heap_alloc_new w (.cells #[.bool f.dh, .bool f.kem] 69))
  have HB0 := Lib.hid ((Below.refl w.heap.size w).alloc (Nat.le_refl _) (.cells #[.bool f.dh, .bool f.kem] 69))
  obtain ⟨m, hm⟩ : ∃ m, m = st.l.length := ⟨_, rfl⟩
  rw [← hm] at CL hl9 hn
  have hn1 : (m : Int) + 1 = (n : Int) := by omega
  have HN := Lib.hid (And.intro hm hn)
  clear h hok hm hn
  go_enter Try.func49, Try.ntmps49
  go_wp2_with fail
  refine CL.out.mono ?_
  rintro e w1 ⟨rfl, rfl⟩
  go_wp2_with fail
  refine wp_facts (n := 103) [] [.val fun _ => .int .i64 (n : Int),
    .blk (fun g => .slice (some ⟨g, 0, none⟩) n n) 76 (fun _ => (tC st n 1).toArray) 13 (fun _ => #[]),
    .val fun _ => .int .i64 (n : Int),
    .blk (fun g => .slice (some ⟨g, 0, none⟩) n n) 4 (fun _ => (List.replicate n (Value.bool false)).toArray) 13 (fun _ => #[]),
    .val fun _ => .int .i64 (n : Int),
    .blk (fun g => .slice (some ⟨g, 0, none⟩) n n) 3 (fun _ => (pC st n 1).toArray) 13 (fun _ => #[]),
    .val fun _ => .int .i64 (n : Int),
    .blk (fun g => .slice (some ⟨g, 0, none⟩) n n) 3 (fun _ => (kC st n 1).toArray) 13 (fun _ => #[]),
    .res,
    .val fun _ => .agg #[.bool f.dh, .bool f.kem],
    .val fun v => .agg #[v 1, v 3, v 5, v 7, v 8, .bool f.dh, .bool f.kem],
    .blk (fun g => .pointer (some ⟨g, 0, none⟩)) 115 (fun v => (v 10).cells) 13 (fun _ => #[]),
    .val fun v => v 11] (fun _ => True) (fun _ y FP x => ∃ g, y = .map (some g) ∧ FP = [g] ∧ x.heap[g]? = some (.map #[] 0)) (by kernel_rfl) (by kernel_rfl) rfl rfl (by simp) trivial (fun _ _ _ _ => trivial) (by rintro _ u FP x y ⟨g, rfl, rfl, h⟩ hk; exact ⟨g, rfl, rfl, (hk g (by simp)).trans h⟩) ?_ ?_
  · refine ⟨?_, ?_, ?_, ?_, ?_, ?_, ?_, ?_, ?_, ?_, ?_, ?_, ?_, trivial⟩
    · refine ⟨fun _ _ _ => rfl, ?_⟩
      intro v x hx hk
      refine .inl ⟨wanted_none rfl, ?_⟩
      simp only [putAll, Act.put, List.setIfInBounds_toArray, List.set_cons_succ, List.set_cons_zero]
      refine val_of_quiet (ops := #[]) rfl ?_
      go_big_quiet_step (fail)
      exact wpQuiet_nil (by first | rfl | simp)
    · refine ⟨fun h => absurd h (by simp), fun _ _ _ => rfl, ?_⟩
      intro v x hx hk
      have e0 : v 0 = .int .i64 (n : Int) := hk 0 (by decide)
      refine ⟨wanted_none rfl, ?_⟩
      simp only [putAll, Act.put, List.setIfInBounds_toArray, List.set_cons_succ, List.set_cons_zero, e0]
      unfold Oper.wp
      simp [execOp, hmt.out, Result.andThen, Oper.upon, go_sem, Act.eval, Act.put]
    · refine ⟨fun _ _ _ => rfl, ?_⟩
      intro v x hx hk
      refine .inl ⟨wanted_none rfl, ?_⟩
      simp only [putAll, Act.put, List.setIfInBounds_toArray, List.set_cons_succ, List.set_cons_zero]
      refine val_of_quiet (ops := #[]) rfl ?_
      go_big_quiet_step (fail)
      exact wpQuiet_nil (by first | rfl | simp)
    · refine ⟨fun h => absurd h (by simp), fun _ _ _ => rfl, ?_⟩
      intro v x hx hk
      have e2 : v 2 = .int .i64 (n : Int) := hk 2 (by decide)
      refine ⟨wanted_none rfl, ?_⟩
      simp only [putAll, Act.put, List.setIfInBounds_toArray, List.set_cons_succ, List.set_cons_zero, e2]
      unfold Oper.wp
      simp [execOp, hmb.out, Result.andThen, Oper.upon, go_sem, Act.eval, Act.put]
    · refine ⟨fun _ _ _ => rfl, ?_⟩
      intro v x hx hk
      refine .inl ⟨wanted_none rfl, ?_⟩
      simp only [putAll, Act.put, List.setIfInBounds_toArray, List.set_cons_succ, List.set_cons_zero]
      refine val_of_quiet (ops := #[]) rfl ?_
      go_big_quiet_step (fail)
      exact wpQuiet_nil (by first | rfl | simp)
    · refine ⟨fun h => absurd h (by simp), fun _ _ _ => rfl, ?_⟩
      intro v x hx hk
      have e4 : v 4 = .int .i64 (n : Int) := hk 4 (by decide)
      refine ⟨wanted_none rfl, ?_⟩
      simp only [putAll, Act.put, List.setIfInBounds_toArray, List.set_cons_succ, List.set_cons_zero, e4]
      unfold Oper.wp
      simp [execOp, hmi.out, Result.andThen, Oper.upon, go_sem, Act.eval, Act.put]
    · refine ⟨fun _ _ _ => rfl, ?_⟩
      intro v x hx hk
      refine .inl ⟨wanted_none rfl, ?_⟩
      simp only [putAll, Act.put, List.setIfInBounds_toArray, List.set_cons_succ, List.set_cons_zero]
      refine val_of_quiet (ops := #[]) rfl ?_
      go_big_quiet_step (fail)
      exact wpQuiet_nil (by first | rfl | simp)
    · refine ⟨fun h => absurd h (by simp), fun _ _ _ => rfl, ?_⟩
      intro v x hx hk
      have e6 : v 6 = .int .i64 (n : Int) := hk 6 (by decide)
      refine ⟨wanted_none rfl, ?_⟩
      simp only [putAll, Act.put, List.setIfInBounds_toArray, List.set_cons_succ, List.set_cons_zero, e6]
      unfold Oper.wp
      simp [execOp, hmk.out, Result.andThen, Oper.upon, go_sem, Act.eval, Act.put]
    · intro v x hx hk
      refine ⟨wanted_none rfl, ?_⟩
      simp only [putAll, Act.put, List.setIfInBounds_toArray, List.set_cons_succ, List.set_cons_zero]
      unfold Oper.wp
      go_simp
      exact ⟨(Below.refl _ x).alloc (Nat.le_refl _) _, _, ⟨rfl, (Array.getElem?_eq_some_iff.1 (heap_alloc_map x)).2⟩, by simp⟩
    · refine ⟨fun _ _ _ => rfl, ?_⟩
      intro v x hx hk
      have y0 := fun z : Later x => cells_of2 (turned_block hx HF.out (by simp) z)
      refine .inl ⟨wanted_none rfl, ?_⟩
      simp only [putAll, Act.put, List.setIfInBounds_toArray, List.set_cons_succ, List.set_cons_zero]
      refine val_of_quiet (ops := #[]) rfl ?_
      go_big_quiet_step (fail)
      exact wpQuiet_nil (by first | rfl | simp)
    · refine ⟨fun v v' h => by simp only [h 1 (by decide), h 3 (by decide), h 5 (by decide), h 7 (by decide), h 8 (by decide)], ?_⟩
      intro v x hx hk
      obtain ⟨g1, e1, _⟩ := hk 1 (by decide)
      obtain ⟨g3, e3, _⟩ := hk 3 (by decide)
      obtain ⟨g5, e5, _⟩ := hk 5 (by decide)
      obtain ⟨g7, e7, _⟩ := hk 7 (by decide)
      obtain ⟨_, g8, e8, _⟩ := hk 8 (by decide)
      have e9 : v 9 = .agg #[.bool f.dh, .bool f.kem] := hk 9 (by decide)
      refine .inl ⟨wanted_none rfl, ?_⟩
      simp only [putAll, Act.put, List.setIfInBounds_toArray, List.set_cons_succ, List.set_cons_zero, e1, e3, e5, e7, e8, e9]
      refine val_of_quiet (ops := #[]) rfl ?_
      go_big_quiet_step (fail)
      exact wpQuiet_nil (by first | rfl | simp)
    · refine ⟨fun h => absurd h (by simp), fun v v' h => by simp only [h 10 (by decide)], ?_⟩
      intro v x hx hk
      have e10 : v 10 = .agg #[v 1, v 3, v 5, v 7, v 8, .bool f.dh, .bool f.kem] := hk 10 (by decide)
      refine ⟨wanted_none rfl, ?_⟩
      simp only [putAll, Act.put, List.setIfInBounds_toArray, List.set_cons_succ, List.set_cons_zero, e10]
      unfold Oper.wp
      go_simp
    · refine ⟨fun v v' h => h 11 (by decide), ?_⟩
      intro v x hx hk
      obtain ⟨g11, e11, _⟩ := hk 11 (by decide)
      refine .inl ⟨wanted_none rfl, ?_⟩
      simp only [putAll, Act.put, List.setIfInBounds_toArray, List.set_cons_succ, List.set_cons_zero, e11]
      refine val_of_quiet (ops := #[]) rfl ?_
      go_big_quiet_step (fail)
      exact wpQuiet_nil (by first | rfl | simp)
  · intro v GG x hF
    obtain ⟨e1, g1, -, h1⟩ := hF.blks 1 _ _ _ _ _ rfl rfl
    obtain ⟨e3, g3, -, h3⟩ := hF.blks 3 _ _ _ _ _ rfl rfl
    obtain ⟨e5, g5, -, h5⟩ := hF.blks 5 _ _ _ _ _ rfl rfl
    obtain ⟨e7, g7, -, h7⟩ := hF.blks 7 _ _ _ _ _ rfl rfl
    obtain ⟨e11, g11, -, h11⟩ := hF.blks 11 _ _ _ _ _ rfl rfl
    obtain ⟨FP, ⟨g8, e8, rfl, h8⟩, -, hn8, -⟩ := hF.post 8 (.inr rfl) rfl
    replace hn8 := hn8 rfl g8 (by simp)
    have e10 := hF.vals 10 _ rfl rfl
    have e12 := hF.vals 12 _ rfl rfl
    have hne := hF.apart 5 7 _ _ _ _ _ _ _ _ _ _ rfl rfl rfl rfl (by decide)
    have hbel := hF.tur.toBelow (B := _) (by simp) (Nat.le_refl _)
    simp only [List.length_cons, List.length_nil, Nat.reduceAdd, Nat.lt_irrefl, decide_false, Bool.false_eq_true, if_false] at h1 h3 h5 h7 h11
    rw [e1, e3, e5, e7, e8] at e10
    rw [e10] at h11
    rw [e11] at e12
    generalize GG 1 = lb at e1 g1 h1 e10 h11
    generalize GG 3 = cb at e3 g3 h3 e10 h11
    generalize GG 5 = pb at e5 g5 h5 hne e10 h11
    generalize GG 7 = kb at e7 g7 h7 hne e10 h11
    generalize GG 11 = mp at e11 g11 h11 e12
    have HX : Hid (BegX w mp lb cb pb kb g8 n st f (List.replicate n (Value.bool false)) (tC st n 1) (pC st n 1) (kC st n 1) 1 x) := Lib.hid ⟨h11, h3, h1, h5, h7, BoxT.start h8, (HB0.out).trans (hbel.mono HB0.out.size), by simp; have := HB0.out.size; omega, hne⟩
    clear hF e1 g1 h1 e3 g3 h3 e5 g5 h5 e7 g7 h7 e11 g11 h11 e8 h8 hn8 e10 hne hbel hmt hmb hmi hmk HF HB0
    simp only [putAll, Act.put, List.setIfInBounds_toArray, List.set_cons_succ, List.set_cons_zero, e12, Nat.zero_add, Nat.reduceAdd]
    clear e12
    generalize v 0 = q0
    generalize v 1 = q1
    generalize v 2 = q2
    generalize v 3 = q3
    generalize v 4 = q4
    generalize v 5 = q5
    generalize v 6 = q6
    generalize v 7 = q7
    generalize v 8 = q8
    generalize v 9 = q9
    generalize v 10 = q10
    generalize v 11 = q11
    clear v GG
    go_wp2_with fail
    go_loopw [10] (fun iv wr => BegI w mp lb cb pb kb g8 n st f iv wr) (fun iv _ => n - (intOf iv).toNat)
    case atStart => exact ⟨1, rfl, Nat.le_refl _, by have := HN.out; omega, HX.out⟩
    case round =>
      obtain ⟨i, rfl, h1, h2, hX⟩ := hrel
      by_cases hlt : i < n
      · obtain ⟨tk, ta, tb, tc, tn, ts, ht, ha, hb, hc, _⟩ := Sough.term_at HOK.out i
        rw [← HN.out.1, ← HN.out.2] at ha hb hc
        have HX1 := Lib.hid hX
        have hhas : st.has i = true := by unfold Sough.Store.has; have := HN.out; simp; omega
        have CG := Lib.hid (get_any (x := (i : Int)) wr (HS.out.later hX.bel) (by rw [← HN.out.1]; exact hl9) ht hhas)
        obtain ⟨kk, hkk⟩ : ∃ k : Int, k = tk := ⟨_, rfl⟩
        rw [← hkk] at ht CG
        simp only at CG
        have HTT := Lib.hid ht
        clear hX ht hhas hkk
        go_wp2_with fail
        by_cases k3 : kk = 3
        · subst k3
          refine (CG.out).mono ?_
          rintro e w2 ⟨rfl, hb2⟩
          have HX3 := Lib.hid ((HX1.out.later hb2).later ((Below.refl _ w2).alloc (Nat.le_refl _) (.cells #[.int .i64 3, .string ⟨ts.toArray⟩, .int .u64 tn, .int .i64 ta, .int .i64 tb, .int .i64 tc] 76)))
          have HT3 := Lib.hid (heap_alloc_new w2 (.cells #[.int .i64 3, .string ⟨ts.toArray⟩, .int .u64 tn, .int .i64 ta, .int .i64 tb, .int .i64 tc] 76))
          have hTL : w2.heap.size ≠ lb := fun e => by have := lt_of_block (HX1.out.later hb2).lst; omega
          have zm := (mind_of HX3.out.box).1
          have zt := cells_of6 HT3.out
          clear hb2 CG
          go_wp2_with fail
          obtain ⟨tb_, htb⟩ : ∃ b, b = w2.heap.size := ⟨_, rfl⟩
          rw [← htb] at HT3 hTL zt
          rw [← htb]
          generalize w2.alloc (.cells #[.int .i64 3, .string ⟨ts.toArray⟩, .int .u64 tn, .int .i64 ta, .int .i64 tb, .int .i64 tc] 76) = W3 at HX3 HT3 zm zt
          clear htb
          go_still_tail 7, (by kernel_rfl)
          change wpList _ _ _ _ _ W3.drew
          have HX4 : Hid (BegX w mp lb cb pb kb g8 n st f (List.replicate n (Value.bool false)) (tC st n i) (pC st n i) (kC st n i) i W3.drew) := Lib.hid (HX3.out.later (Below.refl _ W3).drew)
          have HT4 : Hid (W3.drew.heap[tb_]? = _) := Lib.hid HT3.out
          clear zm zt HX3 HT3
          generalize W3.drew = W4 at HX4 HT4
          obtain ⟨⟨v0, zl0⟩, ⟨v1, zl1⟩, ⟨v2, zl2⟩, ⟨v3, zl3⟩, ⟨v4, zl4⟩, ⟨v5, zl5⟩, zf⟩ := lst_cells HX4.out.lst hlt
          have HX5 := Lib.hid ((((((HX4.out.setL (i := i * 6) (v := .int .i64 3)).setL (i := i * 6 + 1) (v := .string ⟨ts.toArray⟩)).setL (i := i * 6 + 2) (v := .int .u64 (tn : Nat))).setL (i := i * 6 + 3) (v := .int .i64 (ta : Nat))).setL (i := i * 6 + 4) (v := .int .i64 (tb : Nat))).setL (i := i * 6 + 5) (v := .int .i64 (tc : Nat)))
          have hset := tC_set st hlt HTT.out
          simp only at hset
          rw [hset] at HX5
          have HT5 : Hid (((((((W4.setCell ⟨lb, i * 6, none⟩ (.int .i64 3)).setCell ⟨lb, i * 6 + 1, none⟩ (.string ⟨ts.toArray⟩)).setCell ⟨lb, i * 6 + 2, none⟩ (.int .u64 (tn : Nat))).setCell ⟨lb, i * 6 + 3, none⟩ (.int .i64 (ta : Nat))).setCell ⟨lb, i * 6 + 4, none⟩ (.int .i64 (tb : Nat))).setCell ⟨lb, i * 6 + 5, none⟩ (.int .i64 (tc : Nat))).heap[tb_]? = _) := Lib.hid (blk_far hTL (blk_far hTL (blk_far hTL (blk_far hTL (blk_far hTL (blk_far hTL HT4.out))))))
          have zt := cells_of6 HT5.out
          clear hset
          go_wp2_with fail
          generalize ((((((W4.setCell ⟨lb, i * 6, none⟩ (.int .i64 3)).setCell ⟨lb, i * 6 + 1, none⟩ (.string ⟨ts.toArray⟩)).setCell ⟨lb, i * 6 + 2, none⟩ (.int .u64 (tn : Nat))).setCell ⟨lb, i * 6 + 3, none⟩ (.int .i64 (ta : Nat))).setCell ⟨lb, i * 6 + 4, none⟩ (.int .i64 (tb : Nat))).setCell ⟨lb, i * 6 + 5, none⟩ (.int .i64 (tc : Nat))) = W5 at HX5 HT5 zt
          clear zl0 zl1 zl2 zl3 zl4 zl5 zf
          have zm := (mind_of HX5.out.box).2.2.1
          go_still_tail 8, (by kernel_rfl)
          change wpList _ _ _ _ _ W5.drew
          have HX6 : Hid (BegX w mp lb cb pb kb g8 n st f (List.replicate n (Value.bool false)) (tC st n (i + 1)) (pC st n i) (kC st n i) i W5.drew) := Lib.hid (HX5.out.later (Below.refl _ W5).drew)
          clear zm zt HX5 HT5 HX4 HT4
          generalize W5.drew = W6 at HX6
          have zp : W6.cell? ⟨pb, ta, none⟩ = _ := int_cell HX6.out.pub ha
          have zf : W6.frozen? ⟨pb, ta, none⟩ = false := by simp [World.frozen?, HX6.out.pub]
          have HX7 := Lib.hid ((HX6.out.setP (i := ta) (v := .int .i64 (i : Int))).next (by rw [HTT.out]; simp))
          rw [pC_set st h1 ha (by rw [HTT.out]) (by rw [HTT.out]), ← kC_next st (n := n) (by rw [HTT.out]; simp)] at HX7
          go_wp2_with fail
          have HR : Hid (BegI w mp lb cb pb kb g8 n st f (.int .i64 ((i : Int) + 1)) _) := Lib.hid ⟨i + 1, by push_cast; rfl, by omega, by omega, HX7.out⟩
          go_roundw
          case rel => exact HR.out
          case measure => simp [intOf]; omega
        by_cases k5 : kk = 5
        · subst k5
          refine (CG.out).mono ?_
          rintro e w2 ⟨rfl, hb2⟩
          have HX3 := Lib.hid ((HX1.out.later hb2).later ((Below.refl _ w2).alloc (Nat.le_refl _) (.cells #[.int .i64 5, .string ⟨ts.toArray⟩, .int .u64 tn, .int .i64 ta, .int .i64 tb, .int .i64 tc] 76)))
          have HT3 := Lib.hid (heap_alloc_new w2 (.cells #[.int .i64 5, .string ⟨ts.toArray⟩, .int .u64 tn, .int .i64 ta, .int .i64 tb, .int .i64 tc] 76))
          have hTL : w2.heap.size ≠ lb := fun e => by have := lt_of_block (HX1.out.later hb2).lst; omega
          have zm := (mind_of HX3.out.box).1
          have zt := cells_of6 HT3.out
          clear hb2 CG
          go_wp2_with fail
          obtain ⟨tb_, htb⟩ : ∃ b, b = w2.heap.size := ⟨_, rfl⟩
          rw [← htb] at HT3 hTL zt
          rw [← htb]
          generalize w2.alloc (.cells #[.int .i64 5, .string ⟨ts.toArray⟩, .int .u64 tn, .int .i64 ta, .int .i64 tb, .int .i64 tc] 76) = W3 at HX3 HT3 zm zt
          clear htb
          go_still_tail 7, (by kernel_rfl)
          change wpList _ _ _ _ _ W3.drew
          have HX4 : Hid (BegX w mp lb cb pb kb g8 n st f (List.replicate n (Value.bool false)) (tC st n i) (pC st n i) (kC st n i) i W3.drew) := Lib.hid (HX3.out.later (Below.refl _ W3).drew)
          have HT4 : Hid (W3.drew.heap[tb_]? = _) := Lib.hid HT3.out
          clear zm zt HX3 HT3
          generalize W3.drew = W4 at HX4 HT4
          obtain ⟨⟨v0, zl0⟩, ⟨v1, zl1⟩, ⟨v2, zl2⟩, ⟨v3, zl3⟩, ⟨v4, zl4⟩, ⟨v5, zl5⟩, zf⟩ := lst_cells HX4.out.lst hlt
          have HX5 := Lib.hid ((((((HX4.out.setL (i := i * 6) (v := .int .i64 5)).setL (i := i * 6 + 1) (v := .string ⟨ts.toArray⟩)).setL (i := i * 6 + 2) (v := .int .u64 (tn : Nat))).setL (i := i * 6 + 3) (v := .int .i64 (ta : Nat))).setL (i := i * 6 + 4) (v := .int .i64 (tb : Nat))).setL (i := i * 6 + 5) (v := .int .i64 (tc : Nat)))
          have hset := tC_set st hlt HTT.out
          simp only at hset
          rw [hset] at HX5
          have HT5 : Hid (((((((W4.setCell ⟨lb, i * 6, none⟩ (.int .i64 5)).setCell ⟨lb, i * 6 + 1, none⟩ (.string ⟨ts.toArray⟩)).setCell ⟨lb, i * 6 + 2, none⟩ (.int .u64 (tn : Nat))).setCell ⟨lb, i * 6 + 3, none⟩ (.int .i64 (ta : Nat))).setCell ⟨lb, i * 6 + 4, none⟩ (.int .i64 (tb : Nat))).setCell ⟨lb, i * 6 + 5, none⟩ (.int .i64 (tc : Nat))).heap[tb_]? = _) := Lib.hid (blk_far hTL (blk_far hTL (blk_far hTL (blk_far hTL (blk_far hTL (blk_far hTL HT4.out))))))
          have zt := cells_of6 HT5.out
          clear hset
          go_wp2_with fail
          generalize ((((((W4.setCell ⟨lb, i * 6, none⟩ (.int .i64 5)).setCell ⟨lb, i * 6 + 1, none⟩ (.string ⟨ts.toArray⟩)).setCell ⟨lb, i * 6 + 2, none⟩ (.int .u64 (tn : Nat))).setCell ⟨lb, i * 6 + 3, none⟩ (.int .i64 (ta : Nat))).setCell ⟨lb, i * 6 + 4, none⟩ (.int .i64 (tb : Nat))).setCell ⟨lb, i * 6 + 5, none⟩ (.int .i64 (tc : Nat))) = W5 at HX5 HT5 zt
          clear zl0 zl1 zl2 zl3 zl4 zl5 zf
          have zm := (mind_of HX5.out.box).2.2.2.1
          go_still_tail 8, (by kernel_rfl)
          change wpList _ _ _ _ _ W5.drew
          have HX6 : Hid (BegX w mp lb cb pb kb g8 n st f (List.replicate n (Value.bool false)) (tC st n (i + 1)) (pC st n i) (kC st n i) i W5.drew) := Lib.hid (HX5.out.later (Below.refl _ W5).drew)
          clear zm zt HX5 HT5 HX4 HT4
          generalize W5.drew = W6 at HX6
          have zp : W6.cell? ⟨kb, ta, none⟩ = _ := int_cell HX6.out.kpub ha
          have zf : W6.frozen? ⟨kb, ta, none⟩ = false := by simp [World.frozen?, HX6.out.kpub]
          have HX7 := Lib.hid ((HX6.out.setK (i := ta) (v := .int .i64 (i : Int))).next (by rw [HTT.out]; simp))
          rw [kC_set st h1 ha (by rw [HTT.out]) (by rw [HTT.out]), ← pC_next st (n := n) (by rw [HTT.out]; simp)] at HX7
          go_wp2_with fail
          have HR : Hid (BegI w mp lb cb pb kb g8 n st f (.int .i64 ((i : Int) + 1)) _) := Lib.hid ⟨i + 1, by push_cast; rfl, by omega, by omega, HX7.out⟩
          go_roundw
          case rel => exact HR.out
          case measure => simp [intOf]; omega
        by_cases k6 : kk = 6
        · subst k6
          refine (CG.out).mono ?_
          rintro e w2 ⟨rfl, hb2⟩
          have HX3 := Lib.hid ((HX1.out.later hb2).later ((Below.refl _ w2).alloc (Nat.le_refl _) (.cells #[.int .i64 6, .string ⟨ts.toArray⟩, .int .u64 tn, .int .i64 ta, .int .i64 tb, .int .i64 tc] 76)))
          have HT3 := Lib.hid (heap_alloc_new w2 (.cells #[.int .i64 6, .string ⟨ts.toArray⟩, .int .u64 tn, .int .i64 ta, .int .i64 tb, .int .i64 tc] 76))
          have hTL : w2.heap.size ≠ lb := fun e => by have := lt_of_block (HX1.out.later hb2).lst; omega
          have zm := (mind_of HX3.out.box).1
          have zt := cells_of6 HT3.out
          clear hb2 CG
          go_wp2_with fail
          obtain ⟨tb_, htb⟩ : ∃ b, b = w2.heap.size := ⟨_, rfl⟩
          rw [← htb] at HT3 hTL zt
          rw [← htb]
          generalize w2.alloc (.cells #[.int .i64 6, .string ⟨ts.toArray⟩, .int .u64 tn, .int .i64 ta, .int .i64 tb, .int .i64 tc] 76) = W3 at HX3 HT3 zm zt
          clear htb
          go_still_tail 7, (by kernel_rfl)
          change wpList _ _ _ _ _ W3.drew
          have HX4 : Hid (BegX w mp lb cb pb kb g8 n st f (List.replicate n (Value.bool false)) (tC st n i) (pC st n i) (kC st n i) i W3.drew) := Lib.hid (HX3.out.later (Below.refl _ W3).drew)
          have HT4 : Hid (W3.drew.heap[tb_]? = _) := Lib.hid HT3.out
          clear zm zt HX3 HT3
          generalize W3.drew = W4 at HX4 HT4
          obtain ⟨⟨v0, zl0⟩, ⟨v1, zl1⟩, ⟨v2, zl2⟩, ⟨v3, zl3⟩, ⟨v4, zl4⟩, ⟨v5, zl5⟩, zf⟩ := lst_cells HX4.out.lst hlt
          have HX5 := Lib.hid ((((((HX4.out.setL (i := i * 6) (v := .int .i64 6)).setL (i := i * 6 + 1) (v := .string ⟨ts.toArray⟩)).setL (i := i * 6 + 2) (v := .int .u64 (tn : Nat))).setL (i := i * 6 + 3) (v := .int .i64 (ta : Nat))).setL (i := i * 6 + 4) (v := .int .i64 (tb : Nat))).setL (i := i * 6 + 5) (v := .int .i64 (tc : Nat)))
          have hset := tC_set st hlt HTT.out
          simp only at hset
          rw [hset] at HX5
          have HT5 : Hid (((((((W4.setCell ⟨lb, i * 6, none⟩ (.int .i64 6)).setCell ⟨lb, i * 6 + 1, none⟩ (.string ⟨ts.toArray⟩)).setCell ⟨lb, i * 6 + 2, none⟩ (.int .u64 (tn : Nat))).setCell ⟨lb, i * 6 + 3, none⟩ (.int .i64 (ta : Nat))).setCell ⟨lb, i * 6 + 4, none⟩ (.int .i64 (tb : Nat))).setCell ⟨lb, i * 6 + 5, none⟩ (.int .i64 (tc : Nat))).heap[tb_]? = _) := Lib.hid (blk_far hTL (blk_far hTL (blk_far hTL (blk_far hTL (blk_far hTL (blk_far hTL HT4.out))))))
          have zt := cells_of6 HT5.out
          clear hset
          go_wp2_with fail
          generalize ((((((W4.setCell ⟨lb, i * 6, none⟩ (.int .i64 6)).setCell ⟨lb, i * 6 + 1, none⟩ (.string ⟨ts.toArray⟩)).setCell ⟨lb, i * 6 + 2, none⟩ (.int .u64 (tn : Nat))).setCell ⟨lb, i * 6 + 3, none⟩ (.int .i64 (ta : Nat))).setCell ⟨lb, i * 6 + 4, none⟩ (.int .i64 (tb : Nat))).setCell ⟨lb, i * 6 + 5, none⟩ (.int .i64 (tc : Nat))) = W5 at HX5 HT5 zt
          clear zl0 zl1 zl2 zl3 zl4 zl5 zf
          have zm := (mind_of HX5.out.box).2.2.2.2.1
          go_still_tail 10, (by kernel_rfl)
          change wpList _ _ _ _ _ W5.drew
          have HX6 : Hid (BegX w mp lb cb pb kb g8 n st f (List.replicate n (Value.bool false)) (tC st n (i + 1)) (pC st n i) (kC st n i) i W5.drew) := Lib.hid (HX5.out.later (Below.refl _ W5).drew)
          clear zm zt HX5 HT5 HX4 HT4
          generalize W5.drew = W6 at HX6
          obtain ⟨D, d1, d2, d3⟩ := HX6.out.boxt
          have d4 := boxTo_put h1 d1 (by rw [HTT.out]) (by rw [HTT.out]) (by rw [HTT.out]) (by omega) (by omega) d3
          have HD4 := Lib.hid d4
          clear d1 d3 d4
          refine wpList_mapUpdate_own _ rfl _ _ _ 113 rfl 26 3 lawB Try.underlying113 _ g8 i D rfl d2 (by unfold maxLen; omega) _ _ _ rfl rfl (keyOfB (a := ta) (b := tb) ⟨by omega, by omega⟩ ⟨by omega, by omega⟩) (mkI i) [] (plainElem_int Try.underlying3 (WalkArith.wf_i64 (by omega))) ?_
          intro w7 hown7 hg7
          have HX7 := Lib.hid (HX6.out.setM (ib' := i + 1) hg7 ⟨_, HD4.out.1, hown7, HD4.out.2⟩)
          rw [← pC_next st (n := n) (by rw [HTT.out]; simp), ← kC_next st (n := n) (by rw [HTT.out]; simp)] at HX7
          clear d2 hown7 hg7
          go_wp2_with fail
          have HR : Hid (BegI w mp lb cb pb kb g8 n st f (.int .i64 ((i : Int) + 1)) _) := Lib.hid ⟨i + 1, by push_cast; rfl, by omega, by omega, HX7.out⟩
          go_roundw
          case rel => exact HR.out
          case measure => simp [intOf]; omega
        have n3 : kk ≠ 3 := k3
        have n5 : kk ≠ 5 := k5
        have n6 : kk ≠ 6 := k6
        refine (CG.out).mono ?_
        rintro e w2 ⟨rfl, hb2⟩
        have HX3 := Lib.hid ((HX1.out.later hb2).later ((Below.refl _ w2).alloc (Nat.le_refl _) (.cells #[.int .i64 kk, .string ⟨ts.toArray⟩, .int .u64 tn, .int .i64 ta, .int .i64 tb, .int .i64 tc] 76)))
        have HT3 := Lib.hid (heap_alloc_new w2 (.cells #[.int .i64 kk, .string ⟨ts.toArray⟩, .int .u64 tn, .int .i64 ta, .int .i64 tb, .int .i64 tc] 76))
        have hTL : w2.heap.size ≠ lb := fun e => by have := lt_of_block (HX1.out.later hb2).lst; omega
        have zm := (mind_of HX3.out.box).1
        have zt := cells_of6 HT3.out
        clear hb2 CG
        go_wp2_with fail
        obtain ⟨tb_, htb⟩ : ∃ b, b = w2.heap.size := ⟨_, rfl⟩
        rw [← htb] at HT3 hTL zt
        rw [← htb]
        generalize w2.alloc (.cells #[.int .i64 kk, .string ⟨ts.toArray⟩, .int .u64 tn, .int .i64 ta, .int .i64 tb, .int .i64 tc] 76) = W3 at HX3 HT3 zm zt
        clear htb
        go_still_tail 7, (by kernel_rfl)
        change wpList _ _ _ _ _ W3.drew
        have HX4 : Hid (BegX w mp lb cb pb kb g8 n st f (List.replicate n (Value.bool false)) (tC st n i) (pC st n i) (kC st n i) i W3.drew) := Lib.hid (HX3.out.later (Below.refl _ W3).drew)
        have HT4 : Hid (W3.drew.heap[tb_]? = _) := Lib.hid HT3.out
        clear zm zt HX3 HT3
        generalize W3.drew = W4 at HX4 HT4
        obtain ⟨⟨v0, zl0⟩, ⟨v1, zl1⟩, ⟨v2, zl2⟩, ⟨v3, zl3⟩, ⟨v4, zl4⟩, ⟨v5, zl5⟩, zf⟩ := lst_cells HX4.out.lst hlt
        have HX5 := Lib.hid ((((((HX4.out.setL (i := i * 6) (v := .int .i64 kk)).setL (i := i * 6 + 1) (v := .string ⟨ts.toArray⟩)).setL (i := i * 6 + 2) (v := .int .u64 (tn : Nat))).setL (i := i * 6 + 3) (v := .int .i64 (ta : Nat))).setL (i := i * 6 + 4) (v := .int .i64 (tb : Nat))).setL (i := i * 6 + 5) (v := .int .i64 (tc : Nat)))
        have hset := tC_set st hlt HTT.out
        simp only at hset
        rw [hset] at HX5
        have HT5 : Hid (((((((W4.setCell ⟨lb, i * 6, none⟩ (.int .i64 kk)).setCell ⟨lb, i * 6 + 1, none⟩ (.string ⟨ts.toArray⟩)).setCell ⟨lb, i * 6 + 2, none⟩ (.int .u64 (tn : Nat))).setCell ⟨lb, i * 6 + 3, none⟩ (.int .i64 (ta : Nat))).setCell ⟨lb, i * 6 + 4, none⟩ (.int .i64 (tb : Nat))).setCell ⟨lb, i * 6 + 5, none⟩ (.int .i64 (tc : Nat))).heap[tb_]? = _) := Lib.hid (blk_far hTL (blk_far hTL (blk_far hTL (blk_far hTL (blk_far hTL (blk_far hTL HT4.out))))))
        have zt := cells_of6 HT5.out
        clear hset
        have HX6 := Lib.hid (HX5.out.next (by rw [HTT.out]; exact n6))
        rw [← pC_next st (n := n) (by rw [HTT.out]; exact n3), ← kC_next st (n := n) (by rw [HTT.out]; exact n5)] at HX6
        have b3 : (kk == 3) = false := by simpa using n3
        have b5 : (kk == 5) = false := by simpa using n5
        have b6 : (kk == 6) = false := by simpa using n6
        clear k3 k5 k6 n3 n5 n6
        go_wp2_with fail
        clear zl0 zl1 zl2 zl3 zl4 zl5 zf zt
        have HR : Hid (BegI w mp lb cb pb kb g8 n st f (.int .i64 ((i : Int) + 1)) _) := Lib.hid ⟨i + 1, by push_cast; rfl, by omega, by omega, HX6.out⟩
        go_roundw
        case rel => exact HR.out
        case measure => simp [intOf]; omega
      · obtain rfl : n = i := by omega
        obtain ⟨wA, rfl⟩ : ∃ w, w = wr := ⟨_, rfl⟩
        have HK0 : Hid (BegK w mp lb cb pb kb g8 n st f known (.int .i64 0) wA) := Lib.hid ⟨0, rfl, Nat.zero_le _, rfl, by
          have e : (Sough.knownK st (known.take 0)).map Value.bool = List.replicate n (Value.bool false) := by
            unfold Sough.knownK
            rw [List.take_zero, List.foldl_nil, List.map_replicate, HN.out.2, HN.out.1]
          rw [e]; exact hX⟩
        clear hX HX hmm CL
        go_wp2_with fail
        go_loopw [84] (fun iv wr => BegK w mp lb cb pb kb g8 n st f known iv wr) (fun iv _ => known.length - (intOf iv).toNat)
        case atStart => exact HK0.out
        case round =>
          obtain ⟨k, rfl, hk1, hal, hX⟩ := hrel
          have HX1 := Lib.hid hX; have HAL := Lib.hid hal
          have hcl := knownK_len st (known.take k)
          have zm := (mind_of hX.box).2.1
          clear hX hal
          by_cases hlt : k < known.length
          · obtain ⟨b, off, rfl, hbW, hc⟩ := HKN.out k hlt
            obtain ⟨x, hx⟩ : ∃ x, x = known[k] := ⟨_, rfl⟩
            have HXX := Lib.hid hx
            have hcw : wr.cell? ⟨b, off + k, none⟩ = some (.int .i64 x) := by
              rw [hx, ← hc]; simp only [World.cell?, HX1.out.bel.block b hbW]
            clear hx hc hbW
            by_cases hh : st.has x = true
            · obtain ⟨xn, rfl, h1, h2⟩ : ∃ xn : Nat, x = xn ∧ 1 ≤ xn ∧ xn < n := by
                unfold Sough.Store.has at hh
                rw [Bool.and_eq_true, decide_eq_true_eq, decide_eq_true_eq] at hh
                have := HN.out
                exact ⟨x.toNat, by omega, by omega, by omega⟩
              have HR := Lib.hid (BegK.next hlt HXX.out hh HAL.out HX1.out)
              have hxl : xn < ((Sough.knownK st (known.take k)).map Value.bool).length := by rw [List.length_map, hcl, ← HN.out.1, ← HN.out.2]; exact h2
              have zc : wr.cell? ⟨cb, xn, none⟩ = some (((Sough.knownK st (known.take k)).map Value.bool)[xn]) := by
                have := HX1.out.cans
                simp [World.cell?, this, hxl]
              obtain ⟨v, hv⟩ : ∃ v, v = ((Sough.knownK st (known.take k)).map Value.bool)[xn] := ⟨_, rfl⟩
              rw [← hv] at zc
              have zf : wr.frozen? ⟨cb, xn, none⟩ = false := by simp [World.frozen?, HX1.out.cans]
              clear hv hxl hcl hh HXX HX1 HAL
              go_wp2_with fail
              go_roundw
              case rel => exact HR.out
              case measure => simp [intOf]; omega
            · have hb : x < 1 ∨ (n : Int) ≤ x := by
                unfold Sough.Store.has at hh
                rw [Bool.and_eq_true, decide_eq_true_eq, decide_eq_true_eq] at hh
                have := HN.out
                omega
              have HF : Hid ((known.all fun y => st.has y) = false) := Lib.hid (by
                rw [Bool.eq_false_iff]; intro hall
                rw [List.all_eq_true] at hall
                exact hh (by rw [HXX.out]; exact hall _ (List.getElem_mem hlt)))
              have HB := Lib.hid HX1.out.bel
              clear HXX HX1 HAL hh hcl zm
              by_cases hb1 : x < 1
              · clear hb
                go_wp2_with fail
                go_ret2
                first | exact .inr ⟨HF.out, rfl, HB.out⟩ | exact .inr ⟨by simpa using HF.out, rfl, HB.out⟩
              · have hb2 : (n : Int) ≤ x := by omega
                clear hb
                go_wp2_with fail
                go_ret2
                first | exact .inr ⟨HF.out, rfl, HB.out⟩ | exact .inr ⟨by simpa using HF.out, rfl, HB.out⟩
          · obtain rfl : k = known.length := by omega
            have HAL2 : Hid ((known.all fun y => st.has y) = true) := Lib.hid (by have := HAL.out; rwa [List.take_length] at this)
            have HE := Lib.hid (HX1.out.done (by rw [HN.out.2, HN.out.1]) (by rw [hcl, ← HN.out.1, ← HN.out.2]))
            rw [List.take_length] at HE
            clear HX1 HAL hcl zm
            go_wp2_with fail
            go_ret2
            first | exact .inl ⟨HAL2.out, _, _, _, _, _, _, rfl, HE.out⟩ | exact .inl ⟨by simpa using HAL2.out, _, _, _, _, _, _, rfl, HE.out⟩
end Go.Proofs.Ytlfgempjjoclbaa
