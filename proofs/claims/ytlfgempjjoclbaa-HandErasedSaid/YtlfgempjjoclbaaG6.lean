/- Texts YtlfgempjjoclbaaHdOpen .. YtlfgempjjoclbaaHdFixed, joined. What they prove: the contracts of the functions that the law reaches, and plain law. -/
import Derived.Test.YtlfgempjjoclbaaG5
namespace Go.Proofs.Ytlfgempjjoclbaa
open Go.RowKit Go.Maps Go.ChangeMaps
def openC (o : Sough.Opened) : Array Value := #[.int .i64 o.y.ck, .int .i64 o.y.k, .int .i64 o.y.h, .int .u64 o.y.n, .int .i64 o.peer, .int .i64 o.version, .int .u64 o.stamp, .int .i64 o.e, .int .i64 o.ek, .int .i64 o.pub]
def OpenTo (S : List Nat) (w0 : World) (p : Nat) (L : List (Nat × Obj)) (r : Sough.Res Sough.Opened) (e : Ending) (w' : World) : Prop := match r with
  | (s, .ok z) => e = .returned (.tuple #[.agg (openC z), .int .i64 0]) ∧ SF S w0 w' p s L
  | (s, .error er) => e = .returned (.tuple #[.agg #[.int .i64 0, .int .i64 0, .int .i64 0, .int .u64 0, .int .i64 0, .int .i64 0, .int .u64 0, .int .i64 0, .int .i64 0, .int .i64 0], .int .i64 er]) ∧ SF S w0 w' p s L
set_option maxRecDepth 100000 in
theorem open_bad {S : List Nat} {w0 q : World} {p E Pn er : Nat} {ov : Value} {s : Sough.Store} {L L' : List (Nat × Obj)} {tmps : Array Value} {R : Sough.Res Sough.Opened} (h13 : tmps[10]? = some (.pointer (some ⟨Pn, 0, none⟩))) (h14 : tmps[11]? = some (.pointer (some ⟨E, 0, none⟩)))
    (g : SF S w0 q p s L') (hs : ((E, .cells #[ov] 39 (0, 0)) :: (Pn, .cells #[.int .i64 0, .int .i64 0, .int .i64 0, .int .u64 0, .int .i64 0, .int .i64 0, .int .u64 0, .int .i64 0, .int .i64 0, .int .i64 0] 44 (0, 0)) :: L).Sublist L') (hR : (s, .error er) = R) :
    Leaves Try.prog Try.f13 tmps (OpenTo S w0 p L R) [{ target := .fn (.func 26) #[], args := #[.pointer (some ⟨E, 0, none⟩)] }] (.panicking (wrongP er)) q := by
  have F5 := g.sub hs
  have hc := F5.get 0 rfl
  refine door_panic rfl (old := ov) (by simp [World.cell?, hc]) (by simp [World.frozen?, hc]) ?_
  have F7 := (F5.later ((Below.refl _ _).alloc (Nat.le_refl _) (.cells #[.int .i64 er] 120))).set 0 (.int .i64 er)
  have g0 := F7.get 0 rfl
  have g1 := F7.get 1 rfl
  rw [← hR]
  refine ⟨.tuple #[.agg #[.int .i64 0, .int .i64 0, .int .i64 0, .int .u64 0, .int .i64 0, .int .i64 0, .int .u64 0, .int .i64 0, .int .i64 0, .int .i64 0], .int .i64 er], ?_, rfl, ?_⟩
  · simp [results, Try.results13, go_sem, World.cell?, g0, g1, h13, h14]
  · exact F7.sub ((List.sublist_cons_self _ _).trans (List.sublist_cons_self _ _))
def PeersIn (L : List (Nat × Obj)) (v : Value) (l : List Sough.Peer) : Prop := (l = [] ∧ v = .slice none 0 0) ∨ ∃ g cap T, v = .slice (some ⟨g, 0, none⟩) l.length cap ∧ l.length ≤ cap ∧ cap ≤ 1000000 ∧ (g, .cells (l.flatMap peerL).toArray T (0, 0)) ∈ L
theorem PeersIn.at {S : List Nat} {w0 W : World} {p : Nat} {st : Sough.Store} {L : List (Nat × Obj)} {v : Value} {l : List Sough.Peer} (hv : PeersIn L v l) (h : SF S w0 W p st L) : PeersAt W v l := by
  rcases hv with hv | ⟨g, cap, T, h1, h2, h3, h4⟩
  · exact .inl hv
  · exact .inr ⟨g, cap, T, h1, h2, h3, (h.blk _ h4).1⟩
theorem peers_psk {w : World} {g : Nat} {l : List Sough.Peer} {T : TypeId} (h : w.heap[g]? = some (.cells (l.flatMap peerL).toArray T (0, 0))) {i sl : Nat} (hi : i < l.length) (hs : sl < 2) :
    w.cell? ⟨g, i * 4 + 2 + sl, none⟩ = some (.int .i64 ((l.getD i ⟨⟨0, 0⟩, 0, 0⟩).psk (sl : Int))) := by
  obtain ⟨_, _, c2, c3⟩ := peers_cells h hi
  rw [List.getD_eq_getElem?_getD, List.getElem?_eq_getElem hi]
  match sl, hs with
  | 0, _ => exact c2
  | 1, _ => exact c3
theorem who_lt {l : List Sough.Peer} {x : Int} {i : Nat} (h : (l.findIdx? fun p => decide (p.pub.dh = x)) = some i) : i < l.length := (List.findIdx?_eq_some_iff_getElem.1 h).1
theorem res1_pos {r : Sough.Store × Nat × Nat} {s : Sough.Store} {er : Nat} (h : Sough.res1 r = (s, .error er)) : er ≠ 0 := by
  unfold Sough.res1 at h
  simp only [Prod.mk.injEq] at h
  obtain ⟨_, h⟩ := h
  split at h
  · cases h
  · rename_i hz; cases h; exact hz
theorem publicsT_pos {st s : Sough.Store} {me : Sough.Pair} {er : Nat} (h : Sough.publicsT st me = (s, .error er)) : er ≠ 0 := by
  unfold Sough.publicsT at h
  obtain ⟨s1, r1, h1⟩ : ∃ s r, Sough.publicT st me.dh = (s, r) := ⟨_, _, rfl⟩
  rw [h1] at h
  rcases r1 with e1 | x1
  · simp only [Sough.bnd, Prod.mk.injEq, Except.error.injEq] at h
    rw [← h.2]; exact res1_pos h1
  · simp only [Sough.bnd] at h
    obtain ⟨s2, r2, h2⟩ : ∃ s r, Sough.wrappingT s1 me.kem = (s, r) := ⟨_, _, rfl⟩
    rw [h2] at h
    rcases r2 with e2 | x2
    · simp only [Prod.mk.injEq, Except.error.injEq] at h
      rw [← h.2]; exact res1_pos h2
    · simp at h
theorem publicsT_name {st s : Sough.Store} {me z : Sough.Pair} (h : st.Ok) (ha : Sough.Int64 me.dh) (hb : Sough.Int64 me.kem) (hf : Sough.publicsT st me = (s, .ok z)) : Sough.Int64 z.dh ∧ Sough.Int64 z.kem := by
  unfold Sough.publicsT at hf
  obtain ⟨s1, x1, h1, hf⟩ := bnd_ok hf
  obtain ⟨s2, x2, h2, hf⟩ := bnd_ok hf
  simp only [Prod.mk.injEq, Except.ok.injEq] at hf
  obtain ⟨rfl, rfl⟩ := hf
  have o1 : s1.Ok := by
    obtain ⟨n, e, _⟩ := Sough.res1_ok h1
    have := Sough.Store.Ok.put (t := ⟨3, [], 0, me.dh, 0, 0⟩) h (Sough.wf_of (by omega) (by simp) (by omega) ha Sough.i64_zero Sough.i64_zero)
    unfold Sough.dhPublic at e
    rw [e] at this; exact this
  exact ⟨Sough.publicT_name h h1, Sough.wrappingT_name o1 h2⟩
theorem readT_len {st s : Sough.Store} {x : Int} {l : List UInt8} (h : st.Ok) (hf : Sough.readT st x = (s, .ok l)) : l.length ≤ 9223372036854775807 := by
  unfold Sough.readT at hf
  split at hf
  · simp only [Prod.mk.injEq, Except.ok.injEq] at hf
    obtain ⟨rfl, rfl⟩ := hf
    exact (Sough.at_wf h x).s
  · simp at hf
theorem init_slot {m : Sough.Msg} (hk : m.v 0 = 1) (hr : m.right = true) : ∃ sl : Nat, m.v 4 = sl ∧ sl < 2 := by
  unfold Sough.Msg.right at hr
  rw [hk, Bool.and_eq_true, Bool.and_eq_true, List.all_eq_true] at hr
  have := hr.1.2 ⟨4, 0, 1⟩ (by decide)
  unfold Sough.fldOk at this
  simp at this
  exact ⟨(m.v 4).toNat, by omega, by omega⟩
section
variable {S : List Nat} {w0 W : World} {p : Nat} {st : Sough.Store} {A B : List (Nat × Obj)}
theorem SF.m10 {k : Nat} {T : TypeId} {a0 a1 a2 a3 a4 a5 a6 a7 a8 a9 : Value} (h : SF S w0 W p st (A ++ (k, .cells #[a0, a1, a2, a3, a4, a5, a6, a7, a8, a9] T (0, 0)) :: B)) (v0 v1 v2 v3 v4 v5 v6 v7 v8 v9 : Value) : SF S w0 ((((((((((W.setCell ⟨k, 0, none⟩ v0).setCell ⟨k, 1, none⟩ v1).setCell ⟨k, 2, none⟩ v2).setCell ⟨k, 3, none⟩ v3).setCell ⟨k, 4, none⟩ v4).setCell ⟨k, 5, none⟩ v5).setCell ⟨k, 6, none⟩ v6).setCell ⟨k, 7, none⟩ v7).setCell ⟨k, 8, none⟩ v8).setCell ⟨k, 9, none⟩ v9) p st (A ++ (k, .cells #[v0, v1, v2, v3, v4, v5, v6, v7, v8, v9] T (0, 0)) :: B) := by
  have := (SF.setMid (SF.setMid (SF.setMid (SF.setMid (SF.setMid (SF.setMid (SF.setMid (SF.setMid (SF.setMid (SF.setMid h 0 v0) 1 v1) 2 v2) 3 v3) 4 v4) 5 v5) 6 v6) 7 v7) 8 v8) 9 v9)
  simpa only [List.setIfInBounds_toArray, List.set_cons_succ, List.set_cons_zero] using this
end
def openI (S : List Nat) (w0 : World) (p t : Nat) (s0 s1 : Sough.Store) (y0 y1 : Sough.Sym) (L : List (Nat × Obj)) : Nat → World → Prop
  | 0, x => SF S w0 x p s0 ((t, talkC p y0) :: L)
  | _ + 1, x => SF S w0 x p s1 ((t, talkC p y1) :: L)
theorem openI_any {S : List Nat} {w0 x : World} {p t i : Nat} {s0 s1 : Sough.Store} {y0 y1 : Sough.Sym} {L : List (Nat × Obj)} (h : openI S w0 p t s0 s1 y0 y1 L i x) : ∃ s y, SF S w0 x p s ((t, talkC p y) :: L) := by
  cases i with
  | zero => exact ⟨_, _, h⟩
  | succ i => exact ⟨_, _, h⟩
theorem openI_later {S : List Nat} {w0 x y : World} {p t i : Nat} {s0 s1 : Sough.Store} {y0 y1 : Sough.Sym} {L : List (Nat × Obj)} (h : openI S w0 p t s0 s1 y0 y1 L i x) (hb : Below x.heap.size x y) : openI S w0 p t s0 s1 y0 y1 L i y := by
  cases i with
  | zero => exact SF.later h hb
  | succ i => exact SF.later h hb
def xS (y : Sough.Sym) (i v e ek pub : Int) (n : Nat) : Nat → Array Value
  | 0 => #[.int .i64 0, .int .i64 0, .int .i64 0, .int .u64 0, .int .i64 i, .int .i64 v, .int .u64 0, .int .i64 e, .int .i64 ek, .int .i64 pub]
  | 1 => #[.int .i64 0, .int .i64 0, .int .i64 0, .int .u64 0, .int .i64 i, .int .i64 v, .int .u64 n, .int .i64 e, .int .i64 ek, .int .i64 pub]
  | _ + 2 => #[.int .i64 y.ck, .int .i64 y.k, .int .i64 y.h, .int .u64 y.n, .int .i64 i, .int .i64 v, .int .u64 n, .int .i64 e, .int .i64 ek, .int .i64 pub]
set_option maxRecDepth 100000 in
set_option maxHeartbeats 1600000 in
theorem open_kind {S : List Nat} {w0 W : World} {p : Nat} {st : Sough.Store} {L : List (Nat × Obj)} {me : Sough.Pair} {peers : List Sough.Peer} {v : Value} {text : List UInt8} {m : Sough.Msg} {R : Sough.Res Sough.Opened} (h : SF S w0 W p st L) (hme : Sough.Int64 me.dh ∧ Sough.Int64 me.kem) (hv : PeersIn L v peers) (hpe : ∀ q ∈ peers, Sough.Int64 q.p0 ∧ Sough.Int64 q.p1) (ht : text.length ≤ maxLen) (hm : m.Wf) (hk : (m.v 0 == 1) = false) (hf : Sough.openedT st me peers text m = R) :
    Calls Try.prog 13 #[.pointer (some ⟨p, 0, none⟩), .agg #[.int .i64 me.dh, .int .i64 me.kem], v, .string ⟨text.toArray⟩, .agg #[.int .i64 (m.v 0), .int .u64 (m.v 1), .int .u64 (m.v 2), .string ⟨m.offer.toArray⟩, .int .i64 (m.v 4), .int .i64 (m.v 5), .int .i64 (m.v 6), .int .i64 (m.v 7), .int .i64 (m.v 8), .int .i64 (m.v 9), .int .i64 (m.v 10), .int .u64 (m.v 11), .int .u64 (m.v 12)]] W (OpenTo S w0 p L R) := by
  have hq : (st, .error 3) = R := by
    rw [← hf]; unfold Sough.openedT Sough.need
    have : ¬ m.v 0 = 1 := by simpa using hk
    simp [this, Sough.bnd]
  have HQ := Lib.hid hq
  have HME := Lib.hid hme; have HM := Lib.hid hm; have HT := Lib.hid ht; have HPE := Lib.hid hpe; have HV := Lib.hid hv
  have F0 := Lib.hid ((((h.alloc (.cells #[.int .i64 me.dh, .int .i64 me.kem] 24)).alloc (.cells #[.int .i64 (m.v 0), .int .u64 (m.v 1), .int .u64 (m.v 2), .string ⟨m.offer.toArray⟩, .int .i64 (m.v 4), .int .i64 (m.v 5), .int .i64 (m.v 6), .int .i64 (m.v 7), .int .i64 (m.v 8), .int .i64 (m.v 9), .int .i64 (m.v 10), .int .u64 (m.v 11), .int .u64 (m.v 12)] 34)).alloc (.cells #[.int .i64 0, .int .i64 0, .int .i64 0, .int .u64 0, .int .i64 0, .int .i64 0, .int .u64 0, .int .i64 0, .int .i64 0, .int .i64 0] 44)).alloc (.cells #[.int .i64 0] 39))
  simp only [World.size_alloc] at F0
  clear h hme hv hpe ht hm hf hq
  go_enter_defers Try.func13, Try.ntmps13
  go_wp2_with fail
  refine (need_er (er := 3) (by omega) _).mono ?_
  rintro e w1 ⟨rfl, rfl⟩
  exact open_bad (ov := .int .i64 0) rfl rfl F0.out (by repeat (first | with_reducible exact List.Sublist.refl _ | with_reducible refine List.Sublist.cons_cons _ ?_ | refine List.Sublist.cons _ ?_)) HQ.out
set_option maxRecDepth 100000 in
set_option maxHeartbeats 1600000 in
theorem open_wrong {S : List Nat} {w0 W : World} {p : Nat} {st : Sough.Store} {L : List (Nat × Obj)} {me : Sough.Pair} {peers : List Sough.Peer} {v : Value} {text : List UInt8} {m : Sough.Msg} {R : Sough.Res Sough.Opened} (h : SF S w0 W p st L) (hme : Sough.Int64 me.dh ∧ Sough.Int64 me.kem) (hv : PeersIn L v peers) (hpe : ∀ q ∈ peers, Sough.Int64 q.p0 ∧ Sough.Int64 q.p1) (ht : text.length ≤ maxLen) (hm : m.Wf) (hk : (m.v 0 == 1) = true) (hr : m.right = false) (hf : Sough.openedT st me peers text m = R) :
    Calls Try.prog 13 #[.pointer (some ⟨p, 0, none⟩), .agg #[.int .i64 me.dh, .int .i64 me.kem], v, .string ⟨text.toArray⟩, .agg #[.int .i64 (m.v 0), .int .u64 (m.v 1), .int .u64 (m.v 2), .string ⟨m.offer.toArray⟩, .int .i64 (m.v 4), .int .i64 (m.v 5), .int .i64 (m.v 6), .int .i64 (m.v 7), .int .i64 (m.v 8), .int .i64 (m.v 9), .int .i64 (m.v 10), .int .u64 (m.v 11), .int .u64 (m.v 12)]] W (OpenTo S w0 p L R) := by
  have hq : (st, .error 3) = R := by
    rw [← hf]; unfold Sough.openedT Sough.need
    simp [hr, Sough.bnd]
  have HQ := Lib.hid hq
  have CR := Lib.hid (right_as hr)
  have HME := Lib.hid hme; have HM := Lib.hid hm; have HT := Lib.hid ht; have HPE := Lib.hid hpe; have HV := Lib.hid hv
  have F0 := Lib.hid ((((h.alloc (.cells #[.int .i64 me.dh, .int .i64 me.kem] 24)).alloc (.cells #[.int .i64 (m.v 0), .int .u64 (m.v 1), .int .u64 (m.v 2), .string ⟨m.offer.toArray⟩, .int .i64 (m.v 4), .int .i64 (m.v 5), .int .i64 (m.v 6), .int .i64 (m.v 7), .int .i64 (m.v 8), .int .i64 (m.v 9), .int .i64 (m.v 10), .int .u64 (m.v 11), .int .u64 (m.v 12)] 34)).alloc (.cells #[.int .i64 0, .int .i64 0, .int .i64 0, .int .u64 0, .int .i64 0, .int .i64 0, .int .u64 0, .int .i64 0, .int .i64 0, .int .i64 0] 44)).alloc (.cells #[.int .i64 0] 39))
  simp only [World.size_alloc] at F0
  clear h hme hv hpe ht hm hf hq hr
  unfold msgC at CR
  go_enter_defers Try.func13, Try.ntmps13
  go_wp2_with fail
  refine (CR.out _ HM.out).mono ?_
  rintro e w1 ⟨rfl, hb1⟩
  have G0 := Lib.hid (F0.out.later hb1)
  clear hb1 F0
  go_wp2_with fail
  refine (need_er (er := 3) (by omega) _).mono ?_
  rintro e w2 ⟨rfl, rfl⟩
  exact open_bad (ov := .int .i64 0) rfl rfl G0.out (by repeat (first | with_reducible exact List.Sublist.refl _ | with_reducible refine List.Sublist.cons_cons _ ?_ | refine List.Sublist.cons _ ?_)) HQ.out
set_option maxRecDepth 100000 in
set_option maxHeartbeats 6400000 in
theorem open_right {S : List Nat} {w0 W : World} {p : Nat} {st : Sough.Store} {L : List (Nat × Obj)} {me : Sough.Pair} {peers : List Sough.Peer} {v : Value} {text : List UInt8} {m : Sough.Msg} {R : Sough.Res Sough.Opened} (h : SF S w0 W p st L) (hme : Sough.Int64 me.dh ∧ Sough.Int64 me.kem) (hv : PeersIn L v peers) (hpe : ∀ q ∈ peers, Sough.Int64 q.p0 ∧ Sough.Int64 q.p1) (ht : text.length ≤ maxLen) (hm : m.Wf) {sl : Nat} (hk : (m.v 0 == 1) = true) (hr : m.right = true) (h4 : m.v 4 = (sl : Int)) (hsl : sl < 2) (hf : Sough.openedT st me peers text m = R) :
    Calls Try.prog 13 #[.pointer (some ⟨p, 0, none⟩), .agg #[.int .i64 me.dh, .int .i64 me.kem], v, .string ⟨text.toArray⟩, .agg #[.int .i64 (m.v 0), .int .u64 (m.v 1), .int .u64 (m.v 2), .string ⟨m.offer.toArray⟩, .int .i64 (m.v 4), .int .i64 (m.v 5), .int .i64 (m.v 6), .int .i64 (m.v 7), .int .i64 (m.v 8), .int .i64 (m.v 9), .int .i64 (m.v 10), .int .u64 (m.v 11), .int .u64 (m.v 12)]] W (OpenTo S w0 p L R) := by
  obtain ⟨bv, ber, hbo⟩ : ∃ bv ber, Sough.bestO text m.offer = (bv, ber) := ⟨_, _, rfl⟩
  have CBO := Lib.hid fun w => best_any hbo ht hm.text w
  have hq := hf
  unfold Sough.openedT at hq
  simp only [hr, show decide (m.v 0 = 1) = true by simpa using hk, Bool.true_and, Sough.need, if_true, Sough.bnd, hbo, h4] at hq
  have HR0 := Lib.hid hq
  have CR := right_as hr
  unfold msgC at CR
  rw [h4] at CR
  have CR := Lib.hid CR
  rw [h4]
  have HSL := Lib.hid hsl
  have HME := Lib.hid hme; have HM := Lib.hid hm; have HT := Lib.hid ht; have HPE := Lib.hid hpe; have HV := Lib.hid hv
  have F0 := Lib.hid ((((h.alloc (.cells #[.int .i64 me.dh, .int .i64 me.kem] 24)).alloc (.cells #[.int .i64 (m.v 0), .int .u64 (m.v 1), .int .u64 (m.v 2), .string ⟨m.offer.toArray⟩, .int .i64 (sl : Int), .int .i64 (m.v 5), .int .i64 (m.v 6), .int .i64 (m.v 7), .int .i64 (m.v 8), .int .i64 (m.v 9), .int .i64 (m.v 10), .int .u64 (m.v 11), .int .u64 (m.v 12)] 34)).alloc (.cells #[.int .i64 0, .int .i64 0, .int .i64 0, .int .u64 0, .int .i64 0, .int .i64 0, .int .u64 0, .int .i64 0, .int .i64 0, .int .i64 0] 44)).alloc (.cells #[.int .i64 0] 39))
  simp only [World.size_alloc] at F0
  clear h hme hv hpe ht hm hf hq hr hbo
  go_enter_defers Try.func13, Try.ntmps13
  go_wp2_with fail
  refine (CR.out _ HM.out).mono ?_
  rintro e w1 ⟨rfl, hb1⟩
  have G0 := Lib.hid (F0.out.later hb1)
  clear hb1 F0 CR
  go_wp2_with fail
  refine (need_ok _).mono ?_
  rintro e w2 ⟨rfl, rfl⟩
  have r := G0.out.mem.rules; simp only [AllCells, CellsAt, Nat.zero_add, Nat.reduceAdd, talkC] at r
  go_wp2_with fail
  clear r
  refine (CBO.out _).mono ?_
  rintro e w2 ⟨rfl, hb2⟩
  have G1 := Lib.hid (G0.out.later hb2)
  have G2 : Hid (SF S w0 (w2.setCell ⟨W.heap.size + 1 + 1 + 1, 0, none⟩ (.int .i64 (ber : Int))) p st ((W.heap.size + 1 + 1 + 1, .cells #[.int .i64 (ber : Int)] 39 (0, 0)) :: (W.heap.size + 1 + 1, .cells #[.int .i64 0, .int .i64 0, .int .i64 0, .int .u64 0, .int .i64 0, .int .i64 0, .int .u64 0, .int .i64 0, .int .i64 0, .int .i64 0] 44 (0, 0)) :: (W.heap.size + 1, .cells #[.int .i64 (m.v 0), .int .u64 (m.v 1), .int .u64 (m.v 2), .string ⟨m.offer.toArray⟩, .int .i64 (sl : Int), .int .i64 (m.v 5), .int .i64 (m.v 6), .int .i64 (m.v 7), .int .i64 (m.v 8), .int .i64 (m.v 9), .int .i64 (m.v 10), .int .u64 (m.v 11), .int .u64 (m.v 12)] 34 (0, 0)) :: (W.heap.size, .cells #[.int .i64 me.dh, .int .i64 me.kem] 24 (0, 0)) :: L)) := Lib.hid (SF.set G1.out 0 (.int .i64 (ber : Int)))
  clear hb2 G0 CBO
  have r := G1.out.mem.rules; simp only [AllCells, CellsAt, Nat.zero_add, Nat.reduceAdd, talkC] at r
  have r2 := G2.out.mem.rules; simp only [AllCells, CellsAt, Nat.zero_add, Nat.reduceAdd, talkC] at r2
  go_wp2_with fail
  clear r r2 G1
  by_cases hbe : ber = 0
  rotate_left
  · refine (must_er hbe _).mono ?_
    rintro e w3 ⟨rfl, rfl⟩
    exact open_bad (ov := .int .i64 (ber : Int)) rfl rfl G2.out (by repeat (first | with_reducible exact List.Sublist.refl _ | with_reducible refine List.Sublist.cons_cons _ ?_ | refine List.Sublist.cons _ ?_)) (by simpa [hbe] using HR0.out)
  subst hbe
  have hq := HR0.out
  simp only [decide_true, if_true] at hq
  have HR1 := Lib.hid hq
  clear hq HR0
  have G2 : Hid (SF S w0 (w2.setCell ⟨W.heap.size + 1 + 1 + 1, 0, none⟩ (.int .i64 0)) p st ((W.heap.size + 1 + 1 + 1, .cells #[.int .i64 0] 39 (0, 0)) :: (W.heap.size + 1 + 1, .cells #[.int .i64 0, .int .i64 0, .int .i64 0, .int .u64 0, .int .i64 0, .int .i64 0, .int .u64 0, .int .i64 0, .int .i64 0, .int .i64 0] 44 (0, 0)) :: (W.heap.size + 1, .cells #[.int .i64 (m.v 0), .int .u64 (m.v 1), .int .u64 (m.v 2), .string ⟨m.offer.toArray⟩, .int .i64 (sl : Int), .int .i64 (m.v 5), .int .i64 (m.v 6), .int .i64 (m.v 7), .int .i64 (m.v 8), .int .i64 (m.v 9), .int .i64 (m.v 10), .int .u64 (m.v 11), .int .u64 (m.v 12)] 34 (0, 0)) :: (W.heap.size, .cells #[.int .i64 me.dh, .int .i64 me.kem] 24 (0, 0)) :: L)) := G2
  refine (must_ok _).mono ?_
  rintro e w3 ⟨rfl, rfl⟩
  have r := G2.out.mem.rules; simp only [AllCells, CellsAt, Nat.zero_add, Nat.reduceAdd, talkC] at r
  go_wp2_with fail
  clear r
  have HO0 := Lib.hid G2.out.ok
  obtain ⟨s1, r1, h1⟩ : ∃ s r, Sough.publicsT st me = (s, r) := ⟨_, _, rfl⟩
  have CP := publicsT_any (a := me.dh) (b := me.kem) G2.out HME.out.1 HME.out.2 h1
  rcases r1 with er | pb
  · have hq := HR1.out; simp only [h1] at hq
    refine CP.mono ?_
    rintro e wP ⟨rfl, g⟩
    have g2 : SF S w0 ((wP.alloc (.cells #[.int .i64 0, .int .i64 0] 24)).setCell ⟨W.heap.size + 1 + 1 + 1, 0, none⟩ (.int .i64 (er : Int))) p s1 ((wP.heap.size, .cells #[.int .i64 0, .int .i64 0] 24 (0, 0)) :: (W.heap.size + 1 + 1 + 1, .cells #[.int .i64 (er : Int)] 39 (0, 0)) :: (W.heap.size + 1 + 1, .cells #[.int .i64 0, .int .i64 0, .int .i64 0, .int .u64 0, .int .i64 0, .int .i64 0, .int .u64 0, .int .i64 0, .int .i64 0, .int .i64 0] 44 (0, 0)) :: (W.heap.size + 1, .cells #[.int .i64 (m.v 0), .int .u64 (m.v 1), .int .u64 (m.v 2), .string ⟨m.offer.toArray⟩, .int .i64 (sl : Int), .int .i64 (m.v 5), .int .i64 (m.v 6), .int .i64 (m.v 7), .int .i64 (m.v 8), .int .i64 (m.v 9), .int .i64 (m.v 10), .int .u64 (m.v 11), .int .u64 (m.v 12)] 34 (0, 0)) :: (W.heap.size, .cells #[.int .i64 me.dh, .int .i64 me.kem] 24 (0, 0)) :: L) := (g.alloc (.cells #[.int .i64 0, .int .i64 0] 24)).setMid (A := [_]) 0 (.int .i64 (er : Int))
    have hne := publicsT_pos h1
    have G35 := Lib.hid (g.alloc (.cells #[.int .i64 0, .int .i64 0] 24))
    have G3 := Lib.hid g; have G4 := Lib.hid g2; have HQ := Lib.hid hq; have HNE := Lib.hid hne
    clear g g2 hq hne h1 CP
    have r := G3.out.mem.rules; simp only [AllCells, CellsAt, Nat.zero_add, Nat.reduceAdd, talkC] at r
    have r3 := G35.out.mem.rules; simp only [AllCells, CellsAt, Nat.zero_add, Nat.reduceAdd, talkC] at r3
    have r2 := G4.out.mem.rules; simp only [AllCells, CellsAt, Nat.zero_add, Nat.reduceAdd, talkC] at r2
    go_wp2_with fail
    clear r r2 r3
    refine (must_er HNE.out _).mono ?_
    rintro e w4 ⟨rfl, rfl⟩
    exact open_bad (ov := .int .i64 (er : Int)) rfl rfl G4.out (by repeat (first | with_reducible exact List.Sublist.refl _ | with_reducible refine List.Sublist.cons_cons _ ?_ | refine List.Sublist.cons _ ?_)) HQ.out
  have hq := HR1.out; simp only [h1] at hq
  have HR2 := Lib.hid hq
  clear hq HR1
  have HPB := Lib.hid (publicsT_name HO0.out HME.out.1 HME.out.2 h1)
  refine CP.mono ?_
  rintro e wP ⟨rfl, g⟩
  have G3 := Lib.hid g
  have G35 := Lib.hid (g.alloc (.cells #[.int .i64 pb.dh, .int .i64 pb.kem] 24))
  have G4 : Hid (SF S w0 ((wP.alloc (.cells #[.int .i64 pb.dh, .int .i64 pb.kem] 24)).setCell ⟨W.heap.size + 1 + 1 + 1, 0, none⟩ (.int .i64 0)) p s1 ((wP.heap.size, .cells #[.int .i64 pb.dh, .int .i64 pb.kem] 24 (0, 0)) :: (W.heap.size + 1 + 1 + 1, .cells #[.int .i64 0] 39 (0, 0)) :: (W.heap.size + 1 + 1, .cells #[.int .i64 0, .int .i64 0, .int .i64 0, .int .u64 0, .int .i64 0, .int .i64 0, .int .u64 0, .int .i64 0, .int .i64 0, .int .i64 0] 44 (0, 0)) :: (W.heap.size + 1, .cells #[.int .i64 (m.v 0), .int .u64 (m.v 1), .int .u64 (m.v 2), .string ⟨m.offer.toArray⟩, .int .i64 (sl : Int), .int .i64 (m.v 5), .int .i64 (m.v 6), .int .i64 (m.v 7), .int .i64 (m.v 8), .int .i64 (m.v 9), .int .i64 (m.v 10), .int .u64 (m.v 11), .int .u64 (m.v 12)] 34 (0, 0)) :: (W.heap.size, .cells #[.int .i64 me.dh, .int .i64 me.kem] 24 (0, 0)) :: L)) := Lib.hid ((g.alloc (.cells #[.int .i64 pb.dh, .int .i64 pb.kem] 24)).setMid (A := [_]) 0 (.int .i64 0))
  clear g h1 CP G2
  have r := G3.out.mem.rules; simp only [AllCells, CellsAt, Nat.zero_add, Nat.reduceAdd, talkC] at r
  have r3 := G35.out.mem.rules; simp only [AllCells, CellsAt, Nat.zero_add, Nat.reduceAdd, talkC] at r3
  have r2 := G4.out.mem.rules; simp only [AllCells, CellsAt, Nat.zero_add, Nat.reduceAdd, talkC] at r2
  go_wp2_with fail
  refine (must_ok _).mono ?_
  rintro e w4 ⟨rfl, rfl⟩
  go_wp2_with fail
  clear r r2 r3 G3 G35
  have HO1 := Lib.hid G4.out.ok
  have hs01 : ((sl : Int) = 0 ∨ (sl : Int) = 1) := by have := HSL.out; omega
  have HS01 := Lib.hid hs01
  clear hs01
  obtain ⟨s2, r2, h2⟩ : ∃ s r, Sough.firstT s1 m.offer (sl : Int) pb = (s, r) := ⟨_, _, rfl⟩
  have CF := first_any (a := pb.dh) (b := pb.kem) G4.out HM.out.text HS01.out HPB.out.1 HPB.out.2 h2
  rcases r2 with er | y2
  · have hq := HR2.out; simp only [h2] at hq
    refine CF.mono ?_
    rintro e w5 ⟨rfl, g⟩
    exact open_bad (ov := .int .i64 0) rfl rfl g (by repeat (first | with_reducible exact List.Sublist.refl _ | with_reducible refine List.Sublist.cons_cons _ ?_ | refine List.Sublist.cons _ ?_)) hq
  have hq := HR2.out; simp only [h2] at hq
  have HR3 := Lib.hid hq
  clear hq HR2
  have HY2 := Lib.hid (firstT_wf HO1.out HM.out.text HPB.out.1 HPB.out.2 h2)
  refine CF.mono ?_
  rintro e w5 ⟨t, rfl, g⟩
  have F1 := Lib.hid g
  clear g h2 G4 CF
  have r := F1.out.mem.rules; simp only [AllCells, CellsAt, Nat.zero_add, Nat.reduceAdd, talkC] at r
  have HE6 := Lib.hid (show Sough.Int64 (m.v 6) from HM.out.ints 6 (by simp))
  have HE7 := Lib.hid (show Sough.Int64 (m.v 7) from HM.out.ints 7 (by simp))
  have HE8 := Lib.hid (show Sough.Int64 (m.v 8) from HM.out.ints 8 (by simp))
  have HE9 := Lib.hid (show Sough.Int64 (m.v 9) from HM.out.ints 9 (by simp))
  have HE10 := Lib.hid (show Sough.Int64 (m.v 10) from HM.out.ints 10 (by simp))
  go_wp2_with fail
  clear r
  have HO2 := Lib.hid F1.out.ok
  obtain ⟨s3, r3, h3⟩ : ∃ s r, Sough.hashT s2 y2 (m.v 6) = (s, r) := ⟨_, _, rfl⟩
  rcases r3 with er | y3
  · have hq := HR3.out; simp only [h3, Sough.bnd] at hq
    refine (hashT_er F1.out HY2.out HE6.out h3).mono ?_
    rintro e w6 ⟨rfl, _, g⟩
    exact open_bad (ov := .int .i64 0) rfl rfl g (by repeat (first | with_reducible exact List.Sublist.refl _ | with_reducible refine List.Sublist.cons_cons _ ?_ | refine List.Sublist.cons _ ?_)) hq
  have hq := HR3.out; simp only [h3, Sough.bnd] at hq
  have HR4 := Lib.hid hq
  clear hq HR3
  have Hh3 := Lib.hid h3
  refine (hashT_ok F1.out HY2.out HE6.out h3).mono ?_
  rintro e w6 ⟨rfl, g⟩
  have F2 := Lib.hid g
  clear g h3 F1
  have r := F2.out.mem.rules; simp only [AllCells, CellsAt, Nat.zero_add, Nat.reduceAdd, talkC] at r
  go_wp2_with fail
  clear r
  have HY3 := Lib.hid (Sough.hashT_wf HO2.out HY2.out Hh3.out)
  have HO3 := Lib.hid F2.out.ok
  obtain ⟨s4, r4, h4⟩ : ∃ s r, Sough.hashT s3 y3 (m.v 7) = (s, r) := ⟨_, _, rfl⟩
  rcases r4 with er | y4
  · have hq := HR4.out; simp only [h4, Sough.bnd] at hq
    refine (hashT_er F2.out HY3.out HE7.out h4).mono ?_
    rintro e w7 ⟨rfl, _, g⟩
    exact open_bad (ov := .int .i64 0) rfl rfl g (by repeat (first | with_reducible exact List.Sublist.refl _ | with_reducible refine List.Sublist.cons_cons _ ?_ | refine List.Sublist.cons _ ?_)) hq
  have hq := HR4.out; simp only [h4, Sough.bnd] at hq
  have HR5 := Lib.hid hq
  clear hq HR4
  have Hh4 := Lib.hid h4
  refine (hashT_ok F2.out HY3.out HE7.out h4).mono ?_
  rintro e w7 ⟨rfl, g⟩
  have F3 := Lib.hid g
  clear g h4 F2
  have r := F3.out.mem.rules; simp only [AllCells, CellsAt, Nat.zero_add, Nat.reduceAdd, talkC] at r
  go_wp2_with fail
  clear r
  have HY4 := Lib.hid (Sough.hashT_wf HO3.out HY3.out Hh4.out)
  have HO4 := Lib.hid F3.out.ok
  obtain ⟨s5, r5, h5⟩ : ∃ s r, Sough.agreedT s4 me.dh (m.v 6) = (s, r) := ⟨_, _, rfl⟩
  rcases r5 with er | x5
  · have hq := HR5.out; simp only [h5, Sough.bnd] at hq
    refine (agreedT_er F3.out HME.out.1 h5).mono ?_
    rintro e w8 ⟨rfl, _, g⟩
    exact open_bad (ov := .int .i64 0) rfl rfl g (by repeat (first | with_reducible exact List.Sublist.refl _ | with_reducible refine List.Sublist.cons_cons _ ?_ | refine List.Sublist.cons _ ?_)) hq
  have hq := HR5.out; simp only [h5, Sough.bnd] at hq
  have HR6 := Lib.hid hq
  clear hq HR5
  have Hh5 := Lib.hid h5
  refine (agreedT_ok F3.out HME.out.1 h5).mono ?_
  rintro e w8 ⟨rfl, g⟩
  have F4 := Lib.hid g
  clear g h5 F3
  have r := F4.out.mem.rules; simp only [AllCells, CellsAt, Nat.zero_add, Nat.reduceAdd, talkC] at r
  go_wp2_with fail
  clear r
  have HX5 := Lib.hid (Sough.agreedT_name HO4.out Hh5.out)
  have HO5 := Lib.hid F4.out.ok
  obtain ⟨s6, r6, h6⟩ : ∃ s r, Sough.mixT s5 y4 x5 = (s, r) := ⟨_, _, rfl⟩
  rcases r6 with er | y6
  · have hq := HR6.out; simp only [h6, Sough.bnd] at hq
    refine (mixT_er F4.out HY4.out HX5.out h6).mono ?_
    rintro e w9 ⟨rfl, _, g⟩
    exact open_bad (ov := .int .i64 0) rfl rfl g (by repeat (first | with_reducible exact List.Sublist.refl _ | with_reducible refine List.Sublist.cons_cons _ ?_ | refine List.Sublist.cons _ ?_)) hq
  have hq := HR6.out; simp only [h6, Sough.bnd] at hq
  have HR7 := Lib.hid hq
  clear hq HR6
  have Hh6 := Lib.hid h6
  refine (mixT_ok F4.out HY4.out HX5.out h6).mono ?_
  rintro e w9 ⟨rfl, g⟩
  have F5 := Lib.hid g
  clear g h6 F4
  have r := F5.out.mem.rules; simp only [AllCells, CellsAt, Nat.zero_add, Nat.reduceAdd, talkC] at r
  go_wp2_with fail
  clear r
  have HY6 := Lib.hid (Sough.mixT_wf HO5.out HY4.out HX5.out Hh6.out)
  have HO6 := Lib.hid F5.out.ok
  obtain ⟨s7, r7, h7⟩ : ∃ s r, Sough.hashT s6 y6 (m.v 8) = (s, r) := ⟨_, _, rfl⟩
  rcases r7 with er | y7
  · have hq := HR7.out; simp only [h7, Sough.bnd] at hq
    refine (hashT_er F5.out HY6.out HE8.out h7).mono ?_
    rintro e w10 ⟨rfl, _, g⟩
    exact open_bad (ov := .int .i64 0) rfl rfl g (by repeat (first | with_reducible exact List.Sublist.refl _ | with_reducible refine List.Sublist.cons_cons _ ?_ | refine List.Sublist.cons _ ?_)) hq
  have hq := HR7.out; simp only [h7, Sough.bnd] at hq
  have HR8 := Lib.hid hq
  clear hq HR7
  have Hh7 := Lib.hid h7
  refine (hashT_ok F5.out HY6.out HE8.out h7).mono ?_
  rintro e w10 ⟨rfl, g⟩
  have F6 := Lib.hid g
  clear g h7 F5
  have r := F6.out.mem.rules; simp only [AllCells, CellsAt, Nat.zero_add, Nat.reduceAdd, talkC] at r
  go_wp2_with fail
  clear r
  have HY7 := Lib.hid (Sough.hashT_wf HO6.out HY6.out Hh7.out)
  have HO7 := Lib.hid F6.out.ok
  obtain ⟨s8, r8, h8⟩ : ∃ s r, Sough.unwrappedT s7 me.kem (m.v 8) = (s, r) := ⟨_, _, rfl⟩
  rcases r8 with er | x8
  · have hq := HR8.out; simp only [h8, Sough.bnd] at hq
    refine (unwrappedT_er F6.out HME.out.2 h8).mono ?_
    rintro e w11 ⟨rfl, _, g⟩
    exact open_bad (ov := .int .i64 0) rfl rfl g (by repeat (first | with_reducible exact List.Sublist.refl _ | with_reducible refine List.Sublist.cons_cons _ ?_ | refine List.Sublist.cons _ ?_)) hq
  have hq := HR8.out; simp only [h8, Sough.bnd] at hq
  have HR9 := Lib.hid hq
  clear hq HR8
  have Hh8 := Lib.hid h8
  refine (unwrappedT_ok F6.out HME.out.2 h8).mono ?_
  rintro e w11 ⟨rfl, g⟩
  have F7 := Lib.hid g
  clear g h8 F6
  have r := F7.out.mem.rules; simp only [AllCells, CellsAt, Nat.zero_add, Nat.reduceAdd, talkC] at r
  go_wp2_with fail
  clear r
  have HX8 := Lib.hid (Sough.unwrappedT_name HO7.out Hh8.out)
  have HO8 := Lib.hid F7.out.ok
  obtain ⟨s9, r9, h9⟩ : ∃ s r, Sough.mixT s8 y7 x8 = (s, r) := ⟨_, _, rfl⟩
  rcases r9 with er | y9
  · have hq := HR9.out; simp only [h9, Sough.bnd] at hq
    refine (mixT_er F7.out HY7.out HX8.out h9).mono ?_
    rintro e wX ⟨rfl, _, g⟩
    exact open_bad (ov := .int .i64 0) rfl rfl g (by repeat (first | with_reducible exact List.Sublist.refl _ | with_reducible refine List.Sublist.cons_cons _ ?_ | refine List.Sublist.cons _ ?_)) hq
  have hq := HR9.out; simp only [h9, Sough.bnd] at hq
  have HR10 := Lib.hid hq
  clear hq HR9
  have Hh9 := Lib.hid h9
  refine (mixT_ok F7.out HY7.out HX8.out h9).mono ?_
  rintro e wX ⟨rfl, g⟩
  have F8 := Lib.hid g
  clear g h9 F7
  have HY9 := Lib.hid (Sough.mixT_wf HO8.out HY7.out HX8.out Hh9.out)
  have F9 := Lib.hid ((F8.out.alloc (.cells #[.int .i64 0, .int .i64 0, .int .i64 0, .int .u64 0, .int .i64 0, .int .i64 (bv : Int), .int .u64 0, .int .i64 (m.v 6), .int .i64 (m.v 7), .int .i64 0] 44)).perm (List.Perm.swap _ _ _))
  have r := F8.out.mem.rules; simp only [AllCells, CellsAt, Nat.zero_add, Nat.reduceAdd, talkC] at r
  have r2 := F9.out.mem.rules; simp only [AllCells, CellsAt, Nat.zero_add, Nat.reduceAdd, talkC] at r2
  go_wp2_with fail
  clear r r2 F8
  have HO9 := Lib.hid F9.out.ok
  obtain ⟨s10, r10, h10⟩ : ∃ s r, Sough.openT s9 y9 (m.v 9) = (s, r) := ⟨_, _, rfl⟩
  rcases r10 with er | yp
  · have hq := HR10.out; simp only [h10, Sough.bnd] at hq
    refine (openT_er F9.out HY9.out HE9.out h10).mono ?_
    rintro e w13 ⟨rfl, _, g⟩
    exact open_bad (ov := .int .i64 0) rfl rfl g (by repeat (first | with_reducible exact List.Sublist.refl _ | with_reducible refine List.Sublist.cons_cons _ ?_ | refine List.Sublist.cons _ ?_)) hq
  have hq := HR10.out; simp only [h10, Sough.bnd] at hq
  have HR11 := Lib.hid hq
  clear hq HR10
  have Hh10 := Lib.hid h10
  refine (openT_ok F9.out HY9.out HE9.out h10).mono ?_
  rintro e w13 ⟨rfl, g⟩
  have F10 := Lib.hid g
  clear g h10 F9
  have HY10 := Lib.hid (Sough.openT_wf HO9.out HY9.out Hh10.out)
  have F11 : Hid (SF S w0 (w13.setCell ⟨wX.heap.size, 9, none⟩ (.int .i64 yp.2)) p s10 ((t, talkC p yp.1) :: (wX.heap.size, .cells #[.int .i64 0, .int .i64 0, .int .i64 0, .int .u64 0, .int .i64 0, .int .i64 (bv : Int), .int .u64 0, .int .i64 (m.v 6), .int .i64 (m.v 7), .int .i64 yp.2] 44 (0, 0)) :: _)) := Lib.hid (F10.out.setMid (A := [_]) 9 (.int .i64 yp.2))
  have r := F10.out.mem.rules; simp only [AllCells, CellsAt, Nat.zero_add, Nat.reduceAdd, talkC] at r
  have r2 := F11.out.mem.rules; simp only [AllCells, CellsAt, Nat.zero_add, Nat.reduceAdd, talkC] at r2
  go_wp2_with fail
  clear r r2 F10
  obtain ⟨ri, hri⟩ : ∃ r, (peers.findIdx? fun p => decide (p.pub.dh = yp.2)) = r := ⟨_, rfl⟩
  have hpa : PeersAt (w13.setCell ⟨wX.heap.size, 9, none⟩ (.int .i64 yp.2)) v peers := HV.out.at (F11.out.sub (by repeat (first | with_reducible exact List.Sublist.refl _ | with_reducible refine List.Sublist.cons_cons _ ?_ | refine List.Sublist.cons _ ?_)))
  have hq := HR11.out
  simp only [Sough.whoT, hri] at hq
  have HRI := Lib.hid hri
  have CW := who_any _ hpa hri
  clear hri hpa
  rcases ri with _ | ix
  · refine CW.mono ?_
    rintro e w14 ⟨he, hb⟩
    obtain rfl : e = .panicked (wrongP 5) := he
    exact open_bad (ov := .int .i64 0) rfl rfl (F11.out.later hb) (by repeat (first | with_reducible exact List.Sublist.refl _ | with_reducible refine List.Sublist.cons_cons _ ?_ | refine List.Sublist.cons _ ?_)) hq
  have HR12 := Lib.hid hq
  clear hq HR11
  refine CW.mono ?_
  rintro e w14 ⟨he, hb⟩
  obtain rfl : e = .returned (.int .i64 (ix : Int)) := he
  have F12 := Lib.hid (F11.out.later hb)
  have F13 : Hid (SF S w0 (w14.setCell ⟨wX.heap.size, 4, none⟩ (.int .i64 (ix : Int))) p s10 ((t, talkC p yp.1) :: (wX.heap.size, .cells #[.int .i64 0, .int .i64 0, .int .i64 0, .int .u64 0, .int .i64 (ix : Int), .int .i64 (bv : Int), .int .u64 0, .int .i64 (m.v 6), .int .i64 (m.v 7), .int .i64 yp.2] 44 (0, 0)) :: _)) := Lib.hid (F12.out.setMid (A := [_]) 4 (.int .i64 (ix : Int)))
  clear hb CW F11
  have r := F12.out.mem.rules; simp only [AllCells, CellsAt, Nat.zero_add, Nat.reduceAdd, talkC] at r
  have r2 := F13.out.mem.rules; simp only [AllCells, CellsAt, Nat.zero_add, Nat.reduceAdd, talkC] at r2
  go_wp2_with fail
  clear r r2 F12
  have HO10 := Lib.hid F13.out.ok
  obtain ⟨s15, r15, h15⟩ : ∃ s r, Sough.agreedT s10 me.dh yp.2 = (s, r) := ⟨_, _, rfl⟩
  rcases r15 with er | x15
  · have hq := HR12.out; simp only [h15, Sough.bnd] at hq
    refine (agreedT_er F13.out HME.out.1 h15).mono ?_
    rintro e w15 ⟨rfl, _, g⟩
    exact open_bad (ov := .int .i64 0) rfl rfl g (by repeat (first | with_reducible exact List.Sublist.refl _ | with_reducible refine List.Sublist.cons_cons _ ?_ | refine List.Sublist.cons _ ?_)) hq
  have hq := HR12.out; simp only [h15, Sough.bnd] at hq
  have HR13 := Lib.hid hq
  clear hq HR12
  have Hh15 := Lib.hid h15
  refine (agreedT_ok F13.out HME.out.1 h15).mono ?_
  rintro e w15 ⟨rfl, g⟩
  have F14 := Lib.hid g
  clear g h15 F13
  have r := F14.out.mem.rules; simp only [AllCells, CellsAt, Nat.zero_add, Nat.reduceAdd, talkC] at r
  go_wp2_with fail
  clear r
  have HX15 := Lib.hid (Sough.agreedT_name HO10.out Hh15.out)
  have HO11 := Lib.hid F14.out.ok
  obtain ⟨s16, r16, h16⟩ : ∃ s r, Sough.mixT s15 yp.1 x15 = (s, r) := ⟨_, _, rfl⟩
  rcases r16 with er | y16
  · have hq := HR13.out; simp only [h16, Sough.bnd] at hq
    refine (mixT_er F14.out HY10.out HX15.out h16).mono ?_
    rintro e w16 ⟨rfl, _, g⟩
    exact open_bad (ov := .int .i64 0) rfl rfl g (by repeat (first | with_reducible exact List.Sublist.refl _ | with_reducible refine List.Sublist.cons_cons _ ?_ | refine List.Sublist.cons _ ?_)) hq
  have hq := HR13.out; simp only [h16, Sough.bnd] at hq
  have HR14 := Lib.hid hq
  clear hq HR13
  have Hh16 := Lib.hid h16
  refine (mixT_ok F14.out HY10.out HX15.out h16).mono ?_
  rintro e w16 ⟨rfl, g⟩
  have F16 := Lib.hid g
  clear g h16 F14
  have r := F16.out.mem.rules; simp only [AllCells, CellsAt, Nat.zero_add, Nat.reduceAdd, talkC] at r
  go_wp2_with fail
  clear r
  have HY16 := Lib.hid (Sough.mixT_wf HO11.out HY10.out HX15.out Hh16.out)
  have HIL := Lib.hid (who_lt HRI.out)
  have hpk : Sough.Int64 ((peers.getD ix ⟨⟨0, 0⟩, 0, 0⟩).psk (sl : Int)) := by
    have h1 := HIL.out
    have h2 := HPE.out (peers[ix]) (List.getElem_mem _)
    rw [List.getD_eq_getElem?_getD, List.getElem?_eq_getElem h1]
    unfold Sough.Peer.psk
    split
    · exact h2.1
    · exact h2.2
  have HPK := Lib.hid hpk
  clear hpk
  have hv2 : ∃ g cap T, v = .slice (some ⟨g, 0, none⟩) peers.length cap ∧ peers.length ≤ cap ∧ cap ≤ 1000000 ∧ (g, .cells (peers.flatMap peerL).toArray T (0, 0)) ∈ L := by
    rcases HV.out with ⟨h1, _⟩ | h1
    · have := HIL.out; rw [h1] at this; exact absurd this (Nat.not_lt_zero _)
    · exact h1
  obtain ⟨g, cap, T, rfl, hcap, hcap2, hgl⟩ := hv2
  have HGL := Lib.hid hgl
  have hin := HIL.out
  obtain ⟨n, hn⟩ : ∃ n, n = peers.length := ⟨_, rfl⟩
  rw [← hn] at hcap hin ⊢
  have HN := Lib.hid hn
  clear hn hgl
  obtain ⟨s17, r17, h17⟩ : ∃ s r, Sough.mixT s16 y16 ((peers.getD ix ⟨⟨0, 0⟩, 0, 0⟩).psk (sl : Int)) = (s, r) := ⟨_, _, rfl⟩
  rcases r17 with er | y17
  · have HRE : Hid ((s17, .error er) = R) := Lib.hid (by have hq := HR14.out; simpa only [h17] using hq)
    refine wp_chain (n := 144) [10] (fun k => match k with
        | 0 => some (.pointer (some ⟨t, 0, none⟩))
        | 1 => some (.slice (some ⟨g, 0, none⟩) n cap)
        | 2 => some (.pointer (some ⟨wX.heap.size, 4, none⟩))
        | 3 => some (.int .i64 (ix : Int))
        | 4 => some (.pointer (some ⟨W.heap.size + 1, 4, none⟩))
        | 5 => some (.int .i64 (sl : Int))
        | 6 => some (.pointer (some ⟨g, ix * 4, none⟩))
        | 7 => some (.pointer (some ⟨g, ix * 4 + 2, none⟩))
        | 8 => some (.pointer (some ⟨g, ix * 4 + 2 + sl, none⟩))
        | 9 => some (.int .i64 ((peers.getD ix ⟨⟨0, 0⟩, 0, 0⟩).psk (sl : Int)))
        | _ => none) (fun i x => SF S w0 x p s16 ((t, talkC p y16) :: (wX.heap.size, .cells #[.int .i64 0, .int .i64 0, .int .i64 0, .int .u64 0, .int .i64 (ix : Int), .int .i64 (bv : Int), .int .u64 0, .int .i64 (m.v 6), .int .i64 (m.v 7), .int .i64 yp.2] 44 (0, 0)) :: (wP.heap.size, .cells #[.int .i64 pb.dh, .int .i64 pb.kem] 24 (0, 0)) :: (W.heap.size + 1 + 1 + 1, .cells #[.int .i64 0] 39 (0, 0)) :: (W.heap.size + 1 + 1, .cells #[.int .i64 0, .int .i64 0, .int .i64 0, .int .u64 0, .int .i64 0, .int .i64 0, .int .u64 0, .int .i64 0, .int .i64 0, .int .i64 0] 44 (0, 0)) :: (W.heap.size + 1, .cells #[.int .i64 (m.v 0), .int .u64 (m.v 1), .int .u64 (m.v 2), .string ⟨m.offer.toArray⟩, .int .i64 (sl : Int), .int .i64 (m.v 5), .int .i64 (m.v 6), .int .i64 (m.v 7), .int .i64 (m.v 8), .int .i64 (m.v 9), .int .i64 (m.v 10), .int .u64 (m.v 11), .int .u64 (m.v 12)] 34 (0, 0)) :: (W.heap.size, .cells #[.int .i64 me.dh, .int .i64 me.kem] 24 (0, 0)) :: L) ∧ i = 0) (by kernel_rfl) (by kernel_rfl) (by kernel_rfl) ?_ ?_ ?_ ?_
    · exact ⟨F16.out.later (Below.refl _ _).drew, rfl⟩
    · exact fun i x y h hb => ⟨h.1.later hb, h.2⟩
    · refine ⟨?_, ?_, ?_, ?_, ?_, ?_, ?_, ?_, ?_, ?_, ?_, trivial⟩
      · refine cstep_pure (by decide) rfl rfl ?_
        intro i v x hS hF hB
        simp only [putAll, Act.put, List.setIfInBounds_toArray, List.set_cons_succ, List.set_cons_zero]
        go_big_quiet_step (fail)
        exact wpQuiet_nil rfl
      · refine cstep_pure (by decide) rfl rfl ?_
        intro i v x hS hF hB
        simp only [putAll, Act.put, List.setIfInBounds_toArray, List.set_cons_succ, List.set_cons_zero]
        go_big_quiet_step (fail)
        exact wpQuiet_nil rfl
      · refine cstep_pure (by decide) rfl rfl ?_
        intro i v x hS hF hB
        simp only [putAll, Act.put, List.setIfInBounds_toArray, List.set_cons_succ, List.set_cons_zero]
        go_big_quiet_step (fail)
        exact wpQuiet_nil rfl
      · refine cstep_pure (by decide) rfl rfl ?_
        intro i v x hS hF hB
        have e2 : v 2 = .pointer (some ⟨wX.heap.size, 4, none⟩) := hF 2 _ (by decide) rfl
        have yp : ∀ z : Later x, z.world.cell? ⟨g, ix * 4 + 2 + sl, none⟩ = some (.int .i64 ((peers.getD ix ⟨⟨0, 0⟩, 0, 0⟩).psk (sl : Int))) := fun z => peers_psk (SF.blk (hS.1.later z.below) (g, .cells (peers.flatMap peerL).toArray T (0, 0)) (by simp [HGL.out])).1 HIL.out HSL.out
        have yy := SF.rulesOf hS.1
        simp only [AllCells, CellsAt, Nat.zero_add, Nat.reduceAdd, talkC] at yy
        simp only [putAll, Act.put, List.setIfInBounds_toArray, List.set_cons_succ, List.set_cons_zero, e2]
        go_big_quiet_step (fail)
        exact wpQuiet_nil rfl
      · refine cstep_pure (by decide) rfl rfl ?_
        intro i v x hS hF hB
        simp only [putAll, Act.put, List.setIfInBounds_toArray, List.set_cons_succ, List.set_cons_zero]
        go_big_quiet_step (fail)
        exact wpQuiet_nil rfl
      · refine cstep_pure (by decide) rfl rfl ?_
        intro i v x hS hF hB
        have e4 : v 4 = .pointer (some ⟨W.heap.size + 1, 4, none⟩) := hF 4 _ (by decide) rfl
        have yp : ∀ z : Later x, z.world.cell? ⟨g, ix * 4 + 2 + sl, none⟩ = some (.int .i64 ((peers.getD ix ⟨⟨0, 0⟩, 0, 0⟩).psk (sl : Int))) := fun z => peers_psk (SF.blk (hS.1.later z.below) (g, .cells (peers.flatMap peerL).toArray T (0, 0)) (by simp [HGL.out])).1 HIL.out HSL.out
        have yy := SF.rulesOf hS.1
        simp only [AllCells, CellsAt, Nat.zero_add, Nat.reduceAdd, talkC] at yy
        simp only [putAll, Act.put, List.setIfInBounds_toArray, List.set_cons_succ, List.set_cons_zero, e4]
        go_big_quiet_step (fail)
        exact wpQuiet_nil rfl
      · refine cstep_pure (by decide) rfl rfl ?_
        intro i v x hS hF hB
        have e1 : v 1 = .slice (some ⟨g, 0, none⟩) n cap := hF 1 _ (by decide) rfl
        have e3 : v 3 = .int .i64 (ix : Int) := hF 3 _ (by decide) rfl
        simp only [putAll, Act.put, List.setIfInBounds_toArray, List.set_cons_succ, List.set_cons_zero, e1, e3]
        go_big_quiet_step (fail)
        exact wpQuiet_nil rfl
      · refine cstep_pure (by decide) rfl rfl ?_
        intro i v x hS hF hB
        have e6 : v 6 = .pointer (some ⟨g, ix * 4, none⟩) := hF 6 _ (by decide) rfl
        simp only [putAll, Act.put, List.setIfInBounds_toArray, List.set_cons_succ, List.set_cons_zero, e6]
        go_big_quiet_step (fail)
        exact wpQuiet_nil rfl
      · refine cstep_pure (by decide) rfl rfl ?_
        intro i v x hS hF hB
        have e7 : v 7 = .pointer (some ⟨g, ix * 4 + 2, none⟩) := hF 7 _ (by decide) rfl
        have e5 : v 5 = .int .i64 (sl : Int) := hF 5 _ (by decide) rfl
        simp only [putAll, Act.put, List.setIfInBounds_toArray, List.set_cons_succ, List.set_cons_zero, e7, e5]
        go_big_quiet_step (fail)
        exact wpQuiet_nil rfl
      · refine cstep_pure (by decide) rfl rfl ?_
        intro i v x hS hF hB
        have e8 : v 8 = .pointer (some ⟨g, ix * 4 + 2 + sl, none⟩) := hF 8 _ (by decide) rfl
        have yp : ∀ z : Later x, z.world.cell? ⟨g, ix * 4 + 2 + sl, none⟩ = some (.int .i64 ((peers.getD ix ⟨⟨0, 0⟩, 0, 0⟩).psk (sl : Int))) := fun z => peers_psk (SF.blk (hS.1.later z.below) (g, .cells (peers.flatMap peerL).toArray T (0, 0)) (by simp [HGL.out])).1 HIL.out HSL.out
        have yy := SF.rulesOf hS.1
        simp only [AllCells, CellsAt, Nat.zero_add, Nat.reduceAdd, talkC] at yy
        simp only [putAll, Act.put, List.setIfInBounds_toArray, List.set_cons_succ, List.set_cons_zero, e8]
        go_big_quiet_step (fail)
        exact wpQuiet_nil rfl
      · refine cstep_wr 0 rfl rfl ?_
        intro v x hS hF
        have e0 : v 0 = .pointer (some ⟨t, 0, none⟩) := hF 0 _ (by decide) rfl
        have e9 : v 9 = .int .i64 ((peers.getD ix ⟨⟨0, 0⟩, 0, 0⟩).psk (sl : Int)) := hF 9 _ (by decide) rfl
        refine Oper.wp_mono (K := fun _ _ => False) (fun _ _ h => h.elim) ?_
        simp only [putAll, Act.put, List.setIfInBounds_toArray, List.set_cons_succ, List.set_cons_zero, e0, e9]
        unfold Oper.wp
        go_simp
        refine (mixT_er hS.1 HY16.out HPK.out h17).mono ?_
        rintro e q ⟨rfl, _, gq⟩
        exact open_bad (ov := .int .i64 0) rfl rfl gq (by repeat (first | with_reducible exact List.Sublist.refl _ | with_reducible refine List.Sublist.cons_cons _ ?_ | refine List.Sublist.cons _ ?_)) HRE.out
    · intro v x hF hS
      exact absurd hS.2 (by simp)
  have HR15 := Lib.hid (by have hq := HR14.out; simp only [h17] at hq; exact hq)
  have HY17 := Lib.hid (Sough.mixT_wf F16.out.ok HY16.out HPK.out h17)
  refine wp_chain (n := 144) [10] (fun k => match k with
      | 0 => some (.pointer (some ⟨t, 0, none⟩))
      | 1 => some (.slice (some ⟨g, 0, none⟩) n cap)
      | 2 => some (.pointer (some ⟨wX.heap.size, 4, none⟩))
      | 3 => some (.int .i64 (ix : Int))
      | 4 => some (.pointer (some ⟨W.heap.size + 1, 4, none⟩))
      | 5 => some (.int .i64 (sl : Int))
      | 6 => some (.pointer (some ⟨g, ix * 4, none⟩))
      | 7 => some (.pointer (some ⟨g, ix * 4 + 2, none⟩))
      | 8 => some (.pointer (some ⟨g, ix * 4 + 2 + sl, none⟩))
      | 9 => some (.int .i64 ((peers.getD ix ⟨⟨0, 0⟩, 0, 0⟩).psk (sl : Int)))
      | _ => none) (openI S w0 p t s16 s17 y16 y17 ((wX.heap.size, .cells #[.int .i64 0, .int .i64 0, .int .i64 0, .int .u64 0, .int .i64 (ix : Int), .int .i64 (bv : Int), .int .u64 0, .int .i64 (m.v 6), .int .i64 (m.v 7), .int .i64 yp.2] 44 (0, 0)) :: (wP.heap.size, .cells #[.int .i64 pb.dh, .int .i64 pb.kem] 24 (0, 0)) :: (W.heap.size + 1 + 1 + 1, .cells #[.int .i64 0] 39 (0, 0)) :: (W.heap.size + 1 + 1, .cells #[.int .i64 0, .int .i64 0, .int .i64 0, .int .u64 0, .int .i64 0, .int .i64 0, .int .u64 0, .int .i64 0, .int .i64 0, .int .i64 0] 44 (0, 0)) :: (W.heap.size + 1, .cells #[.int .i64 (m.v 0), .int .u64 (m.v 1), .int .u64 (m.v 2), .string ⟨m.offer.toArray⟩, .int .i64 (sl : Int), .int .i64 (m.v 5), .int .i64 (m.v 6), .int .i64 (m.v 7), .int .i64 (m.v 8), .int .i64 (m.v 9), .int .i64 (m.v 10), .int .u64 (m.v 11), .int .u64 (m.v 12)] 34 (0, 0)) :: (W.heap.size, .cells #[.int .i64 me.dh, .int .i64 me.kem] 24 (0, 0)) :: L)) (by kernel_rfl) (by kernel_rfl) (by kernel_rfl) ?_ ?_ ?_ ?_
  · exact F16.out.later (Below.refl _ _).drew
  · exact fun i x y h hb => openI_later h hb
  · refine ⟨?_, ?_, ?_, ?_, ?_, ?_, ?_, ?_, ?_, ?_, ?_, trivial⟩
    · refine cstep_pure (by decide) rfl rfl ?_
      intro i v x hS hF hB
      simp only [putAll, Act.put, List.setIfInBounds_toArray, List.set_cons_succ, List.set_cons_zero]
      go_big_quiet_step (fail)
      exact wpQuiet_nil rfl
    · refine cstep_pure (by decide) rfl rfl ?_
      intro i v x hS hF hB
      simp only [putAll, Act.put, List.setIfInBounds_toArray, List.set_cons_succ, List.set_cons_zero]
      go_big_quiet_step (fail)
      exact wpQuiet_nil rfl
    · refine cstep_pure (by decide) rfl rfl ?_
      intro i v x hS hF hB
      simp only [putAll, Act.put, List.setIfInBounds_toArray, List.set_cons_succ, List.set_cons_zero]
      go_big_quiet_step (fail)
      exact wpQuiet_nil rfl
    · refine cstep_pure (by decide) rfl rfl ?_
      intro i v x hS hF hB
      have e2 : v 2 = .pointer (some ⟨wX.heap.size, 4, none⟩) := hF 2 _ (by decide) rfl
      obtain ⟨zs, zy, hZ⟩ := openI_any hS
      have yp : ∀ z : Later x, z.world.cell? ⟨g, ix * 4 + 2 + sl, none⟩ = some (.int .i64 ((peers.getD ix ⟨⟨0, 0⟩, 0, 0⟩).psk (sl : Int))) := fun z => peers_psk (SF.blk (hZ.later z.below) (g, .cells (peers.flatMap peerL).toArray T (0, 0)) (by simp [HGL.out])).1 HIL.out HSL.out
      have yy := SF.rulesOf hZ
      simp only [AllCells, CellsAt, Nat.zero_add, Nat.reduceAdd, talkC] at yy
      simp only [putAll, Act.put, List.setIfInBounds_toArray, List.set_cons_succ, List.set_cons_zero, e2]
      go_big_quiet_step (fail)
      exact wpQuiet_nil rfl
    · refine cstep_pure (by decide) rfl rfl ?_
      intro i v x hS hF hB
      simp only [putAll, Act.put, List.setIfInBounds_toArray, List.set_cons_succ, List.set_cons_zero]
      go_big_quiet_step (fail)
      exact wpQuiet_nil rfl
    · refine cstep_pure (by decide) rfl rfl ?_
      intro i v x hS hF hB
      have e4 : v 4 = .pointer (some ⟨W.heap.size + 1, 4, none⟩) := hF 4 _ (by decide) rfl
      obtain ⟨zs, zy, hZ⟩ := openI_any hS
      have yp : ∀ z : Later x, z.world.cell? ⟨g, ix * 4 + 2 + sl, none⟩ = some (.int .i64 ((peers.getD ix ⟨⟨0, 0⟩, 0, 0⟩).psk (sl : Int))) := fun z => peers_psk (SF.blk (hZ.later z.below) (g, .cells (peers.flatMap peerL).toArray T (0, 0)) (by simp [HGL.out])).1 HIL.out HSL.out
      have yy := SF.rulesOf hZ
      simp only [AllCells, CellsAt, Nat.zero_add, Nat.reduceAdd, talkC] at yy
      simp only [putAll, Act.put, List.setIfInBounds_toArray, List.set_cons_succ, List.set_cons_zero, e4]
      go_big_quiet_step (fail)
      exact wpQuiet_nil rfl
    · refine cstep_pure (by decide) rfl rfl ?_
      intro i v x hS hF hB
      have e1 : v 1 = .slice (some ⟨g, 0, none⟩) n cap := hF 1 _ (by decide) rfl
      have e3 : v 3 = .int .i64 (ix : Int) := hF 3 _ (by decide) rfl
      simp only [putAll, Act.put, List.setIfInBounds_toArray, List.set_cons_succ, List.set_cons_zero, e1, e3]
      go_big_quiet_step (fail)
      exact wpQuiet_nil rfl
    · refine cstep_pure (by decide) rfl rfl ?_
      intro i v x hS hF hB
      have e6 : v 6 = .pointer (some ⟨g, ix * 4, none⟩) := hF 6 _ (by decide) rfl
      simp only [putAll, Act.put, List.setIfInBounds_toArray, List.set_cons_succ, List.set_cons_zero, e6]
      go_big_quiet_step (fail)
      exact wpQuiet_nil rfl
    · refine cstep_pure (by decide) rfl rfl ?_
      intro i v x hS hF hB
      have e7 : v 7 = .pointer (some ⟨g, ix * 4 + 2, none⟩) := hF 7 _ (by decide) rfl
      have e5 : v 5 = .int .i64 (sl : Int) := hF 5 _ (by decide) rfl
      simp only [putAll, Act.put, List.setIfInBounds_toArray, List.set_cons_succ, List.set_cons_zero, e7, e5]
      go_big_quiet_step (fail)
      exact wpQuiet_nil rfl
    · refine cstep_pure (by decide) rfl rfl ?_
      intro i v x hS hF hB
      have e8 : v 8 = .pointer (some ⟨g, ix * 4 + 2 + sl, none⟩) := hF 8 _ (by decide) rfl
      obtain ⟨zs, zy, hZ⟩ := openI_any hS
      have yp : ∀ z : Later x, z.world.cell? ⟨g, ix * 4 + 2 + sl, none⟩ = some (.int .i64 ((peers.getD ix ⟨⟨0, 0⟩, 0, 0⟩).psk (sl : Int))) := fun z => peers_psk (SF.blk (hZ.later z.below) (g, .cells (peers.flatMap peerL).toArray T (0, 0)) (by simp [HGL.out])).1 HIL.out HSL.out
      have yy := SF.rulesOf hZ
      simp only [AllCells, CellsAt, Nat.zero_add, Nat.reduceAdd, talkC] at yy
      simp only [putAll, Act.put, List.setIfInBounds_toArray, List.set_cons_succ, List.set_cons_zero, e8]
      go_big_quiet_step (fail)
      exact wpQuiet_nil rfl
    · refine cstep_wr 0 rfl rfl ?_
      intro v x hS hF
      have e0 : v 0 = .pointer (some ⟨t, 0, none⟩) := hF 0 _ (by decide) rfl
      have e9 : v 9 = .int .i64 ((peers.getD ix ⟨⟨0, 0⟩, 0, 0⟩).psk (sl : Int)) := hF 9 _ (by decide) rfl
      simp only [putAll, Act.put, List.setIfInBounds_toArray, List.set_cons_succ, List.set_cons_zero, e0, e9]
      refine vstep_call (fun q => openI S w0 p t s16 s17 y16 y17 ((wX.heap.size, .cells #[.int .i64 0, .int .i64 0, .int .i64 0, .int .u64 0, .int .i64 (ix : Int), .int .i64 (bv : Int), .int .u64 0, .int .i64 (m.v 6), .int .i64 (m.v 7), .int .i64 yp.2] 44 (0, 0)) :: (wP.heap.size, .cells #[.int .i64 pb.dh, .int .i64 pb.kem] 24 (0, 0)) :: (W.heap.size + 1 + 1 + 1, .cells #[.int .i64 0] 39 (0, 0)) :: (W.heap.size + 1 + 1, .cells #[.int .i64 0, .int .i64 0, .int .i64 0, .int .u64 0, .int .i64 0, .int .i64 0, .int .u64 0, .int .i64 0, .int .i64 0, .int .i64 0] 44 (0, 0)) :: (W.heap.size + 1, .cells #[.int .i64 (m.v 0), .int .u64 (m.v 1), .int .u64 (m.v 2), .string ⟨m.offer.toArray⟩, .int .i64 (sl : Int), .int .i64 (m.v 5), .int .i64 (m.v 6), .int .i64 (m.v 7), .int .i64 (m.v 8), .int .i64 (m.v 9), .int .i64 (m.v 10), .int .u64 (m.v 11), .int .u64 (m.v 12)] 34 (0, 0)) :: (W.heap.size, .cells #[.int .i64 me.dh, .int .i64 me.kem] 24 (0, 0)) :: L) 1 q) (fun q hq => ⟨.tuple #[], fun u' h => (by cases h), rfl, hq⟩) ?_
      unfold Oper.wp
      go_simp
      refine (mixT_ok hS HY16.out HPK.out h17).mono ?_
      rintro e q ⟨rfl, hq⟩
      exact ⟨rfl, hq⟩
  · intro v x hF hS
    have F17 : Hid (SF S w0 x p s17 ((t, talkC p y17) :: (wX.heap.size, .cells #[.int .i64 0, .int .i64 0, .int .i64 0, .int .u64 0, .int .i64 (ix : Int), .int .i64 (bv : Int), .int .u64 0, .int .i64 (m.v 6), .int .i64 (m.v 7), .int .i64 yp.2] 44 (0, 0)) :: (wP.heap.size, .cells #[.int .i64 pb.dh, .int .i64 pb.kem] 24 (0, 0)) :: (W.heap.size + 1 + 1 + 1, .cells #[.int .i64 0] 39 (0, 0)) :: (W.heap.size + 1 + 1, .cells #[.int .i64 0, .int .i64 0, .int .i64 0, .int .u64 0, .int .i64 0, .int .i64 0, .int .u64 0, .int .i64 0, .int .i64 0, .int .i64 0] 44 (0, 0)) :: (W.heap.size + 1, .cells #[.int .i64 (m.v 0), .int .u64 (m.v 1), .int .u64 (m.v 2), .string ⟨m.offer.toArray⟩, .int .i64 (sl : Int), .int .i64 (m.v 5), .int .i64 (m.v 6), .int .i64 (m.v 7), .int .i64 (m.v 8), .int .i64 (m.v 9), .int .i64 (m.v 10), .int .u64 (m.v 11), .int .u64 (m.v 12)] 34 (0, 0)) :: (W.heap.size, .cells #[.int .i64 me.dh, .int .i64 me.kem] 24 (0, 0)) :: L)) := Lib.hid hS
    clear hS hF F16
    simp only [putAll, Act.put, List.setIfInBounds_toArray, List.set_cons_succ, List.set_cons_zero]
    have r := F17.out.mem.rules; simp only [AllCells, CellsAt, Nat.zero_add, Nat.reduceAdd, talkC] at r
    go_wp2_with fail
    clear r
    have HO12 := Lib.hid F17.out.ok
    obtain ⟨s18, r18, h18⟩ : ∃ s r, Sough.openT s17 y17 (m.v 10) = (s, r) := ⟨_, _, rfl⟩
    rcases r18 with er | yz
    · have hq := HR15.out; simp only [h18, Sough.bnd] at hq
      refine (openT_er F17.out HY17.out HE10.out h18).mono ?_
      rintro e w18 ⟨rfl, _, g⟩
      exact open_bad (ov := .int .i64 0) rfl rfl g (by repeat (first | with_reducible exact List.Sublist.refl _ | with_reducible refine List.Sublist.cons_cons _ ?_ | refine List.Sublist.cons _ ?_)) hq
    have hq := HR15.out; simp only [h18, Sough.bnd] at hq
    have HR16 := Lib.hid hq
    clear hq HR15
    have Hh18 := Lib.hid h18
    refine (openT_ok F17.out HY17.out HE10.out h18).mono ?_
    rintro e w18 ⟨rfl, g⟩
    have F18 := Lib.hid g
    clear g h18 F17
    have r := F18.out.mem.rules; simp only [AllCells, CellsAt, Nat.zero_add, Nat.reduceAdd, talkC] at r
    go_wp2_with fail
    clear r
    have HO13 := Lib.hid F18.out.ok
    obtain ⟨s19, r19, h19⟩ : ∃ s r, Sough.readT s18 yz.2 = (s, r) := ⟨_, _, rfl⟩
    rcases r19 with er | ss
    · have hq := HR16.out; simp only [h19, Sough.bnd] at hq
      refine (readT_er F18.out h19).mono ?_
      rintro e w19 ⟨rfl, _, g⟩
      exact open_bad (ov := .int .i64 0) rfl rfl g (by repeat (first | with_reducible exact List.Sublist.refl _ | with_reducible refine List.Sublist.cons_cons _ ?_ | refine List.Sublist.cons _ ?_)) hq
    have hq := HR16.out; simp only [h19, Sough.bnd] at hq
    have HR17 := Lib.hid hq
    clear hq HR16
    have Hh19 := Lib.hid h19
    refine (readT_ok F18.out h19).mono ?_
    rintro e w19 ⟨rfl, g⟩
    have F19a := Lib.hid g
    clear g h19 F18
    have r := F19a.out.mem.rules; simp only [AllCells, CellsAt, Nat.zero_add, Nat.reduceAdd, talkC] at r
    go_wp2_with fail
    clear r
    have HSS := Lib.hid (readT_len HO13.out Hh19.out)
    obtain ⟨sn, sp, ser, hget⟩ : ∃ n p er, Sough.get ss 0 = (n, p, er) := ⟨_, _, _, rfl⟩
    have hq := HR17.out
    simp only [Sough.stampT, hget] at hq
    have HR18 := Lib.hid hq
    clear hq HR17
    refine (get_as (s := ⟨ss.toArray⟩) (k := 0) hget _ HSS.out).mono ?_
    rintro e w20 ⟨rfl, hb20⟩
    have F19 := Lib.hid (F19a.out.later hb20)
    clear hb20 F19a hget
    by_cases hse : ser = 0
    rotate_left
    · have e1 : ((ser : Int) == 0) = false := by simp; omega
      have e2 : (ser == 0) = false := by simp; omega
      go_wp2_with fail
      refine (need_er (er := 3) (by omega) _).mono ?_
      rintro e w21 ⟨rfl, rfl⟩
      exact open_bad (ov := .int .i64 0) rfl rfl F19.out (by repeat (first | with_reducible exact List.Sublist.refl _ | with_reducible refine List.Sublist.cons_cons _ ?_ | refine List.Sublist.cons _ ?_)) (by have := HR18.out; simpa [Sough.bnd, hse] using this)
    subst hse
    by_cases hsp : sp = ss.length
    rotate_left
    · have e1 : ((sp : Int) == (ss.length : Int)) = false := by simp; omega
      have e2 : (sp == ss.length) = false := by simp; omega
      go_wp2_with fail
      refine (need_er (er := 3) (by omega) _).mono ?_
      rintro e w21 ⟨rfl, rfl⟩
      exact open_bad (ov := .int .i64 0) rfl rfl F19.out (by repeat (first | with_reducible exact List.Sublist.refl _ | with_reducible refine List.Sublist.cons_cons _ ?_ | refine List.Sublist.cons _ ?_)) (by have := HR18.out; simpa [Sough.bnd, hsp] using this)
    subst hsp
    have hq := HR18.out
    simp only [and_self, if_true] at hq
    have HR20 := Lib.hid hq
    clear hq HR18
    go_wp2_with fail
    refine (need_ok _).mono ?_
    rintro e w21 ⟨rfl, rfl⟩
    go_wp2_with fail
    refine wp_chain (n := 144) [6, 8] (fun k => match k with
        | 0 => some (.int .u64 (sn : Int))
        | 1 => some (.pointer (some ⟨t, 0, none⟩))
        | 2 => some (.pointer (some ⟨t, 0, none⟩))
        | 3 => some (.pointer (some ⟨t, 1, none⟩))
        | 4 => some (.agg #[.int .i64 yz.1.ck, .int .i64 yz.1.k, .int .i64 yz.1.h, .int .u64 yz.1.n])
        | 5 => some (.pointer (some ⟨wX.heap.size, 6, none⟩))
        | 7 => some (.pointer (some ⟨wX.heap.size, 0, none⟩))
        | _ => none) (fun ni x => SF S w0 x p s19 ((t, talkC p yz.1) :: (wX.heap.size, .cells (xS yz.1 (ix : Int) bv (m.v 6) (m.v 7) yp.2 sn ni) 44 (0, 0)) :: (wP.heap.size, .cells #[.int .i64 pb.dh, .int .i64 pb.kem] 24 (0, 0)) :: (W.heap.size + 1 + 1 + 1, .cells #[.int .i64 0] 39 (0, 0)) :: (W.heap.size + 1 + 1, .cells #[.int .i64 0, .int .i64 0, .int .i64 0, .int .u64 0, .int .i64 0, .int .i64 0, .int .u64 0, .int .i64 0, .int .i64 0, .int .i64 0] 44 (0, 0)) :: (W.heap.size + 1, .cells #[.int .i64 (m.v 0), .int .u64 (m.v 1), .int .u64 (m.v 2), .string ⟨m.offer.toArray⟩, .int .i64 (sl : Int), .int .i64 (m.v 5), .int .i64 (m.v 6), .int .i64 (m.v 7), .int .i64 (m.v 8), .int .i64 (m.v 9), .int .i64 (m.v 10), .int .u64 (m.v 11), .int .u64 (m.v 12)] 34 (0, 0)) :: (W.heap.size, .cells #[.int .i64 me.dh, .int .i64 me.kem] 24 (0, 0)) :: L)) (by kernel_rfl) (by kernel_rfl) (by kernel_rfl) ?_ ?_ ?_ ?_
    · exact F19.out.later (Below.refl _ _).drew
    · exact fun i x y h hb => h.later hb
    · refine ⟨?_, ?_, ?_, ?_, ?_, ?_, ?_, ?_, ?_, trivial⟩
      · refine cstep_pure (by decide) rfl rfl ?_
        intro i v x hS hF hB
        simp only [putAll, Act.put, List.setIfInBounds_toArray, List.set_cons_succ, List.set_cons_zero]
        go_big_quiet_step (fail)
        exact wpQuiet_nil rfl
      · refine cstep_pure (by decide) rfl rfl ?_
        intro i v x hS hF hB
        simp only [putAll, Act.put, List.setIfInBounds_toArray, List.set_cons_succ, List.set_cons_zero]
        go_big_quiet_step (fail)
        exact wpQuiet_nil rfl
      · refine cstep_pure (by decide) rfl rfl ?_
        intro i v x hS hF hB
        have e1 : v 1 = .pointer (some ⟨t, 0, none⟩) := hF 1 _ (by decide) rfl
        simp only [putAll, Act.put, List.setIfInBounds_toArray, List.set_cons_succ, List.set_cons_zero, e1]
        go_big_quiet_step (fail)
        exact wpQuiet_nil rfl
      · refine cstep_pure (by decide) rfl rfl ?_
        intro i v x hS hF hB
        have e2 : v 2 = .pointer (some ⟨t, 0, none⟩) := hF 2 _ (by decide) rfl
        simp only [putAll, Act.put, List.setIfInBounds_toArray, List.set_cons_succ, List.set_cons_zero, e2]
        go_big_quiet_step (fail)
        exact wpQuiet_nil rfl
      · refine cstep_pure (by decide) rfl rfl ?_
        intro i v x hS hF hB
        have e3 : v 3 = .pointer (some ⟨t, 1, none⟩) := hF 3 _ (by decide) rfl
        have yy := SF.rulesOf hS
        simp only [AllCells, CellsAt, Nat.zero_add, Nat.reduceAdd, talkC] at yy
        simp only [putAll, Act.put, List.setIfInBounds_toArray, List.set_cons_succ, List.set_cons_zero, e3]
        go_big_quiet_step (fail)
        exact wpQuiet_nil rfl
      · refine cstep_pure (by decide) rfl rfl ?_
        intro i v x hS hF hB
        simp only [putAll, Act.put, List.setIfInBounds_toArray, List.set_cons_succ, List.set_cons_zero]
        go_big_quiet_step (fail)
        exact wpQuiet_nil rfl
      · refine cstep_sto 0 rfl rfl rfl ?_
        intro v x hS hF
        have e5 : v 5 = .pointer (some ⟨wX.heap.size, 6, none⟩) := hF 5 _ (by decide) rfl
        have e0 : v 0 = .int .u64 (sn : Int) := hF 0 _ (by decide) rfl
        have hS2 : SF S w0 x p s19 ((t, talkC p yz.1) :: (wX.heap.size, .cells #[.int .i64 0, .int .i64 0, .int .i64 0, .int .u64 0, .int .i64 (ix : Int), .int .i64 (bv : Int), .int .u64 0, .int .i64 (m.v 6), .int .i64 (m.v 7), .int .i64 yp.2] 44 (0, 0)) :: (wP.heap.size, .cells #[.int .i64 pb.dh, .int .i64 pb.kem] 24 (0, 0)) :: (W.heap.size + 1 + 1 + 1, .cells #[.int .i64 0] 39 (0, 0)) :: (W.heap.size + 1 + 1, .cells #[.int .i64 0, .int .i64 0, .int .i64 0, .int .u64 0, .int .i64 0, .int .i64 0, .int .u64 0, .int .i64 0, .int .i64 0, .int .i64 0] 44 (0, 0)) :: (W.heap.size + 1, .cells #[.int .i64 (m.v 0), .int .u64 (m.v 1), .int .u64 (m.v 2), .string ⟨m.offer.toArray⟩, .int .i64 (sl : Int), .int .i64 (m.v 5), .int .i64 (m.v 6), .int .i64 (m.v 7), .int .i64 (m.v 8), .int .i64 (m.v 9), .int .i64 (m.v 10), .int .u64 (m.v 11), .int .u64 (m.v 12)] 34 (0, 0)) :: (W.heap.size, .cells #[.int .i64 me.dh, .int .i64 me.kem] 24 (0, 0)) :: L) := hS
        have hc := hS2.get 1 rfl
        have HS : Hid (SF S w0 _ p s19 ((t, talkC p yz.1) :: (wX.heap.size, .cells #[.int .i64 0, .int .i64 0, .int .i64 0, .int .u64 0, .int .i64 (ix : Int), .int .i64 (bv : Int), .int .u64 (sn : Int), .int .i64 (m.v 6), .int .i64 (m.v 7), .int .i64 yp.2] 44 (0, 0)) :: (wP.heap.size, .cells #[.int .i64 pb.dh, .int .i64 pb.kem] 24 (0, 0)) :: (W.heap.size + 1 + 1 + 1, .cells #[.int .i64 0] 39 (0, 0)) :: (W.heap.size + 1 + 1, .cells #[.int .i64 0, .int .i64 0, .int .i64 0, .int .u64 0, .int .i64 0, .int .i64 0, .int .u64 0, .int .i64 0, .int .i64 0, .int .i64 0] 44 (0, 0)) :: (W.heap.size + 1, .cells #[.int .i64 (m.v 0), .int .u64 (m.v 1), .int .u64 (m.v 2), .string ⟨m.offer.toArray⟩, .int .i64 (sl : Int), .int .i64 (m.v 5), .int .i64 (m.v 6), .int .i64 (m.v 7), .int .i64 (m.v 8), .int .i64 (m.v 9), .int .i64 (m.v 10), .int .u64 (m.v 11), .int .u64 (m.v 12)] 34 (0, 0)) :: (W.heap.size, .cells #[.int .i64 me.dh, .int .i64 me.kem] 24 (0, 0)) :: L)) := Lib.hid (SF.setMid (A := [_]) hS2 6 (.int .u64 (sn : Int)))
        have cc := cells_of hc
        simp only [CellsAt, Nat.zero_add, Nat.reduceAdd] at cc
        clear hc hS2 hS hF
        refine ⟨_, HS.out, ?_⟩
        simp only [putAll, Act.put, List.setIfInBounds_toArray, List.set_cons_succ, List.set_cons_zero, e5, e0]
        unfold Oper.wp
        go_simp
      · refine cstep_pure (by decide) rfl rfl ?_
        intro i v x hS hF hB
        simp only [putAll, Act.put, List.setIfInBounds_toArray, List.set_cons_succ, List.set_cons_zero]
        go_big_quiet_step (fail)
        exact wpQuiet_nil rfl
      · refine cstep_sto 1 rfl rfl rfl ?_
        intro v x hS hF
        have e7 : v 7 = .pointer (some ⟨wX.heap.size, 0, none⟩) := hF 7 _ (by decide) rfl
        have e4 : v 4 = .agg #[.int .i64 yz.1.ck, .int .i64 yz.1.k, .int .i64 yz.1.h, .int .u64 yz.1.n] := hF 4 _ (by decide) rfl
        have hS2 : SF S w0 x p s19 ((t, talkC p yz.1) :: (wX.heap.size, .cells #[.int .i64 0, .int .i64 0, .int .i64 0, .int .u64 0, .int .i64 (ix : Int), .int .i64 (bv : Int), .int .u64 (sn : Int), .int .i64 (m.v 6), .int .i64 (m.v 7), .int .i64 yp.2] 44 (0, 0)) :: (wP.heap.size, .cells #[.int .i64 pb.dh, .int .i64 pb.kem] 24 (0, 0)) :: (W.heap.size + 1 + 1 + 1, .cells #[.int .i64 0] 39 (0, 0)) :: (W.heap.size + 1 + 1, .cells #[.int .i64 0, .int .i64 0, .int .i64 0, .int .u64 0, .int .i64 0, .int .i64 0, .int .u64 0, .int .i64 0, .int .i64 0, .int .i64 0] 44 (0, 0)) :: (W.heap.size + 1, .cells #[.int .i64 (m.v 0), .int .u64 (m.v 1), .int .u64 (m.v 2), .string ⟨m.offer.toArray⟩, .int .i64 (sl : Int), .int .i64 (m.v 5), .int .i64 (m.v 6), .int .i64 (m.v 7), .int .i64 (m.v 8), .int .i64 (m.v 9), .int .i64 (m.v 10), .int .u64 (m.v 11), .int .u64 (m.v 12)] 34 (0, 0)) :: (W.heap.size, .cells #[.int .i64 me.dh, .int .i64 me.kem] 24 (0, 0)) :: L) := hS
        have hc := hS2.get 1 rfl
        have HS : Hid (SF S w0 _ p s19 ((t, talkC p yz.1) :: (wX.heap.size, .cells #[.int .i64 yz.1.ck, .int .i64 yz.1.k, .int .i64 yz.1.h, .int .u64 yz.1.n, .int .i64 (ix : Int), .int .i64 (bv : Int), .int .u64 (sn : Int), .int .i64 (m.v 6), .int .i64 (m.v 7), .int .i64 yp.2] 44 (0, 0)) :: (wP.heap.size, .cells #[.int .i64 pb.dh, .int .i64 pb.kem] 24 (0, 0)) :: (W.heap.size + 1 + 1 + 1, .cells #[.int .i64 0] 39 (0, 0)) :: (W.heap.size + 1 + 1, .cells #[.int .i64 0, .int .i64 0, .int .i64 0, .int .u64 0, .int .i64 0, .int .i64 0, .int .u64 0, .int .i64 0, .int .i64 0, .int .i64 0] 44 (0, 0)) :: (W.heap.size + 1, .cells #[.int .i64 (m.v 0), .int .u64 (m.v 1), .int .u64 (m.v 2), .string ⟨m.offer.toArray⟩, .int .i64 (sl : Int), .int .i64 (m.v 5), .int .i64 (m.v 6), .int .i64 (m.v 7), .int .i64 (m.v 8), .int .i64 (m.v 9), .int .i64 (m.v 10), .int .u64 (m.v 11), .int .u64 (m.v 12)] 34 (0, 0)) :: (W.heap.size, .cells #[.int .i64 me.dh, .int .i64 me.kem] 24 (0, 0)) :: L)) := Lib.hid (SF.setMid (A := [_]) (SF.setMid (A := [_]) (SF.setMid (A := [_]) (SF.setMid (A := [_]) hS2 0 (.int .i64 yz.1.ck)) 1 (.int .i64 yz.1.k)) 2 (.int .i64 yz.1.h)) 3 (.int .u64 yz.1.n))
        have cc := cells_of hc
        simp only [CellsAt, Nat.zero_add, Nat.reduceAdd] at cc
        clear hc hS2 hS hF
        refine ⟨_, HS.out, ?_⟩
        simp only [putAll, Act.put, List.setIfInBounds_toArray, List.set_cons_succ, List.set_cons_zero, e7, e4]
        unfold Oper.wp
        go_simp
    · intro v x hF hS
      have F20 : Hid (SF S w0 x p s19 ((t, talkC p yz.1) :: (wX.heap.size, .cells #[.int .i64 yz.1.ck, .int .i64 yz.1.k, .int .i64 yz.1.h, .int .u64 yz.1.n, .int .i64 (ix : Int), .int .i64 (bv : Int), .int .u64 (sn : Int), .int .i64 (m.v 6), .int .i64 (m.v 7), .int .i64 yp.2] 44 (0, 0)) :: (wP.heap.size, .cells #[.int .i64 pb.dh, .int .i64 pb.kem] 24 (0, 0)) :: (W.heap.size + 1 + 1 + 1, .cells #[.int .i64 0] 39 (0, 0)) :: (W.heap.size + 1 + 1, .cells #[.int .i64 0, .int .i64 0, .int .i64 0, .int .u64 0, .int .i64 0, .int .i64 0, .int .u64 0, .int .i64 0, .int .i64 0, .int .i64 0] 44 (0, 0)) :: (W.heap.size + 1, .cells #[.int .i64 (m.v 0), .int .u64 (m.v 1), .int .u64 (m.v 2), .string ⟨m.offer.toArray⟩, .int .i64 (sl : Int), .int .i64 (m.v 5), .int .i64 (m.v 6), .int .i64 (m.v 7), .int .i64 (m.v 8), .int .i64 (m.v 9), .int .i64 (m.v 10), .int .u64 (m.v 11), .int .u64 (m.v 12)] 34 (0, 0)) :: (W.heap.size, .cells #[.int .i64 me.dh, .int .i64 me.kem] 24 (0, 0)) :: L)) := Lib.hid hS
      clear hS hF
      simp only [putAll, Act.put, List.setIfInBounds_toArray, List.set_cons_succ, List.set_cons_zero]
      have r := F20.out.mem.rules; simp only [AllCells, CellsAt, Nat.zero_add, Nat.reduceAdd, talkC] at r
      go_wp2_with fail
      clear r
      have F21 := Lib.hid ((SF.set (((F20.out.m10 (A := [_, _, _, _]) (.int .i64 yz.1.ck) (.int .i64 yz.1.k) (.int .i64 yz.1.h) (.int .u64 yz.1.n) (.int .i64 (ix : Int)) (.int .i64 (bv : Int)) (.int .u64 (sn : Int)) (.int .i64 (m.v 6)) (.int .i64 (m.v 7)) (.int .i64 yp.2)).perm (List.perm_middle (l₁ := [_, _, _]))) ) 0 (.int .i64 0)).later ((Below.refl _ _).alloc (Nat.le_refl _) (.cells #[.int .i64 0] 120)))
      refine door_ret rfl ?_
      have g0 := F21.out.get 0 rfl
      have g1 := F21.out.get 4 rfl
      rw [← HR20.out]
      refine ⟨.tuple #[.agg #[.int .i64 yz.1.ck, .int .i64 yz.1.k, .int .i64 yz.1.h, .int .u64 yz.1.n, .int .i64 (ix : Int), .int .i64 (bv : Int), .int .u64 (sn : Int), .int .i64 (m.v 6), .int .i64 (m.v 7), .int .i64 yp.2], .int .i64 0], ?_, rfl, F21.out.sub (by repeat (first | with_reducible exact List.Sublist.refl _ | with_reducible refine List.Sublist.cons_cons _ ?_ | refine List.Sublist.cons _ ?_))⟩
      simp [results, Try.results13, go_sem, World.cell?, g0, g1]
theorem open_any {S : List Nat} {w0 W : World} {p : Nat} {st : Sough.Store} {L : List (Nat × Obj)} {me : Sough.Pair} {peers : List Sough.Peer} {v : Value} {text : List UInt8} {m : Sough.Msg} {R : Sough.Res Sough.Opened} (h : SF S w0 W p st L) (hme : Sough.Int64 me.dh ∧ Sough.Int64 me.kem) (hv : PeersIn L v peers) (hpe : ∀ q ∈ peers, Sough.Int64 q.p0 ∧ Sough.Int64 q.p1) (ht : text.length ≤ maxLen) (hm : m.Wf) (hf : Sough.openedT st me peers text m = R) :
    Calls Try.prog 13 #[.pointer (some ⟨p, 0, none⟩), .agg #[.int .i64 me.dh, .int .i64 me.kem], v, .string ⟨text.toArray⟩, .agg #[.int .i64 (m.v 0), .int .u64 (m.v 1), .int .u64 (m.v 2), .string ⟨m.offer.toArray⟩, .int .i64 (m.v 4), .int .i64 (m.v 5), .int .i64 (m.v 6), .int .i64 (m.v 7), .int .i64 (m.v 8), .int .i64 (m.v 9), .int .i64 (m.v 10), .int .u64 (m.v 11), .int .u64 (m.v 12)]] W (OpenTo S w0 p L R) := by
  by_cases hk : m.v 0 = 1
  · by_cases hr : m.right = true
    · obtain ⟨sl, h4, hsl⟩ := init_slot hk hr
      exact open_right h hme hv hpe ht hm (by simpa using hk) hr h4 hsl hf
    · exact open_wrong h hme hv hpe ht hm (by simpa using hk) (by simpa using hr) hf
  · exact open_kind h hme hv hpe ht hm (by simpa using hk) hf
end Go.Proofs.Ytlfgempjjoclbaa
namespace Sough
def nonce (i : Nat) : Term := ⟨2, [], 100 + i, 0, 0, 0⟩
def two0 : Store := ⟨(List.range 14).map nonce, 5000⟩
def two1 : Store := ⟨two0.l ++ [⟨3, [], 0, 1, 0, 0⟩, ⟨5, [], 0, 2, 0, 0⟩], 5000⟩
def twoS : Store := ⟨two1.l ++ [⟨3, [], 0, 3, 0, 0⟩, ⟨5, [], 0, 4, 0, 0⟩], 5000⟩
theorem two_put : ∀ i < 14, (⟨two0.l.take i, 5000⟩ : Store).put (nonce i) = (⟨two0.l.take (i + 1), 5000⟩, i + 1, 0) := by decide +kernel
instance decExcept {α : Type} [DecidableEq α] : DecidableEq (Except Nat α) := fun a b => match a, b with
  | .ok x, .ok y => if h : x = y then .isTrue (by rw [h]) else .isFalse (fun e => h (by cases e; rfl))
  | .error x, .error y => if h : x = y then .isTrue (by rw [h]) else .isFalse (fun e => h (by cases e; rfl))
  | .ok _, .error _ => .isFalse (fun e => by cases e)
  | .error _, .ok _ => .isFalse (fun e => by cases e)
theorem two_pub1 : publicsT two0 ⟨1, 2⟩ = (two1, .ok ⟨15, 16⟩) := by decide +kernel
theorem two_pub2 : publicsT two1 ⟨3, 4⟩ = (twoS, .ok ⟨17, 18⟩) := by decide +kernel
end Sough
namespace Go.Proofs.Ytlfgempjjoclbaa
open Go.RowKit Go.Maps Go.ChangeMaps
set_option maxRecDepth 100000 in
set_option maxHeartbeats 400000 in
theorem new_any {most : Nat} (hm : most ≤ 1048576) (w : World) : Calls Try.prog 23 #[.int .i64 most] w fun e w' => ∃ p S, e = .returned (.tuple #[.pointer (some ⟨p, 0, none⟩), .int .i64 0]) ∧ StoreAt w' p ⟨[], most⟩ S ∧ (∀ i ∈ S, w.heap.size ≤ i) ∧ Below w.heap.size w w' := by
  have hmm := @run_makeMap Try.prog
  have h2 : decide ((1048576 : Int) < (most : Int)) = false := by simp; omega
  go_enter Try.func23, Try.ntmps23
  go_wp2_with fail
  go_ret2
  have M := ((((Mem.start w).alloc (.cells #[.int .i64 0, .string ⟨#[]⟩, .int .u64 0, .int .i64 0, .int .i64 0, .int .i64 0] 76)).alloc (.cells #[.int .i64 0] 3)).alloc (.map #[] 0)).alloc (.cells #[.slice (some ⟨w.heap.size, 0, none⟩) 1 1, .slice (some ⟨w.heap.size + 1, 0, none⟩) 1 1, .map (some (w.heap.size + 1 + 1)), .int .i64 most] 102)
  simp only [World.size_alloc] at M
  refine ⟨_, _, rfl, ⟨w.heap.size, 1, w.heap.size + 1, 1, w.heap.size + 1 + 1, [0], .map [], ⟨?_, ?_, ?_, ?_, ?_, NamesTo.start, ?_⟩, rfl⟩, ?_, M.bel⟩
  · exact M.get 0 rfl
  · exact ⟨by simp [rowT, termC], .inr ⟨w.heap.size, 1, _, rfl, Nat.zero_le _, M.get 3 rfl, Nat.le_refl _, by unfold maxLen; omega, rfl, by simp [rowT, termC, Sough.zeroT]⟩⟩
  · exact ⟨by simp, .inr ⟨w.heap.size + 1, 1, _, rfl, Nat.zero_le _, M.get 2 rfl, Nat.le_refl _, by unfold maxLen; omega, rfl, by simp⟩⟩
  · simp
  · have hm := (World.ownsMap_made ((w.alloc (.cells #[.int .i64 0, .string ⟨#[]⟩, .int .u64 0, .int .i64 0, .int .i64 0, .int .i64 0] 76)).alloc (.cells #[.int .i64 0] 3)) Try.prog 76 (plainElem (H := Unit) Try.prog 3)).alloc (.cells #[.slice (some ⟨w.heap.size, 0, none⟩) 1 1, .slice (some ⟨w.heap.size + 1, 0, none⟩) 1 1, .map (some (w.heap.size + 1 + 1)), .int .i64 most] 102)
    simp only [World.size_alloc] at hm
    exact hm
  · simp; omega
  · simp; omega
theorem SF.new {W W1 w' : World} {p : Nat} {st : Sough.Store} {S : List Nat} {L : List (Nat × Obj)} (hM : Mem W L W1) (hlow : ∀ x ∈ L, W.heap.size ≤ x.1) (hn : (L.map (·.1)).Nodup) (hb : Below W1.heap.size W1 w') (hS : StoreAt w' p st S) (hf : ∀ i ∈ S, W1.heap.size ≤ i) (hok : st.Ok) : SF [] W w' p st L :=
  ⟨⟨S, hS, fun i hi => .inr (Nat.le_trans hM.bel.size (hf i hi)), fun x hx hi => by have := hf _ hi; have := lt_of_block (hM.blk x hx); omega⟩, hok, Turned.below (S := []) (hM.bel.trans (hb.mono hM.bel.size)), fun x hx => ⟨(hb.block _ (lt_of_block (hM.blk x hx))).trans (hM.blk x hx), hlow x hx⟩, hn⟩
def twoA : Nat → Array Value
  | 0 => #[.int .i64 0, .int .i64 0, .int .i64 0, .int .i64 0]
  | _ + 1 => #[.int .i64 1, .int .i64 2, .int .i64 3, .int .i64 4]
def twoB : Nat → Array Value
  | 0 => #[.int .i64 0, .int .i64 0, .int .i64 0, .int .i64 0, .int .i64 0, .int .i64 0, .int .i64 0, .int .i64 0]
  | 1 => #[.int .i64 0, .int .i64 0, .int .i64 0, .int .i64 0, .int .i64 0, .int .i64 0, .int .i64 0, .int .i64 0]
  | _ + 2 => #[.int .i64 17, .int .i64 18, .int .i64 5, .int .i64 6, .int .i64 15, .int .i64 16, .int .i64 5, .int .i64 6]
def TwoR (W : World) (p : Nat) (iv : Value) (wr : World) : Prop := ∃ i : Nat, i ≤ 14 ∧ iv = .int .i64 i ∧ SF [] W wr p ⟨Sough.two0.l.take i, 5000⟩ ((W.heap.size + 1 + 1 + 1, .cells #[.int .i64 1, .int .i64 2, .int .i64 3, .int .i64 4] 25 (0, 0)) :: (W.heap.size + 1 + 1, .cells #[.int .i64 0, .int .i64 0, .int .i64 0, .int .i64 0, .int .i64 0, .int .i64 0, .int .i64 0, .int .i64 0] 29 (0, 0)) :: (W.heap.size + 1, .cells #[.int .i64 0, .int .i64 0, .int .i64 0, .int .i64 0, .int .i64 0, .int .i64 0, .int .i64 0, .int .i64 0] 29 (0, 0)) :: (W.heap.size, .cells #[.int .i64 0, .int .i64 0, .int .i64 0, .int .i64 0] 25 (0, 0)) :: [])
set_option maxRecDepth 100000 in
set_option maxHeartbeats 1600000 in
theorem two_any (W : World) : Calls Try.prog 11 #[] W fun e w' => ∃ p, e = .returned (.tuple #[.pointer (some ⟨p, 0, none⟩), .agg #[.int .i64 1, .int .i64 2, .int .i64 3, .int .i64 4], .agg #[.int .i64 17, .int .i64 18, .int .i64 5, .int .i64 6, .int .i64 15, .int .i64 16, .int .i64 5, .int .i64 6]]) ∧ SF [] W w' p Sough.twoS [] := by
  have M := (((((Mem.start W).alloc (.cells #[.int .i64 0, .int .i64 0, .int .i64 0, .int .i64 0] 25)).alloc (.cells #[.int .i64 0, .int .i64 0, .int .i64 0, .int .i64 0, .int .i64 0, .int .i64 0, .int .i64 0, .int .i64 0] 29)).alloc (.cells #[.int .i64 0, .int .i64 0, .int .i64 0, .int .i64 0, .int .i64 0, .int .i64 0, .int .i64 0, .int .i64 0] 29)).alloc (.cells #[.int .i64 1, .int .i64 2, .int .i64 3, .int .i64 4] 25))
  simp only [World.size_alloc] at M
  have HM := Lib.hid M
  clear M
  go_enter Try.func11, Try.ntmps11
  go_wp2_with fail
  refine (new_any (most := 5000) (by omega) _).mono ?_
  rintro e w1 ⟨p, S, rfl, hS, hfr, hb⟩
  have F0 : Hid (SF [] W w1 p ⟨[], 5000⟩ ((W.heap.size + 1 + 1 + 1, .cells #[.int .i64 1, .int .i64 2, .int .i64 3, .int .i64 4] 25 (0, 0)) :: (W.heap.size + 1 + 1, .cells #[.int .i64 0, .int .i64 0, .int .i64 0, .int .i64 0, .int .i64 0, .int .i64 0, .int .i64 0, .int .i64 0] 29 (0, 0)) :: (W.heap.size + 1, .cells #[.int .i64 0, .int .i64 0, .int .i64 0, .int .i64 0, .int .i64 0, .int .i64 0, .int .i64 0, .int .i64 0] 29 (0, 0)) :: (W.heap.size, .cells #[.int .i64 0, .int .i64 0, .int .i64 0, .int .i64 0] 25 (0, 0)) :: [])) := Lib.hid (SF.new HM.out (by simp; omega) (by simp; omega) hb hS hfr ⟨by decide, by decide, by simp, by simp, by simp⟩)
  clear HM hS hfr hb
  go_wp2_with fail
  go_loopw [7] (fun iv wr => TwoR W p iv wr) (fun iv _ => 14 - (intOf iv).toNat)
  case atStart => exact ⟨0, by omega, rfl, F0.out⟩
  case round =>
    obtain ⟨i, hi, rfl, hF⟩ := hrel
    have F1 := Lib.hid hF
    clear hF
    by_cases hlt : i < 14
    · have hw : IntKind.u64.wrap (100 + (i : Int)) = ((100 + i : Nat) : Int) := by simp [IntKind.wrap, IntKind.signed, IntKind.bits]; omega
      have hw2 : (100 + (i : Int)) % 18446744073709551616 = ((100 + i : Nat) : Int) := by omega
      have CP := Lib.hid (F1.out.put (t := Sough.nonce i) ⟨by unfold Sough.nonce; simp, by unfold Sough.nonce; simp, by unfold Sough.nonce; simp, by unfold Sough.nonce; simp, by unfold Sough.nonce; simp only; omega, by unfold Sough.nonce; simp⟩ (Sough.two_put i hlt))
      unfold Sough.nonce at CP
      go_wp2_with fail
      refine (CP.out).mono ?_
      rintro e w2 ⟨rfl, hF⟩
      have HR : Hid (TwoR W p (.int .i64 ((i : Int) + 1)) w2) := Lib.hid ⟨i + 1, by omega, by push_cast; rfl, hF⟩
      clear hF CP
      go_wp2_with fail
      go_roundw
      case rel => exact HR.out
      case measure => simp [intOf]; omega
    · obtain rfl : i = 14 := by omega
      have F2 : Hid (SF [] W wr p Sough.two0 ((W.heap.size + 1 + 1 + 1, .cells #[.int .i64 1, .int .i64 2, .int .i64 3, .int .i64 4] 25 (0, 0)) :: (W.heap.size + 1 + 1, .cells #[.int .i64 0, .int .i64 0, .int .i64 0, .int .i64 0, .int .i64 0, .int .i64 0, .int .i64 0, .int .i64 0] 29 (0, 0)) :: (W.heap.size + 1, .cells #[.int .i64 0, .int .i64 0, .int .i64 0, .int .i64 0, .int .i64 0, .int .i64 0, .int .i64 0, .int .i64 0] 29 (0, 0)) :: (W.heap.size, .cells #[.int .i64 0, .int .i64 0, .int .i64 0, .int .i64 0] 25 (0, 0)) :: [])) := F1
      clear F1 F0
      have r := F2.out.mem.rules; simp only [AllCells, CellsAt, Nat.zero_add, Nat.reduceAdd, talkC] at r
      go_wp2_with fail
      clear r
      refine (publicsT_any (a := 1) (b := 2) F2.out ⟨by decide, by decide⟩ ⟨by decide, by decide⟩ Sough.two_pub1).mono ?_
      rintro e w2 ⟨rfl, g⟩
      have F3 := Lib.hid g
      have F4 := Lib.hid (g.alloc (.cells #[.int .i64 15, .int .i64 16] 24))
      clear g F2
      have r := F3.out.mem.rules; simp only [AllCells, CellsAt, Nat.zero_add, Nat.reduceAdd, talkC] at r
      have r2 := F4.out.mem.rules; simp only [AllCells, CellsAt, Nat.zero_add, Nat.reduceAdd, talkC] at r2
      go_wp2_with fail
      clear r r2 F3
      refine (publicsT_any (a := 3) (b := 4) F4.out ⟨by decide, by decide⟩ ⟨by decide, by decide⟩ Sough.two_pub2).mono ?_
      rintro e w3 ⟨rfl, g⟩
      have F5 := Lib.hid g
      have F8 := Lib.hid (g.alloc (.cells #[.int .i64 17, .int .i64 18] 24))
      clear g F4
      have r := F5.out.mem.rules; simp only [AllCells, CellsAt, Nat.zero_add, Nat.reduceAdd, talkC] at r
      have r2 := F8.out.mem.rules; simp only [AllCells, CellsAt, Nat.zero_add, Nat.reduceAdd, talkC] at r2
      go_wp2_with fail
      clear r r2 F5
      refine wp_chain (n := 69) [10, 11] (fun k => match k with
          | 0 => some (.pointer (some ⟨p, 0, none⟩))
          | 1 => some (.agg #[.int .i64 1, .int .i64 2, .int .i64 3, .int .i64 4])
          | 2 => some (.agg #[.int .i64 17, .int .i64 18])
          | 3 => some (.agg #[.int .i64 5, .int .i64 6])
          | 4 => some (.agg #[.int .i64 17, .int .i64 18, .int .i64 5, .int .i64 6])
          | 5 => some (.agg #[.int .i64 15, .int .i64 16])
          | 6 => some (.agg #[.int .i64 5, .int .i64 6])
          | 7 => some (.agg #[.int .i64 15, .int .i64 16, .int .i64 5, .int .i64 6])
          | 8 => some (.agg #[.int .i64 17, .int .i64 18, .int .i64 5, .int .i64 6, .int .i64 15, .int .i64 16, .int .i64 5, .int .i64 6])
          | 9 => some (.pointer (some ⟨p, 0, none⟩))
          | _ => none) (fun i x => SF [] W x p Sough.twoS ((w3.heap.size, .cells #[.int .i64 17, .int .i64 18] 24 (0, 0)) :: (w2.heap.size, .cells #[.int .i64 15, .int .i64 16] 24 (0, 0)) :: (W.heap.size + 1 + 1 + 1, .cells #[.int .i64 1, .int .i64 2, .int .i64 3, .int .i64 4] 25 (0, 0)) :: (W.heap.size + 1 + 1, .cells #[.int .i64 0, .int .i64 0, .int .i64 0, .int .i64 0, .int .i64 0, .int .i64 0, .int .i64 0, .int .i64 0] 29 (0, 0)) :: (W.heap.size + 1, .cells (twoB i) 29 (0, 0)) :: (W.heap.size, .cells (twoA i) 25 (0, 0)) :: [])) (by kernel_rfl) (by kernel_rfl) (by kernel_rfl) ?_ ?_ ?_ ?_
      · exact F8.out.later (Below.refl _ _).drew
      · exact fun i x y h hb => h.later hb
      · refine ⟨?_, ?_, ?_, ?_, ?_, ?_, ?_, ?_, ?_, ?_, ?_, ?_, trivial⟩
        · refine cstep_pure (by decide) rfl rfl ?_
          intro i v x hS hF hB
          simp only [putAll, Act.put, List.setIfInBounds_toArray, List.set_cons_succ, List.set_cons_zero]
          go_big_quiet_step (fail)
          exact wpQuiet_nil rfl
        · refine cstep_pure (by decide) rfl rfl ?_
          intro i v x hS hF hB
          have yy := SF.rulesOf hS
          simp only [AllCells, CellsAt, Nat.zero_add, Nat.reduceAdd] at yy
          simp only [putAll, Act.put, List.setIfInBounds_toArray, List.set_cons_succ, List.set_cons_zero]
          go_big_quiet_step (fail)
          exact wpQuiet_nil rfl
        · refine cstep_pure (by decide) rfl rfl ?_
          intro i v x hS hF hB
          have yy := SF.rulesOf hS
          simp only [AllCells, CellsAt, Nat.zero_add, Nat.reduceAdd] at yy
          simp only [putAll, Act.put, List.setIfInBounds_toArray, List.set_cons_succ, List.set_cons_zero]
          go_big_quiet_step (fail)
          exact wpQuiet_nil rfl
        · refine cstep_pure (by decide) rfl rfl ?_
          intro i v x hS hF hB
          simp only [putAll, Act.put, List.setIfInBounds_toArray, List.set_cons_succ, List.set_cons_zero]
          go_big_quiet_step (fail)
          exact wpQuiet_nil rfl
        · refine cstep_pure (by decide) rfl rfl ?_
          intro i v x hS hF hB
          have e2 : v 2 = .agg #[.int .i64 17, .int .i64 18] := hF 2 _ (by decide) rfl
          have e3 : v 3 = .agg #[.int .i64 5, .int .i64 6] := hF 3 _ (by decide) rfl
          simp only [putAll, Act.put, List.setIfInBounds_toArray, List.set_cons_succ, List.set_cons_zero, e2, e3]
          go_big_quiet_step (fail)
          exact wpQuiet_nil rfl
        · refine cstep_pure (by decide) rfl rfl ?_
          intro i v x hS hF hB
          have yy := SF.rulesOf hS
          simp only [AllCells, CellsAt, Nat.zero_add, Nat.reduceAdd] at yy
          simp only [putAll, Act.put, List.setIfInBounds_toArray, List.set_cons_succ, List.set_cons_zero]
          go_big_quiet_step (fail)
          exact wpQuiet_nil rfl
        · refine cstep_pure (by decide) rfl rfl ?_
          intro i v x hS hF hB
          simp only [putAll, Act.put, List.setIfInBounds_toArray, List.set_cons_succ, List.set_cons_zero]
          go_big_quiet_step (fail)
          exact wpQuiet_nil rfl
        · refine cstep_pure (by decide) rfl rfl ?_
          intro i v x hS hF hB
          have e5 : v 5 = .agg #[.int .i64 15, .int .i64 16] := hF 5 _ (by decide) rfl
          have e6 : v 6 = .agg #[.int .i64 5, .int .i64 6] := hF 6 _ (by decide) rfl
          simp only [putAll, Act.put, List.setIfInBounds_toArray, List.set_cons_succ, List.set_cons_zero, e5, e6]
          go_big_quiet_step (fail)
          exact wpQuiet_nil rfl
        · refine cstep_pure (by decide) rfl rfl ?_
          intro i v x hS hF hB
          have e4 : v 4 = .agg #[.int .i64 17, .int .i64 18, .int .i64 5, .int .i64 6] := hF 4 _ (by decide) rfl
          have e7 : v 7 = .agg #[.int .i64 15, .int .i64 16, .int .i64 5, .int .i64 6] := hF 7 _ (by decide) rfl
          simp only [putAll, Act.put, List.setIfInBounds_toArray, List.set_cons_succ, List.set_cons_zero, e4, e7]
          go_big_quiet_step (fail)
          exact wpQuiet_nil rfl
        · refine cstep_pure (by decide) rfl rfl ?_
          intro i v x hS hF hB
          have e0 : v 0 = .pointer (some ⟨p, 0, none⟩) := hF 0 _ (by decide) rfl
          simp only [putAll, Act.put, List.setIfInBounds_toArray, List.set_cons_succ, List.set_cons_zero, e0]
          go_big_quiet_step (fail)
          exact wpQuiet_nil rfl
        · refine cstep_sto 0 rfl rfl rfl ?_
          intro v x hS hF
          have e1 : v 1 = .agg #[.int .i64 1, .int .i64 2, .int .i64 3, .int .i64 4] := hF 1 _ (by decide) rfl
          have hS2 : SF [] W x p Sough.twoS ((w3.heap.size, .cells #[.int .i64 17, .int .i64 18] 24 (0, 0)) :: (w2.heap.size, .cells #[.int .i64 15, .int .i64 16] 24 (0, 0)) :: (W.heap.size + 1 + 1 + 1, .cells #[.int .i64 1, .int .i64 2, .int .i64 3, .int .i64 4] 25 (0, 0)) :: (W.heap.size + 1 + 1, .cells #[.int .i64 0, .int .i64 0, .int .i64 0, .int .i64 0, .int .i64 0, .int .i64 0, .int .i64 0, .int .i64 0] 29 (0, 0)) :: (W.heap.size + 1, .cells #[.int .i64 0, .int .i64 0, .int .i64 0, .int .i64 0, .int .i64 0, .int .i64 0, .int .i64 0, .int .i64 0] 29 (0, 0)) :: (W.heap.size, .cells #[.int .i64 0, .int .i64 0, .int .i64 0, .int .i64 0] 25 (0, 0)) :: []) := hS
          have hc := hS2.get 5 rfl
          have HS : Hid (SF [] W _ p Sough.twoS ((w3.heap.size, .cells #[.int .i64 17, .int .i64 18] 24 (0, 0)) :: (w2.heap.size, .cells #[.int .i64 15, .int .i64 16] 24 (0, 0)) :: (W.heap.size + 1 + 1 + 1, .cells #[.int .i64 1, .int .i64 2, .int .i64 3, .int .i64 4] 25 (0, 0)) :: (W.heap.size + 1 + 1, .cells #[.int .i64 0, .int .i64 0, .int .i64 0, .int .i64 0, .int .i64 0, .int .i64 0, .int .i64 0, .int .i64 0] 29 (0, 0)) :: (W.heap.size + 1, .cells #[.int .i64 0, .int .i64 0, .int .i64 0, .int .i64 0, .int .i64 0, .int .i64 0, .int .i64 0, .int .i64 0] 29 (0, 0)) :: (W.heap.size, .cells #[.int .i64 1, .int .i64 2, .int .i64 3, .int .i64 4] 25 (0, 0)) :: [])) := Lib.hid (SF.setMid (A := [_, _, _, _, _]) (SF.setMid (A := [_, _, _, _, _]) (SF.setMid (A := [_, _, _, _, _]) (SF.setMid (A := [_, _, _, _, _]) (hS2) 0 (.int .i64 1)) 1 (.int .i64 2)) 2 (.int .i64 3)) 3 (.int .i64 4))
          have cc := cells_of hc
          simp only [CellsAt, Nat.zero_add, Nat.reduceAdd] at cc
          clear hc hS2 hS hF
          refine ⟨_, HS.out, ?_⟩
          simp only [putAll, Act.put, List.setIfInBounds_toArray, List.set_cons_succ, List.set_cons_zero, e1]
          unfold Oper.wp
          go_simp
        · refine cstep_sto 1 rfl rfl rfl ?_
          intro v x hS hF
          have e8 : v 8 = .agg #[.int .i64 17, .int .i64 18, .int .i64 5, .int .i64 6, .int .i64 15, .int .i64 16, .int .i64 5, .int .i64 6] := hF 8 _ (by decide) rfl
          have hS2 : SF [] W x p Sough.twoS ((w3.heap.size, .cells #[.int .i64 17, .int .i64 18] 24 (0, 0)) :: (w2.heap.size, .cells #[.int .i64 15, .int .i64 16] 24 (0, 0)) :: (W.heap.size + 1 + 1 + 1, .cells #[.int .i64 1, .int .i64 2, .int .i64 3, .int .i64 4] 25 (0, 0)) :: (W.heap.size + 1 + 1, .cells #[.int .i64 0, .int .i64 0, .int .i64 0, .int .i64 0, .int .i64 0, .int .i64 0, .int .i64 0, .int .i64 0] 29 (0, 0)) :: (W.heap.size + 1, .cells #[.int .i64 0, .int .i64 0, .int .i64 0, .int .i64 0, .int .i64 0, .int .i64 0, .int .i64 0, .int .i64 0] 29 (0, 0)) :: (W.heap.size, .cells #[.int .i64 1, .int .i64 2, .int .i64 3, .int .i64 4] 25 (0, 0)) :: []) := hS
          have hc := hS2.get 4 rfl
          have HS : Hid (SF [] W _ p Sough.twoS ((w3.heap.size, .cells #[.int .i64 17, .int .i64 18] 24 (0, 0)) :: (w2.heap.size, .cells #[.int .i64 15, .int .i64 16] 24 (0, 0)) :: (W.heap.size + 1 + 1 + 1, .cells #[.int .i64 1, .int .i64 2, .int .i64 3, .int .i64 4] 25 (0, 0)) :: (W.heap.size + 1 + 1, .cells #[.int .i64 0, .int .i64 0, .int .i64 0, .int .i64 0, .int .i64 0, .int .i64 0, .int .i64 0, .int .i64 0] 29 (0, 0)) :: (W.heap.size + 1, .cells #[.int .i64 17, .int .i64 18, .int .i64 5, .int .i64 6, .int .i64 15, .int .i64 16, .int .i64 5, .int .i64 6] 29 (0, 0)) :: (W.heap.size, .cells #[.int .i64 1, .int .i64 2, .int .i64 3, .int .i64 4] 25 (0, 0)) :: [])) := Lib.hid (SF.setMid (A := [_, _, _, _]) (SF.setMid (A := [_, _, _, _]) (SF.setMid (A := [_, _, _, _]) (SF.setMid (A := [_, _, _, _]) (SF.setMid (A := [_, _, _, _]) (SF.setMid (A := [_, _, _, _]) (SF.setMid (A := [_, _, _, _]) (SF.setMid (A := [_, _, _, _]) (hS2) 0 (.int .i64 17)) 1 (.int .i64 18)) 2 (.int .i64 5)) 3 (.int .i64 6)) 4 (.int .i64 15)) 5 (.int .i64 16)) 6 (.int .i64 5)) 7 (.int .i64 6))
          have cc := cells_of hc
          simp only [CellsAt, Nat.zero_add, Nat.reduceAdd] at cc
          clear hc hS2 hS hF
          refine ⟨_, HS.out, ?_⟩
          simp only [putAll, Act.put, List.setIfInBounds_toArray, List.set_cons_succ, List.set_cons_zero, e8]
          unfold Oper.wp
          go_simp
      · intro v x hF hS
        have e9 : v 9 = .pointer (some ⟨p, 0, none⟩) := hF 9 _ (by decide) rfl
        have F9 : Hid (SF [] W x p Sough.twoS ((w3.heap.size, .cells #[.int .i64 17, .int .i64 18] 24 (0, 0)) :: (w2.heap.size, .cells #[.int .i64 15, .int .i64 16] 24 (0, 0)) :: (W.heap.size + 1 + 1 + 1, .cells #[.int .i64 1, .int .i64 2, .int .i64 3, .int .i64 4] 25 (0, 0)) :: (W.heap.size + 1 + 1, .cells #[.int .i64 0, .int .i64 0, .int .i64 0, .int .i64 0, .int .i64 0, .int .i64 0, .int .i64 0, .int .i64 0] 29 (0, 0)) :: (W.heap.size + 1, .cells #[.int .i64 17, .int .i64 18, .int .i64 5, .int .i64 6, .int .i64 15, .int .i64 16, .int .i64 5, .int .i64 6] 29 (0, 0)) :: (W.heap.size, .cells #[.int .i64 1, .int .i64 2, .int .i64 3, .int .i64 4] 25 (0, 0)) :: [])) := Lib.hid hS
        clear hS hF
        simp only [putAll, Act.put, List.setIfInBounds_toArray, List.set_cons_succ, List.set_cons_zero, e9]
        go_wp2_with fail
        have g0 := F9.out.get 5 rfl
        have g1 := F9.out.get 4 rfl
        refine bodyPost_ret (v := .tuple #[.pointer (some ⟨p, 0, none⟩), .agg #[.int .i64 1, .int .i64 2, .int .i64 3, .int .i64 4], .agg #[.int .i64 17, .int .i64 18, .int .i64 5, .int .i64 6, .int .i64 15, .int .i64 16, .int .i64 5, .int .i64 6]]) (by simp [results, Try.results11, go_sem, World.cell?, g0, g1]) rfl ⟨p, rfl, F9.out.sub (List.nil_sublist _)⟩
end Go.Proofs.Ytlfgempjjoclbaa
namespace Sough
def eR {α : Type} (r : Res α) : Nat := match r.2 with
  | .ok _ => 0
  | .error e => e
def vR {α : Type} (d : α) (r : Res α) : α := match r.2 with
  | .ok a => a
  | .error _ => d
def zeroM : Msg := ⟨fun _ => 0, []⟩
def zeroPd : Pending := ⟨zeroY, 0, 0, []⟩
def zeroO : Opened := ⟨zeroY, 0, 0, 0, 0, 0, 0⟩
def zeroS : Sesn := ⟨0, 0, 0, 0⟩
def zeroP : Peer := ⟨⟨0, 0⟩, 0, 0⟩
def me0 : Pair := ⟨1, 2⟩
def me1 : Pair := ⟨3, 4⟩
def peer0 : Peer := ⟨⟨17, 18⟩, 5, 6⟩
def peer1 : Peer := ⟨⟨15, 16⟩, 5, 6⟩
def reqM (frm : Int) (offer : List UInt8) (slot : Int) : Msg := ⟨fun c => if c = 1 then frm else if c = 4 then slot else 0, offer⟩
def fB : Res (Msg × Pending) := beginT twoS me0 peer0 (reqM 7 [3, 1] 1) 300 7 8 9
def fM : Msg := (vR (zeroM, zeroPd) fB).1
def fQ : Pending := (vR (zeroM, zeroPd) fB).2
def fO : Res Opened := openedT fB.1 me1 [zeroP, peer1] [2, 1] fM
def fA : Res (Msg × Sesn) := answerT fO.1 (vR zeroO fO) 9 7 10 11
def fY : Msg := (vR (zeroM, zeroS) fA).1
def fF : Res Sesn := finishT fA.1 me0 fQ fY
theorem t1 : eR fB = 0 := by decide +kernel
theorem t2 : eR fO = 0 := by decide +kernel
theorem t3 : eR fA = 0 := by decide +kernel
theorem t4 : eR fF = 0 ∧ (vR zeroS fF).h = (vR (zeroM, zeroS) fA).2.h := by decide +kernel
end Sough
namespace Sough
open Go.Proofs.Ytlfgempjjoclbaa (bnd_ok hashT_sok textT_sok firstT_wf publicsT_name wrapT_name)
theorem need_true {b : Bool} {e : Nat} {st s : Store} {u : Unit} (h : need b e st = (s, .ok u)) : b = true ∧ s = st := by
  unfold need at h
  split at h
  · simp at h; exact ⟨by assumption, h.symm⟩
  · simp at h
section
variable {st s : Store} {y z : Sym} {x q : Int}
theorem mixT_sok (h : st.Ok) (hy : y.Wf) (hx : Int64 x) (hf : mixT st y x = (s, .ok z)) : s.Ok := by
  have := symMix_ok (y := y) (x := x) h hy.ck hx; rw [resY_ok hf] at this; exact this
theorem publicT_sok (h : st.Ok) (hx : Int64 x) (hf : publicT st x = (s, .ok q)) : s.Ok := by
  obtain ⟨n, e, _⟩ := res1_ok hf
  have := public_ok h hx; rw [e] at this; exact this
theorem wrappingT_sok (h : st.Ok) (hx : Int64 x) (hf : wrappingT st x = (s, .ok q)) : s.Ok := by
  obtain ⟨n, e, _⟩ := res1_ok hf
  have := wrapping_ok h hx; rw [e] at this; exact this
theorem agreedT_sok {r : Int} (h : st.Ok) (hx : Int64 x) (hf : agreedT st x r = (s, .ok q)) : s.Ok := by
  obtain ⟨n, e, _⟩ := res1_ok hf
  have := agree_ok (q := r) h hx; rw [e] at this; exact this
theorem unwrappedT_sok {r : Int} (h : st.Ok) (hx : Int64 x) (hf : unwrappedT st x r = (s, .ok q)) : s.Ok := by
  obtain ⟨n, e, _⟩ := res1_ok hf
  have := kopen_ok (q := r) h hx; rw [e] at this; exact this
theorem sealT_sok {z : Sym × Int} (h : st.Ok) (hy : y.Wf) (hx : Int64 x) (hf : sealT st y x = (s, .ok z)) : s.Ok := by
  have := symSeal_ok (y := y) (x := x) h hy hx; rw [resYX_ok hf] at this; exact this
theorem openT_sok {z : Sym × Int} (h : st.Ok) (hy : y.Wf) (hx : Int64 x) (hf : openT st y x = (s, .ok z)) : s.Ok := by
  have := symOpen_ok (y := y) (x := x) h hy hx; rw [resYX_ok hf] at this; exact this
theorem splitT_names {z : Int × Int} (h : st.Ok) (hy : y.Wf) (hf : splitT st y = (s, .ok z)) : Int64 z.1 ∧ Int64 z.2 := by
  obtain ⟨a, b, e, rfl⟩ := res2_ok hf
  unfold symSplit at e
  split at e
  · simp only [Prod.mk.injEq] at e
    obtain ⟨_, _, _, e⟩ := e
    contradiction
  · have ho : (st.putText []).1.Ok := putText_ok h (by simp)
    have := kdfMix_names (st := (st.putText []).1) (a := y.ck) (b := (st.putText []).2.1) ho hy.ck (i64_nat (put_name h _))
    rw [e] at this
    exact this
theorem wrapT_sok {z : Sym × Int} {d : Int} (h : st.Ok) (hd : Int64 d) (hy : y.Wf) (hf : wrapT st y q d = (s, .ok z)) : s.Ok := by
  unfold wrapT at hf
  replace hf := bnd_ok hf
  obtain ⟨s1, b, h1, hf⟩ := hf
  have hk := kwrap_names (q := q) h hd
  have ho := kwrap_ok (q := q) h hd
  obtain ⟨a, c, h2, rfl⟩ := res2_ok h1
  rw [h2] at hk ho
  replace hf := bnd_ok hf
  obtain ⟨s2, z1, h3, hf⟩ := hf
  have o2 := hashT_sok ho hy hk.1 h3
  have w2 := hashT_wf ho hy h3
  replace hf := bnd_ok hf
  obtain ⟨s3, z2, h4, hf⟩ := hf
  have o3 := mixT_sok o2 w2 hk.2 h4
  simp only [Prod.mk.injEq] at hf
  rw [← hf.1]; exact o3
theorem firstT_sok {text : List UInt8} {slot : Int} {p : Pair} (h : st.Ok) (ht : text.length ≤ 9223372036854775807) (ha : Int64 p.dh) (hb : Int64 p.kem) (hf : firstT st text slot p = (s, .ok y)) : s.Ok := by
  unfold firstT at hf
  replace hf := bnd_ok hf
  obtain ⟨s1, y1, h1, hf⟩ := hf
  have w1 := Go.Proofs.Ytlfgempjjoclbaa.symBegin_wf h h1
  have o1 : s1.Ok := by have := symBegin_ok (s := sough) h (by decide); rw [resY_ok h1] at this; exact this
  replace hf := bnd_ok hf
  obtain ⟨s2, x2, h2, hf⟩ := hf
  have o2 := textT_sok o1 ht h2
  replace hf := bnd_ok hf
  obtain ⟨s3, y3, h3, hf⟩ := hf
  have n2 := textT_name o1 h2
  have w3 := hashT_wf o2 w1 h3
  have o3 := hashT_sok o2 w1 n2 h3
  replace hf := bnd_ok hf
  obtain ⟨s4, x4, h4, hf⟩ := hf
  have hl : (slotText slot).length ≤ 9223372036854775807 := by unfold slotText; split <;> simp
  have o4 := textT_sok o3 hl h4
  have n4 := textT_name o3 h4
  replace hf := bnd_ok hf
  obtain ⟨s5, y5, h5, hf⟩ := hf
  have w5 := hashT_wf o4 w3 h5
  have o5 := hashT_sok o4 w3 n4 h5
  replace hf := bnd_ok hf
  obtain ⟨s6, y6, h6, hf⟩ := hf
  have w6 := hashT_wf o5 w5 h6
  have o6 := hashT_sok o5 w5 ha h6
  exact hashT_sok o6 w6 hb hf
theorem publicsT_sok {a b : Pair} (h : st.Ok) (ha : Int64 a.dh) (hb : Int64 a.kem) (hf : publicsT st a = (s, .ok b)) : s.Ok := by
  unfold publicsT at hf
  replace hf := bnd_ok hf
  obtain ⟨s1, x1, h1, hf⟩ := hf
  have o1 := publicT_sok h ha h1
  replace hf := bnd_ok hf
  obtain ⟨s2, x2, h2, hf⟩ := hf
  have o2 := wrappingT_sok o1 hb h2
  simp only [Prod.mk.injEq] at hf
  rw [← hf.1]; exact o2
end
theorem right_cell {m : Msg} (hr : m.right = true) (c : Nat) (hc : c ∈ cellsN) : 0 ≤ m.v c ∧ m.v c ≤ 4294967296 := by
  unfold Msg.right at hr
  rw [Bool.and_eq_true, Bool.and_eq_true] at hr
  obtain ⟨⟨h1, h2⟩, h3⟩ := hr
  by_cases h0 : c = 0
  · subst h0
    rcases flds_cases (m.v 0) with ⟨e, _⟩ | ⟨e, _⟩ | ⟨e, _⟩ | ⟨e, _⟩ | ⟨_, _, _, _, e⟩
    · rw [e]; decide
    · rw [e]; decide
    · rw [e]; decide
    · rw [e]; decide
    · rw [e] at h1; simp at h1
  unfold Msg.same at h3
  rw [Bool.and_eq_true, List.all_eq_true] at h3
  have hv := h3.1 c hc
  simp only [onlyL, decide_eq_true_eq, if_neg h0] at hv
  by_cases hh : hasF (flds (m.v 0)) c = true
  · unfold hasF at hh
    rw [List.any_eq_true] at hh
    obtain ⟨f, hf, e⟩ := hh
    simp only [beq_iff_eq] at e
    subst e
    have h3 : ¬ f.c = 3 := fun e => by rw [e] at hc; revert hc; decide
    have := List.all_eq_true.1 h2 f hf
    unfold fldOk at this
    rw [if_neg h3, decide_eq_true_eq] at this
    have hb := fld_bounds hf
    omega
  · rw [if_neg (fun h => hh h.1)] at hv
    rw [hv]; decide
theorem right_wf {m : Msg} (hr : m.right = true) : m.Wf := by
  have hc := right_cell hr
  refine ⟨fun c h => ?_, fun c h => ?_, ?_⟩
  · have := hc c (by revert h; simp [cellsN]; omega)
    omega
  · have := hc c (by revert h; simp [cellsN]; omega)
    omega
  · unfold Msg.right at hr
    rw [Bool.and_eq_true, Bool.and_eq_true] at hr
    obtain ⟨⟨h1, h2⟩, h3⟩ := hr
    unfold Msg.same at h3
    rw [Bool.and_eq_true, decide_eq_true_eq] at h3
    have hv := h3.2
    simp only [onlyL] at hv
    by_cases hh : hasF (flds (m.v 0)) 3 = true
    · unfold hasF at hh
      rw [List.any_eq_true] at hh
      obtain ⟨f, hf, e⟩ := hh
      simp only [beq_iff_eq] at e
      have := List.all_eq_true.1 h2 f hf
      unfold fldOk offerOk at this
      rw [if_pos e, Bool.and_eq_true, decide_eq_true_eq] at this
      omega
    · rw [if_neg hh] at hv
      rw [hv]; simp
structure Pending.Wf (q : Pending) : Prop where
  y : q.y.Wf
  e : Int64 q.e
  ek : Int64 q.ek
  offer : q.offer.length ≤ 9223372036854775807
structure Opened.Wf (o : Opened) : Prop where
  y : o.y.Wf
  version : Int64 o.version
  e : Int64 o.e
  ek : Int64 o.ek
  pub : Int64 o.pub
structure Sesn.Wf (z : Sesn) : Prop where
  h : Int64 z.h
  send : Int64 z.send
  recv : Int64 z.recv
theorem zeroM_wf : zeroM.Wf := ⟨fun c _ => by simp [zeroM], fun c _ => by simp [zeroM], by decide⟩
theorem zeroPd_wf : zeroPd.Wf := ⟨zeroY_wf, i64_zero, i64_zero, by decide⟩
theorem zeroO_wf : zeroO.Wf := ⟨zeroY_wf, i64_zero, i64_zero, i64_zero, i64_zero⟩
theorem zeroS_wf : zeroS.Wf := ⟨i64_zero, i64_zero, i64_zero⟩
theorem beginT_wf {st s : Store} {me : Pair} {pr : Peer} {m x : Msg} {stamp : Nat} {d0 d1 d2 : Int} {q : Pending} (h : st.Ok) (hm : m.Wf) (hme : Int64 me.dh ∧ Int64 me.kem) (hpr : Int64 pr.pub.dh ∧ Int64 pr.pub.kem ∧ Int64 pr.p0 ∧ Int64 pr.p1) (hd : Int64 d0 ∧ Int64 d1 ∧ Int64 d2)
    (hf : beginT st me pr m stamp d0 d1 d2 = (s, .ok (x, q))) : x.Wf ∧ q.Wf := by
  unfold beginT at hf
  replace hf := bnd_ok hf
  obtain ⟨s0, u0, h0, hf⟩ := hf
  obtain ⟨_, rfl⟩ := need_true h0
  replace hf := bnd_ok hf
  obtain ⟨s1, y1, h1, hf⟩ := hf
  have w1 := firstT_wf h hm.text hpr.1 hpr.2.1 h1
  have o1 := firstT_sok h hm.text hpr.1 hpr.2.1 h1
  replace hf := bnd_ok hf
  obtain ⟨s2, e2, h2, hf⟩ := hf
  have o2 := publicT_sok o1 hd.1 h2
  have n2 := publicT_name o1 h2
  replace hf := bnd_ok hf
  obtain ⟨s3, y3, h3, hf⟩ := hf
  have w3 := hashT_wf o2 w1 h3
  have o3 := hashT_sok o2 w1 n2 h3
  replace hf := bnd_ok hf
  obtain ⟨s4, e4, h4, hf⟩ := hf
  have o4 := wrappingT_sok o3 hd.2.1 h4
  have n4 := wrappingT_name o3 h4
  replace hf := bnd_ok hf
  obtain ⟨s5, y5, h5, hf⟩ := hf
  have w5 := hashT_wf o4 w3 h5
  have o5 := hashT_sok o4 w3 n4 h5
  replace hf := bnd_ok hf
  obtain ⟨s6, x6, h6, hf⟩ := hf
  have o6 := agreedT_sok o5 hd.1 h6
  have n6 := agreedT_name o5 h6
  replace hf := bnd_ok hf
  obtain ⟨s7, y7, h7, hf⟩ := hf
  have w7 := mixT_wf o6 w5 n6 h7
  have o7 := mixT_sok o6 w5 n6 h7
  replace hf := bnd_ok hf
  obtain ⟨s8, b8, h8, hf⟩ := hf
  have w8 := wrapT_name o7 hd.2.2 w7 h8
  have o8 := wrapT_sok o7 hd.2.2 w7 h8
  replace hf := bnd_ok hf
  obtain ⟨s9, x9, h9, hf⟩ := hf
  have o9 := publicT_sok o8 hme.1 h9
  have n9 := publicT_name o8 h9
  replace hf := bnd_ok hf
  obtain ⟨s10, c10, h10, hf⟩ := hf
  have w10 := sealT_wf o9 w8.2 n9 h10
  have o10 := sealT_sok o9 w8.2 n9 h10
  replace hf := bnd_ok hf
  obtain ⟨s11, x11, h11, hf⟩ := hf
  have o11 := agreedT_sok o10 hme.1 h11
  have n11 := agreedT_name o10 h11
  replace hf := bnd_ok hf
  obtain ⟨s12, y12, h12, hf⟩ := hf
  have w12 := mixT_wf o11 w10 n11 h12
  have o12 := mixT_sok o11 w10 n11 h12
  replace hf := bnd_ok hf
  obtain ⟨s13, y13, h13, hf⟩ := hf
  have hp : Int64 (pr.psk (m.v 4)) := by unfold Peer.psk; split <;> first | exact hpr.2.2.1 | exact hpr.2.2.2
  have w13 := mixT_wf o12 w12 hp h13
  have o13 := mixT_sok o12 w12 hp h13
  replace hf := bnd_ok hf
  obtain ⟨s14, x14, h14, hf⟩ := hf
  have hl : (put stamp).length ≤ 9223372036854775807 := by have := (put_len stamp).2; omega
  have o14 := textT_sok o13 hl h14
  have n14 := textT_name o13 h14
  replace hf := bnd_ok hf
  obtain ⟨s15, c15, h15, hf⟩ := hf
  have w15 := sealT_wf o14 w13 n14 h15
  replace hf := bnd_ok hf
  obtain ⟨s16, u16, h16, hf⟩ := hf
  obtain ⟨hr, rfl⟩ := need_true h16
  simp only [Prod.mk.injEq, Except.ok.injEq] at hf
  obtain ⟨_, rfl, rfl⟩ := hf
  exact ⟨right_wf hr, w15, hd.1, hd.2.1, hm.text⟩
theorem openedT_wf {st s : Store} {me : Pair} {peers : List Peer} {text : List UInt8} {m : Msg} {o : Opened} (h : st.Ok) (hme : Int64 me.dh ∧ Int64 me.kem) (hpe : ∀ q ∈ peers, Int64 q.p0 ∧ Int64 q.p1) (hm : m.Wf) (hf : openedT st me peers text m = (s, .ok o)) : o.Wf ∧ o.stamp < 18446744073709551616 ∧ 0 ≤ o.peer ∧ o.peer < peers.length := by
  unfold openedT at hf
  replace hf := bnd_ok hf
  obtain ⟨s0, u0, h0, hf⟩ := hf
  obtain ⟨_, rfl⟩ := need_true h0
  replace hf := bnd_ok hf
  obtain ⟨s1, u1, h1, hf⟩ := hf
  obtain ⟨_, rfl⟩ := need_true h1
  replace hf := bnd_ok hf
  obtain ⟨s2, pb, h2, hf⟩ := hf
  have n2 := publicsT_name h hme.1 hme.2 h2
  have o2 := publicsT_sok h hme.1 hme.2 h2
  replace hf := bnd_ok hf
  obtain ⟨s3, y3, h3, hf⟩ := hf
  have w3 := firstT_wf o2 hm.text n2.1 n2.2 h3
  have o3 := firstT_sok o2 hm.text n2.1 n2.2 h3
  have hv : ∀ c, c = 6 ∨ c = 7 ∨ c = 8 ∨ c = 9 ∨ c = 10 → Int64 (m.v c) := fun c hc => hm.ints c (by simp; omega)
  replace hf := bnd_ok hf
  obtain ⟨s4, y4, h4, hf⟩ := hf
  have w4 := hashT_wf o3 w3 h4
  have o4 := hashT_sok o3 w3 (hv 6 (by omega)) h4
  replace hf := bnd_ok hf
  obtain ⟨s5, y5, h5, hf⟩ := hf
  have w5 := hashT_wf o4 w4 h5
  have o5 := hashT_sok o4 w4 (hv 7 (by omega)) h5
  replace hf := bnd_ok hf
  obtain ⟨s6, x6, h6, hf⟩ := hf
  have o6 := agreedT_sok o5 hme.1 h6
  have n6 := agreedT_name o5 h6
  replace hf := bnd_ok hf
  obtain ⟨s7, y7, h7, hf⟩ := hf
  have w7 := mixT_wf o6 w5 n6 h7
  have o7 := mixT_sok o6 w5 n6 h7
  replace hf := bnd_ok hf
  obtain ⟨s8, y8, h8, hf⟩ := hf
  have w8 := hashT_wf o7 w7 h8
  have o8 := hashT_sok o7 w7 (hv 8 (by omega)) h8
  replace hf := bnd_ok hf
  obtain ⟨s9, x9, h9, hf⟩ := hf
  have o9 := unwrappedT_sok o8 hme.2 h9
  have n9 := unwrappedT_name o8 h9
  replace hf := bnd_ok hf
  obtain ⟨s10, y10, h10, hf⟩ := hf
  have w10 := mixT_wf o9 w8 n9 h10
  have o10 := mixT_sok o9 w8 n9 h10
  replace hf := bnd_ok hf
  obtain ⟨s11, yp, h11, hf⟩ := hf
  have w11 := openT_wf o10 w10 h11
  have n11 := openT_name o10 h11
  have o11 := openT_sok o10 w10 (hv 9 (by omega)) h11
  replace hf := bnd_ok hf
  obtain ⟨s12, i, h12, hf⟩ := hf
  have hi : i < peers.length ∧ s12 = s11 := by
    unfold whoT at h12
    split at h12
    · rename_i j hj
      simp only [Prod.mk.injEq, Except.ok.injEq] at h12
      obtain ⟨rfl, rfl⟩ := h12
      exact ⟨Go.Proofs.Ytlfgempjjoclbaa.who_lt hj, rfl⟩
    · simp at h12
  obtain ⟨hi, rfl⟩ := hi
  replace hf := bnd_ok hf
  obtain ⟨s13, x13, h13, hf⟩ := hf
  have o13 := agreedT_sok o11 hme.1 h13
  have n13 := agreedT_name o11 h13
  replace hf := bnd_ok hf
  obtain ⟨s14, y14, h14, hf⟩ := hf
  have w14 := mixT_wf o13 w11 n13 h14
  have o14 := mixT_sok o13 w11 n13 h14
  replace hf := bnd_ok hf
  obtain ⟨s15, y15, h15, hf⟩ := hf
  have hp : Int64 ((peers.getD i ⟨⟨0, 0⟩, 0, 0⟩).psk (m.v 4)) := by
    have h2 := hpe (peers[i]) (List.getElem_mem _)
    rw [List.getD_eq_getElem?_getD, List.getElem?_eq_getElem hi]
    unfold Peer.psk
    split
    · exact h2.1
    · exact h2.2
  have w15 := mixT_wf o14 w14 hp h15
  have o15 := mixT_sok o14 w14 hp h15
  replace hf := bnd_ok hf
  obtain ⟨s16, yz, h16, hf⟩ := hf
  have w16 := openT_wf o15 w15 h16
  replace hf := bnd_ok hf
  obtain ⟨s17, ss, h17, hf⟩ := hf
  replace hf := bnd_ok hf
  obtain ⟨s18, n, h18, hf⟩ := hf
  have hn : n < 18446744073709551616 := by
    unfold stampT at h18
    split at h18
    · simp only [Prod.mk.injEq, Except.ok.injEq] at h18
      rw [← h18.2]
      exact (get_bound ss 0).2
    · simp at h18
  simp only [Prod.mk.injEq, Except.ok.injEq] at hf
  obtain ⟨_, rfl⟩ := hf
  have hb : Int64 ((bestO text m.offer).1 : Nat) := by
    unfold bestO
    split
    · exact i64_zero
    · split
      · exact i64_zero
      · have := ((bothO text m.offer).headD 0).toNat_lt
        exact i64_nat (by simp only; omega)
  exact ⟨⟨w16, hb, hv 6 (by omega), hv 7 (by omega), n11⟩, hn, by simp only; omega, by simp only; omega⟩
theorem answerT_wf {st s : Store} {o : Opened} {frm to d0 d1 : Int} {x : Msg} {z : Sesn} (h : st.Ok) (ho : o.Wf) (hd : Int64 d0 ∧ Int64 d1) (hf : answerT st o frm to d0 d1 = (s, .ok (x, z))) : x.Wf ∧ z.Wf := by
  unfold answerT at hf
  replace hf := bnd_ok hf
  obtain ⟨s1, e1, h1, hf⟩ := hf
  have o1 := publicT_sok h hd.1 h1
  have n1 := publicT_name h h1
  replace hf := bnd_ok hf
  obtain ⟨s2, y2, h2, hf⟩ := hf
  have w2 := hashT_wf o1 ho.y h2
  have o2 := hashT_sok o1 ho.y n1 h2
  replace hf := bnd_ok hf
  obtain ⟨s3, x3, h3, hf⟩ := hf
  have o3 := agreedT_sok o2 hd.1 h3
  have n3 := agreedT_name o2 h3
  replace hf := bnd_ok hf
  obtain ⟨s4, y4, h4, hf⟩ := hf
  have w4 := mixT_wf o3 w2 n3 h4
  have o4 := mixT_sok o3 w2 n3 h4
  replace hf := bnd_ok hf
  obtain ⟨s5, x5, h5, hf⟩ := hf
  have o5 := agreedT_sok o4 hd.1 h5
  have n5 := agreedT_name o4 h5
  replace hf := bnd_ok hf
  obtain ⟨s6, y6, h6, hf⟩ := hf
  have w6 := mixT_wf o5 w4 n5 h6
  have o6 := mixT_sok o5 w4 n5 h6
  replace hf := bnd_ok hf
  obtain ⟨s7, b7, h7, hf⟩ := hf
  have w7 := wrapT_name o6 hd.2 w6 h7
  have o7 := wrapT_sok o6 hd.2 w6 h7
  replace hf := bnd_ok hf
  obtain ⟨s8, x8, h8, hf⟩ := hf
  have o8 := textT_sok o7 (by simp) h8
  have n8 := textT_name o7 h8
  replace hf := bnd_ok hf
  obtain ⟨s9, c9, h9, hf⟩ := hf
  have w9 := sealT_wf o8 w7.2 n8 h9
  have o9 := sealT_sok o8 w7.2 n8 h9
  replace hf := bnd_ok hf
  obtain ⟨s10, ab, h10, hf⟩ := hf
  have n10 := splitT_names o9 w9 h10
  replace hf := bnd_ok hf
  obtain ⟨s11, u11, h11, hf⟩ := hf
  obtain ⟨hr, rfl⟩ := need_true h11
  simp only [Prod.mk.injEq, Except.ok.injEq] at hf
  obtain ⟨_, rfl, rfl⟩ := hf
  exact ⟨right_wf hr, w9.h, n10.2, n10.1⟩
theorem finishT_wf {st s : Store} {me : Pair} {p : Pending} {m : Msg} {z : Sesn} (h : st.Ok) (hme : Int64 me.dh) (hp : p.Wf) (hm : m.Wf) (hf : finishT st me p m = (s, .ok z)) : z.Wf := by
  unfold finishT at hf
  have hv : ∀ c, c = 6 ∨ c = 8 ∨ c = 9 → Int64 (m.v c) := fun c hc => hm.ints c (by simp; omega)
  replace hf := bnd_ok hf
  obtain ⟨s0, u0, h0, hf⟩ := hf
  obtain ⟨_, rfl⟩ := need_true h0
  replace hf := bnd_ok hf
  obtain ⟨s2, y2, h2, hf⟩ := hf
  have w2 := hashT_wf h hp.y h2
  have o2 := hashT_sok h hp.y (hv 6 (by omega)) h2
  replace hf := bnd_ok hf
  obtain ⟨s3, x3, h3, hf⟩ := hf
  have o3 := agreedT_sok o2 hp.e h3
  have n3 := agreedT_name o2 h3
  replace hf := bnd_ok hf
  obtain ⟨s4, y4, h4, hf⟩ := hf
  have w4 := mixT_wf o3 w2 n3 h4
  have o4 := mixT_sok o3 w2 n3 h4
  replace hf := bnd_ok hf
  obtain ⟨s5, x5, h5, hf⟩ := hf
  have o5 := agreedT_sok o4 hme h5
  have n5 := agreedT_name o4 h5
  replace hf := bnd_ok hf
  obtain ⟨s6, y6, h6, hf⟩ := hf
  have w6 := mixT_wf o5 w4 n5 h6
  have o6 := mixT_sok o5 w4 n5 h6
  replace hf := bnd_ok hf
  obtain ⟨s7, y7, h7, hf⟩ := hf
  have w7 := hashT_wf o6 w6 h7
  have o7 := hashT_sok o6 w6 (hv 8 (by omega)) h7
  replace hf := bnd_ok hf
  obtain ⟨s8, x8, h8, hf⟩ := hf
  have o8 := unwrappedT_sok o7 hp.ek h8
  have n8 := unwrappedT_name o7 h8
  replace hf := bnd_ok hf
  obtain ⟨s9, y9, h9, hf⟩ := hf
  have w9 := mixT_wf o8 w7 n8 h9
  have o9 := mixT_sok o8 w7 n8 h9
  replace hf := bnd_ok hf
  obtain ⟨s10, yv, h10, hf⟩ := hf
  have w10 := openT_wf o9 w9 h10
  have o10 := openT_sok o9 w9 (hv 9 (by omega)) h10
  replace hf := bnd_ok hf
  obtain ⟨s11, v, h11, hf⟩ := hf
  have e11 : s11 = s10 := by unfold readT at h11; split at h11 <;> simp at h11; exact h11.1.symm
  subst e11
  replace hf := bnd_ok hf
  obtain ⟨s12, u12, h12, hf⟩ := hf
  obtain ⟨_, rfl⟩ := need_true h12
  replace hf := bnd_ok hf
  obtain ⟨s13, u13, h13, hf⟩ := hf
  obtain ⟨_, rfl⟩ := need_true h13
  replace hf := bnd_ok hf
  obtain ⟨s14, ab, h14, hf⟩ := hf
  have n14 := splitT_names o10 w10 h14
  simp only [Prod.mk.injEq, Except.ok.injEq] at hf
  obtain ⟨_, rfl⟩ := hf
  exact ⟨w10.h, n14.1, n14.2⟩
end Sough
namespace Go.Proofs.Ytlfgempjjoclbaa
open Go.RowKit Go.Maps Go.ChangeMaps
set_option maxRecDepth 100000 in
set_option maxHeartbeats 6400000 in
theorem begin_1 {S : List Nat} {w0 W : World} {p stamp : Nat} {st : Sough.Store} {L : List (Nat × Obj)} {me : Sough.Pair} {pr : Sough.Peer} {m : Sough.Msg} {d0 d1 d2 : Int} {R : Sough.Res (Sough.Msg × Sough.Pending)} (h : SF S w0 W p st L) (hm : m.Wf) (h4 : m.v 4 = 1) (hst : stamp < 18446744073709551616)
    (hme : Sough.Int64 me.dh ∧ Sough.Int64 me.kem) (hpr : Sough.Int64 pr.pub.dh ∧ Sough.Int64 pr.pub.kem ∧ Sough.Int64 pr.p0 ∧ Sough.Int64 pr.p1) (hd : Sough.Int64 d0 ∧ Sough.Int64 d1 ∧ Sough.Int64 d2) (hf : Sough.beginT st me pr m stamp d0 d1 d2 = R) :
    Calls Try.prog 12 #[.pointer (some ⟨p, 0, none⟩), .agg #[.int .i64 me.dh, .int .i64 me.kem], .agg #[.int .i64 pr.pub.dh, .int .i64 pr.pub.kem, .int .i64 pr.p0, .int .i64 pr.p1], .agg #[.int .i64 (m.v 0), .int .u64 (m.v 1), .int .u64 (m.v 2), .string ⟨m.offer.toArray⟩, .int .i64 (m.v 4), .int .i64 (m.v 5), .int .i64 (m.v 6), .int .i64 (m.v 7), .int .i64 (m.v 8), .int .i64 (m.v 9), .int .i64 (m.v 10), .int .u64 (m.v 11), .int .u64 (m.v 12)], .int .u64 stamp, .agg #[.int .i64 d0, .int .i64 d1, .int .i64 d2]] W (BeginTo S w0 p L R) := by
  have HMW := Lib.hid hm; have HME := Lib.hid hme; have HPR := Lib.hid hpr; have HD := Lib.hid hd; have HST := Lib.hid hst
  have HR := Lib.hid hf
  unfold Sough.beginT at HR
  simp only [h4, Sough.need, Sough.Peer.psk, true_or, or_true, decide_true, Int.reduceEq, if_false, reduceIte, if_true, Sough.bnd] at HR
  rw [h4]
  have F0 := Lib.hid (((((((h.alloc (.cells #[.int .i64 me.dh, .int .i64 me.kem] 24)).alloc (.cells #[.int .i64 pr.pub.dh, .int .i64 pr.pub.kem, .int .i64 pr.p0, .int .i64 pr.p1] 28)).alloc (.cells #[.int .i64 (m.v 0), .int .u64 (m.v 1), .int .u64 (m.v 2), .string ⟨m.offer.toArray⟩, .int .i64 1, .int .i64 (m.v 5), .int .i64 (m.v 6), .int .i64 (m.v 7), .int .i64 (m.v 8), .int .i64 (m.v 9), .int .i64 (m.v 10), .int .u64 (m.v 11), .int .u64 (m.v 12)] 34)).alloc (.cells #[.int .i64 d0, .int .i64 d1, .int .i64 d2] 42)).alloc (.cells #[.int .i64 0, .int .u64 0, .int .u64 0, .string ⟨#[]⟩, .int .i64 0, .int .i64 0, .int .i64 0, .int .i64 0, .int .i64 0, .int .i64 0, .int .i64 0, .int .u64 0, .int .u64 0] 34)).alloc (.cells #[.int .i64 0, .int .i64 0, .int .i64 0, .int .u64 0, .int .i64 0, .int .i64 0, .string ⟨#[]⟩] 38)).alloc (.cells #[.int .i64 0] 39))
  simp only [World.size_alloc] at F0
  clear h hm h4 hme hpr hd hf hst
  go_enter_defers Try.func12, Try.ntmps12
  go_wp2_with fail
  refine (need_ok _).mono ?_
  rintro e w1 ⟨rfl, rfl⟩
  go_wp2_with fail
  have HO0 := Lib.hid F0.out.ok
  obtain ⟨s1, r1, h1⟩ : ∃ s r, Sough.firstT st m.offer 1 pr.pub = (s, r) := ⟨_, _, rfl⟩
  rcases r1 with er | y1
  · have hq := HR.out; simp only [h1] at hq
    refine (first_any F0.out HMW.out.text (.inr rfl) HPR.out.1 HPR.out.2.1 h1).mono ?_
    rintro e w2 ⟨rfl, g⟩
    exact begin_bad rfl rfl rfl g (by repeat (first | with_reducible exact List.Sublist.refl _ | with_reducible refine List.Sublist.cons_cons _ ?_ | refine List.Sublist.cons _ ?_)) hq
  have hq := HR.out; simp only [h1] at hq
  have HR1 := Lib.hid hq
  clear hq HR
  have HY1 := Lib.hid (firstT_wf HO0.out HMW.out.text HPR.out.1 HPR.out.2.1 h1)
  refine (first_any F0.out HMW.out.text (.inr rfl) HPR.out.1 HPR.out.2.1 h1).mono ?_
  rintro e w2 ⟨t, rfl, g⟩
  have F1 := Lib.hid ((g.alloc (.cells #[.int .i64 1, .int .u64 (m.v 1), .int .u64 0, .string ⟨m.offer.toArray⟩, .int .i64 1, .int .i64 0, .int .i64 0, .int .i64 0, .int .i64 0, .int .i64 0, .int .i64 0, .int .u64 0, .int .u64 0] 34)).perm (List.Perm.swap _ _ _))
  have r := g.mem.rules; simp only [AllCells, CellsAt, Nat.zero_add, Nat.reduceAdd, talkC] at r
  clear g h1 F0
  have r1 := F1.out.mem.rules; simp only [AllCells, CellsAt, Nat.zero_add, Nat.reduceAdd, talkC] at r1
  go_wp2_with fail
  clear r r1
  have HO1 := Lib.hid F1.out.ok
  obtain ⟨s2, r2, h2⟩ : ∃ s r, Sough.publicT s1 d0 = (s, r) := ⟨_, _, rfl⟩
  rcases r2 with er | e2
  · have hq := HR1.out; simp only [h2, Sough.bnd] at hq
    refine (publicT_er F1.out HD.out.1 h2).mono ?_
    rintro e w3 ⟨rfl, _, g⟩
    exact begin_bad rfl rfl rfl g (by repeat (first | with_reducible exact List.Sublist.refl _ | with_reducible refine List.Sublist.cons_cons _ ?_ | refine List.Sublist.cons _ ?_)) hq
  have hq := HR1.out; simp only [h2, Sough.bnd] at hq
  have HR2 := Lib.hid hq
  clear hq HR1
  have Hh2 := Lib.hid h2
  refine (publicT_ok F1.out HD.out.1 h2).mono ?_
  rintro e w3 ⟨rfl, g⟩
  have F2 := Lib.hid g
  clear g h2 F1
  have r := F2.out.mem.rules; simp only [AllCells, CellsAt, Nat.zero_add, Nat.reduceAdd, talkC] at r
  go_wp2_with fail
  clear r
  have F2s : Hid (SF S w0 (w3.setCell ⟨w2.heap.size, 6, none⟩ (.int .i64 e2)) p s2 ((t, talkC p (y1)) :: (w2.heap.size, .cells #[.int .i64 1, .int .u64 (m.v 1), .int .u64 0, .string ⟨m.offer.toArray⟩, .int .i64 1, .int .i64 0, .int .i64 e2, .int .i64 0, .int .i64 0, .int .i64 0, .int .i64 0, .int .u64 0, .int .u64 0] 34 (0, 0)) :: _)) := Lib.hid (F2.out.setMid (A := [_]) 6 (.int .i64 e2))
  clear F2
  have HE2 := Lib.hid (Sough.publicT_name HO1.out Hh2.out)
  have HO2 := Lib.hid F2s.out.ok
  obtain ⟨s3, r3, h3⟩ : ∃ s r, Sough.hashT s2 y1 e2 = (s, r) := ⟨_, _, rfl⟩
  rcases r3 with er | y3
  · have hq := HR2.out; simp only [h3, Sough.bnd] at hq
    refine (hashT_er F2s.out HY1.out HE2.out h3).mono ?_
    rintro e w4 ⟨rfl, _, g⟩
    exact begin_bad rfl rfl rfl g (by repeat (first | with_reducible exact List.Sublist.refl _ | with_reducible refine List.Sublist.cons_cons _ ?_ | refine List.Sublist.cons _ ?_)) hq
  have hq := HR2.out; simp only [h3, Sough.bnd] at hq
  have HR3 := Lib.hid hq
  clear hq HR2
  have Hh3 := Lib.hid h3
  refine (hashT_ok F2s.out HY1.out HE2.out h3).mono ?_
  rintro e w4 ⟨rfl, g⟩
  have F3 := Lib.hid g
  clear g h3 F2s
  have r := F3.out.mem.rules; simp only [AllCells, CellsAt, Nat.zero_add, Nat.reduceAdd, talkC] at r
  go_wp2_with fail
  clear r
  have HY3 := Lib.hid (Sough.hashT_wf HO2.out HY1.out Hh3.out)
  have HO3 := Lib.hid F3.out.ok
  obtain ⟨s4, r4, h4⟩ : ∃ s r, Sough.wrappingT s3 d1 = (s, r) := ⟨_, _, rfl⟩
  rcases r4 with er | k4
  · have hq := HR3.out; simp only [h4, Sough.bnd] at hq
    refine (wrappingT_er F3.out HD.out.2.1 h4).mono ?_
    rintro e w5 ⟨rfl, _, g⟩
    exact begin_bad rfl rfl rfl g (by repeat (first | with_reducible exact List.Sublist.refl _ | with_reducible refine List.Sublist.cons_cons _ ?_ | refine List.Sublist.cons _ ?_)) hq
  have hq := HR3.out; simp only [h4, Sough.bnd] at hq
  have HR4 := Lib.hid hq
  clear hq HR3
  have Hh4 := Lib.hid h4
  refine (wrappingT_ok F3.out HD.out.2.1 h4).mono ?_
  rintro e w5 ⟨rfl, g⟩
  have F4 := Lib.hid g
  clear g h4 F3
  have r := F4.out.mem.rules; simp only [AllCells, CellsAt, Nat.zero_add, Nat.reduceAdd, talkC] at r
  go_wp2_with fail
  clear r
  have F4s : Hid (SF S w0 (w5.setCell ⟨w2.heap.size, 7, none⟩ (.int .i64 k4)) p s4 ((t, talkC p (y3)) :: (w2.heap.size, .cells #[.int .i64 1, .int .u64 (m.v 1), .int .u64 0, .string ⟨m.offer.toArray⟩, .int .i64 1, .int .i64 0, .int .i64 e2, .int .i64 k4, .int .i64 0, .int .i64 0, .int .i64 0, .int .u64 0, .int .u64 0] 34 (0, 0)) :: _)) := Lib.hid (F4.out.setMid (A := [_]) 7 (.int .i64 k4))
  clear F4
  have HK4 := Lib.hid (Sough.wrappingT_name HO3.out Hh4.out)
  have HO4 := Lib.hid F4s.out.ok
  obtain ⟨s5, r5, h5⟩ : ∃ s r, Sough.hashT s4 y3 k4 = (s, r) := ⟨_, _, rfl⟩
  rcases r5 with er | y5
  · have hq := HR4.out; simp only [h5, Sough.bnd] at hq
    refine (hashT_er F4s.out HY3.out HK4.out h5).mono ?_
    rintro e w6 ⟨rfl, _, g⟩
    exact begin_bad rfl rfl rfl g (by repeat (first | with_reducible exact List.Sublist.refl _ | with_reducible refine List.Sublist.cons_cons _ ?_ | refine List.Sublist.cons _ ?_)) hq
  have hq := HR4.out; simp only [h5, Sough.bnd] at hq
  have HR5 := Lib.hid hq
  clear hq HR4
  have Hh5 := Lib.hid h5
  refine (hashT_ok F4s.out HY3.out HK4.out h5).mono ?_
  rintro e w6 ⟨rfl, g⟩
  have F5 := Lib.hid g
  clear g h5 F4s
  have r := F5.out.mem.rules; simp only [AllCells, CellsAt, Nat.zero_add, Nat.reduceAdd, talkC] at r
  go_wp2_with fail
  clear r
  have HY5 := Lib.hid (Sough.hashT_wf HO4.out HY3.out Hh5.out)
  have HO5 := Lib.hid F5.out.ok
  obtain ⟨s6, r6, h6⟩ : ∃ s r, Sough.agreedT s5 d0 pr.pub.dh = (s, r) := ⟨_, _, rfl⟩
  rcases r6 with er | x6
  · have hq := HR5.out; simp only [h6, Sough.bnd] at hq
    refine (agreedT_er F5.out HD.out.1 h6).mono ?_
    rintro e w7 ⟨rfl, _, g⟩
    exact begin_bad rfl rfl rfl g (by repeat (first | with_reducible exact List.Sublist.refl _ | with_reducible refine List.Sublist.cons_cons _ ?_ | refine List.Sublist.cons _ ?_)) hq
  have hq := HR5.out; simp only [h6, Sough.bnd] at hq
  have HR6 := Lib.hid hq
  clear hq HR5
  have Hh6 := Lib.hid h6
  refine (agreedT_ok F5.out HD.out.1 h6).mono ?_
  rintro e w7 ⟨rfl, g⟩
  have F6 := Lib.hid g
  clear g h6 F5
  have r := F6.out.mem.rules; simp only [AllCells, CellsAt, Nat.zero_add, Nat.reduceAdd, talkC] at r
  go_wp2_with fail
  clear r
  have HX6 := Lib.hid (Sough.agreedT_name HO5.out Hh6.out)
  have HO6 := Lib.hid F6.out.ok
  obtain ⟨s7, r7, h7⟩ : ∃ s r, Sough.mixT s6 y5 x6 = (s, r) := ⟨_, _, rfl⟩
  rcases r7 with er | y7
  · have hq := HR6.out; simp only [h7, Sough.bnd] at hq
    refine (mixT_er F6.out HY5.out HX6.out h7).mono ?_
    rintro e w8 ⟨rfl, _, g⟩
    exact begin_bad rfl rfl rfl g (by repeat (first | with_reducible exact List.Sublist.refl _ | with_reducible refine List.Sublist.cons_cons _ ?_ | refine List.Sublist.cons _ ?_)) hq
  have hq := HR6.out; simp only [h7, Sough.bnd] at hq
  have HR7 := Lib.hid hq
  clear hq HR6
  have Hh7 := Lib.hid h7
  refine (mixT_ok F6.out HY5.out HX6.out h7).mono ?_
  rintro e w8 ⟨rfl, g⟩
  have F7 := Lib.hid g
  clear g h7 F6
  have r := F7.out.mem.rules; simp only [AllCells, CellsAt, Nat.zero_add, Nat.reduceAdd, talkC] at r
  go_wp2_with fail
  clear r
  have HY7 := Lib.hid (Sough.mixT_wf HO6.out HY5.out HX6.out Hh7.out)
  have HO7 := Lib.hid F7.out.ok
  obtain ⟨s8, r8, h8⟩ : ∃ s r, Sough.wrapT s7 y7 pr.pub.kem d2 = (s, r) := ⟨_, _, rfl⟩
  rcases r8 with er | b8
  · have hq := HR7.out; simp only [h8, Sough.bnd] at hq
    refine (wrapT_er F7.out HY7.out HD.out.2.2 h8).mono ?_
    rintro e w9 ⟨rfl, _, g⟩
    exact begin_bad rfl rfl rfl g (by repeat (first | with_reducible exact List.Sublist.refl _ | with_reducible refine List.Sublist.cons_cons _ ?_ | refine List.Sublist.cons _ ?_)) hq
  have hq := HR7.out; simp only [h8, Sough.bnd] at hq
  have HR8 := Lib.hid hq
  clear hq HR7
  have Hh8 := Lib.hid h8
  refine (wrapT_ok F7.out HY7.out HD.out.2.2 h8).mono ?_
  rintro e w9 ⟨rfl, g⟩
  have F8 := Lib.hid g
  clear g h8 F7
  have r := F8.out.mem.rules; simp only [AllCells, CellsAt, Nat.zero_add, Nat.reduceAdd, talkC] at r
  go_wp2_with fail
  clear r
  have HB8 := Lib.hid (wrapT_name HO7.out HD.out.2.2 HY7.out Hh8.out)
  have F8s : Hid (SF S w0 (w9.setCell ⟨w2.heap.size, 8, none⟩ (.int .i64 b8.2)) p s8 ((t, talkC p (b8.1)) :: (w2.heap.size, .cells #[.int .i64 1, .int .u64 (m.v 1), .int .u64 0, .string ⟨m.offer.toArray⟩, .int .i64 1, .int .i64 0, .int .i64 e2, .int .i64 k4, .int .i64 b8.2, .int .i64 0, .int .i64 0, .int .u64 0, .int .u64 0] 34 (0, 0)) :: _)) := Lib.hid (F8.out.setMid (A := [_]) 8 (.int .i64 b8.2))
  clear F8
  have HO8 := Lib.hid F8s.out.ok
  obtain ⟨s9, r9, h9⟩ : ∃ s r, Sough.publicT s8 me.dh = (s, r) := ⟨_, _, rfl⟩
  rcases r9 with er | x9
  · have hq := HR8.out; simp only [h9, Sough.bnd] at hq
    refine (publicT_er F8s.out HME.out.1 h9).mono ?_
    rintro e w10 ⟨rfl, _, g⟩
    exact begin_bad rfl rfl rfl g (by repeat (first | with_reducible exact List.Sublist.refl _ | with_reducible refine List.Sublist.cons_cons _ ?_ | refine List.Sublist.cons _ ?_)) hq
  have hq := HR8.out; simp only [h9, Sough.bnd] at hq
  have HR9 := Lib.hid hq
  clear hq HR8
  have Hh9 := Lib.hid h9
  refine (publicT_ok F8s.out HME.out.1 h9).mono ?_
  rintro e w10 ⟨rfl, g⟩
  have F9 := Lib.hid g
  clear g h9 F8s
  have r := F9.out.mem.rules; simp only [AllCells, CellsAt, Nat.zero_add, Nat.reduceAdd, talkC] at r
  go_wp2_with fail
  clear r
  have HX9 := Lib.hid (Sough.publicT_name HO8.out Hh9.out)
  have HO9 := Lib.hid F9.out.ok
  obtain ⟨s10, r10, h10⟩ : ∃ s r, Sough.sealT s9 b8.1 x9 = (s, r) := ⟨_, _, rfl⟩
  rcases r10 with er | c10
  · have hq := HR9.out; simp only [h10, Sough.bnd] at hq
    refine (sealT_er F9.out HB8.out.2 HX9.out h10).mono ?_
    rintro e w11 ⟨rfl, _, g⟩
    exact begin_bad rfl rfl rfl g (by repeat (first | with_reducible exact List.Sublist.refl _ | with_reducible refine List.Sublist.cons_cons _ ?_ | refine List.Sublist.cons _ ?_)) hq
  have hq := HR9.out; simp only [h10, Sough.bnd] at hq
  have HR10 := Lib.hid hq
  clear hq HR9
  have Hh10 := Lib.hid h10
  refine (sealT_ok F9.out HB8.out.2 HX9.out h10).mono ?_
  rintro e w11 ⟨rfl, g⟩
  have F10 := Lib.hid g
  clear g h10 F9
  have r := F10.out.mem.rules; simp only [AllCells, CellsAt, Nat.zero_add, Nat.reduceAdd, talkC] at r
  go_wp2_with fail
  clear r
  have HY10 := Lib.hid (Sough.sealT_wf HO9.out HB8.out.2 HX9.out Hh10.out)
  have F10s : Hid (SF S w0 (w11.setCell ⟨w2.heap.size, 9, none⟩ (.int .i64 c10.2)) p s10 ((t, talkC p (c10.1)) :: (w2.heap.size, .cells #[.int .i64 1, .int .u64 (m.v 1), .int .u64 0, .string ⟨m.offer.toArray⟩, .int .i64 1, .int .i64 0, .int .i64 e2, .int .i64 k4, .int .i64 b8.2, .int .i64 c10.2, .int .i64 0, .int .u64 0, .int .u64 0] 34 (0, 0)) :: _)) := Lib.hid (F10.out.setMid (A := [_]) 9 (.int .i64 c10.2))
  clear F10
  have HO10 := Lib.hid F10s.out.ok
  obtain ⟨s11, r11, h11⟩ : ∃ s r, Sough.agreedT s10 me.dh pr.pub.dh = (s, r) := ⟨_, _, rfl⟩
  rcases r11 with er | x11
  · have hq := HR10.out; simp only [h11, Sough.bnd] at hq
    refine (agreedT_er F10s.out HME.out.1 h11).mono ?_
    rintro e w12 ⟨rfl, _, g⟩
    exact begin_bad rfl rfl rfl g (by repeat (first | with_reducible exact List.Sublist.refl _ | with_reducible refine List.Sublist.cons_cons _ ?_ | refine List.Sublist.cons _ ?_)) hq
  have hq := HR10.out; simp only [h11, Sough.bnd] at hq
  have HR11 := Lib.hid hq
  clear hq HR10
  have Hh11 := Lib.hid h11
  refine (agreedT_ok F10s.out HME.out.1 h11).mono ?_
  rintro e w12 ⟨rfl, g⟩
  have F11 := Lib.hid g
  clear g h11 F10s
  have r := F11.out.mem.rules; simp only [AllCells, CellsAt, Nat.zero_add, Nat.reduceAdd, talkC] at r
  go_wp2_with fail
  clear r
  have HX11 := Lib.hid (Sough.agreedT_name HO10.out Hh11.out)
  have HO11 := Lib.hid F11.out.ok
  obtain ⟨s12, r12, h12⟩ : ∃ s r, Sough.mixT s11 c10.1 x11 = (s, r) := ⟨_, _, rfl⟩
  rcases r12 with er | y12
  · have hq := HR11.out; simp only [h12, Sough.bnd] at hq
    refine (mixT_er F11.out HY10.out HX11.out h12).mono ?_
    rintro e w13 ⟨rfl, _, g⟩
    exact begin_bad rfl rfl rfl g (by repeat (first | with_reducible exact List.Sublist.refl _ | with_reducible refine List.Sublist.cons_cons _ ?_ | refine List.Sublist.cons _ ?_)) hq
  have hq := HR11.out; simp only [h12, Sough.bnd] at hq
  have HR12 := Lib.hid hq
  clear hq HR11
  have Hh12 := Lib.hid h12
  refine (mixT_ok F11.out HY10.out HX11.out h12).mono ?_
  rintro e w13 ⟨rfl, g⟩
  have F12 := Lib.hid g
  clear g h12 F11
  have r := F12.out.mem.rules; simp only [AllCells, CellsAt, Nat.zero_add, Nat.reduceAdd, talkC] at r
  go_wp2_with fail
  clear r
  have HY12 := Lib.hid (Sough.mixT_wf HO11.out HY10.out HX11.out Hh12.out)
  have HO12 := Lib.hid F12.out.ok
  obtain ⟨s13, r13, h13⟩ : ∃ s r, Sough.mixT s12 y12 pr.p1 = (s, r) := ⟨_, _, rfl⟩
  rcases r13 with er | y13
  · have hq := HR12.out; simp only [h13, Sough.bnd] at hq
    refine (mixT_er F12.out HY12.out HPR.out.2.2.2 h13).mono ?_
    rintro e w14 ⟨rfl, _, g⟩
    exact begin_bad rfl rfl rfl g (by repeat (first | with_reducible exact List.Sublist.refl _ | with_reducible refine List.Sublist.cons_cons _ ?_ | refine List.Sublist.cons _ ?_)) hq
  have hq := HR12.out; simp only [h13, Sough.bnd] at hq
  have HR13 := Lib.hid hq
  clear hq HR12
  have Hh13 := Lib.hid h13
  refine (mixT_ok F12.out HY12.out HPR.out.2.2.2 h13).mono ?_
  rintro e w14 ⟨rfl, g⟩
  have F13 := Lib.hid g
  clear g h13 F12
  have r := F13.out.mem.rules; simp only [AllCells, CellsAt, Nat.zero_add, Nat.reduceAdd, talkC] at r
  go_wp2_with fail
  clear r
  have HY13 := Lib.hid (Sough.mixT_wf HO12.out HY12.out HPR.out.2.2.2 Hh13.out)
  refine (vput_any stamp (by omega) (by have := HST.out; omega) _).mono ?_
  rintro e w15 ⟨rfl, hb15⟩
  have F14 := Lib.hid (F13.out.later hb15)
  clear hb15 F13
  have HPL := Lib.hid (show (Sough.put stamp).length ≤ 9223372036854775807 by have := (Sough.put_len stamp).2; omega)
  have e15 : ((stamp : Nat) : Int).toNat = stamp := by simp
  rw [e15]
  clear e15
  go_wp2_with fail
  have HO13 := Lib.hid F14.out.ok
  obtain ⟨s14, r14, h14⟩ : ∃ s r, Sough.textT s13 (Sough.put stamp) = (s, r) := ⟨_, _, rfl⟩
  rcases r14 with er | x14
  · have hq := HR13.out; simp only [h14, Sough.bnd] at hq
    refine (textT_er F14.out HPL.out h14).mono ?_
    rintro e w16 ⟨rfl, _, g⟩
    exact begin_bad rfl rfl rfl g (by repeat (first | with_reducible exact List.Sublist.refl _ | with_reducible refine List.Sublist.cons_cons _ ?_ | refine List.Sublist.cons _ ?_)) hq
  have hq := HR13.out; simp only [h14, Sough.bnd] at hq
  have HR14 := Lib.hid hq
  clear hq HR13
  have Hh14 := Lib.hid h14
  refine (textT_ok F14.out HPL.out h14).mono ?_
  rintro e w16 ⟨rfl, g⟩
  have F15 := Lib.hid g
  clear g h14 F14
  have r := F15.out.mem.rules; simp only [AllCells, CellsAt, Nat.zero_add, Nat.reduceAdd, talkC] at r
  go_wp2_with fail
  clear r
  have HX14 := Lib.hid (Sough.textT_name HO13.out Hh14.out)
  have HO14 := Lib.hid F15.out.ok
  obtain ⟨s15, r15, h15⟩ : ∃ s r, Sough.sealT s14 y13 x14 = (s, r) := ⟨_, _, rfl⟩
  rcases r15 with er | c15
  · have hq := HR14.out; simp only [h15, Sough.bnd] at hq
    refine (sealT_er F15.out HY13.out HX14.out h15).mono ?_
    rintro e w17 ⟨rfl, _, g⟩
    exact begin_bad rfl rfl rfl g (by repeat (first | with_reducible exact List.Sublist.refl _ | with_reducible refine List.Sublist.cons_cons _ ?_ | refine List.Sublist.cons _ ?_)) hq
  have hq := HR14.out; simp only [h15, Sough.bnd] at hq
  have HR15 := Lib.hid hq
  clear hq HR14
  have Hh15 := Lib.hid h15
  refine (sealT_ok F15.out HY13.out HX14.out h15).mono ?_
  rintro e w17 ⟨rfl, g⟩
  have F16 := Lib.hid g
  clear g h15 F15
  have r := F16.out.mem.rules; simp only [AllCells, CellsAt, Nat.zero_add, Nat.reduceAdd, talkC] at r
  go_wp2_with fail
  clear r
  have F16s : Hid (SF S w0 (w17.setCell ⟨w2.heap.size, 10, none⟩ (.int .i64 c15.2)) p s15 ((t, talkC p (c15.1)) :: (w2.heap.size, .cells #[.int .i64 1, .int .u64 (m.v 1), .int .u64 0, .string ⟨m.offer.toArray⟩, .int .i64 1, .int .i64 0, .int .i64 e2, .int .i64 k4, .int .i64 b8.2, .int .i64 c10.2, .int .i64 c15.2, .int .u64 0, .int .u64 0] 34 (0, 0)) :: _)) := Lib.hid (F16.out.setMid (A := [_]) 10 (.int .i64 c15.2))
  clear F16
  have HC := Lib.hid (initM_cells (m.v 1) 1 e2 k4 b8.2 c10.2 c15.2 m.offer)
  have HWF := Lib.hid (initM_wf (o := m.offer) (HMW.out.nats 1 (by simp)) HMW.out.text (.inr rfl) HE2.out HK4.out HB8.out.1 (Sough.sealT_name HO9.out Hh10.out) (Sough.sealT_name HO14.out Hh15.out))
  obtain ⟨x, hx⟩ : ∃ x, x = Sough.initM (m.v 1) m.offer 1 e2 k4 b8.2 c10.2 c15.2 := ⟨_, rfl⟩
  have HX := Lib.hid hx
  rw [← hx] at HC HWF HR15
  clear hx
  obtain ⟨rb, hrb⟩ : ∃ b, x.right = b := ⟨_, rfl⟩
  have CR := right_as hrb
  rw [HC.out] at CR
  have hq := HR15.out
  simp only [hrb] at hq
  have HR16 := Lib.hid hq
  clear hq hrb HR15
  refine (CR _ HWF.out).mono ?_
  rintro e w18 ⟨rfl, hb18⟩
  have F17 := Lib.hid (F16s.out.later hb18)
  clear hb18 F16s CR
  go_wp2_with fail
  cases rb
  · refine (need_er (er := 3) (by omega) _).mono ?_
    rintro e w19 ⟨rfl, rfl⟩
    exact begin_bad rfl rfl rfl F17.out (by repeat (first | with_reducible exact List.Sublist.refl _ | with_reducible refine List.Sublist.cons_cons _ ?_ | refine List.Sublist.cons _ ?_)) (by simpa [Sough.bnd] using HR16.out)
  refine (need_ok _).mono ?_
  rintro e w19 ⟨rfl, rfl⟩
  go_wp2_with fail
  -- REGION16
  refine wp_chain (n := 124) [11, 12, 14, 16, 18, 20, 21] (fun k => match k with
      | 0 => some (.agg #[.int .i64 1, .int .u64 (m.v 1), .int .u64 0, .string ⟨m.offer.toArray⟩, .int .i64 1, .int .i64 0, .int .i64 e2, .int .i64 k4, .int .i64 b8.2, .int .i64 c10.2, .int .i64 c15.2, .int .u64 0, .int .u64 0])
      | 1 => some (.pointer (some ⟨t, 0, none⟩))
      | 2 => some (.pointer (some ⟨t, 0, none⟩))
      | 3 => some (.pointer (some ⟨t, 1, none⟩))
      | 4 => some (.agg #[.int .i64 c15.1.ck, .int .i64 c15.1.k, .int .i64 c15.1.h, .int .u64 c15.1.n])
      | 5 => some (.pointer (some ⟨W.heap.size + 1 + 1 + 1, 0, none⟩))
      | 6 => some (.int .i64 d0)
      | 7 => some (.pointer (some ⟨W.heap.size + 1 + 1 + 1, 1, none⟩))
      | 8 => some (.int .i64 d1)
      | 9 => some (.pointer (some ⟨W.heap.size + 1 + 1, 3, none⟩))
      | 10 => some (.string ⟨m.offer.toArray⟩)
      | 13 => some (.pointer (some ⟨W.heap.size + 1 + 1 + 1 + 1 + 1, 0, none⟩))
      | 15 => some (.pointer (some ⟨W.heap.size + 1 + 1 + 1 + 1 + 1, 4, none⟩))
      | 17 => some (.pointer (some ⟨W.heap.size + 1 + 1 + 1 + 1 + 1, 5, none⟩))
      | 19 => some (.pointer (some ⟨W.heap.size + 1 + 1 + 1 + 1 + 1, 6, none⟩))
      | _ => none) (fun i x => SF S w0 x p s15 ((t, talkC p c15.1) :: (w2.heap.size, .cells #[.int .i64 1, .int .u64 (m.v 1), .int .u64 0, .string ⟨m.offer.toArray⟩, .int .i64 1, .int .i64 0, .int .i64 e2, .int .i64 k4, .int .i64 b8.2, .int .i64 c10.2, .int .i64 c15.2, .int .u64 0, .int .u64 0] 34 (0, 0)) :: (W.heap.size + 1 + 1 + 1 + 1 + 1 + 1, .cells #[.int .i64 0] 39 (0, 0)) :: (W.heap.size + 1 + 1 + 1 + 1 + 1, .cells (pnS c15.1 d0 d1 m.offer i) 38 (0, 0)) :: (W.heap.size + 1 + 1 + 1 + 1, .cells (mmS #[.int .i64 1, .int .u64 (m.v 1), .int .u64 0, .string ⟨m.offer.toArray⟩, .int .i64 1, .int .i64 0, .int .i64 e2, .int .i64 k4, .int .i64 b8.2, .int .i64 c10.2, .int .i64 c15.2, .int .u64 0, .int .u64 0] i) 34 (0, 0)) :: (W.heap.size + 1 + 1 + 1, .cells #[.int .i64 d0, .int .i64 d1, .int .i64 d2] 42 (0, 0)) :: (W.heap.size + 1 + 1, .cells #[.int .i64 (m.v 0), .int .u64 (m.v 1), .int .u64 (m.v 2), .string ⟨m.offer.toArray⟩, .int .i64 1, .int .i64 (m.v 5), .int .i64 (m.v 6), .int .i64 (m.v 7), .int .i64 (m.v 8), .int .i64 (m.v 9), .int .i64 (m.v 10), .int .u64 (m.v 11), .int .u64 (m.v 12)] 34 (0, 0)) :: (W.heap.size + 1, .cells #[.int .i64 pr.pub.dh, .int .i64 pr.pub.kem, .int .i64 pr.p0, .int .i64 pr.p1] 28 (0, 0)) :: (W.heap.size, .cells #[.int .i64 me.dh, .int .i64 me.kem] 24 (0, 0)) :: L)) (by kernel_rfl) (by kernel_rfl) (by kernel_rfl) ?_ ?_ ?_ ?_
  · exact F17.out.later (Below.refl _ _).drew
  · exact fun i x y h hb => h.later hb
  · refine ⟨?_, ?_, ?_, ?_, ?_, ?_, ?_, ?_, ?_, ?_, ?_, ?_, ?_, ?_, ?_, ?_, ?_, ?_, ?_, ?_, ?_, ?_, trivial⟩
    · refine cstep_pure (by decide) rfl rfl ?_
      intro i v x hS hF hB
      have yy := SF.rulesOf hS
      simp only [AllCells, CellsAt, Nat.zero_add, Nat.reduceAdd, talkC] at yy
      simp only [putAll, Act.put, List.setIfInBounds_toArray, List.set_cons_succ, List.set_cons_zero]
      go_big_quiet_step (fail)
      exact wpQuiet_nil rfl
    · refine cstep_pure (by decide) rfl rfl ?_
      intro i v x hS hF hB
      simp only [putAll, Act.put, List.setIfInBounds_toArray, List.set_cons_succ, List.set_cons_zero]
      go_big_quiet_step (fail)
      exact wpQuiet_nil rfl
    · refine cstep_pure (by decide) rfl rfl ?_
      intro i v x hS hF hB
      have e1 : v 1 = .pointer (some ⟨t, 0, none⟩) := hF 1 _ (by decide) rfl
      simp only [putAll, Act.put, List.setIfInBounds_toArray, List.set_cons_succ, List.set_cons_zero, e1]
      go_big_quiet_step (fail)
      exact wpQuiet_nil rfl
    · refine cstep_pure (by decide) rfl rfl ?_
      intro i v x hS hF hB
      have e2 : v 2 = .pointer (some ⟨t, 0, none⟩) := hF 2 _ (by decide) rfl
      simp only [putAll, Act.put, List.setIfInBounds_toArray, List.set_cons_succ, List.set_cons_zero, e2]
      go_big_quiet_step (fail)
      exact wpQuiet_nil rfl
    · refine cstep_pure (by decide) rfl rfl ?_
      intro i v x hS hF hB
      have e3 : v 3 = .pointer (some ⟨t, 1, none⟩) := hF 3 _ (by decide) rfl
      have yy := SF.rulesOf hS
      simp only [AllCells, CellsAt, Nat.zero_add, Nat.reduceAdd, talkC] at yy
      simp only [putAll, Act.put, List.setIfInBounds_toArray, List.set_cons_succ, List.set_cons_zero, e3]
      go_big_quiet_step (fail)
      exact wpQuiet_nil rfl
    · refine cstep_pure (by decide) rfl rfl ?_
      intro i v x hS hF hB
      simp only [putAll, Act.put, List.setIfInBounds_toArray, List.set_cons_succ, List.set_cons_zero]
      go_big_quiet_step (fail)
      exact wpQuiet_nil rfl
    · refine cstep_pure (by decide) rfl rfl ?_
      intro i v x hS hF hB
      have e5 : v 5 = .pointer (some ⟨W.heap.size + 1 + 1 + 1, 0, none⟩) := hF 5 _ (by decide) rfl
      have yy := SF.rulesOf hS
      simp only [AllCells, CellsAt, Nat.zero_add, Nat.reduceAdd, talkC] at yy
      simp only [putAll, Act.put, List.setIfInBounds_toArray, List.set_cons_succ, List.set_cons_zero, e5]
      go_big_quiet_step (fail)
      exact wpQuiet_nil rfl
    · refine cstep_pure (by decide) rfl rfl ?_
      intro i v x hS hF hB
      simp only [putAll, Act.put, List.setIfInBounds_toArray, List.set_cons_succ, List.set_cons_zero]
      go_big_quiet_step (fail)
      exact wpQuiet_nil rfl
    · refine cstep_pure (by decide) rfl rfl ?_
      intro i v x hS hF hB
      have e7 : v 7 = .pointer (some ⟨W.heap.size + 1 + 1 + 1, 1, none⟩) := hF 7 _ (by decide) rfl
      have yy := SF.rulesOf hS
      simp only [AllCells, CellsAt, Nat.zero_add, Nat.reduceAdd, talkC] at yy
      simp only [putAll, Act.put, List.setIfInBounds_toArray, List.set_cons_succ, List.set_cons_zero, e7]
      go_big_quiet_step (fail)
      exact wpQuiet_nil rfl
    · refine cstep_pure (by decide) rfl rfl ?_
      intro i v x hS hF hB
      simp only [putAll, Act.put, List.setIfInBounds_toArray, List.set_cons_succ, List.set_cons_zero]
      go_big_quiet_step (fail)
      exact wpQuiet_nil rfl
    · refine cstep_pure (by decide) rfl rfl ?_
      intro i v x hS hF hB
      have e9 : v 9 = .pointer (some ⟨W.heap.size + 1 + 1, 3, none⟩) := hF 9 _ (by decide) rfl
      have yy := SF.rulesOf hS
      simp only [AllCells, CellsAt, Nat.zero_add, Nat.reduceAdd, talkC] at yy
      simp only [putAll, Act.put, List.setIfInBounds_toArray, List.set_cons_succ, List.set_cons_zero, e9]
      go_big_quiet_step (fail)
      exact wpQuiet_nil rfl
    · refine cstep_sto 0 rfl rfl rfl ?_
      intro v x hS hF
      have e0 : v 0 = .agg #[.int .i64 1, .int .u64 (m.v 1), .int .u64 0, .string ⟨m.offer.toArray⟩, .int .i64 1, .int .i64 0, .int .i64 e2, .int .i64 k4, .int .i64 b8.2, .int .i64 c10.2, .int .i64 c15.2, .int .u64 0, .int .u64 0] := hF 0 _ (by decide) rfl
      have hS2 : SF S w0 x p s15 ((t, talkC p c15.1) :: (w2.heap.size, .cells #[.int .i64 1, .int .u64 (m.v 1), .int .u64 0, .string ⟨m.offer.toArray⟩, .int .i64 1, .int .i64 0, .int .i64 e2, .int .i64 k4, .int .i64 b8.2, .int .i64 c10.2, .int .i64 c15.2, .int .u64 0, .int .u64 0] 34 (0, 0)) :: (W.heap.size + 1 + 1 + 1 + 1 + 1 + 1, .cells #[.int .i64 0] 39 (0, 0)) :: (W.heap.size + 1 + 1 + 1 + 1 + 1, .cells #[.int .i64 0, .int .i64 0, .int .i64 0, .int .u64 0, .int .i64 0, .int .i64 0, .string ⟨#[]⟩] 38 (0, 0)) :: (W.heap.size + 1 + 1 + 1 + 1, .cells #[.int .i64 0, .int .u64 0, .int .u64 0, .string ⟨#[]⟩, .int .i64 0, .int .i64 0, .int .i64 0, .int .i64 0, .int .i64 0, .int .i64 0, .int .i64 0, .int .u64 0, .int .u64 0] 34 (0, 0)) :: (W.heap.size + 1 + 1 + 1, .cells #[.int .i64 d0, .int .i64 d1, .int .i64 d2] 42 (0, 0)) :: (W.heap.size + 1 + 1, .cells #[.int .i64 (m.v 0), .int .u64 (m.v 1), .int .u64 (m.v 2), .string ⟨m.offer.toArray⟩, .int .i64 1, .int .i64 (m.v 5), .int .i64 (m.v 6), .int .i64 (m.v 7), .int .i64 (m.v 8), .int .i64 (m.v 9), .int .i64 (m.v 10), .int .u64 (m.v 11), .int .u64 (m.v 12)] 34 (0, 0)) :: (W.heap.size + 1, .cells #[.int .i64 pr.pub.dh, .int .i64 pr.pub.kem, .int .i64 pr.p0, .int .i64 pr.p1] 28 (0, 0)) :: (W.heap.size, .cells #[.int .i64 me.dh, .int .i64 me.kem] 24 (0, 0)) :: L) := hS
      have hc := hS2.get 4 rfl
      have HS : Hid (SF S w0 _ p s15 ((t, talkC p c15.1) :: (w2.heap.size, .cells #[.int .i64 1, .int .u64 (m.v 1), .int .u64 0, .string ⟨m.offer.toArray⟩, .int .i64 1, .int .i64 0, .int .i64 e2, .int .i64 k4, .int .i64 b8.2, .int .i64 c10.2, .int .i64 c15.2, .int .u64 0, .int .u64 0] 34 (0, 0)) :: (W.heap.size + 1 + 1 + 1 + 1 + 1 + 1, .cells #[.int .i64 0] 39 (0, 0)) :: (W.heap.size + 1 + 1 + 1 + 1 + 1, .cells #[.int .i64 0, .int .i64 0, .int .i64 0, .int .u64 0, .int .i64 0, .int .i64 0, .string ⟨#[]⟩] 38 (0, 0)) :: (W.heap.size + 1 + 1 + 1 + 1, .cells #[.int .i64 1, .int .u64 (m.v 1), .int .u64 0, .string ⟨m.offer.toArray⟩, .int .i64 1, .int .i64 0, .int .i64 e2, .int .i64 k4, .int .i64 b8.2, .int .i64 c10.2, .int .i64 c15.2, .int .u64 0, .int .u64 0] 34 (0, 0)) :: (W.heap.size + 1 + 1 + 1, .cells #[.int .i64 d0, .int .i64 d1, .int .i64 d2] 42 (0, 0)) :: (W.heap.size + 1 + 1, .cells #[.int .i64 (m.v 0), .int .u64 (m.v 1), .int .u64 (m.v 2), .string ⟨m.offer.toArray⟩, .int .i64 1, .int .i64 (m.v 5), .int .i64 (m.v 6), .int .i64 (m.v 7), .int .i64 (m.v 8), .int .i64 (m.v 9), .int .i64 (m.v 10), .int .u64 (m.v 11), .int .u64 (m.v 12)] 34 (0, 0)) :: (W.heap.size + 1, .cells #[.int .i64 pr.pub.dh, .int .i64 pr.pub.kem, .int .i64 pr.p0, .int .i64 pr.p1] 28 (0, 0)) :: (W.heap.size, .cells #[.int .i64 me.dh, .int .i64 me.kem] 24 (0, 0)) :: L)) := Lib.hid (SF.m13 (A := [_, _, _, _]) hS2 (.int .i64 1) (.int .u64 (m.v 1)) (.int .u64 0) (.string ⟨m.offer.toArray⟩) (.int .i64 1) (.int .i64 0) (.int .i64 e2) (.int .i64 k4) (.int .i64 b8.2) (.int .i64 c10.2) (.int .i64 c15.2) (.int .u64 0) (.int .u64 0))
      have cc := cells_of hc
      simp only [CellsAt, Nat.zero_add, Nat.reduceAdd] at cc
      clear hc hS2 hS hF
      refine ⟨_, HS.out, ?_⟩
      simp only [putAll, Act.put, List.setIfInBounds_toArray, List.set_cons_succ, List.set_cons_zero, e0]
      unfold Oper.wp
      go_simp
    · refine cstep_sto 1 rfl rfl rfl ?_
      intro v x hS hF
      have hS2 : SF S w0 x p s15 ((t, talkC p c15.1) :: (w2.heap.size, .cells #[.int .i64 1, .int .u64 (m.v 1), .int .u64 0, .string ⟨m.offer.toArray⟩, .int .i64 1, .int .i64 0, .int .i64 e2, .int .i64 k4, .int .i64 b8.2, .int .i64 c10.2, .int .i64 c15.2, .int .u64 0, .int .u64 0] 34 (0, 0)) :: (W.heap.size + 1 + 1 + 1 + 1 + 1 + 1, .cells #[.int .i64 0] 39 (0, 0)) :: (W.heap.size + 1 + 1 + 1 + 1 + 1, .cells #[.int .i64 0, .int .i64 0, .int .i64 0, .int .u64 0, .int .i64 0, .int .i64 0, .string ⟨#[]⟩] 38 (0, 0)) :: (W.heap.size + 1 + 1 + 1 + 1, .cells #[.int .i64 1, .int .u64 (m.v 1), .int .u64 0, .string ⟨m.offer.toArray⟩, .int .i64 1, .int .i64 0, .int .i64 e2, .int .i64 k4, .int .i64 b8.2, .int .i64 c10.2, .int .i64 c15.2, .int .u64 0, .int .u64 0] 34 (0, 0)) :: (W.heap.size + 1 + 1 + 1, .cells #[.int .i64 d0, .int .i64 d1, .int .i64 d2] 42 (0, 0)) :: (W.heap.size + 1 + 1, .cells #[.int .i64 (m.v 0), .int .u64 (m.v 1), .int .u64 (m.v 2), .string ⟨m.offer.toArray⟩, .int .i64 1, .int .i64 (m.v 5), .int .i64 (m.v 6), .int .i64 (m.v 7), .int .i64 (m.v 8), .int .i64 (m.v 9), .int .i64 (m.v 10), .int .u64 (m.v 11), .int .u64 (m.v 12)] 34 (0, 0)) :: (W.heap.size + 1, .cells #[.int .i64 pr.pub.dh, .int .i64 pr.pub.kem, .int .i64 pr.p0, .int .i64 pr.p1] 28 (0, 0)) :: (W.heap.size, .cells #[.int .i64 me.dh, .int .i64 me.kem] 24 (0, 0)) :: L) := hS
      have hc := hS2.get 3 rfl
      have HS : Hid (SF S w0 _ p s15 ((t, talkC p c15.1) :: (w2.heap.size, .cells #[.int .i64 1, .int .u64 (m.v 1), .int .u64 0, .string ⟨m.offer.toArray⟩, .int .i64 1, .int .i64 0, .int .i64 e2, .int .i64 k4, .int .i64 b8.2, .int .i64 c10.2, .int .i64 c15.2, .int .u64 0, .int .u64 0] 34 (0, 0)) :: (W.heap.size + 1 + 1 + 1 + 1 + 1 + 1, .cells #[.int .i64 0] 39 (0, 0)) :: (W.heap.size + 1 + 1 + 1 + 1 + 1, .cells #[.int .i64 0, .int .i64 0, .int .i64 0, .int .u64 0, .int .i64 0, .int .i64 0, .string ⟨#[]⟩] 38 (0, 0)) :: (W.heap.size + 1 + 1 + 1 + 1, .cells #[.int .i64 1, .int .u64 (m.v 1), .int .u64 0, .string ⟨m.offer.toArray⟩, .int .i64 1, .int .i64 0, .int .i64 e2, .int .i64 k4, .int .i64 b8.2, .int .i64 c10.2, .int .i64 c15.2, .int .u64 0, .int .u64 0] 34 (0, 0)) :: (W.heap.size + 1 + 1 + 1, .cells #[.int .i64 d0, .int .i64 d1, .int .i64 d2] 42 (0, 0)) :: (W.heap.size + 1 + 1, .cells #[.int .i64 (m.v 0), .int .u64 (m.v 1), .int .u64 (m.v 2), .string ⟨m.offer.toArray⟩, .int .i64 1, .int .i64 (m.v 5), .int .i64 (m.v 6), .int .i64 (m.v 7), .int .i64 (m.v 8), .int .i64 (m.v 9), .int .i64 (m.v 10), .int .u64 (m.v 11), .int .u64 (m.v 12)] 34 (0, 0)) :: (W.heap.size + 1, .cells #[.int .i64 pr.pub.dh, .int .i64 pr.pub.kem, .int .i64 pr.p0, .int .i64 pr.p1] 28 (0, 0)) :: (W.heap.size, .cells #[.int .i64 me.dh, .int .i64 me.kem] 24 (0, 0)) :: L)) := Lib.hid (SF.m7 (A := [_, _, _]) hS2 (.int .i64 0) (.int .i64 0) (.int .i64 0) (.int .u64 0) (.int .i64 0) (.int .i64 0) (.string ⟨#[]⟩))
      have cc := cells_of hc
      simp only [CellsAt, Nat.zero_add, Nat.reduceAdd] at cc
      clear hc hS2 hS hF
      refine ⟨_, HS.out, ?_⟩
      simp only [putAll, Act.put, List.setIfInBounds_toArray, List.set_cons_succ, List.set_cons_zero]
      unfold Oper.wp
      go_simp
    · refine cstep_pure (by decide) rfl rfl ?_
      intro i v x hS hF hB
      simp only [putAll, Act.put, List.setIfInBounds_toArray, List.set_cons_succ, List.set_cons_zero]
      go_big_quiet_step (fail)
      exact wpQuiet_nil rfl
    · refine cstep_sto 2 rfl rfl rfl ?_
      intro v x hS hF
      have e13 : v 13 = .pointer (some ⟨W.heap.size + 1 + 1 + 1 + 1 + 1, 0, none⟩) := hF 13 _ (by decide) rfl
      have e4 : v 4 = .agg #[.int .i64 c15.1.ck, .int .i64 c15.1.k, .int .i64 c15.1.h, .int .u64 c15.1.n] := hF 4 _ (by decide) rfl
      have hS2 : SF S w0 x p s15 ((t, talkC p c15.1) :: (w2.heap.size, .cells #[.int .i64 1, .int .u64 (m.v 1), .int .u64 0, .string ⟨m.offer.toArray⟩, .int .i64 1, .int .i64 0, .int .i64 e2, .int .i64 k4, .int .i64 b8.2, .int .i64 c10.2, .int .i64 c15.2, .int .u64 0, .int .u64 0] 34 (0, 0)) :: (W.heap.size + 1 + 1 + 1 + 1 + 1 + 1, .cells #[.int .i64 0] 39 (0, 0)) :: (W.heap.size + 1 + 1 + 1 + 1 + 1, .cells #[.int .i64 0, .int .i64 0, .int .i64 0, .int .u64 0, .int .i64 0, .int .i64 0, .string ⟨#[]⟩] 38 (0, 0)) :: (W.heap.size + 1 + 1 + 1 + 1, .cells #[.int .i64 1, .int .u64 (m.v 1), .int .u64 0, .string ⟨m.offer.toArray⟩, .int .i64 1, .int .i64 0, .int .i64 e2, .int .i64 k4, .int .i64 b8.2, .int .i64 c10.2, .int .i64 c15.2, .int .u64 0, .int .u64 0] 34 (0, 0)) :: (W.heap.size + 1 + 1 + 1, .cells #[.int .i64 d0, .int .i64 d1, .int .i64 d2] 42 (0, 0)) :: (W.heap.size + 1 + 1, .cells #[.int .i64 (m.v 0), .int .u64 (m.v 1), .int .u64 (m.v 2), .string ⟨m.offer.toArray⟩, .int .i64 1, .int .i64 (m.v 5), .int .i64 (m.v 6), .int .i64 (m.v 7), .int .i64 (m.v 8), .int .i64 (m.v 9), .int .i64 (m.v 10), .int .u64 (m.v 11), .int .u64 (m.v 12)] 34 (0, 0)) :: (W.heap.size + 1, .cells #[.int .i64 pr.pub.dh, .int .i64 pr.pub.kem, .int .i64 pr.p0, .int .i64 pr.p1] 28 (0, 0)) :: (W.heap.size, .cells #[.int .i64 me.dh, .int .i64 me.kem] 24 (0, 0)) :: L) := hS
      have hc := hS2.get 3 rfl
      have HS : Hid (SF S w0 _ p s15 ((t, talkC p c15.1) :: (w2.heap.size, .cells #[.int .i64 1, .int .u64 (m.v 1), .int .u64 0, .string ⟨m.offer.toArray⟩, .int .i64 1, .int .i64 0, .int .i64 e2, .int .i64 k4, .int .i64 b8.2, .int .i64 c10.2, .int .i64 c15.2, .int .u64 0, .int .u64 0] 34 (0, 0)) :: (W.heap.size + 1 + 1 + 1 + 1 + 1 + 1, .cells #[.int .i64 0] 39 (0, 0)) :: (W.heap.size + 1 + 1 + 1 + 1 + 1, .cells #[.int .i64 c15.1.ck, .int .i64 c15.1.k, .int .i64 c15.1.h, .int .u64 c15.1.n, .int .i64 0, .int .i64 0, .string ⟨#[]⟩] 38 (0, 0)) :: (W.heap.size + 1 + 1 + 1 + 1, .cells #[.int .i64 1, .int .u64 (m.v 1), .int .u64 0, .string ⟨m.offer.toArray⟩, .int .i64 1, .int .i64 0, .int .i64 e2, .int .i64 k4, .int .i64 b8.2, .int .i64 c10.2, .int .i64 c15.2, .int .u64 0, .int .u64 0] 34 (0, 0)) :: (W.heap.size + 1 + 1 + 1, .cells #[.int .i64 d0, .int .i64 d1, .int .i64 d2] 42 (0, 0)) :: (W.heap.size + 1 + 1, .cells #[.int .i64 (m.v 0), .int .u64 (m.v 1), .int .u64 (m.v 2), .string ⟨m.offer.toArray⟩, .int .i64 1, .int .i64 (m.v 5), .int .i64 (m.v 6), .int .i64 (m.v 7), .int .i64 (m.v 8), .int .i64 (m.v 9), .int .i64 (m.v 10), .int .u64 (m.v 11), .int .u64 (m.v 12)] 34 (0, 0)) :: (W.heap.size + 1, .cells #[.int .i64 pr.pub.dh, .int .i64 pr.pub.kem, .int .i64 pr.p0, .int .i64 pr.p1] 28 (0, 0)) :: (W.heap.size, .cells #[.int .i64 me.dh, .int .i64 me.kem] 24 (0, 0)) :: L)) := Lib.hid (SF.setMid (A := [_, _, _]) (SF.setMid (A := [_, _, _]) (SF.setMid (A := [_, _, _]) (SF.setMid (A := [_, _, _]) hS2 0 (.int .i64 c15.1.ck)) 1 (.int .i64 c15.1.k)) 2 (.int .i64 c15.1.h)) 3 (.int .u64 c15.1.n))
      have cc := cells_of hc
      simp only [CellsAt, Nat.zero_add, Nat.reduceAdd] at cc
      clear hc hS2 hS hF
      refine ⟨_, HS.out, ?_⟩
      simp only [putAll, Act.put, List.setIfInBounds_toArray, List.set_cons_succ, List.set_cons_zero, e13, e4]
      unfold Oper.wp
      go_simp
    · refine cstep_pure (by decide) rfl rfl ?_
      intro i v x hS hF hB
      simp only [putAll, Act.put, List.setIfInBounds_toArray, List.set_cons_succ, List.set_cons_zero]
      go_big_quiet_step (fail)
      exact wpQuiet_nil rfl
    · refine cstep_sto 3 rfl rfl rfl ?_
      intro v x hS hF
      have e15 : v 15 = .pointer (some ⟨W.heap.size + 1 + 1 + 1 + 1 + 1, 4, none⟩) := hF 15 _ (by decide) rfl
      have e6 : v 6 = .int .i64 d0 := hF 6 _ (by decide) rfl
      have hS2 : SF S w0 x p s15 ((t, talkC p c15.1) :: (w2.heap.size, .cells #[.int .i64 1, .int .u64 (m.v 1), .int .u64 0, .string ⟨m.offer.toArray⟩, .int .i64 1, .int .i64 0, .int .i64 e2, .int .i64 k4, .int .i64 b8.2, .int .i64 c10.2, .int .i64 c15.2, .int .u64 0, .int .u64 0] 34 (0, 0)) :: (W.heap.size + 1 + 1 + 1 + 1 + 1 + 1, .cells #[.int .i64 0] 39 (0, 0)) :: (W.heap.size + 1 + 1 + 1 + 1 + 1, .cells #[.int .i64 c15.1.ck, .int .i64 c15.1.k, .int .i64 c15.1.h, .int .u64 c15.1.n, .int .i64 0, .int .i64 0, .string ⟨#[]⟩] 38 (0, 0)) :: (W.heap.size + 1 + 1 + 1 + 1, .cells #[.int .i64 1, .int .u64 (m.v 1), .int .u64 0, .string ⟨m.offer.toArray⟩, .int .i64 1, .int .i64 0, .int .i64 e2, .int .i64 k4, .int .i64 b8.2, .int .i64 c10.2, .int .i64 c15.2, .int .u64 0, .int .u64 0] 34 (0, 0)) :: (W.heap.size + 1 + 1 + 1, .cells #[.int .i64 d0, .int .i64 d1, .int .i64 d2] 42 (0, 0)) :: (W.heap.size + 1 + 1, .cells #[.int .i64 (m.v 0), .int .u64 (m.v 1), .int .u64 (m.v 2), .string ⟨m.offer.toArray⟩, .int .i64 1, .int .i64 (m.v 5), .int .i64 (m.v 6), .int .i64 (m.v 7), .int .i64 (m.v 8), .int .i64 (m.v 9), .int .i64 (m.v 10), .int .u64 (m.v 11), .int .u64 (m.v 12)] 34 (0, 0)) :: (W.heap.size + 1, .cells #[.int .i64 pr.pub.dh, .int .i64 pr.pub.kem, .int .i64 pr.p0, .int .i64 pr.p1] 28 (0, 0)) :: (W.heap.size, .cells #[.int .i64 me.dh, .int .i64 me.kem] 24 (0, 0)) :: L) := hS
      have hc := hS2.get 3 rfl
      have HS : Hid (SF S w0 _ p s15 ((t, talkC p c15.1) :: (w2.heap.size, .cells #[.int .i64 1, .int .u64 (m.v 1), .int .u64 0, .string ⟨m.offer.toArray⟩, .int .i64 1, .int .i64 0, .int .i64 e2, .int .i64 k4, .int .i64 b8.2, .int .i64 c10.2, .int .i64 c15.2, .int .u64 0, .int .u64 0] 34 (0, 0)) :: (W.heap.size + 1 + 1 + 1 + 1 + 1 + 1, .cells #[.int .i64 0] 39 (0, 0)) :: (W.heap.size + 1 + 1 + 1 + 1 + 1, .cells #[.int .i64 c15.1.ck, .int .i64 c15.1.k, .int .i64 c15.1.h, .int .u64 c15.1.n, .int .i64 d0, .int .i64 0, .string ⟨#[]⟩] 38 (0, 0)) :: (W.heap.size + 1 + 1 + 1 + 1, .cells #[.int .i64 1, .int .u64 (m.v 1), .int .u64 0, .string ⟨m.offer.toArray⟩, .int .i64 1, .int .i64 0, .int .i64 e2, .int .i64 k4, .int .i64 b8.2, .int .i64 c10.2, .int .i64 c15.2, .int .u64 0, .int .u64 0] 34 (0, 0)) :: (W.heap.size + 1 + 1 + 1, .cells #[.int .i64 d0, .int .i64 d1, .int .i64 d2] 42 (0, 0)) :: (W.heap.size + 1 + 1, .cells #[.int .i64 (m.v 0), .int .u64 (m.v 1), .int .u64 (m.v 2), .string ⟨m.offer.toArray⟩, .int .i64 1, .int .i64 (m.v 5), .int .i64 (m.v 6), .int .i64 (m.v 7), .int .i64 (m.v 8), .int .i64 (m.v 9), .int .i64 (m.v 10), .int .u64 (m.v 11), .int .u64 (m.v 12)] 34 (0, 0)) :: (W.heap.size + 1, .cells #[.int .i64 pr.pub.dh, .int .i64 pr.pub.kem, .int .i64 pr.p0, .int .i64 pr.p1] 28 (0, 0)) :: (W.heap.size, .cells #[.int .i64 me.dh, .int .i64 me.kem] 24 (0, 0)) :: L)) := Lib.hid (SF.setMid (A := [_, _, _]) hS2 4 (.int .i64 d0))
      have cc := cells_of hc
      simp only [CellsAt, Nat.zero_add, Nat.reduceAdd] at cc
      clear hc hS2 hS hF
      refine ⟨_, HS.out, ?_⟩
      simp only [putAll, Act.put, List.setIfInBounds_toArray, List.set_cons_succ, List.set_cons_zero, e15, e6]
      unfold Oper.wp
      go_simp
    · refine cstep_pure (by decide) rfl rfl ?_
      intro i v x hS hF hB
      simp only [putAll, Act.put, List.setIfInBounds_toArray, List.set_cons_succ, List.set_cons_zero]
      go_big_quiet_step (fail)
      exact wpQuiet_nil rfl
    · refine cstep_sto 4 rfl rfl rfl ?_
      intro v x hS hF
      have e17 : v 17 = .pointer (some ⟨W.heap.size + 1 + 1 + 1 + 1 + 1, 5, none⟩) := hF 17 _ (by decide) rfl
      have e8 : v 8 = .int .i64 d1 := hF 8 _ (by decide) rfl
      have hS2 : SF S w0 x p s15 ((t, talkC p c15.1) :: (w2.heap.size, .cells #[.int .i64 1, .int .u64 (m.v 1), .int .u64 0, .string ⟨m.offer.toArray⟩, .int .i64 1, .int .i64 0, .int .i64 e2, .int .i64 k4, .int .i64 b8.2, .int .i64 c10.2, .int .i64 c15.2, .int .u64 0, .int .u64 0] 34 (0, 0)) :: (W.heap.size + 1 + 1 + 1 + 1 + 1 + 1, .cells #[.int .i64 0] 39 (0, 0)) :: (W.heap.size + 1 + 1 + 1 + 1 + 1, .cells #[.int .i64 c15.1.ck, .int .i64 c15.1.k, .int .i64 c15.1.h, .int .u64 c15.1.n, .int .i64 d0, .int .i64 0, .string ⟨#[]⟩] 38 (0, 0)) :: (W.heap.size + 1 + 1 + 1 + 1, .cells #[.int .i64 1, .int .u64 (m.v 1), .int .u64 0, .string ⟨m.offer.toArray⟩, .int .i64 1, .int .i64 0, .int .i64 e2, .int .i64 k4, .int .i64 b8.2, .int .i64 c10.2, .int .i64 c15.2, .int .u64 0, .int .u64 0] 34 (0, 0)) :: (W.heap.size + 1 + 1 + 1, .cells #[.int .i64 d0, .int .i64 d1, .int .i64 d2] 42 (0, 0)) :: (W.heap.size + 1 + 1, .cells #[.int .i64 (m.v 0), .int .u64 (m.v 1), .int .u64 (m.v 2), .string ⟨m.offer.toArray⟩, .int .i64 1, .int .i64 (m.v 5), .int .i64 (m.v 6), .int .i64 (m.v 7), .int .i64 (m.v 8), .int .i64 (m.v 9), .int .i64 (m.v 10), .int .u64 (m.v 11), .int .u64 (m.v 12)] 34 (0, 0)) :: (W.heap.size + 1, .cells #[.int .i64 pr.pub.dh, .int .i64 pr.pub.kem, .int .i64 pr.p0, .int .i64 pr.p1] 28 (0, 0)) :: (W.heap.size, .cells #[.int .i64 me.dh, .int .i64 me.kem] 24 (0, 0)) :: L) := hS
      have hc := hS2.get 3 rfl
      have HS : Hid (SF S w0 _ p s15 ((t, talkC p c15.1) :: (w2.heap.size, .cells #[.int .i64 1, .int .u64 (m.v 1), .int .u64 0, .string ⟨m.offer.toArray⟩, .int .i64 1, .int .i64 0, .int .i64 e2, .int .i64 k4, .int .i64 b8.2, .int .i64 c10.2, .int .i64 c15.2, .int .u64 0, .int .u64 0] 34 (0, 0)) :: (W.heap.size + 1 + 1 + 1 + 1 + 1 + 1, .cells #[.int .i64 0] 39 (0, 0)) :: (W.heap.size + 1 + 1 + 1 + 1 + 1, .cells #[.int .i64 c15.1.ck, .int .i64 c15.1.k, .int .i64 c15.1.h, .int .u64 c15.1.n, .int .i64 d0, .int .i64 d1, .string ⟨#[]⟩] 38 (0, 0)) :: (W.heap.size + 1 + 1 + 1 + 1, .cells #[.int .i64 1, .int .u64 (m.v 1), .int .u64 0, .string ⟨m.offer.toArray⟩, .int .i64 1, .int .i64 0, .int .i64 e2, .int .i64 k4, .int .i64 b8.2, .int .i64 c10.2, .int .i64 c15.2, .int .u64 0, .int .u64 0] 34 (0, 0)) :: (W.heap.size + 1 + 1 + 1, .cells #[.int .i64 d0, .int .i64 d1, .int .i64 d2] 42 (0, 0)) :: (W.heap.size + 1 + 1, .cells #[.int .i64 (m.v 0), .int .u64 (m.v 1), .int .u64 (m.v 2), .string ⟨m.offer.toArray⟩, .int .i64 1, .int .i64 (m.v 5), .int .i64 (m.v 6), .int .i64 (m.v 7), .int .i64 (m.v 8), .int .i64 (m.v 9), .int .i64 (m.v 10), .int .u64 (m.v 11), .int .u64 (m.v 12)] 34 (0, 0)) :: (W.heap.size + 1, .cells #[.int .i64 pr.pub.dh, .int .i64 pr.pub.kem, .int .i64 pr.p0, .int .i64 pr.p1] 28 (0, 0)) :: (W.heap.size, .cells #[.int .i64 me.dh, .int .i64 me.kem] 24 (0, 0)) :: L)) := Lib.hid (SF.setMid (A := [_, _, _]) hS2 5 (.int .i64 d1))
      have cc := cells_of hc
      simp only [CellsAt, Nat.zero_add, Nat.reduceAdd] at cc
      clear hc hS2 hS hF
      refine ⟨_, HS.out, ?_⟩
      simp only [putAll, Act.put, List.setIfInBounds_toArray, List.set_cons_succ, List.set_cons_zero, e17, e8]
      unfold Oper.wp
      go_simp
    · refine cstep_pure (by decide) rfl rfl ?_
      intro i v x hS hF hB
      simp only [putAll, Act.put, List.setIfInBounds_toArray, List.set_cons_succ, List.set_cons_zero]
      go_big_quiet_step (fail)
      exact wpQuiet_nil rfl
    · refine cstep_sto 5 rfl rfl rfl ?_
      intro v x hS hF
      have e19 : v 19 = .pointer (some ⟨W.heap.size + 1 + 1 + 1 + 1 + 1, 6, none⟩) := hF 19 _ (by decide) rfl
      have e10 : v 10 = .string ⟨m.offer.toArray⟩ := hF 10 _ (by decide) rfl
      have hS2 : SF S w0 x p s15 ((t, talkC p c15.1) :: (w2.heap.size, .cells #[.int .i64 1, .int .u64 (m.v 1), .int .u64 0, .string ⟨m.offer.toArray⟩, .int .i64 1, .int .i64 0, .int .i64 e2, .int .i64 k4, .int .i64 b8.2, .int .i64 c10.2, .int .i64 c15.2, .int .u64 0, .int .u64 0] 34 (0, 0)) :: (W.heap.size + 1 + 1 + 1 + 1 + 1 + 1, .cells #[.int .i64 0] 39 (0, 0)) :: (W.heap.size + 1 + 1 + 1 + 1 + 1, .cells #[.int .i64 c15.1.ck, .int .i64 c15.1.k, .int .i64 c15.1.h, .int .u64 c15.1.n, .int .i64 d0, .int .i64 d1, .string ⟨#[]⟩] 38 (0, 0)) :: (W.heap.size + 1 + 1 + 1 + 1, .cells #[.int .i64 1, .int .u64 (m.v 1), .int .u64 0, .string ⟨m.offer.toArray⟩, .int .i64 1, .int .i64 0, .int .i64 e2, .int .i64 k4, .int .i64 b8.2, .int .i64 c10.2, .int .i64 c15.2, .int .u64 0, .int .u64 0] 34 (0, 0)) :: (W.heap.size + 1 + 1 + 1, .cells #[.int .i64 d0, .int .i64 d1, .int .i64 d2] 42 (0, 0)) :: (W.heap.size + 1 + 1, .cells #[.int .i64 (m.v 0), .int .u64 (m.v 1), .int .u64 (m.v 2), .string ⟨m.offer.toArray⟩, .int .i64 1, .int .i64 (m.v 5), .int .i64 (m.v 6), .int .i64 (m.v 7), .int .i64 (m.v 8), .int .i64 (m.v 9), .int .i64 (m.v 10), .int .u64 (m.v 11), .int .u64 (m.v 12)] 34 (0, 0)) :: (W.heap.size + 1, .cells #[.int .i64 pr.pub.dh, .int .i64 pr.pub.kem, .int .i64 pr.p0, .int .i64 pr.p1] 28 (0, 0)) :: (W.heap.size, .cells #[.int .i64 me.dh, .int .i64 me.kem] 24 (0, 0)) :: L) := hS
      have hc := hS2.get 3 rfl
      have HS : Hid (SF S w0 _ p s15 ((t, talkC p c15.1) :: (w2.heap.size, .cells #[.int .i64 1, .int .u64 (m.v 1), .int .u64 0, .string ⟨m.offer.toArray⟩, .int .i64 1, .int .i64 0, .int .i64 e2, .int .i64 k4, .int .i64 b8.2, .int .i64 c10.2, .int .i64 c15.2, .int .u64 0, .int .u64 0] 34 (0, 0)) :: (W.heap.size + 1 + 1 + 1 + 1 + 1 + 1, .cells #[.int .i64 0] 39 (0, 0)) :: (W.heap.size + 1 + 1 + 1 + 1 + 1, .cells #[.int .i64 c15.1.ck, .int .i64 c15.1.k, .int .i64 c15.1.h, .int .u64 c15.1.n, .int .i64 d0, .int .i64 d1, .string ⟨m.offer.toArray⟩] 38 (0, 0)) :: (W.heap.size + 1 + 1 + 1 + 1, .cells #[.int .i64 1, .int .u64 (m.v 1), .int .u64 0, .string ⟨m.offer.toArray⟩, .int .i64 1, .int .i64 0, .int .i64 e2, .int .i64 k4, .int .i64 b8.2, .int .i64 c10.2, .int .i64 c15.2, .int .u64 0, .int .u64 0] 34 (0, 0)) :: (W.heap.size + 1 + 1 + 1, .cells #[.int .i64 d0, .int .i64 d1, .int .i64 d2] 42 (0, 0)) :: (W.heap.size + 1 + 1, .cells #[.int .i64 (m.v 0), .int .u64 (m.v 1), .int .u64 (m.v 2), .string ⟨m.offer.toArray⟩, .int .i64 1, .int .i64 (m.v 5), .int .i64 (m.v 6), .int .i64 (m.v 7), .int .i64 (m.v 8), .int .i64 (m.v 9), .int .i64 (m.v 10), .int .u64 (m.v 11), .int .u64 (m.v 12)] 34 (0, 0)) :: (W.heap.size + 1, .cells #[.int .i64 pr.pub.dh, .int .i64 pr.pub.kem, .int .i64 pr.p0, .int .i64 pr.p1] 28 (0, 0)) :: (W.heap.size, .cells #[.int .i64 me.dh, .int .i64 me.kem] 24 (0, 0)) :: L)) := Lib.hid (SF.setMid (A := [_, _, _]) hS2 6 (.string ⟨m.offer.toArray⟩))
      have cc := cells_of hc
      simp only [CellsAt, Nat.zero_add, Nat.reduceAdd] at cc
      clear hc hS2 hS hF
      refine ⟨_, HS.out, ?_⟩
      simp only [putAll, Act.put, List.setIfInBounds_toArray, List.set_cons_succ, List.set_cons_zero, e19, e10]
      unfold Oper.wp
      go_simp
    · refine cstep_sto 6 rfl rfl rfl ?_
      intro v x hS hF
      have hS2 : SF S w0 x p s15 ((t, talkC p c15.1) :: (w2.heap.size, .cells #[.int .i64 1, .int .u64 (m.v 1), .int .u64 0, .string ⟨m.offer.toArray⟩, .int .i64 1, .int .i64 0, .int .i64 e2, .int .i64 k4, .int .i64 b8.2, .int .i64 c10.2, .int .i64 c15.2, .int .u64 0, .int .u64 0] 34 (0, 0)) :: (W.heap.size + 1 + 1 + 1 + 1 + 1 + 1, .cells #[.int .i64 0] 39 (0, 0)) :: (W.heap.size + 1 + 1 + 1 + 1 + 1, .cells #[.int .i64 c15.1.ck, .int .i64 c15.1.k, .int .i64 c15.1.h, .int .u64 c15.1.n, .int .i64 d0, .int .i64 d1, .string ⟨m.offer.toArray⟩] 38 (0, 0)) :: (W.heap.size + 1 + 1 + 1 + 1, .cells #[.int .i64 1, .int .u64 (m.v 1), .int .u64 0, .string ⟨m.offer.toArray⟩, .int .i64 1, .int .i64 0, .int .i64 e2, .int .i64 k4, .int .i64 b8.2, .int .i64 c10.2, .int .i64 c15.2, .int .u64 0, .int .u64 0] 34 (0, 0)) :: (W.heap.size + 1 + 1 + 1, .cells #[.int .i64 d0, .int .i64 d1, .int .i64 d2] 42 (0, 0)) :: (W.heap.size + 1 + 1, .cells #[.int .i64 (m.v 0), .int .u64 (m.v 1), .int .u64 (m.v 2), .string ⟨m.offer.toArray⟩, .int .i64 1, .int .i64 (m.v 5), .int .i64 (m.v 6), .int .i64 (m.v 7), .int .i64 (m.v 8), .int .i64 (m.v 9), .int .i64 (m.v 10), .int .u64 (m.v 11), .int .u64 (m.v 12)] 34 (0, 0)) :: (W.heap.size + 1, .cells #[.int .i64 pr.pub.dh, .int .i64 pr.pub.kem, .int .i64 pr.p0, .int .i64 pr.p1] 28 (0, 0)) :: (W.heap.size, .cells #[.int .i64 me.dh, .int .i64 me.kem] 24 (0, 0)) :: L) := hS
      have hc := hS2.get 2 rfl
      have HS : Hid (SF S w0 _ p s15 ((t, talkC p c15.1) :: (w2.heap.size, .cells #[.int .i64 1, .int .u64 (m.v 1), .int .u64 0, .string ⟨m.offer.toArray⟩, .int .i64 1, .int .i64 0, .int .i64 e2, .int .i64 k4, .int .i64 b8.2, .int .i64 c10.2, .int .i64 c15.2, .int .u64 0, .int .u64 0] 34 (0, 0)) :: (W.heap.size + 1 + 1 + 1 + 1 + 1 + 1, .cells #[.int .i64 0] 39 (0, 0)) :: (W.heap.size + 1 + 1 + 1 + 1 + 1, .cells #[.int .i64 c15.1.ck, .int .i64 c15.1.k, .int .i64 c15.1.h, .int .u64 c15.1.n, .int .i64 d0, .int .i64 d1, .string ⟨m.offer.toArray⟩] 38 (0, 0)) :: (W.heap.size + 1 + 1 + 1 + 1, .cells #[.int .i64 1, .int .u64 (m.v 1), .int .u64 0, .string ⟨m.offer.toArray⟩, .int .i64 1, .int .i64 0, .int .i64 e2, .int .i64 k4, .int .i64 b8.2, .int .i64 c10.2, .int .i64 c15.2, .int .u64 0, .int .u64 0] 34 (0, 0)) :: (W.heap.size + 1 + 1 + 1, .cells #[.int .i64 d0, .int .i64 d1, .int .i64 d2] 42 (0, 0)) :: (W.heap.size + 1 + 1, .cells #[.int .i64 (m.v 0), .int .u64 (m.v 1), .int .u64 (m.v 2), .string ⟨m.offer.toArray⟩, .int .i64 1, .int .i64 (m.v 5), .int .i64 (m.v 6), .int .i64 (m.v 7), .int .i64 (m.v 8), .int .i64 (m.v 9), .int .i64 (m.v 10), .int .u64 (m.v 11), .int .u64 (m.v 12)] 34 (0, 0)) :: (W.heap.size + 1, .cells #[.int .i64 pr.pub.dh, .int .i64 pr.pub.kem, .int .i64 pr.p0, .int .i64 pr.p1] 28 (0, 0)) :: (W.heap.size, .cells #[.int .i64 me.dh, .int .i64 me.kem] 24 (0, 0)) :: L)) := Lib.hid (SF.setMid (A := [_, _]) hS2 0 (.int .i64 0))
      have cc := cells_of hc
      simp only [CellsAt, Nat.zero_add, Nat.reduceAdd] at cc
      clear hc hS2 hS hF
      refine ⟨_, HS.out, ?_⟩
      simp only [putAll, Act.put, List.setIfInBounds_toArray, List.set_cons_succ, List.set_cons_zero]
      unfold Oper.wp
      go_simp
  · intro v x hF hS
    have F20 := Lib.hid (hS.later ((Below.refl _ _).alloc (Nat.le_refl _) (.cells #[.int .i64 0] 120)))
    clear hS hF
    simp only [putAll, Act.put, List.setIfInBounds_toArray, List.set_cons_succ, List.set_cons_zero]
    go_wp2_with fail
    refine door_ret rfl ?_
    have g0 := F20.out.get 2 rfl
    have g1 := F20.out.get 3 rfl
    have g2 := F20.out.get 4 rfl
    have hR := HR16.out
    simp only [if_true, Sough.bnd] at hR
    rw [← hR]
    refine ⟨.tuple #[.agg #[.int .i64 1, .int .u64 (m.v 1), .int .u64 0, .string ⟨m.offer.toArray⟩, .int .i64 1, .int .i64 0, .int .i64 e2, .int .i64 k4, .int .i64 b8.2, .int .i64 c10.2, .int .i64 c15.2, .int .u64 0, .int .u64 0], .agg #[.int .i64 c15.1.ck, .int .i64 c15.1.k, .int .i64 c15.1.h, .int .u64 c15.1.n, .int .i64 d0, .int .i64 d1, .string ⟨m.offer.toArray⟩], .int .i64 0], ?_, ?_, F20.out.sub (by repeat (first | with_reducible exact List.Sublist.refl _ | with_reducible refine List.Sublist.cons_cons _ ?_ | refine List.Sublist.cons _ ?_))⟩
    · simp [results, Try.results12, go_sem, World.cell?, g0, g1, g2, pnS, mmS]
    · rw [HC.out]; rfl
set_option maxRecDepth 100000 in
set_option maxHeartbeats 1600000 in
theorem begin_no {S : List Nat} {w0 W : World} {p stamp : Nat} {st : Sough.Store} {L : List (Nat × Obj)} {me : Sough.Pair} {pr : Sough.Peer} {m : Sough.Msg} {d0 d1 d2 : Int} {R : Sough.Res (Sough.Msg × Sough.Pending)} (h : SF S w0 W p st L) (hm : m.Wf) (h40 : (m.v 4 == 0) = false) (h41 : (m.v 4 == 1) = false) (hst : stamp < 18446744073709551616)
    (hme : Sough.Int64 me.dh ∧ Sough.Int64 me.kem) (hpr : Sough.Int64 pr.pub.dh ∧ Sough.Int64 pr.pub.kem ∧ Sough.Int64 pr.p0 ∧ Sough.Int64 pr.p1) (hd : Sough.Int64 d0 ∧ Sough.Int64 d1 ∧ Sough.Int64 d2) (hf : Sough.beginT st me pr m stamp d0 d1 d2 = R) :
    Calls Try.prog 12 #[.pointer (some ⟨p, 0, none⟩), .agg #[.int .i64 me.dh, .int .i64 me.kem], .agg #[.int .i64 pr.pub.dh, .int .i64 pr.pub.kem, .int .i64 pr.p0, .int .i64 pr.p1], .agg #[.int .i64 (m.v 0), .int .u64 (m.v 1), .int .u64 (m.v 2), .string ⟨m.offer.toArray⟩, .int .i64 (m.v 4), .int .i64 (m.v 5), .int .i64 (m.v 6), .int .i64 (m.v 7), .int .i64 (m.v 8), .int .i64 (m.v 9), .int .i64 (m.v 10), .int .u64 (m.v 11), .int .u64 (m.v 12)], .int .u64 stamp, .agg #[.int .i64 d0, .int .i64 d1, .int .i64 d2]] W (BeginTo S w0 p L R) := by
  have hq : (st, .error 1) = R := by
    rw [← hf]
    unfold Sough.beginT Sough.need
    rw [if_neg (by simp at h40 h41; simp [h40, h41])]
    rfl
  have HQ := Lib.hid hq
  have F0 := Lib.hid (((((((h.alloc (.cells #[.int .i64 me.dh, .int .i64 me.kem] 24)).alloc (.cells #[.int .i64 pr.pub.dh, .int .i64 pr.pub.kem, .int .i64 pr.p0, .int .i64 pr.p1] 28)).alloc (.cells #[.int .i64 (m.v 0), .int .u64 (m.v 1), .int .u64 (m.v 2), .string ⟨m.offer.toArray⟩, .int .i64 (m.v 4), .int .i64 (m.v 5), .int .i64 (m.v 6), .int .i64 (m.v 7), .int .i64 (m.v 8), .int .i64 (m.v 9), .int .i64 (m.v 10), .int .u64 (m.v 11), .int .u64 (m.v 12)] 34)).alloc (.cells #[.int .i64 d0, .int .i64 d1, .int .i64 d2] 42)).alloc (.cells #[.int .i64 0, .int .u64 0, .int .u64 0, .string ⟨#[]⟩, .int .i64 0, .int .i64 0, .int .i64 0, .int .i64 0, .int .i64 0, .int .i64 0, .int .i64 0, .int .u64 0, .int .u64 0] 34)).alloc (.cells #[.int .i64 0, .int .i64 0, .int .i64 0, .int .u64 0, .int .i64 0, .int .i64 0, .string ⟨#[]⟩] 38)).alloc (.cells #[.int .i64 0] 39))
  simp only [World.size_alloc] at F0
  clear h hm hme hpr hd hf hst hq
  go_enter_defers Try.func12, Try.ntmps12
  go_wp2_with fail
  refine (need_er (er := 1) (by omega) _).mono ?_
  rintro e w1 ⟨rfl, rfl⟩
  exact begin_bad rfl rfl rfl F0.out (by repeat (first | with_reducible exact List.Sublist.refl _ | with_reducible refine List.Sublist.cons_cons _ ?_ | refine List.Sublist.cons _ ?_)) HQ.out
theorem begin_any {S : List Nat} {w0 W : World} {p stamp : Nat} {st : Sough.Store} {L : List (Nat × Obj)} {me : Sough.Pair} {pr : Sough.Peer} {m : Sough.Msg} {d0 d1 d2 : Int} {R : Sough.Res (Sough.Msg × Sough.Pending)} (h : SF S w0 W p st L) (hm : m.Wf) (hst : stamp < 18446744073709551616)
    (hme : Sough.Int64 me.dh ∧ Sough.Int64 me.kem) (hpr : Sough.Int64 pr.pub.dh ∧ Sough.Int64 pr.pub.kem ∧ Sough.Int64 pr.p0 ∧ Sough.Int64 pr.p1) (hd : Sough.Int64 d0 ∧ Sough.Int64 d1 ∧ Sough.Int64 d2) (hf : Sough.beginT st me pr m stamp d0 d1 d2 = R) :
    Calls Try.prog 12 #[.pointer (some ⟨p, 0, none⟩), .agg #[.int .i64 me.dh, .int .i64 me.kem], .agg #[.int .i64 pr.pub.dh, .int .i64 pr.pub.kem, .int .i64 pr.p0, .int .i64 pr.p1], .agg #[.int .i64 (m.v 0), .int .u64 (m.v 1), .int .u64 (m.v 2), .string ⟨m.offer.toArray⟩, .int .i64 (m.v 4), .int .i64 (m.v 5), .int .i64 (m.v 6), .int .i64 (m.v 7), .int .i64 (m.v 8), .int .i64 (m.v 9), .int .i64 (m.v 10), .int .u64 (m.v 11), .int .u64 (m.v 12)], .int .u64 stamp, .agg #[.int .i64 d0, .int .i64 d1, .int .i64 d2]] W (BeginTo S w0 p L R) := by
  by_cases h0 : m.v 4 = 0
  · exact begin_0 h hm h0 hst hme hpr hd hf
  by_cases h1 : m.v 4 = 1
  · exact begin_1 h hm h1 hst hme hpr hd hf
  exact begin_no h hm (by simpa using h0) (by simpa using h1) hst hme hpr hd hf
end Go.Proofs.Ytlfgempjjoclbaa
namespace Sough
def beginR (st : Store) (me : Pair) (pr : Peer) (m : Msg) (stamp : Nat) (d0 d1 d2 : Int) : Store × Msg × Pending × Nat :=
  ((beginT st me pr m stamp d0 d1 d2).1, (vR (zeroM, zeroPd) (beginT st me pr m stamp d0 d1 d2)).1, (vR (zeroM, zeroPd) (beginT st me pr m stamp d0 d1 d2)).2, eR (beginT st me pr m stamp d0 d1 d2))
def openR (st : Store) (me : Pair) (peers : List Peer) (text : List UInt8) (m : Msg) : Store × Opened × Nat :=
  ((openedT st me peers text m).1, vR zeroO (openedT st me peers text m), eR (openedT st me peers text m))
def answerR (st : Store) (o : Opened) (frm to d0 d1 : Int) : Store × Msg × Sesn × Nat :=
  ((answerT st o frm to d0 d1).1, (vR (zeroM, zeroS) (answerT st o frm to d0 d1)).1, (vR (zeroM, zeroS) (answerT st o frm to d0 d1)).2, eR (answerT st o frm to d0 d1))
def finishR (st : Store) (me : Pair) (p : Pending) (m : Msg) : Store × Sesn × Nat :=
  ((finishT st me p m).1, vR zeroS (finishT st me p m), eR (finishT st me p m))
end Sough
namespace Go.Proofs.Ytlfgempjjoclbaa
open Go.RowKit Go.Maps Go.ChangeMaps
section
variable {S : List Nat} {w0 W : World} {p er : Nat} {st s : Sough.Store} {L : List (Nat × Obj)} {me : Sough.Pair} {m x : Sough.Msg} {pr : Sough.Peer} {peers : List Sough.Peer} {d0 d1 d2 : Int} {q : Sough.Pending} {o : Sough.Opened} {z : Sough.Sesn}
theorem begin_at {stamp : Nat} (h : SF S w0 W p st L) (hm : m.Wf) (hst : stamp < 18446744073709551616)
    (hme : Sough.Int64 me.dh ∧ Sough.Int64 me.kem) (hpr : Sough.Int64 pr.pub.dh ∧ Sough.Int64 pr.pub.kem ∧ Sough.Int64 pr.p0 ∧ Sough.Int64 pr.p1) (hd : Sough.Int64 d0 ∧ Sough.Int64 d1 ∧ Sough.Int64 d2) (hf : Sough.beginR st me pr m stamp d0 d1 d2 = (s, x, q, er)) :
    (Calls Try.prog 12 #[.pointer (some ⟨p, 0, none⟩), .agg #[.int .i64 me.dh, .int .i64 me.kem], .agg #[.int .i64 pr.pub.dh, .int .i64 pr.pub.kem, .int .i64 pr.p0, .int .i64 pr.p1], .agg #[.int .i64 (m.v 0), .int .u64 (m.v 1), .int .u64 (m.v 2), .string ⟨m.offer.toArray⟩, .int .i64 (m.v 4), .int .i64 (m.v 5), .int .i64 (m.v 6), .int .i64 (m.v 7), .int .i64 (m.v 8), .int .i64 (m.v 9), .int .i64 (m.v 10), .int .u64 (m.v 11), .int .u64 (m.v 12)], .int .u64 stamp, .agg #[.int .i64 d0, .int .i64 d1, .int .i64 d2]] W fun e w' => e = .returned (.tuple #[.agg #[.int .i64 (x.v 0), .int .u64 (x.v 1), .int .u64 (x.v 2), .string ⟨x.offer.toArray⟩, .int .i64 (x.v 4), .int .i64 (x.v 5), .int .i64 (x.v 6), .int .i64 (x.v 7), .int .i64 (x.v 8), .int .i64 (x.v 9), .int .i64 (x.v 10), .int .u64 (x.v 11), .int .u64 (x.v 12)], .agg #[.int .i64 q.y.ck, .int .i64 q.y.k, .int .i64 q.y.h, .int .u64 q.y.n, .int .i64 q.e, .int .i64 q.ek, .string ⟨q.offer.toArray⟩], .int .i64 er]) ∧ SF S w0 w' p s L) ∧ x.Wf ∧ q.Wf := by
  unfold Sough.beginR at hf
  obtain ⟨R, hR⟩ : ∃ R, Sough.beginT st me pr m stamp d0 d1 d2 = R := ⟨_, rfl⟩
  have hc := begin_any h hm hst hme hpr hd hR
  have hw := fun s x q (e : R = (s, .ok (x, q))) => Sough.beginT_wf h.ok hm hme hpr hd (hR.trans e)
  rw [hR] at hf
  rcases R with ⟨s1, e1 | ⟨x1, q1⟩⟩
  · simp only [Sough.vR, Sough.eR, Prod.mk.injEq] at hf
    obtain ⟨rfl, rfl, rfl, rfl⟩ := hf
    exact ⟨hc, Sough.zeroM_wf, Sough.zeroPd_wf⟩
  · simp only [Sough.vR, Sough.eR, Prod.mk.injEq] at hf
    obtain ⟨rfl, rfl, rfl, rfl⟩ := hf
    exact ⟨hc, hw _ _ _ rfl⟩
theorem open_at {v : Value} {text : List UInt8} (h : SF S w0 W p st L) (hme : Sough.Int64 me.dh ∧ Sough.Int64 me.kem) (hv : PeersIn L v peers) (hpe : ∀ q ∈ peers, Sough.Int64 q.p0 ∧ Sough.Int64 q.p1) (ht : text.length ≤ maxLen) (hm : m.Wf) (hf : Sough.openR st me peers text m = (s, o, er)) :
    (Calls Try.prog 13 #[.pointer (some ⟨p, 0, none⟩), .agg #[.int .i64 me.dh, .int .i64 me.kem], v, .string ⟨text.toArray⟩, .agg #[.int .i64 (m.v 0), .int .u64 (m.v 1), .int .u64 (m.v 2), .string ⟨m.offer.toArray⟩, .int .i64 (m.v 4), .int .i64 (m.v 5), .int .i64 (m.v 6), .int .i64 (m.v 7), .int .i64 (m.v 8), .int .i64 (m.v 9), .int .i64 (m.v 10), .int .u64 (m.v 11), .int .u64 (m.v 12)]] W fun e w' => e = .returned (.tuple #[.agg #[.int .i64 o.y.ck, .int .i64 o.y.k, .int .i64 o.y.h, .int .u64 o.y.n, .int .i64 o.peer, .int .i64 o.version, .int .u64 o.stamp, .int .i64 o.e, .int .i64 o.ek, .int .i64 o.pub], .int .i64 er]) ∧ SF S w0 w' p s L) ∧ o.Wf := by
  unfold Sough.openR at hf
  obtain ⟨R, hR⟩ : ∃ R, Sough.openedT st me peers text m = R := ⟨_, rfl⟩
  have hc := open_any h hme hv hpe ht hm hR
  have hw := fun s o (e : R = (s, .ok o)) => (Sough.openedT_wf h.ok hme hpe hm (hR.trans e)).1
  rw [hR] at hf
  rcases R with ⟨s1, e1 | o1⟩
  · simp only [Sough.vR, Sough.eR, Prod.mk.injEq] at hf
    obtain ⟨rfl, rfl, rfl⟩ := hf
    exact ⟨hc, Sough.zeroO_wf⟩
  · simp only [Sough.vR, Sough.eR, Prod.mk.injEq] at hf
    obtain ⟨rfl, rfl, rfl⟩ := hf
    exact ⟨hc, hw _ _ rfl⟩
theorem answer_at {frm to : Int} (h : SF S w0 W p st L) (ho : o.Wf) (hft : (0 ≤ frm ∧ frm ≤ 18446744073709551615) ∧ (0 ≤ to ∧ to ≤ 18446744073709551615)) (hd : Sough.Int64 d0 ∧ Sough.Int64 d1) (hf : Sough.answerR st o frm to d0 d1 = (s, x, z, er)) :
    (Calls Try.prog 14 #[.pointer (some ⟨p, 0, none⟩), .agg #[.int .i64 o.y.ck, .int .i64 o.y.k, .int .i64 o.y.h, .int .u64 o.y.n, .int .i64 o.peer, .int .i64 o.version, .int .u64 o.stamp, .int .i64 o.e, .int .i64 o.ek, .int .i64 o.pub], .int .u64 frm, .int .u64 to, .agg #[.int .i64 d0, .int .i64 d1]] W fun e w' => e = .returned (.tuple #[.agg #[.int .i64 (x.v 0), .int .u64 (x.v 1), .int .u64 (x.v 2), .string ⟨x.offer.toArray⟩, .int .i64 (x.v 4), .int .i64 (x.v 5), .int .i64 (x.v 6), .int .i64 (x.v 7), .int .i64 (x.v 8), .int .i64 (x.v 9), .int .i64 (x.v 10), .int .u64 (x.v 11), .int .u64 (x.v 12)], .agg #[.int .i64 z.h, .int .i64 z.send, .int .i64 z.recv, .int .i64 z.version], .int .i64 er]) ∧ SF S w0 w' p s L) ∧ x.Wf ∧ z.Wf := by
  unfold Sough.answerR at hf
  obtain ⟨R, hR⟩ : ∃ R, Sough.answerT st o frm to d0 d1 = R := ⟨_, rfl⟩
  have hc := answer_any h ho.y ⟨ho.version, ho.e, ho.ek, ho.pub⟩ hft hd hR
  have hw := fun s x q (e : R = (s, .ok (x, q))) => Sough.answerT_wf h.ok ho hd (hR.trans e)
  rw [hR] at hf
  rcases R with ⟨s1, e1 | ⟨x1, q1⟩⟩
  · simp only [Sough.vR, Sough.eR, Prod.mk.injEq] at hf
    obtain ⟨rfl, rfl, rfl, rfl⟩ := hf
    exact ⟨hc, Sough.zeroM_wf, Sough.zeroS_wf⟩
  · simp only [Sough.vR, Sough.eR, Prod.mk.injEq] at hf
    obtain ⟨rfl, rfl, rfl, rfl⟩ := hf
    exact ⟨hc, hw _ _ _ rfl⟩
theorem finish_at (h : SF S w0 W p st L) (hme : Sough.Int64 me.dh) (hq : q.Wf) (hm : m.Wf) (hf : Sough.finishR st me q m = (s, z, er)) :
    (Calls Try.prog 16 #[.pointer (some ⟨p, 0, none⟩), .agg #[.int .i64 me.dh, .int .i64 me.kem], .agg #[.int .i64 q.y.ck, .int .i64 q.y.k, .int .i64 q.y.h, .int .u64 q.y.n, .int .i64 q.e, .int .i64 q.ek, .string ⟨q.offer.toArray⟩], .agg #[.int .i64 (m.v 0), .int .u64 (m.v 1), .int .u64 (m.v 2), .string ⟨m.offer.toArray⟩, .int .i64 (m.v 4), .int .i64 (m.v 5), .int .i64 (m.v 6), .int .i64 (m.v 7), .int .i64 (m.v 8), .int .i64 (m.v 9), .int .i64 (m.v 10), .int .u64 (m.v 11), .int .u64 (m.v 12)]] W fun e w' => e = .returned (.tuple #[.agg #[.int .i64 z.h, .int .i64 z.send, .int .i64 z.recv, .int .i64 z.version], .int .i64 er]) ∧ SF S w0 w' p s L) ∧ z.Wf := by
  unfold Sough.finishR at hf
  obtain ⟨R, hR⟩ : ∃ R, Sough.finishT st me q m = R := ⟨_, rfl⟩
  have hc := finish_any h hme hq.y ⟨hq.e, hq.ek, hq.offer⟩ hm hR
  have hw := fun s x (e : R = (s, .ok x)) => Sough.finishT_wf h.ok hme hq hm (hR.trans e)
  rw [hR] at hf
  rcases R with ⟨s1, e1 | x1⟩
  · simp only [Sough.vR, Sough.eR, Prod.mk.injEq] at hf
    obtain ⟨rfl, rfl, rfl⟩ := hf
    exact ⟨hc, Sough.zeroS_wf⟩
  · simp only [Sough.vR, Sough.eR, Prod.mk.injEq] at hf
    obtain ⟨rfl, rfl, rfl⟩ := hf
    exact ⟨hc, hw _ _ rfl⟩
end
set_option maxRecDepth 100000 in
set_option maxHeartbeats 800000 in
theorem eqSesn (m q : Sough.Sesn) (w : World) : (Op.equalIn 10000 49 (.agg #[.int .i64 m.h, .int .i64 m.send, .int .i64 m.recv, .int .i64 m.version]) (.agg #[.int .i64 q.h, .int .i64 q.send, .int .i64 q.recv, .int .i64 q.version])).run Try.prog w = .ok (decide (m = q)) w := by
  have u1 := Try.underlying3
  have a1 := Try.isAgg3
  have z1 := Try.sizeOf3
  have hS : Try.prog.underlying 49 = some (.struct (Try.prog.fieldsOf 49)) := by kernel_rfl
  rw [show (10000 : Nat) = 9999 + 1 from rfl, run_equalIn_agg w 9999 49 _ _ hS (by kernel_rfl)]
  simp only [Program.fieldsOf, Try.underlying49]
  go_simp
  obtain ⟨a, b, c, d⟩ := m
  obtain ⟨a', b', c', d'⟩ := q
  by_cases h0 : a = a'
  rotate_left
  · simp [h0]
  subst h0
  by_cases h1 : b = b'
  rotate_left
  · simp [h1]
  subst h1
  by_cases h2 : c = c'
  rotate_left
  · simp [h2]
  subst h2
  by_cases h3 : d = d'
  rotate_left
  · simp [h3]
  subst h3
  simp
end Go.Proofs.Ytlfgempjjoclbaa
namespace Sough
theorem reqM_wf {frm slot : Int} {offer : List UInt8} (hf : 0 ≤ frm ∧ frm ≤ 18446744073709551615) (hs : Int64 slot) (ho : offer.length ≤ 9223372036854775807) : (reqM frm offer slot).Wf := by
  refine ⟨fun c hc => ?_, fun c hc => ?_, ho⟩
  · simp only [List.mem_cons, List.not_mem_nil, or_false] at hc
    rcases hc with rfl | rfl | rfl | rfl | rfl | rfl | rfl | rfl <;> simp [reqM] <;> exact hs
  · simp only [List.mem_cons, List.not_mem_nil, or_false] at hc
    rcases hc with rfl | rfl | rfl | rfl <;> simp [reqM] <;> exact hf
def bad1 : Peer := ⟨⟨15, 16⟩, 5, 5⟩
def fx1 := beginR twoS me0 peer0 (reqM 7 [3, 1] 1) 300 7 8 9
def fx2 := openR fx1.1 me1 [zeroP, peer1] [2, 1] fx1.2.1
def fx3 := answerR fx2.1 fx2.2.1 9 7 10 11
def fx4 := finishR fx3.1 me0 fx1.2.2.1 fx3.2.1
def fx5 := openR fx4.1 me1 [bad1] [2, 1] fx1.2.1
def fx6 := openR fx5.1 me1 [peer0] [2, 1] fx1.2.1
def fx7 := openR fx6.1 me1 [peer1] [2] fx1.2.1
def fx8 := openR fx7.1 me0 [peer1] [2, 1] fx1.2.1
def fx9 := finishR fx8.1 me0 fx1.2.2.1 fx1.2.1
def fx10 := beginR fx9.1 me0 peer0 (reqM 7 [3] 2) 300 7 8 9
set_option maxRecDepth 100000 in
theorem fx_all : fx1.2.2.2 = 0 ∧ fx1.2.1.v 0 = 1 ∧ fx1.2.1.v 1 = 7 ∧ fx2.2.2 = 0 ∧ fx2.2.1.peer = 1 ∧ fx2.2.1.version = 1 ∧ fx2.2.1.stamp = 300 ∧ fx3.2.2.2 = 0 ∧ fx3.2.1.v 0 = 2 ∧ fx3.2.1.v 1 = 9 ∧ fx3.2.1.v 2 = 7 ∧ fx4.2.2 = 0 ∧
    fx4.2.1 = ⟨fx3.2.2.1.h, fx3.2.2.1.recv, fx3.2.2.1.send, 1⟩ ∧ fx3.2.2.1.send ≠ fx3.2.2.1.recv ∧ fx5.2.2 = 9 ∧ fx6.2.2 = 5 ∧ fx7.2.2 = 11 ∧ fx8.2.2 = 10 ∧ fx9.2.2 = 3 ∧ fx10.2.2.2 = 1 ∧ True := by decide +kernel
end Sough
namespace Go.Proofs.Ytlfgempjjoclbaa
open Go.RowKit Go.Maps Go.ChangeMaps
set_option maxRecDepth 100000 in
set_option maxHeartbeats 6400000 in
theorem fixed_walk (W : World) : Calls Try.prog 17 #[] W fun e w' => e = .returned (.bool true) ∧ Below W.heap.size W w' := by
  go_enter Try.func17, Try.ntmps17
  go_wp2_with fail
  refine (two_any _).mono ?_
  rintro e w1 ⟨p, rfl, g⟩
  have F1 := Lib.hid g
  have F2 := Lib.hid (F1.out.alloc (.cells #[.int .i64 1, .int .i64 2, .int .i64 3, .int .i64 4] 25))
  try simp only [World.size_alloc, size_setCell] at F2
  have F3 := Lib.hid (F2.out.alloc (.cells #[.int .i64 17, .int .i64 18, .int .i64 5, .int .i64 6, .int .i64 15, .int .i64 16, .int .i64 5, .int .i64 6] 29))
  try simp only [World.size_alloc, size_setCell] at F3
  clear g
  obtain ⟨s1, m1, q1, e1, h1⟩ : ∃ s1 m1 q1 e1, Sough.fx1 = (s1, m1, q1, e1) := ⟨_, _, _, _, rfl⟩
  have H1 := Lib.hid h1
  clear h1
  have HC := (begin_at (me := Sough.me0) (pr := Sough.peer0) (m := Sough.reqM 7 [3, 1] 1) (stamp := 300) (d0 := 7) (d1 := 8) (d2 := 9) F3.out (Sough.reqM_wf (by decide) ⟨by decide, by decide⟩ (by decide)) (by decide) ⟨⟨by decide, by decide⟩, ⟨by decide, by decide⟩⟩ ⟨⟨by decide, by decide⟩, ⟨by decide, by decide⟩, ⟨by decide, by decide⟩, ⟨by decide, by decide⟩⟩ ⟨⟨by decide, by decide⟩, ⟨by decide, by decide⟩, ⟨by decide, by decide⟩⟩ (by have h := H1.out; unfold Sough.fx1 at h; exact h) : (Calls Try.prog 12 #[.pointer (some ⟨p, 0, none⟩), .agg #[.int .i64 1, .int .i64 2], .agg #[.int .i64 17, .int .i64 18, .int .i64 5, .int .i64 6], .agg #[.int .i64 0, .int .u64 7, .int .u64 0, .string ⟨#[3, 1]⟩, .int .i64 1, .int .i64 0, .int .i64 0, .int .i64 0, .int .i64 0, .int .i64 0, .int .i64 0, .int .u64 0, .int .u64 0], .int .u64 300, .agg #[.int .i64 7, .int .i64 8, .int .i64 9]] _ _) ∧ m1.Wf ∧ q1.Wf)
  obtain ⟨HC, wm1, wq1⟩ := HC
  have WM1 := Lib.hid wm1
  have WQ1 := Lib.hid wq1
  clear wm1 wq1
  have HC := Lib.hid HC
  have r0 := F1.out.mem.rules; simp only [AllCells, CellsAt, Nat.zero_add, Nat.reduceAdd, talkC] at r0
  have r1 := F2.out.mem.rules; simp only [AllCells, CellsAt, Nat.zero_add, Nat.reduceAdd, talkC] at r1
  have r2 := F3.out.mem.rules; simp only [AllCells, CellsAt, Nat.zero_add, Nat.reduceAdd, talkC] at r2
  go_wp2_with fail
  clear r0 r1 r2
  refine HC.out.mono ?_
  rintro e w2 ⟨rfl, g⟩
  clear HC
  clear F1 F2
  have F4 := Lib.hid g
  have F5 := Lib.hid (F4.out.alloc (.cells #[.int .i64 (m1.v 0), .int .u64 (m1.v 1), .int .u64 (m1.v 2), .string ⟨m1.offer.toArray⟩, .int .i64 (m1.v 4), .int .i64 (m1.v 5), .int .i64 (m1.v 6), .int .i64 (m1.v 7), .int .i64 (m1.v 8), .int .i64 (m1.v 9), .int .i64 (m1.v 10), .int .u64 (m1.v 11), .int .u64 (m1.v 12)] 34))
  try simp only [World.size_alloc, size_setCell] at F5
  have F6 := Lib.hid (F5.out.alloc (.cells #[.int .i64 q1.y.ck, .int .i64 q1.y.k, .int .i64 q1.y.h, .int .u64 q1.y.n, .int .i64 q1.e, .int .i64 q1.ek, .string ⟨q1.offer.toArray⟩] 38))
  try simp only [World.size_alloc, size_setCell] at F6
  clear g
  clear F3
  have F7 := Lib.hid (F6.out.alloc (.cells #[.int .i64 0, .int .i64 0, .int .i64 0, .int .i64 0, .int .i64 15, .int .i64 16, .int .i64 5, .int .i64 6] 28))
  try simp only [World.size_alloc, size_setCell] at F7
  obtain ⟨s2, o2, e2, h2⟩ : ∃ s2 o2 e2, Sough.fx2 = (s2, o2, e2) := ⟨_, _, _, rfl⟩
  have H2 := Lib.hid h2
  clear h2
  have HC := (open_at (me := Sough.me1) (peers := [Sough.zeroP, Sough.peer1]) (text := [2, 1]) (m := m1) F7.out ⟨⟨by decide, by decide⟩, ⟨by decide, by decide⟩⟩ (.inr ⟨_, 2, _, rfl, Nat.le_refl _, by omega, List.mem_cons_self ..⟩) (by intro q hq; simp only [List.mem_cons, List.not_mem_nil, or_false] at hq; rcases hq with rfl | rfl <;> exact ⟨⟨by decide, by decide⟩, ⟨by decide, by decide⟩⟩) (by decide) WM1.out (by have h := H2.out; unfold Sough.fx2 at h; simp only [H1.out] at h; exact h) : (Calls Try.prog 13 #[.pointer (some ⟨p, 0, none⟩), .agg #[.int .i64 3, .int .i64 4], .slice (some ⟨w2.heap.size + 1 + 1, 0, none⟩) 2 2, .string ⟨#[2, 1]⟩, .agg #[.int .i64 (m1.v 0), .int .u64 (m1.v 1), .int .u64 (m1.v 2), .string ⟨m1.offer.toArray⟩, .int .i64 (m1.v 4), .int .i64 (m1.v 5), .int .i64 (m1.v 6), .int .i64 (m1.v 7), .int .i64 (m1.v 8), .int .i64 (m1.v 9), .int .i64 (m1.v 10), .int .u64 (m1.v 11), .int .u64 (m1.v 12)]] _ _) ∧ o2.Wf)
  obtain ⟨HC, wo2⟩ := HC
  have WO2 := Lib.hid wo2
  clear wo2
  have HC := Lib.hid HC
  have r0 := F4.out.mem.rules; simp only [AllCells, CellsAt, Nat.zero_add, Nat.reduceAdd, talkC] at r0
  have r1 := F5.out.mem.rules; simp only [AllCells, CellsAt, Nat.zero_add, Nat.reduceAdd, talkC] at r1
  have r2 := F6.out.mem.rules; simp only [AllCells, CellsAt, Nat.zero_add, Nat.reduceAdd, talkC] at r2
  have r3 := F7.out.mem.rules; simp only [AllCells, CellsAt, Nat.zero_add, Nat.reduceAdd, talkC] at r3
  go_wp2_with fail
  clear r0 r1 r2 r3
  refine HC.out.mono ?_
  rintro e w3 ⟨rfl, g⟩
  clear HC
  clear F4 F5 F6
  have F8 := Lib.hid g
  have F9 := Lib.hid (F8.out.alloc (.cells #[.int .i64 o2.y.ck, .int .i64 o2.y.k, .int .i64 o2.y.h, .int .u64 o2.y.n, .int .i64 o2.peer, .int .i64 o2.version, .int .u64 o2.stamp, .int .i64 o2.e, .int .i64 o2.ek, .int .i64 o2.pub] 44))
  try simp only [World.size_alloc, size_setCell] at F9
  clear g
  clear F7
  obtain ⟨s3, y3, u3, e3, h3⟩ : ∃ s3 y3 u3 e3, Sough.fx3 = (s3, y3, u3, e3) := ⟨_, _, _, _, rfl⟩
  have H3 := Lib.hid h3
  clear h3
  have HC := (answer_at (o := o2) (frm := 9) (to := 7) (d0 := 10) (d1 := 11) F9.out WO2.out ⟨by decide, by decide⟩ ⟨⟨by decide, by decide⟩, ⟨by decide, by decide⟩⟩ (by have h := H3.out; unfold Sough.fx3 at h; simp only [H1.out, H2.out] at h; exact h) : (Calls Try.prog 14 #[.pointer (some ⟨p, 0, none⟩), .agg #[.int .i64 o2.y.ck, .int .i64 o2.y.k, .int .i64 o2.y.h, .int .u64 o2.y.n, .int .i64 o2.peer, .int .i64 o2.version, .int .u64 o2.stamp, .int .i64 o2.e, .int .i64 o2.ek, .int .i64 o2.pub], .int .u64 9, .int .u64 7, .agg #[.int .i64 10, .int .i64 11]] _ _) ∧ y3.Wf ∧ u3.Wf)
  obtain ⟨HC, wy3, wu3⟩ := HC
  have WY3 := Lib.hid wy3
  have WU3 := Lib.hid wu3
  clear wy3 wu3
  have HC := Lib.hid HC
  have r0 := F8.out.mem.rules; simp only [AllCells, CellsAt, Nat.zero_add, Nat.reduceAdd, talkC] at r0
  have r1 := F9.out.mem.rules; simp only [AllCells, CellsAt, Nat.zero_add, Nat.reduceAdd, talkC] at r1
  go_wp2_with fail
  clear r0 r1
  refine HC.out.mono ?_
  rintro e w4 ⟨rfl, g⟩
  clear HC
  clear F8
  have F10 := Lib.hid g
  have F11 := Lib.hid (F10.out.alloc (.cells #[.int .i64 (y3.v 0), .int .u64 (y3.v 1), .int .u64 (y3.v 2), .string ⟨y3.offer.toArray⟩, .int .i64 (y3.v 4), .int .i64 (y3.v 5), .int .i64 (y3.v 6), .int .i64 (y3.v 7), .int .i64 (y3.v 8), .int .i64 (y3.v 9), .int .i64 (y3.v 10), .int .u64 (y3.v 11), .int .u64 (y3.v 12)] 34))
  try simp only [World.size_alloc, size_setCell] at F11
  have F12 := Lib.hid (F11.out.alloc (.cells #[.int .i64 u3.h, .int .i64 u3.send, .int .i64 u3.recv, .int .i64 u3.version] 49))
  try simp only [World.size_alloc, size_setCell] at F12
  clear g
  clear F9
  obtain ⟨s4, v4, e4, h4⟩ : ∃ s4 v4 e4, Sough.fx4 = (s4, v4, e4) := ⟨_, _, _, rfl⟩
  have H4 := Lib.hid h4
  clear h4
  have HC := (finish_at (me := Sough.me0) (q := q1) (m := y3) F12.out ⟨by decide, by decide⟩ WQ1.out WY3.out (by have h := H4.out; unfold Sough.fx4 at h; simp only [H1.out, H2.out, H3.out] at h; exact h) : (Calls Try.prog 16 #[.pointer (some ⟨p, 0, none⟩), .agg #[.int .i64 1, .int .i64 2], .agg #[.int .i64 q1.y.ck, .int .i64 q1.y.k, .int .i64 q1.y.h, .int .u64 q1.y.n, .int .i64 q1.e, .int .i64 q1.ek, .string ⟨q1.offer.toArray⟩], .agg #[.int .i64 (y3.v 0), .int .u64 (y3.v 1), .int .u64 (y3.v 2), .string ⟨y3.offer.toArray⟩, .int .i64 (y3.v 4), .int .i64 (y3.v 5), .int .i64 (y3.v 6), .int .i64 (y3.v 7), .int .i64 (y3.v 8), .int .i64 (y3.v 9), .int .i64 (y3.v 10), .int .u64 (y3.v 11), .int .u64 (y3.v 12)]] _ _) ∧ v4.Wf)
  obtain ⟨HC, wz4⟩ := HC
  have WZ4 := Lib.hid wz4
  clear wz4
  have HC := Lib.hid HC
  have r0 := F10.out.mem.rules; simp only [AllCells, CellsAt, Nat.zero_add, Nat.reduceAdd, talkC] at r0
  have r1 := F11.out.mem.rules; simp only [AllCells, CellsAt, Nat.zero_add, Nat.reduceAdd, talkC] at r1
  have r2 := F12.out.mem.rules; simp only [AllCells, CellsAt, Nat.zero_add, Nat.reduceAdd, talkC] at r2
  go_wp2_with fail
  clear r0 r1 r2
  refine HC.out.mono ?_
  rintro e w5 ⟨rfl, g⟩
  clear HC
  clear F10 F11
  have F13 := Lib.hid g
  have F14 := Lib.hid (F13.out.alloc (.cells #[.int .i64 v4.h, .int .i64 v4.send, .int .i64 v4.recv, .int .i64 v4.version] 49))
  try simp only [World.size_alloc, size_setCell] at F14
  clear g
  clear F12
  have F15 := Lib.hid (F14.out.alloc (.cells #[.int .i64 15, .int .i64 16, .int .i64 5, .int .i64 6] 28))
  try simp only [World.size_alloc, size_setCell] at F15
  have F16 := Lib.hid (F14.out.alloc (.cells #[.int .i64 15, .int .i64 16, .int .i64 5, .int .i64 5] 28))
  try simp only [World.size_alloc, size_setCell] at F16
  have F17 := Lib.hid (F16.out.alloc (.cells #[.int .i64 15, .int .i64 16, .int .i64 5, .int .i64 5] 28))
  try simp only [World.size_alloc, size_setCell] at F17
  obtain ⟨s5, o5, e5, h5⟩ : ∃ s5 o5 e5, Sough.fx5 = (s5, o5, e5) := ⟨_, _, _, rfl⟩
  have H5 := Lib.hid h5
  clear h5
  have HC := (open_at (me := Sough.me1) (peers := [Sough.bad1]) (text := [2, 1]) (m := m1) F17.out ⟨⟨by decide, by decide⟩, ⟨by decide, by decide⟩⟩ (.inr ⟨_, 1, _, rfl, Nat.le_refl _, by omega, List.mem_cons_self ..⟩) (by intro q hq; simp only [List.mem_cons, List.not_mem_nil, or_false] at hq; subst hq; exact ⟨⟨by decide, by decide⟩, ⟨by decide, by decide⟩⟩) (by decide) WM1.out (by have h := H5.out; unfold Sough.fx5 at h; simp only [H1.out, H2.out, H3.out, H4.out] at h; exact h) : (Calls Try.prog 13 #[.pointer (some ⟨p, 0, none⟩), .agg #[.int .i64 3, .int .i64 4], .slice (some ⟨w5.heap.size + 1 + 1, 0, none⟩) 1 1, .string ⟨#[2, 1]⟩, .agg #[.int .i64 (m1.v 0), .int .u64 (m1.v 1), .int .u64 (m1.v 2), .string ⟨m1.offer.toArray⟩, .int .i64 (m1.v 4), .int .i64 (m1.v 5), .int .i64 (m1.v 6), .int .i64 (m1.v 7), .int .i64 (m1.v 8), .int .i64 (m1.v 9), .int .i64 (m1.v 10), .int .u64 (m1.v 11), .int .u64 (m1.v 12)]] _ _) ∧ o5.Wf)
  obtain ⟨HC, wo5⟩ := HC
  have WO5 := Lib.hid wo5
  clear wo5
  have HC := Lib.hid HC
  have r0 := F13.out.mem.rules; simp only [AllCells, CellsAt, Nat.zero_add, Nat.reduceAdd, talkC] at r0
  have r1 := F14.out.mem.rules; simp only [AllCells, CellsAt, Nat.zero_add, Nat.reduceAdd, talkC] at r1
  have r2 := F15.out.mem.rules; simp only [AllCells, CellsAt, Nat.zero_add, Nat.reduceAdd, talkC] at r2
  have r3 := F16.out.mem.rules; simp only [AllCells, CellsAt, Nat.zero_add, Nat.reduceAdd, talkC] at r3
  have r4 := F17.out.mem.rules; simp only [AllCells, CellsAt, Nat.zero_add, Nat.reduceAdd, talkC] at r4
  go_wp2_with fail
  clear r0 r1 r2 r3 r4
  refine HC.out.mono ?_
  rintro e w6 ⟨rfl, g⟩
  clear HC
  clear F13 F14 F15 F16
  have F18 := Lib.hid g
  have F19 := Lib.hid (F18.out.alloc (.cells #[.int .i64 o5.y.ck, .int .i64 o5.y.k, .int .i64 o5.y.h, .int .u64 o5.y.n, .int .i64 o5.peer, .int .i64 o5.version, .int .u64 o5.stamp, .int .i64 o5.e, .int .i64 o5.ek, .int .i64 o5.pub] 44))
  try simp only [World.size_alloc, size_setCell] at F19
  clear g
  clear F17
  have F20 := Lib.hid (F19.out.alloc (.cells #[.int .i64 17, .int .i64 18, .int .i64 5, .int .i64 6] 28))
  try simp only [World.size_alloc, size_setCell] at F20
  obtain ⟨s6, o6, e6, h6⟩ : ∃ s6 o6 e6, Sough.fx6 = (s6, o6, e6) := ⟨_, _, _, rfl⟩
  have H6 := Lib.hid h6
  clear h6
  have HC := (open_at (me := Sough.me1) (peers := [Sough.peer0]) (text := [2, 1]) (m := m1) F20.out ⟨⟨by decide, by decide⟩, ⟨by decide, by decide⟩⟩ (.inr ⟨_, 1, _, rfl, Nat.le_refl _, by omega, List.mem_cons_self ..⟩) (by intro q hq; simp only [List.mem_cons, List.not_mem_nil, or_false] at hq; subst hq; exact ⟨⟨by decide, by decide⟩, ⟨by decide, by decide⟩⟩) (by decide) WM1.out (by have h := H6.out; unfold Sough.fx6 at h; simp only [H1.out, H2.out, H3.out, H4.out, H5.out] at h; exact h) : (Calls Try.prog 13 #[.pointer (some ⟨p, 0, none⟩), .agg #[.int .i64 3, .int .i64 4], .slice (some ⟨w6.heap.size + 1, 0, none⟩) 1 1, .string ⟨#[2, 1]⟩, .agg #[.int .i64 (m1.v 0), .int .u64 (m1.v 1), .int .u64 (m1.v 2), .string ⟨m1.offer.toArray⟩, .int .i64 (m1.v 4), .int .i64 (m1.v 5), .int .i64 (m1.v 6), .int .i64 (m1.v 7), .int .i64 (m1.v 8), .int .i64 (m1.v 9), .int .i64 (m1.v 10), .int .u64 (m1.v 11), .int .u64 (m1.v 12)]] _ _) ∧ o6.Wf)
  obtain ⟨HC, wo6⟩ := HC
  have WO6 := Lib.hid wo6
  clear wo6
  have HC := Lib.hid HC
  have r0 := F18.out.mem.rules; simp only [AllCells, CellsAt, Nat.zero_add, Nat.reduceAdd, talkC] at r0
  have r1 := F19.out.mem.rules; simp only [AllCells, CellsAt, Nat.zero_add, Nat.reduceAdd, talkC] at r1
  have r2 := F20.out.mem.rules; simp only [AllCells, CellsAt, Nat.zero_add, Nat.reduceAdd, talkC] at r2
  go_wp2_with fail
  clear r0 r1 r2
  refine HC.out.mono ?_
  rintro e w7 ⟨rfl, g⟩
  clear HC
  clear F18 F19
  have F21 := Lib.hid g
  have F22 := Lib.hid (F21.out.alloc (.cells #[.int .i64 o6.y.ck, .int .i64 o6.y.k, .int .i64 o6.y.h, .int .u64 o6.y.n, .int .i64 o6.peer, .int .i64 o6.version, .int .u64 o6.stamp, .int .i64 o6.e, .int .i64 o6.ek, .int .i64 o6.pub] 44))
  try simp only [World.size_alloc, size_setCell] at F22
  clear g
  clear F20
  have F23 := Lib.hid (F22.out.alloc (.cells #[.int .i64 15, .int .i64 16, .int .i64 5, .int .i64 6] 28))
  try simp only [World.size_alloc, size_setCell] at F23
  obtain ⟨s7, o7, e7, h7⟩ : ∃ s7 o7 e7, Sough.fx7 = (s7, o7, e7) := ⟨_, _, _, rfl⟩
  have H7 := Lib.hid h7
  clear h7
  have HC := (open_at (me := Sough.me1) (peers := [Sough.peer1]) (text := [2]) (m := m1) F23.out ⟨⟨by decide, by decide⟩, ⟨by decide, by decide⟩⟩ (.inr ⟨_, 1, _, rfl, Nat.le_refl _, by omega, List.mem_cons_self ..⟩) (by intro q hq; simp only [List.mem_cons, List.not_mem_nil, or_false] at hq; subst hq; exact ⟨⟨by decide, by decide⟩, ⟨by decide, by decide⟩⟩) (by decide) WM1.out (by have h := H7.out; unfold Sough.fx7 at h; simp only [H1.out, H2.out, H3.out, H4.out, H5.out, H6.out] at h; exact h) : (Calls Try.prog 13 #[.pointer (some ⟨p, 0, none⟩), .agg #[.int .i64 3, .int .i64 4], .slice (some ⟨w7.heap.size + 1, 0, none⟩) 1 1, .string ⟨#[2]⟩, .agg #[.int .i64 (m1.v 0), .int .u64 (m1.v 1), .int .u64 (m1.v 2), .string ⟨m1.offer.toArray⟩, .int .i64 (m1.v 4), .int .i64 (m1.v 5), .int .i64 (m1.v 6), .int .i64 (m1.v 7), .int .i64 (m1.v 8), .int .i64 (m1.v 9), .int .i64 (m1.v 10), .int .u64 (m1.v 11), .int .u64 (m1.v 12)]] _ _) ∧ o7.Wf)
  obtain ⟨HC, wo7⟩ := HC
  have WO7 := Lib.hid wo7
  clear wo7
  have HC := Lib.hid HC
  have r0 := F21.out.mem.rules; simp only [AllCells, CellsAt, Nat.zero_add, Nat.reduceAdd, talkC] at r0
  have r1 := F22.out.mem.rules; simp only [AllCells, CellsAt, Nat.zero_add, Nat.reduceAdd, talkC] at r1
  have r2 := F23.out.mem.rules; simp only [AllCells, CellsAt, Nat.zero_add, Nat.reduceAdd, talkC] at r2
  go_wp2_with fail
  clear r0 r1 r2
  refine HC.out.mono ?_
  rintro e w8 ⟨rfl, g⟩
  clear HC
  clear F21 F22
  have F24 := Lib.hid g
  have F25 := Lib.hid (F24.out.alloc (.cells #[.int .i64 o7.y.ck, .int .i64 o7.y.k, .int .i64 o7.y.h, .int .u64 o7.y.n, .int .i64 o7.peer, .int .i64 o7.version, .int .u64 o7.stamp, .int .i64 o7.e, .int .i64 o7.ek, .int .i64 o7.pub] 44))
  try simp only [World.size_alloc, size_setCell] at F25
  clear g
  clear F23
  have F26 := Lib.hid (F25.out.alloc (.cells #[.int .i64 15, .int .i64 16, .int .i64 5, .int .i64 6] 28))
  try simp only [World.size_alloc, size_setCell] at F26
  obtain ⟨s8, o8, e8, h8⟩ : ∃ s8 o8 e8, Sough.fx8 = (s8, o8, e8) := ⟨_, _, _, rfl⟩
  have H8 := Lib.hid h8
  clear h8
  have HC := (open_at (me := Sough.me0) (peers := [Sough.peer1]) (text := [2, 1]) (m := m1) F26.out ⟨⟨by decide, by decide⟩, ⟨by decide, by decide⟩⟩ (.inr ⟨_, 1, _, rfl, Nat.le_refl _, by omega, List.mem_cons_self ..⟩) (by intro q hq; simp only [List.mem_cons, List.not_mem_nil, or_false] at hq; subst hq; exact ⟨⟨by decide, by decide⟩, ⟨by decide, by decide⟩⟩) (by decide) WM1.out (by have h := H8.out; unfold Sough.fx8 at h; simp only [H1.out, H2.out, H3.out, H4.out, H5.out, H6.out, H7.out] at h; exact h) : (Calls Try.prog 13 #[.pointer (some ⟨p, 0, none⟩), .agg #[.int .i64 1, .int .i64 2], .slice (some ⟨w8.heap.size + 1, 0, none⟩) 1 1, .string ⟨#[2, 1]⟩, .agg #[.int .i64 (m1.v 0), .int .u64 (m1.v 1), .int .u64 (m1.v 2), .string ⟨m1.offer.toArray⟩, .int .i64 (m1.v 4), .int .i64 (m1.v 5), .int .i64 (m1.v 6), .int .i64 (m1.v 7), .int .i64 (m1.v 8), .int .i64 (m1.v 9), .int .i64 (m1.v 10), .int .u64 (m1.v 11), .int .u64 (m1.v 12)]] _ _) ∧ o8.Wf)
  obtain ⟨HC, wo8⟩ := HC
  have WO8 := Lib.hid wo8
  clear wo8
  have HC := Lib.hid HC
  have r0 := F24.out.mem.rules; simp only [AllCells, CellsAt, Nat.zero_add, Nat.reduceAdd, talkC] at r0
  have r1 := F25.out.mem.rules; simp only [AllCells, CellsAt, Nat.zero_add, Nat.reduceAdd, talkC] at r1
  have r2 := F26.out.mem.rules; simp only [AllCells, CellsAt, Nat.zero_add, Nat.reduceAdd, talkC] at r2
  go_wp2_with fail
  clear r0 r1 r2
  refine HC.out.mono ?_
  rintro e w9 ⟨rfl, g⟩
  clear HC
  clear F24 F25
  have F27 := Lib.hid g
  have F28 := Lib.hid (F27.out.alloc (.cells #[.int .i64 o8.y.ck, .int .i64 o8.y.k, .int .i64 o8.y.h, .int .u64 o8.y.n, .int .i64 o8.peer, .int .i64 o8.version, .int .u64 o8.stamp, .int .i64 o8.e, .int .i64 o8.ek, .int .i64 o8.pub] 44))
  try simp only [World.size_alloc, size_setCell] at F28
  clear g
  clear F26
  obtain ⟨s9, v9, e9, h9⟩ : ∃ s9 v9 e9, Sough.fx9 = (s9, v9, e9) := ⟨_, _, _, rfl⟩
  have H9 := Lib.hid h9
  clear h9
  have HC := (finish_at (me := Sough.me0) (q := q1) (m := m1) F28.out ⟨by decide, by decide⟩ WQ1.out WM1.out (by have h := H9.out; unfold Sough.fx9 at h; simp only [H1.out, H2.out, H3.out, H4.out, H5.out, H6.out, H7.out, H8.out] at h; exact h) : (Calls Try.prog 16 #[.pointer (some ⟨p, 0, none⟩), .agg #[.int .i64 1, .int .i64 2], .agg #[.int .i64 q1.y.ck, .int .i64 q1.y.k, .int .i64 q1.y.h, .int .u64 q1.y.n, .int .i64 q1.e, .int .i64 q1.ek, .string ⟨q1.offer.toArray⟩], .agg #[.int .i64 (m1.v 0), .int .u64 (m1.v 1), .int .u64 (m1.v 2), .string ⟨m1.offer.toArray⟩, .int .i64 (m1.v 4), .int .i64 (m1.v 5), .int .i64 (m1.v 6), .int .i64 (m1.v 7), .int .i64 (m1.v 8), .int .i64 (m1.v 9), .int .i64 (m1.v 10), .int .u64 (m1.v 11), .int .u64 (m1.v 12)]] _ _) ∧ v9.Wf)
  obtain ⟨HC, wz9⟩ := HC
  have WZ9 := Lib.hid wz9
  clear wz9
  have HC := Lib.hid HC
  have r0 := F27.out.mem.rules; simp only [AllCells, CellsAt, Nat.zero_add, Nat.reduceAdd, talkC] at r0
  have r1 := F28.out.mem.rules; simp only [AllCells, CellsAt, Nat.zero_add, Nat.reduceAdd, talkC] at r1
  go_wp2_with fail
  clear r0 r1
  refine HC.out.mono ?_
  rintro e w10 ⟨rfl, g⟩
  clear HC
  clear F27
  have F29 := Lib.hid g
  have F30 := Lib.hid (F29.out.alloc (.cells #[.int .i64 v9.h, .int .i64 v9.send, .int .i64 v9.recv, .int .i64 v9.version] 49))
  try simp only [World.size_alloc, size_setCell] at F30
  clear g
  clear F28
  obtain ⟨s10, m10, q10, e10, h10⟩ : ∃ s10 m10 q10 e10, Sough.fx10 = (s10, m10, q10, e10) := ⟨_, _, _, _, rfl⟩
  have H10 := Lib.hid h10
  clear h10
  have HC := (begin_at (me := Sough.me0) (pr := Sough.peer0) (m := Sough.reqM 7 [3] 2) (stamp := 300) (d0 := 7) (d1 := 8) (d2 := 9) F30.out (Sough.reqM_wf (by decide) ⟨by decide, by decide⟩ (by decide)) (by decide) ⟨⟨by decide, by decide⟩, ⟨by decide, by decide⟩⟩ ⟨⟨by decide, by decide⟩, ⟨by decide, by decide⟩, ⟨by decide, by decide⟩, ⟨by decide, by decide⟩⟩ ⟨⟨by decide, by decide⟩, ⟨by decide, by decide⟩, ⟨by decide, by decide⟩⟩ (by have h := H10.out; unfold Sough.fx10 at h; simp only [H1.out, H2.out, H3.out, H4.out, H5.out, H6.out, H7.out, H8.out, H9.out] at h; exact h) : (Calls Try.prog 12 #[.pointer (some ⟨p, 0, none⟩), .agg #[.int .i64 1, .int .i64 2], .agg #[.int .i64 17, .int .i64 18, .int .i64 5, .int .i64 6], .agg #[.int .i64 0, .int .u64 7, .int .u64 0, .string ⟨#[3]⟩, .int .i64 2, .int .i64 0, .int .i64 0, .int .i64 0, .int .i64 0, .int .i64 0, .int .i64 0, .int .u64 0, .int .u64 0], .int .u64 300, .agg #[.int .i64 7, .int .i64 8, .int .i64 9]] _ _) ∧ m10.Wf ∧ q10.Wf)
  obtain ⟨HC, wm10, wq10⟩ := HC
  have WM10 := Lib.hid wm10
  have WQ10 := Lib.hid wq10
  clear wm10 wq10
  have HC := Lib.hid HC
  have r0 := F29.out.mem.rules; simp only [AllCells, CellsAt, Nat.zero_add, Nat.reduceAdd, talkC] at r0
  have r1 := F30.out.mem.rules; simp only [AllCells, CellsAt, Nat.zero_add, Nat.reduceAdd, talkC] at r1
  go_wp2_with fail
  clear r0 r1
  refine HC.out.mono ?_
  rintro e w11 ⟨rfl, g⟩
  clear HC
  clear F29
  have hfx := Sough.fx_all
  simp only [H1.out, H2.out, H3.out, H4.out, H5.out, H6.out, H7.out, H8.out, H9.out, H10.out] at hfx
  obtain ⟨f1, f2, f3, f4, f5, f6, f7, f8, f9, f10, f11, f12, f13, f14, f15, f16, f17, f18, f19, f20, f21⟩ := hfx
  subst f1 f4 f8 f12 f15 f16 f17 f18 f19 f20
  have EQ := fun w => (eqSesn v4 ⟨u3.h, u3.recv, u3.send, 1⟩ w).trans (by rw [show decide (v4 = ⟨u3.h, u3.recv, u3.send, 1⟩) = true from decide_eq_true f13])
  have EG : Try.prog.eqGuardType Try.prog.depth 49 = false := by kernel_rfl
  have n1 : (u3.send == u3.recv) = false := beq_eq_false_iff_ne.2 f14
  have n2 : (u3.send != u3.recv) = true := by unfold bne; rw [n1]; rfl
  have F31 := Lib.hid g
  have F32 := Lib.hid (F31.out.alloc (.cells #[.int .i64 (m10.v 0), .int .u64 (m10.v 1), .int .u64 (m10.v 2), .string ⟨m10.offer.toArray⟩, .int .i64 (m10.v 4), .int .i64 (m10.v 5), .int .i64 (m10.v 6), .int .i64 (m10.v 7), .int .i64 (m10.v 8), .int .i64 (m10.v 9), .int .i64 (m10.v 10), .int .u64 (m10.v 11), .int .u64 (m10.v 12)] 34))
  try simp only [World.size_alloc, size_setCell] at F32
  have F33 := Lib.hid (F32.out.alloc (.cells #[.int .i64 q10.y.ck, .int .i64 q10.y.k, .int .i64 q10.y.h, .int .u64 q10.y.n, .int .i64 q10.e, .int .i64 q10.ek, .string ⟨q10.offer.toArray⟩] 38))
  try simp only [World.size_alloc, size_setCell] at F33
  clear g
  clear F30
  have r0 := F31.out.mem.rules; simp only [AllCells, CellsAt, Nat.zero_add, Nat.reduceAdd, talkC] at r0
  have r1 := F32.out.mem.rules; simp only [AllCells, CellsAt, Nat.zero_add, Nat.reduceAdd, talkC] at r1
  have r2 := F33.out.mem.rules; simp only [AllCells, CellsAt, Nat.zero_add, Nat.reduceAdd, talkC] at r2
  go_wp2_with fail
  clear r0 r1 r2
  go_ret
  exact ⟨rfl, F33.out.tur.toBelow (by simp) (Nat.le_refl _)⟩
end Go.Proofs.Ytlfgempjjoclbaa
