/- Texts YtlfgempjjoclbaaHdBegin .. YtlfgempjjoclbaaHdBest, joined. What they prove: the contracts of the functions that the law reaches, and plain law. -/
import Derived.Test.YtlfgempjjoclbaaG4
import Derived.StillTailTactics
import Derived.Lib.IndexAny
namespace Go.Proofs.Ytlfgempjjoclbaa
open Go.RowKit Go.Maps Go.ChangeMaps
theorem wrapT_name {st s : Sough.Store} {y : Sough.Sym} {q d : Int} {z : Sough.Sym × Int} (h : st.Ok) (hd : Sough.Int64 d) (hy : y.Wf) (hf : Sough.wrapT st y q d = (s, .ok z)) : Sough.Int64 z.2 ∧ z.1.Wf := by
  unfold Sough.wrapT at hf
  obtain ⟨s1, r1, h1⟩ : ∃ s r, Sough.res2 (Sough.kemWrap st q d) = (s, r) := ⟨_, _, rfl⟩
  have hk := Sough.kwrap_names (q := q) h hd
  have ho := Sough.kwrap_ok (q := q) h hd
  rw [h1] at hf
  rcases r1 with er | b
  · simp [Sough.bnd] at hf
  obtain ⟨a, c, h2, rfl⟩ := Sough.res2_ok h1
  rw [h2] at hk ho
  obtain ⟨s2, r2, h3⟩ : ∃ s r, Sough.hashT s1 y a = (s, r) := ⟨_, _, rfl⟩
  simp only [Sough.bnd, h3] at hf
  rcases r2 with er | z1
  · simp at hf
  have hz := Sough.hashT_wf ho hy h3
  have ho2 : s2.Ok := by have := Sough.symHash_ok (y := y) (x := (a : Int)) ho hy.h hk.1; rw [Sough.resY_ok h3] at this; exact this
  obtain ⟨s3, r3, h4⟩ : ∃ s r, Sough.mixT s2 z1 c = (s, r) := ⟨_, _, rfl⟩
  simp only [h4] at hf
  rcases r3 with er | z2
  · simp at hf
  simp only [Prod.mk.injEq, Except.ok.injEq] at hf
  obtain ⟨rfl, rfl⟩ := hf
  exact ⟨hk.1, Sough.mixT_wf ho2 hz hk.2 h4⟩
theorem bnd_ok {α β : Type} {r : Sough.Res α} {f : Sough.Store → α → Sough.Res β} {s : Sough.Store} {b : β} (h : Sough.bnd r f = (s, .ok b)) : ∃ s1 a, r = (s1, .ok a) ∧ f s1 a = (s, .ok b) := by
  obtain ⟨s1, r⟩ := r
  cases r with
  | error e => simp [Sough.bnd] at h
  | ok a => exact ⟨s1, a, rfl, h⟩
theorem hashT_sok {st s : Sough.Store} {y z : Sough.Sym} {x : Int} (h : st.Ok) (hy : y.Wf) (hx : Sough.Int64 x) (hf : Sough.hashT st y x = (s, .ok z)) : s.Ok := by
  have := Sough.symHash_ok (y := y) h hy.h hx; rw [Sough.resY_ok hf] at this; exact this
theorem textT_sok {st s : Sough.Store} {l : List UInt8} {z : Int} (h : st.Ok) (hl : l.length ≤ 9223372036854775807) (hf : Sough.textT st l = (s, .ok z)) : s.Ok := by
  obtain ⟨n, h1, _⟩ := Sough.res1_ok hf
  have := Sough.putText_ok (s := l) h hl; rw [h1] at this; exact this
theorem firstT_wf {st s : Sough.Store} {text : List UInt8} {slot : Int} {q : Sough.Pair} {y : Sough.Sym} (h : st.Ok) (ht : text.length ≤ 9223372036854775807) (ha : Sough.Int64 q.dh) (hb : Sough.Int64 q.kem) (hf : Sough.firstT st text slot q = (s, .ok y)) : y.Wf := by
  unfold Sough.firstT at hf
  obtain ⟨s1, y1, h1, hf⟩ := bnd_ok hf
  have w1 := symBegin_wf h h1
  have o1 : s1.Ok := by have := Sough.symBegin_ok (s := Sough.sough) h (by decide); rw [Sough.resY_ok h1] at this; exact this
  obtain ⟨s2, x2, h2, hf⟩ := bnd_ok hf
  have o2 := textT_sok o1 ht h2
  obtain ⟨s3, y3, h3, hf⟩ := bnd_ok hf
  have n2 := Sough.textT_name o1 h2
  have w3 := Sough.hashT_wf o2 w1 h3
  have o3 := hashT_sok o2 w1 n2 h3
  obtain ⟨s4, x4, h4, hf⟩ := bnd_ok hf
  have hl : (Sough.slotText slot).length ≤ 9223372036854775807 := by unfold Sough.slotText; split <;> simp
  have o4 := textT_sok o3 hl h4
  have n4 := Sough.textT_name o3 h4
  obtain ⟨s5, y5, h5, hf⟩ := bnd_ok hf
  have w5 := Sough.hashT_wf o4 w3 h5
  have o5 := hashT_sok o4 w3 n4 h5
  obtain ⟨s6, y6, h6, hf⟩ := bnd_ok hf
  have w6 := Sough.hashT_wf o5 w5 h6
  have o6 := hashT_sok o5 w5 ha h6
  exact Sough.hashT_wf o6 w6 hf
section
variable {S : List Nat} {w0 W : World} {p : Nat} {st : Sough.Store} {A B : List (Nat × Obj)}
theorem SF.m13 {k : Nat} {T : TypeId} {a0 a1 a2 a3 a4 a5 a6 a7 a8 a9 a10 a11 a12 : Value} (h : SF S w0 W p st (A ++ (k, .cells #[a0, a1, a2, a3, a4, a5, a6, a7, a8, a9, a10, a11, a12] T (0, 0)) :: B)) (v0 v1 v2 v3 v4 v5 v6 v7 v8 v9 v10 v11 v12 : Value) : SF S w0 (((((((((((((W.setCell ⟨k, 0, none⟩ v0).setCell ⟨k, 1, none⟩ v1).setCell ⟨k, 2, none⟩ v2).setCell ⟨k, 3, none⟩ v3).setCell ⟨k, 4, none⟩ v4).setCell ⟨k, 5, none⟩ v5).setCell ⟨k, 6, none⟩ v6).setCell ⟨k, 7, none⟩ v7).setCell ⟨k, 8, none⟩ v8).setCell ⟨k, 9, none⟩ v9).setCell ⟨k, 10, none⟩ v10).setCell ⟨k, 11, none⟩ v11).setCell ⟨k, 12, none⟩ v12) p st (A ++ (k, .cells #[v0, v1, v2, v3, v4, v5, v6, v7, v8, v9, v10, v11, v12] T (0, 0)) :: B) := by
  have := (SF.setMid (SF.setMid (SF.setMid (SF.setMid (SF.setMid (SF.setMid (SF.setMid (SF.setMid (SF.setMid (SF.setMid (SF.setMid (SF.setMid (SF.setMid h 0 v0) 1 v1) 2 v2) 3 v3) 4 v4) 5 v5) 6 v6) 7 v7) 8 v8) 9 v9) 10 v10) 11 v11) 12 v12)
  simpa only [List.setIfInBounds_toArray, List.set_cons_succ, List.set_cons_zero] using this
theorem SF.m7 {k : Nat} {T : TypeId} {a0 a1 a2 a3 a4 a5 a6 : Value} (h : SF S w0 W p st (A ++ (k, .cells #[a0, a1, a2, a3, a4, a5, a6] T (0, 0)) :: B)) (v0 v1 v2 v3 v4 v5 v6 : Value) : SF S w0 (((((((W.setCell ⟨k, 0, none⟩ v0).setCell ⟨k, 1, none⟩ v1).setCell ⟨k, 2, none⟩ v2).setCell ⟨k, 3, none⟩ v3).setCell ⟨k, 4, none⟩ v4).setCell ⟨k, 5, none⟩ v5).setCell ⟨k, 6, none⟩ v6) p st (A ++ (k, .cells #[v0, v1, v2, v3, v4, v5, v6] T (0, 0)) :: B) := by
  have := (SF.setMid (SF.setMid (SF.setMid (SF.setMid (SF.setMid (SF.setMid (SF.setMid h 0 v0) 1 v1) 2 v2) 3 v3) 4 v4) 5 v5) 6 v6)
  simpa only [List.setIfInBounds_toArray, List.set_cons_succ, List.set_cons_zero] using this
end
theorem initM_cells (f sl e ek b c1 c2 : Int) (o : List UInt8) : msgC (Sough.initM f o sl e ek b c1 c2) = #[.int .i64 1, .int .u64 f, .int .u64 0, .string ⟨o.toArray⟩, .int .i64 sl, .int .i64 0, .int .i64 e, .int .i64 ek, .int .i64 b, .int .i64 c1, .int .i64 c2, .int .u64 0, .int .u64 0] := by
  simp [msgC, Sough.initM]
theorem initM_wf {f sl e ek b c1 c2 : Int} {o : List UInt8} (hf : 0 ≤ f ∧ f ≤ 18446744073709551615) (ho : o.length ≤ 9223372036854775807) (hs : sl = 0 ∨ sl = 1) (he : Sough.Int64 e) (hk : Sough.Int64 ek) (hb : Sough.Int64 b) (h1 : Sough.Int64 c1) (h2 : Sough.Int64 c2) : (Sough.initM f o sl e ek b c1 c2).Wf := by
  have hsl : Sough.Int64 sl := by rcases hs with rfl | rfl <;> exact ⟨by decide, by decide⟩
  refine ⟨fun c hc => ?_, fun c hc => ?_, ho⟩
  · simp only [List.mem_cons, List.not_mem_nil, or_false] at hc
    rcases hc with rfl | rfl | rfl | rfl | rfl | rfl | rfl | rfl <;> simp [Sough.initM] <;> first | exact hsl | exact he | exact hk | exact hb | exact h1 | exact h2 | skip
  · simp only [List.mem_cons, List.not_mem_nil, or_false] at hc
    rcases hc with rfl | rfl | rfl | rfl <;> simp [Sough.initM] <;> first | exact hf | skip
def pendC (q : Sough.Pending) : Array Value := #[.int .i64 q.y.ck, .int .i64 q.y.k, .int .i64 q.y.h, .int .u64 q.y.n, .int .i64 q.e, .int .i64 q.ek, .string ⟨q.offer.toArray⟩]
def BeginTo (S : List Nat) (w0 : World) (p : Nat) (L : List (Nat × Obj)) (r : Sough.Res (Sough.Msg × Sough.Pending)) (e : Ending) (w' : World) : Prop := match r with
  | (s, .ok z) => e = .returned (.tuple #[.agg (msgC z.1), .agg (pendC z.2), .int .i64 0]) ∧ SF S w0 w' p s L
  | (s, .error er) => e = .returned (.tuple #[.agg #[.int .i64 0, .int .u64 0, .int .u64 0, .string ⟨#[]⟩, .int .i64 0, .int .i64 0, .int .i64 0, .int .i64 0, .int .i64 0, .int .i64 0, .int .i64 0, .int .u64 0, .int .u64 0], .agg #[.int .i64 0, .int .i64 0, .int .i64 0, .int .u64 0, .int .i64 0, .int .i64 0, .string ⟨#[]⟩], .int .i64 er]) ∧ SF S w0 w' p s L
set_option maxRecDepth 100000 in
theorem begin_bad {S : List Nat} {w0 q : World} {p E Pn M er : Nat} {s : Sough.Store} {L L' : List (Nat × Obj)} {tmps : Array Value} {R : Sough.Res (Sough.Msg × Sough.Pending)} (h12 : tmps[12]? = some (.pointer (some ⟨M, 0, none⟩))) (h13 : tmps[13]? = some (.pointer (some ⟨Pn, 0, none⟩))) (h14 : tmps[14]? = some (.pointer (some ⟨E, 0, none⟩)))
    (g : SF S w0 q p s L') (hs : ((E, .cells #[.int .i64 0] 39 (0, 0)) :: (Pn, .cells #[.int .i64 0, .int .i64 0, .int .i64 0, .int .u64 0, .int .i64 0, .int .i64 0, .string ⟨#[]⟩] 38 (0, 0)) :: (M, .cells #[.int .i64 0, .int .u64 0, .int .u64 0, .string ⟨#[]⟩, .int .i64 0, .int .i64 0, .int .i64 0, .int .i64 0, .int .i64 0, .int .i64 0, .int .i64 0, .int .u64 0, .int .u64 0] 34 (0, 0)) :: L).Sublist L') (hR : (s, .error er) = R) :
    Leaves Try.prog Try.f12 tmps (BeginTo S w0 p L R) [{ target := .fn (.func 26) #[], args := #[.pointer (some ⟨E, 0, none⟩)] }] (.panicking (wrongP er)) q := by
  have F5 := g.sub hs
  have hc := F5.get 0 rfl
  refine door_panic rfl (old := .int .i64 0) (by simp [World.cell?, hc]) (by simp [World.frozen?, hc]) ?_
  have F7 := (F5.later ((Below.refl _ _).alloc (Nat.le_refl _) (.cells #[.int .i64 er] 120))).set 0 (.int .i64 er)
  have g0 := F7.get 0 rfl
  have g1 := F7.get 1 rfl
  have g2 := F7.get 2 rfl
  rw [← hR]
  refine ⟨.tuple #[.agg #[.int .i64 0, .int .u64 0, .int .u64 0, .string ⟨#[]⟩, .int .i64 0, .int .i64 0, .int .i64 0, .int .i64 0, .int .i64 0, .int .i64 0, .int .i64 0, .int .u64 0, .int .u64 0], .agg #[.int .i64 0, .int .i64 0, .int .i64 0, .int .u64 0, .int .i64 0, .int .i64 0, .string ⟨#[]⟩], .int .i64 er], ?_, rfl, ?_⟩
  · simp [results, Try.results12, go_sem, World.cell?, g0, g1, g2, h12, h13, h14]
  · exact F7.sub ((List.sublist_cons_self _ _).trans ((List.sublist_cons_self _ _).trans (List.sublist_cons_self _ _)))
def pnS (y : Sough.Sym) (d0 d1 : Int) (o : List UInt8) : Nat → Array Value
  | 0 => #[.int .i64 0, .int .i64 0, .int .i64 0, .int .u64 0, .int .i64 0, .int .i64 0, .string ⟨#[]⟩]
  | 1 => #[.int .i64 0, .int .i64 0, .int .i64 0, .int .u64 0, .int .i64 0, .int .i64 0, .string ⟨#[]⟩]
  | 2 => #[.int .i64 0, .int .i64 0, .int .i64 0, .int .u64 0, .int .i64 0, .int .i64 0, .string ⟨#[]⟩]
  | 3 => #[.int .i64 y.ck, .int .i64 y.k, .int .i64 y.h, .int .u64 y.n, .int .i64 0, .int .i64 0, .string ⟨#[]⟩]
  | 4 => #[.int .i64 y.ck, .int .i64 y.k, .int .i64 y.h, .int .u64 y.n, .int .i64 d0, .int .i64 0, .string ⟨#[]⟩]
  | 5 => #[.int .i64 y.ck, .int .i64 y.k, .int .i64 y.h, .int .u64 y.n, .int .i64 d0, .int .i64 d1, .string ⟨#[]⟩]
  | _ + 6 => #[.int .i64 y.ck, .int .i64 y.k, .int .i64 y.h, .int .u64 y.n, .int .i64 d0, .int .i64 d1, .string ⟨o.toArray⟩]
def mmS (c : Array Value) : Nat → Array Value
  | 0 => #[.int .i64 0, .int .u64 0, .int .u64 0, .string ⟨#[]⟩, .int .i64 0, .int .i64 0, .int .i64 0, .int .i64 0, .int .i64 0, .int .i64 0, .int .i64 0, .int .u64 0, .int .u64 0]
  | _ + 1 => c
theorem SF.rulesOf {S : List Nat} {w0 W : World} {p : Nat} {st : Sough.Store} {L : List (Nat × Obj)} (h : SF S w0 W p st L) : ∀ z : Later W, AllCells z.world L := h.mem.rulesL
theorem cells_of {W : World} {k : Nat} {cs : Array Value} {T : TypeId} (h : W.heap[k]? = some (.cells cs T (0, 0))) : CellsAt W k 0 cs.toList := by
  have := (Mem.with (Mem.start W) h).rules
  exact this.1
-- one call; a panic goes through the door
set_option maxRecDepth 100000 in
set_option maxHeartbeats 6400000 in
theorem begin_0 {S : List Nat} {w0 W : World} {p stamp : Nat} {st : Sough.Store} {L : List (Nat × Obj)} {me : Sough.Pair} {pr : Sough.Peer} {m : Sough.Msg} {d0 d1 d2 : Int} {R : Sough.Res (Sough.Msg × Sough.Pending)} (h : SF S w0 W p st L) (hm : m.Wf) (h4 : m.v 4 = 0) (hst : stamp < 18446744073709551616)
    (hme : Sough.Int64 me.dh ∧ Sough.Int64 me.kem) (hpr : Sough.Int64 pr.pub.dh ∧ Sough.Int64 pr.pub.kem ∧ Sough.Int64 pr.p0 ∧ Sough.Int64 pr.p1) (hd : Sough.Int64 d0 ∧ Sough.Int64 d1 ∧ Sough.Int64 d2) (hf : Sough.beginT st me pr m stamp d0 d1 d2 = R) :
    Calls Try.prog 12 #[.pointer (some ⟨p, 0, none⟩), .agg #[.int .i64 me.dh, .int .i64 me.kem], .agg #[.int .i64 pr.pub.dh, .int .i64 pr.pub.kem, .int .i64 pr.p0, .int .i64 pr.p1], .agg #[.int .i64 (m.v 0), .int .u64 (m.v 1), .int .u64 (m.v 2), .string ⟨m.offer.toArray⟩, .int .i64 (m.v 4), .int .i64 (m.v 5), .int .i64 (m.v 6), .int .i64 (m.v 7), .int .i64 (m.v 8), .int .i64 (m.v 9), .int .i64 (m.v 10), .int .u64 (m.v 11), .int .u64 (m.v 12)], .int .u64 stamp, .agg #[.int .i64 d0, .int .i64 d1, .int .i64 d2]] W (BeginTo S w0 p L R) := by
  have HMW := Lib.hid hm; have HME := Lib.hid hme; have HPR := Lib.hid hpr; have HD := Lib.hid hd; have HST := Lib.hid hst
  have HR := Lib.hid hf
  unfold Sough.beginT at HR
  simp only [h4, Sough.need, Sough.Peer.psk, true_or, decide_true, if_true, Sough.bnd] at HR
  rw [h4]
  have F0 := Lib.hid (((((((h.alloc (.cells #[.int .i64 me.dh, .int .i64 me.kem] 24)).alloc (.cells #[.int .i64 pr.pub.dh, .int .i64 pr.pub.kem, .int .i64 pr.p0, .int .i64 pr.p1] 28)).alloc (.cells #[.int .i64 (m.v 0), .int .u64 (m.v 1), .int .u64 (m.v 2), .string ⟨m.offer.toArray⟩, .int .i64 0, .int .i64 (m.v 5), .int .i64 (m.v 6), .int .i64 (m.v 7), .int .i64 (m.v 8), .int .i64 (m.v 9), .int .i64 (m.v 10), .int .u64 (m.v 11), .int .u64 (m.v 12)] 34)).alloc (.cells #[.int .i64 d0, .int .i64 d1, .int .i64 d2] 42)).alloc (.cells #[.int .i64 0, .int .u64 0, .int .u64 0, .string ⟨#[]⟩, .int .i64 0, .int .i64 0, .int .i64 0, .int .i64 0, .int .i64 0, .int .i64 0, .int .i64 0, .int .u64 0, .int .u64 0] 34)).alloc (.cells #[.int .i64 0, .int .i64 0, .int .i64 0, .int .u64 0, .int .i64 0, .int .i64 0, .string ⟨#[]⟩] 38)).alloc (.cells #[.int .i64 0] 39))
  simp only [World.size_alloc] at F0
  clear h hm h4 hme hpr hd hf hst
  go_enter_defers Try.func12, Try.ntmps12
  go_wp2_with fail
  refine (need_ok _).mono ?_
  rintro e w1 ⟨rfl, rfl⟩
  go_wp2_with fail
  have HO0 := Lib.hid F0.out.ok
  obtain ⟨s1, r1, h1⟩ : ∃ s r, Sough.firstT st m.offer 0 pr.pub = (s, r) := ⟨_, _, rfl⟩
  rcases r1 with er | y1
  · have hq := HR.out; simp only [h1] at hq
    refine (first_any F0.out HMW.out.text (.inl rfl) HPR.out.1 HPR.out.2.1 h1).mono ?_
    rintro e w2 ⟨rfl, g⟩
    exact begin_bad rfl rfl rfl g (by repeat (first | with_reducible exact List.Sublist.refl _ | with_reducible refine List.Sublist.cons_cons _ ?_ | refine List.Sublist.cons _ ?_)) hq
  have hq := HR.out; simp only [h1] at hq
  have HR1 := Lib.hid hq
  clear hq HR
  have HY1 := Lib.hid (firstT_wf HO0.out HMW.out.text HPR.out.1 HPR.out.2.1 h1)
  refine (first_any F0.out HMW.out.text (.inl rfl) HPR.out.1 HPR.out.2.1 h1).mono ?_
  rintro e w2 ⟨t, rfl, g⟩
  have F1 := Lib.hid ((g.alloc (.cells #[.int .i64 1, .int .u64 (m.v 1), .int .u64 0, .string ⟨m.offer.toArray⟩, .int .i64 0, .int .i64 0, .int .i64 0, .int .i64 0, .int .i64 0, .int .i64 0, .int .i64 0, .int .u64 0, .int .u64 0] 34)).perm (List.Perm.swap _ _ _))
  have r := g.mem.rules; simp only [AllCells, CellsAt, Nat.zero_add, Nat.reduceAdd, talkC] at r
  clear g h1 F0
  have r1 := F1.out.mem.rules; simp only [AllCells, CellsAt, Nat.zero_add, Nat.reduceAdd, talkC] at r1
  go_wp2_with fail
  clear r r1
  have HO1 := Lib.hid F1.out.ok
  obtain ⟨s2, r2, h2⟩ : ∃ s r, Sough.publicT s1 d0 = (s, r) := ⟨_, _, rfl⟩
  rcases r2 with er | e2
  · have hq := HR1.out; simp only [h2, Sough.bnd] at hq
    refine (publicT_er F1.out HD.out.1 h2).mono ?_
    rintro e w3 ⟨rfl, _, g⟩
    exact begin_bad rfl rfl rfl g (by repeat (first | with_reducible exact List.Sublist.refl _ | with_reducible refine List.Sublist.cons_cons _ ?_ | refine List.Sublist.cons _ ?_)) hq
  have hq := HR1.out; simp only [h2, Sough.bnd] at hq
  have HR2 := Lib.hid hq
  clear hq HR1
  have Hh2 := Lib.hid h2
  refine (publicT_ok F1.out HD.out.1 h2).mono ?_
  rintro e w3 ⟨rfl, g⟩
  have F2 := Lib.hid g
  clear g h2 F1
  have r := F2.out.mem.rules; simp only [AllCells, CellsAt, Nat.zero_add, Nat.reduceAdd, talkC] at r
  go_wp2_with fail
  clear r
  have F2s : Hid (SF S w0 (w3.setCell ⟨w2.heap.size, 6, none⟩ (.int .i64 e2)) p s2 ((t, talkC p (y1)) :: (w2.heap.size, .cells #[.int .i64 1, .int .u64 (m.v 1), .int .u64 0, .string ⟨m.offer.toArray⟩, .int .i64 0, .int .i64 0, .int .i64 e2, .int .i64 0, .int .i64 0, .int .i64 0, .int .i64 0, .int .u64 0, .int .u64 0] 34 (0, 0)) :: _)) := Lib.hid (F2.out.setMid (A := [_]) 6 (.int .i64 e2))
  clear F2
  have HE2 := Lib.hid (Sough.publicT_name HO1.out Hh2.out)
  have HO2 := Lib.hid F2s.out.ok
  obtain ⟨s3, r3, h3⟩ : ∃ s r, Sough.hashT s2 y1 e2 = (s, r) := ⟨_, _, rfl⟩
  rcases r3 with er | y3
  · have hq := HR2.out; simp only [h3, Sough.bnd] at hq
    refine (hashT_er F2s.out HY1.out HE2.out h3).mono ?_
    rintro e w4 ⟨rfl, _, g⟩
    exact begin_bad rfl rfl rfl g (by repeat (first | with_reducible exact List.Sublist.refl _ | with_reducible refine List.Sublist.cons_cons _ ?_ | refine List.Sublist.cons _ ?_)) hq
  have hq := HR2.out; simp only [h3, Sough.bnd] at hq
  have HR3 := Lib.hid hq
  clear hq HR2
  have Hh3 := Lib.hid h3
  refine (hashT_ok F2s.out HY1.out HE2.out h3).mono ?_
  rintro e w4 ⟨rfl, g⟩
  have F3 := Lib.hid g
  clear g h3 F2s
  have r := F3.out.mem.rules; simp only [AllCells, CellsAt, Nat.zero_add, Nat.reduceAdd, talkC] at r
  go_wp2_with fail
  clear r
  have HY3 := Lib.hid (Sough.hashT_wf HO2.out HY1.out Hh3.out)
  have HO3 := Lib.hid F3.out.ok
  obtain ⟨s4, r4, h4⟩ : ∃ s r, Sough.wrappingT s3 d1 = (s, r) := ⟨_, _, rfl⟩
  rcases r4 with er | k4
  · have hq := HR3.out; simp only [h4, Sough.bnd] at hq
    refine (wrappingT_er F3.out HD.out.2.1 h4).mono ?_
    rintro e w5 ⟨rfl, _, g⟩
    exact begin_bad rfl rfl rfl g (by repeat (first | with_reducible exact List.Sublist.refl _ | with_reducible refine List.Sublist.cons_cons _ ?_ | refine List.Sublist.cons _ ?_)) hq
  have hq := HR3.out; simp only [h4, Sough.bnd] at hq
  have HR4 := Lib.hid hq
  clear hq HR3
  have Hh4 := Lib.hid h4
  refine (wrappingT_ok F3.out HD.out.2.1 h4).mono ?_
  rintro e w5 ⟨rfl, g⟩
  have F4 := Lib.hid g
  clear g h4 F3
  have r := F4.out.mem.rules; simp only [AllCells, CellsAt, Nat.zero_add, Nat.reduceAdd, talkC] at r
  go_wp2_with fail
  clear r
  have F4s : Hid (SF S w0 (w5.setCell ⟨w2.heap.size, 7, none⟩ (.int .i64 k4)) p s4 ((t, talkC p (y3)) :: (w2.heap.size, .cells #[.int .i64 1, .int .u64 (m.v 1), .int .u64 0, .string ⟨m.offer.toArray⟩, .int .i64 0, .int .i64 0, .int .i64 e2, .int .i64 k4, .int .i64 0, .int .i64 0, .int .i64 0, .int .u64 0, .int .u64 0] 34 (0, 0)) :: _)) := Lib.hid (F4.out.setMid (A := [_]) 7 (.int .i64 k4))
  clear F4
  have HK4 := Lib.hid (Sough.wrappingT_name HO3.out Hh4.out)
  have HO4 := Lib.hid F4s.out.ok
  obtain ⟨s5, r5, h5⟩ : ∃ s r, Sough.hashT s4 y3 k4 = (s, r) := ⟨_, _, rfl⟩
  rcases r5 with er | y5
  · have hq := HR4.out; simp only [h5, Sough.bnd] at hq
    refine (hashT_er F4s.out HY3.out HK4.out h5).mono ?_
    rintro e w6 ⟨rfl, _, g⟩
    exact begin_bad rfl rfl rfl g (by repeat (first | with_reducible exact List.Sublist.refl _ | with_reducible refine List.Sublist.cons_cons _ ?_ | refine List.Sublist.cons _ ?_)) hq
  have hq := HR4.out; simp only [h5, Sough.bnd] at hq
  have HR5 := Lib.hid hq
  clear hq HR4
  have Hh5 := Lib.hid h5
  refine (hashT_ok F4s.out HY3.out HK4.out h5).mono ?_
  rintro e w6 ⟨rfl, g⟩
  have F5 := Lib.hid g
  clear g h5 F4s
  have r := F5.out.mem.rules; simp only [AllCells, CellsAt, Nat.zero_add, Nat.reduceAdd, talkC] at r
  go_wp2_with fail
  clear r
  have HY5 := Lib.hid (Sough.hashT_wf HO4.out HY3.out Hh5.out)
  have HO5 := Lib.hid F5.out.ok
  obtain ⟨s6, r6, h6⟩ : ∃ s r, Sough.agreedT s5 d0 pr.pub.dh = (s, r) := ⟨_, _, rfl⟩
  rcases r6 with er | x6
  · have hq := HR5.out; simp only [h6, Sough.bnd] at hq
    refine (agreedT_er F5.out HD.out.1 h6).mono ?_
    rintro e w7 ⟨rfl, _, g⟩
    exact begin_bad rfl rfl rfl g (by repeat (first | with_reducible exact List.Sublist.refl _ | with_reducible refine List.Sublist.cons_cons _ ?_ | refine List.Sublist.cons _ ?_)) hq
  have hq := HR5.out; simp only [h6, Sough.bnd] at hq
  have HR6 := Lib.hid hq
  clear hq HR5
  have Hh6 := Lib.hid h6
  refine (agreedT_ok F5.out HD.out.1 h6).mono ?_
  rintro e w7 ⟨rfl, g⟩
  have F6 := Lib.hid g
  clear g h6 F5
  have r := F6.out.mem.rules; simp only [AllCells, CellsAt, Nat.zero_add, Nat.reduceAdd, talkC] at r
  go_wp2_with fail
  clear r
  have HX6 := Lib.hid (Sough.agreedT_name HO5.out Hh6.out)
  have HO6 := Lib.hid F6.out.ok
  obtain ⟨s7, r7, h7⟩ : ∃ s r, Sough.mixT s6 y5 x6 = (s, r) := ⟨_, _, rfl⟩
  rcases r7 with er | y7
  · have hq := HR6.out; simp only [h7, Sough.bnd] at hq
    refine (mixT_er F6.out HY5.out HX6.out h7).mono ?_
    rintro e w8 ⟨rfl, _, g⟩
    exact begin_bad rfl rfl rfl g (by repeat (first | with_reducible exact List.Sublist.refl _ | with_reducible refine List.Sublist.cons_cons _ ?_ | refine List.Sublist.cons _ ?_)) hq
  have hq := HR6.out; simp only [h7, Sough.bnd] at hq
  have HR7 := Lib.hid hq
  clear hq HR6
  have Hh7 := Lib.hid h7
  refine (mixT_ok F6.out HY5.out HX6.out h7).mono ?_
  rintro e w8 ⟨rfl, g⟩
  have F7 := Lib.hid g
  clear g h7 F6
  have r := F7.out.mem.rules; simp only [AllCells, CellsAt, Nat.zero_add, Nat.reduceAdd, talkC] at r
  go_wp2_with fail
  clear r
  have HY7 := Lib.hid (Sough.mixT_wf HO6.out HY5.out HX6.out Hh7.out)
  have HO7 := Lib.hid F7.out.ok
  obtain ⟨s8, r8, h8⟩ : ∃ s r, Sough.wrapT s7 y7 pr.pub.kem d2 = (s, r) := ⟨_, _, rfl⟩
  rcases r8 with er | b8
  · have hq := HR7.out; simp only [h8, Sough.bnd] at hq
    refine (wrapT_er F7.out HY7.out HD.out.2.2 h8).mono ?_
    rintro e w9 ⟨rfl, _, g⟩
    exact begin_bad rfl rfl rfl g (by repeat (first | with_reducible exact List.Sublist.refl _ | with_reducible refine List.Sublist.cons_cons _ ?_ | refine List.Sublist.cons _ ?_)) hq
  have hq := HR7.out; simp only [h8, Sough.bnd] at hq
  have HR8 := Lib.hid hq
  clear hq HR7
  have Hh8 := Lib.hid h8
  refine (wrapT_ok F7.out HY7.out HD.out.2.2 h8).mono ?_
  rintro e w9 ⟨rfl, g⟩
  have F8 := Lib.hid g
  clear g h8 F7
  have r := F8.out.mem.rules; simp only [AllCells, CellsAt, Nat.zero_add, Nat.reduceAdd, talkC] at r
  go_wp2_with fail
  clear r
  have HB8 := Lib.hid (wrapT_name HO7.out HD.out.2.2 HY7.out Hh8.out)
  have F8s : Hid (SF S w0 (w9.setCell ⟨w2.heap.size, 8, none⟩ (.int .i64 b8.2)) p s8 ((t, talkC p (b8.1)) :: (w2.heap.size, .cells #[.int .i64 1, .int .u64 (m.v 1), .int .u64 0, .string ⟨m.offer.toArray⟩, .int .i64 0, .int .i64 0, .int .i64 e2, .int .i64 k4, .int .i64 b8.2, .int .i64 0, .int .i64 0, .int .u64 0, .int .u64 0] 34 (0, 0)) :: _)) := Lib.hid (F8.out.setMid (A := [_]) 8 (.int .i64 b8.2))
  clear F8
  have HO8 := Lib.hid F8s.out.ok
  obtain ⟨s9, r9, h9⟩ : ∃ s r, Sough.publicT s8 me.dh = (s, r) := ⟨_, _, rfl⟩
  rcases r9 with er | x9
  · have hq := HR8.out; simp only [h9, Sough.bnd] at hq
    refine (publicT_er F8s.out HME.out.1 h9).mono ?_
    rintro e w10 ⟨rfl, _, g⟩
    exact begin_bad rfl rfl rfl g (by repeat (first | with_reducible exact List.Sublist.refl _ | with_reducible refine List.Sublist.cons_cons _ ?_ | refine List.Sublist.cons _ ?_)) hq
  have hq := HR8.out; simp only [h9, Sough.bnd] at hq
  have HR9 := Lib.hid hq
  clear hq HR8
  have Hh9 := Lib.hid h9
  refine (publicT_ok F8s.out HME.out.1 h9).mono ?_
  rintro e w10 ⟨rfl, g⟩
  have F9 := Lib.hid g
  clear g h9 F8s
  have r := F9.out.mem.rules; simp only [AllCells, CellsAt, Nat.zero_add, Nat.reduceAdd, talkC] at r
  go_wp2_with fail
  clear r
  have HX9 := Lib.hid (Sough.publicT_name HO8.out Hh9.out)
  have HO9 := Lib.hid F9.out.ok
  obtain ⟨s10, r10, h10⟩ : ∃ s r, Sough.sealT s9 b8.1 x9 = (s, r) := ⟨_, _, rfl⟩
  rcases r10 with er | c10
  · have hq := HR9.out; simp only [h10, Sough.bnd] at hq
    refine (sealT_er F9.out HB8.out.2 HX9.out h10).mono ?_
    rintro e w11 ⟨rfl, _, g⟩
    exact begin_bad rfl rfl rfl g (by repeat (first | with_reducible exact List.Sublist.refl _ | with_reducible refine List.Sublist.cons_cons _ ?_ | refine List.Sublist.cons _ ?_)) hq
  have hq := HR9.out; simp only [h10, Sough.bnd] at hq
  have HR10 := Lib.hid hq
  clear hq HR9
  have Hh10 := Lib.hid h10
  refine (sealT_ok F9.out HB8.out.2 HX9.out h10).mono ?_
  rintro e w11 ⟨rfl, g⟩
  have F10 := Lib.hid g
  clear g h10 F9
  have r := F10.out.mem.rules; simp only [AllCells, CellsAt, Nat.zero_add, Nat.reduceAdd, talkC] at r
  go_wp2_with fail
  clear r
  have HY10 := Lib.hid (Sough.sealT_wf HO9.out HB8.out.2 HX9.out Hh10.out)
  have F10s : Hid (SF S w0 (w11.setCell ⟨w2.heap.size, 9, none⟩ (.int .i64 c10.2)) p s10 ((t, talkC p (c10.1)) :: (w2.heap.size, .cells #[.int .i64 1, .int .u64 (m.v 1), .int .u64 0, .string ⟨m.offer.toArray⟩, .int .i64 0, .int .i64 0, .int .i64 e2, .int .i64 k4, .int .i64 b8.2, .int .i64 c10.2, .int .i64 0, .int .u64 0, .int .u64 0] 34 (0, 0)) :: _)) := Lib.hid (F10.out.setMid (A := [_]) 9 (.int .i64 c10.2))
  clear F10
  have HO10 := Lib.hid F10s.out.ok
  obtain ⟨s11, r11, h11⟩ : ∃ s r, Sough.agreedT s10 me.dh pr.pub.dh = (s, r) := ⟨_, _, rfl⟩
  rcases r11 with er | x11
  · have hq := HR10.out; simp only [h11, Sough.bnd] at hq
    refine (agreedT_er F10s.out HME.out.1 h11).mono ?_
    rintro e w12 ⟨rfl, _, g⟩
    exact begin_bad rfl rfl rfl g (by repeat (first | with_reducible exact List.Sublist.refl _ | with_reducible refine List.Sublist.cons_cons _ ?_ | refine List.Sublist.cons _ ?_)) hq
  have hq := HR10.out; simp only [h11, Sough.bnd] at hq
  have HR11 := Lib.hid hq
  clear hq HR10
  have Hh11 := Lib.hid h11
  refine (agreedT_ok F10s.out HME.out.1 h11).mono ?_
  rintro e w12 ⟨rfl, g⟩
  have F11 := Lib.hid g
  clear g h11 F10s
  have r := F11.out.mem.rules; simp only [AllCells, CellsAt, Nat.zero_add, Nat.reduceAdd, talkC] at r
  go_wp2_with fail
  clear r
  have HX11 := Lib.hid (Sough.agreedT_name HO10.out Hh11.out)
  have HO11 := Lib.hid F11.out.ok
  obtain ⟨s12, r12, h12⟩ : ∃ s r, Sough.mixT s11 c10.1 x11 = (s, r) := ⟨_, _, rfl⟩
  rcases r12 with er | y12
  · have hq := HR11.out; simp only [h12, Sough.bnd] at hq
    refine (mixT_er F11.out HY10.out HX11.out h12).mono ?_
    rintro e w13 ⟨rfl, _, g⟩
    exact begin_bad rfl rfl rfl g (by repeat (first | with_reducible exact List.Sublist.refl _ | with_reducible refine List.Sublist.cons_cons _ ?_ | refine List.Sublist.cons _ ?_)) hq
  have hq := HR11.out; simp only [h12, Sough.bnd] at hq
  have HR12 := Lib.hid hq
  clear hq HR11
  have Hh12 := Lib.hid h12
  refine (mixT_ok F11.out HY10.out HX11.out h12).mono ?_
  rintro e w13 ⟨rfl, g⟩
  have F12 := Lib.hid g
  clear g h12 F11
  have r := F12.out.mem.rules; simp only [AllCells, CellsAt, Nat.zero_add, Nat.reduceAdd, talkC] at r
  go_wp2_with fail
  clear r
  have HY12 := Lib.hid (Sough.mixT_wf HO11.out HY10.out HX11.out Hh12.out)
  have HO12 := Lib.hid F12.out.ok
  obtain ⟨s13, r13, h13⟩ : ∃ s r, Sough.mixT s12 y12 pr.p0 = (s, r) := ⟨_, _, rfl⟩
  rcases r13 with er | y13
  · have hq := HR12.out; simp only [h13, Sough.bnd] at hq
    refine (mixT_er F12.out HY12.out HPR.out.2.2.1 h13).mono ?_
    rintro e w14 ⟨rfl, _, g⟩
    exact begin_bad rfl rfl rfl g (by repeat (first | with_reducible exact List.Sublist.refl _ | with_reducible refine List.Sublist.cons_cons _ ?_ | refine List.Sublist.cons _ ?_)) hq
  have hq := HR12.out; simp only [h13, Sough.bnd] at hq
  have HR13 := Lib.hid hq
  clear hq HR12
  have Hh13 := Lib.hid h13
  refine (mixT_ok F12.out HY12.out HPR.out.2.2.1 h13).mono ?_
  rintro e w14 ⟨rfl, g⟩
  have F13 := Lib.hid g
  clear g h13 F12
  have r := F13.out.mem.rules; simp only [AllCells, CellsAt, Nat.zero_add, Nat.reduceAdd, talkC] at r
  go_wp2_with fail
  clear r
  have HY13 := Lib.hid (Sough.mixT_wf HO12.out HY12.out HPR.out.2.2.1 Hh13.out)
  refine (vput_any stamp (by omega) (by have := HST.out; omega) _).mono ?_
  rintro e w15 ⟨rfl, hb15⟩
  have F14 := Lib.hid (F13.out.later hb15)
  clear hb15 F13
  have HPL := Lib.hid (show (Sough.put stamp).length ≤ 9223372036854775807 by have := (Sough.put_len stamp).2; omega)
  have e15 : ((stamp : Nat) : Int).toNat = stamp := by simp
  rw [e15]
  clear e15
  go_wp2_with fail
  have HO13 := Lib.hid F14.out.ok
  obtain ⟨s14, r14, h14⟩ : ∃ s r, Sough.textT s13 (Sough.put stamp) = (s, r) := ⟨_, _, rfl⟩
  rcases r14 with er | x14
  · have hq := HR13.out; simp only [h14, Sough.bnd] at hq
    refine (textT_er F14.out HPL.out h14).mono ?_
    rintro e w16 ⟨rfl, _, g⟩
    exact begin_bad rfl rfl rfl g (by repeat (first | with_reducible exact List.Sublist.refl _ | with_reducible refine List.Sublist.cons_cons _ ?_ | refine List.Sublist.cons _ ?_)) hq
  have hq := HR13.out; simp only [h14, Sough.bnd] at hq
  have HR14 := Lib.hid hq
  clear hq HR13
  have Hh14 := Lib.hid h14
  refine (textT_ok F14.out HPL.out h14).mono ?_
  rintro e w16 ⟨rfl, g⟩
  have F15 := Lib.hid g
  clear g h14 F14
  have r := F15.out.mem.rules; simp only [AllCells, CellsAt, Nat.zero_add, Nat.reduceAdd, talkC] at r
  go_wp2_with fail
  clear r
  have HX14 := Lib.hid (Sough.textT_name HO13.out Hh14.out)
  have HO14 := Lib.hid F15.out.ok
  obtain ⟨s15, r15, h15⟩ : ∃ s r, Sough.sealT s14 y13 x14 = (s, r) := ⟨_, _, rfl⟩
  rcases r15 with er | c15
  · have hq := HR14.out; simp only [h15, Sough.bnd] at hq
    refine (sealT_er F15.out HY13.out HX14.out h15).mono ?_
    rintro e w17 ⟨rfl, _, g⟩
    exact begin_bad rfl rfl rfl g (by repeat (first | with_reducible exact List.Sublist.refl _ | with_reducible refine List.Sublist.cons_cons _ ?_ | refine List.Sublist.cons _ ?_)) hq
  have hq := HR14.out; simp only [h15, Sough.bnd] at hq
  have HR15 := Lib.hid hq
  clear hq HR14
  have Hh15 := Lib.hid h15
  refine (sealT_ok F15.out HY13.out HX14.out h15).mono ?_
  rintro e w17 ⟨rfl, g⟩
  have F16 := Lib.hid g
  clear g h15 F15
  have r := F16.out.mem.rules; simp only [AllCells, CellsAt, Nat.zero_add, Nat.reduceAdd, talkC] at r
  go_wp2_with fail
  clear r
  have F16s : Hid (SF S w0 (w17.setCell ⟨w2.heap.size, 10, none⟩ (.int .i64 c15.2)) p s15 ((t, talkC p (c15.1)) :: (w2.heap.size, .cells #[.int .i64 1, .int .u64 (m.v 1), .int .u64 0, .string ⟨m.offer.toArray⟩, .int .i64 0, .int .i64 0, .int .i64 e2, .int .i64 k4, .int .i64 b8.2, .int .i64 c10.2, .int .i64 c15.2, .int .u64 0, .int .u64 0] 34 (0, 0)) :: _)) := Lib.hid (F16.out.setMid (A := [_]) 10 (.int .i64 c15.2))
  clear F16
  have HC := Lib.hid (initM_cells (m.v 1) 0 e2 k4 b8.2 c10.2 c15.2 m.offer)
  have HWF := Lib.hid (initM_wf (o := m.offer) (HMW.out.nats 1 (by simp)) HMW.out.text (.inl rfl) HE2.out HK4.out HB8.out.1 (Sough.sealT_name HO9.out Hh10.out) (Sough.sealT_name HO14.out Hh15.out))
  obtain ⟨x, hx⟩ : ∃ x, x = Sough.initM (m.v 1) m.offer 0 e2 k4 b8.2 c10.2 c15.2 := ⟨_, rfl⟩
  have HX := Lib.hid hx
  rw [← hx] at HC HWF HR15
  clear hx
  obtain ⟨rb, hrb⟩ : ∃ b, x.right = b := ⟨_, rfl⟩
  have CR := right_as hrb
  rw [HC.out] at CR
  have hq := HR15.out
  simp only [hrb] at hq
  have HR16 := Lib.hid hq
  clear hq hrb HR15
  refine (CR _ HWF.out).mono ?_
  rintro e w18 ⟨rfl, hb18⟩
  have F17 := Lib.hid (F16s.out.later hb18)
  clear hb18 F16s CR
  go_wp2_with fail
  cases rb
  · refine (need_er (er := 3) (by omega) _).mono ?_
    rintro e w19 ⟨rfl, rfl⟩
    exact begin_bad rfl rfl rfl F17.out (by repeat (first | with_reducible exact List.Sublist.refl _ | with_reducible refine List.Sublist.cons_cons _ ?_ | refine List.Sublist.cons _ ?_)) (by simpa [Sough.bnd] using HR16.out)
  refine (need_ok _).mono ?_
  rintro e w19 ⟨rfl, rfl⟩
  go_wp2_with fail
  -- REGION16
  refine wp_chain (n := 124) [11, 12, 14, 16, 18, 20, 21] (fun k => match k with
      | 0 => some (.agg #[.int .i64 1, .int .u64 (m.v 1), .int .u64 0, .string ⟨m.offer.toArray⟩, .int .i64 0, .int .i64 0, .int .i64 e2, .int .i64 k4, .int .i64 b8.2, .int .i64 c10.2, .int .i64 c15.2, .int .u64 0, .int .u64 0])
      | 1 => some (.pointer (some ⟨t, 0, none⟩))
      | 2 => some (.pointer (some ⟨t, 0, none⟩))
      | 3 => some (.pointer (some ⟨t, 1, none⟩))
      | 4 => some (.agg #[.int .i64 c15.1.ck, .int .i64 c15.1.k, .int .i64 c15.1.h, .int .u64 c15.1.n])
      | 5 => some (.pointer (some ⟨W.heap.size + 1 + 1 + 1, 0, none⟩))
      | 6 => some (.int .i64 d0)
      | 7 => some (.pointer (some ⟨W.heap.size + 1 + 1 + 1, 1, none⟩))
      | 8 => some (.int .i64 d1)
      | 9 => some (.pointer (some ⟨W.heap.size + 1 + 1, 3, none⟩))
      | 10 => some (.string ⟨m.offer.toArray⟩)
      | 13 => some (.pointer (some ⟨W.heap.size + 1 + 1 + 1 + 1 + 1, 0, none⟩))
      | 15 => some (.pointer (some ⟨W.heap.size + 1 + 1 + 1 + 1 + 1, 4, none⟩))
      | 17 => some (.pointer (some ⟨W.heap.size + 1 + 1 + 1 + 1 + 1, 5, none⟩))
      | 19 => some (.pointer (some ⟨W.heap.size + 1 + 1 + 1 + 1 + 1, 6, none⟩))
      | _ => none) (fun i x => SF S w0 x p s15 ((t, talkC p c15.1) :: (w2.heap.size, .cells #[.int .i64 1, .int .u64 (m.v 1), .int .u64 0, .string ⟨m.offer.toArray⟩, .int .i64 0, .int .i64 0, .int .i64 e2, .int .i64 k4, .int .i64 b8.2, .int .i64 c10.2, .int .i64 c15.2, .int .u64 0, .int .u64 0] 34 (0, 0)) :: (W.heap.size + 1 + 1 + 1 + 1 + 1 + 1, .cells #[.int .i64 0] 39 (0, 0)) :: (W.heap.size + 1 + 1 + 1 + 1 + 1, .cells (pnS c15.1 d0 d1 m.offer i) 38 (0, 0)) :: (W.heap.size + 1 + 1 + 1 + 1, .cells (mmS #[.int .i64 1, .int .u64 (m.v 1), .int .u64 0, .string ⟨m.offer.toArray⟩, .int .i64 0, .int .i64 0, .int .i64 e2, .int .i64 k4, .int .i64 b8.2, .int .i64 c10.2, .int .i64 c15.2, .int .u64 0, .int .u64 0] i) 34 (0, 0)) :: (W.heap.size + 1 + 1 + 1, .cells #[.int .i64 d0, .int .i64 d1, .int .i64 d2] 42 (0, 0)) :: (W.heap.size + 1 + 1, .cells #[.int .i64 (m.v 0), .int .u64 (m.v 1), .int .u64 (m.v 2), .string ⟨m.offer.toArray⟩, .int .i64 0, .int .i64 (m.v 5), .int .i64 (m.v 6), .int .i64 (m.v 7), .int .i64 (m.v 8), .int .i64 (m.v 9), .int .i64 (m.v 10), .int .u64 (m.v 11), .int .u64 (m.v 12)] 34 (0, 0)) :: (W.heap.size + 1, .cells #[.int .i64 pr.pub.dh, .int .i64 pr.pub.kem, .int .i64 pr.p0, .int .i64 pr.p1] 28 (0, 0)) :: (W.heap.size, .cells #[.int .i64 me.dh, .int .i64 me.kem] 24 (0, 0)) :: L)) (by kernel_rfl) (by kernel_rfl) (by kernel_rfl) ?_ ?_ ?_ ?_
  · exact F17.out.later (Below.refl _ _).drew
  · exact fun i x y h hb => h.later hb
  · refine ⟨?_, ?_, ?_, ?_, ?_, ?_, ?_, ?_, ?_, ?_, ?_, ?_, ?_, ?_, ?_, ?_, ?_, ?_, ?_, ?_, ?_, ?_, trivial⟩
    · refine cstep_pure (by decide) rfl rfl ?_
      intro i v x hS hF hB
      have yy := SF.rulesOf hS
      simp only [AllCells, CellsAt, Nat.zero_add, Nat.reduceAdd, talkC] at yy
      simp only [putAll, Act.put, List.setIfInBounds_toArray, List.set_cons_succ, List.set_cons_zero]
      go_big_quiet_step (fail)
      exact wpQuiet_nil rfl
    · refine cstep_pure (by decide) rfl rfl ?_
      intro i v x hS hF hB
      simp only [putAll, Act.put, List.setIfInBounds_toArray, List.set_cons_succ, List.set_cons_zero]
      go_big_quiet_step (fail)
      exact wpQuiet_nil rfl
    · refine cstep_pure (by decide) rfl rfl ?_
      intro i v x hS hF hB
      have e1 : v 1 = .pointer (some ⟨t, 0, none⟩) := hF 1 _ (by decide) rfl
      simp only [putAll, Act.put, List.setIfInBounds_toArray, List.set_cons_succ, List.set_cons_zero, e1]
      go_big_quiet_step (fail)
      exact wpQuiet_nil rfl
    · refine cstep_pure (by decide) rfl rfl ?_
      intro i v x hS hF hB
      have e2 : v 2 = .pointer (some ⟨t, 0, none⟩) := hF 2 _ (by decide) rfl
      simp only [putAll, Act.put, List.setIfInBounds_toArray, List.set_cons_succ, List.set_cons_zero, e2]
      go_big_quiet_step (fail)
      exact wpQuiet_nil rfl
    · refine cstep_pure (by decide) rfl rfl ?_
      intro i v x hS hF hB
      have e3 : v 3 = .pointer (some ⟨t, 1, none⟩) := hF 3 _ (by decide) rfl
      have yy := SF.rulesOf hS
      simp only [AllCells, CellsAt, Nat.zero_add, Nat.reduceAdd, talkC] at yy
      simp only [putAll, Act.put, List.setIfInBounds_toArray, List.set_cons_succ, List.set_cons_zero, e3]
      go_big_quiet_step (fail)
      exact wpQuiet_nil rfl
    · refine cstep_pure (by decide) rfl rfl ?_
      intro i v x hS hF hB
      simp only [putAll, Act.put, List.setIfInBounds_toArray, List.set_cons_succ, List.set_cons_zero]
      go_big_quiet_step (fail)
      exact wpQuiet_nil rfl
    · refine cstep_pure (by decide) rfl rfl ?_
      intro i v x hS hF hB
      have e5 : v 5 = .pointer (some ⟨W.heap.size + 1 + 1 + 1, 0, none⟩) := hF 5 _ (by decide) rfl
      have yy := SF.rulesOf hS
      simp only [AllCells, CellsAt, Nat.zero_add, Nat.reduceAdd, talkC] at yy
      simp only [putAll, Act.put, List.setIfInBounds_toArray, List.set_cons_succ, List.set_cons_zero, e5]
      go_big_quiet_step (fail)
      exact wpQuiet_nil rfl
    · refine cstep_pure (by decide) rfl rfl ?_
      intro i v x hS hF hB
      simp only [putAll, Act.put, List.setIfInBounds_toArray, List.set_cons_succ, List.set_cons_zero]
      go_big_quiet_step (fail)
      exact wpQuiet_nil rfl
    · refine cstep_pure (by decide) rfl rfl ?_
      intro i v x hS hF hB
      have e7 : v 7 = .pointer (some ⟨W.heap.size + 1 + 1 + 1, 1, none⟩) := hF 7 _ (by decide) rfl
      have yy := SF.rulesOf hS
      simp only [AllCells, CellsAt, Nat.zero_add, Nat.reduceAdd, talkC] at yy
      simp only [putAll, Act.put, List.setIfInBounds_toArray, List.set_cons_succ, List.set_cons_zero, e7]
      go_big_quiet_step (fail)
      exact wpQuiet_nil rfl
    · refine cstep_pure (by decide) rfl rfl ?_
      intro i v x hS hF hB
      simp only [putAll, Act.put, List.setIfInBounds_toArray, List.set_cons_succ, List.set_cons_zero]
      go_big_quiet_step (fail)
      exact wpQuiet_nil rfl
    · refine cstep_pure (by decide) rfl rfl ?_
      intro i v x hS hF hB
      have e9 : v 9 = .pointer (some ⟨W.heap.size + 1 + 1, 3, none⟩) := hF 9 _ (by decide) rfl
      have yy := SF.rulesOf hS
      simp only [AllCells, CellsAt, Nat.zero_add, Nat.reduceAdd, talkC] at yy
      simp only [putAll, Act.put, List.setIfInBounds_toArray, List.set_cons_succ, List.set_cons_zero, e9]
      go_big_quiet_step (fail)
      exact wpQuiet_nil rfl
    · refine cstep_sto 0 rfl rfl rfl ?_
      intro v x hS hF
      have e0 : v 0 = .agg #[.int .i64 1, .int .u64 (m.v 1), .int .u64 0, .string ⟨m.offer.toArray⟩, .int .i64 0, .int .i64 0, .int .i64 e2, .int .i64 k4, .int .i64 b8.2, .int .i64 c10.2, .int .i64 c15.2, .int .u64 0, .int .u64 0] := hF 0 _ (by decide) rfl
      have hS2 : SF S w0 x p s15 ((t, talkC p c15.1) :: (w2.heap.size, .cells #[.int .i64 1, .int .u64 (m.v 1), .int .u64 0, .string ⟨m.offer.toArray⟩, .int .i64 0, .int .i64 0, .int .i64 e2, .int .i64 k4, .int .i64 b8.2, .int .i64 c10.2, .int .i64 c15.2, .int .u64 0, .int .u64 0] 34 (0, 0)) :: (W.heap.size + 1 + 1 + 1 + 1 + 1 + 1, .cells #[.int .i64 0] 39 (0, 0)) :: (W.heap.size + 1 + 1 + 1 + 1 + 1, .cells #[.int .i64 0, .int .i64 0, .int .i64 0, .int .u64 0, .int .i64 0, .int .i64 0, .string ⟨#[]⟩] 38 (0, 0)) :: (W.heap.size + 1 + 1 + 1 + 1, .cells #[.int .i64 0, .int .u64 0, .int .u64 0, .string ⟨#[]⟩, .int .i64 0, .int .i64 0, .int .i64 0, .int .i64 0, .int .i64 0, .int .i64 0, .int .i64 0, .int .u64 0, .int .u64 0] 34 (0, 0)) :: (W.heap.size + 1 + 1 + 1, .cells #[.int .i64 d0, .int .i64 d1, .int .i64 d2] 42 (0, 0)) :: (W.heap.size + 1 + 1, .cells #[.int .i64 (m.v 0), .int .u64 (m.v 1), .int .u64 (m.v 2), .string ⟨m.offer.toArray⟩, .int .i64 0, .int .i64 (m.v 5), .int .i64 (m.v 6), .int .i64 (m.v 7), .int .i64 (m.v 8), .int .i64 (m.v 9), .int .i64 (m.v 10), .int .u64 (m.v 11), .int .u64 (m.v 12)] 34 (0, 0)) :: (W.heap.size + 1, .cells #[.int .i64 pr.pub.dh, .int .i64 pr.pub.kem, .int .i64 pr.p0, .int .i64 pr.p1] 28 (0, 0)) :: (W.heap.size, .cells #[.int .i64 me.dh, .int .i64 me.kem] 24 (0, 0)) :: L) := hS
      have hc := hS2.get 4 rfl
      have HS : Hid (SF S w0 _ p s15 ((t, talkC p c15.1) :: (w2.heap.size, .cells #[.int .i64 1, .int .u64 (m.v 1), .int .u64 0, .string ⟨m.offer.toArray⟩, .int .i64 0, .int .i64 0, .int .i64 e2, .int .i64 k4, .int .i64 b8.2, .int .i64 c10.2, .int .i64 c15.2, .int .u64 0, .int .u64 0] 34 (0, 0)) :: (W.heap.size + 1 + 1 + 1 + 1 + 1 + 1, .cells #[.int .i64 0] 39 (0, 0)) :: (W.heap.size + 1 + 1 + 1 + 1 + 1, .cells #[.int .i64 0, .int .i64 0, .int .i64 0, .int .u64 0, .int .i64 0, .int .i64 0, .string ⟨#[]⟩] 38 (0, 0)) :: (W.heap.size + 1 + 1 + 1 + 1, .cells #[.int .i64 1, .int .u64 (m.v 1), .int .u64 0, .string ⟨m.offer.toArray⟩, .int .i64 0, .int .i64 0, .int .i64 e2, .int .i64 k4, .int .i64 b8.2, .int .i64 c10.2, .int .i64 c15.2, .int .u64 0, .int .u64 0] 34 (0, 0)) :: (W.heap.size + 1 + 1 + 1, .cells #[.int .i64 d0, .int .i64 d1, .int .i64 d2] 42 (0, 0)) :: (W.heap.size + 1 + 1, .cells #[.int .i64 (m.v 0), .int .u64 (m.v 1), .int .u64 (m.v 2), .string ⟨m.offer.toArray⟩, .int .i64 0, .int .i64 (m.v 5), .int .i64 (m.v 6), .int .i64 (m.v 7), .int .i64 (m.v 8), .int .i64 (m.v 9), .int .i64 (m.v 10), .int .u64 (m.v 11), .int .u64 (m.v 12)] 34 (0, 0)) :: (W.heap.size + 1, .cells #[.int .i64 pr.pub.dh, .int .i64 pr.pub.kem, .int .i64 pr.p0, .int .i64 pr.p1] 28 (0, 0)) :: (W.heap.size, .cells #[.int .i64 me.dh, .int .i64 me.kem] 24 (0, 0)) :: L)) := Lib.hid (SF.m13 (A := [_, _, _, _]) hS2 (.int .i64 1) (.int .u64 (m.v 1)) (.int .u64 0) (.string ⟨m.offer.toArray⟩) (.int .i64 0) (.int .i64 0) (.int .i64 e2) (.int .i64 k4) (.int .i64 b8.2) (.int .i64 c10.2) (.int .i64 c15.2) (.int .u64 0) (.int .u64 0))
      have cc := cells_of hc
      simp only [CellsAt, Nat.zero_add, Nat.reduceAdd] at cc
      clear hc hS2 hS hF
      refine ⟨_, HS.out, ?_⟩
      simp only [putAll, Act.put, List.setIfInBounds_toArray, List.set_cons_succ, List.set_cons_zero, e0]
      unfold Oper.wp
      go_simp
    · refine cstep_sto 1 rfl rfl rfl ?_
      intro v x hS hF
      have hS2 : SF S w0 x p s15 ((t, talkC p c15.1) :: (w2.heap.size, .cells #[.int .i64 1, .int .u64 (m.v 1), .int .u64 0, .string ⟨m.offer.toArray⟩, .int .i64 0, .int .i64 0, .int .i64 e2, .int .i64 k4, .int .i64 b8.2, .int .i64 c10.2, .int .i64 c15.2, .int .u64 0, .int .u64 0] 34 (0, 0)) :: (W.heap.size + 1 + 1 + 1 + 1 + 1 + 1, .cells #[.int .i64 0] 39 (0, 0)) :: (W.heap.size + 1 + 1 + 1 + 1 + 1, .cells #[.int .i64 0, .int .i64 0, .int .i64 0, .int .u64 0, .int .i64 0, .int .i64 0, .string ⟨#[]⟩] 38 (0, 0)) :: (W.heap.size + 1 + 1 + 1 + 1, .cells #[.int .i64 1, .int .u64 (m.v 1), .int .u64 0, .string ⟨m.offer.toArray⟩, .int .i64 0, .int .i64 0, .int .i64 e2, .int .i64 k4, .int .i64 b8.2, .int .i64 c10.2, .int .i64 c15.2, .int .u64 0, .int .u64 0] 34 (0, 0)) :: (W.heap.size + 1 + 1 + 1, .cells #[.int .i64 d0, .int .i64 d1, .int .i64 d2] 42 (0, 0)) :: (W.heap.size + 1 + 1, .cells #[.int .i64 (m.v 0), .int .u64 (m.v 1), .int .u64 (m.v 2), .string ⟨m.offer.toArray⟩, .int .i64 0, .int .i64 (m.v 5), .int .i64 (m.v 6), .int .i64 (m.v 7), .int .i64 (m.v 8), .int .i64 (m.v 9), .int .i64 (m.v 10), .int .u64 (m.v 11), .int .u64 (m.v 12)] 34 (0, 0)) :: (W.heap.size + 1, .cells #[.int .i64 pr.pub.dh, .int .i64 pr.pub.kem, .int .i64 pr.p0, .int .i64 pr.p1] 28 (0, 0)) :: (W.heap.size, .cells #[.int .i64 me.dh, .int .i64 me.kem] 24 (0, 0)) :: L) := hS
      have hc := hS2.get 3 rfl
      have HS : Hid (SF S w0 _ p s15 ((t, talkC p c15.1) :: (w2.heap.size, .cells #[.int .i64 1, .int .u64 (m.v 1), .int .u64 0, .string ⟨m.offer.toArray⟩, .int .i64 0, .int .i64 0, .int .i64 e2, .int .i64 k4, .int .i64 b8.2, .int .i64 c10.2, .int .i64 c15.2, .int .u64 0, .int .u64 0] 34 (0, 0)) :: (W.heap.size + 1 + 1 + 1 + 1 + 1 + 1, .cells #[.int .i64 0] 39 (0, 0)) :: (W.heap.size + 1 + 1 + 1 + 1 + 1, .cells #[.int .i64 0, .int .i64 0, .int .i64 0, .int .u64 0, .int .i64 0, .int .i64 0, .string ⟨#[]⟩] 38 (0, 0)) :: (W.heap.size + 1 + 1 + 1 + 1, .cells #[.int .i64 1, .int .u64 (m.v 1), .int .u64 0, .string ⟨m.offer.toArray⟩, .int .i64 0, .int .i64 0, .int .i64 e2, .int .i64 k4, .int .i64 b8.2, .int .i64 c10.2, .int .i64 c15.2, .int .u64 0, .int .u64 0] 34 (0, 0)) :: (W.heap.size + 1 + 1 + 1, .cells #[.int .i64 d0, .int .i64 d1, .int .i64 d2] 42 (0, 0)) :: (W.heap.size + 1 + 1, .cells #[.int .i64 (m.v 0), .int .u64 (m.v 1), .int .u64 (m.v 2), .string ⟨m.offer.toArray⟩, .int .i64 0, .int .i64 (m.v 5), .int .i64 (m.v 6), .int .i64 (m.v 7), .int .i64 (m.v 8), .int .i64 (m.v 9), .int .i64 (m.v 10), .int .u64 (m.v 11), .int .u64 (m.v 12)] 34 (0, 0)) :: (W.heap.size + 1, .cells #[.int .i64 pr.pub.dh, .int .i64 pr.pub.kem, .int .i64 pr.p0, .int .i64 pr.p1] 28 (0, 0)) :: (W.heap.size, .cells #[.int .i64 me.dh, .int .i64 me.kem] 24 (0, 0)) :: L)) := Lib.hid (SF.m7 (A := [_, _, _]) hS2 (.int .i64 0) (.int .i64 0) (.int .i64 0) (.int .u64 0) (.int .i64 0) (.int .i64 0) (.string ⟨#[]⟩))
      have cc := cells_of hc
      simp only [CellsAt, Nat.zero_add, Nat.reduceAdd] at cc
      clear hc hS2 hS hF
      refine ⟨_, HS.out, ?_⟩
      simp only [putAll, Act.put, List.setIfInBounds_toArray, List.set_cons_succ, List.set_cons_zero]
      unfold Oper.wp
      go_simp
    · refine cstep_pure (by decide) rfl rfl ?_
      intro i v x hS hF hB
      simp only [putAll, Act.put, List.setIfInBounds_toArray, List.set_cons_succ, List.set_cons_zero]
      go_big_quiet_step (fail)
      exact wpQuiet_nil rfl
    · refine cstep_sto 2 rfl rfl rfl ?_
      intro v x hS hF
      have e13 : v 13 = .pointer (some ⟨W.heap.size + 1 + 1 + 1 + 1 + 1, 0, none⟩) := hF 13 _ (by decide) rfl
      have e4 : v 4 = .agg #[.int .i64 c15.1.ck, .int .i64 c15.1.k, .int .i64 c15.1.h, .int .u64 c15.1.n] := hF 4 _ (by decide) rfl
      have hS2 : SF S w0 x p s15 ((t, talkC p c15.1) :: (w2.heap.size, .cells #[.int .i64 1, .int .u64 (m.v 1), .int .u64 0, .string ⟨m.offer.toArray⟩, .int .i64 0, .int .i64 0, .int .i64 e2, .int .i64 k4, .int .i64 b8.2, .int .i64 c10.2, .int .i64 c15.2, .int .u64 0, .int .u64 0] 34 (0, 0)) :: (W.heap.size + 1 + 1 + 1 + 1 + 1 + 1, .cells #[.int .i64 0] 39 (0, 0)) :: (W.heap.size + 1 + 1 + 1 + 1 + 1, .cells #[.int .i64 0, .int .i64 0, .int .i64 0, .int .u64 0, .int .i64 0, .int .i64 0, .string ⟨#[]⟩] 38 (0, 0)) :: (W.heap.size + 1 + 1 + 1 + 1, .cells #[.int .i64 1, .int .u64 (m.v 1), .int .u64 0, .string ⟨m.offer.toArray⟩, .int .i64 0, .int .i64 0, .int .i64 e2, .int .i64 k4, .int .i64 b8.2, .int .i64 c10.2, .int .i64 c15.2, .int .u64 0, .int .u64 0] 34 (0, 0)) :: (W.heap.size + 1 + 1 + 1, .cells #[.int .i64 d0, .int .i64 d1, .int .i64 d2] 42 (0, 0)) :: (W.heap.size + 1 + 1, .cells #[.int .i64 (m.v 0), .int .u64 (m.v 1), .int .u64 (m.v 2), .string ⟨m.offer.toArray⟩, .int .i64 0, .int .i64 (m.v 5), .int .i64 (m.v 6), .int .i64 (m.v 7), .int .i64 (m.v 8), .int .i64 (m.v 9), .int .i64 (m.v 10), .int .u64 (m.v 11), .int .u64 (m.v 12)] 34 (0, 0)) :: (W.heap.size + 1, .cells #[.int .i64 pr.pub.dh, .int .i64 pr.pub.kem, .int .i64 pr.p0, .int .i64 pr.p1] 28 (0, 0)) :: (W.heap.size, .cells #[.int .i64 me.dh, .int .i64 me.kem] 24 (0, 0)) :: L) := hS
      have hc := hS2.get 3 rfl
      have HS : Hid (SF S w0 _ p s15 ((t, talkC p c15.1) :: (w2.heap.size, .cells #[.int .i64 1, .int .u64 (m.v 1), .int .u64 0, .string ⟨m.offer.toArray⟩, .int .i64 0, .int .i64 0, .int .i64 e2, .int .i64 k4, .int .i64 b8.2, .int .i64 c10.2, .int .i64 c15.2, .int .u64 0, .int .u64 0] 34 (0, 0)) :: (W.heap.size + 1 + 1 + 1 + 1 + 1 + 1, .cells #[.int .i64 0] 39 (0, 0)) :: (W.heap.size + 1 + 1 + 1 + 1 + 1, .cells #[.int .i64 c15.1.ck, .int .i64 c15.1.k, .int .i64 c15.1.h, .int .u64 c15.1.n, .int .i64 0, .int .i64 0, .string ⟨#[]⟩] 38 (0, 0)) :: (W.heap.size + 1 + 1 + 1 + 1, .cells #[.int .i64 1, .int .u64 (m.v 1), .int .u64 0, .string ⟨m.offer.toArray⟩, .int .i64 0, .int .i64 0, .int .i64 e2, .int .i64 k4, .int .i64 b8.2, .int .i64 c10.2, .int .i64 c15.2, .int .u64 0, .int .u64 0] 34 (0, 0)) :: (W.heap.size + 1 + 1 + 1, .cells #[.int .i64 d0, .int .i64 d1, .int .i64 d2] 42 (0, 0)) :: (W.heap.size + 1 + 1, .cells #[.int .i64 (m.v 0), .int .u64 (m.v 1), .int .u64 (m.v 2), .string ⟨m.offer.toArray⟩, .int .i64 0, .int .i64 (m.v 5), .int .i64 (m.v 6), .int .i64 (m.v 7), .int .i64 (m.v 8), .int .i64 (m.v 9), .int .i64 (m.v 10), .int .u64 (m.v 11), .int .u64 (m.v 12)] 34 (0, 0)) :: (W.heap.size + 1, .cells #[.int .i64 pr.pub.dh, .int .i64 pr.pub.kem, .int .i64 pr.p0, .int .i64 pr.p1] 28 (0, 0)) :: (W.heap.size, .cells #[.int .i64 me.dh, .int .i64 me.kem] 24 (0, 0)) :: L)) := Lib.hid (SF.setMid (A := [_, _, _]) (SF.setMid (A := [_, _, _]) (SF.setMid (A := [_, _, _]) (SF.setMid (A := [_, _, _]) hS2 0 (.int .i64 c15.1.ck)) 1 (.int .i64 c15.1.k)) 2 (.int .i64 c15.1.h)) 3 (.int .u64 c15.1.n))
      have cc := cells_of hc
      simp only [CellsAt, Nat.zero_add, Nat.reduceAdd] at cc
      clear hc hS2 hS hF
      refine ⟨_, HS.out, ?_⟩
      simp only [putAll, Act.put, List.setIfInBounds_toArray, List.set_cons_succ, List.set_cons_zero, e13, e4]
      unfold Oper.wp
      go_simp
    · refine cstep_pure (by decide) rfl rfl ?_
      intro i v x hS hF hB
      simp only [putAll, Act.put, List.setIfInBounds_toArray, List.set_cons_succ, List.set_cons_zero]
      go_big_quiet_step (fail)
      exact wpQuiet_nil rfl
    · refine cstep_sto 3 rfl rfl rfl ?_
      intro v x hS hF
      have e15 : v 15 = .pointer (some ⟨W.heap.size + 1 + 1 + 1 + 1 + 1, 4, none⟩) := hF 15 _ (by decide) rfl
      have e6 : v 6 = .int .i64 d0 := hF 6 _ (by decide) rfl
      have hS2 : SF S w0 x p s15 ((t, talkC p c15.1) :: (w2.heap.size, .cells #[.int .i64 1, .int .u64 (m.v 1), .int .u64 0, .string ⟨m.offer.toArray⟩, .int .i64 0, .int .i64 0, .int .i64 e2, .int .i64 k4, .int .i64 b8.2, .int .i64 c10.2, .int .i64 c15.2, .int .u64 0, .int .u64 0] 34 (0, 0)) :: (W.heap.size + 1 + 1 + 1 + 1 + 1 + 1, .cells #[.int .i64 0] 39 (0, 0)) :: (W.heap.size + 1 + 1 + 1 + 1 + 1, .cells #[.int .i64 c15.1.ck, .int .i64 c15.1.k, .int .i64 c15.1.h, .int .u64 c15.1.n, .int .i64 0, .int .i64 0, .string ⟨#[]⟩] 38 (0, 0)) :: (W.heap.size + 1 + 1 + 1 + 1, .cells #[.int .i64 1, .int .u64 (m.v 1), .int .u64 0, .string ⟨m.offer.toArray⟩, .int .i64 0, .int .i64 0, .int .i64 e2, .int .i64 k4, .int .i64 b8.2, .int .i64 c10.2, .int .i64 c15.2, .int .u64 0, .int .u64 0] 34 (0, 0)) :: (W.heap.size + 1 + 1 + 1, .cells #[.int .i64 d0, .int .i64 d1, .int .i64 d2] 42 (0, 0)) :: (W.heap.size + 1 + 1, .cells #[.int .i64 (m.v 0), .int .u64 (m.v 1), .int .u64 (m.v 2), .string ⟨m.offer.toArray⟩, .int .i64 0, .int .i64 (m.v 5), .int .i64 (m.v 6), .int .i64 (m.v 7), .int .i64 (m.v 8), .int .i64 (m.v 9), .int .i64 (m.v 10), .int .u64 (m.v 11), .int .u64 (m.v 12)] 34 (0, 0)) :: (W.heap.size + 1, .cells #[.int .i64 pr.pub.dh, .int .i64 pr.pub.kem, .int .i64 pr.p0, .int .i64 pr.p1] 28 (0, 0)) :: (W.heap.size, .cells #[.int .i64 me.dh, .int .i64 me.kem] 24 (0, 0)) :: L) := hS
      have hc := hS2.get 3 rfl
      have HS : Hid (SF S w0 _ p s15 ((t, talkC p c15.1) :: (w2.heap.size, .cells #[.int .i64 1, .int .u64 (m.v 1), .int .u64 0, .string ⟨m.offer.toArray⟩, .int .i64 0, .int .i64 0, .int .i64 e2, .int .i64 k4, .int .i64 b8.2, .int .i64 c10.2, .int .i64 c15.2, .int .u64 0, .int .u64 0] 34 (0, 0)) :: (W.heap.size + 1 + 1 + 1 + 1 + 1 + 1, .cells #[.int .i64 0] 39 (0, 0)) :: (W.heap.size + 1 + 1 + 1 + 1 + 1, .cells #[.int .i64 c15.1.ck, .int .i64 c15.1.k, .int .i64 c15.1.h, .int .u64 c15.1.n, .int .i64 d0, .int .i64 0, .string ⟨#[]⟩] 38 (0, 0)) :: (W.heap.size + 1 + 1 + 1 + 1, .cells #[.int .i64 1, .int .u64 (m.v 1), .int .u64 0, .string ⟨m.offer.toArray⟩, .int .i64 0, .int .i64 0, .int .i64 e2, .int .i64 k4, .int .i64 b8.2, .int .i64 c10.2, .int .i64 c15.2, .int .u64 0, .int .u64 0] 34 (0, 0)) :: (W.heap.size + 1 + 1 + 1, .cells #[.int .i64 d0, .int .i64 d1, .int .i64 d2] 42 (0, 0)) :: (W.heap.size + 1 + 1, .cells #[.int .i64 (m.v 0), .int .u64 (m.v 1), .int .u64 (m.v 2), .string ⟨m.offer.toArray⟩, .int .i64 0, .int .i64 (m.v 5), .int .i64 (m.v 6), .int .i64 (m.v 7), .int .i64 (m.v 8), .int .i64 (m.v 9), .int .i64 (m.v 10), .int .u64 (m.v 11), .int .u64 (m.v 12)] 34 (0, 0)) :: (W.heap.size + 1, .cells #[.int .i64 pr.pub.dh, .int .i64 pr.pub.kem, .int .i64 pr.p0, .int .i64 pr.p1] 28 (0, 0)) :: (W.heap.size, .cells #[.int .i64 me.dh, .int .i64 me.kem] 24 (0, 0)) :: L)) := Lib.hid (SF.setMid (A := [_, _, _]) hS2 4 (.int .i64 d0))
      have cc := cells_of hc
      simp only [CellsAt, Nat.zero_add, Nat.reduceAdd] at cc
      clear hc hS2 hS hF
      refine ⟨_, HS.out, ?_⟩
      simp only [putAll, Act.put, List.setIfInBounds_toArray, List.set_cons_succ, List.set_cons_zero, e15, e6]
      unfold Oper.wp
      go_simp
    · refine cstep_pure (by decide) rfl rfl ?_
      intro i v x hS hF hB
      simp only [putAll, Act.put, List.setIfInBounds_toArray, List.set_cons_succ, List.set_cons_zero]
      go_big_quiet_step (fail)
      exact wpQuiet_nil rfl
    · refine cstep_sto 4 rfl rfl rfl ?_
      intro v x hS hF
      have e17 : v 17 = .pointer (some ⟨W.heap.size + 1 + 1 + 1 + 1 + 1, 5, none⟩) := hF 17 _ (by decide) rfl
      have e8 : v 8 = .int .i64 d1 := hF 8 _ (by decide) rfl
      have hS2 : SF S w0 x p s15 ((t, talkC p c15.1) :: (w2.heap.size, .cells #[.int .i64 1, .int .u64 (m.v 1), .int .u64 0, .string ⟨m.offer.toArray⟩, .int .i64 0, .int .i64 0, .int .i64 e2, .int .i64 k4, .int .i64 b8.2, .int .i64 c10.2, .int .i64 c15.2, .int .u64 0, .int .u64 0] 34 (0, 0)) :: (W.heap.size + 1 + 1 + 1 + 1 + 1 + 1, .cells #[.int .i64 0] 39 (0, 0)) :: (W.heap.size + 1 + 1 + 1 + 1 + 1, .cells #[.int .i64 c15.1.ck, .int .i64 c15.1.k, .int .i64 c15.1.h, .int .u64 c15.1.n, .int .i64 d0, .int .i64 0, .string ⟨#[]⟩] 38 (0, 0)) :: (W.heap.size + 1 + 1 + 1 + 1, .cells #[.int .i64 1, .int .u64 (m.v 1), .int .u64 0, .string ⟨m.offer.toArray⟩, .int .i64 0, .int .i64 0, .int .i64 e2, .int .i64 k4, .int .i64 b8.2, .int .i64 c10.2, .int .i64 c15.2, .int .u64 0, .int .u64 0] 34 (0, 0)) :: (W.heap.size + 1 + 1 + 1, .cells #[.int .i64 d0, .int .i64 d1, .int .i64 d2] 42 (0, 0)) :: (W.heap.size + 1 + 1, .cells #[.int .i64 (m.v 0), .int .u64 (m.v 1), .int .u64 (m.v 2), .string ⟨m.offer.toArray⟩, .int .i64 0, .int .i64 (m.v 5), .int .i64 (m.v 6), .int .i64 (m.v 7), .int .i64 (m.v 8), .int .i64 (m.v 9), .int .i64 (m.v 10), .int .u64 (m.v 11), .int .u64 (m.v 12)] 34 (0, 0)) :: (W.heap.size + 1, .cells #[.int .i64 pr.pub.dh, .int .i64 pr.pub.kem, .int .i64 pr.p0, .int .i64 pr.p1] 28 (0, 0)) :: (W.heap.size, .cells #[.int .i64 me.dh, .int .i64 me.kem] 24 (0, 0)) :: L) := hS
      have hc := hS2.get 3 rfl
      have HS : Hid (SF S w0 _ p s15 ((t, talkC p c15.1) :: (w2.heap.size, .cells #[.int .i64 1, .int .u64 (m.v 1), .int .u64 0, .string ⟨m.offer.toArray⟩, .int .i64 0, .int .i64 0, .int .i64 e2, .int .i64 k4, .int .i64 b8.2, .int .i64 c10.2, .int .i64 c15.2, .int .u64 0, .int .u64 0] 34 (0, 0)) :: (W.heap.size + 1 + 1 + 1 + 1 + 1 + 1, .cells #[.int .i64 0] 39 (0, 0)) :: (W.heap.size + 1 + 1 + 1 + 1 + 1, .cells #[.int .i64 c15.1.ck, .int .i64 c15.1.k, .int .i64 c15.1.h, .int .u64 c15.1.n, .int .i64 d0, .int .i64 d1, .string ⟨#[]⟩] 38 (0, 0)) :: (W.heap.size + 1 + 1 + 1 + 1, .cells #[.int .i64 1, .int .u64 (m.v 1), .int .u64 0, .string ⟨m.offer.toArray⟩, .int .i64 0, .int .i64 0, .int .i64 e2, .int .i64 k4, .int .i64 b8.2, .int .i64 c10.2, .int .i64 c15.2, .int .u64 0, .int .u64 0] 34 (0, 0)) :: (W.heap.size + 1 + 1 + 1, .cells #[.int .i64 d0, .int .i64 d1, .int .i64 d2] 42 (0, 0)) :: (W.heap.size + 1 + 1, .cells #[.int .i64 (m.v 0), .int .u64 (m.v 1), .int .u64 (m.v 2), .string ⟨m.offer.toArray⟩, .int .i64 0, .int .i64 (m.v 5), .int .i64 (m.v 6), .int .i64 (m.v 7), .int .i64 (m.v 8), .int .i64 (m.v 9), .int .i64 (m.v 10), .int .u64 (m.v 11), .int .u64 (m.v 12)] 34 (0, 0)) :: (W.heap.size + 1, .cells #[.int .i64 pr.pub.dh, .int .i64 pr.pub.kem, .int .i64 pr.p0, .int .i64 pr.p1] 28 (0, 0)) :: (W.heap.size, .cells #[.int .i64 me.dh, .int .i64 me.kem] 24 (0, 0)) :: L)) := Lib.hid (SF.setMid (A := [_, _, _]) hS2 5 (.int .i64 d1))
      have cc := cells_of hc
      simp only [CellsAt, Nat.zero_add, Nat.reduceAdd] at cc
      clear hc hS2 hS hF
      refine ⟨_, HS.out, ?_⟩
      simp only [putAll, Act.put, List.setIfInBounds_toArray, List.set_cons_succ, List.set_cons_zero, e17, e8]
      unfold Oper.wp
      go_simp
    · refine cstep_pure (by decide) rfl rfl ?_
      intro i v x hS hF hB
      simp only [putAll, Act.put, List.setIfInBounds_toArray, List.set_cons_succ, List.set_cons_zero]
      go_big_quiet_step (fail)
      exact wpQuiet_nil rfl
    · refine cstep_sto 5 rfl rfl rfl ?_
      intro v x hS hF
      have e19 : v 19 = .pointer (some ⟨W.heap.size + 1 + 1 + 1 + 1 + 1, 6, none⟩) := hF 19 _ (by decide) rfl
      have e10 : v 10 = .string ⟨m.offer.toArray⟩ := hF 10 _ (by decide) rfl
      have hS2 : SF S w0 x p s15 ((t, talkC p c15.1) :: (w2.heap.size, .cells #[.int .i64 1, .int .u64 (m.v 1), .int .u64 0, .string ⟨m.offer.toArray⟩, .int .i64 0, .int .i64 0, .int .i64 e2, .int .i64 k4, .int .i64 b8.2, .int .i64 c10.2, .int .i64 c15.2, .int .u64 0, .int .u64 0] 34 (0, 0)) :: (W.heap.size + 1 + 1 + 1 + 1 + 1 + 1, .cells #[.int .i64 0] 39 (0, 0)) :: (W.heap.size + 1 + 1 + 1 + 1 + 1, .cells #[.int .i64 c15.1.ck, .int .i64 c15.1.k, .int .i64 c15.1.h, .int .u64 c15.1.n, .int .i64 d0, .int .i64 d1, .string ⟨#[]⟩] 38 (0, 0)) :: (W.heap.size + 1 + 1 + 1 + 1, .cells #[.int .i64 1, .int .u64 (m.v 1), .int .u64 0, .string ⟨m.offer.toArray⟩, .int .i64 0, .int .i64 0, .int .i64 e2, .int .i64 k4, .int .i64 b8.2, .int .i64 c10.2, .int .i64 c15.2, .int .u64 0, .int .u64 0] 34 (0, 0)) :: (W.heap.size + 1 + 1 + 1, .cells #[.int .i64 d0, .int .i64 d1, .int .i64 d2] 42 (0, 0)) :: (W.heap.size + 1 + 1, .cells #[.int .i64 (m.v 0), .int .u64 (m.v 1), .int .u64 (m.v 2), .string ⟨m.offer.toArray⟩, .int .i64 0, .int .i64 (m.v 5), .int .i64 (m.v 6), .int .i64 (m.v 7), .int .i64 (m.v 8), .int .i64 (m.v 9), .int .i64 (m.v 10), .int .u64 (m.v 11), .int .u64 (m.v 12)] 34 (0, 0)) :: (W.heap.size + 1, .cells #[.int .i64 pr.pub.dh, .int .i64 pr.pub.kem, .int .i64 pr.p0, .int .i64 pr.p1] 28 (0, 0)) :: (W.heap.size, .cells #[.int .i64 me.dh, .int .i64 me.kem] 24 (0, 0)) :: L) := hS
      have hc := hS2.get 3 rfl
      have HS : Hid (SF S w0 _ p s15 ((t, talkC p c15.1) :: (w2.heap.size, .cells #[.int .i64 1, .int .u64 (m.v 1), .int .u64 0, .string ⟨m.offer.toArray⟩, .int .i64 0, .int .i64 0, .int .i64 e2, .int .i64 k4, .int .i64 b8.2, .int .i64 c10.2, .int .i64 c15.2, .int .u64 0, .int .u64 0] 34 (0, 0)) :: (W.heap.size + 1 + 1 + 1 + 1 + 1 + 1, .cells #[.int .i64 0] 39 (0, 0)) :: (W.heap.size + 1 + 1 + 1 + 1 + 1, .cells #[.int .i64 c15.1.ck, .int .i64 c15.1.k, .int .i64 c15.1.h, .int .u64 c15.1.n, .int .i64 d0, .int .i64 d1, .string ⟨m.offer.toArray⟩] 38 (0, 0)) :: (W.heap.size + 1 + 1 + 1 + 1, .cells #[.int .i64 1, .int .u64 (m.v 1), .int .u64 0, .string ⟨m.offer.toArray⟩, .int .i64 0, .int .i64 0, .int .i64 e2, .int .i64 k4, .int .i64 b8.2, .int .i64 c10.2, .int .i64 c15.2, .int .u64 0, .int .u64 0] 34 (0, 0)) :: (W.heap.size + 1 + 1 + 1, .cells #[.int .i64 d0, .int .i64 d1, .int .i64 d2] 42 (0, 0)) :: (W.heap.size + 1 + 1, .cells #[.int .i64 (m.v 0), .int .u64 (m.v 1), .int .u64 (m.v 2), .string ⟨m.offer.toArray⟩, .int .i64 0, .int .i64 (m.v 5), .int .i64 (m.v 6), .int .i64 (m.v 7), .int .i64 (m.v 8), .int .i64 (m.v 9), .int .i64 (m.v 10), .int .u64 (m.v 11), .int .u64 (m.v 12)] 34 (0, 0)) :: (W.heap.size + 1, .cells #[.int .i64 pr.pub.dh, .int .i64 pr.pub.kem, .int .i64 pr.p0, .int .i64 pr.p1] 28 (0, 0)) :: (W.heap.size, .cells #[.int .i64 me.dh, .int .i64 me.kem] 24 (0, 0)) :: L)) := Lib.hid (SF.setMid (A := [_, _, _]) hS2 6 (.string ⟨m.offer.toArray⟩))
      have cc := cells_of hc
      simp only [CellsAt, Nat.zero_add, Nat.reduceAdd] at cc
      clear hc hS2 hS hF
      refine ⟨_, HS.out, ?_⟩
      simp only [putAll, Act.put, List.setIfInBounds_toArray, List.set_cons_succ, List.set_cons_zero, e19, e10]
      unfold Oper.wp
      go_simp
    · refine cstep_sto 6 rfl rfl rfl ?_
      intro v x hS hF
      have hS2 : SF S w0 x p s15 ((t, talkC p c15.1) :: (w2.heap.size, .cells #[.int .i64 1, .int .u64 (m.v 1), .int .u64 0, .string ⟨m.offer.toArray⟩, .int .i64 0, .int .i64 0, .int .i64 e2, .int .i64 k4, .int .i64 b8.2, .int .i64 c10.2, .int .i64 c15.2, .int .u64 0, .int .u64 0] 34 (0, 0)) :: (W.heap.size + 1 + 1 + 1 + 1 + 1 + 1, .cells #[.int .i64 0] 39 (0, 0)) :: (W.heap.size + 1 + 1 + 1 + 1 + 1, .cells #[.int .i64 c15.1.ck, .int .i64 c15.1.k, .int .i64 c15.1.h, .int .u64 c15.1.n, .int .i64 d0, .int .i64 d1, .string ⟨m.offer.toArray⟩] 38 (0, 0)) :: (W.heap.size + 1 + 1 + 1 + 1, .cells #[.int .i64 1, .int .u64 (m.v 1), .int .u64 0, .string ⟨m.offer.toArray⟩, .int .i64 0, .int .i64 0, .int .i64 e2, .int .i64 k4, .int .i64 b8.2, .int .i64 c10.2, .int .i64 c15.2, .int .u64 0, .int .u64 0] 34 (0, 0)) :: (W.heap.size + 1 + 1 + 1, .cells #[.int .i64 d0, .int .i64 d1, .int .i64 d2] 42 (0, 0)) :: (W.heap.size + 1 + 1, .cells #[.int .i64 (m.v 0), .int .u64 (m.v 1), .int .u64 (m.v 2), .string ⟨m.offer.toArray⟩, .int .i64 0, .int .i64 (m.v 5), .int .i64 (m.v 6), .int .i64 (m.v 7), .int .i64 (m.v 8), .int .i64 (m.v 9), .int .i64 (m.v 10), .int .u64 (m.v 11), .int .u64 (m.v 12)] 34 (0, 0)) :: (W.heap.size + 1, .cells #[.int .i64 pr.pub.dh, .int .i64 pr.pub.kem, .int .i64 pr.p0, .int .i64 pr.p1] 28 (0, 0)) :: (W.heap.size, .cells #[.int .i64 me.dh, .int .i64 me.kem] 24 (0, 0)) :: L) := hS
      have hc := hS2.get 2 rfl
      have HS : Hid (SF S w0 _ p s15 ((t, talkC p c15.1) :: (w2.heap.size, .cells #[.int .i64 1, .int .u64 (m.v 1), .int .u64 0, .string ⟨m.offer.toArray⟩, .int .i64 0, .int .i64 0, .int .i64 e2, .int .i64 k4, .int .i64 b8.2, .int .i64 c10.2, .int .i64 c15.2, .int .u64 0, .int .u64 0] 34 (0, 0)) :: (W.heap.size + 1 + 1 + 1 + 1 + 1 + 1, .cells #[.int .i64 0] 39 (0, 0)) :: (W.heap.size + 1 + 1 + 1 + 1 + 1, .cells #[.int .i64 c15.1.ck, .int .i64 c15.1.k, .int .i64 c15.1.h, .int .u64 c15.1.n, .int .i64 d0, .int .i64 d1, .string ⟨m.offer.toArray⟩] 38 (0, 0)) :: (W.heap.size + 1 + 1 + 1 + 1, .cells #[.int .i64 1, .int .u64 (m.v 1), .int .u64 0, .string ⟨m.offer.toArray⟩, .int .i64 0, .int .i64 0, .int .i64 e2, .int .i64 k4, .int .i64 b8.2, .int .i64 c10.2, .int .i64 c15.2, .int .u64 0, .int .u64 0] 34 (0, 0)) :: (W.heap.size + 1 + 1 + 1, .cells #[.int .i64 d0, .int .i64 d1, .int .i64 d2] 42 (0, 0)) :: (W.heap.size + 1 + 1, .cells #[.int .i64 (m.v 0), .int .u64 (m.v 1), .int .u64 (m.v 2), .string ⟨m.offer.toArray⟩, .int .i64 0, .int .i64 (m.v 5), .int .i64 (m.v 6), .int .i64 (m.v 7), .int .i64 (m.v 8), .int .i64 (m.v 9), .int .i64 (m.v 10), .int .u64 (m.v 11), .int .u64 (m.v 12)] 34 (0, 0)) :: (W.heap.size + 1, .cells #[.int .i64 pr.pub.dh, .int .i64 pr.pub.kem, .int .i64 pr.p0, .int .i64 pr.p1] 28 (0, 0)) :: (W.heap.size, .cells #[.int .i64 me.dh, .int .i64 me.kem] 24 (0, 0)) :: L)) := Lib.hid (SF.setMid (A := [_, _]) hS2 0 (.int .i64 0))
      have cc := cells_of hc
      simp only [CellsAt, Nat.zero_add, Nat.reduceAdd] at cc
      clear hc hS2 hS hF
      refine ⟨_, HS.out, ?_⟩
      simp only [putAll, Act.put, List.setIfInBounds_toArray, List.set_cons_succ, List.set_cons_zero]
      unfold Oper.wp
      go_simp
  · intro v x hF hS
    have F20 := Lib.hid (hS.later ((Below.refl _ _).alloc (Nat.le_refl _) (.cells #[.int .i64 0] 120)))
    clear hS hF
    simp only [putAll, Act.put, List.setIfInBounds_toArray, List.set_cons_succ, List.set_cons_zero]
    go_wp2_with fail
    refine door_ret rfl ?_
    have g0 := F20.out.get 2 rfl
    have g1 := F20.out.get 3 rfl
    have g2 := F20.out.get 4 rfl
    have hR := HR16.out
    simp only [if_true, Sough.bnd] at hR
    rw [← hR]
    refine ⟨.tuple #[.agg #[.int .i64 1, .int .u64 (m.v 1), .int .u64 0, .string ⟨m.offer.toArray⟩, .int .i64 0, .int .i64 0, .int .i64 e2, .int .i64 k4, .int .i64 b8.2, .int .i64 c10.2, .int .i64 c15.2, .int .u64 0, .int .u64 0], .agg #[.int .i64 c15.1.ck, .int .i64 c15.1.k, .int .i64 c15.1.h, .int .u64 c15.1.n, .int .i64 d0, .int .i64 d1, .string ⟨m.offer.toArray⟩], .int .i64 0], ?_, ?_, F20.out.sub (by repeat (first | with_reducible exact List.Sublist.refl _ | with_reducible refine List.Sublist.cons_cons _ ?_ | refine List.Sublist.cons _ ?_))⟩
    · simp [results, Try.results12, go_sem, World.cell?, g0, g1, g2, pnS, mmS]
    · rw [HC.out]; rfl
end Go.Proofs.Ytlfgempjjoclbaa
namespace Go.Proofs.Ytlfgempjjoclbaa
open Go.RowKit Go.Maps Go.ChangeMaps
def sesnC (q : Sough.Sesn) : Array Value := #[.int .i64 q.h, .int .i64 q.send, .int .i64 q.recv, .int .i64 q.version]
def AnswerTo (S : List Nat) (w0 : World) (p : Nat) (L : List (Nat × Obj)) (r : Sough.Res (Sough.Msg × Sough.Sesn)) (e : Ending) (w' : World) : Prop := match r with
  | (s, .ok z) => e = .returned (.tuple #[.agg (msgC z.1), .agg (sesnC z.2), .int .i64 0]) ∧ SF S w0 w' p s L
  | (s, .error er) => e = .returned (.tuple #[.agg #[.int .i64 0, .int .u64 0, .int .u64 0, .string ⟨#[]⟩, .int .i64 0, .int .i64 0, .int .i64 0, .int .i64 0, .int .i64 0, .int .i64 0, .int .i64 0, .int .u64 0, .int .u64 0], .agg #[.int .i64 0, .int .i64 0, .int .i64 0, .int .i64 0], .int .i64 er]) ∧ SF S w0 w' p s L
set_option maxRecDepth 100000 in
theorem answer_bad {S : List Nat} {w0 q : World} {p E Pn M er : Nat} {s : Sough.Store} {L L' : List (Nat × Obj)} {tmps : Array Value} {R : Sough.Res (Sough.Msg × Sough.Sesn)} (h12 : tmps[10]? = some (.pointer (some ⟨M, 0, none⟩))) (h13 : tmps[11]? = some (.pointer (some ⟨Pn, 0, none⟩))) (h14 : tmps[12]? = some (.pointer (some ⟨E, 0, none⟩)))
    (g : SF S w0 q p s L') (hs : ((E, .cells #[.int .i64 0] 39 (0, 0)) :: (Pn, .cells #[.int .i64 0, .int .i64 0, .int .i64 0, .int .i64 0] 49 (0, 0)) :: (M, .cells #[.int .i64 0, .int .u64 0, .int .u64 0, .string ⟨#[]⟩, .int .i64 0, .int .i64 0, .int .i64 0, .int .i64 0, .int .i64 0, .int .i64 0, .int .i64 0, .int .u64 0, .int .u64 0] 34 (0, 0)) :: L).Sublist L') (hR : (s, .error er) = R) :
    Leaves Try.prog Try.f14 tmps (AnswerTo S w0 p L R) [{ target := .fn (.func 26) #[], args := #[.pointer (some ⟨E, 0, none⟩)] }] (.panicking (wrongP er)) q := by
  have F5 := g.sub hs
  have hc := F5.get 0 rfl
  refine door_panic rfl (old := .int .i64 0) (by simp [World.cell?, hc]) (by simp [World.frozen?, hc]) ?_
  have F7 := (F5.later ((Below.refl _ _).alloc (Nat.le_refl _) (.cells #[.int .i64 er] 120))).set 0 (.int .i64 er)
  have g0 := F7.get 0 rfl
  have g1 := F7.get 1 rfl
  have g2 := F7.get 2 rfl
  rw [← hR]
  refine ⟨.tuple #[.agg #[.int .i64 0, .int .u64 0, .int .u64 0, .string ⟨#[]⟩, .int .i64 0, .int .i64 0, .int .i64 0, .int .i64 0, .int .i64 0, .int .i64 0, .int .i64 0, .int .u64 0, .int .u64 0], .agg #[.int .i64 0, .int .i64 0, .int .i64 0, .int .i64 0], .int .i64 er], ?_, rfl, ?_⟩
  · simp [results, Try.results14, go_sem, World.cell?, g0, g1, g2, h12, h13, h14]
  · exact F7.sub ((List.sublist_cons_self _ _).trans ((List.sublist_cons_self _ _).trans (List.sublist_cons_self _ _)))
theorem respM_cells (f t e b c1 : Int) : msgC (Sough.respM f t e b c1) = #[.int .i64 2, .int .u64 f, .int .u64 t, .string ⟨#[]⟩, .int .i64 0, .int .i64 0, .int .i64 e, .int .i64 0, .int .i64 b, .int .i64 c1, .int .i64 0, .int .u64 0, .int .u64 0] := by
  simp [msgC, Sough.respM]
theorem respM_wf {f t e b c1 : Int} (hf : 0 ≤ f ∧ f ≤ 18446744073709551615) (ht : 0 ≤ t ∧ t ≤ 18446744073709551615) (he : Sough.Int64 e) (hb : Sough.Int64 b) (h1 : Sough.Int64 c1) : (Sough.respM f t e b c1).Wf := by
  refine ⟨fun c hc => ?_, fun c hc => ?_, by simp [Sough.respM]⟩
  · simp only [List.mem_cons, List.not_mem_nil, or_false] at hc
    rcases hc with rfl | rfl | rfl | rfl | rfl | rfl | rfl | rfl <;> simp [Sough.respM] <;> first | exact he | exact hb | exact h1 | skip
  · simp only [List.mem_cons, List.not_mem_nil, or_false] at hc
    rcases hc with rfl | rfl | rfl | rfl <;> simp [Sough.respM] <;> first | exact hf | exact ht | skip
def ssS (h a b v : Int) : Nat → Array Value
  | 0 => #[.int .i64 0, .int .i64 0, .int .i64 0, .int .i64 0]
  | 1 => #[.int .i64 0, .int .i64 0, .int .i64 0, .int .i64 0]
  | 2 => #[.int .i64 0, .int .i64 0, .int .i64 0, .int .i64 0]
  | 3 => #[.int .i64 h, .int .i64 0, .int .i64 0, .int .i64 0]
  | 4 => #[.int .i64 h, .int .i64 a, .int .i64 0, .int .i64 0]
  | 5 => #[.int .i64 h, .int .i64 a, .int .i64 b, .int .i64 0]
  | _ + 6 => #[.int .i64 h, .int .i64 a, .int .i64 b, .int .i64 v]
set_option maxRecDepth 100000 in
set_option maxHeartbeats 6400000 in
theorem answer_any {S : List Nat} {w0 W : World} {p : Nat} {st : Sough.Store} {L : List (Nat × Obj)} {o : Sough.Opened} {frm to : Int} {d0 d1 : Int} {R : Sough.Res (Sough.Msg × Sough.Sesn)} (h : SF S w0 W p st L) (hy : o.y.Wf) (ho : Sough.Int64 o.version ∧ Sough.Int64 o.e ∧ Sough.Int64 o.ek ∧ Sough.Int64 o.pub) (hft : (0 ≤ frm ∧ frm ≤ 18446744073709551615) ∧ (0 ≤ to ∧ to ≤ 18446744073709551615)) (hd : Sough.Int64 d0 ∧ Sough.Int64 d1) (hf : Sough.answerT st o frm to d0 d1 = R) :
    Calls Try.prog 14 #[.pointer (some ⟨p, 0, none⟩), .agg #[.int .i64 o.y.ck, .int .i64 o.y.k, .int .i64 o.y.h, .int .u64 o.y.n, .int .i64 o.peer, .int .i64 o.version, .int .u64 o.stamp, .int .i64 o.e, .int .i64 o.ek, .int .i64 o.pub], .int .u64 frm, .int .u64 to, .agg #[.int .i64 d0, .int .i64 d1]] W (AnswerTo S w0 p L R) := by
  have HY1 := Lib.hid hy; have HO := Lib.hid ho; have HFT := Lib.hid hft; have HD := Lib.hid hd
  have HR1 := Lib.hid hf
  unfold Sough.answerT at HR1
  have hconv := conv1 (UInt8.ofNat (o.version % 256).toNat) (o.version % 256) (by rw [Sough.u8_of _ (by omega)]; omega)
  have hconv2 : ∀ (w : World) (a : Addr) (v : Value), (convert 60 9 (.slice (some ⟨w.heap.size, 0, none⟩) 1 1)).run Try.prog ((w.setCell a v).alloc (.cells #[.int .u8 (o.version % 256)] 5)) = .ok (.string ⟨[UInt8.ofNat (o.version % 256).toNat].toArray⟩) ((w.setCell a v).alloc (.cells #[.int .u8 (o.version % 256)] 5)) := fun w a v => by have := hconv (w.setCell a v); rwa [size_setCell] at this
  have F1 := Lib.hid ((((((((h.alloc (.cells #[.int .i64 o.y.ck, .int .i64 o.y.k, .int .i64 o.y.h, .int .u64 o.y.n, .int .i64 o.peer, .int .i64 o.version, .int .u64 o.stamp, .int .i64 o.e, .int .i64 o.ek, .int .i64 o.pub] 44)).alloc (.cells #[.int .i64 d0, .int .i64 d1] 26)).alloc (.cells #[.int .i64 0, .int .u64 0, .int .u64 0, .string ⟨#[]⟩, .int .i64 0, .int .i64 0, .int .i64 0, .int .i64 0, .int .i64 0, .int .i64 0, .int .i64 0, .int .u64 0, .int .u64 0] 34)).alloc (.cells #[.int .i64 0, .int .i64 0, .int .i64 0, .int .i64 0] 49)).alloc (.cells #[.int .i64 0] 39)).alloc (talkC p o.y)).alloc (.cells #[.int .i64 2, .int .u64 frm, .int .u64 to, .string ⟨#[]⟩, .int .i64 0, .int .i64 0, .int .i64 0, .int .i64 0, .int .i64 0, .int .i64 0, .int .i64 0, .int .u64 0, .int .u64 0] 34)).perm (List.Perm.swap _ _ _))
  simp only [World.size_alloc] at F1
  clear h hy ho hft hd hf
  have r := F1.out.mem.rules; simp only [AllCells, CellsAt, Nat.zero_add, Nat.reduceAdd, talkC] at r
  go_enter_defers Try.func14, Try.ntmps14
  go_wp2_with fail
  clear r
  have HO1 := Lib.hid F1.out.ok
  obtain ⟨s2, r2, h2⟩ : ∃ s r, Sough.publicT st d0 = (s, r) := ⟨_, _, rfl⟩
  rcases r2 with er | e2
  · have hq := HR1.out; simp only [h2, Sough.bnd] at hq
    refine (publicT_er F1.out HD.out.1 h2).mono ?_
    rintro e w3 ⟨rfl, _, g⟩
    exact answer_bad rfl rfl rfl g (by repeat (first | with_reducible exact List.Sublist.refl _ | with_reducible refine List.Sublist.cons_cons _ ?_ | refine List.Sublist.cons _ ?_)) hq
  have hq := HR1.out; simp only [h2, Sough.bnd] at hq
  have HR2 := Lib.hid hq
  clear hq HR1
  have Hh2 := Lib.hid h2
  refine (publicT_ok F1.out HD.out.1 h2).mono ?_
  rintro e w3 ⟨rfl, g⟩
  have F2 := Lib.hid g
  clear g h2 F1
  have r := F2.out.mem.rules; simp only [AllCells, CellsAt, Nat.zero_add, Nat.reduceAdd, talkC] at r
  go_wp2_with fail
  clear r
  have F2s : Hid (SF S w0 (w3.setCell ⟨W.heap.size + 1 + 1 + 1 + 1 + 1 + 1, 6, none⟩ (.int .i64 e2)) p s2 ((W.heap.size + 1 + 1 + 1 + 1 + 1, talkC p (o.y)) :: (W.heap.size + 1 + 1 + 1 + 1 + 1 + 1, .cells #[.int .i64 2, .int .u64 frm, .int .u64 to, .string ⟨#[]⟩, .int .i64 0, .int .i64 0, .int .i64 e2, .int .i64 0, .int .i64 0, .int .i64 0, .int .i64 0, .int .u64 0, .int .u64 0] 34 (0, 0)) :: _)) := Lib.hid (F2.out.setMid (A := [_]) 6 (.int .i64 e2))
  clear F2
  have HE2 := Lib.hid (Sough.publicT_name HO1.out Hh2.out)
  have HO2 := Lib.hid F2s.out.ok
  obtain ⟨s3, r3, h3⟩ : ∃ s r, Sough.hashT s2 o.y e2 = (s, r) := ⟨_, _, rfl⟩
  rcases r3 with er | y3
  · have hq := HR2.out; simp only [h3, Sough.bnd] at hq
    refine (hashT_er F2s.out HY1.out HE2.out h3).mono ?_
    rintro e w4 ⟨rfl, _, g⟩
    exact answer_bad rfl rfl rfl g (by repeat (first | with_reducible exact List.Sublist.refl _ | with_reducible refine List.Sublist.cons_cons _ ?_ | refine List.Sublist.cons _ ?_)) hq
  have hq := HR2.out; simp only [h3, Sough.bnd] at hq
  have HR3 := Lib.hid hq
  clear hq HR2
  have Hh3 := Lib.hid h3
  refine (hashT_ok F2s.out HY1.out HE2.out h3).mono ?_
  rintro e w4 ⟨rfl, g⟩
  have F3 := Lib.hid g
  clear g h3 F2s
  have r := F3.out.mem.rules; simp only [AllCells, CellsAt, Nat.zero_add, Nat.reduceAdd, talkC] at r
  go_wp2_with fail
  clear r
  have HY3 := Lib.hid (Sough.hashT_wf HO2.out HY1.out Hh3.out)
  have HO3 := Lib.hid F3.out.ok
  obtain ⟨s4, r4, h4⟩ : ∃ s r, Sough.agreedT s3 d0 o.e = (s, r) := ⟨_, _, rfl⟩
  rcases r4 with er | x4
  · have hq := HR3.out; simp only [h4, Sough.bnd] at hq
    refine (agreedT_er F3.out HD.out.1 h4).mono ?_
    rintro e w5 ⟨rfl, _, g⟩
    exact answer_bad rfl rfl rfl g (by repeat (first | with_reducible exact List.Sublist.refl _ | with_reducible refine List.Sublist.cons_cons _ ?_ | refine List.Sublist.cons _ ?_)) hq
  have hq := HR3.out; simp only [h4, Sough.bnd] at hq
  have HR4 := Lib.hid hq
  clear hq HR3
  have Hh4 := Lib.hid h4
  refine (agreedT_ok F3.out HD.out.1 h4).mono ?_
  rintro e w5 ⟨rfl, g⟩
  have F4 := Lib.hid g
  clear g h4 F3
  have r := F4.out.mem.rules; simp only [AllCells, CellsAt, Nat.zero_add, Nat.reduceAdd, talkC] at r
  go_wp2_with fail
  clear r
  have HX4 := Lib.hid (Sough.agreedT_name HO3.out Hh4.out)
  have HO4 := Lib.hid F4.out.ok
  obtain ⟨s5, r5, h5⟩ : ∃ s r, Sough.mixT s4 y3 x4 = (s, r) := ⟨_, _, rfl⟩
  rcases r5 with er | y5
  · have hq := HR4.out; simp only [h5, Sough.bnd] at hq
    refine (mixT_er F4.out HY3.out HX4.out h5).mono ?_
    rintro e w6 ⟨rfl, _, g⟩
    exact answer_bad rfl rfl rfl g (by repeat (first | with_reducible exact List.Sublist.refl _ | with_reducible refine List.Sublist.cons_cons _ ?_ | refine List.Sublist.cons _ ?_)) hq
  have hq := HR4.out; simp only [h5, Sough.bnd] at hq
  have HR5 := Lib.hid hq
  clear hq HR4
  have Hh5 := Lib.hid h5
  refine (mixT_ok F4.out HY3.out HX4.out h5).mono ?_
  rintro e w6 ⟨rfl, g⟩
  have F5 := Lib.hid g
  clear g h5 F4
  have r := F5.out.mem.rules; simp only [AllCells, CellsAt, Nat.zero_add, Nat.reduceAdd, talkC] at r
  go_wp2_with fail
  clear r
  have HY5 := Lib.hid (Sough.mixT_wf HO4.out HY3.out HX4.out Hh5.out)
  have HO5 := Lib.hid F5.out.ok
  obtain ⟨s6, r6, h6⟩ : ∃ s r, Sough.agreedT s5 d0 o.pub = (s, r) := ⟨_, _, rfl⟩
  rcases r6 with er | x6
  · have hq := HR5.out; simp only [h6, Sough.bnd] at hq
    refine (agreedT_er F5.out HD.out.1 h6).mono ?_
    rintro e w7 ⟨rfl, _, g⟩
    exact answer_bad rfl rfl rfl g (by repeat (first | with_reducible exact List.Sublist.refl _ | with_reducible refine List.Sublist.cons_cons _ ?_ | refine List.Sublist.cons _ ?_)) hq
  have hq := HR5.out; simp only [h6, Sough.bnd] at hq
  have HR6 := Lib.hid hq
  clear hq HR5
  have Hh6 := Lib.hid h6
  refine (agreedT_ok F5.out HD.out.1 h6).mono ?_
  rintro e w7 ⟨rfl, g⟩
  have F6 := Lib.hid g
  clear g h6 F5
  have r := F6.out.mem.rules; simp only [AllCells, CellsAt, Nat.zero_add, Nat.reduceAdd, talkC] at r
  go_wp2_with fail
  clear r
  have HX6 := Lib.hid (Sough.agreedT_name HO5.out Hh6.out)
  have HO6 := Lib.hid F6.out.ok
  obtain ⟨s7, r7, h7⟩ : ∃ s r, Sough.mixT s6 y5 x6 = (s, r) := ⟨_, _, rfl⟩
  rcases r7 with er | y7
  · have hq := HR6.out; simp only [h7, Sough.bnd] at hq
    refine (mixT_er F6.out HY5.out HX6.out h7).mono ?_
    rintro e w8 ⟨rfl, _, g⟩
    exact answer_bad rfl rfl rfl g (by repeat (first | with_reducible exact List.Sublist.refl _ | with_reducible refine List.Sublist.cons_cons _ ?_ | refine List.Sublist.cons _ ?_)) hq
  have hq := HR6.out; simp only [h7, Sough.bnd] at hq
  have HR7 := Lib.hid hq
  clear hq HR6
  have Hh7 := Lib.hid h7
  refine (mixT_ok F6.out HY5.out HX6.out h7).mono ?_
  rintro e w8 ⟨rfl, g⟩
  have F7 := Lib.hid g
  clear g h7 F6
  have r := F7.out.mem.rules; simp only [AllCells, CellsAt, Nat.zero_add, Nat.reduceAdd, talkC] at r
  go_wp2_with fail
  clear r
  have HY7 := Lib.hid (Sough.mixT_wf HO6.out HY5.out HX6.out Hh7.out)
  have HO7 := Lib.hid F7.out.ok
  obtain ⟨s8, r8, h8⟩ : ∃ s r, Sough.wrapT s7 y7 o.ek d1 = (s, r) := ⟨_, _, rfl⟩
  rcases r8 with er | b8
  · have hq := HR7.out; simp only [h8, Sough.bnd] at hq
    refine (wrapT_er F7.out HY7.out HD.out.2 h8).mono ?_
    rintro e w9 ⟨rfl, _, g⟩
    exact answer_bad rfl rfl rfl g (by repeat (first | with_reducible exact List.Sublist.refl _ | with_reducible refine List.Sublist.cons_cons _ ?_ | refine List.Sublist.cons _ ?_)) hq
  have hq := HR7.out; simp only [h8, Sough.bnd] at hq
  have HR8 := Lib.hid hq
  clear hq HR7
  have Hh8 := Lib.hid h8
  refine (wrapT_ok F7.out HY7.out HD.out.2 h8).mono ?_
  rintro e w9 ⟨rfl, g⟩
  have F8 := Lib.hid g
  clear g h8 F7
  have r := F8.out.mem.rules; simp only [AllCells, CellsAt, Nat.zero_add, Nat.reduceAdd, talkC] at r
  go_wp2_with fail
  clear r
  have HB8 := Lib.hid (wrapT_name HO7.out HD.out.2 HY7.out Hh8.out)
  have F8s : Hid (SF S w0 (w9.setCell ⟨W.heap.size + 1 + 1 + 1 + 1 + 1 + 1, 8, none⟩ (.int .i64 b8.2)) p s8 ((W.heap.size + 1 + 1 + 1 + 1 + 1, talkC p (b8.1)) :: (W.heap.size + 1 + 1 + 1 + 1 + 1 + 1, .cells #[.int .i64 2, .int .u64 frm, .int .u64 to, .string ⟨#[]⟩, .int .i64 0, .int .i64 0, .int .i64 e2, .int .i64 0, .int .i64 b8.2, .int .i64 0, .int .i64 0, .int .u64 0, .int .u64 0] 34 (0, 0)) :: _)) := Lib.hid (F8.out.setMid (A := [_]) 8 (.int .i64 b8.2))
  clear F8
  have F8t := Lib.hid (F8s.out.later ((Below.refl _ _).alloc (Nat.le_refl _) (.cells #[.int .u8 (o.version % 256)] 5)))
  clear F8s
  have HO8 := Lib.hid F8t.out.ok
  obtain ⟨s9, r9, h9⟩ : ∃ s r, Sough.textT s8 [UInt8.ofNat (o.version % 256).toNat] = (s, r) := ⟨_, _, rfl⟩
  rcases r9 with er | x9
  · have hq := HR8.out; simp only [h9, Sough.bnd] at hq
    refine (textT_er F8t.out (by simp) h9).mono ?_
    rintro e w10 ⟨rfl, _, g⟩
    exact answer_bad rfl rfl rfl g (by repeat (first | with_reducible exact List.Sublist.refl _ | with_reducible refine List.Sublist.cons_cons _ ?_ | refine List.Sublist.cons _ ?_)) hq
  have hq := HR8.out; simp only [h9, Sough.bnd] at hq
  have HR9 := Lib.hid hq
  clear hq HR8
  have Hh9 := Lib.hid h9
  refine (textT_ok F8t.out (by simp) h9).mono ?_
  rintro e w10 ⟨rfl, g⟩
  have F9 := Lib.hid g
  clear g h9 F8t
  have r := F9.out.mem.rules; simp only [AllCells, CellsAt, Nat.zero_add, Nat.reduceAdd, talkC] at r
  go_wp2_with fail
  clear r
  have HX9 := Lib.hid (Sough.textT_name HO8.out Hh9.out)
  have HO9 := Lib.hid F9.out.ok
  obtain ⟨s10, r10, h10⟩ : ∃ s r, Sough.sealT s9 b8.1 x9 = (s, r) := ⟨_, _, rfl⟩
  rcases r10 with er | c10
  · have hq := HR9.out; simp only [h10, Sough.bnd] at hq
    refine (sealT_er F9.out HB8.out.2 HX9.out h10).mono ?_
    rintro e w11 ⟨rfl, _, g⟩
    exact answer_bad rfl rfl rfl g (by repeat (first | with_reducible exact List.Sublist.refl _ | with_reducible refine List.Sublist.cons_cons _ ?_ | refine List.Sublist.cons _ ?_)) hq
  have hq := HR9.out; simp only [h10, Sough.bnd] at hq
  have HR10 := Lib.hid hq
  clear hq HR9
  have Hh10 := Lib.hid h10
  refine (sealT_ok F9.out HB8.out.2 HX9.out h10).mono ?_
  rintro e w11 ⟨rfl, g⟩
  have F10 := Lib.hid g
  clear g h10 F9
  have r := F10.out.mem.rules; simp only [AllCells, CellsAt, Nat.zero_add, Nat.reduceAdd, talkC] at r
  go_wp2_with fail
  clear r
  have HY10 := Lib.hid (Sough.sealT_wf HO9.out HB8.out.2 HX9.out Hh10.out)
  have F10s : Hid (SF S w0 (w11.setCell ⟨W.heap.size + 1 + 1 + 1 + 1 + 1 + 1, 9, none⟩ (.int .i64 c10.2)) p s10 ((W.heap.size + 1 + 1 + 1 + 1 + 1, talkC p (c10.1)) :: (W.heap.size + 1 + 1 + 1 + 1 + 1 + 1, .cells #[.int .i64 2, .int .u64 frm, .int .u64 to, .string ⟨#[]⟩, .int .i64 0, .int .i64 0, .int .i64 e2, .int .i64 0, .int .i64 b8.2, .int .i64 c10.2, .int .i64 0, .int .u64 0, .int .u64 0] 34 (0, 0)) :: _)) := Lib.hid (F10.out.setMid (A := [_]) 9 (.int .i64 c10.2))
  clear F10
  have HO10 := Lib.hid F10s.out.ok
  obtain ⟨s11, r11, h11⟩ : ∃ s r, Sough.splitT s10 c10.1 = (s, r) := ⟨_, _, rfl⟩
  rcases r11 with er | ab
  · have hq := HR10.out; simp only [h11, Sough.bnd] at hq
    refine (splitT_er F10s.out HY10.out h11).mono ?_
    rintro e w12 ⟨rfl, _, g⟩
    exact answer_bad rfl rfl rfl g (by repeat (first | with_reducible exact List.Sublist.refl _ | with_reducible refine List.Sublist.cons_cons _ ?_ | refine List.Sublist.cons _ ?_)) hq
  have hq := HR10.out; simp only [h11, Sough.bnd] at hq
  have HR11 := Lib.hid hq
  clear hq HR10
  have Hh11 := Lib.hid h11
  refine (splitT_ok F10s.out HY10.out h11).mono ?_
  rintro e w12 ⟨rfl, g⟩
  have F11 := Lib.hid g
  clear g h11 F10s
  have r := F11.out.mem.rules; simp only [AllCells, CellsAt, Nat.zero_add, Nat.reduceAdd, talkC] at r
  go_wp2_with fail
  clear r
  have HC := Lib.hid (respM_cells frm to e2 b8.2 c10.2)
  have HWF := Lib.hid (respM_wf HFT.out.1 HFT.out.2 HE2.out HB8.out.1 (Sough.sealT_name HO9.out Hh10.out))
  obtain ⟨x, hx⟩ : ∃ x, x = Sough.respM frm to e2 b8.2 c10.2 := ⟨_, rfl⟩
  have HX := Lib.hid hx
  rw [← hx] at HC HWF HR11
  clear hx
  obtain ⟨rb, hrb⟩ : ∃ b, x.right = b := ⟨_, rfl⟩
  have CR := right_as hrb
  rw [HC.out] at CR
  have hq := HR11.out
  simp only [Sough.need, hrb] at hq
  have HR16 := Lib.hid hq
  clear hq hrb HR11
  refine (CR _ HWF.out).mono ?_
  rintro e w18 ⟨rfl, hb18⟩
  have F17 := Lib.hid (F11.out.later hb18)
  clear hb18 F11 CR
  go_wp2_with fail
  cases rb
  · refine (need_er (er := 3) (by omega) _).mono ?_
    rintro e w19 ⟨rfl, rfl⟩
    exact answer_bad rfl rfl rfl F17.out (by repeat (first | with_reducible exact List.Sublist.refl _ | with_reducible refine List.Sublist.cons_cons _ ?_ | refine List.Sublist.cons _ ?_)) (by simpa [Sough.bnd] using HR16.out)
  refine (need_ok _).mono ?_
  rintro e w19 ⟨rfl, rfl⟩
  go_wp2_with fail
  refine wp_chain (n := 89) [10, 11, 13, 15, 17, 19, 20] (fun k => match k with
      | 0 => some (.agg #[.int .i64 2, .int .u64 frm, .int .u64 to, .string ⟨#[]⟩, .int .i64 0, .int .i64 0, .int .i64 e2, .int .i64 0, .int .i64 b8.2, .int .i64 c10.2, .int .i64 0, .int .u64 0, .int .u64 0])
      | 1 => some (.pointer (some ⟨W.heap.size + 1 + 1 + 1 + 1 + 1, 0, none⟩))
      | 2 => some (.pointer (some ⟨W.heap.size + 1 + 1 + 1 + 1 + 1, 0, none⟩))
      | 3 => some (.pointer (some ⟨W.heap.size + 1 + 1 + 1 + 1 + 1, 1, none⟩))
      | 4 => some (.pointer (some ⟨W.heap.size + 1 + 1 + 1 + 1 + 1, 3, none⟩))
      | 5 => some (.int .i64 c10.1.h)
      | 6 => some (.int .i64 ab.2)
      | 7 => some (.int .i64 ab.1)
      | 8 => some (.pointer (some ⟨W.heap.size, 5, none⟩))
      | 9 => some (.int .i64 o.version)
      | 12 => some (.pointer (some ⟨W.heap.size + 1 + 1 + 1, 0, none⟩))
      | 14 => some (.pointer (some ⟨W.heap.size + 1 + 1 + 1, 1, none⟩))
      | 16 => some (.pointer (some ⟨W.heap.size + 1 + 1 + 1, 2, none⟩))
      | 18 => some (.pointer (some ⟨W.heap.size + 1 + 1 + 1, 3, none⟩))
      | _ => none) (fun i x => SF S w0 x p s11 ((W.heap.size + 1 + 1 + 1 + 1 + 1, talkC p c10.1) :: (W.heap.size + 1 + 1 + 1 + 1 + 1 + 1, .cells #[.int .i64 2, .int .u64 frm, .int .u64 to, .string ⟨#[]⟩, .int .i64 0, .int .i64 0, .int .i64 e2, .int .i64 0, .int .i64 b8.2, .int .i64 c10.2, .int .i64 0, .int .u64 0, .int .u64 0] 34 (0, 0)) :: (W.heap.size + 1 + 1 + 1 + 1, .cells #[.int .i64 0] 39 (0, 0)) :: (W.heap.size + 1 + 1 + 1, .cells (ssS c10.1.h ab.2 ab.1 o.version i) 49 (0, 0)) :: (W.heap.size + 1 + 1, .cells (mmS #[.int .i64 2, .int .u64 frm, .int .u64 to, .string ⟨#[]⟩, .int .i64 0, .int .i64 0, .int .i64 e2, .int .i64 0, .int .i64 b8.2, .int .i64 c10.2, .int .i64 0, .int .u64 0, .int .u64 0] i) 34 (0, 0)) :: (W.heap.size + 1, .cells #[.int .i64 d0, .int .i64 d1] 26 (0, 0)) :: (W.heap.size, .cells #[.int .i64 o.y.ck, .int .i64 o.y.k, .int .i64 o.y.h, .int .u64 o.y.n, .int .i64 o.peer, .int .i64 o.version, .int .u64 o.stamp, .int .i64 o.e, .int .i64 o.ek, .int .i64 o.pub] 44 (0, 0)) :: L)) (by kernel_rfl) (by kernel_rfl) (by kernel_rfl) ?_ ?_ ?_ ?_
  · exact F17.out.later (Below.refl _ _).drew
  · exact fun i x y h hb => h.later hb
  · refine ⟨?_, ?_, ?_, ?_, ?_, ?_, ?_, ?_, ?_, ?_, ?_, ?_, ?_, ?_, ?_, ?_, ?_, ?_, ?_, ?_, ?_, trivial⟩
    · refine cstep_pure (by decide) rfl rfl ?_
      intro i v x hS hF hB
      have yy := SF.rulesOf hS
      simp only [AllCells, CellsAt, Nat.zero_add, Nat.reduceAdd, talkC] at yy
      simp only [putAll, Act.put, List.setIfInBounds_toArray, List.set_cons_succ, List.set_cons_zero]
      go_big_quiet_step (fail)
      exact wpQuiet_nil rfl
    · refine cstep_pure (by decide) rfl rfl ?_
      intro i v x hS hF hB
      simp only [putAll, Act.put, List.setIfInBounds_toArray, List.set_cons_succ, List.set_cons_zero]
      go_big_quiet_step (fail)
      exact wpQuiet_nil rfl
    · refine cstep_pure (by decide) rfl rfl ?_
      intro i v x hS hF hB
      have e1 : v 1 = .pointer (some ⟨W.heap.size + 1 + 1 + 1 + 1 + 1, 0, none⟩) := hF 1 _ (by decide) rfl
      simp only [putAll, Act.put, List.setIfInBounds_toArray, List.set_cons_succ, List.set_cons_zero, e1]
      go_big_quiet_step (fail)
      exact wpQuiet_nil rfl
    · refine cstep_pure (by decide) rfl rfl ?_
      intro i v x hS hF hB
      have e2 : v 2 = .pointer (some ⟨W.heap.size + 1 + 1 + 1 + 1 + 1, 0, none⟩) := hF 2 _ (by decide) rfl
      simp only [putAll, Act.put, List.setIfInBounds_toArray, List.set_cons_succ, List.set_cons_zero, e2]
      go_big_quiet_step (fail)
      exact wpQuiet_nil rfl
    · refine cstep_pure (by decide) rfl rfl ?_
      intro i v x hS hF hB
      have e3 : v 3 = .pointer (some ⟨W.heap.size + 1 + 1 + 1 + 1 + 1, 1, none⟩) := hF 3 _ (by decide) rfl
      simp only [putAll, Act.put, List.setIfInBounds_toArray, List.set_cons_succ, List.set_cons_zero, e3]
      go_big_quiet_step (fail)
      exact wpQuiet_nil rfl
    · refine cstep_pure (by decide) rfl rfl ?_
      intro i v x hS hF hB
      have e4 : v 4 = .pointer (some ⟨W.heap.size + 1 + 1 + 1 + 1 + 1, 3, none⟩) := hF 4 _ (by decide) rfl
      have yy := SF.rulesOf hS
      simp only [AllCells, CellsAt, Nat.zero_add, Nat.reduceAdd, talkC] at yy
      simp only [putAll, Act.put, List.setIfInBounds_toArray, List.set_cons_succ, List.set_cons_zero, e4]
      go_big_quiet_step (fail)
      exact wpQuiet_nil rfl
    · refine cstep_pure (by decide) rfl rfl ?_
      intro i v x hS hF hB
      simp only [putAll, Act.put, List.setIfInBounds_toArray, List.set_cons_succ, List.set_cons_zero]
      go_big_quiet_step (fail)
      exact wpQuiet_nil rfl
    · refine cstep_pure (by decide) rfl rfl ?_
      intro i v x hS hF hB
      simp only [putAll, Act.put, List.setIfInBounds_toArray, List.set_cons_succ, List.set_cons_zero]
      go_big_quiet_step (fail)
      exact wpQuiet_nil rfl
    · refine cstep_pure (by decide) rfl rfl ?_
      intro i v x hS hF hB
      simp only [putAll, Act.put, List.setIfInBounds_toArray, List.set_cons_succ, List.set_cons_zero]
      go_big_quiet_step (fail)
      exact wpQuiet_nil rfl
    · refine cstep_pure (by decide) rfl rfl ?_
      intro i v x hS hF hB
      have e8 : v 8 = .pointer (some ⟨W.heap.size, 5, none⟩) := hF 8 _ (by decide) rfl
      have yy := SF.rulesOf hS
      simp only [AllCells, CellsAt, Nat.zero_add, Nat.reduceAdd, talkC] at yy
      simp only [putAll, Act.put, List.setIfInBounds_toArray, List.set_cons_succ, List.set_cons_zero, e8]
      go_big_quiet_step (fail)
      exact wpQuiet_nil rfl
    · refine cstep_sto 0 rfl rfl rfl ?_
      intro v x hS hF
      have e0 : v 0 = .agg #[.int .i64 2, .int .u64 frm, .int .u64 to, .string ⟨#[]⟩, .int .i64 0, .int .i64 0, .int .i64 e2, .int .i64 0, .int .i64 b8.2, .int .i64 c10.2, .int .i64 0, .int .u64 0, .int .u64 0] := hF 0 _ (by decide) rfl
      have hS2 : SF S w0 x p s11 ((W.heap.size + 1 + 1 + 1 + 1 + 1, talkC p c10.1) :: (W.heap.size + 1 + 1 + 1 + 1 + 1 + 1, .cells #[.int .i64 2, .int .u64 frm, .int .u64 to, .string ⟨#[]⟩, .int .i64 0, .int .i64 0, .int .i64 e2, .int .i64 0, .int .i64 b8.2, .int .i64 c10.2, .int .i64 0, .int .u64 0, .int .u64 0] 34 (0, 0)) :: (W.heap.size + 1 + 1 + 1 + 1, .cells #[.int .i64 0] 39 (0, 0)) :: (W.heap.size + 1 + 1 + 1, .cells #[.int .i64 0, .int .i64 0, .int .i64 0, .int .i64 0] 49 (0, 0)) :: (W.heap.size + 1 + 1, .cells #[.int .i64 0, .int .u64 0, .int .u64 0, .string ⟨#[]⟩, .int .i64 0, .int .i64 0, .int .i64 0, .int .i64 0, .int .i64 0, .int .i64 0, .int .i64 0, .int .u64 0, .int .u64 0] 34 (0, 0)) :: (W.heap.size + 1, .cells #[.int .i64 d0, .int .i64 d1] 26 (0, 0)) :: (W.heap.size, .cells #[.int .i64 o.y.ck, .int .i64 o.y.k, .int .i64 o.y.h, .int .u64 o.y.n, .int .i64 o.peer, .int .i64 o.version, .int .u64 o.stamp, .int .i64 o.e, .int .i64 o.ek, .int .i64 o.pub] 44 (0, 0)) :: L) := hS
      have hc := hS2.get 4 rfl
      have HS : Hid (SF S w0 _ p s11 ((W.heap.size + 1 + 1 + 1 + 1 + 1, talkC p c10.1) :: (W.heap.size + 1 + 1 + 1 + 1 + 1 + 1, .cells #[.int .i64 2, .int .u64 frm, .int .u64 to, .string ⟨#[]⟩, .int .i64 0, .int .i64 0, .int .i64 e2, .int .i64 0, .int .i64 b8.2, .int .i64 c10.2, .int .i64 0, .int .u64 0, .int .u64 0] 34 (0, 0)) :: (W.heap.size + 1 + 1 + 1 + 1, .cells #[.int .i64 0] 39 (0, 0)) :: (W.heap.size + 1 + 1 + 1, .cells #[.int .i64 0, .int .i64 0, .int .i64 0, .int .i64 0] 49 (0, 0)) :: (W.heap.size + 1 + 1, .cells #[.int .i64 2, .int .u64 frm, .int .u64 to, .string ⟨#[]⟩, .int .i64 0, .int .i64 0, .int .i64 e2, .int .i64 0, .int .i64 b8.2, .int .i64 c10.2, .int .i64 0, .int .u64 0, .int .u64 0] 34 (0, 0)) :: (W.heap.size + 1, .cells #[.int .i64 d0, .int .i64 d1] 26 (0, 0)) :: (W.heap.size, .cells #[.int .i64 o.y.ck, .int .i64 o.y.k, .int .i64 o.y.h, .int .u64 o.y.n, .int .i64 o.peer, .int .i64 o.version, .int .u64 o.stamp, .int .i64 o.e, .int .i64 o.ek, .int .i64 o.pub] 44 (0, 0)) :: L)) := Lib.hid (SF.m13 (A := [_, _, _, _]) hS2 (.int .i64 2) (.int .u64 frm) (.int .u64 to) (.string ⟨#[]⟩) (.int .i64 0) (.int .i64 0) (.int .i64 e2) (.int .i64 0) (.int .i64 b8.2) (.int .i64 c10.2) (.int .i64 0) (.int .u64 0) (.int .u64 0))
      have cc := cells_of hc
      simp only [CellsAt, Nat.zero_add, Nat.reduceAdd] at cc
      clear hc hS2 hS hF
      refine ⟨_, HS.out, ?_⟩
      simp only [putAll, Act.put, List.setIfInBounds_toArray, List.set_cons_succ, List.set_cons_zero, e0]
      unfold Oper.wp
      go_simp
    · refine cstep_sto 1 rfl rfl rfl ?_
      intro v x hS hF
      have hS2 : SF S w0 x p s11 ((W.heap.size + 1 + 1 + 1 + 1 + 1, talkC p c10.1) :: (W.heap.size + 1 + 1 + 1 + 1 + 1 + 1, .cells #[.int .i64 2, .int .u64 frm, .int .u64 to, .string ⟨#[]⟩, .int .i64 0, .int .i64 0, .int .i64 e2, .int .i64 0, .int .i64 b8.2, .int .i64 c10.2, .int .i64 0, .int .u64 0, .int .u64 0] 34 (0, 0)) :: (W.heap.size + 1 + 1 + 1 + 1, .cells #[.int .i64 0] 39 (0, 0)) :: (W.heap.size + 1 + 1 + 1, .cells #[.int .i64 0, .int .i64 0, .int .i64 0, .int .i64 0] 49 (0, 0)) :: (W.heap.size + 1 + 1, .cells #[.int .i64 2, .int .u64 frm, .int .u64 to, .string ⟨#[]⟩, .int .i64 0, .int .i64 0, .int .i64 e2, .int .i64 0, .int .i64 b8.2, .int .i64 c10.2, .int .i64 0, .int .u64 0, .int .u64 0] 34 (0, 0)) :: (W.heap.size + 1, .cells #[.int .i64 d0, .int .i64 d1] 26 (0, 0)) :: (W.heap.size, .cells #[.int .i64 o.y.ck, .int .i64 o.y.k, .int .i64 o.y.h, .int .u64 o.y.n, .int .i64 o.peer, .int .i64 o.version, .int .u64 o.stamp, .int .i64 o.e, .int .i64 o.ek, .int .i64 o.pub] 44 (0, 0)) :: L) := hS
      have hc := hS2.get 3 rfl
      have HS : Hid (SF S w0 _ p s11 ((W.heap.size + 1 + 1 + 1 + 1 + 1, talkC p c10.1) :: (W.heap.size + 1 + 1 + 1 + 1 + 1 + 1, .cells #[.int .i64 2, .int .u64 frm, .int .u64 to, .string ⟨#[]⟩, .int .i64 0, .int .i64 0, .int .i64 e2, .int .i64 0, .int .i64 b8.2, .int .i64 c10.2, .int .i64 0, .int .u64 0, .int .u64 0] 34 (0, 0)) :: (W.heap.size + 1 + 1 + 1 + 1, .cells #[.int .i64 0] 39 (0, 0)) :: (W.heap.size + 1 + 1 + 1, .cells #[.int .i64 0, .int .i64 0, .int .i64 0, .int .i64 0] 49 (0, 0)) :: (W.heap.size + 1 + 1, .cells #[.int .i64 2, .int .u64 frm, .int .u64 to, .string ⟨#[]⟩, .int .i64 0, .int .i64 0, .int .i64 e2, .int .i64 0, .int .i64 b8.2, .int .i64 c10.2, .int .i64 0, .int .u64 0, .int .u64 0] 34 (0, 0)) :: (W.heap.size + 1, .cells #[.int .i64 d0, .int .i64 d1] 26 (0, 0)) :: (W.heap.size, .cells #[.int .i64 o.y.ck, .int .i64 o.y.k, .int .i64 o.y.h, .int .u64 o.y.n, .int .i64 o.peer, .int .i64 o.version, .int .u64 o.stamp, .int .i64 o.e, .int .i64 o.ek, .int .i64 o.pub] 44 (0, 0)) :: L)) := Lib.hid (SF.setMid (A := [_, _, _]) (SF.setMid (A := [_, _, _]) (SF.setMid (A := [_, _, _]) (SF.setMid (A := [_, _, _]) hS2 0 (.int .i64 0)) 1 (.int .i64 0)) 2 (.int .i64 0)) 3 (.int .i64 0))
      have cc := cells_of hc
      simp only [CellsAt, Nat.zero_add, Nat.reduceAdd] at cc
      clear hc hS2 hS hF
      refine ⟨_, HS.out, ?_⟩
      simp only [putAll, Act.put, List.setIfInBounds_toArray, List.set_cons_succ, List.set_cons_zero]
      unfold Oper.wp
      go_simp
    · refine cstep_pure (by decide) rfl rfl ?_
      intro i v x hS hF hB
      simp only [putAll, Act.put, List.setIfInBounds_toArray, List.set_cons_succ, List.set_cons_zero]
      go_big_quiet_step (fail)
      exact wpQuiet_nil rfl
    · refine cstep_sto 2 rfl rfl rfl ?_
      intro v x hS hF
      have e12 : v 12 = .pointer (some ⟨W.heap.size + 1 + 1 + 1, 0, none⟩) := hF 12 _ (by decide) rfl
      have e5 : v 5 = .int .i64 c10.1.h := hF 5 _ (by decide) rfl
      have hS2 : SF S w0 x p s11 ((W.heap.size + 1 + 1 + 1 + 1 + 1, talkC p c10.1) :: (W.heap.size + 1 + 1 + 1 + 1 + 1 + 1, .cells #[.int .i64 2, .int .u64 frm, .int .u64 to, .string ⟨#[]⟩, .int .i64 0, .int .i64 0, .int .i64 e2, .int .i64 0, .int .i64 b8.2, .int .i64 c10.2, .int .i64 0, .int .u64 0, .int .u64 0] 34 (0, 0)) :: (W.heap.size + 1 + 1 + 1 + 1, .cells #[.int .i64 0] 39 (0, 0)) :: (W.heap.size + 1 + 1 + 1, .cells #[.int .i64 0, .int .i64 0, .int .i64 0, .int .i64 0] 49 (0, 0)) :: (W.heap.size + 1 + 1, .cells #[.int .i64 2, .int .u64 frm, .int .u64 to, .string ⟨#[]⟩, .int .i64 0, .int .i64 0, .int .i64 e2, .int .i64 0, .int .i64 b8.2, .int .i64 c10.2, .int .i64 0, .int .u64 0, .int .u64 0] 34 (0, 0)) :: (W.heap.size + 1, .cells #[.int .i64 d0, .int .i64 d1] 26 (0, 0)) :: (W.heap.size, .cells #[.int .i64 o.y.ck, .int .i64 o.y.k, .int .i64 o.y.h, .int .u64 o.y.n, .int .i64 o.peer, .int .i64 o.version, .int .u64 o.stamp, .int .i64 o.e, .int .i64 o.ek, .int .i64 o.pub] 44 (0, 0)) :: L) := hS
      have hc := hS2.get 3 rfl
      have HS : Hid (SF S w0 _ p s11 ((W.heap.size + 1 + 1 + 1 + 1 + 1, talkC p c10.1) :: (W.heap.size + 1 + 1 + 1 + 1 + 1 + 1, .cells #[.int .i64 2, .int .u64 frm, .int .u64 to, .string ⟨#[]⟩, .int .i64 0, .int .i64 0, .int .i64 e2, .int .i64 0, .int .i64 b8.2, .int .i64 c10.2, .int .i64 0, .int .u64 0, .int .u64 0] 34 (0, 0)) :: (W.heap.size + 1 + 1 + 1 + 1, .cells #[.int .i64 0] 39 (0, 0)) :: (W.heap.size + 1 + 1 + 1, .cells #[.int .i64 c10.1.h, .int .i64 0, .int .i64 0, .int .i64 0] 49 (0, 0)) :: (W.heap.size + 1 + 1, .cells #[.int .i64 2, .int .u64 frm, .int .u64 to, .string ⟨#[]⟩, .int .i64 0, .int .i64 0, .int .i64 e2, .int .i64 0, .int .i64 b8.2, .int .i64 c10.2, .int .i64 0, .int .u64 0, .int .u64 0] 34 (0, 0)) :: (W.heap.size + 1, .cells #[.int .i64 d0, .int .i64 d1] 26 (0, 0)) :: (W.heap.size, .cells #[.int .i64 o.y.ck, .int .i64 o.y.k, .int .i64 o.y.h, .int .u64 o.y.n, .int .i64 o.peer, .int .i64 o.version, .int .u64 o.stamp, .int .i64 o.e, .int .i64 o.ek, .int .i64 o.pub] 44 (0, 0)) :: L)) := Lib.hid (SF.setMid (A := [_, _, _]) hS2 0 (.int .i64 c10.1.h))
      have cc := cells_of hc
      simp only [CellsAt, Nat.zero_add, Nat.reduceAdd] at cc
      clear hc hS2 hS hF
      refine ⟨_, HS.out, ?_⟩
      simp only [putAll, Act.put, List.setIfInBounds_toArray, List.set_cons_succ, List.set_cons_zero, e12, e5]
      unfold Oper.wp
      go_simp
    · refine cstep_pure (by decide) rfl rfl ?_
      intro i v x hS hF hB
      simp only [putAll, Act.put, List.setIfInBounds_toArray, List.set_cons_succ, List.set_cons_zero]
      go_big_quiet_step (fail)
      exact wpQuiet_nil rfl
    · refine cstep_sto 3 rfl rfl rfl ?_
      intro v x hS hF
      have e14 : v 14 = .pointer (some ⟨W.heap.size + 1 + 1 + 1, 1, none⟩) := hF 14 _ (by decide) rfl
      have e6 : v 6 = .int .i64 ab.2 := hF 6 _ (by decide) rfl
      have hS2 : SF S w0 x p s11 ((W.heap.size + 1 + 1 + 1 + 1 + 1, talkC p c10.1) :: (W.heap.size + 1 + 1 + 1 + 1 + 1 + 1, .cells #[.int .i64 2, .int .u64 frm, .int .u64 to, .string ⟨#[]⟩, .int .i64 0, .int .i64 0, .int .i64 e2, .int .i64 0, .int .i64 b8.2, .int .i64 c10.2, .int .i64 0, .int .u64 0, .int .u64 0] 34 (0, 0)) :: (W.heap.size + 1 + 1 + 1 + 1, .cells #[.int .i64 0] 39 (0, 0)) :: (W.heap.size + 1 + 1 + 1, .cells #[.int .i64 c10.1.h, .int .i64 0, .int .i64 0, .int .i64 0] 49 (0, 0)) :: (W.heap.size + 1 + 1, .cells #[.int .i64 2, .int .u64 frm, .int .u64 to, .string ⟨#[]⟩, .int .i64 0, .int .i64 0, .int .i64 e2, .int .i64 0, .int .i64 b8.2, .int .i64 c10.2, .int .i64 0, .int .u64 0, .int .u64 0] 34 (0, 0)) :: (W.heap.size + 1, .cells #[.int .i64 d0, .int .i64 d1] 26 (0, 0)) :: (W.heap.size, .cells #[.int .i64 o.y.ck, .int .i64 o.y.k, .int .i64 o.y.h, .int .u64 o.y.n, .int .i64 o.peer, .int .i64 o.version, .int .u64 o.stamp, .int .i64 o.e, .int .i64 o.ek, .int .i64 o.pub] 44 (0, 0)) :: L) := hS
      have hc := hS2.get 3 rfl
      have HS : Hid (SF S w0 _ p s11 ((W.heap.size + 1 + 1 + 1 + 1 + 1, talkC p c10.1) :: (W.heap.size + 1 + 1 + 1 + 1 + 1 + 1, .cells #[.int .i64 2, .int .u64 frm, .int .u64 to, .string ⟨#[]⟩, .int .i64 0, .int .i64 0, .int .i64 e2, .int .i64 0, .int .i64 b8.2, .int .i64 c10.2, .int .i64 0, .int .u64 0, .int .u64 0] 34 (0, 0)) :: (W.heap.size + 1 + 1 + 1 + 1, .cells #[.int .i64 0] 39 (0, 0)) :: (W.heap.size + 1 + 1 + 1, .cells #[.int .i64 c10.1.h, .int .i64 ab.2, .int .i64 0, .int .i64 0] 49 (0, 0)) :: (W.heap.size + 1 + 1, .cells #[.int .i64 2, .int .u64 frm, .int .u64 to, .string ⟨#[]⟩, .int .i64 0, .int .i64 0, .int .i64 e2, .int .i64 0, .int .i64 b8.2, .int .i64 c10.2, .int .i64 0, .int .u64 0, .int .u64 0] 34 (0, 0)) :: (W.heap.size + 1, .cells #[.int .i64 d0, .int .i64 d1] 26 (0, 0)) :: (W.heap.size, .cells #[.int .i64 o.y.ck, .int .i64 o.y.k, .int .i64 o.y.h, .int .u64 o.y.n, .int .i64 o.peer, .int .i64 o.version, .int .u64 o.stamp, .int .i64 o.e, .int .i64 o.ek, .int .i64 o.pub] 44 (0, 0)) :: L)) := Lib.hid (SF.setMid (A := [_, _, _]) hS2 1 (.int .i64 ab.2))
      have cc := cells_of hc
      simp only [CellsAt, Nat.zero_add, Nat.reduceAdd] at cc
      clear hc hS2 hS hF
      refine ⟨_, HS.out, ?_⟩
      simp only [putAll, Act.put, List.setIfInBounds_toArray, List.set_cons_succ, List.set_cons_zero, e14, e6]
      unfold Oper.wp
      go_simp
    · refine cstep_pure (by decide) rfl rfl ?_
      intro i v x hS hF hB
      simp only [putAll, Act.put, List.setIfInBounds_toArray, List.set_cons_succ, List.set_cons_zero]
      go_big_quiet_step (fail)
      exact wpQuiet_nil rfl
    · refine cstep_sto 4 rfl rfl rfl ?_
      intro v x hS hF
      have e16 : v 16 = .pointer (some ⟨W.heap.size + 1 + 1 + 1, 2, none⟩) := hF 16 _ (by decide) rfl
      have e7 : v 7 = .int .i64 ab.1 := hF 7 _ (by decide) rfl
      have hS2 : SF S w0 x p s11 ((W.heap.size + 1 + 1 + 1 + 1 + 1, talkC p c10.1) :: (W.heap.size + 1 + 1 + 1 + 1 + 1 + 1, .cells #[.int .i64 2, .int .u64 frm, .int .u64 to, .string ⟨#[]⟩, .int .i64 0, .int .i64 0, .int .i64 e2, .int .i64 0, .int .i64 b8.2, .int .i64 c10.2, .int .i64 0, .int .u64 0, .int .u64 0] 34 (0, 0)) :: (W.heap.size + 1 + 1 + 1 + 1, .cells #[.int .i64 0] 39 (0, 0)) :: (W.heap.size + 1 + 1 + 1, .cells #[.int .i64 c10.1.h, .int .i64 ab.2, .int .i64 0, .int .i64 0] 49 (0, 0)) :: (W.heap.size + 1 + 1, .cells #[.int .i64 2, .int .u64 frm, .int .u64 to, .string ⟨#[]⟩, .int .i64 0, .int .i64 0, .int .i64 e2, .int .i64 0, .int .i64 b8.2, .int .i64 c10.2, .int .i64 0, .int .u64 0, .int .u64 0] 34 (0, 0)) :: (W.heap.size + 1, .cells #[.int .i64 d0, .int .i64 d1] 26 (0, 0)) :: (W.heap.size, .cells #[.int .i64 o.y.ck, .int .i64 o.y.k, .int .i64 o.y.h, .int .u64 o.y.n, .int .i64 o.peer, .int .i64 o.version, .int .u64 o.stamp, .int .i64 o.e, .int .i64 o.ek, .int .i64 o.pub] 44 (0, 0)) :: L) := hS
      have hc := hS2.get 3 rfl
      have HS : Hid (SF S w0 _ p s11 ((W.heap.size + 1 + 1 + 1 + 1 + 1, talkC p c10.1) :: (W.heap.size + 1 + 1 + 1 + 1 + 1 + 1, .cells #[.int .i64 2, .int .u64 frm, .int .u64 to, .string ⟨#[]⟩, .int .i64 0, .int .i64 0, .int .i64 e2, .int .i64 0, .int .i64 b8.2, .int .i64 c10.2, .int .i64 0, .int .u64 0, .int .u64 0] 34 (0, 0)) :: (W.heap.size + 1 + 1 + 1 + 1, .cells #[.int .i64 0] 39 (0, 0)) :: (W.heap.size + 1 + 1 + 1, .cells #[.int .i64 c10.1.h, .int .i64 ab.2, .int .i64 ab.1, .int .i64 0] 49 (0, 0)) :: (W.heap.size + 1 + 1, .cells #[.int .i64 2, .int .u64 frm, .int .u64 to, .string ⟨#[]⟩, .int .i64 0, .int .i64 0, .int .i64 e2, .int .i64 0, .int .i64 b8.2, .int .i64 c10.2, .int .i64 0, .int .u64 0, .int .u64 0] 34 (0, 0)) :: (W.heap.size + 1, .cells #[.int .i64 d0, .int .i64 d1] 26 (0, 0)) :: (W.heap.size, .cells #[.int .i64 o.y.ck, .int .i64 o.y.k, .int .i64 o.y.h, .int .u64 o.y.n, .int .i64 o.peer, .int .i64 o.version, .int .u64 o.stamp, .int .i64 o.e, .int .i64 o.ek, .int .i64 o.pub] 44 (0, 0)) :: L)) := Lib.hid (SF.setMid (A := [_, _, _]) hS2 2 (.int .i64 ab.1))
      have cc := cells_of hc
      simp only [CellsAt, Nat.zero_add, Nat.reduceAdd] at cc
      clear hc hS2 hS hF
      refine ⟨_, HS.out, ?_⟩
      simp only [putAll, Act.put, List.setIfInBounds_toArray, List.set_cons_succ, List.set_cons_zero, e16, e7]
      unfold Oper.wp
      go_simp
    · refine cstep_pure (by decide) rfl rfl ?_
      intro i v x hS hF hB
      simp only [putAll, Act.put, List.setIfInBounds_toArray, List.set_cons_succ, List.set_cons_zero]
      go_big_quiet_step (fail)
      exact wpQuiet_nil rfl
    · refine cstep_sto 5 rfl rfl rfl ?_
      intro v x hS hF
      have e18 : v 18 = .pointer (some ⟨W.heap.size + 1 + 1 + 1, 3, none⟩) := hF 18 _ (by decide) rfl
      have e9 : v 9 = .int .i64 o.version := hF 9 _ (by decide) rfl
      have hS2 : SF S w0 x p s11 ((W.heap.size + 1 + 1 + 1 + 1 + 1, talkC p c10.1) :: (W.heap.size + 1 + 1 + 1 + 1 + 1 + 1, .cells #[.int .i64 2, .int .u64 frm, .int .u64 to, .string ⟨#[]⟩, .int .i64 0, .int .i64 0, .int .i64 e2, .int .i64 0, .int .i64 b8.2, .int .i64 c10.2, .int .i64 0, .int .u64 0, .int .u64 0] 34 (0, 0)) :: (W.heap.size + 1 + 1 + 1 + 1, .cells #[.int .i64 0] 39 (0, 0)) :: (W.heap.size + 1 + 1 + 1, .cells #[.int .i64 c10.1.h, .int .i64 ab.2, .int .i64 ab.1, .int .i64 0] 49 (0, 0)) :: (W.heap.size + 1 + 1, .cells #[.int .i64 2, .int .u64 frm, .int .u64 to, .string ⟨#[]⟩, .int .i64 0, .int .i64 0, .int .i64 e2, .int .i64 0, .int .i64 b8.2, .int .i64 c10.2, .int .i64 0, .int .u64 0, .int .u64 0] 34 (0, 0)) :: (W.heap.size + 1, .cells #[.int .i64 d0, .int .i64 d1] 26 (0, 0)) :: (W.heap.size, .cells #[.int .i64 o.y.ck, .int .i64 o.y.k, .int .i64 o.y.h, .int .u64 o.y.n, .int .i64 o.peer, .int .i64 o.version, .int .u64 o.stamp, .int .i64 o.e, .int .i64 o.ek, .int .i64 o.pub] 44 (0, 0)) :: L) := hS
      have hc := hS2.get 3 rfl
      have HS : Hid (SF S w0 _ p s11 ((W.heap.size + 1 + 1 + 1 + 1 + 1, talkC p c10.1) :: (W.heap.size + 1 + 1 + 1 + 1 + 1 + 1, .cells #[.int .i64 2, .int .u64 frm, .int .u64 to, .string ⟨#[]⟩, .int .i64 0, .int .i64 0, .int .i64 e2, .int .i64 0, .int .i64 b8.2, .int .i64 c10.2, .int .i64 0, .int .u64 0, .int .u64 0] 34 (0, 0)) :: (W.heap.size + 1 + 1 + 1 + 1, .cells #[.int .i64 0] 39 (0, 0)) :: (W.heap.size + 1 + 1 + 1, .cells #[.int .i64 c10.1.h, .int .i64 ab.2, .int .i64 ab.1, .int .i64 o.version] 49 (0, 0)) :: (W.heap.size + 1 + 1, .cells #[.int .i64 2, .int .u64 frm, .int .u64 to, .string ⟨#[]⟩, .int .i64 0, .int .i64 0, .int .i64 e2, .int .i64 0, .int .i64 b8.2, .int .i64 c10.2, .int .i64 0, .int .u64 0, .int .u64 0] 34 (0, 0)) :: (W.heap.size + 1, .cells #[.int .i64 d0, .int .i64 d1] 26 (0, 0)) :: (W.heap.size, .cells #[.int .i64 o.y.ck, .int .i64 o.y.k, .int .i64 o.y.h, .int .u64 o.y.n, .int .i64 o.peer, .int .i64 o.version, .int .u64 o.stamp, .int .i64 o.e, .int .i64 o.ek, .int .i64 o.pub] 44 (0, 0)) :: L)) := Lib.hid (SF.setMid (A := [_, _, _]) hS2 3 (.int .i64 o.version))
      have cc := cells_of hc
      simp only [CellsAt, Nat.zero_add, Nat.reduceAdd] at cc
      clear hc hS2 hS hF
      refine ⟨_, HS.out, ?_⟩
      simp only [putAll, Act.put, List.setIfInBounds_toArray, List.set_cons_succ, List.set_cons_zero, e18, e9]
      unfold Oper.wp
      go_simp
    · refine cstep_sto 6 rfl rfl rfl ?_
      intro v x hS hF
      have hS2 : SF S w0 x p s11 ((W.heap.size + 1 + 1 + 1 + 1 + 1, talkC p c10.1) :: (W.heap.size + 1 + 1 + 1 + 1 + 1 + 1, .cells #[.int .i64 2, .int .u64 frm, .int .u64 to, .string ⟨#[]⟩, .int .i64 0, .int .i64 0, .int .i64 e2, .int .i64 0, .int .i64 b8.2, .int .i64 c10.2, .int .i64 0, .int .u64 0, .int .u64 0] 34 (0, 0)) :: (W.heap.size + 1 + 1 + 1 + 1, .cells #[.int .i64 0] 39 (0, 0)) :: (W.heap.size + 1 + 1 + 1, .cells #[.int .i64 c10.1.h, .int .i64 ab.2, .int .i64 ab.1, .int .i64 o.version] 49 (0, 0)) :: (W.heap.size + 1 + 1, .cells #[.int .i64 2, .int .u64 frm, .int .u64 to, .string ⟨#[]⟩, .int .i64 0, .int .i64 0, .int .i64 e2, .int .i64 0, .int .i64 b8.2, .int .i64 c10.2, .int .i64 0, .int .u64 0, .int .u64 0] 34 (0, 0)) :: (W.heap.size + 1, .cells #[.int .i64 d0, .int .i64 d1] 26 (0, 0)) :: (W.heap.size, .cells #[.int .i64 o.y.ck, .int .i64 o.y.k, .int .i64 o.y.h, .int .u64 o.y.n, .int .i64 o.peer, .int .i64 o.version, .int .u64 o.stamp, .int .i64 o.e, .int .i64 o.ek, .int .i64 o.pub] 44 (0, 0)) :: L) := hS
      have hc := hS2.get 2 rfl
      have HS : Hid (SF S w0 _ p s11 ((W.heap.size + 1 + 1 + 1 + 1 + 1, talkC p c10.1) :: (W.heap.size + 1 + 1 + 1 + 1 + 1 + 1, .cells #[.int .i64 2, .int .u64 frm, .int .u64 to, .string ⟨#[]⟩, .int .i64 0, .int .i64 0, .int .i64 e2, .int .i64 0, .int .i64 b8.2, .int .i64 c10.2, .int .i64 0, .int .u64 0, .int .u64 0] 34 (0, 0)) :: (W.heap.size + 1 + 1 + 1 + 1, .cells #[.int .i64 0] 39 (0, 0)) :: (W.heap.size + 1 + 1 + 1, .cells #[.int .i64 c10.1.h, .int .i64 ab.2, .int .i64 ab.1, .int .i64 o.version] 49 (0, 0)) :: (W.heap.size + 1 + 1, .cells #[.int .i64 2, .int .u64 frm, .int .u64 to, .string ⟨#[]⟩, .int .i64 0, .int .i64 0, .int .i64 e2, .int .i64 0, .int .i64 b8.2, .int .i64 c10.2, .int .i64 0, .int .u64 0, .int .u64 0] 34 (0, 0)) :: (W.heap.size + 1, .cells #[.int .i64 d0, .int .i64 d1] 26 (0, 0)) :: (W.heap.size, .cells #[.int .i64 o.y.ck, .int .i64 o.y.k, .int .i64 o.y.h, .int .u64 o.y.n, .int .i64 o.peer, .int .i64 o.version, .int .u64 o.stamp, .int .i64 o.e, .int .i64 o.ek, .int .i64 o.pub] 44 (0, 0)) :: L)) := Lib.hid (SF.setMid (A := [_, _]) hS2 0 (.int .i64 0))
      have cc := cells_of hc
      simp only [CellsAt, Nat.zero_add, Nat.reduceAdd] at cc
      clear hc hS2 hS hF
      refine ⟨_, HS.out, ?_⟩
      simp only [putAll, Act.put, List.setIfInBounds_toArray, List.set_cons_succ, List.set_cons_zero]
      unfold Oper.wp
      go_simp
  · intro v x hF hS
    have F20 := Lib.hid (hS.later ((Below.refl _ _).alloc (Nat.le_refl _) (.cells #[.int .i64 0] 120)))
    clear hS hF
    simp only [putAll, Act.put, List.setIfInBounds_toArray, List.set_cons_succ, List.set_cons_zero]
    go_wp2_with fail
    refine door_ret rfl ?_
    have g0 := F20.out.get 2 rfl
    have g1 := F20.out.get 3 rfl
    have g2 := F20.out.get 4 rfl
    have hR := HR16.out
    simp only [if_true, Sough.bnd] at hR
    rw [← hR]
    refine ⟨.tuple #[.agg #[.int .i64 2, .int .u64 frm, .int .u64 to, .string ⟨#[]⟩, .int .i64 0, .int .i64 0, .int .i64 e2, .int .i64 0, .int .i64 b8.2, .int .i64 c10.2, .int .i64 0, .int .u64 0, .int .u64 0], .agg #[.int .i64 c10.1.h, .int .i64 ab.2, .int .i64 ab.1, .int .i64 o.version], .int .i64 0], ?_, ?_, F20.out.sub (by repeat (first | with_reducible exact List.Sublist.refl _ | with_reducible refine List.Sublist.cons_cons _ ?_ | refine List.Sublist.cons _ ?_))⟩
    · simp [results, Try.results14, go_sem, World.cell?, g0, g1, g2, ssS, mmS]
    · rw [HC.out]; rfl
end Go.Proofs.Ytlfgempjjoclbaa
namespace Go.Proofs.Ytlfgempjjoclbaa
open Go.RowKit Go.Maps Go.ChangeMaps
def FinishTo (S : List Nat) (w0 : World) (p : Nat) (L : List (Nat × Obj)) (r : Sough.Res Sough.Sesn) (e : Ending) (w' : World) : Prop := match r with
  | (s, .ok z) => e = .returned (.tuple #[.agg (sesnC z), .int .i64 0]) ∧ SF S w0 w' p s L
  | (s, .error er) => e = .returned (.tuple #[.agg #[.int .i64 0, .int .i64 0, .int .i64 0, .int .i64 0], .int .i64 er]) ∧ SF S w0 w' p s L
set_option maxRecDepth 100000 in
theorem finish_bad {S : List Nat} {w0 q : World} {p E Pn er : Nat} {s : Sough.Store} {L L' : List (Nat × Obj)} {tmps : Array Value} {R : Sough.Res Sough.Sesn} (h13 : tmps[8]? = some (.pointer (some ⟨Pn, 0, none⟩))) (h14 : tmps[9]? = some (.pointer (some ⟨E, 0, none⟩)))
    (g : SF S w0 q p s L') (hs : ((E, .cells #[.int .i64 0] 39 (0, 0)) :: (Pn, .cells #[.int .i64 0, .int .i64 0, .int .i64 0, .int .i64 0] 49 (0, 0)) :: L).Sublist L') (hR : (s, .error er) = R) :
    Leaves Try.prog Try.f16 tmps (FinishTo S w0 p L R) [{ target := .fn (.func 26) #[], args := #[.pointer (some ⟨E, 0, none⟩)] }] (.panicking (wrongP er)) q := by
  have F5 := g.sub hs
  have hc := F5.get 0 rfl
  refine door_panic rfl (old := .int .i64 0) (by simp [World.cell?, hc]) (by simp [World.frozen?, hc]) ?_
  have F7 := (F5.later ((Below.refl _ _).alloc (Nat.le_refl _) (.cells #[.int .i64 er] 120))).set 0 (.int .i64 er)
  have g0 := F7.get 0 rfl
  have g1 := F7.get 1 rfl
  rw [← hR]
  refine ⟨.tuple #[.agg #[.int .i64 0, .int .i64 0, .int .i64 0, .int .i64 0], .int .i64 er], ?_, rfl, ?_⟩
  · simp [results, Try.results16, go_sem, World.cell?, g0, g1, h13, h14]
  · exact F7.sub ((List.sublist_cons_self _ _).trans (List.sublist_cons_self _ _))
def sfS (h a b v : Int) : Nat → Array Value
  | 0 => #[.int .i64 0, .int .i64 0, .int .i64 0, .int .i64 0]
  | 1 => #[.int .i64 0, .int .i64 0, .int .i64 0, .int .i64 0]
  | 2 => #[.int .i64 h, .int .i64 0, .int .i64 0, .int .i64 0]
  | 3 => #[.int .i64 h, .int .i64 a, .int .i64 0, .int .i64 0]
  | 4 => #[.int .i64 h, .int .i64 a, .int .i64 b, .int .i64 0]
  | _ + 5 => #[.int .i64 h, .int .i64 a, .int .i64 b, .int .i64 v]
theorem idx_any {l : List UInt8} {c : UInt8} {k : Int} (hk : k = Lib.indexByte l c) (w : World) : Calls Try.prog 46 #[.string ⟨l.toArray⟩, .int .u8 (c.toNat : Int)] w fun e w' => e = .returned (.int .i64 k) ∧ w = w' := by
  refine (Try.strings_IndexByte ⟨l.toArray⟩ (c.toNat : Int) w).mono ?_
  rintro e w' ⟨rfl, rfl⟩
  refine ⟨?_, rfl⟩
  rw [hk]
  simp
set_option maxRecDepth 100000 in
set_option maxHeartbeats 1600000 in
theorem finish_kind {S : List Nat} {w0 W : World} {p : Nat} {st : Sough.Store} {L : List (Nat × Obj)} {me : Sough.Pair} {pd : Sough.Pending} {m : Sough.Msg} {R : Sough.Res Sough.Sesn} (h : SF S w0 W p st L) (hme : Sough.Int64 me.dh) (hy : pd.y.Wf) (hpd : Sough.Int64 pd.e ∧ Sough.Int64 pd.ek ∧ pd.offer.length ≤ 9223372036854775807) (hm : m.Wf) (hk : (m.v 0 == 2) = false) (hf : Sough.finishT st me pd m = R) :
    Calls Try.prog 16 #[.pointer (some ⟨p, 0, none⟩), .agg #[.int .i64 me.dh, .int .i64 me.kem], .agg #[.int .i64 pd.y.ck, .int .i64 pd.y.k, .int .i64 pd.y.h, .int .u64 pd.y.n, .int .i64 pd.e, .int .i64 pd.ek, .string ⟨pd.offer.toArray⟩], .agg #[.int .i64 (m.v 0), .int .u64 (m.v 1), .int .u64 (m.v 2), .string ⟨m.offer.toArray⟩, .int .i64 (m.v 4), .int .i64 (m.v 5), .int .i64 (m.v 6), .int .i64 (m.v 7), .int .i64 (m.v 8), .int .i64 (m.v 9), .int .i64 (m.v 10), .int .u64 (m.v 11), .int .u64 (m.v 12)]] W (FinishTo S w0 p L R) := by
  have hq : (st, .error 3) = R := by
    rw [← hf]; unfold Sough.finishT Sough.need
    have : ¬ m.v 0 = 2 := by simpa using hk
    simp [this, Sough.bnd]
  have HQ := Lib.hid hq
  have HME := Lib.hid hme; have HY0 := Lib.hid hy; have HPD := Lib.hid hpd; have HM := Lib.hid hm
  have F0 := Lib.hid (((((h.alloc (.cells #[.int .i64 me.dh, .int .i64 me.kem] 24)).alloc (.cells #[.int .i64 pd.y.ck, .int .i64 pd.y.k, .int .i64 pd.y.h, .int .u64 pd.y.n, .int .i64 pd.e, .int .i64 pd.ek, .string ⟨pd.offer.toArray⟩] 38)).alloc (.cells #[.int .i64 (m.v 0), .int .u64 (m.v 1), .int .u64 (m.v 2), .string ⟨m.offer.toArray⟩, .int .i64 (m.v 4), .int .i64 (m.v 5), .int .i64 (m.v 6), .int .i64 (m.v 7), .int .i64 (m.v 8), .int .i64 (m.v 9), .int .i64 (m.v 10), .int .u64 (m.v 11), .int .u64 (m.v 12)] 34)).alloc (.cells #[.int .i64 0, .int .i64 0, .int .i64 0, .int .i64 0] 49)).alloc (.cells #[.int .i64 0] 39))
  simp only [World.size_alloc] at F0
  clear h hme hy hpd hm hf hq
  go_enter_defers Try.func16, Try.ntmps16
  go_wp2_with fail
  refine (need_er (er := 3) (by omega) _).mono ?_
  rintro e w1 ⟨rfl, rfl⟩
  exact finish_bad rfl rfl F0.out (by repeat (first | with_reducible exact List.Sublist.refl _ | with_reducible refine List.Sublist.cons_cons _ ?_ | refine List.Sublist.cons _ ?_)) HQ.out
set_option maxRecDepth 100000 in
set_option maxHeartbeats 1600000 in
theorem finish_right {S : List Nat} {w0 W : World} {p : Nat} {st : Sough.Store} {L : List (Nat × Obj)} {me : Sough.Pair} {pd : Sough.Pending} {m : Sough.Msg} {R : Sough.Res Sough.Sesn} (h : SF S w0 W p st L) (hme : Sough.Int64 me.dh) (hy : pd.y.Wf) (hpd : Sough.Int64 pd.e ∧ Sough.Int64 pd.ek ∧ pd.offer.length ≤ 9223372036854775807) (hm : m.Wf) (hk : (m.v 0 == 2) = true) (hf : Sough.finishT st me pd m = R) :
    Calls Try.prog 16 #[.pointer (some ⟨p, 0, none⟩), .agg #[.int .i64 me.dh, .int .i64 me.kem], .agg #[.int .i64 pd.y.ck, .int .i64 pd.y.k, .int .i64 pd.y.h, .int .u64 pd.y.n, .int .i64 pd.e, .int .i64 pd.ek, .string ⟨pd.offer.toArray⟩], .agg #[.int .i64 (m.v 0), .int .u64 (m.v 1), .int .u64 (m.v 2), .string ⟨m.offer.toArray⟩, .int .i64 (m.v 4), .int .i64 (m.v 5), .int .i64 (m.v 6), .int .i64 (m.v 7), .int .i64 (m.v 8), .int .i64 (m.v 9), .int .i64 (m.v 10), .int .u64 (m.v 11), .int .u64 (m.v 12)]] W (FinishTo S w0 p L R) := by
  have hq := hf
  unfold Sough.finishT at hq
  obtain ⟨rb, hrb⟩ : ∃ b, m.right = b := ⟨_, rfl⟩
  have CR := Lib.hid (right_as hrb)
  simp only [hrb, show decide (m.v 0 = 2) = true by simpa using hk, Bool.true_and, Sough.need] at hq
  have HQ := Lib.hid hq
  have HME := Lib.hid hme; have HY0 := Lib.hid hy; have HPD := Lib.hid hpd; have HM := Lib.hid hm
  have F0 := Lib.hid (((((h.alloc (.cells #[.int .i64 me.dh, .int .i64 me.kem] 24)).alloc (.cells #[.int .i64 pd.y.ck, .int .i64 pd.y.k, .int .i64 pd.y.h, .int .u64 pd.y.n, .int .i64 pd.e, .int .i64 pd.ek, .string ⟨pd.offer.toArray⟩] 38)).alloc (.cells #[.int .i64 (m.v 0), .int .u64 (m.v 1), .int .u64 (m.v 2), .string ⟨m.offer.toArray⟩, .int .i64 (m.v 4), .int .i64 (m.v 5), .int .i64 (m.v 6), .int .i64 (m.v 7), .int .i64 (m.v 8), .int .i64 (m.v 9), .int .i64 (m.v 10), .int .u64 (m.v 11), .int .u64 (m.v 12)] 34)).alloc (.cells #[.int .i64 0, .int .i64 0, .int .i64 0, .int .i64 0] 49)).alloc (.cells #[.int .i64 0] 39))
  simp only [World.size_alloc] at F0
  clear h hme hy hpd hm hf hq hrb
  unfold msgC at CR
  go_enter_defers Try.func16, Try.ntmps16
  go_wp2_with fail
  refine (CR.out _ HM.out).mono ?_
  rintro e w1 ⟨rfl, hb1⟩
  have G0 := Lib.hid (F0.out.later hb1)
  clear hb1 F0
  cases rb
  · go_wp2_with fail
    refine (need_er (er := 3) (by omega) _).mono ?_
    rintro e w2 ⟨rfl, rfl⟩
    exact finish_bad rfl rfl G0.out (by repeat (first | with_reducible exact List.Sublist.refl _ | with_reducible refine List.Sublist.cons_cons _ ?_ | refine List.Sublist.cons _ ?_)) (by simpa [Sough.bnd] using HQ.out)
  have hq := HQ.out
  simp only [if_true, Sough.bnd] at hq
  have HR1 := Lib.hid hq
  clear hq HQ
  go_wp2_with fail
  refine (need_ok _).mono ?_
  rintro e w2 ⟨rfl, rfl⟩
  have F1 := Lib.hid (G0.out.alloc (talkC p pd.y))
  have r0 := G0.out.mem.rules; simp only [AllCells, CellsAt, Nat.zero_add, Nat.reduceAdd, talkC] at r0
  have r := F1.out.mem.rules; simp only [AllCells, CellsAt, Nat.zero_add, Nat.reduceAdd, talkC] at r
  have HE6 := Lib.hid (show Sough.Int64 (m.v 6) from HM.out.ints 6 (by simp))
  have HE8 := Lib.hid (show Sough.Int64 (m.v 8) from HM.out.ints 8 (by simp))
  have HE9 := Lib.hid (show Sough.Int64 (m.v 9) from HM.out.ints 9 (by simp))
  go_wp2_with fail
  clear r r0 G0
  have HO1 := Lib.hid F1.out.ok
  obtain ⟨s2, r2, h2⟩ : ∃ s r, Sough.hashT st pd.y (m.v 6) = (s, r) := ⟨_, _, rfl⟩
  rcases r2 with er | y2
  · have hq := HR1.out; simp only [h2, Sough.bnd] at hq
    refine (hashT_er F1.out HY0.out HE6.out h2).mono ?_
    rintro e w3 ⟨rfl, _, g⟩
    exact finish_bad rfl rfl g (by repeat (first | with_reducible exact List.Sublist.refl _ | with_reducible refine List.Sublist.cons_cons _ ?_ | refine List.Sublist.cons _ ?_)) hq
  have hq := HR1.out; simp only [h2, Sough.bnd] at hq
  have HR2 := Lib.hid hq
  clear hq HR1
  have Hh2 := Lib.hid h2
  refine (hashT_ok F1.out HY0.out HE6.out h2).mono ?_
  rintro e w3 ⟨rfl, g⟩
  have F2 := Lib.hid g
  clear g h2 F1
  have r := F2.out.mem.rules; simp only [AllCells, CellsAt, Nat.zero_add, Nat.reduceAdd, talkC] at r
  go_wp2_with fail
  clear r
  have HY2 := Lib.hid (Sough.hashT_wf HO1.out HY0.out Hh2.out)
  have HO2 := Lib.hid F2.out.ok
  obtain ⟨s3, r3, h3⟩ : ∃ s r, Sough.agreedT s2 pd.e (m.v 6) = (s, r) := ⟨_, _, rfl⟩
  rcases r3 with er | x3
  · have hq := HR2.out; simp only [h3, Sough.bnd] at hq
    refine (agreedT_er F2.out HPD.out.1 h3).mono ?_
    rintro e w4 ⟨rfl, _, g⟩
    exact finish_bad rfl rfl g (by repeat (first | with_reducible exact List.Sublist.refl _ | with_reducible refine List.Sublist.cons_cons _ ?_ | refine List.Sublist.cons _ ?_)) hq
  have hq := HR2.out; simp only [h3, Sough.bnd] at hq
  have HR3 := Lib.hid hq
  clear hq HR2
  have Hh3 := Lib.hid h3
  refine (agreedT_ok F2.out HPD.out.1 h3).mono ?_
  rintro e w4 ⟨rfl, g⟩
  have F3 := Lib.hid g
  clear g h3 F2
  have r := F3.out.mem.rules; simp only [AllCells, CellsAt, Nat.zero_add, Nat.reduceAdd, talkC] at r
  go_wp2_with fail
  clear r
  have HX3 := Lib.hid (Sough.agreedT_name HO2.out Hh3.out)
  have HO3 := Lib.hid F3.out.ok
  obtain ⟨s4, r4, h4⟩ : ∃ s r, Sough.mixT s3 y2 x3 = (s, r) := ⟨_, _, rfl⟩
  rcases r4 with er | y4
  · have hq := HR3.out; simp only [h4, Sough.bnd] at hq
    refine (mixT_er F3.out HY2.out HX3.out h4).mono ?_
    rintro e w5 ⟨rfl, _, g⟩
    exact finish_bad rfl rfl g (by repeat (first | with_reducible exact List.Sublist.refl _ | with_reducible refine List.Sublist.cons_cons _ ?_ | refine List.Sublist.cons _ ?_)) hq
  have hq := HR3.out; simp only [h4, Sough.bnd] at hq
  have HR4 := Lib.hid hq
  clear hq HR3
  have Hh4 := Lib.hid h4
  refine (mixT_ok F3.out HY2.out HX3.out h4).mono ?_
  rintro e w5 ⟨rfl, g⟩
  have F4 := Lib.hid g
  clear g h4 F3
  have r := F4.out.mem.rules; simp only [AllCells, CellsAt, Nat.zero_add, Nat.reduceAdd, talkC] at r
  go_wp2_with fail
  clear r
  have HY4 := Lib.hid (Sough.mixT_wf HO3.out HY2.out HX3.out Hh4.out)
  have HO4 := Lib.hid F4.out.ok
  obtain ⟨s5, r5, h5⟩ : ∃ s r, Sough.agreedT s4 me.dh (m.v 6) = (s, r) := ⟨_, _, rfl⟩
  rcases r5 with er | x5
  · have hq := HR4.out; simp only [h5, Sough.bnd] at hq
    refine (agreedT_er F4.out HME.out h5).mono ?_
    rintro e w6 ⟨rfl, _, g⟩
    exact finish_bad rfl rfl g (by repeat (first | with_reducible exact List.Sublist.refl _ | with_reducible refine List.Sublist.cons_cons _ ?_ | refine List.Sublist.cons _ ?_)) hq
  have hq := HR4.out; simp only [h5, Sough.bnd] at hq
  have HR5 := Lib.hid hq
  clear hq HR4
  have Hh5 := Lib.hid h5
  refine (agreedT_ok F4.out HME.out h5).mono ?_
  rintro e w6 ⟨rfl, g⟩
  have F5 := Lib.hid g
  clear g h5 F4
  have r := F5.out.mem.rules; simp only [AllCells, CellsAt, Nat.zero_add, Nat.reduceAdd, talkC] at r
  go_wp2_with fail
  clear r
  have HX5 := Lib.hid (Sough.agreedT_name HO4.out Hh5.out)
  have HO5 := Lib.hid F5.out.ok
  obtain ⟨s6, r6, h6⟩ : ∃ s r, Sough.mixT s5 y4 x5 = (s, r) := ⟨_, _, rfl⟩
  rcases r6 with er | y6
  · have hq := HR5.out; simp only [h6, Sough.bnd] at hq
    refine (mixT_er F5.out HY4.out HX5.out h6).mono ?_
    rintro e w7 ⟨rfl, _, g⟩
    exact finish_bad rfl rfl g (by repeat (first | with_reducible exact List.Sublist.refl _ | with_reducible refine List.Sublist.cons_cons _ ?_ | refine List.Sublist.cons _ ?_)) hq
  have hq := HR5.out; simp only [h6, Sough.bnd] at hq
  have HR6 := Lib.hid hq
  clear hq HR5
  have Hh6 := Lib.hid h6
  refine (mixT_ok F5.out HY4.out HX5.out h6).mono ?_
  rintro e w7 ⟨rfl, g⟩
  have F6 := Lib.hid g
  clear g h6 F5
  have r := F6.out.mem.rules; simp only [AllCells, CellsAt, Nat.zero_add, Nat.reduceAdd, talkC] at r
  go_wp2_with fail
  clear r
  have HY6 := Lib.hid (Sough.mixT_wf HO5.out HY4.out HX5.out Hh6.out)
  have HO6 := Lib.hid F6.out.ok
  obtain ⟨s7, r7, h7⟩ : ∃ s r, Sough.hashT s6 y6 (m.v 8) = (s, r) := ⟨_, _, rfl⟩
  rcases r7 with er | y7
  · have hq := HR6.out; simp only [h7, Sough.bnd] at hq
    refine (hashT_er F6.out HY6.out HE8.out h7).mono ?_
    rintro e w8 ⟨rfl, _, g⟩
    exact finish_bad rfl rfl g (by repeat (first | with_reducible exact List.Sublist.refl _ | with_reducible refine List.Sublist.cons_cons _ ?_ | refine List.Sublist.cons _ ?_)) hq
  have hq := HR6.out; simp only [h7, Sough.bnd] at hq
  have HR7 := Lib.hid hq
  clear hq HR6
  have Hh7 := Lib.hid h7
  refine (hashT_ok F6.out HY6.out HE8.out h7).mono ?_
  rintro e w8 ⟨rfl, g⟩
  have F7 := Lib.hid g
  clear g h7 F6
  have r := F7.out.mem.rules; simp only [AllCells, CellsAt, Nat.zero_add, Nat.reduceAdd, talkC] at r
  go_wp2_with fail
  clear r
  have HY7 := Lib.hid (Sough.hashT_wf HO6.out HY6.out Hh7.out)
  have HO7 := Lib.hid F7.out.ok
  obtain ⟨s8, r8, h8⟩ : ∃ s r, Sough.unwrappedT s7 pd.ek (m.v 8) = (s, r) := ⟨_, _, rfl⟩
  rcases r8 with er | x8
  · have hq := HR7.out; simp only [h8, Sough.bnd] at hq
    refine (unwrappedT_er F7.out HPD.out.2.1 h8).mono ?_
    rintro e w9 ⟨rfl, _, g⟩
    exact finish_bad rfl rfl g (by repeat (first | with_reducible exact List.Sublist.refl _ | with_reducible refine List.Sublist.cons_cons _ ?_ | refine List.Sublist.cons _ ?_)) hq
  have hq := HR7.out; simp only [h8, Sough.bnd] at hq
  have HR8 := Lib.hid hq
  clear hq HR7
  have Hh8 := Lib.hid h8
  refine (unwrappedT_ok F7.out HPD.out.2.1 h8).mono ?_
  rintro e w9 ⟨rfl, g⟩
  have F8 := Lib.hid g
  clear g h8 F7
  have r := F8.out.mem.rules; simp only [AllCells, CellsAt, Nat.zero_add, Nat.reduceAdd, talkC] at r
  go_wp2_with fail
  clear r
  have HX8 := Lib.hid (Sough.unwrappedT_name HO7.out Hh8.out)
  have HO8 := Lib.hid F8.out.ok
  obtain ⟨s9, r9, h9⟩ : ∃ s r, Sough.mixT s8 y7 x8 = (s, r) := ⟨_, _, rfl⟩
  rcases r9 with er | y9
  · have hq := HR8.out; simp only [h9, Sough.bnd] at hq
    refine (mixT_er F8.out HY7.out HX8.out h9).mono ?_
    rintro e w10 ⟨rfl, _, g⟩
    exact finish_bad rfl rfl g (by repeat (first | with_reducible exact List.Sublist.refl _ | with_reducible refine List.Sublist.cons_cons _ ?_ | refine List.Sublist.cons _ ?_)) hq
  have hq := HR8.out; simp only [h9, Sough.bnd] at hq
  have HR9 := Lib.hid hq
  clear hq HR8
  have Hh9 := Lib.hid h9
  refine (mixT_ok F8.out HY7.out HX8.out h9).mono ?_
  rintro e w10 ⟨rfl, g⟩
  have F9 := Lib.hid g
  clear g h9 F8
  have r := F9.out.mem.rules; simp only [AllCells, CellsAt, Nat.zero_add, Nat.reduceAdd, talkC] at r
  go_wp2_with fail
  clear r
  have HY9 := Lib.hid (Sough.mixT_wf HO8.out HY7.out HX8.out Hh9.out)
  have HO9 := Lib.hid F9.out.ok
  obtain ⟨s10, r10, h10⟩ : ∃ s r, Sough.openT s9 y9 (m.v 9) = (s, r) := ⟨_, _, rfl⟩
  rcases r10 with er | yv
  · have hq := HR9.out; simp only [h10, Sough.bnd] at hq
    refine (openT_er F9.out HY9.out HE9.out h10).mono ?_
    rintro e w11 ⟨rfl, _, g⟩
    exact finish_bad rfl rfl g (by repeat (first | with_reducible exact List.Sublist.refl _ | with_reducible refine List.Sublist.cons_cons _ ?_ | refine List.Sublist.cons _ ?_)) hq
  have hq := HR9.out; simp only [h10, Sough.bnd] at hq
  have HR10 := Lib.hid hq
  clear hq HR9
  have Hh10 := Lib.hid h10
  refine (openT_ok F9.out HY9.out HE9.out h10).mono ?_
  rintro e w11 ⟨rfl, g⟩
  have F10 := Lib.hid g
  clear g h10 F9
  have r := F10.out.mem.rules; simp only [AllCells, CellsAt, Nat.zero_add, Nat.reduceAdd, talkC] at r
  go_wp2_with fail
  clear r
  have HY10 := Lib.hid (Sough.openT_wf HO9.out HY9.out Hh10.out)
  have HO10 := Lib.hid F10.out.ok
  obtain ⟨s11, r11, h11⟩ : ∃ s r, Sough.readT s10 yv.2 = (s, r) := ⟨_, _, rfl⟩
  rcases r11 with er | v
  · have hq := HR10.out; simp only [h11, Sough.bnd] at hq
    refine (readT_er F10.out h11).mono ?_
    rintro e w12 ⟨rfl, _, g⟩
    exact finish_bad rfl rfl g (by repeat (first | with_reducible exact List.Sublist.refl _ | with_reducible refine List.Sublist.cons_cons _ ?_ | refine List.Sublist.cons _ ?_)) hq
  have hq := HR10.out; simp only [h11, Sough.bnd] at hq
  have HR11 := Lib.hid hq
  clear hq HR10
  have Hh11 := Lib.hid h11
  refine (readT_ok F10.out h11).mono ?_
  rintro e w12 ⟨rfl, g⟩
  have F11 := Lib.hid g
  clear g h11 F10
  have r := F11.out.mem.rules; simp only [AllCells, CellsAt, Nat.zero_add, Nat.reduceAdd, talkC] at r
  go_wp2_with fail
  clear r
  have HR12 := HR11
  clear HR11
  by_cases hv : v.length = 1
  rotate_left
  · rw [show ((v.length : Int) == 1) = false by simp; omega]
    refine (need_er (er := 3) (by omega) _).mono ?_
    rintro e w13 ⟨rfl, rfl⟩
    exact finish_bad rfl rfl F11.out (by repeat (first | with_reducible exact List.Sublist.refl _ | with_reducible refine List.Sublist.cons_cons _ ?_ | refine List.Sublist.cons _ ?_)) (by have := HR12.out; simpa [Sough.bnd, hv] using this)
  obtain ⟨c, rfl⟩ := List.length_eq_one_iff.1 hv
  clear hv
  rw [show (((([c] : List UInt8).length : Nat) : Int) == 1) = true from rfl]
  refine (need_ok _).mono ?_
  rintro e w13 ⟨rfl, rfl⟩
  obtain ⟨kx, hk⟩ : ∃ k, k = Lib.indexByte pd.offer c := ⟨_, rfl⟩
  obtain ⟨cb, hcb⟩ : ∃ cb, pd.offer.contains c = cb := ⟨_, rfl⟩
  have hd : decide (0 ≤ kx) = cb := by rw [hk, ← hcb, Lib.contains_iff_indexByte]
  have CI := Lib.hid fun (w : World) => idx_any hk w
  have hq := HR12.out
  simp only [List.length_singleton, decide_true, if_true, Sough.bnd, List.headD_cons, hcb] at hq
  have HR13 := Lib.hid hq
  have HCB := Lib.hid hcb
  have hcw : IntKind.i64.wrap (c.toNat : Int) = (c.toNat : Int) := IntWalk.i64_in _ (by have := c.toNat_lt; omega)
  clear hk hcb hq HR12
  go_wp2_with fail
  cases cb
  · have hz := HR13.out
    refine wp_chain (n := 95) [6] (fun k => match k with
        | 0 => some (.pointer (some ⟨W.heap.size + 1, 6, none⟩))
        | 1 => some (.string ⟨pd.offer.toArray⟩)
        | 2 => some (.string ⟨[c].toArray⟩)
        | 3 => some (.int .u8 (c.toNat : Int))
        | 4 => some (.int .i64 kx)
        | 5 => some (.bool false)
        | _ => none) (fun i x => SF S w0 x p s11 ((w1.heap.size, talkC p yv.1) :: (W.heap.size + 1 + 1 + 1 + 1, .cells #[.int .i64 0] 39 (0, 0)) :: (W.heap.size + 1 + 1 + 1, .cells #[.int .i64 0, .int .i64 0, .int .i64 0, .int .i64 0] 49 (0, 0)) :: (W.heap.size + 1 + 1, .cells #[.int .i64 (m.v 0), .int .u64 (m.v 1), .int .u64 (m.v 2), .string ⟨m.offer.toArray⟩, .int .i64 (m.v 4), .int .i64 (m.v 5), .int .i64 (m.v 6), .int .i64 (m.v 7), .int .i64 (m.v 8), .int .i64 (m.v 9), .int .i64 (m.v 10), .int .u64 (m.v 11), .int .u64 (m.v 12)] 34 (0, 0)) :: (W.heap.size + 1, .cells #[.int .i64 pd.y.ck, .int .i64 pd.y.k, .int .i64 pd.y.h, .int .u64 pd.y.n, .int .i64 pd.e, .int .i64 pd.ek, .string ⟨pd.offer.toArray⟩] 38 (0, 0)) :: (W.heap.size, .cells #[.int .i64 me.dh, .int .i64 me.kem] 24 (0, 0)) :: L) ∧ i = 0) (by kernel_rfl) (by kernel_rfl) (by kernel_rfl) ?_ ?_ ?_ ?_
    · exact ⟨F11.out.later (Below.refl _ _).drew, rfl⟩
    · exact fun i x y h hb => ⟨h.1.later hb, h.2⟩
    · refine ⟨?_, ?_, ?_, ?_, ?_, ?_, ?_, trivial⟩
      · refine cstep_pure (by decide) rfl rfl ?_
        intro i v x hS hF hB
        simp only [putAll, Act.put, List.setIfInBounds_toArray, List.set_cons_succ, List.set_cons_zero]
        go_big_quiet_step (fail)
        exact wpQuiet_nil rfl
      · refine cstep_pure (by decide) rfl rfl ?_
        intro i v x hS hF hB
        have e0 : v 0 = .pointer (some ⟨W.heap.size + 1, 6, none⟩) := hF 0 _ (by decide) rfl
        have yy := SF.rulesOf hS.1
        simp only [AllCells, CellsAt, Nat.zero_add, Nat.reduceAdd, talkC] at yy
        simp only [putAll, Act.put, List.setIfInBounds_toArray, List.set_cons_succ, List.set_cons_zero, e0]
        go_big_quiet_step (fail)
        exact wpQuiet_nil rfl
      · refine cstep_pure (by decide) rfl rfl ?_
        intro i v x hS hF hB
        simp only [putAll, Act.put, List.setIfInBounds_toArray, List.set_cons_succ, List.set_cons_zero]
        go_big_quiet_step (fail)
        exact wpQuiet_nil rfl
      · refine cstep_pure (by decide) rfl rfl ?_
        intro i v x hS hF hB
        have e2 : v 2 = .string ⟨[c].toArray⟩ := hF 2 _ (by decide) rfl
        simp only [putAll, Act.put, List.setIfInBounds_toArray, List.set_cons_succ, List.set_cons_zero, e2]
        go_big_quiet_step (fail)
        exact wpQuiet_nil rfl
      · refine cstep_pure (by decide) rfl rfl ?_
        intro i v x hS hF hB
        have e1 : v 1 = .string ⟨pd.offer.toArray⟩ := hF 1 _ (by decide) rfl
        have e3 : v 3 = .int .u8 (c.toNat : Int) := hF 3 _ (by decide) rfl
        simp only [putAll, Act.put, List.setIfInBounds_toArray, List.set_cons_succ, List.set_cons_zero, e1, e3]
        go_big_quiet_step ((go_at_call 46; exact Calls.later_same (CI.out _)))
        exact wpQuiet_nil rfl
      · refine cstep_pure (by decide) rfl rfl ?_
        intro i v x hS hF hB
        have e4 : v 4 = .int .i64 kx := hF 4 _ (by decide) rfl
        simp only [putAll, Act.put, List.setIfInBounds_toArray, List.set_cons_succ, List.set_cons_zero, e4]
        go_big_quiet_step (fail)
        exact wpQuiet_nil rfl
      · refine cstep_wr 0 rfl rfl ?_
        intro v x hS hF
        have e5 : v 5 = .bool false := hF 5 _ (by decide) rfl
        refine Oper.wp_mono (K := fun _ _ => False) (fun _ _ h => h.elim) ?_
        simp only [putAll, Act.put, List.setIfInBounds_toArray, List.set_cons_succ, List.set_cons_zero, e5]
        unfold Oper.wp
        go_simp
        refine (need_er (er := 11) (by omega) _).mono ?_
        rintro e q ⟨rfl, rfl⟩
        exact finish_bad rfl rfl hS.1 (by repeat (first | with_reducible exact List.Sublist.refl _ | with_reducible refine List.Sublist.cons_cons _ ?_ | refine List.Sublist.cons _ ?_)) (by have := HR13.out; simpa [Sough.bnd] using this)
    · intro v x hF hS
      exact absurd hS.2 (by simp)
  · have hz := HR13.out
    have hq := HR13.out
    simp only [if_true, Sough.bnd] at hq
    have HR14 := Lib.hid hq
    clear hq
    refine wp_chain (n := 95) [6] (fun k => match k with
        | 0 => some (.pointer (some ⟨W.heap.size + 1, 6, none⟩))
        | 1 => some (.string ⟨pd.offer.toArray⟩)
        | 2 => some (.string ⟨[c].toArray⟩)
        | 3 => some (.int .u8 (c.toNat : Int))
        | 4 => some (.int .i64 kx)
        | 5 => some (.bool true)
        | _ => none) (fun _ x => SF S w0 x p s11 ((w1.heap.size, talkC p yv.1) :: (W.heap.size + 1 + 1 + 1 + 1, .cells #[.int .i64 0] 39 (0, 0)) :: (W.heap.size + 1 + 1 + 1, .cells #[.int .i64 0, .int .i64 0, .int .i64 0, .int .i64 0] 49 (0, 0)) :: (W.heap.size + 1 + 1, .cells #[.int .i64 (m.v 0), .int .u64 (m.v 1), .int .u64 (m.v 2), .string ⟨m.offer.toArray⟩, .int .i64 (m.v 4), .int .i64 (m.v 5), .int .i64 (m.v 6), .int .i64 (m.v 7), .int .i64 (m.v 8), .int .i64 (m.v 9), .int .i64 (m.v 10), .int .u64 (m.v 11), .int .u64 (m.v 12)] 34 (0, 0)) :: (W.heap.size + 1, .cells #[.int .i64 pd.y.ck, .int .i64 pd.y.k, .int .i64 pd.y.h, .int .u64 pd.y.n, .int .i64 pd.e, .int .i64 pd.ek, .string ⟨pd.offer.toArray⟩] 38 (0, 0)) :: (W.heap.size, .cells #[.int .i64 me.dh, .int .i64 me.kem] 24 (0, 0)) :: L)) (by kernel_rfl) (by kernel_rfl) (by kernel_rfl) ?_ ?_ ?_ ?_
    · exact F11.out.later (Below.refl _ _).drew
    · exact fun i x y h hb => h.later hb
    · refine ⟨?_, ?_, ?_, ?_, ?_, ?_, ?_, trivial⟩
      · refine cstep_pure (by decide) rfl rfl ?_
        intro i v x hS hF hB
        simp only [putAll, Act.put, List.setIfInBounds_toArray, List.set_cons_succ, List.set_cons_zero]
        go_big_quiet_step (fail)
        exact wpQuiet_nil rfl
      · refine cstep_pure (by decide) rfl rfl ?_
        intro i v x hS hF hB
        have e0 : v 0 = .pointer (some ⟨W.heap.size + 1, 6, none⟩) := hF 0 _ (by decide) rfl
        have yy := SF.rulesOf hS
        simp only [AllCells, CellsAt, Nat.zero_add, Nat.reduceAdd, talkC] at yy
        simp only [putAll, Act.put, List.setIfInBounds_toArray, List.set_cons_succ, List.set_cons_zero, e0]
        go_big_quiet_step (fail)
        exact wpQuiet_nil rfl
      · refine cstep_pure (by decide) rfl rfl ?_
        intro i v x hS hF hB
        simp only [putAll, Act.put, List.setIfInBounds_toArray, List.set_cons_succ, List.set_cons_zero]
        go_big_quiet_step (fail)
        exact wpQuiet_nil rfl
      · refine cstep_pure (by decide) rfl rfl ?_
        intro i v x hS hF hB
        have e2 : v 2 = .string ⟨[c].toArray⟩ := hF 2 _ (by decide) rfl
        simp only [putAll, Act.put, List.setIfInBounds_toArray, List.set_cons_succ, List.set_cons_zero, e2]
        go_big_quiet_step (fail)
        exact wpQuiet_nil rfl
      · refine cstep_pure (by decide) rfl rfl ?_
        intro i v x hS hF hB
        have e1 : v 1 = .string ⟨pd.offer.toArray⟩ := hF 1 _ (by decide) rfl
        have e3 : v 3 = .int .u8 (c.toNat : Int) := hF 3 _ (by decide) rfl
        simp only [putAll, Act.put, List.setIfInBounds_toArray, List.set_cons_succ, List.set_cons_zero, e1, e3]
        go_big_quiet_step ((go_at_call 46; exact Calls.later_same (CI.out _)))
        exact wpQuiet_nil rfl
      · refine cstep_pure (by decide) rfl rfl ?_
        intro i v x hS hF hB
        have e4 : v 4 = .int .i64 kx := hF 4 _ (by decide) rfl
        simp only [putAll, Act.put, List.setIfInBounds_toArray, List.set_cons_succ, List.set_cons_zero, e4]
        go_big_quiet_step (fail)
        exact wpQuiet_nil rfl
      · refine cstep_wr 0 rfl rfl ?_
        intro v x hS hF
        have e5 : v 5 = .bool true := hF 5 _ (by decide) rfl
        simp only [putAll, Act.put, List.setIfInBounds_toArray, List.set_cons_succ, List.set_cons_zero, e5]
        refine vstep_call (fun q => SF S w0 q p s11 ((w1.heap.size, talkC p yv.1) :: (W.heap.size + 1 + 1 + 1 + 1, .cells #[.int .i64 0] 39 (0, 0)) :: (W.heap.size + 1 + 1 + 1, .cells #[.int .i64 0, .int .i64 0, .int .i64 0, .int .i64 0] 49 (0, 0)) :: (W.heap.size + 1 + 1, .cells #[.int .i64 (m.v 0), .int .u64 (m.v 1), .int .u64 (m.v 2), .string ⟨m.offer.toArray⟩, .int .i64 (m.v 4), .int .i64 (m.v 5), .int .i64 (m.v 6), .int .i64 (m.v 7), .int .i64 (m.v 8), .int .i64 (m.v 9), .int .i64 (m.v 10), .int .u64 (m.v 11), .int .u64 (m.v 12)] 34 (0, 0)) :: (W.heap.size + 1, .cells #[.int .i64 pd.y.ck, .int .i64 pd.y.k, .int .i64 pd.y.h, .int .u64 pd.y.n, .int .i64 pd.e, .int .i64 pd.ek, .string ⟨pd.offer.toArray⟩] 38 (0, 0)) :: (W.heap.size, .cells #[.int .i64 me.dh, .int .i64 me.kem] 24 (0, 0)) :: L)) (fun q hq => ⟨.tuple #[], fun u' h => (by cases h), rfl, hq⟩) ?_
        unfold Oper.wp
        go_simp
        refine (need_ok _).mono ?_
        rintro e q ⟨rfl, rfl⟩
        exact ⟨rfl, hS⟩
    · intro v x hF hS
      have F12 := Lib.hid hS
      clear hS hF F11
      simp only [putAll, Act.put, List.setIfInBounds_toArray, List.set_cons_succ, List.set_cons_zero]
      go_wp2_with fail
      have HO11 := Lib.hid F12.out.ok
      obtain ⟨s12, r12, h12⟩ : ∃ s r, Sough.splitT s11 yv.1 = (s, r) := ⟨_, _, rfl⟩
      rcases r12 with er | ab
      · have hq := HR14.out; simp only [h12, Sough.bnd] at hq
        refine (splitT_er F12.out HY10.out h12).mono ?_
        rintro e w14 ⟨rfl, _, g⟩
        exact finish_bad rfl rfl g (by repeat (first | with_reducible exact List.Sublist.refl _ | with_reducible refine List.Sublist.cons_cons _ ?_ | refine List.Sublist.cons _ ?_)) hq
      have hq := HR14.out; simp only [h12, Sough.bnd] at hq
      have HR15 := Lib.hid hq
      clear hq HR14
      have Hh12 := Lib.hid h12
      refine (splitT_ok F12.out HY10.out h12).mono ?_
      rintro e w14 ⟨rfl, g⟩
      have F13 := Lib.hid g
      clear g h12 F12
      have r := F13.out.mem.rules; simp only [AllCells, CellsAt, Nat.zero_add, Nat.reduceAdd, talkC] at r
      go_wp2_with fail
      clear r
      refine wp_chain (n := 95) [10, 12, 14, 16, 18, 19] (fun k => match k with
          | 0 => some (.pointer (some ⟨w1.heap.size, 0, none⟩))
          | 1 => some (.pointer (some ⟨w1.heap.size, 0, none⟩))
          | 2 => some (.pointer (some ⟨w1.heap.size, 1, none⟩))
          | 3 => some (.pointer (some ⟨w1.heap.size, 3, none⟩))
          | 4 => some (.int .i64 yv.1.h)
          | 5 => some (.int .i64 ab.1)
          | 6 => some (.int .i64 ab.2)
          | 7 => some (.string ⟨[c].toArray⟩)
          | 8 => some (.int .u8 (c.toNat : Int))
          | 9 => some (.int .i64 (c.toNat : Int))
          | 11 => some (.pointer (some ⟨W.heap.size + 1 + 1 + 1, 0, none⟩))
          | 13 => some (.pointer (some ⟨W.heap.size + 1 + 1 + 1, 1, none⟩))
          | 15 => some (.pointer (some ⟨W.heap.size + 1 + 1 + 1, 2, none⟩))
          | 17 => some (.pointer (some ⟨W.heap.size + 1 + 1 + 1, 3, none⟩))
          | _ => none) (fun i x => SF S w0 x p s12 ((w1.heap.size, talkC p yv.1) :: (W.heap.size + 1 + 1 + 1 + 1, .cells #[.int .i64 0] 39 (0, 0)) :: (W.heap.size + 1 + 1 + 1, .cells (sfS yv.1.h ab.1 ab.2 (c.toNat : Int) i) 49 (0, 0)) :: (W.heap.size + 1 + 1, .cells #[.int .i64 (m.v 0), .int .u64 (m.v 1), .int .u64 (m.v 2), .string ⟨m.offer.toArray⟩, .int .i64 (m.v 4), .int .i64 (m.v 5), .int .i64 (m.v 6), .int .i64 (m.v 7), .int .i64 (m.v 8), .int .i64 (m.v 9), .int .i64 (m.v 10), .int .u64 (m.v 11), .int .u64 (m.v 12)] 34 (0, 0)) :: (W.heap.size + 1, .cells #[.int .i64 pd.y.ck, .int .i64 pd.y.k, .int .i64 pd.y.h, .int .u64 pd.y.n, .int .i64 pd.e, .int .i64 pd.ek, .string ⟨pd.offer.toArray⟩] 38 (0, 0)) :: (W.heap.size, .cells #[.int .i64 me.dh, .int .i64 me.kem] 24 (0, 0)) :: L)) (by kernel_rfl) (by kernel_rfl) (by kernel_rfl) ?_ ?_ ?_ ?_
      · exact F13.out.later (Below.refl _ _).drew
      · exact fun i x y h hb => h.later hb
      · refine ⟨?_, ?_, ?_, ?_, ?_, ?_, ?_, ?_, ?_, ?_, ?_, ?_, ?_, ?_, ?_, ?_, ?_, ?_, ?_, ?_, trivial⟩
        · refine cstep_pure (by decide) rfl rfl ?_
          intro i v x hS hF hB
          simp only [putAll, Act.put, List.setIfInBounds_toArray, List.set_cons_succ, List.set_cons_zero]
          go_big_quiet_step (fail)
          exact wpQuiet_nil rfl
        · refine cstep_pure (by decide) rfl rfl ?_
          intro i v x hS hF hB
          have e0 : v 0 = .pointer (some ⟨w1.heap.size, 0, none⟩) := hF 0 _ (by decide) rfl
          simp only [putAll, Act.put, List.setIfInBounds_toArray, List.set_cons_succ, List.set_cons_zero, e0]
          go_big_quiet_step (fail)
          exact wpQuiet_nil rfl
        · refine cstep_pure (by decide) rfl rfl ?_
          intro i v x hS hF hB
          have e1 : v 1 = .pointer (some ⟨w1.heap.size, 0, none⟩) := hF 1 _ (by decide) rfl
          simp only [putAll, Act.put, List.setIfInBounds_toArray, List.set_cons_succ, List.set_cons_zero, e1]
          go_big_quiet_step (fail)
          exact wpQuiet_nil rfl
        · refine cstep_pure (by decide) rfl rfl ?_
          intro i v x hS hF hB
          have e2 : v 2 = .pointer (some ⟨w1.heap.size, 1, none⟩) := hF 2 _ (by decide) rfl
          simp only [putAll, Act.put, List.setIfInBounds_toArray, List.set_cons_succ, List.set_cons_zero, e2]
          go_big_quiet_step (fail)
          exact wpQuiet_nil rfl
        · refine cstep_pure (by decide) rfl rfl ?_
          intro i v x hS hF hB
          have e3 : v 3 = .pointer (some ⟨w1.heap.size, 3, none⟩) := hF 3 _ (by decide) rfl
          have yy := SF.rulesOf hS
          simp only [AllCells, CellsAt, Nat.zero_add, Nat.reduceAdd, talkC] at yy
          simp only [putAll, Act.put, List.setIfInBounds_toArray, List.set_cons_succ, List.set_cons_zero, e3]
          go_big_quiet_step (fail)
          exact wpQuiet_nil rfl
        · refine cstep_pure (by decide) rfl rfl ?_
          intro i v x hS hF hB
          simp only [putAll, Act.put, List.setIfInBounds_toArray, List.set_cons_succ, List.set_cons_zero]
          go_big_quiet_step (fail)
          exact wpQuiet_nil rfl
        · refine cstep_pure (by decide) rfl rfl ?_
          intro i v x hS hF hB
          simp only [putAll, Act.put, List.setIfInBounds_toArray, List.set_cons_succ, List.set_cons_zero]
          go_big_quiet_step (fail)
          exact wpQuiet_nil rfl
        · refine cstep_pure (by decide) rfl rfl ?_
          intro i v x hS hF hB
          simp only [putAll, Act.put, List.setIfInBounds_toArray, List.set_cons_succ, List.set_cons_zero]
          go_big_quiet_step (fail)
          exact wpQuiet_nil rfl
        · refine cstep_pure (by decide) rfl rfl ?_
          intro i v x hS hF hB
          have e7 : v 7 = .string ⟨[c].toArray⟩ := hF 7 _ (by decide) rfl
          simp only [putAll, Act.put, List.setIfInBounds_toArray, List.set_cons_succ, List.set_cons_zero, e7]
          go_big_quiet_step (fail)
          exact wpQuiet_nil rfl
        · refine cstep_pure (by decide) rfl rfl ?_
          intro i v x hS hF hB
          have e8 : v 8 = .int .u8 (c.toNat : Int) := hF 8 _ (by decide) rfl
          simp only [putAll, Act.put, List.setIfInBounds_toArray, List.set_cons_succ, List.set_cons_zero, e8]
          go_big_quiet_step (fail)
          exact wpQuiet_nil rfl
        · refine cstep_sto 0 rfl rfl rfl ?_
          intro v x hS hF
          have hS2 : SF S w0 x p s12 ((w1.heap.size, talkC p yv.1) :: (W.heap.size + 1 + 1 + 1 + 1, .cells #[.int .i64 0] 39 (0, 0)) :: (W.heap.size + 1 + 1 + 1, .cells #[.int .i64 0, .int .i64 0, .int .i64 0, .int .i64 0] 49 (0, 0)) :: (W.heap.size + 1 + 1, .cells #[.int .i64 (m.v 0), .int .u64 (m.v 1), .int .u64 (m.v 2), .string ⟨m.offer.toArray⟩, .int .i64 (m.v 4), .int .i64 (m.v 5), .int .i64 (m.v 6), .int .i64 (m.v 7), .int .i64 (m.v 8), .int .i64 (m.v 9), .int .i64 (m.v 10), .int .u64 (m.v 11), .int .u64 (m.v 12)] 34 (0, 0)) :: (W.heap.size + 1, .cells #[.int .i64 pd.y.ck, .int .i64 pd.y.k, .int .i64 pd.y.h, .int .u64 pd.y.n, .int .i64 pd.e, .int .i64 pd.ek, .string ⟨pd.offer.toArray⟩] 38 (0, 0)) :: (W.heap.size, .cells #[.int .i64 me.dh, .int .i64 me.kem] 24 (0, 0)) :: L) := hS
          have hc := hS2.get 2 rfl
          have HS : Hid (SF S w0 _ p s12 ((w1.heap.size, talkC p yv.1) :: (W.heap.size + 1 + 1 + 1 + 1, .cells #[.int .i64 0] 39 (0, 0)) :: (W.heap.size + 1 + 1 + 1, .cells #[.int .i64 0, .int .i64 0, .int .i64 0, .int .i64 0] 49 (0, 0)) :: (W.heap.size + 1 + 1, .cells #[.int .i64 (m.v 0), .int .u64 (m.v 1), .int .u64 (m.v 2), .string ⟨m.offer.toArray⟩, .int .i64 (m.v 4), .int .i64 (m.v 5), .int .i64 (m.v 6), .int .i64 (m.v 7), .int .i64 (m.v 8), .int .i64 (m.v 9), .int .i64 (m.v 10), .int .u64 (m.v 11), .int .u64 (m.v 12)] 34 (0, 0)) :: (W.heap.size + 1, .cells #[.int .i64 pd.y.ck, .int .i64 pd.y.k, .int .i64 pd.y.h, .int .u64 pd.y.n, .int .i64 pd.e, .int .i64 pd.ek, .string ⟨pd.offer.toArray⟩] 38 (0, 0)) :: (W.heap.size, .cells #[.int .i64 me.dh, .int .i64 me.kem] 24 (0, 0)) :: L)) := Lib.hid (SF.setMid (A := [_, _]) (SF.setMid (A := [_, _]) (SF.setMid (A := [_, _]) (SF.setMid (A := [_, _]) hS2 0 (.int .i64 0)) 1 (.int .i64 0)) 2 (.int .i64 0)) 3 (.int .i64 0))
          have cc := cells_of hc
          simp only [CellsAt, Nat.zero_add, Nat.reduceAdd] at cc
          clear hc hS2 hS hF
          refine ⟨_, HS.out, ?_⟩
          simp only [putAll, Act.put, List.setIfInBounds_toArray, List.set_cons_succ, List.set_cons_zero]
          unfold Oper.wp
          go_simp
        · refine cstep_pure (by decide) rfl rfl ?_
          intro i v x hS hF hB
          simp only [putAll, Act.put, List.setIfInBounds_toArray, List.set_cons_succ, List.set_cons_zero]
          go_big_quiet_step (fail)
          exact wpQuiet_nil rfl
        · refine cstep_sto 1 rfl rfl rfl ?_
          intro v x hS hF
          have e11 : v 11 = .pointer (some ⟨W.heap.size + 1 + 1 + 1, 0, none⟩) := hF 11 _ (by decide) rfl
          have e4 : v 4 = .int .i64 yv.1.h := hF 4 _ (by decide) rfl
          have hS2 : SF S w0 x p s12 ((w1.heap.size, talkC p yv.1) :: (W.heap.size + 1 + 1 + 1 + 1, .cells #[.int .i64 0] 39 (0, 0)) :: (W.heap.size + 1 + 1 + 1, .cells #[.int .i64 0, .int .i64 0, .int .i64 0, .int .i64 0] 49 (0, 0)) :: (W.heap.size + 1 + 1, .cells #[.int .i64 (m.v 0), .int .u64 (m.v 1), .int .u64 (m.v 2), .string ⟨m.offer.toArray⟩, .int .i64 (m.v 4), .int .i64 (m.v 5), .int .i64 (m.v 6), .int .i64 (m.v 7), .int .i64 (m.v 8), .int .i64 (m.v 9), .int .i64 (m.v 10), .int .u64 (m.v 11), .int .u64 (m.v 12)] 34 (0, 0)) :: (W.heap.size + 1, .cells #[.int .i64 pd.y.ck, .int .i64 pd.y.k, .int .i64 pd.y.h, .int .u64 pd.y.n, .int .i64 pd.e, .int .i64 pd.ek, .string ⟨pd.offer.toArray⟩] 38 (0, 0)) :: (W.heap.size, .cells #[.int .i64 me.dh, .int .i64 me.kem] 24 (0, 0)) :: L) := hS
          have hc := hS2.get 2 rfl
          have HS : Hid (SF S w0 _ p s12 ((w1.heap.size, talkC p yv.1) :: (W.heap.size + 1 + 1 + 1 + 1, .cells #[.int .i64 0] 39 (0, 0)) :: (W.heap.size + 1 + 1 + 1, .cells #[.int .i64 yv.1.h, .int .i64 0, .int .i64 0, .int .i64 0] 49 (0, 0)) :: (W.heap.size + 1 + 1, .cells #[.int .i64 (m.v 0), .int .u64 (m.v 1), .int .u64 (m.v 2), .string ⟨m.offer.toArray⟩, .int .i64 (m.v 4), .int .i64 (m.v 5), .int .i64 (m.v 6), .int .i64 (m.v 7), .int .i64 (m.v 8), .int .i64 (m.v 9), .int .i64 (m.v 10), .int .u64 (m.v 11), .int .u64 (m.v 12)] 34 (0, 0)) :: (W.heap.size + 1, .cells #[.int .i64 pd.y.ck, .int .i64 pd.y.k, .int .i64 pd.y.h, .int .u64 pd.y.n, .int .i64 pd.e, .int .i64 pd.ek, .string ⟨pd.offer.toArray⟩] 38 (0, 0)) :: (W.heap.size, .cells #[.int .i64 me.dh, .int .i64 me.kem] 24 (0, 0)) :: L)) := Lib.hid (SF.setMid (A := [_, _]) hS2 0 (.int .i64 yv.1.h))
          have cc := cells_of hc
          simp only [CellsAt, Nat.zero_add, Nat.reduceAdd] at cc
          clear hc hS2 hS hF
          refine ⟨_, HS.out, ?_⟩
          simp only [putAll, Act.put, List.setIfInBounds_toArray, List.set_cons_succ, List.set_cons_zero, e11, e4]
          unfold Oper.wp
          go_simp
        · refine cstep_pure (by decide) rfl rfl ?_
          intro i v x hS hF hB
          simp only [putAll, Act.put, List.setIfInBounds_toArray, List.set_cons_succ, List.set_cons_zero]
          go_big_quiet_step (fail)
          exact wpQuiet_nil rfl
        · refine cstep_sto 2 rfl rfl rfl ?_
          intro v x hS hF
          have e13 : v 13 = .pointer (some ⟨W.heap.size + 1 + 1 + 1, 1, none⟩) := hF 13 _ (by decide) rfl
          have e5 : v 5 = .int .i64 ab.1 := hF 5 _ (by decide) rfl
          have hS2 : SF S w0 x p s12 ((w1.heap.size, talkC p yv.1) :: (W.heap.size + 1 + 1 + 1 + 1, .cells #[.int .i64 0] 39 (0, 0)) :: (W.heap.size + 1 + 1 + 1, .cells #[.int .i64 yv.1.h, .int .i64 0, .int .i64 0, .int .i64 0] 49 (0, 0)) :: (W.heap.size + 1 + 1, .cells #[.int .i64 (m.v 0), .int .u64 (m.v 1), .int .u64 (m.v 2), .string ⟨m.offer.toArray⟩, .int .i64 (m.v 4), .int .i64 (m.v 5), .int .i64 (m.v 6), .int .i64 (m.v 7), .int .i64 (m.v 8), .int .i64 (m.v 9), .int .i64 (m.v 10), .int .u64 (m.v 11), .int .u64 (m.v 12)] 34 (0, 0)) :: (W.heap.size + 1, .cells #[.int .i64 pd.y.ck, .int .i64 pd.y.k, .int .i64 pd.y.h, .int .u64 pd.y.n, .int .i64 pd.e, .int .i64 pd.ek, .string ⟨pd.offer.toArray⟩] 38 (0, 0)) :: (W.heap.size, .cells #[.int .i64 me.dh, .int .i64 me.kem] 24 (0, 0)) :: L) := hS
          have hc := hS2.get 2 rfl
          have HS : Hid (SF S w0 _ p s12 ((w1.heap.size, talkC p yv.1) :: (W.heap.size + 1 + 1 + 1 + 1, .cells #[.int .i64 0] 39 (0, 0)) :: (W.heap.size + 1 + 1 + 1, .cells #[.int .i64 yv.1.h, .int .i64 ab.1, .int .i64 0, .int .i64 0] 49 (0, 0)) :: (W.heap.size + 1 + 1, .cells #[.int .i64 (m.v 0), .int .u64 (m.v 1), .int .u64 (m.v 2), .string ⟨m.offer.toArray⟩, .int .i64 (m.v 4), .int .i64 (m.v 5), .int .i64 (m.v 6), .int .i64 (m.v 7), .int .i64 (m.v 8), .int .i64 (m.v 9), .int .i64 (m.v 10), .int .u64 (m.v 11), .int .u64 (m.v 12)] 34 (0, 0)) :: (W.heap.size + 1, .cells #[.int .i64 pd.y.ck, .int .i64 pd.y.k, .int .i64 pd.y.h, .int .u64 pd.y.n, .int .i64 pd.e, .int .i64 pd.ek, .string ⟨pd.offer.toArray⟩] 38 (0, 0)) :: (W.heap.size, .cells #[.int .i64 me.dh, .int .i64 me.kem] 24 (0, 0)) :: L)) := Lib.hid (SF.setMid (A := [_, _]) hS2 1 (.int .i64 ab.1))
          have cc := cells_of hc
          simp only [CellsAt, Nat.zero_add, Nat.reduceAdd] at cc
          clear hc hS2 hS hF
          refine ⟨_, HS.out, ?_⟩
          simp only [putAll, Act.put, List.setIfInBounds_toArray, List.set_cons_succ, List.set_cons_zero, e13, e5]
          unfold Oper.wp
          go_simp
        · refine cstep_pure (by decide) rfl rfl ?_
          intro i v x hS hF hB
          simp only [putAll, Act.put, List.setIfInBounds_toArray, List.set_cons_succ, List.set_cons_zero]
          go_big_quiet_step (fail)
          exact wpQuiet_nil rfl
        · refine cstep_sto 3 rfl rfl rfl ?_
          intro v x hS hF
          have e15 : v 15 = .pointer (some ⟨W.heap.size + 1 + 1 + 1, 2, none⟩) := hF 15 _ (by decide) rfl
          have e6 : v 6 = .int .i64 ab.2 := hF 6 _ (by decide) rfl
          have hS2 : SF S w0 x p s12 ((w1.heap.size, talkC p yv.1) :: (W.heap.size + 1 + 1 + 1 + 1, .cells #[.int .i64 0] 39 (0, 0)) :: (W.heap.size + 1 + 1 + 1, .cells #[.int .i64 yv.1.h, .int .i64 ab.1, .int .i64 0, .int .i64 0] 49 (0, 0)) :: (W.heap.size + 1 + 1, .cells #[.int .i64 (m.v 0), .int .u64 (m.v 1), .int .u64 (m.v 2), .string ⟨m.offer.toArray⟩, .int .i64 (m.v 4), .int .i64 (m.v 5), .int .i64 (m.v 6), .int .i64 (m.v 7), .int .i64 (m.v 8), .int .i64 (m.v 9), .int .i64 (m.v 10), .int .u64 (m.v 11), .int .u64 (m.v 12)] 34 (0, 0)) :: (W.heap.size + 1, .cells #[.int .i64 pd.y.ck, .int .i64 pd.y.k, .int .i64 pd.y.h, .int .u64 pd.y.n, .int .i64 pd.e, .int .i64 pd.ek, .string ⟨pd.offer.toArray⟩] 38 (0, 0)) :: (W.heap.size, .cells #[.int .i64 me.dh, .int .i64 me.kem] 24 (0, 0)) :: L) := hS
          have hc := hS2.get 2 rfl
          have HS : Hid (SF S w0 _ p s12 ((w1.heap.size, talkC p yv.1) :: (W.heap.size + 1 + 1 + 1 + 1, .cells #[.int .i64 0] 39 (0, 0)) :: (W.heap.size + 1 + 1 + 1, .cells #[.int .i64 yv.1.h, .int .i64 ab.1, .int .i64 ab.2, .int .i64 0] 49 (0, 0)) :: (W.heap.size + 1 + 1, .cells #[.int .i64 (m.v 0), .int .u64 (m.v 1), .int .u64 (m.v 2), .string ⟨m.offer.toArray⟩, .int .i64 (m.v 4), .int .i64 (m.v 5), .int .i64 (m.v 6), .int .i64 (m.v 7), .int .i64 (m.v 8), .int .i64 (m.v 9), .int .i64 (m.v 10), .int .u64 (m.v 11), .int .u64 (m.v 12)] 34 (0, 0)) :: (W.heap.size + 1, .cells #[.int .i64 pd.y.ck, .int .i64 pd.y.k, .int .i64 pd.y.h, .int .u64 pd.y.n, .int .i64 pd.e, .int .i64 pd.ek, .string ⟨pd.offer.toArray⟩] 38 (0, 0)) :: (W.heap.size, .cells #[.int .i64 me.dh, .int .i64 me.kem] 24 (0, 0)) :: L)) := Lib.hid (SF.setMid (A := [_, _]) hS2 2 (.int .i64 ab.2))
          have cc := cells_of hc
          simp only [CellsAt, Nat.zero_add, Nat.reduceAdd] at cc
          clear hc hS2 hS hF
          refine ⟨_, HS.out, ?_⟩
          simp only [putAll, Act.put, List.setIfInBounds_toArray, List.set_cons_succ, List.set_cons_zero, e15, e6]
          unfold Oper.wp
          go_simp
        · refine cstep_pure (by decide) rfl rfl ?_
          intro i v x hS hF hB
          simp only [putAll, Act.put, List.setIfInBounds_toArray, List.set_cons_succ, List.set_cons_zero]
          go_big_quiet_step (fail)
          exact wpQuiet_nil rfl
        · refine cstep_sto 4 rfl rfl rfl ?_
          intro v x hS hF
          have e17 : v 17 = .pointer (some ⟨W.heap.size + 1 + 1 + 1, 3, none⟩) := hF 17 _ (by decide) rfl
          have e9 : v 9 = .int .i64 (c.toNat : Int) := hF 9 _ (by decide) rfl
          have hS2 : SF S w0 x p s12 ((w1.heap.size, talkC p yv.1) :: (W.heap.size + 1 + 1 + 1 + 1, .cells #[.int .i64 0] 39 (0, 0)) :: (W.heap.size + 1 + 1 + 1, .cells #[.int .i64 yv.1.h, .int .i64 ab.1, .int .i64 ab.2, .int .i64 0] 49 (0, 0)) :: (W.heap.size + 1 + 1, .cells #[.int .i64 (m.v 0), .int .u64 (m.v 1), .int .u64 (m.v 2), .string ⟨m.offer.toArray⟩, .int .i64 (m.v 4), .int .i64 (m.v 5), .int .i64 (m.v 6), .int .i64 (m.v 7), .int .i64 (m.v 8), .int .i64 (m.v 9), .int .i64 (m.v 10), .int .u64 (m.v 11), .int .u64 (m.v 12)] 34 (0, 0)) :: (W.heap.size + 1, .cells #[.int .i64 pd.y.ck, .int .i64 pd.y.k, .int .i64 pd.y.h, .int .u64 pd.y.n, .int .i64 pd.e, .int .i64 pd.ek, .string ⟨pd.offer.toArray⟩] 38 (0, 0)) :: (W.heap.size, .cells #[.int .i64 me.dh, .int .i64 me.kem] 24 (0, 0)) :: L) := hS
          have hc := hS2.get 2 rfl
          have HS : Hid (SF S w0 _ p s12 ((w1.heap.size, talkC p yv.1) :: (W.heap.size + 1 + 1 + 1 + 1, .cells #[.int .i64 0] 39 (0, 0)) :: (W.heap.size + 1 + 1 + 1, .cells #[.int .i64 yv.1.h, .int .i64 ab.1, .int .i64 ab.2, .int .i64 (c.toNat : Int)] 49 (0, 0)) :: (W.heap.size + 1 + 1, .cells #[.int .i64 (m.v 0), .int .u64 (m.v 1), .int .u64 (m.v 2), .string ⟨m.offer.toArray⟩, .int .i64 (m.v 4), .int .i64 (m.v 5), .int .i64 (m.v 6), .int .i64 (m.v 7), .int .i64 (m.v 8), .int .i64 (m.v 9), .int .i64 (m.v 10), .int .u64 (m.v 11), .int .u64 (m.v 12)] 34 (0, 0)) :: (W.heap.size + 1, .cells #[.int .i64 pd.y.ck, .int .i64 pd.y.k, .int .i64 pd.y.h, .int .u64 pd.y.n, .int .i64 pd.e, .int .i64 pd.ek, .string ⟨pd.offer.toArray⟩] 38 (0, 0)) :: (W.heap.size, .cells #[.int .i64 me.dh, .int .i64 me.kem] 24 (0, 0)) :: L)) := Lib.hid (SF.setMid (A := [_, _]) hS2 3 (.int .i64 (c.toNat : Int)))
          have cc := cells_of hc
          simp only [CellsAt, Nat.zero_add, Nat.reduceAdd] at cc
          clear hc hS2 hS hF
          refine ⟨_, HS.out, ?_⟩
          simp only [putAll, Act.put, List.setIfInBounds_toArray, List.set_cons_succ, List.set_cons_zero, e17, e9]
          unfold Oper.wp
          go_simp
        · refine cstep_sto 5 rfl rfl rfl ?_
          intro v x hS hF
          have hS2 : SF S w0 x p s12 ((w1.heap.size, talkC p yv.1) :: (W.heap.size + 1 + 1 + 1 + 1, .cells #[.int .i64 0] 39 (0, 0)) :: (W.heap.size + 1 + 1 + 1, .cells #[.int .i64 yv.1.h, .int .i64 ab.1, .int .i64 ab.2, .int .i64 (c.toNat : Int)] 49 (0, 0)) :: (W.heap.size + 1 + 1, .cells #[.int .i64 (m.v 0), .int .u64 (m.v 1), .int .u64 (m.v 2), .string ⟨m.offer.toArray⟩, .int .i64 (m.v 4), .int .i64 (m.v 5), .int .i64 (m.v 6), .int .i64 (m.v 7), .int .i64 (m.v 8), .int .i64 (m.v 9), .int .i64 (m.v 10), .int .u64 (m.v 11), .int .u64 (m.v 12)] 34 (0, 0)) :: (W.heap.size + 1, .cells #[.int .i64 pd.y.ck, .int .i64 pd.y.k, .int .i64 pd.y.h, .int .u64 pd.y.n, .int .i64 pd.e, .int .i64 pd.ek, .string ⟨pd.offer.toArray⟩] 38 (0, 0)) :: (W.heap.size, .cells #[.int .i64 me.dh, .int .i64 me.kem] 24 (0, 0)) :: L) := hS
          have hc := hS2.get 1 rfl
          have HS : Hid (SF S w0 _ p s12 ((w1.heap.size, talkC p yv.1) :: (W.heap.size + 1 + 1 + 1 + 1, .cells #[.int .i64 0] 39 (0, 0)) :: (W.heap.size + 1 + 1 + 1, .cells #[.int .i64 yv.1.h, .int .i64 ab.1, .int .i64 ab.2, .int .i64 (c.toNat : Int)] 49 (0, 0)) :: (W.heap.size + 1 + 1, .cells #[.int .i64 (m.v 0), .int .u64 (m.v 1), .int .u64 (m.v 2), .string ⟨m.offer.toArray⟩, .int .i64 (m.v 4), .int .i64 (m.v 5), .int .i64 (m.v 6), .int .i64 (m.v 7), .int .i64 (m.v 8), .int .i64 (m.v 9), .int .i64 (m.v 10), .int .u64 (m.v 11), .int .u64 (m.v 12)] 34 (0, 0)) :: (W.heap.size + 1, .cells #[.int .i64 pd.y.ck, .int .i64 pd.y.k, .int .i64 pd.y.h, .int .u64 pd.y.n, .int .i64 pd.e, .int .i64 pd.ek, .string ⟨pd.offer.toArray⟩] 38 (0, 0)) :: (W.heap.size, .cells #[.int .i64 me.dh, .int .i64 me.kem] 24 (0, 0)) :: L)) := Lib.hid (SF.setMid (A := [_]) hS2 0 (.int .i64 0))
          have cc := cells_of hc
          simp only [CellsAt, Nat.zero_add, Nat.reduceAdd] at cc
          clear hc hS2 hS hF
          refine ⟨_, HS.out, ?_⟩
          simp only [putAll, Act.put, List.setIfInBounds_toArray, List.set_cons_succ, List.set_cons_zero]
          unfold Oper.wp
          go_simp
      · intro v x hF hS
        have F20 := Lib.hid (hS.later ((Below.refl _ _).alloc (Nat.le_refl _) (.cells #[.int .i64 0] 120)))
        clear hS hF
        simp only [putAll, Act.put, List.setIfInBounds_toArray, List.set_cons_succ, List.set_cons_zero]
        go_wp2_with fail
        refine door_ret rfl ?_
        have g0 := F20.out.get 1 rfl
        have g1 := F20.out.get 2 rfl
        rw [← HR15.out]
        refine ⟨.tuple #[.agg #[.int .i64 yv.1.h, .int .i64 ab.1, .int .i64 ab.2, .int .i64 (c.toNat : Int)], .int .i64 0], ?_, rfl, F20.out.sub (by repeat (first | with_reducible exact List.Sublist.refl _ | with_reducible refine List.Sublist.cons_cons _ ?_ | refine List.Sublist.cons _ ?_))⟩
        simp [results, Try.results16, go_sem, World.cell?, g0, g1, sfS]
theorem finish_any {S : List Nat} {w0 W : World} {p : Nat} {st : Sough.Store} {L : List (Nat × Obj)} {me : Sough.Pair} {pd : Sough.Pending} {m : Sough.Msg} {R : Sough.Res Sough.Sesn} (h : SF S w0 W p st L) (hme : Sough.Int64 me.dh) (hy : pd.y.Wf) (hpd : Sough.Int64 pd.e ∧ Sough.Int64 pd.ek ∧ pd.offer.length ≤ 9223372036854775807) (hm : m.Wf) (hf : Sough.finishT st me pd m = R) :
    Calls Try.prog 16 #[.pointer (some ⟨p, 0, none⟩), .agg #[.int .i64 me.dh, .int .i64 me.kem], .agg #[.int .i64 pd.y.ck, .int .i64 pd.y.k, .int .i64 pd.y.h, .int .u64 pd.y.n, .int .i64 pd.e, .int .i64 pd.ek, .string ⟨pd.offer.toArray⟩], .agg #[.int .i64 (m.v 0), .int .u64 (m.v 1), .int .u64 (m.v 2), .string ⟨m.offer.toArray⟩, .int .i64 (m.v 4), .int .i64 (m.v 5), .int .i64 (m.v 6), .int .i64 (m.v 7), .int .i64 (m.v 8), .int .i64 (m.v 9), .int .i64 (m.v 10), .int .u64 (m.v 11), .int .u64 (m.v 12)]] W (FinishTo S w0 p L R) := by
  by_cases hk : m.v 0 = 2
  · exact finish_right h hme hy hpd hm (by simpa using hk) hf
  · exact finish_kind h hme hy hpd hm (by simpa using hk) hf
end Go.Proofs.Ytlfgempjjoclbaa
namespace Go.Proofs.Ytlfgempjjoclbaa
open Go.RowKit Go.Maps Go.ChangeMaps
def BothR (a b : List UInt8) (w : World) (ov iv : Value) (wr : World) : Prop := ∃ k : Nat, k ≤ a.length ∧ iv = .int .i64 k ∧
  wr.ownsRow w.heap.size 5 1 ov ((a.take k).filter fun c => b.contains c).length (bytesV ((a.take k).filter fun c => b.contains c)) ∧ Below w.heap.size w wr
theorem both_own {B : Nat} {l : List UInt8} {wr w1 : World} {v v' : Value} (x : UInt8) (hB : B ≤ wr.heap.size) (tmp : Obj) (h : wr.ownsRow B 5 1 v l.length (bytesV l))
    (hown' : w1.ownsRow B 5 1 v' (l.length + 1) (bytesV l ++ [.int .u8 (x.toNat : Int)])) (hgrow : (wr.alloc tmp).grownBy w1 v.ownBlock) :
    w1.ownsRow B 5 1 v' (l ++ [x]).length (bytesV (l ++ [x])) ∧ Below B wr w1 := by
  refine ⟨by simpa [bytesV] using hown', ((Below.refl B wr).alloc hB tmp).grown hgrow (by simp; omega) (fun k hk => ?_)⟩
  rcases h.2 with ⟨rfl, _⟩ | ⟨g, cap, cur, rfl, hg, hh, _⟩
  · simp [Value.ownBlock] at hk
  · simp only [Value.ownBlock, Option.some.injEq] at hk
    omega
theorem conv_own {w : World} {B : Nat} {v : Value} {l : List UInt8} (h : w.ownsRow B 5 1 v l.length (bytesV l)) :
    ∃ a cap, v = .slice a l.length cap ∧ (convert 60 9 v).run Try.prog w = .ok (.string ⟨l.toArray⟩) w := by
  have hc := fun g (hg : v.ownBlock = some g) => h.cells hg
  rcases h.2 with ⟨hv, h1⟩ | ⟨g, cap, cur, hv, _⟩
  · obtain rfl := List.length_eq_zero_iff.1 h1
    subst hv
    exact ⟨none, 0, rfl, by rw [run_convert_bytes_string w 60 9 5 none 0 0 Try.underlying60 Try.underlying5 Try.underlying9]; rfl⟩
  · refine ⟨some ⟨g, 0, none⟩, cap, hv, ?_⟩
    subst hv
    exact run_convert_bytes_back (P := Try.prog) w 60 9 5 ⟨g, 0, none⟩ cap l Try.underlying60 Try.underlying5 Try.underlying9 (fun j hj => hc g rfl j _ (by simp [bytesV, hj]))
set_option maxRecDepth 100000 in
set_option maxHeartbeats 1600000 in
theorem both_loop {s t : ByteArray} {a b l : List UInt8} (hs : s.data.toList = a) (ht : t = ⟨b.toArray⟩) (ha : Sough.offerOk a = true) (hb : Sough.offerOk b = true) (hl : a.filter (fun c => b.contains c) = l) (w : World) (h1 : s.size ≤ maxLen) (h2 : t.size ≤ maxLen) :
    Calls Try.prog 48 #[.string s, .string t] w fun e w' => e = .returned (.string ⟨l.toArray⟩) ∧ Below w.heap.size w w' := by
  have hsz : s.size = a.length := by rw [← hs]; simp
  have hsm : s.size ≤ 9223372036854775807 := h1
  have hat : ∀ k (hk : k < s.size) (hka : k < a.length), a[k] = s[k] := fun k hk hka => by
    have h1 : s[k] = s.data[k] := rfl
    subst hs
    rw [h1, Array.getElem_toList]
  have htl : t.data.toList = b := by rw [ht]
  have CA := Lib.hid fun w => offer_any hs ha w h1
  have CB := Lib.hid fun w => offer_any htl hb w h2
  have CI := Lib.hid fun c k (hk : k = Lib.indexByte b c) w => idx_any (l := b) (c := c) (k := k) hk w
  rw [← ht] at CI
  have HAT := Lib.hid hat; have HSZ := Lib.hid hsz; have HL := Lib.hid hl
  obtain ⟨i0, hinf, hz0, hz1, hz2⟩ := info_parts info5
  have h16 : a.length ≤ 16 := by
    have : Sough.offerOk a = true := ha
    unfold Sough.offerOk at this
    rw [Bool.and_eq_true, decide_eq_true_eq] at this
    omega
  have H16 := Lib.hid h16
  clear hs ha hb hl hsz hat htl ht h1 h2 h16
  go_enter Try.func48, Try.ntmps48
  go_wp2_with fail
  refine (CA.out _).mono ?_
  rintro e w1 ⟨rfl, rfl⟩
  go_wp2_with fail
  refine (CB.out _).mono ?_
  rintro e w1 ⟨rfl, rfl⟩
  go_wp2_with fail
  go_loopw [5, 17] (fun ov iv wr => BothR a b w ov iv wr) (fun _ iv _ => s.size - (intOf iv).toNat)
  case atStart => exact ⟨0, Nat.zero_le _, rfl, World.ownsRow_nil _ _ _ _, Below.refl _ _⟩
  case round =>
    obtain ⟨k, hk, rfl, hown, hbel⟩ := hrel
    by_cases hlt : k < s.size
    · have hka : k < a.length := by rw [← HSZ.out]; exact hlt
      have htk : a.take (k + 1) = a.take k ++ [s[k]] := by rw [List.take_succ_eq_append_getElem hka, HAT.out k hlt hka]
      have HTK := Lib.hid htk
      obtain ⟨c, hc⟩ : ∃ c, c = s[k] := ⟨_, rfl⟩
      obtain ⟨kx, hkx⟩ : ∃ kx, kx = Lib.indexByte b c := ⟨_, rfl⟩
      obtain ⟨cb, hcb⟩ : ∃ cb, b.contains c = cb := ⟨_, rfl⟩
      have hd : decide (0 ≤ kx) = cb := by rw [hkx, ← hcb, Lib.contains_iff_indexByte]
      have CI2 := Lib.hid fun (w : World) => CI.out c kx hkx w
      have HO := Lib.hid hown; have HB := Lib.hid hbel; have HCB := Lib.hid hcb
      have HC := Lib.hid hc
      have hfl : ((a.take k).filter fun c => b.contains c).length ≤ 16 := Nat.le_trans (List.length_filter_le _ _) (by rw [List.length_take]; have := H16.out; omega)
      obtain ⟨u, hu⟩ : ∃ u, u = (a.take k).filter fun c => b.contains c := ⟨_, rfl⟩
      have HU := Lib.hid hu
      rw [← hu] at hfl
      clear htk hkx hcb hown hbel hu
      go_wp2_with fail
      rw [← hc]
      refine (CI2.out _).mono ?_
      rintro e w1 ⟨rfl, rfl⟩
      cases cb
      · have hu2 : (a.take (k + 1)).filter (fun c => b.contains c) = u := by rw [HTK.out, List.filter_append, ← HC.out, HU.out]; simp only [List.filter_cons, List.filter_nil, HCB.out, Bool.false_eq_true, if_false, List.append_nil]
        have HR : Hid (BothR a b w _ (.int .i64 ((k : Int) + 1)) wr) := Lib.hid ⟨k + 1, by omega, by push_cast; rfl, by rw [hu2, HU.out]; exact HO.out, HB.out⟩
        clear hu2
        go_wp2_with fail
        go_roundw
        case rel => exact HR.out
        case measure => simp [intOf]; omega
      · have hu2 : (a.take (k + 1)).filter (fun c => b.contains c) = u ++ [c] := by rw [HTK.out, List.filter_append, ← HC.out, HU.out]; simp only [List.filter_cons, List.filter_nil, HCB.out, if_true]
        have HU2 := Lib.hid hu2
        have hown := HO.out
        rw [← HU.out] at hown
        clear hu2
        go_wp2_with (at_builtin; rw [← hc]; refine wpList_append_own _ rfl _ _ 60 rfl w.heap.size 5 i0 (.int .u8 0) 1 1 Try.underlying60 hinf hz0 hz1 hz2 rfl (by decide) _ _ _ rfl (hown.alloc _) ⟨wr.heap.size, 0, none⟩ 1 1 [.int .u8 (c.toNat : Int)] rfl rfl ?c1 ?c2 ?c3 ?c4 ?c5 ?_)
        case c1 =>
          intro j u hj
          match j, hj with
          | 0, hj => simp at hj; subst hj; simp [Addr.add]
        case c2 => intro u hu; simp at hu; subst hu; rfl
        case c3 => unfold maxLen; omega
        case c4 => omega
        case c5 => have := HB.out.size; simp; omega
        intro v' w2 hown' hgrow' _
        rw [← HC.out] at hown'
        obtain ⟨hown2, hbel2⟩ := both_own c HB.out.size _ hown hown' hgrow'
        have HR : Hid (BothR a b w v' (.int .i64 ((k : Int) + 1)) w2) := Lib.hid ⟨k + 1, by omega, by push_cast; rfl, by rw [HU2.out]; exact hown2, HB.out.trans hbel2⟩
        clear hown hown2 hbel2 hown' hgrow'
        go_wp2_with fail
        go_roundw
        case rel => exact HR.out
        case measure => simp [intOf]; omega
    · rw [List.take_of_length_le (by have := HSZ.out; omega), HL.out] at hown
      have HB := Lib.hid hbel
      obtain ⟨g, cap, rfl, hconv⟩ := conv_own hown
      clear hown hbel
      go_wp2
      go_ret
      exact ⟨rfl, HB.out⟩
set_option maxRecDepth 100000 in
set_option maxHeartbeats 400000 in
theorem both_any {a b l : List UInt8} (hl : Sough.bothO a b = l) (ha : a.length ≤ maxLen) (hb : b.length ≤ maxLen) (w : World) :
    Calls Try.prog 48 #[.string ⟨a.toArray⟩, .string ⟨b.toArray⟩] w fun e w' => e = .returned (.string ⟨l.toArray⟩) ∧ Below w.heap.size w w' := by
  obtain ⟨ra, hra⟩ : ∃ x, Sough.offerOk a = x := ⟨_, rfl⟩
  obtain ⟨rb, hrb⟩ : ∃ x, Sough.offerOk b = x := ⟨_, rfl⟩
  unfold Sough.bothO at hl
  rw [hra, hrb] at hl
  have za : (⟨a.toArray⟩ : ByteArray).size ≤ maxLen := ha
  have zb : (⟨b.toArray⟩ : ByteArray).size ≤ maxLen := hb
  cases ra
  · simp only [Bool.false_eq_true, false_and, if_false] at hl
    subst hl
    have CA := Lib.hid fun w => offer_any (s := ⟨a.toArray⟩) (l := a) rfl hra w za
    clear hra hrb za zb ha hb
    go_enter Try.func48, Try.ntmps48
    go_wp2_with fail
    refine (CA.out _).mono ?_
    rintro e w1 ⟨rfl, rfl⟩
    go_wp2_with fail
    go_ret
    exact ⟨rfl, Below.refl _ _⟩
  cases rb
  · simp only [Bool.false_eq_true, and_false, if_false] at hl
    subst hl
    have CA := Lib.hid fun w => offer_any (s := ⟨a.toArray⟩) (l := a) rfl hra w za
    have CB := Lib.hid fun w => offer_any (s := ⟨b.toArray⟩) (l := b) rfl hrb w zb
    clear hra hrb za zb ha hb
    go_enter Try.func48, Try.ntmps48
    go_wp2_with fail
    refine (CA.out _).mono ?_
    rintro e w1 ⟨rfl, rfl⟩
    go_wp2_with fail
    refine (CB.out _).mono ?_
    rintro e w1 ⟨rfl, rfl⟩
    go_wp2_with fail
    go_ret
    exact ⟨rfl, Below.refl _ _⟩
  simp only [and_self, if_true] at hl
  exact both_loop (s := ⟨a.toArray⟩) rfl rfl hra hrb hl w za zb
set_option maxRecDepth 100000 in
set_option maxHeartbeats 400000 in
theorem best_any {a b : List UInt8} {v er : Nat} (hl : Sough.bestO a b = (v, er)) (ha : a.length ≤ maxLen) (hb : b.length ≤ maxLen) (w : World) :
    Calls Try.prog 20 #[.string ⟨a.toArray⟩, .string ⟨b.toArray⟩] w fun e w' => e = .returned (.tuple #[.int .i64 v, .int .i64 er]) ∧ Below w.heap.size w w' := by
  obtain ⟨ra, hra⟩ : ∃ x, Sough.offerOk a = x := ⟨_, rfl⟩
  obtain ⟨rb, hrb⟩ : ∃ x, Sough.offerOk b = x := ⟨_, rfl⟩
  obtain ⟨l, hbo⟩ : ∃ x, Sough.bothO a b = x := ⟨_, rfl⟩
  unfold Sough.bestO at hl
  rw [hra, hrb, hbo] at hl
  have CA := Lib.hid fun w => offer_any (s := ⟨a.toArray⟩) (l := a) rfl hra w ha
  have CB := Lib.hid fun w => offer_any (s := ⟨b.toArray⟩) (l := b) rfl hrb w hb
  have CC := Lib.hid fun w => both_any hbo ha hb w
  clear hra hrb hbo ha hb
  cases ra
  · simp at hl
    obtain ⟨rfl, rfl⟩ := hl
    go_enter Try.func20, Try.ntmps20
    go_wp2_with fail
    refine (CA.out _).mono ?_
    rintro e w1 ⟨rfl, rfl⟩
    go_wp2_with fail
    go_ret2
    exact ⟨rfl, Below.refl _ _⟩
  cases rb
  · simp at hl
    obtain ⟨rfl, rfl⟩ := hl
    go_enter Try.func20, Try.ntmps20
    go_wp2_with fail
    refine (CA.out _).mono ?_
    rintro e w1 ⟨rfl, rfl⟩
    go_wp2_with fail
    refine (CB.out _).mono ?_
    rintro e w1 ⟨rfl, rfl⟩
    go_wp2_with fail
    go_ret2
    exact ⟨rfl, Below.refl _ _⟩
  simp only [Bool.true_eq_false, or_self, if_false] at hl
  rcases l with _ | ⟨c, l⟩
  · simp at hl
    obtain ⟨rfl, rfl⟩ := hl
    go_enter Try.func20, Try.ntmps20
    go_wp2_with fail
    refine (CA.out _).mono ?_
    rintro e w1 ⟨rfl, rfl⟩
    go_wp2_with fail
    refine (CB.out _).mono ?_
    rintro e w1 ⟨rfl, rfl⟩
    go_wp2_with fail
    refine (CC.out _).mono ?_
    rintro e w1 ⟨rfl, hb⟩
    go_wp2_with fail
    go_ret2
    exact ⟨rfl, hb⟩
  · simp at hl
    obtain ⟨rfl, rfl⟩ := hl
    have hne2 : decide ((⟨(c :: l).toArray⟩ : ByteArray) = ⟨#[]⟩) = false := by simp
    have hsz : (⟨(c :: l).toArray⟩ : ByteArray).size = l.length + 1 := rfl
    have hcw : wrap64 (c.toNat : Int) = (c.toNat : Int) := IntWalk.wrap64_in _ (by have := c.toNat_lt; omega)
    go_enter Try.func20, Try.ntmps20
    go_wp2_with fail
    refine (CA.out _).mono ?_
    rintro e w1 ⟨rfl, rfl⟩
    go_wp2_with fail
    refine (CB.out _).mono ?_
    rintro e w1 ⟨rfl, rfl⟩
    go_wp2_with fail
    refine (CC.out _).mono ?_
    rintro e w1 ⟨rfl, hb⟩
    go_wp2_with fail
    go_ret2
    exact ⟨congrArg (fun z => Ending.returned (.tuple #[.int .i64 z, .int .i64 0])) hcw, hb⟩
def peerL (p : Sough.Peer) : List Value := [.int .i64 p.pub.dh, .int .i64 p.pub.kem, .int .i64 p.p0, .int .i64 p.p1]
def PeersAt (w : World) (v : Value) (l : List Sough.Peer) : Prop := (l = [] ∧ v = .slice none 0 0) ∨ ∃ g cap T, v = .slice (some ⟨g, 0, none⟩) l.length cap ∧ l.length ≤ cap ∧ cap ≤ 1000000 ∧ w.heap[g]? = some (.cells (l.flatMap peerL).toArray T (0, 0))
theorem peers_flat (l : List Sough.Peer) : ∀ (i : Nat) (hi : i < l.length) (j : Nat), j < 4 → (l.flatMap peerL)[i * 4 + j]? = (peerL l[i])[j]? := by
  induction l with
  | nil => intro i hi; simp at hi
  | cons p l ih =>
    intro i hi j hj
    cases i with
    | zero =>
      simp only [List.flatMap_cons, List.getElem_cons_zero, Nat.zero_mul, Nat.zero_add]
      rw [List.getElem?_append_left (by simp [peerL]; omega)]
    | succ i =>
      simp only [List.flatMap_cons, List.getElem_cons_succ]
      rw [List.getElem?_append_right (by simp [peerL]; omega), ← ih i (by simpa using hi) j hj]
      congr 1
      simp [peerL]; omega
theorem peers_cells {w : World} {g : Nat} {l : List Sough.Peer} {T : TypeId} (h : w.heap[g]? = some (.cells (l.flatMap peerL).toArray T (0, 0))) {i : Nat} (hi : i < l.length) :
    w.cell? ⟨g, i * 4, none⟩ = some (.int .i64 l[i].pub.dh) ∧ w.cell? ⟨g, i * 4 + 1, none⟩ = some (.int .i64 l[i].pub.kem) ∧ w.cell? ⟨g, i * 4 + 2, none⟩ = some (.int .i64 l[i].p0) ∧ w.cell? ⟨g, i * 4 + 3, none⟩ = some (.int .i64 l[i].p1) := by
  have hf := peers_flat l i hi
  refine ⟨?_, ?_, ?_, ?_⟩ <;> simp only [World.cell?, h, List.getElem?_toArray]
  · exact (hf 0 (by decide)).trans rfl
  · exact (hf 1 (by decide)).trans rfl
  · exact (hf 2 (by decide)).trans rfl
  · exact (hf 3 (by decide)).trans rfl
def WhoR (l : List Sough.Peer) (x : Int) (w : World) (iv : Value) (wr : World) : Prop := ∃ i : Nat, i ≤ l.length ∧ iv = .int .i64 i ∧ (∀ j (h : j < l.length), j < i → l[j].pub.dh ≠ x) ∧ Below w.heap.size w wr
theorem who_none {l : List Sough.Peer} {x : Int} (h : ∀ j (h : j < l.length), l[j].pub.dh ≠ x) : (l.findIdx? fun p => decide (p.pub.dh = x)) = none := by
  rw [List.findIdx?_eq_none_iff]
  intro p hp
  obtain ⟨j, hj, rfl⟩ := List.mem_iff_getElem.1 hp
  simpa using h j hj
theorem who_some {l : List Sough.Peer} {x : Int} {i : Nat} (hi : i < l.length) (h : ∀ j (h : j < l.length), j < i → l[j].pub.dh ≠ x) (hx : l[i].pub.dh = x) : (l.findIdx? fun p => decide (p.pub.dh = x)) = some i := by
  rw [List.findIdx?_eq_some_iff_getElem]
  exact ⟨hi, by simpa using hx, fun j hj => by simpa using h j (by omega) hj⟩
def WhoTo (r : Option Nat) (e : Ending) : Prop := match r with
  | some i => e = .returned (.int .i64 i)
  | none => e = .panicked (wrongP 5)
set_option maxRecDepth 100000 in
set_option maxHeartbeats 800000 in
theorem who_any {l : List Sough.Peer} {x : Int} {v : Value} {r : Option Nat} (w : World) (hv : PeersAt w v l) (hr : (l.findIdx? fun p => decide (p.pub.dh = x)) = r) :
    Calls Try.prog 42 #[v, .int .i64 x] w fun e w' => WhoTo r e ∧ Below w.heap.size w w' := by
  rcases hv with ⟨rfl, rfl⟩ | ⟨g, cap, T, rfl, hcap, hcap2, hg⟩
  · simp only [List.findIdx?_nil] at hr
    subst hr
    go_enter Try.func42, Try.ntmps42
    go_wp2_with fail
    go_loopw [9] (fun iv wr => iv = .int .i64 0 ∧ wr = w) (fun _ _ => 0)
    case atStart => exact ⟨rfl, rfl⟩
    case round =>
      obtain ⟨rfl, rfl⟩ := hrel
      go_wp2_with fail
      refine (must_er (er := 5) (by omega) _).mono ?_
      rintro e w1 ⟨rfl, rfl⟩
      exact ⟨rfl, rfl, Below.refl _ _⟩
  · have HG := Lib.hid hg; have HR := Lib.hid hr
    clear hg hr
    obtain ⟨n, hn⟩ : ∃ n, n = l.length := ⟨_, rfl⟩
    have HN := Lib.hid hn
    rw [← hn] at hcap ⊢
    clear hn
    go_enter Try.func42, Try.ntmps42
    go_wp2_with fail
    go_loopw [9] (fun iv wr => WhoR l x w iv wr) (fun iv _ => n - (intOf iv).toNat)
    case atStart => exact ⟨0, Nat.zero_le _, rfl, fun j _ h => absurd h (Nat.not_lt_zero _), Below.refl _ _⟩
    case round =>
      obtain ⟨i, hi, rfl, hno, hbel⟩ := hrel
      rw [← HN.out] at hi
      have HO := Lib.hid hno; have HB := Lib.hid hbel
      by_cases hlt : i < n
      · have hil : i < l.length := by rw [← HN.out]; exact hlt
        obtain ⟨c0, c1, c2, c3⟩ := peers_cells ((HB.out.block _ (lt_of_block HG.out)).trans HG.out) hil
        obtain ⟨q, hq⟩ : ∃ q, q = l[i] := ⟨_, rfl⟩
        rw [← hq] at c0 c1 c2 c3
        have HQ := Lib.hid hq
        obtain ⟨b, hb⟩ : ∃ b, (q.pub.dh == x) = b := ⟨_, rfl⟩
        have hb' : decide (q.pub.dh = x) = b := hb
        clear hq hno hbel
        cases b
        · have hne : q.pub.dh ≠ x := by simpa using hb
          have HR2 : Hid (WhoR l x w (.int .i64 ((i : Int) + 1)) (wr.alloc (.cells #[.int .i64 q.pub.dh, .int .i64 q.pub.kem, .int .i64 q.p0, .int .i64 q.p1] 28))) := Lib.hid ⟨i + 1, by omega, by push_cast; rfl, fun j hj hji => by
            rcases Nat.lt_or_ge j i with h | h
            · exact HO.out j hj h
            · obtain rfl : j = i := by omega
              rw [← HQ.out]; exact hne, HB.out.alloc HB.out.size _⟩
          clear hne
          go_wp2_with fail
          go_roundw
          case rel => exact HR2.out
          case measure => simp [intOf]; omega
        · have hr : r = some i := by rw [← HR.out]; exact who_some hil HO.out (by rw [← HQ.out]; simpa using hb)
          subst hr
          go_wp2_with fail
          go_ret
          exact ⟨rfl, HB.out.alloc HB.out.size _⟩
      · obtain rfl : i = n := by omega
        have hr : r = none := by rw [← HR.out]; exact who_none fun j hj => HO.out j hj (by rw [HN.out]; exact hj)
        subst hr
        clear hno hbel
        go_wp2_with fail
        refine (must_er (er := 5) (by omega) _).mono ?_
        rintro e w1 ⟨rfl, rfl⟩
        exact ⟨rfl, rfl, HB.out⟩
end Go.Proofs.Ytlfgempjjoclbaa
