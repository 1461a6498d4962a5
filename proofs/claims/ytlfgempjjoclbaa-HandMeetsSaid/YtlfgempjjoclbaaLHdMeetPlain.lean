/- Plain law: two endpoints that know each other meet. No program in sight. -/
import Derived.Test.YtlfgempjjoclbaaLHdStay
import Derived.Test.YtlfgempjjoclbaaLHdStranger
namespace Sough
open Go.Proofs.Ytlfgempjjoclbaa (bnd_ok)

theorem twoS_ok : twoS.Ok := by
  have hw : ∀ t ∈ twoS.l, (-9223372036854775808 ≤ t.k ∧ t.k ≤ 9223372036854775807) ∧ (-9223372036854775808 ≤ t.a ∧ t.a ≤ 9223372036854775807) ∧ (-9223372036854775808 ≤ t.b ∧ t.b ≤ 9223372036854775807) ∧ (-9223372036854775808 ≤ t.c ∧ t.c ≤ 9223372036854775807) ∧ t.n < 18446744073709551616 ∧ t.s.length ≤ 9223372036854775807 := by decide +kernel
  refine ⟨by decide, by decide +kernel, fun t ht => ?_, by decide +kernel, by decide +kernel⟩
  obtain ⟨h1, h2, h3, h4, h5, h6⟩ := hw t ht
  exact ⟨h1, h2, h3, h4, h5, h6⟩
theorem two_is15 : Is twoS 15 (pbT 1) := ⟨by decide +kernel, by decide +kernel⟩
theorem two_is17 : Is twoS 17 (pbT 3) := ⟨by decide +kernel, by decide +kernel⟩
theorem two_is18 : Is twoS 18 (kpT 4) := ⟨by decide +kernel, by decide +kernel⟩
theorem two_has : ∀ k : Nat, k < 18 → twoS.has ((k + 1 : Nat) : Int) = true := by decide +kernel

/-- What both say first. -/
def First (s : Store) (text : List UInt8) (slot : Int) (p : Pair) (y : Sym) : Prop := ∃ n0 n1 n2 h1 h2 h3 h4, y = ⟨n0, 0, h4, 0⟩ ∧ Is s n0 (txT sough) ∧ Is s n1 (txT text) ∧ Is s h1 (hsT n0 n1) ∧ Is s n2 (txT (slotText slot)) ∧ Is s h2 (hsT h1 n2) ∧ Is s h3 (hsT h2 p.dh) ∧ Is s h4 (hsT h3 p.kem)
theorem First.ext {s s' : Store} (e : Ext s s') {text : List UInt8} {slot : Int} {p : Pair} {y : Sym} (h : First s text slot p y) : First s' text slot p y := by
  obtain ⟨n0, n1, n2, h1, h2, h3, h4, hy, i0, i1, i2, i3, i4, i5, i6⟩ := h
  exact ⟨n0, n1, n2, h1, h2, h3, h4, hy, e.is i0, e.is i1, e.is i2, e.is i3, e.is i4, e.is i5, e.is i6⟩
theorem slot_len (slot : Int) : (slotText slot).length ≤ 1000 := by unfold slotText; split <;> simp
theorem firstT_do {s : Store} (hs : s.Ok) (hr : s.l.length + 40 ≤ s.most) {text : List UInt8} {slot : Int} {p : Pair} (ht : text.length ≤ 1000) (ha : s.has p.dh = true) (hb : s.has p.kem = true) : ∃ s' y, firstT s text slot p = (s', .ok y) ∧ St s s' 7 ∧ First s' text slot p y := by
  obtain ⟨s1, n0, e1, t1, i1⟩ := textT_do hs (by omega) (l := sough) (by decide)
  have hb0 : resY (symBegin s sough) = (s1, .ok ⟨n0, 0, n0, 0⟩) := by
    obtain ⟨n, hn, rfl⟩ := res1_ok e1
    unfold symBegin resY
    rw [hn]
    simp
  have l1 := t1.len; have m1 := t1.ext.most
  obtain ⟨s2, n1, e2, t2, i2⟩ := textT_do t1.ok (by omega) ht
  have l2 := t2.len; have m2 := t2.ext.most
  obtain ⟨s3, h1, e3, t3, i3⟩ := hashT_do t2.ok (by omega) (y := ⟨n0, 0, n0, 0⟩) (t2.ext.has i1.has) i2.has
  have l3 := t3.len; have m3 := t3.ext.most
  obtain ⟨s4, n2, e4, t4, i4⟩ := textT_do t3.ok (by omega) (slot_len slot)
  have l4 := t4.len; have m4 := t4.ext.most
  obtain ⟨s5, h2, e5, t5, i5⟩ := hashT_do t4.ok (by omega) (y := ⟨n0, 0, h1, 0⟩) (t4.ext.has i3.has) i4.has
  have l5 := t5.len; have m5 := t5.ext.most
  have E5 := ((((t1.ext.trans t2.ext).trans t3.ext).trans t4.ext).trans t5.ext)
  obtain ⟨s6, h3, e6, t6, i6⟩ := hashT_do t5.ok (by omega) (y := ⟨n0, 0, h2, 0⟩) i5.has (E5.has ha)
  have l6 := t6.len; have m6 := t6.ext.most
  obtain ⟨s7, h4, e7, t7, i7⟩ := hashT_do t6.ok (by omega) (y := ⟨n0, 0, h3, 0⟩) i6.has (t6.ext.has (E5.has hb))
  have l7 := t7.len
  refine ⟨s7, ⟨n0, 0, h4, 0⟩, ?_, ⟨t7.ok, E5.trans (t6.ext.trans t7.ext), by omega⟩, n0, n1, n2, h1, h2, h3, h4, rfl, ?_, ?_, ?_, ?_, ?_, ?_, i7⟩
  · unfold firstT
    simp only [hb0, bnd, e2, e3, e4, e5, e6]
    exact e7
  · exact ((t2.ext.trans t3.ext).trans ((t4.ext.trans t5.ext).trans (t6.ext.trans t7.ext))).is i1
  · exact (t3.ext.trans ((t4.ext.trans t5.ext).trans (t6.ext.trans t7.ext))).is i2
  · exact ((t4.ext.trans t5.ext).trans (t6.ext.trans t7.ext)).is i3
  · exact (t5.ext.trans (t6.ext.trans t7.ext)).is i4
  · exact (t6.ext.trans t7.ext).is i5
  · exact t7.ext.is i6
theorem firstT_is {s : Store} (hs : s.Ok) {text : List UInt8} {slot : Int} {p : Pair} {y : Sym} (h : First s text slot p y) : firstT s text slot p = (s, .ok y) := by
  obtain ⟨n0, n1, n2, h1, h2, h3, h4, rfl, i0, i1, i2, i3, i4, i5, i6⟩ := h
  have hb0 : resY (symBegin s sough) = (s, .ok ⟨n0, 0, n0, 0⟩) := by
    obtain ⟨n, hn, rfl⟩ := res1_ok (textT_is hs i0)
    unfold symBegin resY
    rw [hn]
    simp
  unfold firstT
  simp only [hb0, bnd, textT_is hs i1, hashT_is hs (y := ⟨n0, 0, n0, 0⟩) i2, textT_is hs i3, hashT_is hs (y := ⟨n0, 0, h1, 0⟩) i4, hashT_is hs (y := ⟨n0, 0, h2, 0⟩) i5]
  exact hashT_is hs (y := ⟨n0, 0, h3, 0⟩) i6

theorem init_right {frm slot e ek b c1 c2 : Int} {x : List UInt8} (hf : 1 ≤ frm ∧ frm ≤ 4294967296) (hx : offerOk x = true) (hsl : 0 ≤ slot ∧ slot ≤ 1) (he : 1 ≤ e ∧ e ≤ 1048576) (hk : 1 ≤ ek ∧ ek ≤ 1048576) (hb : 1 ≤ b ∧ b ≤ 1048576) (h1 : 1 ≤ c1 ∧ c1 ≤ 1048576) (h2 : 1 ≤ c2 ∧ c2 ≤ 1048576) : (initM frm x slot e ek b c1 c2).right = true := by
  unfold Msg.right
  simp [initM, flds, flds1, fldOk, number, name, hx, Msg.same, onlyL, hasF, cellsN]
  omega
theorem resp_right {frm to e b c1 : Int} (hf : 1 ≤ frm ∧ frm ≤ 4294967296) (ht : 1 ≤ to ∧ to ≤ 4294967296) (he : 1 ≤ e ∧ e ≤ 1048576) (hb : 1 ≤ b ∧ b ≤ 1048576) (h1 : 1 ≤ c1 ∧ c1 ≤ 1048576) : (respM frm to e b c1).right = true := by
  unfold Msg.right
  simp [respM, flds, flds2, fldOk, number, name, Msg.same, onlyL, hasF, cellsN]
  omega
theorem Is.small {s : Store} (hs : s.Ok) {n : Int} {t : Term} (h : Is s n t) : 1 ≤ n ∧ n ≤ 1048576 := by
  have := h.pos; have := hs.len; have := hs.most; omega
theorem ready_of {s : Store} {ck k h : Int} {t : Term} (hk : Is s k t) : (⟨ck, k, h, 0⟩ : Sym).ready = true := by
  have := hk.pos
  unfold Sym.ready
  simp
  omega
theorem key_ne {s : Store} {g a b : Int} (h1 : Is s a (kyT g 1)) (h2 : Is s b (kyT g 2)) : a ≠ b := by
  rintro rfl
  have := congrArg (·.n) (h1.inj h2)
  simp [kyT] at this

structure Meets (x y : List UInt8) (k : Int) (n : Nat) : Prop where
  go : ∃ sB m q, beginT twoS me0 peer0 (reqM 7 x k) n 7 8 9 = (sB, .ok (m, q)) ∧ m.offer = x ∧ m.v 4 = k ∧
    ((bestO y x).2 ≠ 0 → openedT sB me1 [peer1] y m = (sB, .error (bestO y x).2)) ∧
    ∀ v, bestO y x = (v, 0) → ∃ sO o sA r u sF w, openedT sB me1 [peer1] y m = (sO, .ok o) ∧ answerT sO o 9 7 10 11 = (sA, .ok (r, u)) ∧ finishT sA me0 q r = (sF, .ok w) ∧
      o.peer = 0 ∧ o.stamp = n ∧ o.version = v ∧ u.version = v ∧ w.h = u.h ∧ w.send = u.recv ∧ w.recv = u.send ∧ w.send ≠ w.recv ∧ w.version = v

theorem best_in {x y : List UInt8} {v : Nat} (h : bestO y x = (v, 0)) : v < 256 ∧ x.contains (UInt8.ofNat v) = true := by
  unfold bestO at h
  split at h
  · simp at h
  · split at h
    · simp at h
    · rename_i h1 h2
      simp only [Prod.mk.injEq, and_true] at h
      obtain ⟨c, l, hc⟩ := List.exists_cons_of_ne_nil h2
      rw [hc] at h
      simp only [List.headD_cons] at h
      subst h
      refine ⟨c.toNat_lt, ?_⟩
      have hin : c ∈ bothO y x := by rw [hc]; exact List.mem_cons_self ..
      unfold bothO at hin
      split at hin
      · rw [List.mem_filter] at hin
        rw [UInt8.ofNat_toNat]; exact hin.2
      · simp at hin

theorem meets {x y : List UInt8} {k : Int} {n : Nat} (hx : offerOk x = true) (hxl : x.length ≤ 1000) (hk : k = 0 ∨ k = 1) (hn : n < 18446744073709551616) : Meets x y k n := by
  have o0 := twoS_ok
  have ml : twoS.most = 5000 := rfl
  have ll : twoS.l.length = 18 := by decide +kernel
  obtain ⟨s1, y1, e1, t1, i1⟩ := firstT_do o0 (by omega) (text := x) (slot := k) (p := ⟨17, 18⟩) hxl two_is17.has two_is18.has
  have l1 := t1.len; have m1 := t1.ext.most
  have f1 := i1
  obtain ⟨n0, _, _, _, _, _, h4, hy1, j0, _, _, _, _, _, j6⟩ := i1
  subst hy1
  obtain ⟨s2, e, e2, t2, i2⟩ := publicT_do t1.ok (by omega) (x := 7) (t1.ext.has (two_has 6 (by omega)))
  have l2 := t2.len; have m2 := t2.ext.most
  obtain ⟨s3, z3, e3, t3, i3⟩ := hashT_do t2.ok (by omega) (y := ⟨n0, 0, h4, 0⟩) (t2.ext.has j6.has) i2.has
  have l3 := t3.len; have m3 := t3.ext.most
  have E3 := t1.ext.trans (t2.ext.trans t3.ext)
  obtain ⟨s4, ek, e4, t4, i4⟩ := wrappingT_do t3.ok (by omega) (x := 8) (E3.has (two_has 7 (by omega)))
  have l4 := t4.len; have m4 := t4.ext.most
  obtain ⟨s5, z5, e5, t5, i5⟩ := hashT_do t4.ok (by omega) (y := ⟨n0, 0, z3, 0⟩) (t4.ext.has i3.has) i4.has
  have l5 := t5.len; have m5 := t5.ext.most
  have E5 := E3.trans (t4.ext.trans t5.ext)
  obtain ⟨s6, x6, e6, t6, i6⟩ := agreedT_do t5.ok (by omega) (x := 7) (q := 17) (a := 3) (E5.has (two_has 6 (by omega))) (E5.is two_is17) (E5.has (two_has 2 (by omega)))
  have l6 := t6.len; have m6 := t6.ext.most
  have E26 := (t2.ext.trans t3.ext).trans ((t4.ext.trans t5.ext).trans t6.ext)
  obtain ⟨s7, g7, a7, b7, e7, t7, i7, k7, q7⟩ := mixT_do t6.ok (by omega) (y := ⟨n0, 0, z5, 0⟩) (x := x6) (E26.has j0.has) i6.has
  have l7 := t7.len; have m7 := t7.ext.most
  have E7 := E5.trans (t6.ext.trans t7.ext)
  obtain ⟨s8, bx, kx, z8, g8, a8, b8, e8, t8, ib, ikk, iz, ig, ia, ibb⟩ := wrapT_do t7.ok (by omega) (y := ⟨a7, b7, z5, 0⟩) (q := 18) (a := 4) (d := 9) (E7.is two_is18) (E7.has (two_has 3 (by omega))) (E7.has (two_has 8 (by omega))) k7.has ((t6.ext.trans t7.ext).has i5.has)
  have l8 := t8.len; have m8 := t8.ext.most
  have E8 := E7.trans t8.ext
  have e9 := publicT_is t8.ok (E8.is two_is15)
  obtain ⟨s10, c10, z10, e10, t10, i10, h10⟩ := sealT_do t8.ok (by omega) (y := ⟨a8, b8, z8, 0⟩) (x := 15) (ready_of ibb) ibb.has iz.has (E8.is two_is15).has (show (0 : Nat) < 18446744073709551616 by decide)
  have l10 := t10.len; have m10 := t10.ext.most
  have E10 := E8.trans t10.ext
  obtain ⟨s11, x11, e11, t11, i11⟩ := agreedT_do t10.ok (by omega) (x := 1) (q := 17) (a := 3) (E10.has (two_has 0 (by omega))) (E10.is two_is17) (E10.has (two_has 2 (by omega)))
  have l11 := t11.len; have m11 := t11.ext.most
  obtain ⟨s12, g12, a12, b12, e12, t12, i12, k12, q12⟩ := mixT_do t11.ok (by omega) (y := ⟨a8, b8, z10, 0 + 1⟩) (x := x11) ((t10.ext.trans t11.ext).has ia.has) i11.has
  have l12 := t12.len; have m12 := t12.ext.most
  have E12 := E10.trans (t11.ext.trans t12.ext)
  have hpsk : twoS.has (peer0.psk k) = true := by rcases hk with rfl | rfl <;> decide +kernel
  obtain ⟨s13, g13, a13, b13, e13, t13, i13, k13, q13⟩ := mixT_do t12.ok (by omega) (y := ⟨a12, b12, z10, 0⟩) (x := peer0.psk k) k12.has (E12.has hpsk)
  have l13 := t13.len; have m13 := t13.ext.most
  have hpl := (put_len10 n).2
  obtain ⟨s14, x14, e14, t14, i14⟩ := textT_do t13.ok (by omega) hpl
  have l14 := t14.len; have m14 := t14.ext.most
  have E1014 := (t11.ext.trans t12.ext).trans (t13.ext.trans t14.ext)
  obtain ⟨s15, c15, z15, e15, t15, i15, h15⟩ := sealT_do t14.ok (by omega) (y := ⟨a13, b13, z10, 0⟩) (x := x14) (ready_of q13) (t14.ext.has q13.has) (E1014.has h10.has) i14.has (show (0 : Nat) < 18446744073709551616 by decide)
  have l15 := t15.len; have m15 := t15.ext.most
  have ok := t15.ok
  -- all that is known, in the last store
  have X14 := t15.ext
  have X13 := t14.ext.trans X14
  have X12 := t13.ext.trans X13
  have X11 := t12.ext.trans X12
  have X10 := t11.ext.trans X11
  have X8 := t10.ext.trans X10
  have X7 := t8.ext.trans X8
  have X6 := t7.ext.trans X7
  have X5 := t6.ext.trans X6
  have X4 := t5.ext.trans X5
  have X3 := t4.ext.trans X4
  have X2 := t3.ext.trans X3
  have X1 := t2.ext.trans X2
  have X0 := t1.ext.trans X1
  have Ie := X2.is i2; have Iek := X4.is i4
  have ie := Ie.small ok; have iek := Iek.small ok; have ibx := (X8.is ib).small ok; have ic1 := (X10.is i10).small ok; have ic2 := i15.small ok
  have hk01 : 0 ≤ k ∧ k ≤ 1 := by omega
  have hright := init_right (frm := 7) (by decide) hx hk01 ie iek ibx ic1 ic2
  have hB : beginT twoS me0 peer0 (reqM 7 x k) n 7 8 9 = (s15, .ok (initM 7 x k e ek bx c10 c15, ⟨⟨a13, b13, z15, 0 + 1⟩, 7, 8, x⟩)) := by
    have hv4 : (reqM 7 x k).v 4 = k := rfl
    have ho : (reqM 7 x k).offer = x := rfl
    have hv1 : (reqM 7 x k).v 1 = 7 := rfl
    unfold beginT
    rw [hv4, ho, hv1]
    have hneed : need (decide (k = 0 ∨ k = 1)) 1 twoS = (twoS, .ok ()) := by unfold need; rw [decide_eq_true hk]; rfl
    have e1' : firstT twoS x k peer0.pub = _ := e1
    have e6' : agreedT s5 7 peer0.pub.dh = _ := e6
    have e8' : wrapT s7 ⟨a7, b7, z5, 0⟩ peer0.pub.kem 9 = _ := e8
    have e9' : publicT s8 me0.dh = _ := e9
    have e11' : agreedT s10 me0.dh peer0.pub.dh = _ := e11
    have hneed2 : need (initM 7 x k e ek bx c10 c15).right 3 s15 = (s15, .ok ()) := by unfold need; rw [hright]; rfl
    simp only [hneed, bnd, e1', e2, e3, e4, e5, e6', e7, e8', e9', e10, e11', e12, e13, e14, e15, hneed2]
  refine ⟨⟨s15, _, _, hB, rfl, rfl, ?_, ?_⟩⟩
  · intro hbad
    unfold openedT
    have hk1 : (initM 7 x k e ek bx c10 c15).v 0 = 1 := rfl
    have ho : (initM 7 x k e ek bx c10 c15).offer = x := rfl
    rw [hk1, hright, ho]
    simp only [need, decide_true, Bool.true_and, if_true, bnd]
    rw [decide_eq_false hbad]
    rfl
  intro v hv
  obtain ⟨hv256, hvin⟩ := best_in hv
  have hO : openedT s15 me1 [peer1] y (initM 7 x k e ek bx c10 c15) = (s15, .ok ⟨⟨a13, b13, z15, 0 + 1⟩, 0, v, n, e, ek, 15⟩) := by
    have hk1 : (initM 7 x k e ek bx c10 c15).v 0 = 1 := rfl
    have ho : (initM 7 x k e ek bx c10 c15).offer = x := rfl
    have hv4 : (initM 7 x k e ek bx c10 c15).v 4 = k := rfl
    have hv6 : (initM 7 x k e ek bx c10 c15).v 6 = e := rfl
    have hv7 : (initM 7 x k e ek bx c10 c15).v 7 = ek := rfl
    have hv8 : (initM 7 x k e ek bx c10 c15).v 8 = bx := rfl
    have hv9 : (initM 7 x k e ek bx c10 c15).v 9 = c10 := rfl
    have hv10 : (initM 7 x k e ek bx c10 c15).v 10 = c15 := rfl
    unfold openedT
    rw [hk1, hright, ho, hv4, hv6, hv7, hv8, hv9, hv10, hv]
    have p1 : publicT s15 me1.dh = (s15, .ok 17) := publicT_is ok (X0.is two_is17)
    have p2 : wrappingT s15 me1.kem = (s15, .ok 18) := wrappingT_is ok (X0.is two_is18)
    have hP : publicsT s15 me1 = (s15, .ok ⟨17, 18⟩) := by unfold publicsT; simp only [p1, bnd, p2]
    have o1 := firstT_is ok (f1.ext X1)
    have o2 := hashT_is ok (y := ⟨n0, 0, h4, 0⟩) (X3.is i3)
    have o3 := hashT_is ok (y := ⟨n0, 0, z3, 0⟩) (X5.is i5)
    have o4 : agreedT s15 me1.dh e = (s15, .ok x6) := agreedT_is ok (x := 3) (a := 7) (X0.has (two_has 2 (by omega))) Ie (by rw [shT_comm]; exact X6.is i6)
    have o5 := mixT_is ok (y := ⟨n0, 0, z5, 0⟩) (X7.is i7) (X7.is k7) (X7.is q7)
    have o6 := hashT_is ok (y := ⟨a7, b7, z5, 0⟩) (X8.is iz)
    have o7 : unwrappedT s15 me1.kem bx = (s15, .ok kx) := unwrappedT_is ok (a := 4) (d := 9) (X0.has (two_has 3 (by omega))) (X8.is ib) (X8.is ikk)
    have o8 := mixT_is ok (y := ⟨a7, b7, z8, 0⟩) (X8.is ig) (X8.is ia) (X8.is ibb)
    have o9 := openT_is ok (y := ⟨a8, b8, z8, 0⟩) (ready_of ibb) (X8.is ibb).has (X8.is iz).has (X10.is i10) (X10.is h10)
    have o10 : whoT s15 [peer1] 15 = (s15, .ok 0) := rfl
    have o11 : agreedT s15 me1.dh 15 = (s15, .ok x11) := agreedT_is ok (x := 3) (a := 1) (X0.has (two_has 2 (by omega))) (X0.is two_is15) (by rw [shT_comm]; exact X11.is i11)
    have o12 := mixT_is ok (y := ⟨a8, b8, z10, 0 + 1⟩) (X12.is i12) (X12.is k12) (X12.is q12)
    have o13 := mixT_is ok (y := ⟨a12, b12, z10, 0⟩) (X13.is i13) (X13.is k13) (X13.is q13)
    have hps : (([peer1] : List Peer).getD 0 ⟨⟨0, 0⟩, 0, 0⟩).psk k = peer0.psk k := rfl
    have o14 := openT_is ok (y := ⟨a13, b13, z10, 0⟩) (ready_of q13) (X13.is q13).has (X10.is h10).has i15 h15
    have o15 := readT_is (X14.is i14)
    have o16 : stampT s15 (put n) = (s15, .ok n) := by
      unfold stampT
      rw [get_of_put hn]
      simp
    simp only [need, decide_true, Bool.true_and, if_true, bnd, hP, o1, o2, o3, o4, o5, o6, o7, o8, o9, o10, o11, o12, hps, o13, o14, o15, o16]
    rfl
  -- the answer
  have L15 : s15.l.length ≤ 100 := by omega
  have M15 : s15.most = 5000 := by omega
  obtain ⟨u1, f, w1, v1, j1⟩ := publicT_do ok (by omega) (x := 10) (X0.has (two_has 9 (by omega)))
  have r1 := v1.len; have p1 := v1.ext.most
  obtain ⟨u2, y2, w2, v2, j2⟩ := hashT_do v1.ok (by omega) (y := ⟨a13, b13, z15, 0 + 1⟩) (v1.ext.has h15.has) j1.has
  have r2 := v2.len; have p2 := v2.ext.most
  have D2 := v1.ext.trans v2.ext
  obtain ⟨u3, x3, w3, v3, j3⟩ := agreedT_do v2.ok (by omega) (x := 10) (q := e) (a := 7) ((X0.trans D2).has (two_has 9 (by omega))) (D2.is Ie) ((X0.trans D2).has (two_has 6 (by omega)))
  have r3 := v3.len; have p3 := v3.ext.most
  obtain ⟨u4, G4, A4, B4, w4, v4, j4, c4, d4⟩ := mixT_do v3.ok (by omega) (y := ⟨a13, b13, y2, 0 + 1⟩) (x := x3) ((D2.trans v3.ext).has (X13.is k13).has) j3.has
  have r4 := v4.len; have p4 := v4.ext.most
  have D4 := D2.trans (v3.ext.trans v4.ext)
  obtain ⟨u5, x5, w5, v5, j5⟩ := agreedT_do v4.ok (by omega) (x := 10) (q := 15) (a := 1) ((X0.trans D4).has (two_has 9 (by omega))) ((X0.trans D4).is two_is15) ((X0.trans D4).has (two_has 0 (by omega)))
  have r5 := v5.len; have p5 := v5.ext.most
  obtain ⟨u6, G6, A6, B6, w6, v6, j6', c6, d6⟩ := mixT_do v5.ok (by omega) (y := ⟨A4, B4, y2, 0⟩) (x := x5) (v5.ext.has c4.has) j5.has
  have r6 := v6.len; have p6 := v6.ext.most
  have D6 := D4.trans (v5.ext.trans v6.ext)
  obtain ⟨u7, BX, KX, Z7, G7, A7, B7, w7, v7, jb, jk, jz, jg, ja, jbb⟩ := wrapT_do v6.ok (by omega) (y := ⟨A6, B6, y2, 0⟩) (q := ek) (a := 8) (d := 11) (D6.is Iek) ((X0.trans D6).has (two_has 7 (by omega))) ((X0.trans D6).has (two_has 10 (by omega))) c6.has (((v3.ext.trans v4.ext).trans (v5.ext.trans v6.ext)).has j2.has)
  have r7 := v7.len; have p7 := v7.ext.most
  obtain ⟨u8, x8, w8, v8, j8⟩ := textT_do v7.ok (by omega) (l := [UInt8.ofNat v]) (by simp)
  have r8 := v8.len; have p8 := v8.ext.most
  obtain ⟨u9, C9, Z9, w9, v9, j9, h9⟩ := sealT_do v8.ok (by omega) (y := ⟨A7, B7, Z7, 0⟩) (x := x8) (ready_of jbb) (v8.ext.has jbb.has) (v8.ext.has jz.has) j8.has (show (0 : Nat) < 18446744073709551616 by decide)
  have r9 := v9.len; have p9 := v9.ext.most
  obtain ⟨uA, tA, GA, AA, BA, wA, vA, kA0, kA1, kA2, kA3⟩ := splitT_do v9.ok (by omega) (y := ⟨A7, B7, Z9, 0 + 1⟩) ((v8.ext.trans v9.ext).has ja.has)
  have okA := vA.ok
  have Y9 := vA.ext
  have Y8 := v9.ext.trans Y9
  have Y7 := v8.ext.trans Y8
  have Y6 := v7.ext.trans Y7
  have Y5 := v6.ext.trans Y6
  have Y4 := v5.ext.trans Y5
  have Y3 := v4.ext.trans Y4
  have Y2 := v3.ext.trans Y3
  have Y1 := v2.ext.trans Y2
  have Y0 := v1.ext.trans Y1
  have hright2 := resp_right (frm := 9) (to := 7) (by decide) (by decide) ((Y1.is j1).small okA) ((Y7.is jb).small okA) ((Y9.is j9).small okA)
  have hA : answerT s15 ⟨⟨a13, b13, z15, 0 + 1⟩, 0, v, n, e, ek, 15⟩ 9 7 10 11 = (uA, .ok (respM 9 7 f BX C9, ⟨Z9, BA, AA, v⟩)) := by
    unfold answerT
    have hvv : UInt8.ofNat ((v : Int) % 256).toNat = UInt8.ofNat v := by
      rw [show ((v : Int) % 256).toNat = v by omega]
    have hneed2 : need (respM 9 7 f BX C9).right 3 uA = (uA, .ok ()) := by unfold need; rw [hright2]; rfl
    simp only [bnd, w1, w2, w3, w4, w5, w6, w7, hvv, w8, w9, wA, hneed2]
  have hF : finishT uA me0 ⟨⟨a13, b13, z15, 0 + 1⟩, 7, 8, x⟩ (respM 9 7 f BX C9) = (uA, .ok ⟨Z9, AA, BA, v⟩) := by
    have hk2 : (respM 9 7 f BX C9).v 0 = 2 := rfl
    have hv6 : (respM 9 7 f BX C9).v 6 = f := rfl
    have hv8 : (respM 9 7 f BX C9).v 8 = BX := rfl
    have hv9 : (respM 9 7 f BX C9).v 9 = C9 := rfl
    unfold finishT
    rw [hk2, hright2, hv6, hv8, hv9]
    have XA := X0.trans Y0
    have o1 := hashT_is okA (y := ⟨a13, b13, z15, 0 + 1⟩) (Y2.is j2)
    have o2 : agreedT uA 7 f = (uA, .ok x3) := agreedT_is okA (a := 10) (XA.has (two_has 6 (by omega))) (Y1.is j1) (by rw [shT_comm]; exact Y3.is j3)
    have o3 := mixT_is okA (y := ⟨a13, b13, y2, 0 + 1⟩) (Y4.is j4) (Y4.is c4) (Y4.is d4)
    have o4 : agreedT uA me0.dh f = (uA, .ok x5) := agreedT_is okA (x := 1) (a := 10) (XA.has (two_has 0 (by omega))) (Y1.is j1) (by rw [shT_comm]; exact Y5.is j5)
    have o5 := mixT_is okA (y := ⟨A4, B4, y2, 0⟩) (Y6.is j6') (Y6.is c6) (Y6.is d6)
    have o6 := hashT_is okA (y := ⟨A6, B6, y2, 0⟩) (Y7.is jz)
    have o7 := unwrappedT_is okA (a := 8) (d := 11) (XA.has (two_has 7 (by omega))) (Y7.is jb) (Y7.is jk)
    have o8 := mixT_is okA (y := ⟨A6, B6, Z7, 0⟩) (Y7.is jg) (Y7.is ja) (Y7.is jbb)
    have o9 := openT_is okA (y := ⟨A7, B7, Z7, 0⟩) (ready_of jbb) (Y7.is jbb).has (Y7.is jz).has (Y9.is j9) (Y9.is h9)
    have o10 := readT_is (Y8.is j8)
    have o11 := splitT_is okA (y := ⟨A7, B7, Z9, 0 + 1⟩) kA0 kA1 kA2 kA3
    have hvt : (UInt8.ofNat v).toNat = v := u8_of v hv256
    simp only [need, decide_true, Bool.true_and, if_true, bnd, o1, o2, o3, o4, o5, o6, o7, o8, o9, o10, List.length_singleton, List.headD_cons, hvin, o11, hvt]
  exact ⟨s15, _, uA, _, _, uA, _, hO, hA, hF, rfl, rfl, rfl, rfl, rfl, rfl, rfl, key_ne kA2 kA3, rfl⟩
end Sough
