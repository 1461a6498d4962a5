/- Plain law: with other texts in a store all names are the same. No program in sight. -/
import Derived.Test.YtlfgempjjoclbaaG6
namespace Sough
structure Ren (ρ : List UInt8 → List UInt8) : Prop where
  inj : ∀ a b, ρ a = ρ b → a = b
  nil : ρ [] = []
  len : ∀ a, (ρ a).length ≤ 1000 ↔ a.length ≤ 1000
def tR (ρ : List UInt8 → List UInt8) (t : Term) : Term := ⟨t.k, ρ t.s, t.n, t.a, t.b, t.c⟩
def sR (ρ : List UInt8 → List UInt8) (st : Store) : Store := ⟨st.l.map (tR ρ), st.most⟩
def rR {α : Type} (ρ : List UInt8 → List UInt8) (r : Store × α) : Store × α := (sR ρ r.1, r.2)
section
variable {ρ : List UInt8 → List UInt8} {θ : Nat → Nat} (h : Ren ρ)
include h
theorem tR_inj (t u : Term) : tR ρ t = tR ρ u ↔ t = u := by
  constructor
  · intro e
    unfold tR at e
    simp only [Term.mk.injEq] at e
    obtain ⟨h1, h2, h3, h4, h5, h6⟩ := e
    obtain ⟨a, b, c, d, f, g⟩ := t
    obtain ⟨a', b', c', d', f', g'⟩ := u
    simp only at h1 h2 h3 h4 h5 h6
    rw [h1, h.inj _ _ h2, h3, h4, h5, h6]
  · intro e; rw [e]
theorem tR_nil {t : Term} (ht : t.s = []) : tR ρ t = t := by
  obtain ⟨a, b, c, d, f, g⟩ := t
  simp only at ht
  subst ht
  unfold tR
  simp only [h.nil]
omit h in
theorem parts_ren (t : Term) : partsOf (tR ρ t) = partsOf t := rfl
theorem only_ren (t : Term) : onlyT (tR ρ t) = tR ρ (onlyT t) := by
  unfold onlyT
  rw [parts_ren]
  unfold tR
  simp only
  congr 1
  split
  · rfl
  · exact h.nil.symm
theorem mayT_ren (t : Term) : mayT (tR ρ t) = mayT t := by
  unfold mayT
  have h1 : decide (tR ρ t = onlyT (tR ρ t)) = decide (t = onlyT t) := by rw [only_ren h]; exact decide_eq_decide.2 (tR_inj h _ _)
  have h2 : decide ((tR ρ t).s.length ≤ 1000) = decide (t.s.length ≤ 1000) := decide_eq_decide.2 (h.len _)
  rw [h1, h2]
  rfl
theorem may_ren (st : Store) (t : Term) : (sR ρ st).may (tR ρ t) = st.may t := by
  unfold Store.may
  rw [mayT_ren h, parts_ren]
  simp [sR]
theorem find_ren (st : Store) (t : Term) : (sR ρ st).find (tR ρ t) = st.find t := by
  unfold Store.find sR
  simp only [List.findIdx?_map]
  congr 1
  funext x
  exact decide_eq_decide.2 (tR_inj h x t)
theorem put_ren (st : Store) (t : Term) : (sR ρ st).put (tR ρ t) = rR ρ (st.put t) := by
  unfold Store.put
  rw [may_ren h, find_ren h]
  have hl : (sR ρ st).l.length = st.l.length := by simp [sR]
  have hm : (sR ρ st).most = st.most := rfl
  by_cases h1 : st.may t = false
  · rw [if_pos h1, if_pos h1]; rfl
  · rw [if_neg h1, if_neg h1, hl, hm]
    cases st.find t with
    | some i => rfl
    | none =>
      simp only
      by_cases h2 : st.most ≤ st.l.length
      · rw [if_pos h2, if_pos h2]; rfl
      · rw [if_neg h2, if_neg h2]; simp [rR, sR]
theorem put_ren0 (st : Store) {t : Term} (ht : t.s = []) : (sR ρ st).put t = rR ρ (st.put t) := by
  have := put_ren h st t
  rwa [tR_nil h ht] at this
theorem putText_ren (st : Store) (s : List UInt8) : (sR ρ st).putText (ρ s) = rR ρ (st.putText s) := put_ren h st ⟨1, s, 0, 0, 0, 0⟩
omit h in
theorem has_ren (st : Store) (x : Int) : (sR ρ st).has x = st.has x := by simp [Store.has, sR]
theorem at_ren (st : Store) (x : Int) : (sR ρ st).at x = tR ρ (st.at x) := by
  unfold Store.at
  rw [has_ren]
  split
  · simp only [sR, List.getD_eq_getElem?_getD, List.getElem?_map]
    cases st.l[x.toNat - 1]? with
    | none => exact (tR_nil h rfl).symm
    | some t => rfl
  · exact (tR_nil h rfl).symm
theorem dhPublic_ren (st : Store) (x : Int) : dhPublic (sR ρ st) x = rR ρ (dhPublic st x) := put_ren0 h st rfl
theorem kemPublic_ren (st : Store) (x : Int) : kemPublic (sR ρ st) x = rR ρ (kemPublic st x) := put_ren0 h st rfl
theorem kdfHash_ren (st : Store) (x y : Int) : kdfHash (sR ρ st) x y = rR ρ (kdfHash st x y) := put_ren0 h st rfl
theorem aeadSeal_ren (st : Store) (k : Int) (n : Nat) (a b : Int) : aeadSeal (sR ρ st) k n a b = rR ρ (aeadSeal st k n a b) := put_ren0 h st rfl
theorem dhAgree_ren (st : Store) (x q : Int) : dhAgree (sR ρ st) x q = rR ρ (dhAgree st x q) := by
  unfold dhAgree
  rw [has_ren, at_ren h]
  have hk : (tR ρ (st.at q)).k = (st.at q).k := rfl
  have ha : (tR ρ (st.at q)).a = (st.at q).a := rfl
  rw [hk, ha]
  by_cases h1 : st.has x = false ∨ (st.at q).k ≠ 3
  · rw [if_pos h1, if_pos h1]; rfl
  · rw [if_neg h1, if_neg h1]
    by_cases h2 : (st.at q).a < x
    · rw [if_pos h2, if_pos h2]; exact put_ren0 h st rfl
    · rw [if_neg h2, if_neg h2]; exact put_ren0 h st rfl
theorem put2_ren (st : Store) {t u : Term} (ht : t.s = []) (hu : u.s = []) : (sR ρ st).put2 t u = rR ρ (st.put2 t u) := by
  unfold Store.put2
  rw [put_ren0 h st ht]
  generalize st.put t = r
  obtain ⟨s, n, e⟩ := r
  cases e with
  | succ e => rfl
  | zero =>
    show (if ((sR ρ s).put u).2.2 ≠ 0 then (((sR ρ s).put u).1, 0, 0, ((sR ρ s).put u).2.2) else (((sR ρ s).put u).1, n, ((sR ρ s).put u).2.1, 0)) = rR ρ (if (s.put u).2.2 ≠ 0 then ((s.put u).1, 0, 0, (s.put u).2.2) else ((s.put u).1, n, (s.put u).2.1, 0))
    rw [put_ren0 h s hu]
    generalize s.put u = r
    obtain ⟨s', n', e'⟩ := r
    cases e' <;> rfl
theorem kemWrap_ren (st : Store) (q d : Int) : kemWrap (sR ρ st) q d = rR ρ (kemWrap st q d) := by
  unfold kemWrap
  rw [has_ren, at_ren h]
  have hk : (tR ρ (st.at q)).k = (st.at q).k := rfl
  have ha : (tR ρ (st.at q)).a = (st.at q).a := rfl
  rw [hk, ha]
  by_cases h1 : (st.at q).k ≠ 5 ∨ st.has d = false
  · rw [if_pos h1, if_pos h1]; rfl
  · rw [if_neg h1, if_neg h1]
    exact put2_ren h st rfl rfl
theorem kemOpen_ren (st : Store) (x b : Int) : kemOpen (sR ρ st) x b = rR ρ (kemOpen st x b) := by
  unfold kemOpen
  rw [has_ren, has_ren, at_ren h]
  have hk : (tR ρ (st.at b)).k = (st.at b).k := rfl
  have ha : (tR ρ (st.at b)).a = (st.at b).a := rfl
  have hb : (tR ρ (st.at b)).b = (st.at b).b := rfl
  rw [hk, ha, hb]
  by_cases h1 : st.has x = false ∨ st.has b = false
  · rw [if_pos h1, if_pos h1]; rfl
  · rw [if_neg h1, if_neg h1]
    by_cases h2 : (st.at b).k ≠ 6 ∨ (st.at b).a ≠ x
    · rw [if_pos h2, if_pos h2]; rfl
    · rw [if_neg h2, if_neg h2]; exact put_ren0 h st rfl
theorem kdfMix_ren (st : Store) (k x : Int) : kdfMix (sR ρ st) k x = rR ρ (kdfMix st k x) := by
  unfold kdfMix
  rw [kdfHash_ren h]
  generalize kdfHash st k x = r
  obtain ⟨s, n, e⟩ := r
  cases e with
  | succ e => rfl
  | zero => exact put2_ren h s rfl rfl
theorem aeadOpen_ren (st : Store) (k : Int) (n : Nat) (a b : Int) : aeadOpen (sR ρ st) k n a b = aeadOpen st k n a b := by
  unfold aeadOpen
  rw [has_ren, has_ren, has_ren, at_ren h]
  rfl
theorem symHash_ren (st : Store) (y : Sym) (x : Int) : symHash (sR ρ st) y x = rR ρ (symHash st y x) := by
  unfold symHash
  rw [kdfHash_ren h]
  generalize kdfHash st y.h x = r
  obtain ⟨s, n, e⟩ := r
  cases e <;> rfl
theorem symMix_ren (st : Store) (y : Sym) (x : Int) : symMix (sR ρ st) y x = rR ρ (symMix st y x) := by
  unfold symMix
  rw [kdfMix_ren h]
  generalize kdfMix st y.ck x = r
  obtain ⟨s, a, b, e⟩ := r
  cases e <;> rfl
theorem symSaid_ren (st : Store) (y : Sym) (sl x : Int) (er : Nat) : symSaid (sR ρ st) y sl x er = rR ρ (symSaid st y sl x er) := by
  unfold symSaid
  rw [symHash_ren h]
  generalize symHash st ⟨y.ck, y.k, y.h, y.n + 1⟩ sl = r
  obtain ⟨s, n, e⟩ := r
  cases er with
  | succ er => rfl
  | zero => cases e <;> rfl
theorem symSeal_ren (st : Store) (y : Sym) (x : Int) : symSeal (sR ρ st) y x = rR ρ (symSeal st y x) := by
  unfold symSeal
  rw [aeadSeal_ren h]
  generalize aeadSeal st y.k y.n y.h x = r
  by_cases h0 : y.ready = false
  · rw [if_pos h0, if_pos h0]; rfl
  · rw [if_neg h0, if_neg h0]
    exact symSaid_ren h r.1 _ _ _ _
theorem symOpen_ren (st : Store) (y : Sym) (x : Int) : symOpen (sR ρ st) y x = rR ρ (symOpen st y x) := by
  unfold symOpen
  rw [aeadOpen_ren h]
  by_cases h0 : y.ready = false
  · rw [if_pos h0, if_pos h0]; rfl
  · rw [if_neg h0, if_neg h0]
    exact symSaid_ren h _ _ _ _ _
theorem symSplit_ren (st : Store) (y : Sym) : symSplit (sR ρ st) y = rR ρ (symSplit st y) := by
  unfold symSplit
  have h0 := putText_ren h st []
  rw [h.nil] at h0
  rw [h0]
  generalize st.putText [] = r
  obtain ⟨s, n, e⟩ := r
  cases e with
  | succ e => rfl
  | zero => exact kdfMix_ren h s _ _
theorem symBegin_ren (st : Store) {s : List UInt8} (hs : ρ s = s) : symBegin (sR ρ st) s = rR ρ (symBegin st s) := by
  unfold symBegin
  have h0 := putText_ren h st s
  rw [hs] at h0
  rw [h0]
  generalize st.putText s = r
  obtain ⟨s, n, e⟩ := r
  cases e <;> rfl
omit h in
theorem bnd_ren {α β : Type} {r : Res α} {f g : Store → α → Res β} (hf : ∀ s a, f (sR ρ s) a = rR ρ (g s a)) : bnd (rR ρ r) f = rR ρ (bnd r g) := by
  obtain ⟨s, r⟩ := r
  cases r with
  | error e => rfl
  | ok a => exact hf s a
omit h in
theorem need_ren (b : Bool) (e : Nat) (st : Store) : need b e (sR ρ st) = rR ρ (need b e st) := by
  unfold need; split <;> rfl
theorem textT_ren (st : Store) (s : List UInt8) : textT (sR ρ st) (ρ s) = rR ρ (textT st s) := by
  unfold textT; rw [putText_ren h]; rfl
theorem textT_ren0 (st : Store) {s : List UInt8} (hs : ρ s = s) : textT (sR ρ st) s = rR ρ (textT st s) := by
  have := textT_ren h st s; rwa [hs] at this
theorem publicT_ren (st : Store) (x : Int) : publicT (sR ρ st) x = rR ρ (publicT st x) := by unfold publicT; rw [dhPublic_ren h]; rfl
theorem wrappingT_ren (st : Store) (x : Int) : wrappingT (sR ρ st) x = rR ρ (wrappingT st x) := by unfold wrappingT; rw [kemPublic_ren h]; rfl
theorem agreedT_ren (st : Store) (x q : Int) : agreedT (sR ρ st) x q = rR ρ (agreedT st x q) := by unfold agreedT; rw [dhAgree_ren h]; rfl
theorem unwrappedT_ren (st : Store) (x q : Int) : unwrappedT (sR ρ st) x q = rR ρ (unwrappedT st x q) := by unfold unwrappedT; rw [kemOpen_ren h]; rfl
theorem hashT_ren (st : Store) (y : Sym) (x : Int) : hashT (sR ρ st) y x = rR ρ (hashT st y x) := by unfold hashT; rw [symHash_ren h]; rfl
theorem mixT_ren (st : Store) (y : Sym) (x : Int) : mixT (sR ρ st) y x = rR ρ (mixT st y x) := by unfold mixT; rw [symMix_ren h]; rfl
theorem sealT_ren (st : Store) (y : Sym) (x : Int) : sealT (sR ρ st) y x = rR ρ (sealT st y x) := by unfold sealT; rw [symSeal_ren h]; rfl
theorem openT_ren (st : Store) (y : Sym) (x : Int) : openT (sR ρ st) y x = rR ρ (openT st y x) := by unfold openT; rw [symOpen_ren h]; rfl
theorem splitT_ren (st : Store) (y : Sym) : splitT (sR ρ st) y = rR ρ (splitT st y) := by unfold splitT; rw [symSplit_ren h]; rfl
theorem wrapT_ren (st : Store) (y : Sym) (q d : Int) : wrapT (sR ρ st) y q d = rR ρ (wrapT st y q d) := by
  unfold wrapT
  rw [kemWrap_ren h]
  refine (bnd_ren (ρ := ρ) (r := res2 (kemWrap st q d)) (f := _) fun s b => ?_)
  rw [hashT_ren h]
  refine bnd_ren fun s y => ?_
  rw [mixT_ren h]
  exact bnd_ren fun s y => rfl
theorem firstT_ren (st : Store) {text : List UInt8} {slot : Int} (q : Pair) (h1 : ρ sough = sough) (h2 : ρ text = text) (h3 : ρ (slotText slot) = slotText slot) : firstT (sR ρ st) text slot q = rR ρ (firstT st text slot q) := by
  unfold firstT
  rw [symBegin_ren h st h1]
  refine (bnd_ren (ρ := ρ) (r := resY (symBegin st sough)) (f := _) fun s y => ?_)
  rw [textT_ren0 h s h2]
  refine bnd_ren fun s x => ?_
  rw [hashT_ren h]
  refine bnd_ren fun s y => ?_
  rw [textT_ren0 h s h3]
  refine bnd_ren fun s x => ?_
  rw [hashT_ren h]
  refine bnd_ren fun s y => ?_
  rw [hashT_ren h]
  exact bnd_ren fun s y => hashT_ren h _ _ _
theorem publicsT_ren (st : Store) (a : Pair) : publicsT (sR ρ st) a = rR ρ (publicsT st a) := by
  unfold publicsT
  rw [publicT_ren h]
  refine bnd_ren fun s x => ?_
  rw [wrappingT_ren h]
  exact bnd_ren fun s y => rfl
theorem beginT_ren (st : Store) {me : Pair} {pr : Peer} {m : Msg} {n n' : Nat} {d0 d1 d2 : Int} (h1 : ρ sough = sough) (h2 : ρ m.offer = m.offer) (h3 : ρ (slotText (m.v 4)) = slotText (m.v 4)) (h4 : ρ (put n) = put n') :
    beginT (sR ρ st) me pr m n' d0 d1 d2 = rR ρ (beginT st me pr m n d0 d1 d2) := by
  unfold beginT
  rw [need_ren]
  refine bnd_ren fun s u => ?_
  rw [firstT_ren h s _ h1 h2 h3]
  refine bnd_ren fun s y => ?_
  rw [publicT_ren h]
  refine bnd_ren fun s e => ?_
  rw [hashT_ren h]
  refine bnd_ren fun s y => ?_
  rw [wrappingT_ren h]
  refine bnd_ren fun s e => ?_
  rw [hashT_ren h]
  refine bnd_ren fun s y => ?_
  rw [agreedT_ren h]
  refine bnd_ren fun s x => ?_
  rw [mixT_ren h]
  refine bnd_ren fun s y => ?_
  rw [wrapT_ren h]
  refine bnd_ren fun s yb => ?_
  rw [publicT_ren h]
  refine bnd_ren fun s x => ?_
  rw [sealT_ren h]
  refine bnd_ren fun s yc => ?_
  rw [agreedT_ren h]
  refine bnd_ren fun s x => ?_
  rw [mixT_ren h]
  refine bnd_ren fun s y => ?_
  rw [mixT_ren h]
  refine bnd_ren fun s y => ?_
  rw [← h4, textT_ren h]
  refine bnd_ren fun s x => ?_
  rw [sealT_ren h]
  refine bnd_ren fun s yd => ?_
  rw [need_ren]
  exact bnd_ren fun s u => rfl
structure Stamps (ρ : List UInt8 → List UInt8) (θ : Nat → Nat) : Prop where
  put : ∀ n, n < 18446744073709551616 → ρ (put n) = Sough.put (θ n)
  back : ∀ s n, n < 18446744073709551616 → ρ s = Sough.put n → ∃ k, k < 18446744073709551616 ∧ s = Sough.put k
  lt : ∀ n, n < 18446744073709551616 → θ n < 18446744073709551616
def oR (θ : Nat → Nat) (r : Except Nat Opened) : Except Nat Opened := match r with
  | .ok o => .ok ⟨o.y, o.peer, o.version, θ o.stamp, o.e, o.ek, o.pub⟩
  | .error e => .error e
omit h in
theorem get_whole {s : List UInt8} (hs : (get s 0).2.2 = 0 ∧ (get s 0).2.1 = s.length) : (get s 0).1 < 18446744073709551616 ∧ s = put (get s 0).1 := by
  obtain ⟨r, _, _, e, e2, e3, _⟩ := get_ok hs.1
  refine ⟨e3, ?_⟩
  rw [hs.2] at e2
  simp only [Int.toNat_zero, List.take_zero, List.nil_append, Nat.zero_add] at e e2
  have hl := congrArg List.length e
  rw [List.length_append] at hl
  have hr : r = [] := List.length_eq_zero_iff.1 (by omega)
  rw [hr, List.append_nil] at e
  exact e
omit h in
theorem get_of_put {n : Nat} (hn : n < 18446744073709551616) : get (put n) 0 = (n, (put n).length, 0) := by
  have := get_put [] [] n hn
  simpa using this
omit h in
theorem stampT_ren (hs : Stamps ρ θ) (st : Store) (s : List UInt8) : stampT (sR ρ st) (ρ s) = (sR ρ st, match (stampT st s).2 with
  | .ok n => .ok (θ n)
  | .error e => .error e) := by
  unfold stampT
  by_cases hc : (get s 0).2.2 = 0 ∧ (get s 0).2.1 = s.length
  · obtain ⟨h1, h2⟩ := get_whole hc
    rw [if_pos hc]
    obtain ⟨n, hn⟩ : ∃ n, n = (get s 0).1 := ⟨_, rfl⟩
    rw [← hn] at h1 h2 ⊢
    subst h2
    rw [hs.put n h1]
    have := get_of_put (hs.lt n h1)
    rw [this, if_pos ⟨rfl, rfl⟩]
  · rw [if_neg hc, if_neg]
    intro hc2
    obtain ⟨h1, h2⟩ := get_whole hc2
    obtain ⟨k, hk, e⟩ := hs.back s _ h1 h2
    apply hc
    subst e
    rw [get_of_put hk]
    exact ⟨rfl, rfl⟩
omit h in
theorem whoT_ren (st : Store) (l : List Peer) (x : Int) : whoT (sR ρ st) l x = rR ρ (whoT st l x) := by
  unfold whoT; split <;> rfl
theorem opened_tail (hs : Stamps ρ θ) (st : Store) (y : Sym) (x : Int) (i : Nat) (v : Nat) (e ek pub : Int) :
    (bnd (readT (sR ρ st) x) fun st s => bnd (stampT st s) fun st n => (st, Except.ok (⟨y, i, v, n, e, ek, pub⟩ : Opened))) =
    (sR ρ (bnd (readT st x) fun st s => bnd (stampT st s) fun st n => (st, Except.ok (⟨y, i, v, n, e, ek, pub⟩ : Opened))).1, oR θ (bnd (readT st x) fun st s => bnd (stampT st s) fun st n => (st, Except.ok (⟨y, i, v, n, e, ek, pub⟩ : Opened))).2) := by
  unfold readT
  rw [at_ren h]
  have hk : (tR ρ (st.at x)).k = (st.at x).k := rfl
  have hss : (tR ρ (st.at x)).s = ρ (st.at x).s := rfl
  rw [hk, hss]
  split
  · simp only [bnd]
    rw [stampT_ren hs]
    have h1 : (stampT st (st.at x).s).1 = st := by unfold stampT; split <;> rfl
    obtain ⟨s2, r2, hst⟩ : ∃ s2 r2, stampT st (st.at x).s = (s2, r2) := ⟨_, _, rfl⟩
    rw [hst] at h1 ⊢
    simp only at h1
    subst h1
    cases r2 with
    | error e => rfl
    | ok n => rfl
  · rfl
omit h in
theorem bnd_renO {α : Type} {r : Res α} {f g : Store → α → Res Opened} (hf : ∀ s a, f (sR ρ s) a = (sR ρ (g s a).1, oR θ (g s a).2)) : bnd (rR ρ r) f = (sR ρ (bnd r g).1, oR θ (bnd r g).2) := by
  obtain ⟨s, r⟩ := r
  cases r with
  | error e => rfl
  | ok a => exact hf s a
theorem openedT_ren (hs : Stamps ρ θ) (st : Store) {me : Pair} {peers : List Peer} {text : List UInt8} {m : Msg} (h1 : ρ sough = sough) (h2 : ρ m.offer = m.offer) (h3 : ρ (slotText (m.v 4)) = slotText (m.v 4)) :
    openedT (sR ρ st) me peers text m = (sR ρ (openedT st me peers text m).1, oR θ (openedT st me peers text m).2) := by
  unfold openedT
  rw [need_ren]
  refine bnd_renO fun s u => ?_
  rw [need_ren]
  refine bnd_renO fun s u => ?_
  rw [publicsT_ren h]
  refine bnd_renO fun s pb => ?_
  rw [firstT_ren h s _ h1 h2 h3]
  refine bnd_renO fun s y => ?_
  rw [hashT_ren h]
  refine bnd_renO fun s y => ?_
  rw [hashT_ren h]
  refine bnd_renO fun s y => ?_
  rw [agreedT_ren h]
  refine bnd_renO fun s x => ?_
  rw [mixT_ren h]
  refine bnd_renO fun s y => ?_
  rw [hashT_ren h]
  refine bnd_renO fun s y => ?_
  rw [unwrappedT_ren h]
  refine bnd_renO fun s x => ?_
  rw [mixT_ren h]
  refine bnd_renO fun s y => ?_
  rw [openT_ren h]
  refine bnd_renO fun s yp => ?_
  rw [whoT_ren]
  refine bnd_renO fun s i => ?_
  rw [agreedT_ren h]
  refine bnd_renO fun s x => ?_
  rw [mixT_ren h]
  refine bnd_renO fun s y => ?_
  rw [mixT_ren h]
  refine bnd_renO fun s y => ?_
  rw [openT_ren h]
  refine bnd_renO fun s yx => ?_
  exact opened_tail h hs _ _ _ _ _ _ _ _
theorem answerT_ren (st : Store) {o o' : Opened} {frm to d0 d1 : Int} (ho : o'.y = o.y ∧ o'.version = o.version ∧ o'.e = o.e ∧ o'.ek = o.ek ∧ o'.pub = o.pub) (h1 : ρ [UInt8.ofNat (o.version % 256).toNat] = [UInt8.ofNat (o.version % 256).toNat]) :
    answerT (sR ρ st) o' frm to d0 d1 = rR ρ (answerT st o frm to d0 d1) := by
  obtain ⟨e1, e2, e3, e4, e5⟩ := ho
  unfold answerT
  rw [e1, e2, e3, e4, e5, publicT_ren h]
  refine bnd_ren fun s e => ?_
  rw [hashT_ren h]
  refine bnd_ren fun s y => ?_
  rw [agreedT_ren h]
  refine bnd_ren fun s x => ?_
  rw [mixT_ren h]
  refine bnd_ren fun s y => ?_
  rw [agreedT_ren h]
  refine bnd_ren fun s x => ?_
  rw [mixT_ren h]
  refine bnd_ren fun s y => ?_
  rw [wrapT_ren h]
  refine bnd_ren fun s yb => ?_
  rw [textT_ren0 h s h1]
  refine bnd_ren fun s x => ?_
  rw [sealT_ren h]
  refine bnd_ren fun s yc => ?_
  rw [splitT_ren h]
  refine bnd_ren fun s ab => ?_
  rw [need_ren]
  exact bnd_ren fun s u => rfl
theorem finishT_ren (st : Store) {me : Pair} {q : Pending} {m : Msg} (hv : ∀ s : List UInt8, s.length = 1 ∨ (ρ s).length = 1 → s.length = 1 ∧ (ρ s).length = 1 ∧ (q.offer.contains (s.headD 0) = true ∨ q.offer.contains ((ρ s).headD 0) = true → ρ s = s)) :
    finishT (sR ρ st) me q m = rR ρ (finishT st me q m) := by
  unfold finishT
  rw [need_ren]
  refine bnd_ren fun s u => ?_
  rw [hashT_ren h]
  refine bnd_ren fun s y => ?_
  rw [agreedT_ren h]
  refine bnd_ren fun s x => ?_
  rw [mixT_ren h]
  refine bnd_ren fun s y => ?_
  rw [agreedT_ren h]
  refine bnd_ren fun s x => ?_
  rw [mixT_ren h]
  refine bnd_ren fun s y => ?_
  rw [hashT_ren h]
  refine bnd_ren fun s y => ?_
  rw [unwrappedT_ren h]
  refine bnd_ren fun s x => ?_
  rw [mixT_ren h]
  refine bnd_ren fun s y => ?_
  rw [openT_ren h]
  refine bnd_ren fun s yv => ?_
  unfold readT
  rw [at_ren h]
  have hk : (tR ρ (s.at yv.2)).k = (s.at yv.2).k := rfl
  have hss : (tR ρ (s.at yv.2)).s = ρ (s.at yv.2).s := rfl
  rw [hk, hss]
  split
  · obtain ⟨v, hvv⟩ : ∃ v, v = (s.at yv.2).s := ⟨_, rfl⟩
    rw [← hvv]
    simp only [bnd, need]
    by_cases hl : v.length = 1
    · obtain ⟨_, l2, l3⟩ := hv v (.inl hl)
      simp only [hl, l2, decide_true, if_true]
      by_cases hc : q.offer.contains (v.headD 0) = true
      · rw [l3 (.inl hc)]
        simp only [hc, if_true]
        rw [splitT_ren h]
        exact bnd_ren fun s ab => rfl
      · have hc2 : ¬ q.offer.contains ((ρ v).headD 0) = true := fun e => hc (by rw [l3 (.inr e)] at e; exact e)
        rw [if_neg hc, if_neg hc2]
        rfl
    · have hl2 : ¬ (ρ v).length = 1 := fun e => hl (hv v (.inr e)).1
      simp only [hl, hl2, decide_false, Bool.false_eq_true, if_false]
      rfl
  · rfl
end
def swp (a b : List UInt8) (s : List UInt8) : List UInt8 := if s = a then b else if s = b then a else s
theorem swp_swp (a b s : List UInt8) : swp a b (swp a b s) = s := by
  unfold swp
  by_cases h1 : s = a
  · subst h1
    by_cases h2 : b = s
    · simp [h2]
    · simp [h2]
  · by_cases h2 : s = b
    · simp [h1, h2]
    · simp [h1, h2]
theorem swp_fix {a b s : List UInt8} (h1 : s ≠ a) (h2 : s ≠ b) : swp a b s = s := by unfold swp; rw [if_neg h1, if_neg h2]
theorem swp_ren {a b : List UInt8} (ha : a ≠ []) (hb : b ≠ []) (la : a.length ≤ 1000) (lb : b.length ≤ 1000) : Ren (swp a b) := by
  refine ⟨fun x y e => ?_, swp_fix (Ne.symm ha) (Ne.symm hb), fun s => ?_⟩
  · have := congrArg (swp a b) e
    rwa [swp_swp, swp_swp] at this
  · unfold swp
    split
    · rename_i e; subst e; exact ⟨fun _ => la, fun _ => lb⟩
    · split
      · rename_i e; subst e; exact ⟨fun _ => lb, fun _ => la⟩
      · exact Iff.rfl
def swn (a b n : Nat) : Nat := if n = a then b else if n = b then a else n
theorem put_same {m n : Nat} (hm : m < 18446744073709551616) (hn : n < 18446744073709551616) (h : put m = put n) : m = n := put_inj (r := []) (s := []) hm hn (by rw [h])
theorem swp_stamps {a b : Nat} (ha : a < 18446744073709551616) (hb : b < 18446744073709551616) : Stamps (swp (put a) (put b)) (swn a b) := by
  have hp : ∀ n, n < 18446744073709551616 → swp (put a) (put b) (put n) = put (swn a b n) := fun n hn => by
    unfold swp swn
    by_cases h1 : n = a
    · subst h1; simp
    · have h1' : ¬ put n = put a := fun e => h1 (put_same hn ha e)
      by_cases h2 : n = b
      · subst h2; simp [h1, h1']
      · have h2' : ¬ put n = put b := fun e => h2 (put_same hn hb e)
        simp [h1, h1', h2, h2']
  refine ⟨hp, fun s n hn e => ?_, fun n hn => ?_⟩
  · have e2 := congrArg (swp (put a) (put b)) e
    rw [swp_swp] at e2
    unfold swp at e2
    split at e2
    · exact ⟨b, hb, e2⟩
    · split at e2
      · exact ⟨a, ha, e2⟩
      · subst e2
        exact ⟨n, hn, rfl⟩
  · unfold swn
    split
    · exact hb
    · split
      · exact ha
      · exact hn
end Sough
