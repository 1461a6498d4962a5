/- Plain law: what was put stays; so both ends of a handshake come to the same names. No program in sight. -/
import Derived.Test.YtlfgempjjoclbaaLHdRen
namespace Sough

/-- A store that has grown. -/
structure Ext (s s' : Store) : Prop where
  pre : s.l <+: s'.l
  most : s'.most = s.most
theorem Ext.refl (s : Store) : Ext s s := ⟨List.prefix_refl _, rfl⟩
theorem Ext.trans {a b c : Store} (h : Ext a b) (k : Ext b c) : Ext a c := ⟨h.pre.trans k.pre, k.most.trans h.most⟩
theorem has_iff {s : Store} {x : Int} : s.has x = true ↔ 1 ≤ x ∧ x ≤ s.l.length := by
  unfold Store.has; rw [Bool.and_eq_true, decide_eq_true_eq, decide_eq_true_eq]
theorem Ext.has {s s' : Store} (h : Ext s s') {x : Int} (hx : s.has x = true) : s'.has x = true := by
  have := h.pre.length_le
  rw [has_iff] at hx ⊢
  omega
/-- A name and its term. -/
structure Is (s : Store) (n : Int) (t : Term) : Prop where
  has : s.has n = true
  term : s.l[n.toNat - 1]? = some t
theorem Is.at {s : Store} {n : Int} {t : Term} (h : Is s n t) : s.at n = t := by
  unfold Store.at
  rw [if_pos h.has, List.getD_eq_getElem?_getD, h.term]; rfl
theorem Ext.is {s s' : Store} (h : Ext s s') {n : Int} {t : Term} (hi : Is s n t) : Is s' n t := by
  refine ⟨h.has hi.has, ?_⟩
  obtain ⟨u, hu⟩ := h.pre
  have hl := (List.getElem?_eq_some_iff.1 hi.term).1
  rw [← hu, List.getElem?_append_left hl]
  exact hi.term
theorem Is.inj {s : Store} {n : Int} {t u : Term} (h : Is s n t) (k : Is s n u) : t = u := by
  have := h.term.symm.trans k.term
  simpa using this
theorem Is.pos {s : Store} {n : Int} {t : Term} (h : Is s n t) : 1 ≤ n ∧ n ≤ s.l.length := has_iff.1 h.has

theorem may_mono {a b : Store} {t : Term} (hl : a.l.length ≤ b.l.length) (h : a.may t = true) : b.may t = true := by
  unfold Store.may at h ⊢
  rw [Bool.and_eq_true, List.all_eq_true] at h ⊢
  refine ⟨h.1, fun p hp => ?_⟩
  have := h.2 p hp
  rw [Bool.and_eq_true, decide_eq_true_eq, decide_eq_true_eq] at this ⊢
  omega
/-- What is there is put again, and has its name. -/
theorem put_is {s : Store} (hs : s.Ok) {n : Int} {t : Term} (h : Is s n t) : s.put t = (s, n.toNat, 0) := by
  obtain ⟨h1, h2⟩ := h.pos
  obtain ⟨hlt, hget⟩ := List.getElem?_eq_some_iff.1 h.term
  have hm : s.may t = true := by
    have := hs.may (n.toNat - 1) hlt
    rw [hget] at this
    exact may_mono (by simp only [List.length_take]; omega) this
  have hf : s.find t = some (n.toNat - 1) := by
    unfold Store.find
    rw [List.findIdx?_eq_some_iff_getElem]
    refine ⟨hlt, by simpa using hget, fun j hj => ?_⟩
    have hjl : j < s.l.length := by omega
    simp only [decide_eq_true_eq]
    intro e
    have := (List.getElem_inj hs.each).1 (e.trans hget.symm)
    omega
  unfold Store.put
  rw [hm, if_neg (by simp), hf]
  simp only [Prod.mk.injEq, true_and, and_true]
  omega
theorem toNat_of {s : Store} {n : Int} {t : Term} (h : Is s n t) : ((n.toNat : Nat) : Int) = n := by have := h.pos; omega
/-- Behind a step: so many terms more at most. -/
structure St (s s' : Store) (k : Nat) : Prop where
  ok : s'.Ok
  ext : Ext s s'
  len : s'.l.length ≤ s.l.length + k
theorem put_do {s : Store} (hs : s.Ok) {t : Term} (ht : t.Wf) (hm : mayT t = true) (hp : ∀ q ∈ partsOf t, s.has q = true) (hr : s.l.length < s.most) : ∃ s' n, s.put t = (s', n, 0) ∧ St s s' 1 ∧ Is s' (n : Int) t := by
  have hmay : s.may t = true := by
    unfold Store.may
    rw [hm, Bool.true_and, List.all_eq_true]
    intro q hq
    have := hp q hq
    unfold Store.has at this
    exact this
  have hok := hs.put ht
  unfold Store.put at hok ⊢
  rw [hmay] at hok ⊢
  rw [if_neg (by simp)] at hok ⊢
  cases hf : s.find t with
  | some i =>
    rw [hf] at hok
    obtain ⟨hlt, he, _⟩ := List.findIdx?_eq_some_iff_getElem.1 hf
    refine ⟨s, i + 1, rfl, ⟨hs, Ext.refl s, by omega⟩, has_iff.2 (by omega), ?_⟩
    rw [show ((i + 1 : Nat) : Int).toNat - 1 = i by omega, List.getElem?_eq_getElem hlt]
    simpa using he
  | none =>
    rw [hf] at hok
    simp only at hok ⊢
    rw [if_neg (by omega)] at hok ⊢
    refine ⟨_, _, rfl, ⟨hok, ⟨List.prefix_append _ _, rfl⟩, by simp⟩, has_iff.2 (by simp; omega), ?_⟩
    rw [show ((s.l.length + 1 : Nat) : Int).toNat - 1 = s.l.length by omega]
    simp

def txT (l : List UInt8) : Term := ⟨1, l, 0, 0, 0, 0⟩
def pbT (x : Int) : Term := ⟨3, [], 0, x, 0, 0⟩
def kpT (x : Int) : Term := ⟨5, [], 0, x, 0, 0⟩
def shT (x a : Int) : Term := if a < x then ⟨4, [], 0, a, x, 0⟩ else ⟨4, [], 0, x, a, 0⟩
def bxT (a d : Int) : Term := ⟨6, [], 0, a, d, 0⟩
def kmT (a d : Int) : Term := ⟨7, [], 0, a, d, 0⟩
def hsT (a b : Int) : Term := ⟨8, [], 0, a, b, 0⟩
def kyT (g : Int) (n : Nat) : Term := ⟨9, [], n, g, 0, 0⟩
def slT (k : Int) (n : Nat) (b x : Int) : Term := ⟨10, [], n, k, b, x⟩
theorem shT_comm (x a : Int) : shT x a = shT a x := by
  unfold shT
  rcases Int.lt_trichotomy a x with h | h | h
  · rw [if_pos h, if_neg (by omega)]
  · subst h; rfl
  · rw [if_neg (by omega), if_pos h]
theorem has64 {s : Store} (h : s.Ok) {x : Int} (hx : s.has x = true) : Int64 x := by
  have h1 := h.len; have h2 := h.most; rw [has_iff] at hx
  exact ⟨by omega, by omega⟩
theorem mayT_of {k a b c : Int} {n : Nat} {l : List UInt8} (h1 : 1 ≤ k) (h2 : k < 12) (ho : onlyT ⟨k, l, n, a, b, c⟩ = ⟨k, l, n, a, b, c⟩) (hl : l.length ≤ 1000) (h4 : k = 4 → a ≤ b) : mayT ⟨k, l, n, a, b, c⟩ = true := by
  unfold mayT
  rw [ho]
  simp only [decide_true, Bool.and_true, Bool.and_eq_true, decide_eq_true_eq, Bool.not_eq_true', Bool.and_eq_false_iff, decide_eq_false_iff_not]
  refine ⟨⟨⟨h1, h2⟩, hl⟩, ?_⟩
  by_cases e : k = 4
  · right; have := h4 e; omega
  · left; exact e

section
variable {s : Store} (hs : s.Ok) (hr : s.l.length + 20 ≤ s.most)
include hs
theorem textT_is {n : Int} {l : List UInt8} (h : Is s n (txT l)) : textT s l = (s, .ok n) := by
  unfold textT Store.putText res1
  rw [show (⟨1, l, 0, 0, 0, 0⟩ : Term) = txT l from rfl, put_is hs h]
  simp [toNat_of h]
theorem publicT_is {n x : Int} (h : Is s n (pbT x)) : publicT s x = (s, .ok n) := by
  unfold publicT dhPublic res1
  rw [show (⟨3, [], 0, x, 0, 0⟩ : Term) = pbT x from rfl, put_is hs h]
  simp [toNat_of h]
theorem wrappingT_is {n x : Int} (h : Is s n (kpT x)) : wrappingT s x = (s, .ok n) := by
  unfold wrappingT kemPublic res1
  rw [show (⟨5, [], 0, x, 0, 0⟩ : Term) = kpT x from rfl, put_is hs h]
  simp [toNat_of h]
omit hs in
theorem agree_eq {x q a : Int} (hx : s.has x = true) (hq : Is s q (pbT a)) : dhAgree s x q = s.put (shT x a) := by
  unfold dhAgree
  rw [hq.at, hx, if_neg (by simp [pbT])]
  unfold shT pbT
  split <;> rfl
theorem agreedT_is {n x q a : Int} (hx : s.has x = true) (hq : Is s q (pbT a)) (h : Is s n (shT x a)) : agreedT s x q = (s, .ok n) := by
  unfold agreedT res1
  rw [agree_eq hx hq, put_is hs h]
  simp [toNat_of h]
theorem hashT_is {y : Sym} {x z : Int} (h : Is s z (hsT y.h x)) : hashT s y x = (s, .ok ⟨y.ck, y.k, z, y.n⟩) := by
  unfold hashT symHash kdfHash resY
  rw [show (⟨8, [], 0, y.h, x, 0⟩ : Term) = hsT y.h x from rfl, put_is hs h]
  simp [toNat_of h]
theorem kmix_is {c x g a b : Int} (h1 : Is s g (hsT c x)) (h2 : Is s a (kyT g 1)) (h3 : Is s b (kyT g 2)) : kdfMix s c x = (s, a.toNat, b.toNat, 0) := by
  unfold kdfMix kdfHash
  rw [show (⟨8, [], 0, c, x, 0⟩ : Term) = hsT c x from rfl, put_is hs h1]
  simp only [ne_eq, not_true, if_false]
  rw [toNat_of h1]
  unfold Store.put2
  rw [show (⟨9, [], 1, g, 0, 0⟩ : Term) = kyT g 1 from rfl, show (⟨9, [], 2, g, 0, 0⟩ : Term) = kyT g 2 from rfl, put_is hs h2]
  simp only [ne_eq, not_true, if_false]
  rw [put_is hs h3]
  simp
theorem mixT_is {y : Sym} {x g a b : Int} (h1 : Is s g (hsT y.ck x)) (h2 : Is s a (kyT g 1)) (h3 : Is s b (kyT g 2)) : mixT s y x = (s, .ok ⟨a, b, y.h, 0⟩) := by
  unfold mixT symMix resY
  rw [kmix_is hs h1 h2 h3]
  simp [toNat_of h2, toNat_of h3]
theorem openT_is {y : Sym} {c x z : Int} (hy : y.ready = true) (hk : s.has y.k = true) (hh : s.has y.h = true) (h1 : Is s c (slT y.k y.n y.h x)) (h2 : Is s z (hsT y.h c)) : openT s y c = (s, .ok (⟨y.ck, y.k, z, y.n + 1⟩, x)) := by
  have ho : aeadOpen s y.k y.n y.h c = (x, 0) := by
    unfold aeadOpen
    rw [hk, hh, h1.has, h1.at, if_neg (by simp), if_neg (by simp [slT])]
    rfl
  unfold openT symOpen resYX
  rw [ho, hy, if_neg (by simp)]
  unfold symSaid symHash kdfHash
  simp only [ne_eq, not_true, if_false]
  rw [show (⟨8, [], 0, y.h, c, 0⟩ : Term) = hsT y.h c from rfl, put_is hs h2]
  simp [toNat_of h2]
theorem unwrappedT_is {a b d k : Int} (ha : s.has a = true) (h1 : Is s b (bxT a d)) (h2 : Is s k (kmT a d)) : unwrappedT s a b = (s, .ok k) := by
  unfold unwrappedT kemOpen res1
  rw [ha, h1.has, h1.at, if_neg (by simp), if_neg (by simp [bxT])]
  rw [show (⟨7, [], 0, a, (bxT a d).b, 0⟩ : Term) = kmT a d from rfl, put_is hs h2]
  simp [toNat_of h2]
theorem splitT_is {y : Sym} {t g a b : Int} (h0 : Is s t (txT [])) (h1 : Is s g (hsT y.ck t)) (h2 : Is s a (kyT g 1)) (h3 : Is s b (kyT g 2)) : splitT s y = (s, .ok (a, b)) := by
  unfold splitT symSplit Store.putText res2
  rw [show (⟨1, [], 0, 0, 0, 0⟩ : Term) = txT [] from rfl, put_is hs h0]
  simp only [ne_eq, not_true, if_false]
  rw [toNat_of h0, kmix_is hs h1 h2 h3]
  simp [toNat_of h2, toNat_of h3]
omit hs in
theorem readT_is {n : Int} {l : List UInt8} (h : Is s n (txT l)) : readT s n = (s, .ok l) := by
  unfold readT
  rw [h.at]; rfl

include hr
theorem textT_do {l : List UInt8} (hl : l.length ≤ 1000) : ∃ s' n, textT s l = (s', .ok n) ∧ St s s' 1 ∧ Is s' n (txT l) := by
  obtain ⟨s', n, h1, h2, h3⟩ := put_do hs (t := txT l) (wf_of (by omega) (by omega) (by omega) i64_zero i64_zero i64_zero) (mayT_of (by omega) (by omega) (by simp [onlyT, partsOf]) hl (by omega)) (by intro q hq; simp [txT, partsOf] at hq) (by omega)
  refine ⟨s', n, ?_, h2, h3⟩
  unfold textT Store.putText res1
  rw [show (⟨1, l, 0, 0, 0, 0⟩ : Term) = txT l from rfl, h1]
  simp
theorem publicT_do {x : Int} (hx : s.has x = true) : ∃ s' n, publicT s x = (s', .ok n) ∧ St s s' 1 ∧ Is s' n (pbT x) := by
  obtain ⟨s', n, h1, h2, h3⟩ := put_do hs (t := pbT x) (wf_of (by omega) (by simp) (by omega) (has64 hs hx) i64_zero i64_zero) (mayT_of (by omega) (by omega) (by simp [onlyT, partsOf]) (by simp) (by omega)) (by intro q hq; simp [pbT, partsOf] at hq; subst hq; exact hx) (by omega)
  refine ⟨s', n, ?_, h2, h3⟩
  unfold publicT dhPublic res1
  rw [show (⟨3, [], 0, x, 0, 0⟩ : Term) = pbT x from rfl, h1]
  simp
theorem wrappingT_do {x : Int} (hx : s.has x = true) : ∃ s' n, wrappingT s x = (s', .ok n) ∧ St s s' 1 ∧ Is s' n (kpT x) := by
  obtain ⟨s', n, h1, h2, h3⟩ := put_do hs (t := kpT x) (wf_of (by omega) (by simp) (by omega) (has64 hs hx) i64_zero i64_zero) (mayT_of (by omega) (by omega) (by simp [onlyT, partsOf]) (by simp) (by omega)) (by intro q hq; simp [kpT, partsOf] at hq; subst hq; exact hx) (by omega)
  refine ⟨s', n, ?_, h2, h3⟩
  unfold wrappingT kemPublic res1
  rw [show (⟨5, [], 0, x, 0, 0⟩ : Term) = kpT x from rfl, h1]
  simp
theorem agreedT_do {x q a : Int} (hx : s.has x = true) (hq : Is s q (pbT a)) (ha : s.has a = true) : ∃ s' n, agreedT s x q = (s', .ok n) ∧ St s s' 1 ∧ Is s' n (shT x a) := by
  have hw : (shT x a).Wf := by
    unfold shT; split
    · exact wf_of (by omega) (by simp) (by omega) (has64 hs ha) (has64 hs hx) i64_zero
    · exact wf_of (by omega) (by simp) (by omega) (has64 hs hx) (has64 hs ha) i64_zero
  have hm : mayT (shT x a) = true := by
    unfold shT; split
    · exact mayT_of (by omega) (by omega) (by simp [onlyT, partsOf]) (by simp) (by omega)
    · exact mayT_of (by omega) (by omega) (by simp [onlyT, partsOf]) (by simp) (by omega)
  have hp : ∀ r ∈ partsOf (shT x a), s.has r = true := by
    intro r hr
    unfold shT at hr
    split at hr
    · simp [partsOf] at hr; rcases hr with rfl | rfl <;> first | exact ha | exact hx
    · simp [partsOf] at hr; rcases hr with rfl | rfl <;> first | exact ha | exact hx
  obtain ⟨s', n, h1, h2, h3⟩ := put_do hs hw hm hp (by omega)
  refine ⟨s', n, ?_, h2, h3⟩
  unfold agreedT res1
  rw [agree_eq hx hq, h1]
  simp
theorem hashT_do {y : Sym} {x : Int} (hy : s.has y.h = true) (hx : s.has x = true) : ∃ s' z, hashT s y x = (s', .ok ⟨y.ck, y.k, z, y.n⟩) ∧ St s s' 1 ∧ Is s' z (hsT y.h x) := by
  obtain ⟨s', n, h1, h2, h3⟩ := put_do hs (t := hsT y.h x) (wf_of (by omega) (by simp) (by omega) (has64 hs hy) (has64 hs hx) i64_zero) (mayT_of (by omega) (by omega) (by simp [onlyT, partsOf]) (by simp) (by omega)) (by intro q hq; simp [hsT, partsOf] at hq; rcases hq with rfl | rfl; exact hy; exact hx) (by omega)
  refine ⟨s', n, ?_, h2, h3⟩
  unfold hashT symHash kdfHash resY
  rw [show (⟨8, [], 0, y.h, x, 0⟩ : Term) = hsT y.h x from rfl, h1]
  simp
omit hr in
theorem keys_do {g : Int} (hr : s.l.length + 2 ≤ s.most) (hg : s.has g = true) : ∃ s' a b, s.put2 (kyT g 1) (kyT g 2) = (s', a, b, 0) ∧ St s s' 2 ∧ Is s' (a : Int) (kyT g 1) ∧ Is s' (b : Int) (kyT g 2) := by
  have hw : ∀ n : Nat, n < 18446744073709551616 → (kyT g n).Wf := fun n hn => wf_of (by omega) (by simp) hn (has64 hs hg) i64_zero i64_zero
  have hm : ∀ n : Nat, mayT (kyT g n) = true := fun n => mayT_of (by omega) (by omega) (by simp [onlyT, partsOf]) (by simp) (by omega)
  obtain ⟨s1, a, h1, h2, h3⟩ := put_do hs (hw 1 (by omega)) (hm 1) (by intro q hq; simp [kyT, partsOf] at hq; subst hq; exact hg) (by omega)
  obtain ⟨s2, b, h4, h5, h6⟩ := put_do h2.ok (hw 2 (by omega)) (hm 2) (by intro q hq; simp [kyT, partsOf] at hq; subst hq; exact h2.ext.has hg) (by have := h2.len; have := h2.ext.most; omega)
  refine ⟨s2, a, b, ?_, ⟨h5.ok, h2.ext.trans h5.ext, by have := h2.len; have := h5.len; omega⟩, h5.ext.is h3, h6⟩
  unfold Store.put2
  rw [h1]
  simp only [ne_eq, not_true, if_false]
  rw [h4]
  simp
omit hr in
theorem kmix_do {c x : Int} (hr : s.l.length + 3 ≤ s.most) (hc : s.has c = true) (hx : s.has x = true) : ∃ s' g a b, kdfMix s c x = (s', a, b, 0) ∧ St s s' 3 ∧ Is s' g (hsT c x) ∧ Is s' (a : Nat) (kyT g 1) ∧ Is s' (b : Nat) (kyT g 2) := by
  obtain ⟨s1, g, h1, h2, h3⟩ := put_do hs (t := hsT c x) (wf_of (by omega) (by simp) (by omega) (has64 hs hc) (has64 hs hx) i64_zero) (mayT_of (by omega) (by omega) (by simp [onlyT, partsOf]) (by simp) (by omega)) (by intro q hq; simp [hsT, partsOf] at hq; rcases hq with rfl | rfl; exact hc; exact hx) (by omega)
  obtain ⟨s2, a, b, h4, h5, h6, h7⟩ := keys_do h2.ok (by have := h2.len; have := h2.ext.most; omega) h3.has
  refine ⟨s2, g, a, b, ?_, ⟨h5.ok, h2.ext.trans h5.ext, by have := h2.len; have := h5.len; omega⟩, h5.ext.is h3, h6, h7⟩
  unfold kdfMix kdfHash
  rw [show (⟨8, [], 0, c, x, 0⟩ : Term) = hsT c x from rfl, h1]
  simp only [ne_eq, not_true, if_false]
  exact h4
theorem mixT_do {y : Sym} {x : Int} (hy : s.has y.ck = true) (hx : s.has x = true) : ∃ s' g a b, mixT s y x = (s', .ok ⟨a, b, y.h, 0⟩) ∧ St s s' 3 ∧ Is s' g (hsT y.ck x) ∧ Is s' a (kyT g 1) ∧ Is s' b (kyT g 2) := by
  obtain ⟨s', g, a, b, h1, h2, h3, h4, h5⟩ := kmix_do hs (by omega) hy hx
  refine ⟨s', g, a, b, ?_, h2, h3, h4, h5⟩
  unfold mixT symMix resY
  rw [h1]
  simp
theorem sealT_do {y : Sym} {x : Int} (hy : y.ready = true) (hk : s.has y.k = true) (hh : s.has y.h = true) (hx : s.has x = true) (hn : y.n < 18446744073709551616) : ∃ s' c z, sealT s y x = (s', .ok (⟨y.ck, y.k, z, y.n + 1⟩, c)) ∧ St s s' 2 ∧ Is s' c (slT y.k y.n y.h x) ∧ Is s' z (hsT y.h c) := by
  obtain ⟨s1, c, h1, h2, h3⟩ := put_do hs (t := slT y.k y.n y.h x) (wf_of (by omega) (by simp) hn (has64 hs hk) (has64 hs hh) (has64 hs hx)) (mayT_of (by omega) (by omega) (by simp [onlyT, partsOf]) (by simp) (by omega)) (by intro q hq; simp [slT, partsOf] at hq; rcases hq with rfl | rfl | rfl; exact hk; exact hh; exact hx) (by omega)
  obtain ⟨s2, z, h4, h5, h6⟩ := put_do h2.ok (t := hsT y.h c) (wf_of (by omega) (by simp) (by omega) (has64 hs hh) (has64 h2.ok h3.has) i64_zero) (mayT_of (by omega) (by omega) (by simp [onlyT, partsOf]) (by simp) (by omega)) (by intro q hq; simp [hsT, partsOf] at hq; rcases hq with rfl | rfl; exact h2.ext.has hh; exact h3.has) (by have := h2.len; have := h2.ext.most; omega)
  refine ⟨s2, c, z, ?_, ⟨h5.ok, h2.ext.trans h5.ext, by have := h2.len; have := h5.len; omega⟩, h5.ext.is h3, h6⟩
  unfold sealT symSeal aeadSeal resYX
  rw [hy, if_neg (by simp), show (⟨10, [], y.n, y.k, y.h, x⟩ : Term) = slT y.k y.n y.h x from rfl, h1]
  unfold symSaid symHash kdfHash
  simp only [ne_eq, not_true, if_false]
  rw [show (⟨8, [], 0, y.h, (c : Int), 0⟩ : Term) = hsT y.h c from rfl, h4]
  simp
theorem splitT_do {y : Sym} (hy : s.has y.ck = true) : ∃ s' t g a b, splitT s y = (s', .ok (a, b)) ∧ St s s' 4 ∧ Is s' t (txT []) ∧ Is s' g (hsT y.ck t) ∧ Is s' a (kyT g 1) ∧ Is s' b (kyT g 2) := by
  obtain ⟨s1, t, h1, h2, h3⟩ := put_do hs (t := txT []) (wf_of (by omega) (by simp) (by omega) i64_zero i64_zero i64_zero) (by decide) (by intro q hq; simp [txT, partsOf] at hq) (by omega)
  obtain ⟨s2, g, a, b, h4, h5, h6, h7, h8⟩ := kmix_do h2.ok (by have := h2.len; have := h2.ext.most; omega) (h2.ext.has hy) h3.has
  refine ⟨s2, t, g, a, b, ?_, ⟨h5.ok, h2.ext.trans h5.ext, by have := h2.len; have := h5.len; omega⟩, h5.ext.is h3, h6, h7, h8⟩
  unfold splitT symSplit Store.putText res2
  rw [show (⟨1, [], 0, 0, 0, 0⟩ : Term) = txT [] from rfl, h1]
  simp only [ne_eq, not_true, if_false]
  rw [h4]
  simp
theorem wrapT_do {y : Sym} {q a d : Int} (hq : Is s q (kpT a)) (ha : s.has a = true) (hd : s.has d = true) (hk : s.has y.ck = true) (hh : s.has y.h = true) :
    ∃ s' b k z g a' b', wrapT s y q d = (s', .ok (⟨a', b', z, 0⟩, b)) ∧ St s s' 6 ∧ Is s' b (bxT a d) ∧ Is s' k (kmT a d) ∧ Is s' z (hsT y.h b) ∧ Is s' g (hsT y.ck k) ∧ Is s' a' (kyT g 1) ∧ Is s' b' (kyT g 2) := by
  obtain ⟨s1, b, h1, h2, h3⟩ := put_do hs (t := bxT a d) (wf_of (by omega) (by simp) (by omega) (has64 hs ha) (has64 hs hd) i64_zero) (mayT_of (by omega) (by omega) (by simp [onlyT, partsOf]) (by simp) (by omega)) (by intro q hq; simp [bxT, partsOf] at hq; rcases hq with rfl | rfl; exact ha; exact hd) (by omega)
  obtain ⟨s2, k, h4, h5, h6⟩ := put_do h2.ok (t := kmT a d) (wf_of (by omega) (by simp) (by omega) (has64 hs ha) (has64 hs hd) i64_zero) (mayT_of (by omega) (by omega) (by simp [onlyT, partsOf]) (by simp) (by omega)) (by intro q hq; simp [kmT, partsOf] at hq; rcases hq with rfl | rfl; exact h2.ext.has ha; exact h2.ext.has hd) (by have := h2.len; have := h2.ext.most; omega)
  have e12 := h2.ext.trans h5.ext
  have hl2 : s2.l.length + 15 ≤ s2.most := by have := h2.len; have := h5.len; have := e12.most; omega
  have hw : res2 (kemWrap s q d) = (s2, .ok ((b : Int), (k : Int))) := by
    unfold kemWrap res2
    rw [hq.at, hd, if_neg (by simp [kpT])]
    unfold Store.put2
    rw [show (⟨6, [], 0, (kpT a).a, d, 0⟩ : Term) = bxT a d from rfl, h1]
    simp only [ne_eq, not_true, if_false]
    rw [show (⟨7, [], 0, (kpT a).a, d, 0⟩ : Term) = kmT a d from rfl, h4]
    simp
  obtain ⟨s3, z, h7, h8, h9⟩ := put_do h5.ok (t := hsT y.h b) (wf_of (by omega) (by simp) (by omega) (has64 hs hh) (has64 h2.ok h3.has) i64_zero) (mayT_of (by omega) (by omega) (by simp [onlyT, partsOf]) (by simp) (by omega)) (by intro q hq; simp [hsT, partsOf] at hq; rcases hq with rfl | rfl; exact e12.has hh; exact h5.ext.has h3.has) (by omega)
  have hh3 : hashT s2 y b = (s3, .ok ⟨y.ck, y.k, z, y.n⟩) := by
    unfold hashT symHash kdfHash resY
    rw [show (⟨8, [], 0, y.h, (b : Int), 0⟩ : Term) = hsT y.h b from rfl, h7]
    simp
  obtain ⟨s4, g, a', b', h10, h11, h12, h13, h14⟩ := kmix_do h8.ok (c := y.ck) (x := k) (by have := h8.len; have := h8.ext.most; omega) ((e12.trans h8.ext).has hk) (h8.ext.has h6.has)
  have e34 := h8.ext.trans h11.ext
  refine ⟨s4, b, k, z, g, a', b', ?_, ⟨h11.ok, e12.trans e34, by have := h2.len; have := h5.len; have := h8.len; have := h11.len; omega⟩, (h5.ext.trans e34).is h3, e34.is h6, h11.ext.is h9, h12, h13, h14⟩
  unfold wrapT
  rw [hw]
  simp only [bnd]
  rw [hh3]
  simp only
  have hm : mixT s3 ⟨y.ck, y.k, z, y.n⟩ k = (s4, .ok ⟨a', b', z, 0⟩) := by
    unfold mixT symMix resY
    rw [h10]
    simp
  rw [hm]
end
end Sough
