/- Plain law of HandHides and HandErased: what can be made of what is heard of one handshake. No program in sight. -/
import Derived.Test.YtlfgempjjoclbaaLHdEndsPlain
import Derived.Test.YtlfgempjjoclbaaLKnRen
namespace Sough
def namesL (m : Msg) : List Int := if m.v 0 = 1 then [m.v 6, m.v 7, m.v 8, m.v 9, m.v 10] else if m.v 0 = 2 then [m.v 6, m.v 8, m.v 9] else if m.v 0 = 4 then [m.v 9] else []
def hd1 (k n : Nat) := beginR twoS me0 peer0 (reqM 7 [1] k) n 7 8 9
def hd2 (k n : Nat) := openR (hd1 k n).1 me1 [peer1] [1] (hd1 k n).2.1
def hd3 (k n : Nat) := answerR (hd2 k n).1 (hd2 k n).2.1 9 7 10 11
def hd4 (k n : Nat) := finishR (hd3 k n).1 me0 (hd1 k n).2.2.1 (hd3 k n).2.1
def heard (a b : Msg) : List Int := namesL a ++ namesL b ++ [17, 18, 15, 16]
def heardE (a b : Msg) : List Int := namesL a ++ namesL b ++ [1, 2, 3, 4, 5, 6, 17, 18, 15, 16]
def knowsB (st : Store) (known : List Int) (f : Flg) (no yes : List Int) : Bool :=
  (known.all fun y => st.has y) && (no.all fun x => st.has x) && (yes.all fun x => st.has x) &&
  (fun C : List Bool => (no.all fun x => !cn C x.toNat) && (yes.all fun x => cn C x.toNat)) (allK st f (st.l.length + 2) (knownK st known))
theorem knowsB_no {st : Store} {known no yes : List Int} {f : Flg} (h : knowsB st known f no yes = true) {x : Int} (hx : x ∈ no) : canK st known f x = (false, 0) := by
  unfold knowsB at h
  simp only [Bool.and_eq_true, List.all_eq_true] at h
  obtain ⟨⟨⟨h1, h2⟩, h3⟩, h4, h5⟩ := h
  unfold canK
  rw [if_neg (by rw [Bool.not_eq_false, List.all_eq_true]; exact h1), if_neg (by rw [h2 x hx]; simp)]
  have := h4 x hx
  rw [Bool.not_eq_true'] at this
  rw [this]
theorem knowsB_yes {st : Store} {known no yes : List Int} {f : Flg} (h : knowsB st known f no yes = true) {x : Int} (hx : x ∈ yes) : canK st known f x = (true, 0) := by
  unfold knowsB at h
  simp only [Bool.and_eq_true, List.all_eq_true] at h
  obtain ⟨⟨⟨h1, h2⟩, h3⟩, h4, h5⟩ := h
  unfold canK
  rw [if_neg (by rw [Bool.not_eq_false, List.all_eq_true]; exact h1), if_neg (by rw [h3 x hx]; simp), h5 x hx]
def hdOk (k n : Nat) : Prop := (hd1 k n).2.2.2 = 0 ∧ (hd2 k n).2.2 = 0 ∧ (hd3 k n).2.2.2 = 0 ∧ (hd4 k n).2.2 = 0 ∧ (hd1 k n).2.1.v 0 = 1 ∧ (hd3 k n).2.1.v 0 = 2
instance {k n : Nat} : Decidable (hdOk k n) := by unfold hdOk; infer_instance
def hdNo (k n : Nat) : List Int := [1, 2, 3, 4, 5, 6, 7, 8, 9, 10, 11, 12, 13, 14, (hd3 k n).2.2.1.send, (hd3 k n).2.2.1.recv]
def hdH (k n : Nat) (dh kem : Bool) : Bool := knowsB (hd4 k n).1 (heard (hd1 k n).2.1 (hd3 k n).2.1) ⟨dh, kem⟩ (hdNo k n) []
def hdY (k n : Nat) : Bool := knowsB (hd4 k n).1 (heard (hd1 k n).2.1 (hd3 k n).2.1 ++ [1, 2, 5, 6, 7, 8, 9]) ⟨false, false⟩ [] [(hd4 k n).2.1.send, (hd4 k n).2.1.recv]
def hdE (k n : Nat) (dh kem : Bool) : Bool := 
  if dh && kem then knowsB (hd4 k n).1 (heardE (hd1 k n).2.1 (hd3 k n).2.1) ⟨dh, kem⟩ [] [(hd3 k n).2.2.1.send, (hd4 k n).2.1.send]
  else knowsB (hd4 k n).1 (heardE (hd1 k n).2.1 (hd3 k n).2.1) ⟨dh, kem⟩ [(hd3 k n).2.2.1.send, (hd4 k n).2.1.send] []
set_option maxRecDepth 100000 in
theorem hd_ok : ∀ k < 2, ∀ n ∈ [1, 48, 49, 5, 300], hdOk k n := by decide +kernel
set_option maxRecDepth 100000 in
theorem hd_y : ∀ k < 2, ∀ n ∈ [1, 48, 49, 5, 300], hdY k n = true := by decide +kernel
set_option maxRecDepth 100000 in
theorem hd_h : ∀ k < 2, ∀ n ∈ [1, 48, 49, 5, 300], ∀ dh kem : Bool, hdH k n dh kem = true := by decide +kernel
set_option maxRecDepth 100000 in
theorem hd_e : ∀ k < 2, ∀ n ∈ [1, 48, 49, 5, 300], ∀ dh kem : Bool, hdE k n dh kem = true := by decide +kernel
end Sough
