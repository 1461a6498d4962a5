/- Plain law of HandEnds. No program in sight. (Printed by wip/tools/mkends.py.) -/
import Derived.Test.YtlfgempjjoclbaaLHdStranger
namespace Sough
theorem answerR_ren {ρ : List UInt8 → List UInt8} (h : Ren ρ) (st : Store) {o o' : Opened} {frm to d0 d1 : Int} (ho : o'.y = o.y ∧ o'.version = o.version ∧ o'.e = o.e ∧ o'.ek = o.ek ∧ o'.pub = o.pub) (h1 : ρ [UInt8.ofNat (o.version % 256).toNat] = [UInt8.ofNat (o.version % 256).toNat]) :
    answerR (sR ρ st) o' frm to d0 d1 = (sR ρ (answerR st o frm to d0 d1).1, (answerR st o frm to d0 d1).2) := by
  unfold answerR
  rw [answerT_ren h st ho h1]
  rfl
theorem finishR_ren {ρ : List UInt8 → List UInt8} (h : Ren ρ) (st : Store) {me : Pair} {q : Pending} {m : Msg} (hv : ∀ s : List UInt8, s.length = 1 ∨ (ρ s).length = 1 → s.length = 1 ∧ (ρ s).length = 1 ∧ (q.offer.contains (s.headD 0) = true ∨ q.offer.contains ((ρ s).headD 0) = true → ρ s = s)) :
    finishR (sR ρ st) me q m = (sR ρ (finishR st me q m).1, (finishR st me q m).2) := by
  unfold finishR
  rw [finishT_ren h st hv]
  rfl
theorem put_one {n : Nat} (h : n < 128) : put n = [UInt8.ofNat n] := by
  unfold put
  rw [Nat.div_eq_of_lt h, putHi_zero, Nat.mod_eq_of_lt h]; rfl
theorem put_two {n : Nat} (h : 128 ≤ n) : (put n).length ≠ 1 := by
  unfold put
  have : n / 128 ≠ 0 := by omega
  simp only [putHi, if_neg this, List.length_append, List.length_singleton]
  omega
theorem swp_one {a b l : List UInt8} (h : (a.length ≠ 1 ∧ b.length ≠ 1) ∨ (a.length = 1 ∧ b.length = 1 ∧ l.contains (a.headD 0) = false ∧ l.contains (b.headD 0) = false)) (s : List UInt8) (hs : s.length = 1 ∨ (swp a b s).length = 1) :
    s.length = 1 ∧ (swp a b s).length = 1 ∧ (l.contains (s.headD 0) = true ∨ l.contains ((swp a b s).headD 0) = true → swp a b s = s) := by
  unfold swp at hs ⊢
  by_cases h1 : s = a
  · subst h1
    simp only [if_true] at hs ⊢
    rcases h with ⟨h2, h3⟩ | ⟨h2, h3, h4, h5⟩
    · omega
    · exact ⟨h2, h3, fun e => by rw [h4, h5] at e; simp at e⟩
  · simp only [if_neg h1] at hs ⊢
    by_cases h2 : s = b
    · subst h2
      simp only [if_true] at hs ⊢
      rcases h with ⟨h2, h3⟩ | ⟨h2, h3, h4, h5⟩
      · omega
      · exact ⟨h3, h2, fun e => by rw [h4, h5] at e; simp at e⟩
    · simp only [if_neg h2] at hs ⊢
      exact ⟨by omega, by omega, fun _ => trivial⟩
def enD : Nat → Int × Int × Int
  | 0 => (7, 13, 14)
  | 1 => (12, 8, 14)
  | _ => (12, 13, 9)
def en1 (n : Nat) := beginR twoS me0 peer0 (reqM 7 [2, 1] 0) n 7 8 9
def en2 (n o : Nat) := beginR (en1 n).1 me0 peer0 (reqM 8 [2, 1] 0) n (enD o).1 (enD o).2.1 (enD o).2.2
def en3 (n o : Nat) := openR (en2 n o).1 me1 [peer1] [1] (en1 n).2.1
def en4 (n o : Nat) := answerR (en3 n o).1 (en3 n o).2.1 9 7 10 11
def en5 (n o : Nat) := finishR (en4 n o).1 me0 (en1 n).2.2.1 (en4 n o).2.1
def en6 (n o : Nat) := finishR (en5 n o).1 me0 (en1 n).2.2.1 (en4 n o).2.1
def en7 (n o : Nat) := finishR (en6 n o).1 me0 (en2 n o).2.2.1 (en4 n o).2.1
def en8 (n o : Nat) := finishR (en7 n o).1 me0 (en1 n).2.2.1 (en1 n).2.1
def en9 (n o : Nat) := finishR (en8 n o).1 me1 (en1 n).2.2.1 (en4 n o).2.1
def enP (n o : Nat) : Prop := (en1 n).2.2.2 = 0 ∧ (en2 n o).2.2.2 = 0 ∧ (en3 n o).2.2 = 0 ∧ (en4 n o).2.2.2 = 0 ∧ (en5 n o).2.2 = 0 ∧ (en6 n o).2.2 = 0 ∧ (en5 n o).2.1 = (en6 n o).2.1 ∧ (en5 n o).2.1.h = (en4 n o).2.2.1.h ∧ (en7 n o).2.2 ≠ 0 ∧ (en7 n o).2.1 = zeroS ∧ (en8 n o).2.2 = 3 ∧ (en9 n o).2.2 ≠ 0
instance {n o : Nat} : Decidable (enP n o) := by unfold enP; infer_instance
def enQ (n o : Nat) : Prop := (en1 n).2.1.offer = [2, 1] ∧ (en1 n).2.1.v 4 = 0 ∧ (en1 n).2.2.1.offer = [2, 1] ∧ (en2 n o).2.2.1.offer = [2, 1] ∧ (en3 n o).2.1 ≠ zeroO ∧ (en3 n o).2.1.version = 1
instance {n o : Nat} : Decidable (enQ n o) := by unfold enQ; infer_instance
end Sough
