/- Plain law of HandEnds. No program in sight. (Printed by wip/tools/mkends.py.) -/
import Derived.Test.YtlfgempjjoclbaaLHdStranger
namespace Sough
theorem answerR_ren {ρ : List UInt8 → List UInt8} (h : Ren ρ) (st : Store) {o o' : Opened} {frm to d0 d1 : Int} (ho : o'.y = o.y ∧ o'.version = o.version ∧ o'.e = o.e ∧ o'.ek = o.ek ∧ o'.pub = o.pub) (h1 : ρ [UInt8.ofNat (o.version % 256).toNat] = [UInt8.ofNat (o.version % 256).toNat]) :
    answerR (sR ρ st) o' frm to d0 d1 = (sR ρ (answerR st o frm to d0 d1).1, (answerR st o frm to d0 d1).2) := by
  unfold answerR
  rw [answerT_ren h st ho h1]
  rfl
theorem finishR_ren {ρ : List UInt8 → List UInt8} (h : Ren ρ) (st : Store) {me : Pair} {q : Pending} {m : Msg} (hv : ∀ s : List UInt8, s.length = 1 ∨ (ρ s).length = 1 → s.length = 1 ∧ (ρ s).length = 1 ∧ (q.offer.contains (s.headD 0) = true ∨ q.offer.contains ((ρ s).headD 0) = true → ρ s = s)) :
    finishR (sR ρ st) me q m = (sR ρ (finishR st me q m).1, (finishR st me q m).2) := by
  unfold finishR
  rw [finishT_ren h st hv]
  rfl
theorem put_one {n : Nat} (h : n < 128) : put n = [UInt8.ofNat n] := by
  unfold put
  rw [Nat.div_eq_of_lt h, putHi_zero, Nat.mod_eq_of_lt h]; rfl
theorem put_two {n : Nat} (h : 128 ≤ n) : (put n).length ≠ 1 := by
  unfold put
  have : n / 128 ≠ 0 := by omega
  simp only [putHi, if_neg this, List.length_append, List.length_singleton]
  omega
theorem swp_one {a b l : List UInt8} (h : (a.length ≠ 1 ∧ b.length ≠ 1) ∨ (a.length = 1 ∧ b.length = 1 ∧ l.contains (a.headD 0) = false ∧ l.contains (b.headD 0) = false)) (s : List UInt8) (hs : s.length = 1 ∨ (swp a b s).length = 1) :
    s.length = 1 ∧ (swp a b s).length = 1 ∧ (l.contains (s.headD 0) = true ∨ l.contains ((swp a b s).headD 0) = true → swp a b s = s) := by
  unfold swp at hs ⊢
  by_cases h1 : s = a
  · subst h1
    simp only [if_true] at hs ⊢
    rcases h with ⟨h2, h3⟩ | ⟨h2, h3, h4, h5⟩
    · omega
    · exact ⟨h2, h3, fun e => by rw [h4, h5] at e; simp at e⟩
  · simp only [if_neg h1] at hs ⊢
    by_cases h2 : s = b
    · subst h2
      simp only [if_true] at hs ⊢
      rcases h with ⟨h2, h3⟩ | ⟨h2, h3, h4, h5⟩
      · omega
      · exact ⟨h3, h2, fun e => by rw [h4, h5] at e; simp at e⟩
    · simp only [if_neg h2] at hs ⊢
      exact ⟨by omega, by omega, fun _ => trivial⟩

def enD : Nat → Int × Int × Int
  | 0 => (7, 13, 14)
  | 1 => (12, 8, 14)
  | _ => (12, 13, 9)
def en1 (n : Nat) := beginR twoS me0 peer0 (reqM 7 [2, 1] 0) n 7 8 9
def en2 (n o : Nat) := beginR (en1 n).1 me0 peer0 (reqM 8 [2, 1] 0) n (enD o).1 (enD o).2.1 (enD o).2.2
def en3 (n o : Nat) := openR (en2 n o).1 me1 [peer1] [1] (en1 n).2.1
def en4 (n o : Nat) := answerR (en3 n o).1 (en3 n o).2.1 9 7 10 11
def en5 (n o : Nat) := finishR (en4 n o).1 me0 (en1 n).2.2.1 (en4 n o).2.1
def en6 (n o : Nat) := finishR (en5 n o).1 me0 (en1 n).2.2.1 (en4 n o).2.1
def en7 (n o : Nat) := finishR (en6 n o).1 me0 (en2 n o).2.2.1 (en4 n o).2.1
def en8 (n o : Nat) := finishR (en7 n o).1 me0 (en1 n).2.2.1 (en1 n).2.1
def en9 (n o : Nat) := finishR (en8 n o).1 me1 (en1 n).2.2.1 (en4 n o).2.1
def enP (n o : Nat) : Prop := (en1 n).2.2.2 = 0 ∧ (en2 n o).2.2.2 = 0 ∧ (en3 n o).2.2 = 0 ∧ (en4 n o).2.2.2 = 0 ∧ (en5 n o).2.2 = 0 ∧ (en6 n o).2.2 = 0 ∧ (en5 n o).2.1 = (en6 n o).2.1 ∧ (en5 n o).2.1.h = (en4 n o).2.2.1.h ∧ (en7 n o).2.2 ≠ 0 ∧ (en7 n o).2.1 = zeroS ∧ (en8 n o).2.2 = 3 ∧ (en9 n o).2.2 ≠ 0
instance {n o : Nat} : Decidable (enP n o) := by unfold enP; infer_instance
set_option maxRecDepth 100000 in
theorem en_some : ∀ o < 3, ∀ n ∈ [1, 2, 48, 5, 300], enP n o := by decide +kernel
/-- What else is fixed of the ones that stand for the others. -/
def enQ (n o : Nat) : Prop := (en1 n).2.1.offer = [2, 1] ∧ (en1 n).2.1.v 4 = 0 ∧ (en1 n).2.2.1.offer = [2, 1] ∧ (en2 n o).2.2.1.offer = [2, 1] ∧ (en3 n o).2.1 ≠ zeroO ∧ (en3 n o).2.1.version = 1
instance {n o : Nat} : Decidable (enQ n o) := by unfold enQ; infer_instance
set_option maxRecDepth 100000 in
theorem en_more : ∀ o < 3, ∀ n ∈ [5, 300], enQ n o := by decide +kernel
theorem en_all {n o : Nat} (ho : o < 3) (hn : n < 256) : enP n o := by
  by_cases hs : n = 1 ∨ n = 2 ∨ n = 48
  · refine en_some o ho n ?_
    rcases hs with rfl | rfl | rfl <;> simp
  obtain ⟨r, hr, hr2⟩ : ∃ r, (r = 5 ∨ r = 300) ∧ (n < 128 ↔ r = 5) := by
    by_cases h : n < 128
    · exact ⟨5, .inl rfl, by simp [h]⟩
    · exact ⟨300, .inr rfl, by simp [h]⟩
  have hn64 : n < 18446744073709551616 := by omega
  have hr64 : r < 18446744073709551616 := by omega
  obtain ⟨ρ, hρ⟩ : ∃ ρ, ρ = swp (put r) (put n) := ⟨_, rfl⟩
  have R : Ren ρ := hρ ▸ swp_ren (put_len10 r).1 (put_len10 n).1 (put_len10 r).2 (put_len10 n).2
  have T : Stamps ρ (swn r n) := hρ ▸ swp_stamps hr64 hn64
  have fs : ρ sough = sough := hρ ▸ swp_fix (sough_put hr64) (sough_put hn64)
  have fp : ∀ c, c < 300 → c ≠ n → c ≠ 5 → ρ (put c) = put c := fun c hc hcn hc5 => hρ ▸ swp_fix (fun e => by have := put_same (by omega) hr64 e; omega) (fun e => hcn (put_same (by omega) hn64 e))
  have f1 : ρ [1] = [1] := fp 1 (by omega) (by omega) (by omega)
  have f48 : ρ [48] = [48] := fp 48 (by omega) (by omega) (by omega)
  have f21 : ρ [2, 1] = [2, 1] := by
    rw [hρ]
    have hne : ∀ c, c < 18446744073709551616 → ([2, 1] : List UInt8) ≠ put c := fun c hc e => by
      have h1 := get_of_put hc
      rw [← e] at h1
      have h2 : get [2, 1] 0 = (2, 1, 0) := by decide +kernel
      rw [h2] at h1
      have := congrArg (fun x => x.2.1) h1
      simp at this
    exact swp_fix (hne r hr64) (hne n hn64)
  have fn : ρ (put r) = put n := by rw [hρ]; unfold swp; simp
  have hc : ∀ c : Nat, c < 128 → c ≠ 1 → c ≠ 2 → ([2, 1] : List UInt8).contains (UInt8.ofNat c) = false := by decide +kernel
  have hv : ∀ s : List UInt8, s.length = 1 ∨ (ρ s).length = 1 → s.length = 1 ∧ (ρ s).length = 1 ∧ (([2, 1] : List UInt8).contains (s.headD 0) = true ∨ ([2, 1] : List UInt8).contains ((ρ s).headD 0) = true → ρ s = s) := by
    rw [hρ]
    refine swp_one ?_
    by_cases h : n < 128
    · obtain rfl := hr2.1 h
      rw [put_one h, put_one (show 5 < 128 by decide)]
      exact .inr ⟨rfl, rfl, by decide, hc n h (by omega) (by omega)⟩
    · have : r = 300 := by
        rcases hr with e | e
        · exact absurd (hr2.2 e) h
        · exact e
      subst this
      exact .inl ⟨put_two (by decide), put_two (by omega)⟩
  have hin : r ∈ [1, 2, 48, 5, 300] := by rcases hr with rfl | rfl <;> simp
  obtain ⟨p1, p2, p3, p4, p5, p6, p7, p8, p9, p10, p11, p12⟩ := en_some o ho r hin
  obtain ⟨g1, g2, g3, g4, g5, g6⟩ := en_more o ho r (by rcases hr with rfl | rfl <;> simp)
  have E1 : en1 n = (sR ρ (en1 r).1, (en1 r).2) := by
    have := beginR_ren R twoS (me := me0) (pr := peer0) (m := reqM 7 [2, 1] 0) (d0 := 7) (d1 := 8) (d2 := 9) fs f21 f48 fn
    rw [sR_two R] at this
    exact this
  have E2 : en2 n o = (sR ρ (en2 r o).1, (en2 r o).2) := by
    unfold en2
    rw [E1]
    exact beginR_ren R (en1 r).1 fs f21 f48 fn
  have e3 := openR_ren R T (en2 r o).1 (me := me1) (peers := [peer1]) (text := [1]) (m := (en1 r).2.1) fs (by rw [g1]; exact f21) (by rw [g2]; exact f48)
  have E3 : (en3 n o).1 = sR ρ (en3 r o).1 ∧ (en3 n o).2.2 = (en3 r o).2.2 ∧ (en3 n o).2.1 = ⟨(en3 r o).2.1.y, (en3 r o).2.1.peer, (en3 r o).2.1.version, swn r n (en3 r o).2.1.stamp, (en3 r o).2.1.e, (en3 r o).2.1.ek, (en3 r o).2.1.pub⟩ := by
    unfold en3
    rw [E1, E2]
    exact ⟨e3.1, e3.2.1, e3.2.2.2 p3 g5⟩
  have E4 : en4 n o = (sR ρ (en4 r o).1, (en4 r o).2) := by
    unfold en4
    rw [E3.1, E3.2.2]
    exact answerR_ren R (en3 r o).1 ⟨rfl, rfl, rfl, rfl, rfl⟩ (by rw [g6]; exact f1)
  have E5 : en5 n o = (sR ρ (en5 r o).1, (en5 r o).2) := by
    unfold en5
    rw [E1, E4]
    exact finishR_ren R (en4 r o).1 (by rw [g3]; exact hv)
  have E6 : en6 n o = (sR ρ (en6 r o).1, (en6 r o).2) := by
    unfold en6
    rw [E1, E4, E5]
    exact finishR_ren R (en5 r o).1 (by rw [g3]; exact hv)
  have E7 : en7 n o = (sR ρ (en7 r o).1, (en7 r o).2) := by
    unfold en7
    rw [E2, E4, E6]
    exact finishR_ren R (en6 r o).1 (by rw [g4]; exact hv)
  have E8 : en8 n o = (sR ρ (en8 r o).1, (en8 r o).2) := by
    unfold en8
    rw [E1, E7]
    exact finishR_ren R (en7 r o).1 (by rw [g3]; exact hv)
  have E9 : en9 n o = (sR ρ (en9 r o).1, (en9 r o).2) := by
    unfold en9
    rw [E1, E4, E8]
    exact finishR_ren R (en8 r o).1 (by rw [g3]; exact hv)
  unfold enP
  rw [E1, E2, E3.2.1, E4, E5, E6, E7, E8, E9]
  exact ⟨p1, p2, p3, p4, p5, p6, p7, p8, p9, p10, p11, p12⟩
end Sough
