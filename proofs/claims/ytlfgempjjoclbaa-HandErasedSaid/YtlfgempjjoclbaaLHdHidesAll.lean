/- Plain law of HandHides and HandErased at every stamp. No program in sight. -/
import Derived.Test.YtlfgempjjoclbaaLHdHidesPlain
namespace Sough
def hdQ (k n : Nat) : Prop := (hd1 k n).2.1.offer = [1] ∧ ((hd1 k n).2.1.v 4 = 0 ∨ (hd1 k n).2.1.v 4 = 1) ∧ (hd1 k n).2.2.1.offer = [1] ∧ (hd2 k n).2.1 ≠ zeroO ∧ (hd2 k n).2.1.version = 1
instance {k n : Nat} : Decidable (hdQ k n) := by unfold hdQ; infer_instance
set_option maxRecDepth 100000 in
theorem hd_more : ∀ k < 2, ∀ n ∈ [5, 300], hdQ k n := by decide +kernel
theorem knowsB_ren {ρ : List UInt8 → List UInt8} (h : Ren ρ) (st : Store) (known no yes : List Int) (f : Flg) : knowsB (sR ρ st) known f no yes = knowsB st known f no yes := by
  unfold knowsB knownK
  simp only [all_ren h, len_ren, has_ren]
structure Hd (k n : Nat) : Prop where
  ok : hdOk k n
  no : ∀ dh kem, hdH k n dh kem = true
  yes : hdY k n = true
  er : ∀ dh kem, hdE k n dh kem = true
theorem hd_all {k n : Nat} (hk : k < 2) (hn : n < 256) : Hd k n := by
  by_cases hs : n = 1 ∨ n = 48 ∨ n = 49
  · have hin : n ∈ [1, 48, 49, 5, 300] := by rcases hs with rfl | rfl | rfl <;> simp
    exact ⟨hd_ok k hk n hin, hd_h k hk n hin, hd_y k hk n hin, hd_e k hk n hin⟩
  obtain ⟨r, hr, hr2⟩ : ∃ r, (r = 5 ∨ r = 300) ∧ (n < 128 ↔ r = 5) := by
    by_cases h : n < 128
    · exact ⟨5, .inl rfl, by simp [h]⟩
    · exact ⟨300, .inr rfl, by simp [h]⟩
  have hn64 : n < 18446744073709551616 := by omega
  have hr64 : r < 18446744073709551616 := by omega
  obtain ⟨ρ, hρ⟩ : ∃ ρ, ρ = swp (put r) (put n) := ⟨_, rfl⟩
  have R : Ren ρ := hρ ▸ swp_ren (put_len10 r).1 (put_len10 n).1 (put_len10 r).2 (put_len10 n).2
  have T : Stamps ρ (swn r n) := hρ ▸ swp_stamps hr64 hn64
  have fs : ρ sough = sough := hρ ▸ swp_fix (sough_put hr64) (sough_put hn64)
  have fp : ∀ c, c < 300 → c ≠ n → c ≠ 5 → ρ (put c) = put c := fun c hc hcn hc5 => hρ ▸ swp_fix (fun e => by have := put_same (by omega) hr64 e; omega) (fun e => hcn (put_same (by omega) hn64 e))
  have f1 : ρ [1] = [1] := fp 1 (by omega) (by omega) (by omega)
  have fsl : ρ (slotText (k : Int)) = slotText (k : Int) := by rw [slot_put k hk]; exact fp _ (by omega) (by omega) (by omega)
  have fn : ρ (put r) = put n := by rw [hρ]; unfold swp; simp
  have hc : ∀ c : Nat, c < 128 → c ≠ 1 → ([1] : List UInt8).contains (UInt8.ofNat c) = false := by decide +kernel
  have hv : ∀ s : List UInt8, s.length = 1 ∨ (ρ s).length = 1 → s.length = 1 ∧ (ρ s).length = 1 ∧ (([1] : List UInt8).contains (s.headD 0) = true ∨ ([1] : List UInt8).contains ((ρ s).headD 0) = true → ρ s = s) := by
    rw [hρ]
    refine swp_one ?_
    by_cases h : n < 128
    · obtain rfl := hr2.1 h
      rw [put_one h, put_one (show 5 < 128 by decide)]
      exact .inr ⟨rfl, rfl, by decide, hc n h (by omega)⟩
    · have : r = 300 := by
        rcases hr with e | e
        · exact absurd (hr2.2 e) h
        · exact e
      subst this
      exact .inl ⟨put_two (by decide), put_two (by omega)⟩
  have hin : r ∈ [1, 48, 49, 5, 300] := by rcases hr with rfl | rfl <;> simp
  obtain ⟨p1, p2, p3, p4, p5, p6⟩ := hd_ok k hk r hin
  obtain ⟨g1, g2, g3, g4, g5⟩ := hd_more k hk r (by rcases hr with rfl | rfl <;> simp)
  have E1 : hd1 k n = (sR ρ (hd1 k r).1, (hd1 k r).2) := by
    have := beginR_ren R twoS (me := me0) (pr := peer0) (m := reqM 7 [1] k) (d0 := 7) (d1 := 8) (d2 := 9) fs f1 fsl fn
    rw [sR_two R] at this
    exact this
  have fv : ρ (slotText ((hd1 k r).2.1.v 4)) = slotText ((hd1 k r).2.1.v 4) := by
    rcases g2 with e | e
    · rw [e]; exact fp 48 (by omega) (by omega) (by omega)
    · rw [e]; exact fp 49 (by omega) (by omega) (by omega)
  have e3 := openR_ren R T (hd1 k r).1 (me := me1) (peers := [peer1]) (text := [1]) (m := (hd1 k r).2.1) fs (by rw [g1]; exact f1) fv
  have E2 : (hd2 k n).1 = sR ρ (hd2 k r).1 ∧ (hd2 k n).2.2 = (hd2 k r).2.2 ∧ (hd2 k n).2.1 = ⟨(hd2 k r).2.1.y, (hd2 k r).2.1.peer, (hd2 k r).2.1.version, swn r n (hd2 k r).2.1.stamp, (hd2 k r).2.1.e, (hd2 k r).2.1.ek, (hd2 k r).2.1.pub⟩ := by
    unfold hd2
    rw [E1]
    exact ⟨e3.1, e3.2.1, e3.2.2.2 p2 g4⟩
  have E3 : hd3 k n = (sR ρ (hd3 k r).1, (hd3 k r).2) := by
    unfold hd3
    rw [E2.1, E2.2.2]
    exact answerR_ren R (hd2 k r).1 ⟨rfl, rfl, rfl, rfl, rfl⟩ (by rw [g5]; exact f1)
  have E4 : hd4 k n = (sR ρ (hd4 k r).1, (hd4 k r).2) := by
    unfold hd4
    rw [E1, E3]
    exact finishR_ren R (hd3 k r).1 (by rw [g3]; exact hv)
  refine ⟨?_, fun dh kem => ?_, ?_, fun dh kem => ?_⟩
  · unfold hdOk
    rw [E1, E2.2.1, E3, E4]
    exact ⟨p1, p2, p3, p4, p5, p6⟩
  · have := hd_h k hk r hin dh kem
    unfold hdH hdNo at this ⊢
    rw [E1, E3, E4]
    simp only [knowsB_ren R]
    exact this
  · have := hd_y k hk r hin
    unfold hdY at this ⊢
    rw [E1, E3, E4]
    simp only [knowsB_ren R]
    exact this
  · have := hd_e k hk r hin dh kem
    unfold hdE at this ⊢
    rw [E1, E3, E4]
    simp only [knowsB_ren R]
    exact this
theorem er_can {st : Store} {l ys : List Int} {dh km : Bool} (h : (if dh && km then knowsB st l ⟨dh, km⟩ [] ys else knowsB st l ⟨dh, km⟩ ys []) = true) {x : Int} (hx : x ∈ ys) : canK st l ⟨dh, km⟩ x = (dh && km, 0) := by
  by_cases hb : (dh && km) = true
  · rw [if_pos hb] at h
    rw [hb]; exact knowsB_yes h hx
  · rw [if_neg hb] at h
    rw [Bool.not_eq_true] at hb
    rw [hb]; exact knowsB_no h hx
end Sough
