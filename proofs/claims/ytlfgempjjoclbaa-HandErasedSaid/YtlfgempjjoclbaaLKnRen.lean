/- Plain law: what can be made does not hang on the texts. No program in sight. -/
import Derived.Test.YtlfgempjjoclbaaLKnPlain
import Derived.Test.YtlfgempjjoclbaaLHdRen
namespace Sough
section
variable {ρ : List UInt8 → List UInt8} (h : Ren ρ)
include h
theorem lastOf_ren (st : Store) {p : Term → Bool} (hp : ∀ t, p (tR ρ t) = p t) : ∀ n, lastOf (sR ρ st) p n = lastOf st p n
  | 0 => rfl
  | n + 1 => by
    unfold lastOf
    rw [at_ren h, hp, lastOf_ren st hp n]
theorem pubTo_ren (st : Store) (i a : Nat) : pubTo (sR ρ st) i a = pubTo st i a := lastOf_ren h st (fun _ => rfl) i
theorem kpubTo_ren (st : Store) (i a : Nat) : kpubTo (sR ρ st) i a = kpubTo st i a := lastOf_ren h st (fun _ => rfl) i
theorem boxTo_ren (st : Store) (i : Nat) (a b : Int) : boxTo (sR ρ st) i a b = boxTo st i a b := lastOf_ren h st (fun _ => rfl) i
omit h in
theorem len_ren (st : Store) : (sR ρ st).l.length = st.l.length := by simp [sR]
theorem way_ren (st : Store) (f : Flg) (can : List Bool) (t : Term) : wayK (sR ρ st) f can (tR ρ t) = wayK st f can t := by
  unfold wayK shareK kemK wrapK openK
  simp only [pubTo_ren h, kpubTo_ren h, boxTo_ren h, len_ren]
  rfl
theorem step_ren (st : Store) (f : Flg) (can : List Bool) (i : Nat) : stepK (sR ρ st) f can i = stepK st f can i := by
  unfold stepK
  simp only [at_ren h, way_ren h]
  rfl
theorem round_ren (st : Store) (f : Flg) : ∀ (k i : Nat) (can : List Bool) (more : Bool), roundK (sR ρ st) f k i can more = roundK st f k i can more
  | 0, _, _, _ => rfl
  | k + 1, i, can, more => by
    unfold roundK
    rw [step_ren h, round_ren st f k]
theorem all_ren (st : Store) (f : Flg) : ∀ (n : Nat) (can : List Bool), allK (sR ρ st) f n can = allK st f n can
  | 0, _ => rfl
  | n + 1, can => by
    unfold allK
    rw [len_ren, round_ren h, all_ren st f n]
end
end Sough
