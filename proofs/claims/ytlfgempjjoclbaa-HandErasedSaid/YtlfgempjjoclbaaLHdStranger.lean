/- Plain law and walk of HandStranger. (Printed by wip/tools/mkstranger.py.) -/
import Derived.Test.YtlfgempjjoclbaaLHdRen
namespace Sough
theorem beginR_ren {ρ : List UInt8 → List UInt8} (h : Ren ρ) (st : Store) {me : Pair} {pr : Peer} {m : Msg} {n n' : Nat} {d0 d1 d2 : Int} (h1 : ρ sough = sough) (h2 : ρ m.offer = m.offer) (h3 : ρ (slotText (m.v 4)) = slotText (m.v 4)) (h4 : ρ (put n) = put n') :
    beginR (sR ρ st) me pr m n' d0 d1 d2 = (sR ρ (beginR st me pr m n d0 d1 d2).1, (beginR st me pr m n d0 d1 d2).2) := by
  unfold beginR
  rw [beginT_ren h st h1 h2 h3 h4]
  rfl
theorem openR_ren {ρ : List UInt8 → List UInt8} {θ : Nat → Nat} (h : Ren ρ) (hs : Stamps ρ θ) (st : Store) {me : Pair} {peers : List Peer} {text : List UInt8} {m : Msg} (h1 : ρ sough = sough) (h2 : ρ m.offer = m.offer) (h3 : ρ (slotText (m.v 4)) = slotText (m.v 4)) :
    (openR (sR ρ st) me peers text m).1 = sR ρ (openR st me peers text m).1 ∧ (openR (sR ρ st) me peers text m).2.2 = (openR st me peers text m).2.2 ∧ ((openR st me peers text m).2.2 ≠ 0 → (openR (sR ρ st) me peers text m).2.1 = zeroO) ∧
    ((openR st me peers text m).2.2 = 0 → (openR st me peers text m).2.1 ≠ zeroO → (openR (sR ρ st) me peers text m).2.1 = ⟨(openR st me peers text m).2.1.y, (openR st me peers text m).2.1.peer, (openR st me peers text m).2.1.version, θ (openR st me peers text m).2.1.stamp, (openR st me peers text m).2.1.e, (openR st me peers text m).2.1.ek, (openR st me peers text m).2.1.pub⟩) := by
  unfold openR
  rw [openedT_ren h hs st h1 h2 h3]
  generalize openedT st me peers text m = r
  obtain ⟨s, r⟩ := r
  cases r with
  | error e => exact ⟨rfl, rfl, fun _ => rfl, fun _ hn => absurd rfl hn⟩
  | ok o => exact ⟨rfl, rfl, fun hn => absurd rfl hn, fun _ _ => rfl⟩
theorem sR_two {ρ : List UInt8 → List UInt8} (h : Ren ρ) : sR ρ twoS = twoS := by
  have h1 : ∀ t ∈ twoS.l, t.s = [] := by decide +kernel
  have h2 : twoS.l.map (tR ρ) = twoS.l.map id := List.map_congr_left fun t ht => tR_nil h (h1 t ht)
  unfold sR
  rw [h2, List.map_id]
theorem sough_put {n : Nat} (hn : n < 18446744073709551616) : sough ≠ put n := by
  intro e
  have h1 := get_of_put hn
  rw [← e] at h1
  have h2 : get sough 0 = (115, 1, 0) := by decide +kernel
  rw [h2] at h1
  have := congrArg (fun x => x.2.1) h1
  simp [sough] at this
theorem put_len10 (n : Nat) : put n ≠ [] ∧ (put n).length ≤ 1000 := by
  have := put_len n
  refine ⟨fun e => ?_, by omega⟩
  rw [e] at this; simp at this
theorem slot_put (k : Nat) (hk : k < 2) : slotText (k : Int) = put (48 + k) := by
  match k, hk with
  | 0, _ => decide +kernel
  | 1, _ => decide +kernel
def sg1 (k n : Nat) := beginR twoS me0 peer0 (reqM 7 [1] k) n 7 8 9
def sg2 (k n : Nat) := openR (sg1 k n).1 me1 [] [1] (sg1 k n).2.1
def sg3 (k n : Nat) := openR (sg2 k n).1 me1 [peer0] [1] (sg1 k n).2.1
def sg4 (k n : Nat) := openR (sg3 k n).1 me0 [peer0, peer1] [1] (sg1 k n).2.1
def sg5 (k n : Nat) := openR (sg4 k n).1 ⟨1, 4⟩ [peer1] [1] (sg1 k n).2.1
def sg6 (k n : Nat) := openR (sg5 k n).1 me1 [peer0, peer1, peer1] [1] (sg1 k n).2.1
def sgP (k n : Nat) : Prop := (sg1 k n).2.2.2 = 0 ∧ (sg2 k n).2.2 = 5 ∧ (sg3 k n).2.2 = 5 ∧ (sg4 k n).2.2 = 10 ∧ (sg4 k n).2.1 = zeroO ∧ (sg5 k n).2.2 = 9 ∧ (sg5 k n).2.1 = zeroO ∧ (sg6 k n).2.2 = 0 ∧ (sg6 k n).2.1.peer = 1 ∧ (sg6 k n).2.1.stamp = n
instance {k n : Nat} : Decidable (sgP k n) := by unfold sgP; infer_instance
end Sough
namespace Go.Proofs.Ytlfgempjjoclbaa
open Go.RowKit Go.Maps Go.ChangeMaps
end Go.Proofs.Ytlfgempjjoclbaa
