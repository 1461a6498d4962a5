/- An argument that is a slice of parts. -/
import Derived.Test.YtokphknnblpagaaSpFrag
import Derived.Deep.Slices
import Derived.Lib.SmallJoins
import Derived.ProofKit
import Derived.OpenShut
namespace Go.Proofs.Ytokphknnblpagaa
open Go.RowKit Go.ChangeShapes Go.WideShapes Go.Deep

/-- A slice of parts that came in. -/
structure FragArg (w : World) (A : Option Addr) (len cap : Nat) (fs : List Sough.Frag) : Prop where
  hlen : fs.length = len
  hcap : len ≤ cap ∧ cap ≤ maxLen
  hat : 0 < len → ∃ b o, A = some ⟨b, o, none⟩ ∧ FragsAt w b o fs
  hpart : ∀ i, i < len → (Sough.fragAt fs i).part.length ≤ maxLen

theorem cellsFrag : Try.prog.cellsOf 35 = 4 := by kernel_rfl
theorem cellsU64 : Try.prog.cellsOf 32 = 1 := by kernel_rfl
theorem cellsInt : Try.prog.cellsOf 3 = 1 := by kernel_rfl
theorem cellsStr : Try.prog.cellsOf 9 = 1 := by kernel_rfl
instance fragInh : Inhabited Sough.Frag := ⟨Sough.zeroFrag⟩
theorem spot_none {w : World} {a : Addr} {v : Value} (h : w.cell? a = some v) : a.spot = none := by
  unfold World.cell? at h
  split at h
  · split at h
    · cases h
    · rename_i hs; simpa using hs
  · cases h

def FragAtA (w : World) (a : Addr) (i : Nat) (f : Sough.Frag) : Prop :=
  w.cell? (a.add (i * 4)) = some (.int .u64 f.id) ∧ w.cell? (a.add (i * 4 + 1)) = some (.int .i64 f.index) ∧ w.cell? (a.add (i * 4 + 2)) = some (.int .i64 f.count) ∧ w.cell? (a.add (i * 4 + 3)) = some (.string ⟨f.part.toArray⟩) ∧ f.part.length ≤ maxLen

section
variable {H : Type} {enc : TypeId × Value → H} {w : World} {base : Nat} {spare : Nat → Bool} {held : Bool}

theorem open_frags {fuel : Nat} {cs : List Value} {x : DataW H × List MemPlace} (h : DataW.trod enc Try.prog w base spare held fuel 23 cs = some x) :
    ∃ A len cap fs, cs = [.slice A len cap] ∧ FragArg w A len cap fs := by
  rcases open_slice Try.underlying23 h with ⟨hcs, _⟩ | ⟨a, len, cap, m, n, D, Pl, hcs, hb, hl, hm, hmm, hx, hi⟩
  · exact ⟨none, 0, 0, [], hcs, ⟨rfl, ⟨Nat.le_refl _, Nat.zero_le _⟩, fun h => absurd h (by omega), fun i hi => absurd hi (by omega)⟩⟩
  · have hlm : len ≤ m := by rw [hmm]; split <;> omega
    obtain ⟨F, hF⟩ := choose_lt (α := Sough.Frag) (p := fun i f => FragAtA w a i f) (n := len) (fun i hil => by
      obtain ⟨cs', h1, h2⟩ := hi i (by omega)
      rw [cellsFrag] at h1
      obtain ⟨_, hlen, hat⟩ := World.cells?_some h1
      obtain ⟨y0, y1, y2, y3, n', _, _, z0, z1, z2, z3⟩ := Joins.trod_struct4 Try.underlying35 h2
      match cs', hlen with
      | [c0, c1, c2, c3], _ =>
        obtain ⟨i0, e0, _, q0⟩ := DataW.trod_int Try.underlying32 z0
        obtain ⟨i1, e1, _, _⟩ := DataW.trod_int Try.underlying3 z1
        obtain ⟨i2, e2, _, _⟩ := DataW.trod_int Try.underlying3 z2
        obtain ⟨s3, e3, _, q3⟩ := DataW.trod_string Try.underlying9 z3
        simp [cellsU64] at e0
        simp [cellsInt] at e1 e2
        simp [cellsStr] at e3
        subst e0 e1 e2 e3
        obtain ⟨m0, rfl, _⟩ := wf_u64 q0
        obtain ⟨l, rfl, hl3⟩ := list_of s3
        have a0 := hat 0 (by omega)
        have a1 := hat 1 (by omega)
        have a2 := hat 2 (by omega)
        have a3 := hat 3 (by omega)
        rw [add_add] at a0 a1 a2 a3
        exact ⟨⟨m0, i1, i2, l⟩, a0, a1, a2, a3, by rw [← hl3]; exact q3⟩)
    refine ⟨some a, len, cap, (List.range len).map F, hcs, ⟨by simp, ⟨hl, hm⟩, fun h0 => ?_, fun i hil => ?_⟩⟩
    · have hs := spot_none (hF 0 h0).1
      obtain ⟨b, o, sp⟩ := a
      have e : (⟨b, o, sp⟩ : Addr).add (0 * 4) = ⟨b, o, sp⟩ := by simp [Addr.add]
      rw [e] at hs
      simp only at hs
      subst hs
      refine ⟨b, o, rfl, fun i hil => ?_⟩
      rw [List.length_map, List.length_range] at hil
      have hf := hF i hil
      have ef : Sough.fragAt ((List.range len).map F) i = F i := by simp [Sough.fragAt, List.getD_eq_getElem?_getD, hil]
      rw [ef]
      unfold FragAtA at hf
      simp only [add_plain] at hf
      exact ⟨hf.1, hf.2.1, hf.2.2.1, hf.2.2.2.1⟩
    · have ef : Sough.fragAt ((List.range len).map F) i = F i := by simp [Sough.fragAt, List.getD_eq_getElem?_getD, hil]
      rw [ef]
      exact (hF i hil).2.2.2.2
theorem trod_arr2 {P : Program} {t e : TypeId} {fuel : Nat} {c0 c1 : Value} {x : DataW H × List MemPlace} (ht : P.underlying t = some (.array 2 e)) (hce : P.cellsOf e = 1) (h : DataW.trod enc P w base spare held fuel t [c0, c1] = some x) :
    ∃ y0 y1 n, DataW.trod enc P w base spare held n e [c0] = some y0 ∧ DataW.trod enc P w base spare held n e [c1] = some y1 := by
  obtain ⟨xs, m, rfl, hx, hl, hlen, hi⟩ := DataW.trod_array ht h
  match xs, hlen with
  | [y0, y1], _ =>
    have h0 := hi 0 (by omega)
    have h1 := hi 1 (by omega)
    simp [hce] at h0 h1
    exact ⟨y0, y1, m, h0, h1⟩
end

end Go.Proofs.Ytokphknnblpagaa
