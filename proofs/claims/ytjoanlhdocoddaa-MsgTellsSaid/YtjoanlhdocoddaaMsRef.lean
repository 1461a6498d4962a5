/- The walks of soughref09.Right and of soughref10's small functions. -/
import Derived.Test.YtjoanlhdocoddaaMsTellsPlain
import Derived.Test.YtjoanlhdocoddaaVtText
import Derived.Test.YtjoanlhdocoddaaMsSame
import Derived.Test.YtjoanlhdocoddaaMsSet
import Derived.Test.YtjoanlhdocoddaaTurned
import Derived.Deep.QuietTactic
import Derived.BigQuiet
import Derived.IntWalk
namespace Go.Proofs.Ytjoanlhdocoddaa
open Go.RowKit Go.Maps Go.ChangeMaps

def ROffR (l : List UInt8) (w : World) (iv : Value) (wr : World) : Prop := ∃ k : Nat, 1 ≤ k ∧ k ≤ l.length ∧ iv = .int .i64 k ∧ (∀ i, 1 ≤ i → i < k → Sough.decAt l i = true) ∧ Below w.heap.size w wr

set_option maxRecDepth 100000 in
set_option maxHeartbeats 1600000 in
theorem roffer_any {s : ByteArray} {l : List UInt8} {b : Bool} (hl : s.data.toList = l) (hb : Sough.offerOk l = b) (w : World) (hs : s.size ≤ maxLen) :
    Calls Try.prog 31 #[.string s] w fun e w' => e = .returned (.bool b) ∧ Below w.heap.size w w' := by
  have hsz : s.size = l.length := by rw [← hl]; simp
  have hsm : s.size ≤ 9223372036854775807 := hs
  have hget : ∀ i (h : i < s.size), s[i].toNat = (l.getD i 0).toNat := fun i h => by
    have h1 : s[i] = s.data[i] := rfl
    subst hl
    rw [h1, List.getD_eq_getElem?_getD, List.getElem?_eq_getElem (by simpa using h)]
    simp
  have HG := Lib.hid hget
  have HSZ := Lib.hid hsz
  have hiff := Sough.offerOk_iff (l := l)
  rw [hb] at hiff
  have HB := Lib.hid hiff
  clear hl hb hs hsz hiff hget
  by_cases h1 : s.size < 1 ∨ 8 < s.size
  · have : b = false := by
      cases b
      · rfl
      · have := (HB.out.1 rfl).1; have := HSZ.out; omega
    subst this
    go_enter Try.func31, Try.ntmps31
    rcases h1 with h1 | h1
    · go_wp2_with fail
      go_ret
      exact ⟨rfl, Below.refl _ _⟩
    · have h0 : ¬ s.size < 1 := by omega
      go_wp2_with fail
      go_ret
      exact ⟨rfl, Below.refl _ _⟩
  · have h2 : 1 ≤ s.size := by omega
    have h3 : s.size ≤ 8 := by omega
    have hi : s.size - 1 < s.size := by omega
    have hx' : (s[s.size - 1]'hi).toNat = (l.getD (l.length - 1) 0).toNat := by rw [← HSZ.out]; exact HG.out _ hi
    have h1' : ¬ s.size < 1 := by omega
    have h3' : ¬ 8 < s.size := by omega
    by_cases h0 : (s[s.size - 1]'hi).toNat = 0
    · have : b = false := by
        cases b
        · rfl
        · exact absurd (hx' ▸ h0) (HB.out.1 rfl).2.1
      subst this
      clear hx' HB h1
      go_enter Try.func31, Try.ntmps31
      go_wp2_with fail
      go_ret
      exact ⟨rfl, Below.refl _ _⟩
    · have HX := Lib.hid hx'
      clear hx' h1
      have HXN := Lib.hid h0
      have h0b : (((s[s.size - 1]'hi).toNat : Int) == 0) = false := by simpa using h0
      clear h0
      go_enter Try.func31, Try.ntmps31
      go_wp2_with fail
      clear h0b
      go_loopw [3] (fun iv wr => ROffR l w iv wr) (fun iv _ => s.size - (intOf iv).toNat)
      case atStart => exact ⟨1, Nat.le_refl _, by have := HSZ.out; omega, rfl, fun i h1 h2 => by omega, Below.refl _ _⟩
      case round =>
        obtain ⟨k, hk1, hk, rfl, hd, hbel⟩ := hrel
        have HD := Lib.hid hd
        have HBL := Lib.hid hbel
        clear hd hbel
        by_cases hlt : k < s.size
        · obtain ⟨j, rfl⟩ : ∃ j, k = j + 1 := ⟨k - 1, by omega⟩
          have g1 := HG.out (j + 1) hlt
          have g0 := HG.out j (by omega)
          have G1 := Lib.hid g1; have G0 := Lib.hid g0
          clear g1 g0
          go_wp2_with fail
          have hwr : IntKind.i64.wrap (j : Int) = (j : Int) := IntWalk.i64_in _ (by omega)
          have hj0 : j < s.size := by omega
          have hnn : (0 : Int) ≤ (j : Int) + 1 := by omega
          have htn : ((j : Int) + 1).toNat = j + 1 := by omega
          go_quiet (fail)
          clear hwr
          by_cases hc : s[j].toNat ≤ s[j + 1].toNat
          · have : b = false := by
              cases b
              · rfl
              · have := (HB.out.1 rfl).2.2 (j + 1) (by omega) (by have := HSZ.out; omega)
                unfold Sough.decAt at this
                have := of_decide_eq_true this
                rw [← G1.out, Nat.add_sub_cancel, ← G0.out] at this
                omega
            subst this
            go_wp2_with fail
            go_ret
            exact ⟨rfl, below_drewN HBL.out _⟩
          · have hd1 : Sough.decAt l (j + 1) = true := by
              unfold Sough.decAt
              rw [← G1.out, Nat.add_sub_cancel, ← G0.out]
              exact decide_eq_true (by omega)
            have HD1 := Lib.hid hd1
            clear hd1
            go_wp2_with fail
            go_roundw
            case rel => exact ⟨j + 2, by omega, by have := HSZ.out; omega, by go_num, fun i h1 h2 => by
              by_cases e : i = j + 1
              · rw [e]; exact HD1.out
              · exact HD.out i h1 (by omega), below_drewN HBL.out _⟩
            case measure => simp [intOf]; omega
        · have : b = true := by
            refine HB.out.2 ⟨by have := HSZ.out; omega, by rw [← HX.out]; exact HXN.out, fun i h1 h2 => HD.out i h1 (by have := HSZ.out; omega)⟩
          subst this
          go_wp2_with fail
          go_ret
          exact ⟨rfl, HBL.out⟩

end Go.Proofs.Ytjoanlhdocoddaa
