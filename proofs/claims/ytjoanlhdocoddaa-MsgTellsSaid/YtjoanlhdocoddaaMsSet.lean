/- The walks of (msg.field).set and offer.Right. -/
import Derived.Test.YtjoanlhdocoddaaMsGet
import Derived.LoopTactic
namespace Go.Proofs.Ytjoanlhdocoddaa
open Go.RowKit Go.Maps Go.ChangeMaps

theorem size_setCell (w : World) (a : Addr) (v : Value) : (w.setCell a v).heap.size = w.heap.size := by simp [World.setCell]
/-- A store into an older block, and new blocks. -/
def SetTo (w : World) (a : Addr) (v : Value) (e : Ending) (w' : World) : Prop := e = .returned (.tuple #[]) ∧ Below w.heap.size (w.setCell a v) w'

set_option maxRecDepth 100000 in
theorem set_num {b : Nat} {f : Sough.Fld} {x : Nat} {old : Value} (w : World) (h3 : f.c ≠ 3) (hc : w.cell? ⟨b, f.c, none⟩ = some old) (hz : w.frozen? ⟨b, f.c, none⟩ = false) (hx : x < 9223372036854775808) :
    Calls Try.prog 42 #[.agg (fldC b f).toArray, .int .u64 x] w (SetTo w ⟨b, f.c, none⟩ (numC f.c x)) := by
  unfold fldC numC
  rw [if_neg h3]
  by_cases hu : Sough.u64cell f.c = true
  · rw [if_pos hu, if_pos hu]
    have hb := World.block_lt_of_cell? w _ hc
    simp only at hb
    have hc' := (((Below.refl w.heap.size w).alloc (Nat.le_refl _) (.cells #[.int .u64 f.lo, .int .u64 f.hi, .pointer (some ⟨b, f.c, none⟩), .pointer none, .pointer none] 60)).cell (p := ⟨b, f.c, none⟩) hb).trans hc
    have hz' := (((Below.refl w.heap.size w).alloc (Nat.le_refl _) (.cells #[.int .u64 f.lo, .int .u64 f.hi, .pointer (some ⟨b, f.c, none⟩), .pointer none, .pointer none] 60)).frozen (p := ⟨b, f.c, none⟩) hb).trans hz
    clear hu
    go_enter Try.func42, Try.ntmps42
    go_wp2_with fail
    go_end0
    exact ⟨rfl, (Below.refl _ _).alloc (Nat.le_of_eq (size_setCell _ _ _).symm) _⟩
  · rw [if_neg hu, if_neg hu]
    have hb := World.block_lt_of_cell? w _ hc
    simp only at hb
    have hc' := (((Below.refl w.heap.size w).alloc (Nat.le_refl _) (.cells #[.int .u64 f.lo, .int .u64 f.hi, .pointer none, .pointer (some ⟨b, f.c, none⟩), .pointer none] 60)).cell (p := ⟨b, f.c, none⟩) hb).trans hc
    have hz' := (((Below.refl w.heap.size w).alloc (Nat.le_refl _) (.cells #[.int .u64 f.lo, .int .u64 f.hi, .pointer none, .pointer (some ⟨b, f.c, none⟩), .pointer none] 60)).frozen (p := ⟨b, f.c, none⟩) hb).trans hz
    clear hu
    go_enter Try.func42, Try.ntmps42
    go_wp2_with fail
    go_end0
    exact ⟨rfl, (Below.refl _ _).alloc (Nat.le_of_eq (size_setCell _ _ _).symm) _⟩

/-- So many bytes of the offer are right; the last one. -/
def OffR (l : List UInt8) (lv iv : Value) : Prop := ∃ k last : Nat, k ≤ l.length ∧ iv = .int .i64 k ∧ lv = .int .i64 last ∧ last ≤ 256 ∧ Sough.offDec 256 l = Sough.offDec last (l.drop k)

set_option maxRecDepth 100000 in
set_option maxHeartbeats 1600000 in
theorem offer_any {s : ByteArray} {l : List UInt8} {b : Bool} (hl : s.data.toList = l) (hb : Sough.offerOk l = b) (w : World) (hs : s.size ≤ maxLen) :
    Calls Try.prog 27 #[.string s] w fun e w' => e = .returned (.bool b) ∧ w = w' := by
  have hsz : s.size = l.length := by rw [← hl]; simp
  have hsm : s.size ≤ 9223372036854775807 := hs
  have HL := Lib.hid hl; have HB := Lib.hid hb; have HSZ := Lib.hid hsz
  clear hl hb hs hsz
  go_enter Try.func27, Try.ntmps27
  go_wp2_with fail
  go_loop [3, 8] (fun lv iv => OffR l lv iv) (fun _ iv => s.size - (intOf iv).toNat)
  case atStart => exact ⟨0, 256, Nat.zero_le _, rfl, rfl, Nat.le_refl _, rfl⟩
  case round =>
    obtain ⟨k, last, hk, rfl, rfl, hlast, ho⟩ := hrel
    by_cases hlt : k < s.size
    · have hkl : k < l.length := by rw [← HSZ.out]; exact hlt
      have hd : l.drop k = l[k] :: l.drop (k + 1) := by rw [List.drop_eq_getElem_cons hkl]
      rw [hd] at ho
      have hby : s[k] = l[k] := by
        have h1 : s[k] = s.data[k] := rfl
        have : s.data.toList[k]'(by rw [HL.out]; exact hkl) = l[k] := by simp only [HL.out]
        rw [h1, ← this, Array.getElem_toList]
      have hc := s[k].toNat_lt
      simp only [Sough.offDec] at ho
      rw [← hby] at ho
      by_cases hg : 1 ≤ s[k].toNat ∧ s[k].toNat < last
      · rw [decide_eq_true hg, Bool.true_and] at ho
        obtain ⟨g1, g2⟩ := hg
        have HO := Lib.hid ho
        clear ho hd hby
        go_wp2_with fail
        go_round
        case rel => exact ⟨k + 1, s[k].toNat, by omega, by go_num, rfl, by omega, HO.out⟩
        case measure => simp [intOf]; omega
      · rw [decide_eq_false hg, Bool.false_and] at ho
        have hbf : b = false := by rw [← HB.out]; unfold Sough.offerOk; rw [ho]; rfl
        subst hbf
        have hg' : s[k].toNat < 1 ∨ last ≤ s[k].toNat := by omega
        clear ho hd hby hg HB
        rcases hg' with g | g
        · go_wp2_with fail
          go_ret
          exact ⟨rfl, rfl⟩
        · by_cases g' : s[k].toNat < 1
          · go_wp2_with fail
            go_ret
            exact ⟨rfl, rfl⟩
          · go_wp2_with fail
            go_ret
            exact ⟨rfl, rfl⟩
    · have hkl : l.drop k = [] := List.drop_of_length_le (by have := HSZ.out; omega)
      rw [hkl] at ho
      have hbv : b = decide (1 ≤ s.size ∧ s.size ≤ 8) := by rw [← HB.out]; unfold Sough.offerOk; rw [ho, HSZ.out]; rfl
      clear ho hkl
      subst hbv
      go_wp2_with fail
      all_goals
        go_ret
        exact ⟨ret_bool (by rw [Bool.eq_iff_iff]; simp; omega), rfl⟩

end Go.Proofs.Ytjoanlhdocoddaa
